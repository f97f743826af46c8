/- A part of the proof of StoreGoesCardSaid. -/
import Derived.Test.YtadildidlcbbkaaGreatDoorK05
import Derived.Shelf.LaysM
import Derived.Shelf.Strconv.Itoa4
import Derived.Shelf.LaysC
import Derived.Shelf.Strconv.ParseIntPublic10
import Derived.Test.YtadildidlcbbkaaGreatDoorProg
import Derived.Lib.AppendIntMem
import Derived.Tactics
import Derived.Tactics2
import Derived.Defers
import Derived.Recover
set_option linter.all false
namespace Go.Proofs.YtadildidlcbbkaaGreatDoor
open Go Go.GK Go.PL Go.RowKit IntKind Go.Proofs.Tryz
set_option maxRecDepth 100000
abbrev Ea(mk:Int)(S:List gY):Heap:=[(0,.hZ 159 [gi mk,.o 2]),(2,.row 105 2 (S.map se))]
def Au{f:FuncId}{args:List GV}{σ:Heap}{mk:Int}{S:List gY}{G:GV}(hG:iy 0 G=true)(h:Hf pg f 2 args σ (λg σ' _=>g=G/\∃id:Nat,(id=1\/id=2\/id=3)/\gW σ' 0=some (.hZ 159 [gi mk,.o id])/\gW σ' id=some (.row 105 2 (S.map se)))):
  Hf pg f 2 args σ (λg σ' n=>g=G/\σ'=Ea mk S/\n=3):=by
 refine Hf.jK h ?_;rintro g σ' n ⟨rfl,id,hid,h0,h1⟩;have hg:∀r:Nat->Nat,g=jW r g:=λr=>(o4 r hG).symm;rcases hid with rfl|rfl|rfl
 ·refine⟨r1 2 1,g,Ea mk S,3,A0z,hg _,⟨h0,h1,trivial⟩,?_⟩;rw[r_ 3 hG];rfl
 ·refine⟨r1 2 2,g,Ea mk S,3,A0z,hg _,⟨h0,h1,trivial⟩,?_⟩;rw[r_ 3 hG];rfl
 refine⟨r1 2 3,g,Ea mk S,3,A0z,hg _,⟨h0,h1,trivial⟩,?_⟩;rw[r_ 3 hG];rfl
def Ae(e:Int×Int):GV:=if e.1=0 then .v .nilIface else if e.2<0 then .ifc 54 (gi e.1) else .ifc 137 (.r [gi e.1,gi e.2])
def AG(e:Int×Int):iy 0 (Ae e)=true:=by
 unfold Ae;split
 ·rfl
 split<;>rfl
theorem CA(mk:Int)(S l:List gY)(hS:lI S)(hl:l.length≤100000)(hx:∀x∈l,Sh x.labels∧x.samples.length≤100000∧x.labels.length≤100000):
  Hf pg 67 2 [.p 0 0,jn l] (HD mk S) (fun g σ n=>g=Ae (jb mk S l).1∧σ=Ea mk (jb mk S l).2∧n=3):=by
 refine Au (AG _) (Hf.of gV func67 rfl ntmps67 rfl results67 call67 fun H0 S0 w0 h0 g0=>?_);have hll:(l.map se).length=l.length:=aA
 refine JK.iT (α:=Nat) (β:=Unit) (fun i=>⟨[(0,.p 0 0),(1,jn l),(5,gi (ir (l.take i))),(14,jn l),(15,gi (l.map se).length),(16,gi i)],HD mk S,2⟩) (fun i=>i≤l.length∧ir (l.take i)≤40) (fun i=>l.length-i)
  (fun _=>⟨[(0,.p 0 0),(1,jn l)],HD mk S,2⟩) (fun _=>ir l≤40) 0 id ?_ ⟨aQ _,by simp[ir]⟩ ?_ ?_
 ·exact⟨⟨rfl,rfl,rfl,rfl,rfl,rfl,trivial⟩,⟨rfl,rfl,trivial⟩,rfl⟩
 ·rintro i ⟨hi,ht⟩;refine V ?_;by_cases hlt:i<l.length
  ·have hst:=F6 l i hlt;have hle:=GN l (i+1);have hxs:=hx l[i] (aR hlt);have hsl:(l[i].samples.map sm).length=l[i].samples.length:=aA
   refine p1 (ix (h:=?_)) aj;by_cases h40:40<ir (l.take (i+1))
   ·refine p1 ?_ (decide_eq_true (by rw[ic (by split<;>omega) (by split<;>omega)];split<;>omega));have e:jb mk S l=((4, -1),S):=by unfold jb;rw[if_pos az]
    rw[e];exact⟨rfl,1,.inl rfl,rfl,rfl⟩
   ·exact p2 ⟨i+1,id,⟨⟨rfl,rfl,(congrArg (fun i=>some (gi i)) (by rw[ic (by split<;>omega) (by split<;>omega)];split<;>omega)),rfl,rfl,h_ az,trivial⟩,⟨rfl,rfl,trivial⟩,rfl⟩,⟨hlt,az⟩,m8⟩ (decide_eq_false (by rw[ic (by split<;>omega) (by split<;>omega)];split<;>omega))
  ·refine p2 ?_ ai;obtain rfl:i=l.length:=az
   rw[aT]at ht;exact⟨(),id,⟨⟨rfl,rfl,trivial⟩,⟨rfl,rfl,trivial⟩,rfl⟩,ht⟩
 ·rintro _ ht;refine V (ig (Kb (S.map se) (by have:=hS.len;simp;omega)) (fun _=>1) rfl rfl ⟨rfl,trivial⟩ rfl (fun _ _=>(by decide:1<2)) ?_);rintro _ _ _ ⟨rfl,rfl,rfl⟩;have hH:jb mk S l=match lF mk S l 0 with|none=>((0, -1),l.foldl jV S)|some (e,i)=>((e,(i:Int)),S):=by unfold jb;rw[if_neg az];rfl
  refine JK.loop (α:=Nat) (fun i=>⟨[(0,.p 0 0),(8,.o 2),(35,jn l),(36,gi (l.map se).length),(37,gi i)],[(0,.hZ 159 [gi mk,.o 3]),(3,.row 105 2 (((l.take i).foldl jV S).map se)),(2,.row 105 2 (S.map se))],4⟩)
   (fun i=>i≤l.length∧lI ((l.take i).foldl jV S)∧lF mk S l 0=lF mk ((l.take i).foldl jV S) (l.drop i) i) (fun i=>l.length-i) 0 (r1 3 1) ?_ ⟨aQ _,hS,rfl⟩ ?_
  ·exact⟨⟨rfl,rfl,rfl,rfl,rfl,trivial⟩,⟨rfl,rfl,rfl,trivial⟩,rfl⟩
  ·rintro i ⟨hi,hA,hT⟩;refine V ?_;by_cases hlt:i<l.length
   ·have hxs:=hx l[i] (aR hlt);have hat:=R3 hlt hT;have hfo:(l.take (i+1)).foldl jV S=jV ((l.take i).foldl jV S) l[i]:=by rw[a6 hlt,bN];rfl
    generalize (l.take i).foldl jV S=A at hA hT hat hfo⊢;refine p1 (ix (h:=?_)) aj;have hlA:=hA.len;have hsl:(l[i].samples.map sm).length=l[i].samples.length:=aA
    have hr:=LX mk A l[i] hA hxs.1 az;by_cases he:mi mk A l[i]=0
    ·rw[he]at hr;refine ig hr (rr 0 3) rfl rfl ⟨rfl,rfl,trivial⟩ rfl av ?_;rintro _ _ _ ⟨rfl,rfl,rfl⟩;refine p2 ?_ rfl;cases ha:mJ l[i].labels A with
     |none=>
      refine sw (FI mk A l[i].labels false hA.ris az (by rw[ha];rfl)) (rr 0 3) rfl rfl ⟨rfl,rfl,trivial⟩ rfl av ?_;rintro _ _ _ ⟨rfl,rfl,rfl⟩;refine sI 4 rfl rfl ?_;have hcl:=nX l[i].labels az;have hpl:=Aj l[i].labels A;have hins:=NN (A.map se) [om l[i].labels,.v (.slice none 0 0)] (i_ l[i].labels A) (by simpa using hpl) aq;refine JK.pb [0,3] ⟨[(0,.p 0 0),(8,.o 2),(10,.r (se l[i])),(12,gi (i_ l[i].labels A)),(35,jn l),(36,gi (l.map se).length),(37,gi i)],[(0,.hZ 159 [gi mk,.o 3]),(3,.row 105 2 ((A.map se).take (i_ l[i].labels A)++[[om l[i].labels,.v (.slice none 0 0)]]++(A.map se).drop (i_ l[i].labels A))),(2,.row 105 2 (S.map se))],4⟩ gV ?_ (fun hk=>?_)
      ·have hcc:=EG [none,some l[i].samples] aA (by simp[qb];omega);have hfl:(qb [none,some l[i].samples]).flatten=l[i].samples:=by simp[qb]
       rw[hfl]at hcc;have hRl:((A.map se).take (i_ l[i].labels A)++[[om l[i].labels,.v (.slice none 0 0)]]++(A.map se).drop (i_ l[i].labels A)).length=A.length+1:=aq
       have hRi:((A.map se).take (i_ l[i].labels A)++[[om l[i].labels,.v (.slice none 0 0)]]++(A.map se).drop (i_ l[i].labels A))[i_ l[i].labels A]? =some [om l[i].labels,.v (.slice none 0 0)]:=by
        rw[aS,aU aq];simp[cq hpl]
       have hRs:((A.map se).take (i_ l[i].labels A)++[[om l[i].labels,.v (.slice none 0 0)]]++(A.map se).drop (i_ l[i].labels A)).set (i_ l[i].labels A) [om l[i].labels,rL l[i].samples]=(jV A l[i]).map se:=by
        rw[AT ha,aS,List.set_append_right _ _ aq];simp[cq hpl]
       generalize (A.map se).take (i_ l[i].labels A)++[[om l[i].labels,.v (.slice none 0 0)]]++(A.map se).drop (i_ l[i].labels A)=R at hRl hRi hRs⊢;refine iU [3] false (tk [0,1,2,3,4,5,6,7,8,9,10,11,13,14]++al [12,15]) au ⟨az,az,⟨_,hRi,(ka 16 true (tk [17,18]++al [19]) hcc (r1 0 4) rfl rfl rfl ⟨rfl,trivial⟩ rfl (tw rfl) au ?_)⟩⟩;rintro _ _ _ ⟨rfl,rfl,rfl⟩;refine⟨az,az,⟨_,hRi,(V ⟨i+1,id,⟨⟨rfl,rfl,rfl,rfl,h_ az,trivial⟩,⟨rfl,?_,rfl,trivial⟩,rfl⟩,⟨hlt,by rw[hfo];exact By hA he,hat.1 he⟩,m8⟩)⟩⟩;rw[hfo,←hRs];rfl
      ·refine RA.run (cx:=⟨pg,_,_,_,_,_,_,_⟩) gV au ak (tk [0,1,2,3,5,6,7]) (e:=false) au (RA.both 4 8 (iV au) (iY.read 4 gV rfl rfl ?_) (iY.rt 8 hcl rfl rfl rfl ?_))
       ·refine kE 8 false (al [9,10]) hcl rfl rfl au (ka 11 false (tk [12,13]++al [14]) hins (rr 3 5) rfl rfl rfl ⟨rfl,rfl,trivial⟩ rfl av au ?_);rintro _ _ _ ⟨rfl,rfl,rfl⟩;refine RA.kD (r1 3 6) au hk ⟨⟨m6,m6,m6,m6,m6,m6,m6,trivial⟩,⟨m6,m6,m6,trivial⟩,m6⟩
       ·refine RA.both 4 9 (iV au) (iY.read 4 gV rfl rfl ?_) (iY.mem 9 gV rfl rfl rfl ?_)
        ·refine RA.run (cx:=⟨pg,_,_,_,_,_,_,_⟩) gV au ak (al [9,10]) (e:=false) au (ka 11 false (tk [12,13]++al [14]) hins (rr 3 5) rfl rfl rfl ⟨rfl,rfl,trivial⟩ rfl av au ?_);rintro _ _ _ ⟨rfl,rfl,rfl⟩;refine RA.kD (r1 3 6) au hk ⟨⟨m6,m6,m6,m6,m6,m6,m6,trivial⟩,⟨m6,m6,m6,trivial⟩,m6⟩
        ·refine RA.both 4 10 (iV au) (iY.read 4 gV rfl rfl ?_) (iY.mem 10 gV rfl rfl rfl ?_)
         ·refine RA.run (cx:=⟨pg,_,_,_,_,_,_,_⟩) gV au ak (al [10]) (e:=false) au (ka 11 false (tk [12,13]++al [14]) hins (rr 3 5) rfl rfl rfl ⟨rfl,rfl,trivial⟩ rfl av au ?_);rintro _ _ _ ⟨rfl,rfl,rfl⟩;refine RA.kD (r1 3 6) au hk ⟨⟨m6,m6,m6,m6,m6,m6,m6,trivial⟩,⟨m6,m6,m6,trivial⟩,m6⟩
         ·refine RA.run (cx:=⟨pg,_,_,_,_,_,_,_⟩) gV au ak (al [4]) (e:=false) au (ka 11 false (tk [12,13]++al [14]) hins (rr 3 5) rfl rfl rfl ⟨rfl,rfl,trivial⟩ rfl av au ?_);rintro _ _ _ ⟨rfl,rfl,rfl⟩;refine RA.kD (r1 3 6) au hk ⟨⟨m6,m6,m6,m6,m6,m6,m6,trivial⟩,⟨m6,m6,m6,trivial⟩,m6⟩
     |some y=>
      refine sw (FI mk A l[i].labels true hA.ris az (by rw[ha];rfl)) (rr 0 3) rfl rfl ⟨rfl,rfl,trivial⟩ rfl av ?_;rintro _ _ _ ⟨rfl,rfl,rfl⟩;refine sI 4 rfl rfl ?_;obtain⟨hn,e1,e2⟩:=u_ ha;have hyl:=(ja _).1 (hA.each y (e1 ▸ aR hn)).2.1 |>.2;have hcc:=EG [some y.samples,some l[i].samples] aA (by simp[qb];omega);have hfl:(qb [some y.samples,some l[i].samples]).flatten=y.samples++l[i].samples:=by simp[qb]
      rw[hfl]at hcc;have hRl:(A.map se).length=A.length:=aA
      have hRi:(A.map se)[i_ l[i].labels A]? =some (se y):=by simp[hn,e1]
      have hlb:y.labels=l[i].labels:=(jo.eq0 _ _).1 e2;have hRs:(A.map se).set (i_ l[i].labels A) [om y.labels,rL (y.samples++l[i].samples)]=(jV A l[i]).map se:=by
       rw[yf ha,fM,hlb]
      refine iU [3] false (tk [0,1,2,3,4,5,6,7,8,9,10,11,13,14]++al [12,15]) au ⟨az,az,⟨_,hRi,(ka 16 true (tk [17,18]++al [19]) hcc (r1 0 5) rfl rfl rfl ⟨rfl,trivial⟩ rfl (tw rfl) au ?_)⟩⟩;rintro _ _ _ ⟨rfl,rfl,rfl⟩;refine⟨az,az,⟨_,hRi,(V ⟨i+1,id,⟨⟨rfl,rfl,rfl,rfl,h_ az,trivial⟩,⟨rfl,?_,rfl,trivial⟩,rfl⟩,⟨hlt,by rw[hfo];exact By hA he,hat.1 he⟩,m8⟩)⟩⟩;rw[hfo,←hRs];rfl
    ·refine sw hr (rr 0 3) rfl rfl ⟨rfl,rfl,trivial⟩ rfl av ?_;rintro _ _ _ ⟨rfl,rfl,rfl⟩;rw[hat.2 he]at hH;have hrg:=NW mk A l[i];rw[hH];refine VM 22 (p1 (sI 5 rfl rfl ⟨?_,2,.inr (.inl rfl),rfl,rfl⟩) (bne_iff_ne.2 he));unfold Ae;rw[if_neg he,if_neg (m8)];rfl
   ·refine p2 ?_ ai;obtain rfl:i=l.length:=az
    rw[Px hT]at hH;rw[hH,aT];exact V ⟨rfl,3,.inr (.inr rfl),rfl,rfl⟩
def Qg{α:Type}(p:α->Bool)(l:List α)(j:Nat)(h:j<l.length):(l.take (j+1)).filter p=(l.take j).filter p++if p l[j]=true then [l[j]] else []:=by
 rw[a6 h,cH,bV];rfl
theorem I7(mk:Int)(S:List gY)(f:FuncId)(caps:List GV)(hcaps:im 0 caps=true)(h:nR)(hf:∀x∈S,∀s:Sm,Rt pg f (om x.labels:: .agg (sm s)::caps) (.b (h x.labels s.time)))(hl:S.length≤1000000)(hs:∀x∈S,x.samples.length≤1000000):
  Hf pg 93 2 [.p 0 0,.fn (.func f) [] caps] (HD mk S) (fun g σ n=>g=jn (gX (mN h) S)∧σ=Ea mk (gX h S)∧n=3):=by
 have hr:∀r:Nat→Nat,j4 r caps=caps:=fun r=>qn r caps hcaps;have hfr:∀id sz rows,pd id sz rows caps=caps:=fun id sz rows=>rS id sz rows caps hcaps;have hcapU:=fun n=>td n caps hcaps;have hll:(S.map se).length=S.length:=by simp
 refine Au rfl (Hf.of gV func93 rfl ntmps93 rfl results93 call93 fun H0 S0 w0 h0 g0=>?_);refine JK.kx 5 105 2 rfl ?_;refine JK.kx 6 105 2 rfl ?_;refine JK.iT (α:=Nat) (β:=Unit) (fun i=>⟨[(0,.p 0 0),(1,.fn (.func f) [] caps),(5,.o 2),(6,.o 3),(16,.o 1),(17,gi (S.map se).length),(18,gi i)],[(0,.hZ 159 [gi mk,.o 1]),(1,.row 105 2 (S.map se)),(2,.row 105 2 ((gX h (S.take i)).map se)),(3,.row 105 2 ((gX (mN h) (S.take i)).map se))],4⟩) (fun i=>i≤S.length) (fun i=>S.length-i)
  (fun _=>⟨[(0,.p 0 0),(5,.o 2),(6,.o 3)],[(0,.hZ 159 [gi mk,.o 1]),(1,.row 105 2 (S.map se)),(2,.row 105 2 ((gX h S).map se)),(3,.row 105 2 ((gX (mN h) S).map se))],4⟩) (fun _=>True) 0 id ?_ (aQ _) ?_ ?_
 ·exact⟨⟨rfl,by simp only[jW,j4,hr];rfl,rfl,rfl,rfl,rfl,rfl,trivial⟩,⟨rfl,rfl,rfl,rfl,trivial⟩,by simp[jt,iy,im,hcapU,iL,jm,iv,iu,jf,je];try decide⟩
 ·rintro i hi;replace hi:i≤S.length:=hi;refine V ?_;by_cases hlt:i<S.length
  ·have hx:=hs S[i] (aR hlt);have hfi:=hf S[i] (aR hlt);refine p1 ?_ aj;refine⟨by omega,by omega,?_⟩;refine⟨se S[i],by simp[hlt],?_⟩;refine JK.kx 9 109 2 rfl ?_;refine JK.kx 10 109 2 rfl ?_;have hsl:(S[i].samples.map sm).length=S[i].samples.length:=by simp
   refine JK.iT (α:=Nat) (β:=Unit) (fun j=>⟨[(0,.p 0 0),(1,.fn (.func f) [] caps),(5,.o 2),(6,.o 3),(8,.p 4 0),(9,.o 5),(10,.o 6),(16,.o 1),(17,gi (S.map se).length),(18,gi i),(23,rL S[i].samples),(24,gi (S[i].samples.map sm).length),(25,gi j)],
     [(0,.hZ 159 [gi mk,.o 1]),(1,.row 105 2 (S.map se)),(2,.row 105 2 ((gX h (S.take i)).map se)),(3,.row 105 2 ((gX (mN h) (S.take i)).map se)),(4,.hZ 105 (se S[i])),(5,.row 109 2 (((S[i].samples.take j).filter fun s=> !h S[i].labels s.time).map sm)),(6,.row 109 2 (((S[i].samples.take j).filter fun s=>h S[i].labels s.time).map sm))],7⟩) (fun j=>j≤S[i].samples.length) (fun j=>S[i].samples.length-j)
    (fun _=>⟨[(0,.p 0 0),(1,.fn (.func f) [] caps),(5,.o 2),(6,.o 3),(8,.p 4 0),(9,.o 5),(10,.o 6),(16,.o 1),(17,gi (S.map se).length),(18,gi i)],
     [(0,.hZ 159 [gi mk,.o 1]),(1,.row 105 2 (S.map se)),(2,.row 105 2 ((gX h (S.take i)).map se)),(3,.row 105 2 ((gX (mN h) (S.take i)).map se)),(4,.hZ 105 (se S[i])),(5,.row 109 2 ((S[i].samples.filter fun s=> !h S[i].labels s.time).map sm)),(6,.row 109 2 ((S[i].samples.filter fun s=>h S[i].labels s.time).map sm))],7⟩) (fun _=>True) 0 id ?_ (aQ _) ?_ ?_
   ·exact⟨⟨rfl,by simp only[jW,j4,hr];rfl,rfl,rfl,rfl,rfl,rfl,rfl,rfl,rfl,rfl,rfl,rfl,trivial⟩,⟨rfl,rfl,rfl,rfl,rfl,rfl,rfl,trivial⟩,by simp[jt,iy,im,hcapU,iL,jm,iv,iu,jf,je];try decide⟩
   ·rintro j hj;replace hj:j≤S[i].samples.length:=hj;refine V ?_;by_cases hjl:j<S[i].samples.length
    ·have hy:=Qg (fun s:Sm=>h S[i].labels s.time) S[i].samples j hjl;have hn:=Qg (fun s:Sm=> !h S[i].labels s.time) S[i].samples j hjl;have ly:((S[i].samples.take j).filter fun s=>h S[i].labels s.time).length≤j:=bE (bZ _ _) aq;have ln:((S[i].samples.take j).filter fun s=> !h S[i].labels s.time).length≤j:=bE (bZ _ _) aq;refine p1 ?_ aj;refine ix (h:=?_);have hc:=hfi S[i].samples[j];rcases tf (h S[i].labels S[i].samples[j].time) with hb|hb
     ·refine GO (hc.bt hb) rfl ?_ (by simp[im,iy,hcaps]);refine⟨by simp only[aD,aB,aM];omega,?_⟩;refine⟨j+1,fun k=>bif Nat.beq k 6 then 9 else k,⟨⟨rfl,by simp only[jW,j4,hr];rfl,rfl,rfl,rfl,rfl,rfl,rfl,rfl,rfl,rfl,rfl,h_ az,trivial⟩,⟨rfl,rfl,rfl,rfl,rfl,?_,?_,trivial⟩,by simp[jt,iy,im,hcapU,iL,jm,iv,iu,jf,je];try decide⟩,hjl,by show S[i].samples.length- (j+1)<S[i].samples.length-j;omega⟩
      ·rw[hn,if_neg (by rw[hb];decide),aZ];rfl
      ·rw[hy,if_pos hb,aP];rfl
     ·refine GO (hc.bt hb) rfl ?_ (by simp[im,iy,hcaps]);refine⟨by simp only[aD,aB,aM];omega,?_⟩;refine⟨j+1,fun k=>bif Nat.beq k 5 then 9 else k,⟨⟨rfl,by simp only[jW,j4,hr];rfl,rfl,rfl,rfl,rfl,rfl,rfl,rfl,rfl,rfl,rfl,h_ az,trivial⟩,⟨rfl,rfl,rfl,rfl,rfl,?_,?_,trivial⟩,by simp[jt,iy,im,hcapU,iL,jm,iv,iu,jf,je];try decide⟩,hjl,by show S[i].samples.length- (j+1)<S[i].samples.length-j;omega⟩
      ·rw[hn,if_pos (by rw[hb];rfl),aP];rfl
      ·rw[hy,if_neg (by rw[hb];decide),aZ];rfl
    ·refine p2 ?_ ai;obtain rfl:j=S[i].samples.length:=by omega
     rw[aT];exact⟨(),id,⟨⟨rfl,by simp only[jW,j4,hr];rfl,rfl,rfl,rfl,rfl,rfl,rfl,rfl,rfl,trivial⟩,⟨rfl,rfl,rfl,rfl,rfl,rfl,rfl,trivial⟩,by simp[jt,iy,im,hcapU,iL,jm,iv,iu,jf,je];try decide⟩,trivial⟩
   ·rintro _ _;refine JK.freeze 5 rfl ?_;refine ot 6 rfl ?_;have hstY:=Dj (mN h) S i hlt;have hstN:=Dj h S i hlt;have lY:(gX (mN h) (S.take i)).length≤S.length:=bE (qv _ _) aq;have lN:(gX h (S.take i)).length≤S.length:=bE (qv _ _) aq;have hyes:jZ (mN h) S[i]=S[i].samples.filter fun s=>h S[i].labels s.time:=by
     unfold jZ mN;simp only[Bool.not_not]
    cases hn:S[i].samples.filter fun s=> !h S[i].labels s.time with
    |nil=>
     refine p2 ?_ (decide_eq_false aA);cases hy:S[i].samples.filter fun s=>h S[i].labels s.time with
     |nil=>
      refine p2 ?_ (decide_eq_false aA);refine⟨i+1,id,⟨⟨rfl,by simp only[jW,j4,hr];exact congrArg (fun c=>some (GV.fn (.func f) [] c)) ((congrArg (pd _ _ _) (hfr _ _ _)).trans (hfr _ _ _)),rfl,rfl,rfl,rfl,h_ az,trivial⟩,⟨rfl,rfl,?_,?_,trivial⟩,by simp[jt,iy,im,hcapU,iL,jm,iv,iu,jf,je];try decide⟩,hlt,by show S.length- (i+1)<S.length-i;omega⟩
      ·rw[hstN,iW _ hn,show gX h []=[] from rfl,aZ];rfl
      ·rw[hstY,iW _ (hyes.trans hy),show gX (mN h) []=[] from rfl,aZ];rfl
     |cons y r=>
      refine p1 ?_ (decide_eq_true (by rw[aD,aB];omega));refine⟨by simp only[aD,aB,aM];omega,?_⟩;refine⟨i+1,(fun k=>bif Nat.beq k 3 then 8 else k),⟨⟨rfl,by simp only[jW,j4,hr];exact congrArg (fun c=>some (GV.fn (.func f) [] c)) ((congrArg (pd _ _ _) (hfr _ _ _)).trans (hfr _ _ _)),rfl,rfl,rfl,rfl,h_ az,trivial⟩,⟨rfl,rfl,?_,?_,trivial⟩,by simp[jt,iy,im,hcapU,iL,jm,iv,iu,jf,je];try decide⟩,hlt,by show S.length- (i+1)<S.length-i;omega⟩
      ·rw[hstN,iW _ hn,show gX h []=[] from rfl,aZ];rfl
      ·rw[hstY,iK _ (hyes.trans hy),aP];rfl
    |cons z q=>
     refine p1 ?_ (decide_eq_true (by rw[aD,aB];omega));refine⟨by simp only[aD,aB,aM];omega,?_⟩;cases hy:S[i].samples.filter fun s=>h S[i].labels s.time with
     |nil=>
      refine p2 ?_ (decide_eq_false aA);refine⟨i+1,(fun k=>bif Nat.beq k 2 then 8 else k),⟨⟨rfl,by simp only[jW,j4,hr];exact congrArg (fun c=>some (GV.fn (.func f) [] c)) ((congrArg (pd _ _ _) (hfr _ _ _)).trans (hfr _ _ _)),rfl,rfl,rfl,rfl,h_ az,trivial⟩,⟨rfl,rfl,?_,?_,trivial⟩,by simp[jt,iy,im,hcapU,iL,jm,iv,iu,jf,je];try decide⟩,hlt,by show S.length- (i+1)<S.length-i;omega⟩
      ·rw[hstN,iK _ hn,aP];rfl
      ·rw[hstY,iW _ (hyes.trans hy),show gX (mN h) []=[] from rfl,aZ];rfl
     |cons y r=>
      refine p1 ?_ (decide_eq_true (by rw[aD,aB];omega));refine⟨by simp only[aD,aB,aM];omega,?_⟩;refine⟨i+1,(fun k=>bif Nat.beq k 2 then 8 else bif Nat.beq k 3 then 10 else k),⟨⟨rfl,by simp only[jW,j4,hr];exact congrArg (fun c=>some (GV.fn (.func f) [] c)) ((congrArg (pd _ _ _) (hfr _ _ _)).trans (hfr _ _ _)),rfl,rfl,rfl,rfl,h_ az,trivial⟩,⟨rfl,rfl,?_,?_,trivial⟩,by simp[jt,iy,im,hcapU,iL,jm,iv,iu,jf,je];try decide⟩,hlt,by show S.length- (i+1)<S.length-i;omega⟩
      ·rw[hstN,iK _ hn,aP];rfl
      ·rw[hstY,iK _ (hyes.trans hy),aP];rfl
  ·refine p2 ?_ ai;obtain rfl:i=S.length:=by omega
   rw[aT];exact⟨(),id,⟨⟨rfl,rfl,rfl,trivial⟩,⟨rfl,rfl,rfl,rfl,trivial⟩,rfl⟩,trivial⟩
 ·rintro _ _;refine ot 3 rfl ?_;exact⟨rfl,2,.inr (.inl rfl),rfl,rfl⟩
def Jx(mk:Int):Hf pg 31 0 [gi mk] [] (λg σ n=>g=.p 0 0/\σ=HD mk []/\n=2):=by
 refine Hf.jK (Q:=λg σ _=>g=.p 0 0/\gW σ 0=some (.hZ 159 [gi mk,.o 1])/\gW σ 1=some (.row 105 2 [])) (Hf.q9 gV func31 rfl ntmps31 rfl results31 call31 λH0 S0 w0 h0 g0=>?_) ?_
 ·exact VM 9 (JK.rX 0 1 105 2 rfl rfl (V A0z))
 rintro g σ n ⟨rfl,h0,h1⟩;exact⟨id,.p 0 0,HD mk [],2,A0z,rfl,⟨h0,h1,trivial⟩,rfl⟩
def oW(mk:Int)(S:List gY):Hf pg 66 2 [.p 0 0] (HD mk S) (λg σ n=>g=gi mk/\σ=HD mk S/\n=2):=by
 exact Dd rfl (Hf.of gV func66 rfl ntmps66 rfl results66 call66 λH0 S0 w0 h0 g0=>A0z)
def Q_(t:Int)(ls:List Lb)(s:Sm):Rt pg 94 [om ls,.agg (sm s),.r [gi t]] (.b (jO t ls s.time)):=by
 refine Rt.of gV func94 rfl ntmps94 rfl results94 call94 λH0 S0 w0 h0 g0=>?_;exact⟨rfl,rfl⟩
def Ac(a b:Int):(if a<b then b else a)=max a b:=by
 rw[Int.max_def];split<;>split<;>omega
theorem Ao(mk t:Int)(S:List gY)(hl:S.length≤1000000)(hs:∀x∈S,x.samples.length≤1000000):
  Hf pg 34 2 [.p 0 0,gi t] (HD mk S) (fun g σ n=>g=jn (gX (mN (jO t)) S)∧σ=Ea (max mk t) (gX (jO t) S)∧n=3):=by
 refine Au rfl (Hf.of gV func34 rfl ntmps34 rfl results34 call34 fun H0 S0 w0 h0 g0=>(sI 2 rfl rfl (iU [0] true (tk [0,1,2,3,5]++al [4]++tk [6,7,8]++al [9]) au (V ?_))));have hk:=I7 (if mk<t then t else mk) S 94 [.r [gi t]] rfl (jO t) (fun x _ s=>Q_ t x.labels s) hl hs;refine ig hk id rfl rfl ⟨rfl,rfl,trivial⟩ rfl ay ?_;rintro _ _ _ ⟨rfl,rfl,rfl⟩;refine⟨rfl,3,.inr (.inr rfl),?_,rfl⟩;rw[←Ac];rfl
theorem uB(mk:Int)(S:List gY)(hl:S.length≤1000000)(hs:∀x∈S,x.samples.length≤1000000∧x.labels.length≤1000000):
  Hf pg 65 2 [.p 0 0] (HD mk S) (fun g σ n=>g=jn S∧σ=HD mk S∧n=2):=by
 refine Dd rfl (Hf.of gV func65 rfl ntmps65 rfl results65 call65 fun H0 S0 w0 h0 g0=>?_);have hll:(S.map se).length=S.length:=by simp
 refine JK.kx 3 105 2 rfl ?_;refine JK.iT (α:=Nat) (β:=Unit) (fun i=>⟨[(3,.o 2),(9,.o 1),(10,gi (S.map se).length),(11,gi i)],[(0,.hZ 159 [gi mk,.o 1]),(1,.row 105 2 (S.map se)),(2,.row 105 2 ((S.take i).map se))],3⟩) (fun i=>i≤S.length) (fun i=>S.length-i)
  (fun _=>⟨[(3,.o 2)],[(0,.hZ 159 [gi mk,.o 1]),(1,.row 105 2 (S.map se)),(2,.row 105 2 (S.map se))],3⟩) (fun _=>True) 0 id ?_ (aQ _) ?_ ?_
 ·exact⟨⟨rfl,rfl,rfl,rfl,trivial⟩,⟨rfl,rfl,rfl,trivial⟩,rfl⟩
 ·rintro i hi;replace hi:i≤S.length:=hi;refine V ?_;by_cases hlt:i<S.length
  ·have hx:=hs S[i] (aR hlt);refine p1 ?_ aj;refine⟨by omega,by omega,?_⟩;refine⟨se S[i],by simp[hlt],?_⟩;refine sI 3 rfl rfl ?_;refine iU [2] false (tk [0,1,2,4,5]) au ?_;refine kE 3 false (tk []) (nX S[i].labels hx.2) rfl rfl au ?_;refine kE 6 true (al [7,8,9]++tk [10]) (qM S[i].samples hx.1) rfl rfl au ?_;refine⟨by simp only[aD,aB,aM,aY];omega,?_⟩;refine V ?_;refine⟨i+1,r1 2 5,⟨⟨rfl,rfl,rfl,h_ az,trivial⟩,⟨rfl,rfl,?_,trivial⟩,rfl⟩,hlt,by show S.length- (i+1)<S.length-i;omega⟩;refine congrArg (fun r=>some (hY.row 105 2 r)) ?_;rw[a6 hlt,aP];rfl
  ·refine p2 ?_ ai;obtain rfl:i=S.length:=by omega
   rw[aT];exact⟨(),id,⟨⟨rfl,trivial⟩,⟨rfl,rfl,rfl,trivial⟩,rfl⟩,trivial⟩
 ·rintro _ _;refine ot 2 rfl ?_;exact⟨rfl,rfl,rfl⟩
def Oq(g:Gn)(ls:List Lb)(s:Sm)(hm:g.mt.length<4611686018427387904):Rt pg 104 [om ls,.agg (sm s),.r (gn g)] (.b (oB g ls s.time)):=by
 refine Rt.of gV func104 rfl ntmps104 rfl results104 call104 λH0 S0 w0 h0 g0=>?_;unfold oB;by_cases h1:g.lo<=s.time
 ·refine p1 ?_ (decide_eq_true h1);rw[decide_eq_true h1,cY];by_cases h2:s.time<=g.hi
  ·refine p1 ?_ (decide_eq_true h2);rw[decide_eq_true h2,cY];exact GO (Jn ls g.mt hm) rfl ⟨rfl,rfl⟩
  refine p2 ?_ (decide_eq_false h2);rw[decide_eq_false h2,fi];exact⟨rfl,rfl⟩
 refine p2 ?_ (decide_eq_false h1);rw[decide_eq_false h1,fi]
 repeat (first|refine p1 ?_|refine p2 ?_|refine p3 ?_|refine p4 ?_)
 exact⟨rfl,rfl⟩
theorem FQ(mk:Int)(S:List gY)(g:Gn)(hl:S.length≤1000000)(hs:∀x∈S,x.samples.length≤1000000)(hm:g.mt.length<4611686018427387904):
  Hf pg 40 2 [.p 0 0,.agg (gn g)] (HD mk S) (fun G σ n=>G=.tup []∧σ=Ea mk (gX (oB g) S)∧n=3):=by
 refine Au rfl (Hf.of gV func40 rfl ntmps40 rfl results40 call40 fun H0 S0 w0 h0 g0=>(sI 2 rfl rfl ?_));have hk:=I7 mk S 104 [.r (gn g)] rfl (oB g) (fun x _ s=>Oq g x.labels s hm) hl hs;refine ig hk id rfl rfl ⟨rfl,rfl,trivial⟩ rfl ay ?_;rintro _ _ _ ⟨rfl,rfl,rfl⟩;exact⟨rfl,3,.inr (.inr rfl),rfl,rfl⟩
section
variable {α:Type}
def Fa(T:Nat)(P:Option (α×ByteArray))(z:GV)(en:α->GV):GV->Heap->Nat->Prop:=λg σ n=>n=1/\match P with
 |some (a,r)=>g=en a/\σ=[(0,.hZ T [gs r,.b false])]
 |none=>g=z/\∃s',σ=[(0,.hZ T [gs s',.b true])]
def Vq(T:Nat)(P:Option (α×ByteArray))(z:GV)(en:α->GV):GV->Heap->Nat->Prop:=λg σ n=>Nat.ble 1 n=true/\match P with
 |some (a,r)=>g=en a/\gW σ 0=some (.hZ T [gs r,.b false])
 |none=>g=z/\∃s' c,gW σ 0=some (.hZ T [gs s',c])/\lL (.b true) c
theorem SX{σ:Heap}{x:hY}(h:gW σ 0=some x){g:GV}(hg:iy 1 g=true)(hx:iL 1 [(0,x)]=true)(hr:B4 id x=x):∃(r:Nat→Nat) (g0:GV) (τ:Heap) (m:Nat),(g0=g∧τ=[(0,x)]∧m=1)∧g=jW r g0∧o7 r τ σ∧(iy m g0&&iL m τ&&iu (iv r τ)&&jf r 1&&Nat.ble 1 m)=true:=by
 refine⟨id,g,_,1,⟨rfl,rfl,rfl⟩,(mR g).symm,⟨?_,trivial⟩,?_⟩
 ·rw[hr];exact h
 ·rw[hg,hx];rfl
theorem C4{f:FuncId}{args:List GV}{σ:Heap}{T:Nat}{P:Option (α×ByteArray)}{z0 z:GV}{en:α→GV}(hz:Sub z z0)(hi:iy 1 z=true)(he:∀a,iy 1 (en a)=true)(h:Hf pg f 1 args σ (Vq T P z0 en)):Hf pg f 1 args σ (Fa T P z en):=by
 cases P with
 |none=>
  refine (Hf.ri ((Hf.sub (Q':=fun g σ n=>g=z∧(∃s' c,gW σ 0=some (.hZ T [gs s',c])∧lL (.b true) c)∧Nat.ble 1 n=true) h fun g σ' n' hq=>⟨z,by rw[hq.2.1];exact hz,rfl,hq.2.2,hq.1⟩)) 0 (Q':=fun g σ n=>g=z∧(∃s',gW σ 0=some (.hZ T [gs s',.b true]))∧Nat.ble 1 n=true) ?_).jK ?_
  ·rintro g σ' n' ⟨rfl,⟨s',c,hl,hc⟩,hn⟩;exact⟨_,_,[gs s',.b true],hl,⟨rfl,hc,trivial⟩,rfl,⟨s',tJ hl _⟩,hn⟩
  ·rintro g σ' n' ⟨rfl,⟨s',hl⟩,hn⟩;obtain⟨r,g0,τ,m,⟨rfl,rfl,rfl⟩,h1⟩:=SX hl hi rfl rfl;exact⟨r,_,_,_,⟨rfl,rfl,s',rfl⟩,h1⟩
 |some x=>
  refine h.jK ?_;rintro g σ' n' ⟨hn,rfl,hl⟩;obtain⟨r,g0,τ,m,⟨rfl,rfl,rfl⟩,h1⟩:=SX hl (he x.1) rfl rfl;exact⟨r,_,_,_,⟨rfl,rfl,rfl⟩,h1⟩
def zp{f:FuncId}{args:List GV}{σ:Heap}{T:Nat}{P:Option (α×ByteArray)}{z:GV}{en:α->GV}(h:Hf pg f 1 args σ (Fa T P z en))(hP:P=none):Hf pg f 1 args σ λg σ n=>g=z/\(∃s',σ=[(0,.hZ T [gs s',.b true])])/\n=1:=by
 subst hP;exact h.imp λg σ' n' ⟨h1,h2,h3⟩=>⟨h2,h3,h1⟩
def ui{f:FuncId}{args:List GV}{σ:Heap}{T:Nat}{P:Option (α×ByteArray)}{z:GV}{en:α->GV}{x:α}{r:ByteArray}(h:Hf pg f 1 args σ (Fa T P z en))(hP:P=some (x,r)):Hf pg f 1 args σ λg σ n=>g=en x/\σ=[(0,.hZ T [gs r,.b false])]/\n=1:=by
 subst hP;exact h.imp λg σ' n' ⟨h1,h2,h3⟩=>⟨h2,h3,h1⟩
end
def mj{α:Type}(b:Bool)(P:Option α):Option α:=bif b then none else P
abbrev rd(s:ByteArray)(b:Bool):Nat×hY:=(0,.hZ 232 [gs s,.b b])
abbrev UQ(n:Nat):GV:=.v (.int .u64 (n:Int))
def L5{s:ByteArray}{i:Nat}(h:i<s.size):sC (s.data.toList.take (i+1))=sC (s.data.toList.take i)*256+s[i].toNat:=by
 have hl:i<s.data.toList.length:=h;rw[bx,aC hl,cU,N4];rfl
def Um(s:ByteArray)(i:Nat)(hi:i<8):sC (s.data.toList.take i)<72057594037927936:=by
 have h:=MI (s.data.toList.take i);have h2:(s.data.toList.take i).length<=7:=by rw[aY];omega
 exact a_ h (bE (eP ax h2) ax)
def PY{s:ByteArray}{i:Nat}(h:i<s.size)(hi:i<8):kh .or .u64 (u64.wrap ((sC (s.data.toList.take i):Int)*2^8)) (u64.wrap (s[i].toNat:Int))=((sC (s.data.toList.take (i+1)):Nat):Int):=by
 have hb:=s[i].toNat_lt;have hu:=Um s i hi;rw[L5 h];generalize sC (s.data.toList.take i)=u at*;generalize s[i].toNat=b at*;have e1:u64.wrap ((u:Int)*2^8)=((u*256:Nat):Int):=by rw[IntKind.wrap_u64];omega
 have e2:u64.wrap (b:Int)=(b:Int):=by rw[IntKind.wrap_u64];omega
 rw[e1,e2];show u64.wrap (((BitVec.ofInt 64 ((u*256:Nat):Int))||| (BitVec.ofInt 64 (b:Int))).toNat:Int)=_;rw[cQ,cQ,fI,cV,cV,cI az,cI az];have:=eI (i:=8) (b:=b) az u;rw[show u*256=2^8*u by omega,<-this,IntKind.wrap_u64];omega
theorem ta(s:ByteArray)(b:Bool):Hf pg 89 1 [.p 0 0] [rd s b] (Fa 232 (mj b (kf s)) (gi 0) gi):=by
 refine C4 Sub.rfl rfl (fun _=>rfl) ?_;by_cases h8:s.size<8
 ·have hP:mj b (kf s)=none:=by cases b<;>simp[mj,kf,h8]
  rw[hP];refine Hf.of gV func89 rfl ntmps89 rfl results89 call89 fun H0 S0 w0 h0 g0=>?_
  repeat (first|refine p1 ?_|refine p2 ?_|refine p3 ?_|refine p4 ?_)
  exact⟨rfl,rfl,s,_,rfl,rfl⟩
 ·cases b with
  |true=>
   refine Hf.of gV func89 rfl ntmps89 rfl results89 call89 fun H0 S0 w0 h0 g0=>?_
   repeat (first|refine p1 ?_|refine p2 ?_|refine p3 ?_|refine p4 ?_)
   exact⟨rfl,rfl,s,_,rfl,rfl⟩
  |false=>
   have hP:mj false (kf s)=some (zW s,CN s):=by simp[mj,kf,h8]
   rw[hP];refine Hf.of gV func89 rfl ntmps89 rfl results89 call89 fun H0 S0 w0 h0 g0=>?_
   repeat (first|refine p1 ?_|refine p2 ?_|refine p3 ?_|refine p4 ?_)
   refine JK.iT (α:=Nat) (β:=Unit) (fun i=>⟨[(0,.p 0 0),(3,UQ (sC (s.data.toList.take i))),(20,gi i)],[rd s false],1⟩) (fun i=>i≤8) (fun i=>8-i)
    (fun _=>⟨[(0,.p 0 0),(3,UQ (sC (s.data.toList.take 8)))],[rd s false],1⟩) (fun _=>True) 0 id ?_ ax ?_ ?_
   ·exact⟨⟨rfl,rfl,rfl,trivial⟩,⟨rfl,trivial⟩,rfl⟩
   ·intro i hi;refine V ?_;by_cases hlt:i<8
    ·exact p1 ⟨ax,(sx (h:=⟨i+1,id,⟨⟨rfl,(congrArg (fun x=>some (GV.v (.int .u64 x))) (PY az hlt)),h_ az,trivial⟩,⟨rfl,trivial⟩,rfl⟩,hlt,m8⟩))⟩ aj
    ·obtain rfl:i=8:=az
     exact p2 ⟨(),id,⟨⟨rfl,rfl,trivial⟩,⟨rfl,trivial⟩,rfl⟩,trivial⟩ (decide_eq_false ax)
   ·rintro _ _;exact V ⟨ax,az,az,⟨rfl,rfl,rfl⟩⟩
def xK{α β:Type}{b:Bool}{P:Option α}{Q:Option β}(h:mj b P=none)(hQ:P=none->Q=none):mj b Q=none:=by
 cases b with
 |true=>rfl
 |false=>exact hQ h
def rG{α:Type}{b:Bool}{P:Option α}{x:α}(h:mj b P=some x):b=false/\P=some x:=by
 cases b with
 |true=>cases h
 |false=>exact⟨rfl,h⟩
def oH(m:Int)(s:ByteArray):Option (Int×ByteArray):=match kf s with
 |none=>none
 |some (n,r)=>if 0<=n/\n<=m then some (n,r) else none
theorem G_(s:ByteArray)(b:Bool)(m:Int):Hf pg 158 1 [.p 0 0,gi m] [rd s b] (Fa 232 (mj b (oH m s)) (gi 0) gi):=by
 refine C4 Sub.rfl rfl (fun _=>rfl) ?_;have h:=ta s b;cases hP:mj b (kf s) with
 |none=>
  have h:=zp h hP;rw[xK (Q:=oH m s) hP (fun e=>by unfold oH;rw[e])];refine Hf.of gV func158 rfl ntmps158 rfl results158 call158 fun H0 S0 w0 h0 g0=>?_;refine ig h id rfl rfl ⟨rfl,trivial⟩ rfl ay ?_;rintro _ _ _ ⟨rfl,⟨s',rfl⟩,rfl⟩;by_cases hm:0>m
  ·repeat (first|refine p1 ?_|refine p2 ?_|refine p3 ?_|refine p4 ?_)
   exact⟨rfl,rfl,s',_,rfl,rfl⟩
  ·repeat (first|refine p1 ?_|refine p2 ?_|refine p3 ?_|refine p4 ?_)
   exact⟨rfl,rfl,s',_,rfl,rfl⟩
 |some x=>
  obtain⟨n,r⟩:=x;have h:=ui h hP;obtain⟨rfl,hn⟩:=rG hP;by_cases hc:0≤n∧n≤m
  ·rw[show mj false (oH m s)=some (n,r) by simp only[mj,cond_false];unfold oH;rw[hn];exact if_pos hc];refine Hf.of gV func158 rfl ntmps158 rfl results158 call158 fun H0 S0 w0 h0 g0=>?_;refine ig h id rfl rfl ⟨rfl,trivial⟩ rfl ay ?_;rintro _ _ _ ⟨rfl,rfl,rfl⟩
   repeat (first|refine p1 ?_|refine p2 ?_|refine p3 ?_|refine p4 ?_)
   exact⟨rfl,rfl,rfl⟩
  ·rw[show mj false (oH m s)=none by simp only[mj,cond_false];unfold oH;rw[hn];exact if_neg hc];refine Hf.of gV func158 rfl ntmps158 rfl results158 call158 fun H0 S0 w0 h0 g0=>?_;refine ig h id rfl rfl ⟨rfl,trivial⟩ rfl ay ?_;rintro _ _ _ ⟨rfl,rfl,rfl⟩;by_cases hm:n<0
   ·repeat (first|refine p1 ?_|refine p2 ?_|refine p3 ?_|refine p4 ?_)
    exact⟨rfl,rfl,r,_,rfl,rfl⟩
   ·repeat (first|refine p1 ?_|refine p2 ?_|refine p3 ?_|refine p4 ?_)
    exact⟨rfl,rfl,r,_,rfl,rfl⟩
def pL{m n:Int}{s r:ByteArray}(h:oH m s=some (n,r)):r.size+8=s.size/\0<=n/\n<=m/\kf s=some (n,r):=by
 unfold oH at h;cases hn:kf s with
 |none=>rw[hn]at h;cases h
 |some x=>
  obtain⟨k,r0⟩:=x;rw[hn]at h;simp only at h;split at h
  ·rename_i hc
   cases h;exact⟨(pA hn).1,hc.1,hc.2,rfl⟩
  cases h
def Lg{s:ByteArray}(h:oH s.size s=none):lz s=none:=by
 unfold oH at h;unfold lz;cases hn:kf s with
 |none=>rfl
 |some x=>
  obtain⟨n,r⟩:=x;rw[hn]at h;have h0:=(pA hn).1;simp only at h|-;split at h
  ·cases h
  rename_i hc
  exact if_neg az
def UW(s:ByteArray):s.extract 0 0=ByteArray.empty:=by
 apply cE;simp
theorem s6(s:ByteArray)(b:Bool):Hf pg 91 1 [.p 0 0] [rd s b] (Fa 232 (mj b (lz s)) (gs ByteArray.empty) gs):=by
 refine C4 Sub.rfl rfl (fun _=>rfl) ?_;have h:=G_ s b s.size;cases hP:mj b (oH s.size s) with
 |none=>
  have h:=zp h hP;rw[xK (Q:=lz s) hP Lg];refine Hf.of gV func91 rfl ntmps91 rfl results91 call91 fun H0 S0 w0 h0 g0=>?_;refine ig h id rfl rfl ⟨rfl,trivial⟩ rfl ay ?_;rintro _ _ _ ⟨rfl,⟨s',rfl⟩,rfl⟩;exact p2 ⟨az,az,az,⟨az,az,az,⟨rfl,congrArg gs (UW s'),_,_,rfl,rfl⟩⟩⟩ ai
 |some x=>
  obtain⟨n,r⟩:=x;have h:=ui h hP;obtain⟨rfl,hn⟩:=rG hP;obtain⟨s1,s2,s3,s4⟩:=pL hn;have ht:mj false (lz s)=if 0≤n∧n≤r.size then some (r.extract 0 n.toNat,r.extract n.toNat r.size) else none:=by simp only[mj,cond_false];unfold lz;rw[s4]
  by_cases hc:n≤r.size
  ·rw[ht,if_pos ⟨s2,hc⟩];refine Hf.of gV func91 rfl ntmps91 rfl results91 call91 fun H0 S0 w0 h0 g0=>?_;refine ig h id rfl rfl ⟨rfl,trivial⟩ rfl ay ?_;rintro _ _ _ ⟨rfl,rfl,rfl⟩;exact p2 ⟨az,az,az,⟨az,az,az,⟨rfl,rfl,rfl⟩⟩⟩ ai
  ·rw[ht,if_neg az];refine Hf.of gV func91 rfl ntmps91 rfl results91 call91 fun H0 S0 w0 h0 g0=>?_;refine ig h id rfl rfl ⟨rfl,trivial⟩ rfl ay ?_;rintro _ _ _ ⟨rfl,rfl,rfl⟩;exact p1 ⟨rfl,rfl,r,_,rfl,rfl⟩ aj
theorem xk(s:ByteArray):Hf pg 87 0 [gs s] [] (fun g σ n=>g=.p 0 0∧σ=[rd s false]∧n=1):=by
 refine Hf.ri (Q:=fun g σ n=>g=.p 0 0∧σ=[(0,.hZ 232 [gs s,.v (.bool false)])]∧n=1) ?_ 0 ?_
 ·refine Hf.of gV func87 rfl ntmps87 rfl results87 call87 fun H0 S0 w0 h0 g0=>?_;exact⟨rfl,rfl,rfl⟩
 ·rintro g σ n ⟨rfl,rfl,rfl⟩;exact⟨_,_,[gs s,.b false],rfl,⟨rfl,rfl,trivial⟩,rfl,rfl,rfl⟩
def zy(s:ByteArray):Bool:=decide (s.size=0)
def AA(s:ByteArray)(b:Bool):Hf pg 92 1 [.p 0 0] [rd s b] (λg σ n=>g=.b (zy s&& !b)/\σ=[rd s b]/\n=1):=by
 refine Hf.lL (R:=λσ n=>σ=[rd s b]/\n=1) ?_;refine Hf.of gV func92 rfl ntmps92 rfl results92 call92 λH0 S0 w0 h0 g0=>?_;have he:=E8 s;unfold zy;by_cases hs:s.size=0
 ·rw[decide_eq_true hs]at he|-;exact p1 ⟨by cases b<;>rfl,rfl,rfl⟩ he
 rw[decide_eq_false hs]at he|-;exact p2 A0z he
def Dy(l:List Lb)(x:Lb):some (hY.row 117 2 (l.map lb++[lb x]))=some (hY.row 117 2 ((l++[x]).map lb)):=by rw[aP];rfl
def xo(s:ByteArray):Option (List Lb×ByteArray):=match mX s with
 |none=>none
 |some (l,r)=>if iS l=true then some (l,r) else none
def EJ(s:ByteArray)(b:Bool)(m:Nat):Hf pg 158 1 [.p 0 0,gi m] [rd s b] (λg σ n=>(∃(k:Nat) (s0:ByteArray) (b0:Bool),g=gi k/\σ=[rd s0 b0]/\k<=m/\(b0=true->k=0/\mj b (oH m s)=none)/\(b0=false->b=false/\oH m s=some ((k:Int),s0)))/\n=1):=by
 have h:=G_ s b m;cases hP:mj b (oH m s) with
 |none=>
  exact (zp h hP).imp λg σ n ⟨h1,⟨s',h2⟩,h3⟩=>⟨⟨0,s',true,h1,h2,aQ _,λ_=>⟨rfl,rfl⟩,λe=>(by cases e)⟩,h3⟩
 |some x=>
  obtain⟨k,r⟩:=x;obtain⟨hb,hs⟩:=rG hP;obtain⟨s1,s2,s3,s4⟩:=pL hs;have hk:((k.toNat:Nat):Int)=k:=az
  exact (ui h hP).imp λg σ n ⟨h1,h2,h3⟩=>⟨⟨k.toNat,r,false,by rw[hk];exact h1,h2,az,λe=>(by cases e),λ_=>⟨hb,by rw[hk];exact hs⟩⟩,h3⟩
theorem Kn(s:ByteArray)(b:Bool)(hs:s.size≤1000000):Hf pg 203 1 [.p 0 0] [rd s b] (Fa 232 (mj b (xo s)) (om []) om):=by
 refine C4 (Sub.nil 2) rfl (fun _=>rfl) ?_;have hc:=EJ s b 8;refine Hf.of gV func203 rfl ntmps203 rfl results203 call203 fun H0 S0 w0 h0 g0=>?_;refine ig hc id rfl rfl ⟨rfl,trivial⟩ rfl ay ?_;rintro _ _ _ ⟨⟨k,s0,b0,rfl,rfl,hk8,hbt,hbf⟩,rfl⟩;refine JK.kx 3 117 2 rfl ?_;refine JK.iT (α:=Nat×List Lb×ByteArray×Bool) (β:=List Lb×ByteArray×Bool) (fun a=>⟨[(0,.p 0 0),(3,.o 1),(5,gi k),(6,gi a.1)],[rd a.2.2.1 a.2.2.2,(1,.row 117 2 (a.2.1.map lb))],2⟩)
  (fun a=>a.1≤k∧a.2.1.length=a.1∧(a.2.2.2=false→b0=false∧kQ a.1 s0=some (a.2.1,a.2.2.1))∧(a.2.2.2=true→b0=true∨kQ a.1 s0=none)) (fun a=>k-a.1)
  (fun a=>⟨[(0,.p 0 0),(3,.o 1)],[rd a.2.1 a.2.2,(1,.row 117 2 (a.1.map lb))],2⟩) (fun a=>(a.2.2=false→b0=false∧kQ k s0=some (a.1,a.2.1))∧(a.2.2=true→b0=true∨kQ k s0=none)) (0,[],s0,b0) id ?_ ?_ ?_ ?_
 ·exact⟨⟨rfl,rfl,rfl,rfl,trivial⟩,⟨rfl,rfl,trivial⟩,rfl⟩
 ·exact⟨aQ _,rfl,fun e=>⟨e,rfl⟩,fun e=>.inl e⟩
 ·rintro⟨i,l,s1,b1⟩ ⟨hi,hl,hf,ht⟩;replace hi:i≤k:=hi;replace hl:l.length=i:=hl;replace hf:b1=false→b0=false∧kQ i s0=some (l,s1):=hf;replace ht:b1=true→b0=true∨kQ i s0=none:=ht;refine V ?_;by_cases hlt:i<k
  ·refine p1 ?_ aj;have hx1:=s6 s1 b1;cases hP:mj b1 (lz s1) with
   |none=>
    refine ig (zp hx1 hP) id rfl rfl ⟨rfl,trivial⟩ rfl ay ?_;rintro _ _ _ ⟨rfl,⟨s2,rfl⟩,rfl⟩;refine ig (zp (s6 s2 true) rfl) id rfl rfl ⟨rfl,trivial⟩ rfl ay ?_;rintro _ _ _ ⟨rfl,⟨s3,rfl⟩,rfl⟩;refine⟨by simp only[aD,aB,aM];omega,?_⟩;refine⟨(i+1,l++[⟨ByteArray.empty,ByteArray.empty⟩],s3,true),r1 1 3,⟨⟨rfl,rfl,rfl,h_ az,trivial⟩,⟨rfl,?_,trivial⟩,rfl⟩,⟨hlt,by simp[hl],fun e=>(by cases e),fun _=>?_⟩,by show k- (i+1)<k-i;omega⟩
    ·exact Dy l ⟨ByteArray.empty,ByteArray.empty⟩
    ·cases b1 with
     |true=>exact (ht rfl).imp id fun h=>Ir (gQ i) h
     |false=>
      have h1:=(hf rfl).2;exact .inr (by unfold kQ;rw[h1];simp only;rw[show lz s1=none from hP])
   |some x=>
    obtain⟨a,s2⟩:=x;obtain⟨rfl,hP1⟩:=rG hP;refine ig (ui hx1 hP) id rfl rfl ⟨rfl,trivial⟩ rfl ay ?_;rintro _ _ _ ⟨rfl,rfl,rfl⟩;have hx2:=s6 s2 false;have h1:=hf rfl;cases hP2:lz s2 with
    |none=>
     refine ig (zp hx2 hP2) id rfl rfl ⟨rfl,trivial⟩ rfl ay ?_;rintro _ _ _ ⟨rfl,⟨s3,rfl⟩,rfl⟩;refine⟨by simp only[aD,aB,aM];omega,?_⟩;refine⟨(i+1,l++[⟨a,ByteArray.empty⟩],s3,true),r1 1 3,⟨⟨rfl,rfl,rfl,h_ az,trivial⟩,⟨rfl,?_,trivial⟩,rfl⟩,⟨hlt,by simp[hl],fun e=>(by cases e),fun _=>?_⟩,by show k- (i+1)<k-i;omega⟩
     ·exact Dy l ⟨a,ByteArray.empty⟩
     ·exact .inr (by unfold kQ;rw[h1.2];simp only;rw[hP1];simp only;rw[hP2])
    |some x=>
     obtain⟨c,s3⟩:=x;refine ig (ui hx2 hP2) id rfl rfl ⟨rfl,trivial⟩ rfl ay ?_;rintro _ _ _ ⟨rfl,rfl,rfl⟩;refine⟨by simp only[aD,aB,aM];omega,?_⟩;refine⟨(i+1,l++[⟨a,c⟩],s3,false),r1 1 3,⟨⟨rfl,rfl,rfl,h_ az,trivial⟩,⟨rfl,?_,trivial⟩,rfl⟩,⟨hlt,by simp[hl],fun _=>⟨h1.1,?_⟩,fun e=>(by cases e)⟩,by show k- (i+1)<k-i;omega⟩
     ·exact Dy l ⟨a,c⟩
     ·unfold kQ;rw[h1.2];simp only;rw[hP1];simp only;rw[hP2]
  ·obtain rfl:i=k:=by omega
   refine p2 ?_ ai;exact⟨(l,s1,b1),id,⟨⟨rfl,rfl,trivial⟩,⟨rfl,rfl,trivial⟩,rfl⟩,hf,ht⟩
 ·rintro⟨l,s1,b1⟩ ⟨hf,ht⟩;replace hf:b1=false→b0=false∧kQ k s0=some (l,s1):=hf;replace ht:b1=true→b0=true∨kQ k s0=none:=ht;refine ot 1 rfl ?_;cases b1 with
  |true=>
   have hno:mj b (xo s)=none:=by
    cases b0 with
    |true=>
     refine xK (hbt rfl).2 fun e=>?_;unfold oH at e;unfold xo mX;cases hn:kf s with
     |none=>rfl
     |some x=>
      obtain⟨n,r⟩:=x;rw[hn]at e;simp only at e⊢;split at e
      ·cases e
      ·rename_i hc
       rw[if_neg (show¬(0≤n∧n≤(8:Int)) from hc)]
    |false=>
     obtain⟨rfl,hz⟩:=hbf rfl;obtain⟨z1,z2,z3,z4⟩:=pL hz;have hp:kQ k s0=none:=(ht rfl).resolve_left ax;show xo s=none;unfold xo mX;rw[z4];simp only;rw[if_pos ⟨z2,z3⟩,bj,hp]
   rw[hno]
   repeat (first|refine p1 ?_|refine p2 ?_|refine p3 ?_|refine p4 ?_)
   exact⟨rfl,rfl,s1,_,rfl,rfl⟩
  |false=>
   obtain⟨rfl,hp⟩:=hf rfl;obtain⟨rfl,hz⟩:=hbf rfl;obtain⟨z1,z2,z3,z4⟩:=pL hz;obtain⟨q1,q2,q3⟩:=tA hp;have hlr:mj false (xo s)=if iS l=true then some (l,s1) else none:=by
    show xo s=_;unfold xo mX;rw[z4];simp only;rw[if_pos ⟨z2,z3⟩,bj,hp]
   have hr:=sV l (fun x hx=>by have:=(q3 x hx).2;omega)
   repeat (first|refine p1 ?_|refine p2 ?_|refine p3 ?_|refine p4 ?_)
   rcases tf (iS l) with hR|hR
   ·rw[hlr,if_pos hR];refine GO (hr.bt hR) rfl ?_;exact⟨rfl,rfl,rfl⟩
   ·rw[hlr,if_neg (by rw[hR];decide)];refine GO (hr.bt hR) rfl ?_;exact⟨rfl,rfl,s1,_,rfl,rfl⟩
abbrev gu(x:Nat):GV:=.v (.int .u64 (x:Int))
abbrev oq(b r:Nat)(bs:List Bool):Heap:=[(b,.hZ 304 [.o r,gi bs.length]),(r,.row 5 1 ((pack bs).map jX))]
def wu(n:Nat):((n:Int).tmod 8)=((n % 8:Nat):Int):=by rw[Int.tmod_eq_emod_of_nonneg az];rfl
def Qo(n:Nat):((n:Int).tdiv 8)=((n/8:Nat):Int):=by rw[eU az];rfl
def LM(bs:List Bool):Ct pg 235 2 [.p 0 0] (oq 0 1 bs) (λg σ n=>g=.v (.string ⟨(pack bs).toArray⟩)/\σ=oq 0 1 bs/\n=2):=by
 refine Ct.j7 gV func235 rfl ntmps235 rfl results235 λH0 S0 w0 h0 g0=>?_;exact ia gV 200 _ _ ⟨pack bs,rfl,A0z⟩
def GU(bs:List Bool)(b:Bool)(hl:bs.length<=1000000000):Ct pg 283 2 [.p 0 0,.b b] (oq 0 1 bs) (λg σ n=>g=.tup []/\σ=oq 0 2 (bs++[b])/\n=3):=by
 refine Ct.jK (Q:=λg σ n=>g=.tup []/\∃i,(i=1\/i=3)/\gW σ 0=some (.hZ 304 [.o i,gi (bs++[b]).length])/\gW σ i=some (.row 5 1 ((pack (bs++[b])).map jX))) (Ct.j7 gV func283 rfl ntmps283 rfl results283 λH0 S0 w0 h0 g0=>?_) ?_
 ·have e1:gi (i64.wrap (bs.length+1))=gi ((bs++[b]).length:Nat):=by rw[ic az az];simp
  have hp:=TL bs;have hpl:(pack bs).length=(bs.length+7) /8:=tm bs;have ei:i64.wrap ((bs.length:Int).tdiv 8)=((bs.length/8:Nat):Int):=by rw[Qo,ic az az]
  have hat:((pack (bs++[false])).map jX)[bs.length/8]? =some (jX (UInt8.ofNat (lh bs (bs.length/8)))):=by rw[bg,Rn];rfl
  have jh:((pack (bs++[false])).map jX).set (bs.length/8) [GV.v (.int .u8 (kh .or .u8 ((UInt8.ofNat (lh bs (bs.length/8))).toNat:Int) ((128:Int).fdiv (2^ (min ((bs.length % 8:Nat):Int).toNat 8)))))]=(pack (bs++[true])).map jX:=by
   have hb:lh bs (bs.length/8)<256:=JD _;have hs:128>>> (bs.length % 8)<256:=by rw[cB];exact fg (Nat.div_le_self _ _) ax
   have hor:lh bs (bs.length/8)|||128>>> (bs.length % 8)<256:=gf (n:=8) hb hs;rw[show (128:Int)=((128:Nat):Int) from rfl,fdiv_pow 128 (bs.length % 8) 8 az,zw hb,Uy hb hs,<-S9,fM]
   congr 1
   show _=[GV.v (.int .u8 ((UInt8.ofNat _).toNat:Int))];rw[zw hor]
  refine ia gV 200 _ _ ⟨az,?_⟩;by_cases h8:bs.length % 8=0
  ·rw[if_pos h8]at hp;refine pos (by rw[wu,h8];rfl) ⟨m9,?_⟩;have er:(pack bs).map jX++[[GV.v (.int .u8 0)]]=(pack (bs++[false])).map jX:=by rw[hp,aP];rfl
   cases b with
   |false=>
    refine neg rfl ⟨rfl,3,.inr rfl,?_,?_⟩
    ·show some (hY.hZ _ [GV.o 3,gi _])=_;rw[e1]
    show some (hY.row _ 1 ((pack bs).map jX++[[GV.v (.int .u8 0)]]))=_;rw[er]
   |true=>
    refine pos rfl (JK.draw [3] gV (RA.run (e:=true) gV au (λ_ _ h=>h) (tk [0,1,2,3,4,5,6,7,8,9,11,12,13,14,15,16]++al [10,17,18,19]) au ⟨az,⟨by rw[ei];omega,by rw[ei];simp<;>omega,⟨az,⟨by rw[wu];omega,⟨jX (UInt8.ofNat (lh bs (bs.length/8))),by rw[ei,bj];exact (congrArg (λl:List (List GV)=>l[bs.length/8]?) er).trans hat,⟨by rw[ei];omega,by rw[ei];simp<;>omega,⟨jX (UInt8.ofNat (lh bs (bs.length/8))),by rw[ei,bj];exact (congrArg (λl:List (List GV)=>l[bs.length/8]?) er).trans hat,(ia gV 200 _ _ ⟨rfl,3,.inr rfl,?_,?_⟩)⟩⟩⟩⟩⟩⟩⟩))
    ·show some (hY.hZ _ [GV.o 3,gi _])=_;rw[e1]
    show some (hY.row _ 1 (((pack bs).map jX++[[GV.v (.int .u8 0)]]).set (i64.wrap ((bs.length:Int).tdiv 8)).toNat [GV.v (.int .u8 (kh .or .u8 ((UInt8.ofNat (lh bs (bs.length/8))).toNat:Int) ((128:Int).fdiv (2^ (min ((bs.length:Int).tmod 8).toNat 8)))))]))=_;rw[ei,bj,er,wu,jh]
  rw[if_neg h8]at hp;refine neg (by rw[wu];simp<;>omega) ?_;cases b with
  |false=>
   refine neg rfl ⟨rfl,1,.inl rfl,?_,?_⟩
   ·show some (hY.hZ _ [GV.o 1,gi _])=_;rw[e1]
   show some (hY.row _ 1 ((pack bs).map jX))=_;rw[hp]
  |true=>
   refine pos rfl (JK.draw [1] gV (RA.run (e:=true) gV au (λ_ _ h=>h) (tk [0,1,2,3,4,5,6,7,8,9,11,12,13,14,15,16]++al [10,17,18,19]) au ⟨az,⟨by rw[ei];omega,by rw[ei];simp<;>omega,⟨az,⟨by rw[wu];omega,⟨jX (UInt8.ofNat (lh bs (bs.length/8))),by rw[ei,bj,<-hp];exact hat,⟨by rw[ei];omega,by rw[ei];simp<;>omega,⟨jX (UInt8.ofNat (lh bs (bs.length/8))),by rw[ei,bj,<-hp];exact hat,(ia gV 200 _ _ ⟨rfl,1,.inl rfl,?_,?_⟩)⟩⟩⟩⟩⟩⟩⟩))
   ·show some (hY.hZ _ [GV.o 1,gi _])=_;rw[e1]
   show some (hY.row _ 1 (((pack bs).map jX).set (i64.wrap ((bs.length:Int).tdiv 8)).toNat [GV.v (.int .u8 (kh .or .u8 ((UInt8.ofNat (lh bs (bs.length/8))).toNat:Int) ((128:Int).fdiv (2^ (min ((bs.length:Int).tmod 8).toNat 8)))))]))=_;rw[ei,bj,<-hp,wu,jh]
 rintro g σ n ⟨rfl,i,hi,h1,h2⟩;refine⟨λj=>if j=2 then i else j,.tup [],oq 0 2 (bs++[b]),3,A0z,rfl,⟨h1,h2,trivial⟩,?_⟩;rcases hi with rfl|rfl<;>rfl
theorem FR(bs:List Bool)(u:Nat)(k:Int)(hu:u<18446744073709551616)(hk:0≤k)(hl:bs.length≤100000000):Ct pg 284 2 [.p 0 0,gu u,gi k] (oq 0 1 bs) (fun g σ n=>g=.tup []∧σ=oq 0 2 (bs++jR u (min k.toNat 64))∧n=3):=by
 refine Ct.jK (Q:=fun g σ n=>g=.tup []∧∃i,i=2∧gW σ 0=some (.hZ 304 [.o i,gi (bs++jR u (min k.toNat 64)).length])∧gW σ i=some (.row 5 1 ((pack (bs++jR u (min k.toNat 64))).map jX))) (Ct.j7 gV func284 rfl ntmps284 rfl results284 fun H0 S0 w0 h0 g0=>?_) ?_
 ·generalize hkk:min k.toNat 64=kk;have e0:i64.wrap ((if (64:Int)<k then 64 else k) -1)=((kk:Nat):Int) -1:=by
   have:(if (64:Int)<k then 64 else k)=((kk:Nat):Int):=by split<;>omega
   rw[this,ic az az]
  have hll:=qX u kk;refine ia gV 200 _ _ (JK.loop (α:=Nat) (fun j=>⟨[(0,.p 0 0),(1,gu u),(6,gi ((j:Int) -1))],oq 0 2 (bs++(jR u kk).take (kk-j)),3⟩) (fun j=>j≤kk) (fun j=>j) kk (r1 2 1) ?_ (aL _) ?_)
  ·refine⟨⟨rfl,rfl,?_,trivial⟩,⟨?_,?_,trivial⟩,rfl⟩
   ·rw[←e0];rfl
   ·rw[dh,eF,aZ];rfl
   ·rw[dh,eF,aZ];rfl
  ·intro j hj;refine ia gV 200 _ _ ?_;cases j with
   |zero=>
    refine neg aA (ia gV 200 _ _ ⟨rfl,2,rfl,?_,?_⟩)
    ·rw[cv az];rfl
    ·rw[cv az];rfl
   |succ j=>
    have ej:(((j+1:Nat):Int) -1)=(j:Int):=az
    refine pos (m9) ⟨az,?_⟩;have eb:(kh .and .u64 ((u:Int).fdiv (2^ (min (((j+1:Nat):Int) -1).toNat 64))) 1==1)=u.testBit j:=by
     rw[ej,fdiv_pow u j 64 az,show (1:Int)=((1:Nat):Int) from rfl,II (MK hu) az,Gg];cases u.testBit j<;>rfl
    refine JK.call (n0:=2) (r:=rr 0 2) (GU (bs++(jR u kk).take (kk- (j+1))) _ (m9)) call283 rfl rfl rfl rfl rfl ⟨rfl,rfl,trivial⟩ rfl av ?_;rintro g σ' n' ⟨rfl,rfl,rfl⟩;refine ia gV 200 _ _ ?_;have en:(bs++(jR u kk).take (kk- (j+1)))++[kh .and .u64 ((u:Int).fdiv (2^ (min (((j+1:Nat):Int) -1).toNat 64))) 1==1]=bs++(jR u kk).take (kk-j):=by
     rw[eb,aS,Qf u kk j az]
    refine⟨j,r1 2 3,⟨⟨rfl,rfl,?_,trivial⟩,⟨?_,?_,trivial⟩,rfl⟩,az,by show j<j+1;omega⟩
    ·show some (gi (i64.wrap (((j+1:Nat):Int) -1-1)))=_;rw[ic az az,ej];rfl
    ·rw[←en];rfl
    ·rw[←en];rfl
 ·rintro g σ n ⟨rfl,i,rfl,h1,h2⟩;exact⟨id,.tup [],oq 0 2 (bs++jR u (min k.toNat 64)),3,⟨rfl,rfl,rfl⟩,rfl,⟨h1,h2,trivial⟩,rfl⟩
def Tr(n:Int)(h1: -9223372036854775808<=n)(h2:n<=9223372036854775807):Ct pg 282 0 [gi n] [] (uj λg=>g=gu (mn n)):=by
 exact Ct.val (Ct.j7 gV func282 rfl ntmps282 rfl results282 λH0 S0 w0 h0 g0=>(ia gV 200 _ _ ⟨az,az,⟨congrArg (λx=>GV.v (.int .u64 x)) (OI h1 h2),rfl⟩⟩))
def MR(u:Nat)(hu:u<18446744073709551616):Ct pg 306 0 [gu u] [] (uj λg=>g=gi (xN u)):=by
 exact Ct.val (Ct.j7 gV func306 rfl ntmps306 rfl results306 λH0 S0 w0 h0 g0=>(ia gV 200 _ _ ⟨az,⟨congrArg (λx=>GV.v (.int .i64 x)) (OV hu),rfl⟩⟩))
def tc(k:Nat)(h:k<=6):(List.drop ((k:Int).toNat*1) (([0,4,7,12,20,32,64]:List Int).map λx=>GV.v (.int .i64 x)))[0]? =some (gi (jd k:Nat)):=by
 match k,h with
 |0,_=>rfl
 |1,_=>rfl
 |2,_=>rfl
 |3,_=>rfl
 |4,_=>rfl
 |5,_=>rfl
 |6,_=>rfl
def yA(k:Nat):jd k<=64:=by
 by_cases h:k<=6
 ·match k,h with
  |0,_=>decide
  |1,_=>decide
  |2,_=>decide
  |3,_=>decide
  |4,_=>decide
  |5,_=>decide
  |6,_=>decide
 unfold jd;rw[cR,bI aq]
 decide
def PO{k:Nat}(h:k<6):jd k<64:=by
 match k,h with
 |0,_=>decide
 |1,_=>decide
 |2,_=>decide
 |3,_=>decide
 |4,_=>decide
 |5,_=>decide
theorem Ht(bs:List Bool)(n:Int)(h1: -9223372036854775808≤n)(h2:n≤9223372036854775807)(hl:bs.length≤10000000):Ct pg 234 2 [.p 0 0,gi n] (oq 0 1 bs) (fun g σ m=>g=.tup []∧σ=oq 0 2 (bs++mz n)∧m=3):=by
 refine Ct.jK (Q:=fun g σ m=>g=.tup []∧∃i,(i=3∨i=4)∧gW σ 0=some (.hZ 304 [.o i,gi (bs++mz n).length])∧gW σ i=some (.row 5 1 ((pack (bs++mz n)).map jX))) (Ct.j7 gV func234 rfl ntmps234 rfl results234 fun H0 S0 w0 h0 g0=>?_) ?_
 ·have hz:=Mg h1 h2;have hc6:=AN (mn n);refine ia gV 200 _ _ (JK.call (n0:=0) (r:=id) (Tr n h1 h2) call282 rfl rfl rfl rfl rfl trivial rfl aA ?_);rintro g σ' n' ⟨rfl,rfl,rfl⟩;refine ia gV 200 _ _ ?_;generalize hu:mn n=u at hz hc6;generalize hc:oX u=c at hc6;refine JK.iT (α:=Nat) (β:=Unit) (fun k=>⟨[(0,.p 0 0),(4,gu u),(5,gi k)],oq 0 1 bs,2⟩) (fun k=>k≤c) (fun k=>c-k) (fun _=>⟨[(0,.p 0 0),(4,gu u),(5,gi c)],oq 0 1 bs,2⟩) (fun _=>True) 0 id ?_ (aQ _) ?_ ?_
  ·rw[←hu];exact⟨⟨rfl,rfl,rfl,trivial⟩,⟨rfl,rfl,trivial⟩,rfl⟩
  ·intro k hk;refine ia gV 200 _ _ ⟨az,az,(tL (tc k az) ?_)⟩;by_cases hk6:k<6
   ·refine pos (by have:=PO hk6;simp<;>omega) ⟨az,az,(tL (tc k az) ⟨az,?_⟩)⟩;have esh:(u:Int).fdiv (2^ (min ((jd k:Nat):Int).toNat IntKind.u64.bits))=((u>>>jd k:Nat):Int):=fdiv_pow u (jd k) 64 (yA k);by_cases hck:c≤k
    ·have e:k=c:=az
     have e0:=PH (u:=u) (by rw[hc];exact hck) hk6;refine neg (by rw[esh,e0];rfl) ?_;subst e;exact⟨(),id,⟨⟨rfl,rfl,rfl,trivial⟩,⟨rfl,rfl,trivial⟩,rfl⟩,trivial⟩
    ·have e0:=GP (u:=u) (k:=k) (by rw[hc];omega);exact pos (by rw[esh];exact decide_eq_true (Int.natCast_pos.2 (Nat.pos_of_ne_zero e0))) ⟨k+1,id,⟨⟨rfl,rfl,h_ az,trivial⟩,⟨rfl,rfl,trivial⟩,rfl⟩,az,m8⟩
   ·have e:k=6:=az
    subst e;have e:c=6:=az
    subst e;exact neg rfl ⟨(),id,⟨⟨rfl,rfl,rfl,trivial⟩,⟨rfl,rfl,trivial⟩,rfl⟩,trivial⟩
  ·intro _ _;refine ia gV 200 _ _ (JK.iT (α:=Nat) (β:=Unit) (fun j=>⟨[(0,.p 0 0),(4,gu u),(5,gi c),(22,gi c),(23,gi j)],oq 0 2 (bs++List.replicate j true),3⟩) (fun j=>j≤c) (fun j=>c-j) (fun _=>⟨[(0,.p 0 0),(4,gu u),(5,gi c)],oq 0 2 (bs++List.replicate c true),3⟩) (fun _=>True) 0 (r1 2 1) ?_ (aQ _) ?_ ?_)
   ·refine⟨⟨rfl,rfl,rfl,rfl,rfl,trivial⟩,⟨?_,?_,trivial⟩,rfl⟩
    ·rw[List.replicate_zero,aZ];rfl
    ·rw[List.replicate_zero,aZ];rfl
   ·intro j hj;refine ia gV 200 _ _ ?_;by_cases hjc:j<c
    ·refine pos (m9) (JK.call (n0:=2) (r:=rr 0 2) (Ct.bv (pre:=[.p 0 0]) (suf:=[]) (GU (bs++List.replicate j true) true (m9))) call283 rfl rfl rfl rfl rfl ⟨rfl,rfl,trivial⟩ rfl av ?_);rintro g σ' n' ⟨rfl,rfl,rfl⟩;refine ia gV 200 _ _ ?_;have en:(bs++List.replicate j true)++[true]=bs++List.replicate (j+1) true:=by rw[aS,List.replicate_succ']
     refine⟨j+1,r1 2 3,⟨⟨rfl,rfl,rfl,rfl,h_ az,trivial⟩,⟨?_,?_,trivial⟩,rfl⟩,az,m8⟩
     ·rw[←en];rfl
     ·rw[←en];rfl
    ·have e:j=c:=az
     subst e;exact neg aA ⟨(),r1 2 2,⟨⟨rfl,rfl,rfl,trivial⟩,⟨rfl,rfl,trivial⟩,rfl⟩,trivial⟩
   ·intro _ _;have hp:mz n=pre c++jR u (jd c):=by unfold mz;rw[hu,hc]
    have hs64:=yA c;have hmin:min ((jd c:Nat):Int).toNat 64=jd c:=az
    refine ia gV 200 _ _ ?_;by_cases hc6':c<6
    ·have ep:bs++List.replicate c true++[false]++jR u (min ((jd c:Nat):Int).toNat 64)=bs++mz n:=by
      rw[hp,pre,if_pos hc6',hmin];simp
     refine pos (m9) (JK.call (n0:=2) (r:=rr 0 2) (Ct.bv (pre:=[.p 0 0]) (suf:=[]) (GU (bs++List.replicate c true) false (m9))) call283 rfl rfl rfl rfl rfl ⟨rfl,rfl,trivial⟩ rfl av ?_);rintro g σ' n' ⟨rfl,rfl,rfl⟩;refine ia gV 200 _ _ ⟨az,az,(tL (tc c az) (JK.call (n0:=2) (r:=rr 0 3) (FR (bs++List.replicate c true++[false]) u ((jd c:Nat):Int) hz az (m9)) call284 rfl rfl rfl rfl rfl ⟨rfl,rfl,trivial⟩ rfl av ?_))⟩;rintro g σ' n' ⟨rfl,rfl,rfl⟩;refine ia gV 200 _ _ ⟨rfl,4,.inr rfl,?_,?_⟩
     ·rw[←ep];rfl
     ·rw[←ep];rfl
    ·have ep:bs++List.replicate c true++jR u (min ((jd c:Nat):Int).toNat 64)=bs++mz n:=by
      rw[hp,pre,if_neg hc6',hmin];simp
     refine neg (m9) ⟨az,az,(tL (tc c az) (JK.call (n0:=2) (r:=rr 0 2) (FR (bs++List.replicate c true) u ((jd c:Nat):Int) hz az (m9)) call284 rfl rfl rfl rfl rfl ⟨rfl,rfl,trivial⟩ rfl av ?_))⟩;rintro g σ' n' ⟨rfl,rfl,rfl⟩;refine ia gV 200 _ _ ⟨rfl,3,.inl rfl,?_,?_⟩
     ·rw[←ep];rfl
     ·rw[←ep];rfl
 ·rintro g σ m ⟨rfl,i,hi,h1,h2⟩;refine⟨r1 2 i,.tup [],oq 0 2 (bs++mz n),3,⟨rfl,rfl,rfl⟩,rfl,?_,?_⟩
  ·rcases hi with rfl|rfl
   ·exact⟨h1,h2,trivial⟩
   ·exact⟨h1,h2,trivial⟩
  ·rcases hi with rfl|rfl<;>rfl
abbrev p8(b:Nat)(s:ByteArray)(n:Nat):Heap:=[(b,.hZ 379 [.v (.string s),gi n])]
def Rc(s:ByteArray):Ct pg 259 0 [.v (.string s)] [] (λg σ n=>g=.p 0 0/\σ=p8 0 s 0/\n=1):=by
 refine Ct.j7 gV func259 rfl ntmps259 rfl results259 λH0 S0 w0 h0 g0=>?_;exact ia gV 200 _ _ A0z
def ID(s:ByteArray)(n:Nat)(hs:s.size<=100000000)(hn:n<=8*s.size):Ct pg 349 1 [.p 0 0] (p8 0 s n) (λg σ m=>g=gi ((8*s.size-n:Nat):Int)/\σ=p8 0 s n/\m=1):=by
 refine Ct.j7 gV func349 rfl ntmps349 rfl results349 λH0 S0 w0 h0 g0=>?_;refine ia gV 200 _ _ ⟨au,⟨?_,rfl,rfl⟩⟩;show gi (i64.wrap (i64.wrap (8*(s.size:Int)) -n))=_;rw[ic (x:=8*(s.size:Int)) az az,ic az az]
 congr 2
 omega
theorem HT(s:ByteArray)(n:Nat)(k:Nat)(hs:s.size≤100000000)(hn:n≤8*s.size)(hk:k≤64)(hl:8*s.size<n+k):Ct pg 305 1 [.p 0 0,gi k] (p8 0 s n) (fun g σ m=>g=.tup [gu 0,.ifc 54 (gi 3)]∧σ=p8 0 s n∧m=1):=by
 refine Ct.j7 gV func305 rfl ntmps305 rfl results305 fun H0 S0 w0 h0 g0=>?_;refine ia gV 200 _ _ (wE (m9) (neg (m9) (JK.call (n0:=1) (r:=id) (ID s n hs hn) call349 rfl rfl rfl rfl rfl ⟨rfl,trivial⟩ rfl (fun i h=>h) ?_)));rintro g σ' n' ⟨rfl,rfl,rfl⟩;exact ia gV 200 _ _ (pos (m9) ⟨rfl,rfl,rfl⟩)
theorem GF(s:ByteArray)(n:Nat)(k:Nat)(hs:s.size≤100000000)(hk:k≤64)(hl:n+k≤8*s.size):Ct pg 305 1 [.p 0 0,gi k] (p8 0 s n) (fun g σ m=>g=.tup [gu (mD (((sb s).drop n).take k)),.v .nilIface]∧σ=p8 0 s (n+k)∧m=1):=by
 refine Ct.j7 gV func305 rfl ntmps305 rfl results305 fun H0 S0 w0 h0 g0=>?_;refine ia gV 200 _ _ (wE (m9) (neg (m9) (JK.call (n0:=1) (r:=id) (ID s n hs az) call349 rfl rfl rfl rfl rfl ⟨rfl,trivial⟩ rfl (fun i h=>h) ?_)));rintro g σ' n' ⟨rfl,rfl,rfl⟩;refine ia gV 200 _ _ (neg (m9) (JK.iT (α:=Nat) (β:=Unit) (fun i=>⟨[(0,.p 0 0),(21,gi k),(22,gi i),(6,gu (mD (((sb s).drop n).take i)))],p8 0 s (n+i),1⟩) (fun i=>i≤k) (fun i=>k-i) (fun _=>⟨[(0,.p 0 0),(6,gu (mD (((sb s).drop n).take k)))],p8 0 s (n+k),1⟩) (fun _=>True) 0 id ?_ (aQ _) ?_ ?_))
 ·exact⟨⟨rfl,rfl,rfl,rfl,trivial⟩,⟨rfl,trivial⟩,rfl⟩
 ·intro i hi;refine ia gV 200 _ _ ?_;by_cases hik:i<k
  ·refine pos (m9) ?_;obtain⟨x,hx,hb⟩:=Tf (s:=s) (k:=n+i) az;have e8:i64.wrap (((n+i:Nat):Int).tdiv 8)=(((n+i) /8:Nat):Int):=by rw[Qo,ic az az]
   refine⟨au,⟨az,⟨az,⟨x,by rw[e8];omega,by rw[e8];exact hx,⟨az,?_⟩⟩⟩⟩⟩;have e7:i64.wrap (7- ((n+i:Nat):Int).tmod 8)=i64.wrap (7- (((n+i) % 8:Nat):Int)):=by rw[wu]
   refine⟨by rw[e7,ic az az];omega,?_⟩;have hlen:(((sb s).drop n).take i).length≤63:=by rw[aY];omega
   have hw:=QW (mD (((sb s).drop n).take i)) x ((n+i) % 8) az (Lf hlen);refine⟨i+1,id,⟨⟨rfl,rfl,h_ az,?_,trivial⟩,⟨?_,trivial⟩,rfl⟩,az,m8⟩
   ·rw[D9 hb,vQ];rw[←wu]at hw;exact congrArg (fun x=>some (GV.v (.int .u64 x))) hw
   ·show some (hY.hZ _ [GV.v (.string s),gi (i64.wrap (((n+i:Nat):Int)+1))])=_;rw[ic az az];rfl
  ·have e:i=k:=az
   subst e;exact neg aA ⟨(),id,⟨⟨rfl,rfl,trivial⟩,⟨rfl,trivial⟩,rfl⟩,trivial⟩
 ·intro _ _;exact ia gV 200 _ _ ⟨rfl,rfl,rfl⟩
def Pr{f k:Nat}{B:List Bool}{b:Bool}(h:B[0]? =some b):yE (f+1) k B=if b then yE f (k+1) (B.drop 1) else some (k,B.drop 1):=by
 cases B with
 |nil=>cases h
 |cons x B=>simp at h;subst h;rfl
def SG{f k:Nat}{B:List Bool}(h:B=[]):yE (f+1) k B=none:=by subst h;rfl
theorem Cq(s:ByteArray)(n:Nat)(hs:s.size≤100000000)(hn:n≤8*s.size):Ct pg 260 1 [.p 0 0] (p8 0 s n) (fun g σ m=>m=1∧∃n',n≤n'∧n'≤8*s.size∧σ=p8 0 s n'∧
  ((∃v,vA ((sb s).drop n)=some (v,(sb s).drop n')∧g=.tup [gi v,.v .nilIface])∨(vA ((sb s).drop n)=none∧g=.tup [gi 0,.ifc 54 (gi 3)]))):=by
 refine Ct.j7 gV func260 rfl ntmps260 rfl results260 fun H0 S0 w0 h0 g0=>?_;have hsb:=LZ s;refine ia gV 200 _ _ ?_;refine JK.iT (α:=Nat) (β:=Nat×Nat) (fun k=>⟨[(0,.p 0 0),(4,gi k)],p8 0 s (n+k),1⟩) (fun k=>k≤6∧n+k≤8*s.size∧yE 6 0 ((sb s).drop n)=yE (6-k) k ((sb s).drop (n+k))) (fun k=>6-k)
  (fun y=>⟨[(0,.p 0 0),(4,gi y.1)],p8 0 s y.2,1⟩) (fun y=>y.1≤6∧n≤y.2∧y.2≤8*s.size∧yE 6 0 ((sb s).drop n)=some (y.1,(sb s).drop y.2)) 0 id ?_ ⟨by omega,by omega,rfl⟩ ?_ ?_
 ·exact⟨⟨rfl,rfl,trivial⟩,⟨rfl,trivial⟩,rfl⟩
 ·rintro k ⟨hk,hnk,hp⟩;refine ia gV 200 _ _ ?_;by_cases hk6:k<6
  ·refine pos (by simp<;>omega) ?_;have e6:6-k=6- (k+1)+1:=by omega
   rw[e6]at hp;by_cases hfit:n+k+1≤8*s.size
   ·obtain⟨b,hb⟩:∃b,(sb s)[n+k]? =some b:=⟨_,aC az⟩;have hb0:((sb s).drop (n+k))[0]? =some b:=by rw[bo];exact hb
    have hv:mD (((sb s).drop (n+k)).take 1)=b.toNat:=by
     have:=D9 (i:=0) (n:=n+k) hb;rw[show (0+1)=1 from rfl]at this;rw[this];simp[mD]
    rw[Pr hb0,dO]at hp;refine JK.call (n0:=1) (r:=id) (GF s (n+k) 1 hs az hfit) call305 rfl rfl rfl rfl rfl ⟨rfl,trivial⟩ rfl (fun i h=>h) ?_;rintro g σ' n' ⟨rfl,rfl,rfl⟩;refine ia gV 200 _ _ ?_;refine neg rfl ?_;cases b with
    |true=>
     refine neg (by rw[hv];rfl) ?_;refine⟨k+1,id,⟨⟨rfl,h_ az,trivial⟩,⟨rfl,trivial⟩,rfl⟩,⟨by omega,by omega,?_⟩,by show 6- (k+1)<6-k;omega⟩;simp only[↓reduceIte]at hp;exact hp
    |false=>
     refine pos (by rw[hv];rfl) ?_;refine⟨(k,n+k+1),id,⟨⟨rfl,rfl,trivial⟩,⟨rfl,trivial⟩,rfl⟩,hk,by show n≤n+k+1;omega,hfit,?_⟩;simp only[a7,↓reduceIte]at hp;exact hp
   ·refine JK.call (n0:=1) (r:=id) (HT s (n+k) 1 hs hnk az az) call305 rfl rfl rfl rfl rfl ⟨rfl,trivial⟩ rfl (fun i h=>h) ?_;rintro g σ' n' ⟨rfl,rfl,rfl⟩;refine ia gV 200 _ _ ?_;refine pos rfl ?_;refine⟨rfl,n+k,by omega,hnk,rfl,.inr ⟨?_,rfl⟩⟩;rw[SG (B:=(sb s).drop (n+k)) (f:=6- (k+1)) (k:=k) (fw az)]at hp;unfold vA;rw[hp]
  ·have e:k=6:=by omega
   subst e;refine neg rfl ?_;exact⟨(6,n+6),id,⟨⟨rfl,rfl,trivial⟩,⟨rfl,trivial⟩,rfl⟩,hk,by show n≤n+6;omega,hnk,hp⟩
 ·rintro⟨k,p⟩ ⟨hk,hnp,hps,hp⟩;simp only at hk hnp hps hp;have hsz:=yA k;refine ia gV 200 _ _ ?_;refine⟨by omega,by omega,?_⟩;refine tL (tc k hk) ?_;by_cases hfit:p+jd k≤8*s.size
  ·refine JK.call (n0:=1) (r:=id) (GF s p (jd k) hs hsz hfit) call305 rfl rfl rfl rfl rfl ⟨rfl,trivial⟩ rfl (fun i h=>h) ?_;rintro g σ' n' ⟨rfl,rfl,rfl⟩;have hlen:((((sb s).drop p).take (jd k)).length)≤64:=by rw[aY];omega
   have hu:=KI hlen;have hg:vA ((sb s).drop n)=if 0<k∧mD (((sb s).drop p).take (jd k)) >>>jd (k-1)=0 then none else some (xN (mD (((sb s).drop p).take (jd k))),(sb s).drop (p+jd k)):=by
    unfold vA;rw[hp];simp only;rw[if_neg (by rw[bw];omega),dO]
   generalize hU:mD (((sb s).drop p).take (jd k))=u at hu hg;refine ia gV 200 _ _ ?_;refine wE rfl ?_;by_cases hk0:0<k
   ·refine pos (by simp<;>omega) ?_;have e1:i64.wrap ((k:Int) -1)=((k-1:Nat):Int):=by rw[ic az az];omega
    refine⟨by rw[e1];omega,by rw[e1];omega,?_⟩;refine tL (g:=gi (jd (k-1):Nat)) (by rw[e1];exact tc (k-1) az) ?_;refine⟨by omega,?_⟩;have esh:(u:Int).fdiv (2^ (min ((jd (k-1):Nat):Int).toNat IntKind.u64.bits))=((u>>>jd (k-1):Nat):Int):=fdiv_pow u (jd (k-1)) 64 (yA _);by_cases h0:u>>>jd (k-1)=0
    ·refine pos (by rw[esh,h0];rfl) ?_;refine⟨rfl,p+jd k,by omega,hfit,rfl,.inr ⟨?_,rfl⟩⟩;rw[hg,if_pos ⟨hk0,h0⟩]
    ·refine neg (by rw[esh];exact beq_eq_false_iff_ne.2 (fun h=>h0 (Int.ofNat.inj h))) ?_;refine JK.call (n0:=0) (r:=id) (MR u hu) call306 rfl rfl rfl rfl rfl trivial rfl aA ?_;rintro g σ' n' ⟨rfl,rfl,rfl⟩;refine ia gV 200 _ _ ?_;refine⟨rfl,p+jd k,by omega,hfit,rfl,.inl ⟨xN u,?_,?_⟩⟩
     ·rw[hg,if_neg (fun h=>h0 h.2)]
     ·rfl
   ·refine neg (by simp<;>omega) ?_;refine JK.call (n0:=0) (r:=id) (MR u hu) call306 rfl rfl rfl rfl rfl trivial rfl aA ?_;rintro g σ' n' ⟨rfl,rfl,rfl⟩;refine ia gV 200 _ _ ?_;refine⟨rfl,p+jd k,by omega,hfit,rfl,.inl ⟨xN u,?_,?_⟩⟩
    ·rw[hg,if_neg (fun h=>hk0 h.1)]
    ·rfl
  ·refine JK.call (n0:=1) (r:=id) (HT s p (jd k) hs hps hsz az) call305 rfl rfl rfl rfl rfl ⟨rfl,trivial⟩ rfl (fun i h=>h) ?_;rintro g σ' n' ⟨rfl,rfl,rfl⟩;refine ia gV 200 _ _ ?_;refine pos' rfl ?_;refine⟨rfl,p,hnp,hps,rfl,.inr ⟨?_,rfl⟩⟩;unfold vA;rw[hp];simp only;rw[if_pos (by rw[bw];omega)]
theorem GH(l:List Sm)(hok:ke l=true):Ct pg 186 0 [.sl 2 (l.map sm)] [] (uj fun g=>g=.tup [.v (.string (enc l)),.v .nilIface]):=by
 obtain⟨hris,hlen⟩:=(ja l).1 hok;have hll:(l.map sm).length=l.length:=aD ..;refine Ct.val (Ct.j7 gV func186 rfl ntmps186 rfl results186 fun H0 S0 w0 h0 g0=>?_);refine ia gV 200 _ _ ?_;refine JK.call (n0:=0) (r:=id) (tq l) call180 rfl rfl rfl rfl rfl trivial rfl aA ?_;rintro g σ' n' ⟨rfl,rfl,rfl⟩;refine ia gV 200 _ _ ?_;refine neg (by rw[hok];rfl) ?_;refine JK.rX 0 0 5 1 rfl rfl ?_;refine JK.call (n0:=2) (r:=rr 0 1) (Ht [] ((l.map sm).length:Int) az az aA) call234 rfl rfl rfl rfl rfl ⟨rfl,rfl,trivial⟩ rfl av ?_;rintro g σ' n' ⟨rfl,rfl,rfl⟩;rw[hll,dy];refine ia gV 200 _ _ ?_;refine JK.iT (α:=Nat×List Bool×Sm×Int) (β:=Unit)
  (fun y=>⟨[(20,.sl 2 (l.map sm)),(21,gi (l.map sm).length),(22,gi y.1),(4,.p 0 0),(5,.p 2 0),(6,gi y.2.2.2)],oq 0 1 y.2.1++[(2,.hZ 109 (sm y.2.2.1))],3⟩)
  (fun y=>y.1≤l.length∧my l=y.2.1++nt (l.drop y.1) y.2.2.1 y.2.2.2 (y.1==0)∧Fit y.2.2.1 y.2.2.2) (fun y=>l.length-y.1)
  (fun _=>⟨[(4,.p 0 0)],oq 0 1 (my l),2⟩) (fun _=>True) (0,mz l.length,⟨0,0⟩,0) (fun i=>[0,2,3].getD i 0) ?_ ⟨aQ _,rfl,.zero⟩ ?_ ?_
 ·exact⟨⟨rfl,rfl,rfl,rfl,rfl,rfl,trivial⟩,⟨rfl,rfl,rfl,trivial⟩,rfl⟩
 ·rintro⟨i,bs,last,step⟩ ⟨hi,hc,hfit⟩;simp only at hi hc hfit;have hcl:=yt l;have hbl:bs.length≤300000:=by
   have:=congrArg List.length hc;rw[aI]at this;omega
  refine ia gV 200 _ _ ?_;by_cases hlt:i<l.length
  ·refine pos (by simp<;>omega) ?_;refine idx i rfl hlt ?_;have hx1:=hris.lo _ (aR hlt);have hx2:=hris.hi _ (aR hlt);have hd:=hfit.diff hx1 hx2;have ht1:=hfit.t1;have ht2:=hfit.t2;have e1:i64.wrap (l[i].time-last.time)=l[i].time-last.time:=ic az az;have e2:i64.wrap (i64.wrap (l[i].time-last.time) -step)=l[i].time-last.time-step:=by rw[e1,ic az az]
   refine JK.call (n0:=2) (r:=rr 0 1) (Ht bs (i64.wrap (i64.wrap (l[i].time-last.time) -step)) (by rw[e2];omega) (by rw[e2];omega) az) call234 rfl rfl rfl rfl rfl ⟨rfl,rfl,trivial⟩ rfl av ?_;rintro g σ' n' ⟨rfl,rfl,rfl⟩;rw[e2];have hp1:=(xD (l[i].time-last.time-step)).2;have hv:=zY (l[i].value-last.value);refine ia gV 200 _ _ ?_;refine JK.call (n0:=2) (r:=rr 0 4) (Ht (bs++mz (l[i].time-last.time-step)) (i64.wrap (l[i].value-last.value)) hv.1 hv.2 (by rw[aI];omega)) call234 rfl rfl rfl rfl rfl ⟨rfl,rfl,trivial⟩ rfl av ?_;rintro g σ' n' ⟨rfl,rfl,rfl⟩;refine ia gV 200 _ _ ?_;have hc':∀f,(i==0)=f→my l=(bs++mz (l[i].time-last.time-step)++mz (nT (l[i].value-last.value)))++nt (l.drop (i+1)) l[i] (if f then step else l[i].time-last.time) (i+1==0):=fun f hf=>by
    rw[hc,cn hlt,hf,show (i+1==0)=false from rfl,nt];simp only[aS]
   have hfn:=hfit.next hx1 hx2;by_cases h0:i=0
   ·refine neg (by simp<;>omega) ?_;have hf:(i==0)=true:=by simp[h0]
    refine⟨(i+1,bs++mz (l[i].time-last.time-step)++mz (nT (l[i].value-last.value)),l[i],step),(fun i=>[0,5,2].getD i 0),⟨⟨rfl,rfl,h_ az,rfl,rfl,rfl,trivial⟩,⟨rfl,rfl,rfl,trivial⟩,rfl⟩,⟨hlt,hc' true hf,?_⟩,by show l.length- (i+1)<l.length-i;omega⟩;exact hfn true
   ·refine pos (by simp<;>omega) ?_;have hf:(i==0)=false:=by simp[h0]
    refine⟨(i+1,bs++mz (l[i].time-last.time-step)++mz (nT (l[i].value-last.value)),l[i],l[i].time-last.time),(fun i=>[0,5,2].getD i 0),⟨⟨rfl,rfl,h_ az,rfl,rfl,?_,trivial⟩,⟨rfl,rfl,rfl,trivial⟩,rfl⟩,⟨hlt,hc' false hf,?_⟩,by show l.length- (i+1)<l.length-i;omega⟩
    ·show some (gi (i64.wrap (l[i].time-last.time)))=_;rw[e1];rfl
    ·exact hfn false
  ·have e:i=l.length:=by omega
   subst e;refine neg aA ?_;rw[dF,show∀a b c,nt [] a b c=[] from fun _ _ _=>rfl,aZ]at hc;exact⟨(),id,⟨⟨rfl,trivial⟩,⟨by rw[hc];rfl,by rw[hc];rfl,trivial⟩,rfl⟩,trivial⟩
 ·intro _ _;refine ia gV 200 _ _ ?_;refine JK.call (n0:=2) (r:=rr 0 1) (LM (my l)) call235 rfl rfl rfl rfl rfl ⟨rfl,rfl,trivial⟩ rfl av ?_;rintro g σ' n' ⟨rfl,rfl,rfl⟩;refine ia gV 200 _ _ ?_;exact⟨rfl,rfl⟩
theorem CE(l:List Sm)(hok:ke l=false):Ct pg 186 0 [.sl 2 (l.map sm)] [] (uj fun g=>g=.tup [.v (.string ⟨#[]⟩),.ifc 54 (gi 1)]):=by
 refine Ct.val (Ct.j7 gV func186 rfl ntmps186 rfl results186 fun H0 S0 w0 h0 g0=>(ia gV 200 _ _ (JK.call (n0:=0) (r:=id) (tq l) call180 rfl rfl rfl rfl rfl trivial rfl aA ?_)));rintro g σ' n' ⟨rfl,rfl,rfl⟩;exact ia gV 200 _ _ (pos (by rw[hok];rfl) ⟨rfl,rfl⟩)
def Qh(a b:ByteArray):(a.toList==b.toList)=decide (a=b):=by
 rw[cp];simp only[beq_iff_eq,decide_eq_true_eq];constructor
 ·intro h;rw[ByteArray.toList_eq,ByteArray.toList_eq]at h;exact WideShapes.bytes_inj h
 intro h;rw[h]
def n4(s:ByteArray)(g:GV):Prop:=
 (∃l,ke l=true/\lV l/\s=enc l/\g=.tup [.sl 2 (l.map sm),.v .nilIface])\/
 ((∀l,ke l=true->lV l->s≠enc l)/\g=.tup [.v (.slice none 0 0),.ifc 54 (gi 3)])
def n4.no{s:ByteArray}(h:∀l,ke l=true->lV l->s≠enc l):n4 s (.tup [.v (.slice none 0 0),.ifc 54 (gi 3)])/\iy 0 (.tup [.v (.slice none 0 0),.ifc 54 (gi 3)])=true:=⟨.inr ⟨h,rfl⟩,rfl⟩
def Part(s:ByteArray)(n i:Nat)(li:List Sm)(last:Sm)(step:Int)(p:Nat):Prop:=
 ∀L,ke L=true->lV L->s=enc L->n=L.length/\li=L.take i/\∃z,(sb s).drop p=nt (L.drop i) last step (i==0)++z
theorem IV(s:ByteArray)(hs:s.size≤1000000):Ct pg 204 0 [.v (.string s)] [] (uj (n4 s)):=by
 have hsb:=LZ s;have lwrap:∀x,i64.wrap x=nT x:=fun _=>rfl;refine Ct.val (Ct.j7 gV func204 rfl ntmps204 rfl results204 fun H0 S0 w0 h0 g0=>?_);refine ia gV 200 _ _ ?_;refine JK.call (n0:=0) (r:=id) (Rc s) call259 rfl rfl rfl rfl rfl trivial rfl aA ?_;rintro g σ' n' ⟨rfl,rfl,rfl⟩;refine ia gV 200 _ _ ?_;refine JK.call (n0:=1) (r:=id) (Cq s 0 az az) call260 rfl rfl rfl rfl rfl ⟨rfl,trivial⟩ rfl (fun i h=>by show i<1;omega) ?_;rintro g σ' n' ⟨rfl,p,hp1,hp2,rfl,hor⟩;rw[List.drop_zero]at hor;have hfirst:∀L,ke L=true→s=enc L→vA (sb s)=some ((L.length:Int),nt L ⟨0,0⟩ 0 true++List.replicate (8*(((my L).length+7) /8) - (my L).length) false):=fun L hL e=>by
  rw[e,Ca];unfold my;rw[aS];have:=((ja L).1 hL).2;exact xx _ az az _
 rcases hor with ⟨v,hv,rfl⟩|⟨hv,rfl⟩
 ·refine ia gV 200 _ _ ?_;refine wE rfl ?_;refine⟨fun hv0=>?_,fun hv0=>?_⟩
  ·refine⟨fun hv1=>?_,fun hv1=>?_⟩
   ·refine n4.no fun L hL hV e=>?_;rw[hfirst L hL e]at hv;simp only[aV,bK]at hv;have:=((ja L).1 hL).2;have hv1':v>2000:=of_decide_eq_true hv1;omega
   ·have hv0':¬v<0:=of_decide_eq_false hv0;have hv1':¬v>2000:=of_decide_eq_false hv1;obtain⟨n,rfl⟩:=Int.eq_ofNat_of_zero_le (show 0≤v by omega);have hn:n≤2000:=by omega
    refine JK.kx 7 109 2 rfl ?_;refine JK.iT (α:=Nat×List Sm×Sm×Int×Nat) (β:=List Sm)
     (fun y=>⟨[(0,.v (.string s)),(4,.p 0 0),(35,gi n),(36,gi y.1),(7,.o 1),(8,.p 2 0),(9,gi y.2.2.2.1)],p8 0 s y.2.2.2.2++[(1,.row 109 2 (y.2.1.map sm)),(2,.hZ 109 (sm y.2.2.1))],3⟩)
     (fun y=>y.1≤n∧y.2.1.length=y.1∧y.2.2.2.2≤8*s.size∧Fit y.2.2.1 y.2.2.2.1∧lV y.2.1∧Part s n y.1 y.2.1 y.2.2.1 y.2.2.2.1 y.2.2.2.2) (fun y=>n-y.1)
     (fun li=>⟨[(0,.v (.string s)),(7,.o 0)],[(0,.row 109 2 (li.map sm))],1⟩) (fun li=>li.length≤2000∧lV li∧∀L,ke L=true→lV L→s=enc L→li=L)
     (0,[],⟨0,0⟩,0,p) (fun i=>[0,2,1].getD i 0) ?_ ⟨aQ _,rfl,hp2,.zero,fun x hx=>by simp at hx,fun L hL hV e=>?_⟩ ?_ ?_
    ·exact⟨⟨rfl,rfl,rfl,rfl,rfl,rfl,rfl,trivial⟩,⟨rfl,rfl,rfl,trivial⟩,rfl⟩
    ·rw[hfirst L hL e]at hv;simp only[aV,bK]at hv;exact⟨by omega,rfl,_,hv.2.symm⟩
    ·rintro⟨i,li,last,step,p⟩ ⟨hi,hll,hp,hfit,hVl,hpart⟩;simp only at hi hll hp hfit hVl hpart;have hL:∀L,ke L=true→lV L→s=enc L→∃(_:i<n→i<L.length) (z:List Bool),n=L.length∧li=L.take i∧∀h:i<L.length,(sb s).drop p=mz (L[i].time-last.time-step)++(mz (nT (L[i].value-last.value))++(nt (L.drop (i+1)) L[i] (if (i==0)=true then step else L[i].time-last.time) false++z)):=fun L h1 h2 h3=>by
      obtain⟨e1,e2,z,e3⟩:=hpart L h1 h2 h3;refine⟨fun h=>by omega,z,e1,e2,fun h=>?_⟩;rw[e3,cn h,nt];simp only[aS]
     have ht1:=hfit.t1;have ht2:=hfit.t2;have hs1:=hfit.s1;have hs2:=hfit.s2;refine ia gV 200 _ _ ?_;by_cases hlt:i<n
     ·refine pos (by simp<;>omega) ?_;refine JK.call (n0:=1) (r:=id) (Cq s p az hp) call260 rfl rfl rfl rfl rfl ⟨rfl,trivial⟩ rfl (fun i h=>by show i<3;omega) ?_;rintro g σ' n' ⟨rfl,p1,hp1,hp1',rfl,hor1⟩;have hg1:∀L (h:i<L.length),ke L=true→lV L→s=enc L→∃z,vA ((sb s).drop p)=some (L[i].time-last.time-step,mz (nT (L[i].value-last.value))++(nt (L.drop (i+1)) L[i] (if (i==0)=true then step else L[i].time-last.time) false++z))∧ -4398046511104≤L[i].time-last.time-step∧L[i].time-last.time-step≤4398046511104:=fun L h h1 h2 h3=>by
       obtain⟨_,z,e1,e2,e3⟩:=hL L h1 h2 h3;obtain⟨hr,_⟩:=(ja L).1 h1;have hd:=hfit.diff (hr.lo _ (aR h)) (hr.hi _ (aR h));exact⟨z,by rw[e3 h];exact xx _ az az _,hd⟩
      have hlen:∀L,ke L=true→lV L→s=enc L→i<L.length:=fun L h1 h2 h3=>(hL L h1 h2 h3).1 hlt;rcases hor1 with ⟨d,hd,rfl⟩|⟨hd,rfl⟩
      ·have hg2:∀L (h:i<L.length),ke L=true→lV L→s=enc L→d=L[i].time-last.time-step∧∃z,vA ((sb s).drop p1)=some (nT (L[i].value-last.value),nt (L.drop (i+1)) L[i] (if (i==0)=true then step else L[i].time-last.time) false++z):=fun L h h1 h2 h3=>by
        obtain⟨z,e1,e2⟩:=hg1 L h h1 h2 h3;rw[e1]at hd;simp only[aV,bK]at hd;have hv:=zY (L[i].value-last.value);exact⟨hd.1.symm,z,by rw[←hd.2];exact xx _ hv.1 hv.2 _⟩
       refine ia gV 200 _ _ ?_;refine JK.call (n0:=1) (r:=id) (Cq s p1 az hp1') call260 rfl rfl rfl rfl rfl ⟨rfl,trivial⟩ rfl (fun i h=>by show i<3;omega) ?_;rintro g2 σ' n' ⟨rfl,p2,hp2,hp2',rfl,hor2⟩;rcases hor2 with ⟨v,hv,rfl⟩|⟨hv,rfl⟩
       ·refine ia gV 200 _ _ ?_;refine wE rfl ?_;refine wE rfl ?_;by_cases CJ:d< -4398046511104
        ·refine pos' (decide_eq_true CJ) ?_;refine n4.no fun L h1 h2 h3=>?_;obtain⟨_,_,e2⟩:=hg1 L (hlen L h1 h2 h3) h1 h2 h3;have:=(hg2 L (hlen L h1 h2 h3) h1 h2 h3).1;omega
        ·refine wE (decide_eq_false CJ) ?_;by_cases IT:d>4398046511104
         ·refine pos (decide_eq_true IT) ?_;refine n4.no fun L h1 h2 h3=>?_;obtain⟨_,_,e2⟩:=hg1 L (hlen L h1 h2 h3) h1 h2 h3;have:=(hg2 L (hlen L h1 h2 h3) h1 h2 h3).1;omega
         ·refine neg (decide_eq_false IT) ?_;have ed:i64.wrap (d+step)=d+step:=ic az az;have et:i64.wrap (last.time+i64.wrap (d+step))=last.time+(d+step):=by rw[ed];exact ic az az
          have elo:(if i64.wrap ((i:Int) -1) >0 then i64.wrap ((i:Int) -1) else 0)=((i-1:Nat):Int):=by
           rw[ic az az];split<;>omega
          have hxL':∀L (h:i<L.length),ke L=true→lV L→s=enc L→(⟨i64.wrap (last.time+i64.wrap (d+step)),i64.wrap (last.value+v)⟩:Sm)=L[i]:=fun L h h1 h2 h3=>by
           obtain⟨ea,z2,eb⟩:=hg2 L h h1 h2 h3;rw[eb]at hv;simp only[aV,bK]at hv;have hval:=h2 _ (aR h);have e1:i64.wrap (last.time+i64.wrap (d+step))=L[i].time:=by rw[et,ea];omega
           have e2:i64.wrap (last.value+v)=L[i].value:=by
            rw[←hv.1];show nT (last.value+nT (L[i].value-last.value))=_;rw[Ex,show last.value+(L[i].value-last.value)=L[i].value by omega];exact xr hval.1 hval.2
           rw[e1,e2]
          have hxt:(⟨i64.wrap (last.time+i64.wrap (d+step)),i64.wrap (last.value+v)⟩:Sm).time=last.time+(d+step):=et;obtain⟨x,hxe⟩:∃x:Sm,x=⟨i64.wrap (last.time+i64.wrap (d+step)),i64.wrap (last.value+v)⟩:=⟨_,rfl⟩;have hxL:∀L (h:i<L.length),ke L=true→lV L→s=enc L→x=L[i]:=fun L h h1 h2 h3=>by rw[hxe];exact hxL' L h h1 h2 h3
          have hx:∀L,ke L=true→lV L→s=enc L→li++[x]=L.take (i+1):=fun L h1 h2 h3=>by
           have hiL:=hlen L h1 h2 h3;obtain⟨_,_,_,e2,_⟩:=hL L h1 h2 h3;rw[a6 hiL,←e2,hxL L hiL h1 h2 h3]
          rw[←hxe]at hxt;have hxv:kp x.value:=by rw[hxe];exact zY _
          have hxs:sm x=sm ⟨i64.wrap (last.time+i64.wrap (d+step)),i64.wrap (last.value+v)⟩:=by rw[hxe]
          by_cases h0:i=0
          ·refine neg (by simp<;>omega) ?_;refine⟨by simp<;>omega,?_⟩;refine JK.Gx (ty:=109) (rows:=li.map sm++[sm ⟨i64.wrap (last.time+i64.wrap (d+step)),i64.wrap (last.value+v)⟩]) (sz:=2) gV rfl rfl rfl rfl rfl rfl rfl rfl rfl rfl (by rw[elo];omega) (by rw[elo];simp<;>omega) (bY _) ?_;refine JK.AJ (tq ((li++[x]).drop (i-1))) call180 rfl rfl rfl rfl ⟨⟨rfl,rfl,by rw[elo];simp<;>omega,?_⟩,trivial⟩ (by rintro g σ' n' ⟨rfl,rfl,rfl⟩;rfl) ?_
           ·rw[elo,bj,bj];show _=List.take ((li.map sm++[sm ⟨i64.wrap (last.time+i64.wrap (d+step)),i64.wrap (last.value+v)⟩]).length- (i-1)) (List.drop (i-1) (li.map sm++[sm ⟨i64.wrap (last.time+i64.wrap (d+step)),i64.wrap (last.value+v)⟩]));rw[←hxs,←bw,aT,gU,aP];rfl
           rintro g σ' n' ⟨rfl,rfl,rfl⟩;refine ia gV 200 _ _ ?_;cases hok:ke ((li++[x]).drop (i-1)) with
           |false=>
            refine pos rfl ?_;refine n4.no fun L h1 h2 h3=>?_;have:=hx L h1 h2 h3;rw[this]at hok;have hr:=(ja L).1 h1;have:ke ((L.take (i+1)).drop (i-1))=true:=(ja _).2 ⟨(hr.1.takeN _).Qw _,by simp;omega⟩;rw[this]at hok;cases hok
           |true=>
            refine neg rfl ?_;obtain⟨hr,_⟩:=(ja _).1 hok;have hmem:x∈(li++[x]).drop (i-1):=by
             rw[dC az];simp
            have hb1:=hr.lo x hmem;have hb2:=hr.hi x hmem;refine⟨(i+1,li++[x],x,step,p2),(fun i=>[0,4,2].getD i 0),⟨⟨rfl,rfl,rfl,h_ az,rfl,rfl,rfl,trivial⟩,⟨rfl,?_,?_,trivial⟩,rfl⟩,⟨hlt,by simp[hll],hp2',?_,?_,?_⟩,by show n- (i+1)<n-i;omega⟩
            ·rw[aP,show [x].map sm=[sm x] from rfl,hxs];rfl
            ·exact congrArg (fun c=>some (hY.hZ 109 c)) hxs.symm
            ·exact⟨hb1,hb2,hs1,hs2⟩
            ·intro y hy;rcases aE.1 hy with hy|hy
             ·exact hVl y hy
             ·have:y=x:=by simpa using hy
              subst this;exact hxv
            ·intro L h1 h2 h3;obtain⟨q,z,e1,e2,_⟩:=hL L h1 h2 h3;have hiL:=hlen L h1 h2 h3;obtain⟨ea,z2,eb⟩:=hg2 L hiL h1 h2 h3;refine⟨e1,hx L h1 h2 h3,z2,?_⟩;rw[eb]at hv;simp only[aV,bK]at hv;rw[←hv.2,hxL L hiL h1 h2 h3,if_pos (by simp[h0])];rfl
          ·refine pos (by simp<;>omega) ?_;refine⟨by simp<;>omega,?_⟩;refine JK.Gx (ty:=109) (rows:=li.map sm++[sm ⟨i64.wrap (last.time+i64.wrap (d+step)),i64.wrap (last.value+v)⟩]) (sz:=2) gV rfl rfl rfl rfl rfl rfl rfl rfl rfl rfl (by rw[elo];omega) (by rw[elo];simp<;>omega) (bY _) ?_;refine JK.AJ (tq ((li++[x]).drop (i-1))) call180 rfl rfl rfl rfl ⟨⟨rfl,rfl,by rw[elo];simp<;>omega,?_⟩,trivial⟩ (by rintro g σ' n' ⟨rfl,rfl,rfl⟩;rfl) ?_
           ·rw[elo,bj,bj];show _=List.take ((li.map sm++[sm ⟨i64.wrap (last.time+i64.wrap (d+step)),i64.wrap (last.value+v)⟩]).length- (i-1)) (List.drop (i-1) (li.map sm++[sm ⟨i64.wrap (last.time+i64.wrap (d+step)),i64.wrap (last.value+v)⟩]));rw[←hxs,←bw,aT,gU,aP];rfl
           rintro g σ' n' ⟨rfl,rfl,rfl⟩;refine ia gV 200 _ _ ?_;cases hok:ke ((li++[x]).drop (i-1)) with
           |false=>
            refine pos rfl ?_;refine n4.no fun L h1 h2 h3=>?_;have:=hx L h1 h2 h3;rw[this]at hok;have hr:=(ja L).1 h1;have:ke ((L.take (i+1)).drop (i-1))=true:=(ja _).2 ⟨(hr.1.takeN _).Qw _,by simp;omega⟩;rw[this]at hok;cases hok
           |true=>
            refine neg rfl ?_;obtain⟨hr,_⟩:=(ja _).1 hok;have hmem:x∈(li++[x]).drop (i-1):=by
             rw[dC az];simp
            have hb1:=hr.lo x hmem;have hb2:=hr.hi x hmem;refine⟨(i+1,li++[x],x,d+step,p2),(fun i=>[0,4,2].getD i 0),⟨⟨rfl,rfl,rfl,h_ az,rfl,rfl,(by show some (gi (i64.wrap (d+step)))=_;rw[ed];rfl),trivial⟩,⟨rfl,?_,?_,trivial⟩,rfl⟩,⟨hlt,by simp[hll],hp2',?_,?_,?_⟩,by show n- (i+1)<n-i;omega⟩
            ·rw[aP,show [x].map sm=[sm x] from rfl,hxs];rfl
            ·exact congrArg (fun c=>some (hY.hZ 109 c)) hxs.symm
            ·exact⟨hb1,hb2,by show-2199023255552≤d+step;omega,by show d+step≤2199023255552;omega⟩
            ·intro y hy;rcases aE.1 hy with hy|hy
             ·exact hVl y hy
             ·have:y=x:=by simpa using hy
              subst this;exact hxv
            ·intro L h1 h2 h3;obtain⟨q,z,e1,e2,_⟩:=hL L h1 h2 h3;have hiL:=hlen L h1 h2 h3;obtain⟨ea,z2,eb⟩:=hg2 L hiL h1 h2 h3;refine⟨e1,hx L h1 h2 h3,z2,?_⟩;rw[eb]at hv;simp only[aV,bK]at hv;rw[←hv.2,hxL L hiL h1 h2 h3,if_neg (by simp[h0]),show L[i].time-last.time=d+step by omega];rfl
       ·refine ia gV 200 _ _ ?_;refine wE rfl ?_;refine pos' rfl ?_;refine n4.no fun L h1 h2 h3=>?_;obtain⟨_,z,e⟩:=hg2 L (hlen L h1 h2 h3) h1 h2 h3;rw[e]at hv;cases hv
      ·have hno:∀L,ke L=true→lV L→s≠enc L:=fun L h1 h2 h3=>by
        obtain⟨z,e,_⟩:=hg1 L (hlen L h1 h2 h3) h1 h2 h3;rw[e]at hd;cases hd
       refine ia gV 200 _ _ ?_;refine JK.call (n0:=1) (r:=id) (Cq s p1 az hp1') call260 rfl rfl rfl rfl rfl ⟨rfl,trivial⟩ rfl (fun i h=>by show i<3;omega) ?_;rintro g2 σ' n' ⟨rfl,p2,hp2,hp2',rfl,hor2⟩;rcases hor2 with ⟨v,hv,rfl⟩|⟨hv,rfl⟩
       ·refine ia gV 200 _ _ ?_;refine pos' rfl ?_;exact n4.no hno
       ·refine ia gV 200 _ _ ?_;refine pos' rfl ?_;exact n4.no hno
     ·have e:i=n:=by omega
      refine neg (by simp<;>omega) ?_;refine⟨li,(fun i=>[1].getD i 0),⟨⟨rfl,rfl,trivial⟩,⟨rfl,trivial⟩,rfl⟩,by omega,hVl,fun L h1 h2 h3=>?_⟩;obtain⟨_,_,e1,e2,_⟩:=hL L h1 h2 h3;rw[e2];exact cv az
    ·rintro li ⟨hn2,hVl,hLl⟩;refine ia gV 200 _ _ ?_;cases hok:ke li with
     |true=>
      refine JK.AJ (GH li hok) call186 rfl rfl rfl rfl ⟨⟨rfl,rfl⟩,trivial⟩ (by rintro g σ' n' ⟨rfl,rfl,rfl⟩;rfl) ?_;rintro g σ' n' ⟨rfl,rfl,rfl⟩;refine JK.freeze 0 (ty:=109) (sz:=2) (rows:=li.map sm) rfl ?_;refine ia gV 200 _ _ ?_;refine wE rfl ?_;by_cases he:enc li=s
      ·refine neg (by rw[Qh,he];simp) ?_;exact⟨.inl ⟨li,hok,hVl,he.symm,rfl⟩,rfl⟩
      ·refine pos (by rw[Qh];simp[he]) ?_;refine n4.no fun L h1 h2 h3=>?_;have:=hLl L h1 h2 h3;subst this;exact he h3.symm
     |false=>
      refine JK.AJ (CE li hok) call186 rfl rfl rfl rfl ⟨⟨rfl,rfl⟩,trivial⟩ (by rintro g σ' n' ⟨rfl,rfl,rfl⟩;rfl) ?_;rintro g σ' n' ⟨rfl,rfl,rfl⟩;refine ia gV 200 _ _ ?_;refine pos' rfl ?_;refine n4.no fun L h1 h2 h3=>?_;have:=hLl L h1 h2 h3;subst this;rw[h1]at hok;cases hok
  ·refine n4.no fun L hL hV e=>?_;rw[hfirst L hL e]at hv;simp only[aV,bK]at hv;have hv0':v<0:=of_decide_eq_true hv0;omega
 ·refine ia gV 200 _ _ ?_;refine pos' rfl ?_;exact n4.no fun L hL hV e=>by rw[hfirst L hL e]at hv;cases hv
def QB{f:FuncId}{args:List GV}{Q:GV->Prop}(hc:∀a w,(callFunc f a).run pg.P w=.ok (.enter f a) w)(h:Ct pg f 0 args [] (uj Q))(hi:∀g,Q g->iy 0 g=true):Rq pg f args Q:=
 ⟨hc,λH us w hn hg hcs hs=>(h H us w hn hg hcs hs).mono λ_ _ ⟨u,g,H',σ',e',hi',hs',hfr,hv,r⟩=>⟨u,g,H',σ',e',hi',hs',hfr,⟨hv,hi g hv⟩,r⟩⟩
def n4.id{t:ByteArray}{g:GV}(h:n4 t g):iy 0 g=true:=by
 rcases h with ⟨l,_,_,_,rfl⟩|⟨_,rfl⟩<;>rfl
def zi{t:ByteArray}{xs:List Sm}(ht:t.size<=1000000)(h:sQ t=some xs):Rt pg 204 [gs t] (.tup [rL xs,.v .nilIface]):=by
 refine (QB call204 (IV t ht) λ_=>n4.id).sub λg hg=>?_;obtain⟨h1,h2,h3⟩:=EX h;rcases hg with ⟨l,e1,e2,e3,rfl⟩|⟨hno,_⟩
 ·have:=DE e1 e2 e3;rw[h]at this;cases this;exact⟨_,Sub.rfl,rfl,rfl⟩
 exact absurd h3 (hno _ h1 h2)
def B2{t:ByteArray}(ht:t.size<=1000000)(h:sQ t=none):Rt pg 204 [gs t] (.tup [rL [],.ifc 54 (gi 3)]):=by
 refine (QB call204 (IV t ht) λ_=>n4.id).sub λg hg=>?_;rcases hg with ⟨l,e1,e2,e3,rfl⟩|⟨hno,rfl⟩
 ·have:=DE e1 e2 e3;rw[h]at this;cases this
 exact⟨.tup [rL [],.ifc 54 (gi 3)],Sub.UZ (Sub.nil 2) Sub.rfl,rfl,rfl⟩
def Kx{i:Nat}{s s1:ByteArray}{l:List gY}(h:kI i s=some (l,s1)):kI (i+1) s=(match rn s1 with|none=>none|some (x,r)=>some (l++[x],r)):=by
 conv=>lhs;unfold kI
 rw[h];rfl
def Q1(s:ByteArray):rn s=(match xo s with|none=>none|some (l,r)=>(match lz r with|none=>none|some (t,r2)=>match sQ t with|none=>none|some xs=>some (⟨l,xs⟩,r2))):=by
 unfold rn xo;cases mX s with
 |none=>rfl
 |some x=>
  obtain⟨l,r⟩:=x;simp only;by_cases h:iS l=true
  ·rw[if_pos h,if_pos h];rfl
  rw[if_neg h,if_neg h]
def Ou{s r:ByteArray}{l:List Lb}(h:xo s=some (l,r)):r.size<=s.size:=by
 unfold xo at h;cases hl:mX s with
 |none=>rw[hl]at h;cases h
 |some x=>
  obtain⟨l0,r0⟩:=x;rw[hl]at h;have:=(z8 hl).1;simp only at h;split at h
  ·cases h;omega
  cases h
def cl(v b:Bool):GV:=bif v then .v (.bool b) else .b b
def Qi(v b:Bool):lL (.b b) (cl v b):=by cases v<;>rfl
theorem Cp(s:ByteArray)(b:Bool)(hs:b=false→s.size≤1000000):Hf pg 149 1 [.p 0 0] [rd s b] (Fa 232 (mj b (lO s)) (jn []) jn):=by
 refine C4 (Sub.nil 2) rfl (fun _=>rfl) ?_;have hc:=EJ s b s.size;refine Hf.of gV func149 rfl ntmps149 rfl results149 call149 fun H0 S0 w0 h0 g0=>?_;refine ig hc id rfl rfl ⟨rfl,trivial⟩ rfl ay ?_;rintro _ _ _ ⟨⟨k,s0,b0,rfl,rfl,hk8,hbt,hbf⟩,rfl⟩;have hno:(b0=true∨∃i,i≤k∧kI i s0=none)→mj b (lO s)=none:=by
  intro h;cases b0 with
  |true=>
   refine xK (hbt rfl).2 fun e=>?_;rw[zo];unfold oH at e;cases hn:kf s with
   |none=>rfl
   |some x=>
    obtain⟨n,r⟩:=x;rw[hn]at e;simp only at e⊢;split at e
    ·cases e
    ·rename_i hc
     rw[if_neg hc]
  |false=>
   obtain⟨i,hi,h2⟩:=h.resolve_left ax;obtain⟨rfl,hz⟩:=hbf rfl;obtain⟨z1,z2,z3,z4⟩:=pL hz;show lO s=none;rw[zo,z4];simp only;rw[if_pos ⟨z2,z3⟩,bj];exact KD hi h2
 have hyes:∀l r,b0=false→kI k s0=some (l,r)→mj b (lO s)=some (l,r):=by
  intro l r e h;obtain⟨rfl,hz⟩:=hbf e;obtain⟨z1,z2,z3,z4⟩:=pL hz;show lO s=_;rw[zo,z4];simp only;rw[if_pos ⟨z2,z3⟩,bj,h]
 have hsz:b0=false→s0.size≤s.size:=fun e=>by
  obtain⟨rfl,hz⟩:=hbf e;have:=(pL hz).1;omega
 refine JK.kx 3 105 2 rfl ?_;refine JK.iT (α:=Nat×List gY×ByteArray×Bool×Bool) (β:=List gY×ByteArray×Bool×Bool) (fun a=>⟨[(0,.p 0 0),(3,.o 1),(12,gi k),(13,gi a.1)],[(0,.hZ 232 [gs a.2.2.1,cl a.2.2.2.2 a.2.2.2.1]),(1,.row 105 2 (a.2.1.map se))],2⟩)
  (fun a=>a.1≤k∧a.2.1.length=a.1∧(a.2.2.2.1=false→b0=false∧kI a.1 s0=some (a.2.1,a.2.2.1))∧(a.2.2.2.1=true→b0=true∨kI a.1 s0=none)) (fun a=>k-a.1)
  (fun a=>⟨[(0,.p 0 0),(3,.o 1)],[(0,.hZ 232 [gs a.2.1,cl a.2.2.2 a.2.2.1]),(1,.row 105 2 (a.1.map se))],2⟩) (fun a=>(a.2.2.1=false→b0=false∧kI k s0=some (a.1,a.2.1))∧(a.2.2.1=true→b0=true∨kI k s0=none)) (0,[],s0,b0,false) id ?_ ?_ ?_ ?_
 ·exact⟨⟨rfl,rfl,rfl,rfl,trivial⟩,⟨rfl,rfl,trivial⟩,rfl⟩
 ·exact⟨aQ _,rfl,fun e=>⟨e,rfl⟩,fun e=>.inl e⟩
 ·rintro⟨i,l,s1,b1,v1⟩ ⟨hi,hl,hf,ht⟩;replace hi:i≤k:=hi;replace hl:l.length=i:=hl;replace hf:b1=false→b0=false∧kI i s0=some (l,s1):=hf;replace ht:b1=true→b0=true∨kI i s0=none:=ht;refine JK.ri 0 [gs s1,.b b1] rfl ⟨rfl,Qi v1 b1,trivial⟩ ?_;refine V ?_;by_cases hlt:i<k
  ·refine p1 ?_ aj;cases b1 with
   |true=>
    rw[hno ((ht rfl).imp id fun h=>⟨i,hi,h⟩)];refine p1 ?_;exact⟨rfl,rfl,s1,_,rfl,rfl⟩
   |false=>
    refine p2 ?_;obtain⟨hb0,h1⟩:=hf rfl;have hs:=hs (hbf hb0).1;have hs1:s1.size≤1000000:=by
     have:=(uA h1).1;have:=hsz hb0;omega
    have hnx:=Kx h1;rw[Q1]at hnx;have hla:=Kn s1 false hs1;have fin:∀(x:gY) (s4:ByteArray) (v:Bool),kI (i+1) s0=none→i+1≤k∧(l++[x]).length=i+1∧(true=false→b0=false∧kI (i+1) s0=some (l++[x],s4))∧(true=true→b0=true∨kI (i+1) s0=none):=
     fun x s4 v h=>⟨hlt,by simp[hl],fun e=>(by cases e),fun _=>.inr h⟩
    cases hP:xo s1 with
    |none=>
     rw[hP]at hnx;simp only at hnx;refine ig (zp hla hP) id rfl rfl ⟨rfl,trivial⟩ rfl ay ?_;rintro _ _ _ ⟨rfl,⟨s2,rfl⟩,rfl⟩;refine ig (zp (s6 s2 true) rfl) id rfl rfl ⟨rfl,trivial⟩ rfl ay ?_;rintro _ _ _ ⟨rfl,⟨s3,rfl⟩,rfl⟩;cases hd:sQ ByteArray.empty with
     |none=>
      refine GO (B2 ax hd) rfl ?_
      repeat (first|refine p1 ?_|refine p2 ?_|refine p3 ?_|refine p4 ?_)
      refine⟨by simp only[aD,aB,aM];omega,?_⟩;refine⟨(i+1,l++[⟨[],[]⟩],s3,true,true),r1 1 4,⟨⟨rfl,rfl,rfl,h_ az,trivial⟩,⟨rfl,?_,trivial⟩,rfl⟩,fin _ s3 true hnx,by show k- (i+1)<k-i;omega⟩;exact uZ l ⟨[],[]⟩
     |some xs=>
      refine GO (zi ax hd) rfl ?_
      repeat (first|refine p1 ?_|refine p2 ?_|refine p3 ?_|refine p4 ?_)
      refine⟨by simp only[aD,aB,aM];omega,?_⟩;refine⟨(i+1,l++[⟨[],xs⟩],s3,true,false),r1 1 4,⟨⟨rfl,rfl,rfl,h_ az,trivial⟩,⟨rfl,?_,trivial⟩,rfl⟩,fin _ s3 true hnx,by show k- (i+1)<k-i;omega⟩;exact uZ l ⟨[],xs⟩
    |some x=>
     obtain⟨ls,s2⟩:=x;rw[hP]at hnx;simp only at hnx;refine ig (ui hla hP) id rfl rfl ⟨rfl,trivial⟩ rfl ay ?_;rintro _ _ _ ⟨rfl,rfl,rfl⟩;have hs2:=Ou hP;have htx:=s6 s2 false;cases hP2:lz s2 with
     |none=>
      rw[hP2]at hnx;simp only at hnx;refine ig (zp htx hP2) id rfl rfl ⟨rfl,trivial⟩ rfl ay ?_;rintro _ _ _ ⟨rfl,⟨s3,rfl⟩,rfl⟩;cases hd:sQ ByteArray.empty with
      |none=>
       refine GO (B2 ax hd) rfl ?_
       repeat (first|refine p1 ?_|refine p2 ?_|refine p3 ?_|refine p4 ?_)
       refine⟨by simp only[aD,aB,aM];omega,?_⟩;refine⟨(i+1,l++[⟨ls,[]⟩],s3,true,true),r1 1 4,⟨⟨rfl,rfl,rfl,h_ az,trivial⟩,⟨rfl,?_,trivial⟩,rfl⟩,fin _ s3 true hnx,by show k- (i+1)<k-i;omega⟩;exact uZ l ⟨ls,[]⟩
      |some xs=>
       refine GO (zi ax hd) rfl ?_
       repeat (first|refine p1 ?_|refine p2 ?_|refine p3 ?_|refine p4 ?_)
       refine⟨by simp only[aD,aB,aM];omega,?_⟩;refine⟨(i+1,l++[⟨ls,xs⟩],s3,true,false),r1 1 4,⟨⟨rfl,rfl,rfl,h_ az,trivial⟩,⟨rfl,?_,trivial⟩,rfl⟩,fin _ s3 true hnx,by show k- (i+1)<k-i;omega⟩;exact uZ l ⟨ls,xs⟩
     |some x=>
      obtain⟨t,s3⟩:=x;rw[hP2]at hnx;simp only at hnx;have ht3:=uu hP2;refine ig (ui htx hP2) id rfl rfl ⟨rfl,trivial⟩ rfl ay ?_;rintro _ _ _ ⟨rfl,rfl,rfl⟩;cases hd:sQ t with
      |none=>
       refine GO (B2 az hd) rfl ?_;rw[hd]at hnx;simp only at hnx
       repeat (first|refine p1 ?_|refine p2 ?_|refine p3 ?_|refine p4 ?_)
       refine⟨by simp only[aD,aB,aM];omega,?_⟩;refine⟨(i+1,l++[⟨ls,[]⟩],s3,true,true),r1 1 4,⟨⟨rfl,rfl,rfl,h_ az,trivial⟩,⟨rfl,?_,trivial⟩,rfl⟩,fin _ s3 true hnx,by show k- (i+1)<k-i;omega⟩;exact uZ l ⟨ls,[]⟩
      |some xs=>
       refine GO (zi az hd) rfl ?_;rw[hd]at hnx;simp only at hnx
       repeat (first|refine p1 ?_|refine p2 ?_|refine p3 ?_|refine p4 ?_)
       refine⟨by simp only[aD,aB,aM];omega,?_⟩;refine⟨(i+1,l++[⟨ls,xs⟩],s3,false,false),r1 1 4,⟨⟨rfl,rfl,rfl,h_ az,trivial⟩,⟨rfl,?_,trivial⟩,rfl⟩,⟨hlt,by simp[hl],fun _=>⟨hb0,hnx⟩,fun e=>(by cases e)⟩,by show k- (i+1)<k-i;omega⟩;exact uZ l ⟨ls,xs⟩
  ·obtain rfl:i=k:=by omega
   refine p2 ?_ ai;exact⟨(l,s1,b1,false),id,⟨⟨rfl,rfl,trivial⟩,⟨rfl,rfl,trivial⟩,rfl⟩,hf,ht⟩
 ·rintro⟨l,s1,b1,v1⟩ ⟨hf,ht⟩;replace hf:b1=false→b0=false∧kI k s0=some (l,s1):=hf;replace ht:b1=true→b0=true∨kI k s0=none:=ht;refine JK.ri 0 [gs s1,.b b1] rfl ⟨rfl,Qi v1 b1,trivial⟩ ?_;refine ot 1 rfl ?_;cases b1 with
  |true=>
   rw[hno ((ht rfl).imp id fun h=>⟨k,aL k,h⟩)];refine p1 ?_;exact⟨rfl,rfl,s1,_,rfl,rfl⟩
  |false=>
   rw[hyes l s1 (hf rfl).1 (hf rfl).2];refine p2 ?_;exact⟨rfl,rfl,rfl⟩
abbrev wH(b r:Nat)(bs:List UInt8):Heap:=[(b,.hZ 184 [.o r]),(r,.row 5 1 (bs.map jX))]
def Tw{u j:Nat}(h:j<8):(lr u)[j]? =some (UInt8.ofNat (u/2^ (8*(7-j)))):=by
 match j,h with
 |0,_|1,_|2,_|3,_|4,_|5,_|6,_=>rfl
 |7,_=>show some (UInt8.ofNat u)=some (UInt8.ofNat (u/1));rw[Nat.div_one]
def Ja(bs:List UInt8)(n:Int)(j:Nat)(h:j<8)(X:Int)(hX:X=((UInt8.ofNat (uN n/2^ (8*(7-j)))).toNat:Int)):
  some (hY.row 5 1 ((bs++(lr (uN n)).take j).map jX++[[GV.v (.int .u8 X)]]))=some (hY.row 5 1 ((bs++(lr (uN n)).take (j+1)).map jX)):=by
 refine congrArg (λx=>some (hY.row 5 1 x)) ?_;rw[bx,Tw h,hX];simp only[aP,aS];rfl
def G7(n:Int)(j:Nat)(h:j<8):u8.wrap ((u64.wrap n).fdiv (2^min (i64.wrap (8*(7- (j:Int)))).toNat IntKind.u64.bits))=((UInt8.ofNat (uN n/2^ (8*(7-j)))).toNat:Int):=by
 have e1:i64.wrap (8*(7- (j:Int)))=((8*(7-j):Nat):Int):=by rw[ic az az];omega
 have e2:u64.wrap n=((uN n:Nat):Int):=by rw[IntKind.wrap_u64];unfold uN;omega
 rw[e1,e2,show IntKind.u64.bits=64 from rfl,fdiv_pow (uN n) (8*(7-j)) 64 az,P5,cB]
theorem p5(bs:List UInt8)(n:Int)(hl:bs.length≤1000000000):Hf pg 108 2 [.p 0 0,gi n] (wH 0 1 bs) (fun g σ m=>g=.tup []∧σ=wH 0 2 (bs++lr (uN n))∧m=3):=by
 refine Hf.of gV func108 rfl ntmps108 rfl results108 call108 fun H0 S0 w0 h0 g0=>?_;refine JK.iT (α:=Nat) (β:=Unit) (fun j=>⟨[(0,.p 0 0),(1,gi n),(4,gi (7- (j:Int)))],wH 0 2 (bs++(lr (uN n)).take j),3⟩) (fun j=>j≤8) (fun j=>8-j)
  (fun _=>⟨[],wH 0 2 (bs++lr (uN n)),3⟩) (fun _=>True) 0 (r1 2 1) ?_ ax ?_ ?_
 ·exact⟨⟨rfl,rfl,rfl,trivial⟩,⟨rfl,by rw[eF,aZ];rfl,trivial⟩,rfl⟩
 ·intro j hj;refine V ?_;by_cases hlt:j<8
  ·refine p1 ?_ aj;refine JK.pb [0,2] ⟨[(0,.p 0 0),(1,gi n),(4,gi (7- (j:Int)))],wH 0 2 (bs++(lr (uN n)).take (j+1)),3⟩ gV ?_ (fun hk=>?_)
   ·refine V ?_;refine⟨j+1,id,⟨⟨rfl,rfl,?_,trivial⟩,⟨rfl,rfl,trivial⟩,rfl⟩,hlt,by show 8- (j+1)<8-j;omega⟩;rw[ic az az];exact congrArg (fun x=>some (gi x)) (show (7:Int) - (j:Int) -1=7- ((j+1:Nat):Int) by omega)
   ·refine RA.run (cx:=⟨pg,_,_,_,_,_,_,_⟩) gV au ak (tk [0,1,2,3,5,6,7,8,9,10]) (e:=false) au ?_;refine⟨by rw[ic az az];omega,?_⟩;refine RA.both 4 11 (iV au) (iY.read 4 gV rfl rfl ?_) (iY.mem 11 gV rfl rfl rfl ?_)
    ·refine RA.run (cx:=⟨pg,_,_,_,_,_,_,_⟩) gV au ak (al [11,12]++tk [13,14]++al [15]) (e:=false) au ?_;refine⟨by simp only[aD,aI,aY,aB,aM];omega,?_⟩;refine RA.kD (r1 2 4) au hk ⟨⟨rfl,rfl,rfl,trivial⟩,⟨rfl,?_,trivial⟩,rfl⟩;refine Ja bs n j hlt _ ?_;exact G7 n j hlt
    ·refine RA.run (cx:=⟨pg,_,_,_,_,_,_,_⟩) gV au ak (al [4,12]++tk [13,14]++al [15]) (e:=false) au ?_;refine⟨by simp only[aD,aI,aY,aB,aM];omega,?_⟩;refine RA.kD (r1 2 4) au hk ⟨⟨rfl,rfl,rfl,trivial⟩,⟨rfl,?_,trivial⟩,rfl⟩;refine Ja bs n j hlt _ ?_;exact G7 n j hlt
  ·obtain rfl:j=8:=by omega
   refine p2 ?_ (decide_eq_false ax);exact⟨(),id,⟨trivial,⟨rfl,rfl,trivial⟩,rfl⟩,trivial⟩
 ·rintro _ _;refine V ?_;exact⟨rfl,rfl,rfl⟩
def PG(s:ByteArray):(kX s).data.toList=lr (uN s.size)++s.data.toList:=by
 unfold kX;rw[bQ,dR];rfl
theorem yx(bs:List UInt8)(s:ByteArray)(hl:bs.length+s.size≤100000000):Hf pg 109 2 [.p 0 0,gs s] (wH 0 1 bs) (fun g σ m=>g=.tup []∧σ=wH 0 2 (bs++(kX s).data.toList)∧m=3):=by
 refine Hf.jK (Q:=fun g σ m=>g=.tup []∧gW σ 0=some (.hZ 184 [.o 3])∧gW σ 3=some (.row 5 1 ((bs++(kX s).data.toList).map jX))∧m=4) (Hf.of gV func109 rfl ntmps109 rfl results109 call109 fun H0 S0 w0 h0 g0=>?_) ?_
 ·refine sw (p5 bs s.size az) (rr 0 1) rfl rfl ⟨rfl,rfl,trivial⟩ rfl av ?_;rintro _ _ _ ⟨rfl,rfl,rfl⟩;exact VM 8 (JK.Mc (rows:=(bs++lr (uN s.size)).map jX) gV rfl rfl rfl rfl underlying9 rfl rfl rfl au rfl rfl rfl (by simp only[aD,aI];have:(lr (uN s.size)).length=8:=rfl;omega) (V ⟨rfl,rfl,(congrArg (fun x=>some (hY.row 5 1 x)) (show (bs++lr (uN s.size)).map jX++s.data.toList.map jX=(bs++(kX s).data.toList).map jX by rw[PG,←aS,aP (l₁:=bs++_)])),rfl⟩))
 ·rintro g σ m ⟨rfl,h1,h2,rfl⟩;exact⟨r1 2 3,.tup [],wH 0 2 (bs++(kX s).data.toList),3,⟨rfl,rfl,rfl⟩,rfl,⟨h1,h2,trivial⟩,rfl⟩
def uP(s:ByteArray):s.data.toList.length=s.size:=rfl
def wP(a b:ByteArray):(a++b).data.toList=a.data.toList++b.data.toList:=by rw[bQ,dR]
def pE(bs:List UInt8):Hf pg 111 2 [.p 0 0] (wH 0 1 bs) (λg σ m=>g=gs ⟨bs.toArray⟩/\σ=wH 0 1 bs/\m=2):=by
 refine Hf.of gV func111 rfl ntmps111 rfl results111 call111 λH0 S0 w0 h0 g0=>?_;exact⟨bs,rfl,A0z⟩
def N2(l:List Lb)(x:Lb):(pQ (l++[x])).data.toList=(pQ l).data.toList++(kX x.name).data.toList++(kX x.value).data.toList:=by
 rw[Di,wP];simp only[pQ,uT,wP,aS]
def Mn(l:List Lb)(j:Nat):(pQ (l.take j)).size<=(pQ l).size:=by
 conv=>rhs;rw[<-cj j l,Di,aJ]
 omega
def QZ(l:List Lb):16*l.length<=(pQ l).size:=by
 induction l with
 |nil=>exact aL _
 |cons x l ih=>
  have h1:(kX x.name).size=8+x.name.size:=by unfold kX;rw[aJ,jw]
  have h2:(kX x.value).size=8+x.value.size:=by unfold kX;rw[aJ,jw]
  simp only[pQ,aJ,aB];omega
theorem K8(bs:List UInt8)(l:List Lb)(hl:bs.length+(wm l).size≤10000000):Hf pg 187 2 [.p 0 0,om l] (wH 0 1 bs) (fun g σ m=>g=.tup []∧σ=wH 0 2 (bs++(wm l).data.toList)∧m=3):=by
 have hL:(wm l).data.toList=lr (uN l.length)++(pQ l).data.toList:=by
  unfold wm;rw[wP];rfl
 have hs:(wm l).size=8+(pQ l).size:=by unfold wm;rw[aJ,jw]
 have h8:(lr (uN l.length)).length=8:=rfl;have hbig:=QZ l;have hn:=p5 bs (l.map lb).length az;refine Hf.of gV func187 rfl ntmps187 rfl results187 call187 fun H0 S0 w0 h0 g0=>?_;refine ig hn (rr 0 1) rfl rfl ⟨rfl,rfl,trivial⟩ rfl av ?_;rintro _ _ _ ⟨rfl,rfl,rfl⟩;refine JK.iT (α:=Nat) (β:=Unit) (fun j=>⟨[(0,.p 0 0),(10,om l),(11,gi (l.map lb).length),(12,gi j)],wH 0 2 (bs++lr (uN l.length)++(pQ (l.take j)).data.toList),3⟩) (fun j=>j≤l.length) (fun j=>l.length-j)
  (fun _=>⟨[],wH 0 2 (bs++lr (uN l.length)++(pQ l).data.toList),3⟩) (fun _=>True) 0 id ?_ (aQ _) ?_ ?_
 ·refine⟨⟨rfl,rfl,rfl,rfl,trivial⟩,⟨rfl,?_,trivial⟩,rfl⟩;rw[eF,aD];exact congrArg (fun x:List UInt8=>some (hY.row 5 1 (x.map jX))) (aZ (bs++lr (uN l.length))).symm
 ·intro j hj;refine V ?_;by_cases hlt:j<l.length
  ·have hA:=Mn l j;have hB:=Mn l (j+1);have hsn:=N2 (l.take j) l[j];rw[gE hlt]at hsn;have hsz:=congrArg List.length hsn;simp only[aI,uP]at hsz;have hsx:(kX l[j].name).size=8+l[j].name.size:=by unfold kX;rw[aJ,jw]
   have hsy:(kX l[j].value).size=8+l[j].value.size:=by unfold kX;rw[aJ,jw]
   refine p1 (ix (h:=(ig (yx _ l[j].name (by simp only[aI,uP];omega)) (rr 0 2) rfl rfl ⟨rfl,rfl,trivial⟩ rfl av ?_))) (decide_eq_true (by simp only[aD];omega));rintro _ _ _ ⟨rfl,rfl,rfl⟩;refine ig (yx _ l[j].value (by simp only[aI,uP];omega)) (rr 0 4) rfl rfl ⟨rfl,rfl,trivial⟩ rfl av ?_;rintro _ _ _ ⟨rfl,rfl,rfl⟩;refine⟨j+1,r1 2 5,⟨⟨rfl,rfl,rfl,h_ az,trivial⟩,⟨rfl,(congrArg (fun x:List UInt8=>some (hY.row 5 1 (x.map jX))) ?_),trivial⟩,rfl⟩,hlt,m8⟩;rw[hsn];simp only[aS]
  ·obtain rfl:j=l.length:=az
   refine p2 ⟨(),id,⟨trivial,⟨rfl,?_,trivial⟩,rfl⟩,trivial⟩ (decide_eq_false (by simp only[aD];omega));rw[aT];rfl
 ·rintro _ _;exact V ⟨rfl,by rw[hL,aS],rfl⟩
noncomputable def ru(x:gY):Bool:=ke x.samples&&iS x.labels
noncomputable def rB(l:List gY):Option Nat:=l.findIdx? λx=> !ru x
def zg{l:List gY}(h:∀i (hi:i<l.length),ru l[i]=true):rB l=none:=by
 unfold rB;rw[dN];intro x hx;obtain⟨i,hi,rfl⟩:=fL.1 hx;rw[h i hi];rfl
def Mk{l:List gY}{j:Nat}(hj:j<l.length)(hb:ru l[j]=false)(h:∀i (hi:i<j),ru (l[i]'az)=true):rB l=some j:=by
 unfold rB;rw[ck];exact⟨hj,by rw[hb];rfl,λk hk=>by rw[h k hk];decide⟩
def NY(l:List gY)(x:gY):(pr (l++[x])).data.toList=(pr l).data.toList++(wm x.labels).data.toList++(kX (enc x.samples)).data.toList:=by
 rw[DU,wP];simp only[pr,uT];unfold Bb;rw[wP,aS]
def zR(l:List gY)(j:Nat):(pr (l.take j)).size<=(pr l).size:=by
 conv=>rhs;rw[<-cj j l,DU,aJ]
 omega
def Kf{xs:List Sm}(h:ke xs=true):Rt pg 186 [rL xs] (.tup [gs (enc xs),.v .nilIface]):=Rq.iN call186 (GH xs h)
def Na{xs:List Sm}(h:ke xs=false):Rt pg 186 [rL xs] (.tup [gs ⟨#[]⟩,.ifc 54 (gi 1)]):=Rq.iN call186 (CE xs h)
def Vg(l:List gY)(b:Option Nat):GV->Heap->Nat->Prop:=λg σ n=>match b with
 |none=>g=.tup [gs (lT l),.v .nilIface]/\σ=[]/\n=0
 |some i=>g=.tup [gs ⟨#[]⟩,.ifc 137 (.p 0 0)]/\σ=[(0,.hZ 138 [gi 1,gi i])]/\n=1
def U_(l:List gY)(b:Option Nat):GV->Heap->Nat->Prop:=λg σ _=>match b with
 |none=>g=.tup [gs (lT l),.v .nilIface]
 |some i=>∃k,g=.tup [gs ⟨#[]⟩,.ifc 137 (.p k 0)]/\gW σ k=some (.hZ 138 [gi 1,gi i])
theorem Rg(l:List gY)(hl:(lT l).size≤10000000)(hlab:∀x∈l,Sh x.labels):Hf pg 135 0 [jn l] [] (Vg l (rB l)):=by
 refine Hf.jK (Q:=U_ l (rB l)) ?_ ?_
 ·have hS:(lT l).size=8+(pr l).size:=by unfold lT;rw[aJ,jw]
  have hSl:(lT l).data.toList=lr (uN l.length)++(pr l).data.toList:=by
   unfold lT;rw[wP];rfl
  have h8:(lr (uN l.length)).length=8:=rfl;have hbig:=IL l;have hn:=p5 [] (l.map se).length aA;refine Hf.of gV func135 rfl ntmps135 rfl results135 call135 fun H0 S0 w0 h0 g0=>?_;refine JK.rX 0 0 5 1 rfl rfl (ig hn (rr 0 1) rfl rfl ⟨rfl,rfl,trivial⟩ rfl av ?_);rintro _ _ _ ⟨rfl,rfl,rfl⟩;refine JK.iT (α:=Nat) (β:=Unit) (fun j=>⟨[(4,.p 0 0),(15,jn l),(16,gi (l.map se).length),(17,gi j)],wH 0 2 (lr (uN l.length)++(pr (l.take j)).data.toList),3⟩) (fun j=>j≤l.length∧∀i (hi:i<l.length),i<j→ru l[i]=true) (fun j=>l.length-j)
   (fun _=>⟨[(4,.p 0 0)],wH 0 2 (lr (uN l.length)++(pr l).data.toList),3⟩) (fun _=>∀i (hi:i<l.length),ru l[i]=true) 0 id ?_ ⟨aQ _,fun i _ h=>absurd h az⟩ ?_ ?_
  ·refine⟨⟨rfl,rfl,rfl,rfl,trivial⟩,⟨rfl,?_,trivial⟩,rfl⟩;rw[eF,aD];exact congrArg (fun x:List UInt8=>some (hY.row 5 1 (x.map jX))) (aZ (lr (uN l.length))).symm
  ·rintro j ⟨hj,hgood⟩;replace hj:j≤l.length:=hj;refine V ?_;by_cases hlt:j<l.length
   ·have hA:=zR l j;have hB:=zR l (j+1);have hsn:=NY (l.take j) l[j];rw[gE hlt]at hsn;have hsz:=congrArg List.length hsn;simp only[aI,uP]at hsz;have hsx:(kX (enc l[j].samples)).size=8+(enc l[j].samples).size:=by unfold kX;rw[aJ,jw]
    refine p1 (ix (h:=?_)) (decide_eq_true (by simp only[aD];omega));have hbad:ru l[j]=false→rB l=some j:=fun h=>Mk hlt h fun i hi=>hgood i az hi;rcases tf (ke l[j].samples) with hok|hok
    ·refine GO (Kf hok) rfl ?_
     repeat (first|refine p1 ?_|refine p2 ?_|refine p3 ?_|refine p4 ?_)
     have hr:=sV l[j].labels (hlab l[j] (aR hlt));rcases tf (iS l[j].labels) with hR|hR
     ·refine GO (hr.bt hR) rfl ?_
      repeat (first|refine p1 ?_|refine p2 ?_|refine p3 ?_|refine p4 ?_)
      refine ig (K8 _ l[j].labels (by simp only[aI,uP];omega)) (rr 0 2) rfl rfl ⟨rfl,rfl,trivial⟩ rfl av ?_;rintro _ _ _ ⟨rfl,rfl,rfl⟩;refine ig (yx _ (enc l[j].samples) (by simp only[aI,uP];omega)) (rr 0 4) rfl rfl ⟨rfl,rfl,trivial⟩ rfl av ?_;rintro _ _ _ ⟨rfl,rfl,rfl⟩;refine⟨j+1,r1 2 5,⟨⟨rfl,rfl,rfl,h_ az,trivial⟩,⟨rfl,?_,trivial⟩,rfl⟩,⟨hlt,fun i hi hij=>?_⟩,m8⟩
      ·refine congrArg (fun x:List UInt8=>some (hY.row 5 1 (x.map jX))) ?_;rw[hsn];simp only[aS]
      ·rcases bX.1 hij with h|h
       ·exact hgood i hi h
       ·subst h;unfold ru;rw[hok,hR];rfl
     ·rw[hbad (by unfold ru;rw[hok,hR];rfl)];refine GO (hr.bt hR) rfl ?_
      repeat (first|refine p1 ?_|refine p2 ?_|refine p3 ?_|refine p4 ?_)
      exact⟨_,rfl,rfl⟩
    ·rw[hbad (by unfold ru;rw[hok];rfl)];refine GO (Na hok) rfl ?_
     repeat (first|refine p1 ?_|refine p2 ?_|refine p3 ?_|refine p4 ?_)
     exact⟨_,rfl,rfl⟩
   ·obtain rfl:j=l.length:=az
    refine p2 ⟨(),id,⟨⟨rfl,trivial⟩,⟨rfl,?_,trivial⟩,rfl⟩,fun i hi=>hgood i hi hi⟩ (decide_eq_false (by simp only[aD];omega));rw[aT];rfl
  ·rintro _ hgood;rw[zg hgood];refine V (ig (pE _) (rr 0 2) rfl rfl ⟨rfl,rfl,trivial⟩ rfl av ?_);rintro _ _ _ ⟨rfl,rfl,rfl⟩;show GV.tup [_,_]=_;refine congrArg (fun x=>GV.tup [gs x,.v .nilIface]) ?_;rw[←hSl]
 ·intro g σ n hq;cases hb:rB l with
  |none=>
   rw[hb]at hq;exact⟨id,g,[],0,⟨hq,rfl,rfl⟩,(mR g).symm,trivial,by rw[show g=_ from hq];rfl⟩
  |some i=>
   rw[hb]at hq;obtain⟨k,rfl,hk⟩:=hq;exact⟨fun _=>k,.tup [gs ⟨#[]⟩,.ifc 137 (.p 0 0)],[(0,.hZ 138 [gi 1,gi i])],1,⟨rfl,rfl,rfl⟩,rfl,⟨hk,trivial⟩,rfl⟩
def Bd(l:List Lb):Bool:=decide (l.length<=20)&& !p7 l.length (λi=>decide (60<(l.getD i default).name.size)||decide (60<(l.getD i default).value.size))
def yP(l:List Mt):Bool:=decide (l.length<=20)&& !p7 l.length (λi=>decide (60<(l.getD i default).name.size)||decide (60<(l.getD i default).value.size))
def L1{l:List Lb}(h:Bd l=true):l.length<=20/\∀x∈l,x.name.size<=60/\x.value.size<=60:=by
 unfold Bd at h;rw[aG,decide_eq_true_iff,bG]at h;refine⟨h.1,λx hx=>?_⟩;obtain⟨i,hi,rfl⟩:=bz hx;have:=oP h.2 i hi;rw[show l.getD i default=l[i] by simp[hi],bO,decide_eq_false_iff_not,decide_eq_false_iff_not]at this;omega
def Dx(l:List gY)(i:Nat):Bool:=match l[i]? with|some x=> !Bd x.labels||decide (60<x.samples.length)|none=>false
def Jz{l:List gY}{i:Nat}(h:i<l.length):Dx l i=(!Bd l[i].labels||decide (60<l[i].samples.length)):=by unfold Dx;rw[aC h]
def yU(l:List gY):Bool:=decide (l.length<=20)&& !p7 l.length (Dx l)
def Nw{l:List gY}(h:yU l=true):l.length<=20/\∀x∈l,Bd x.labels=true/\x.samples.length<=60:=by
 unfold yU at h;rw[aG,decide_eq_true_iff,bG]at h;refine⟨h.1,λx hx=>?_⟩;obtain⟨i,hi,rfl⟩:=bz hx;have:=oP h.2 i hi;rw[Jz hi]at this;simp only[bO,dv,decide_eq_false_iff_not]at this;exact⟨this.1,az⟩
def Ep{l:List gY}(h:∀x∈l,qe x):rB l=none:=zg λi hi=>by
 obtain⟨h1,h2,h3⟩:=h l[i] (aR hi);unfold ru;rw[h1,h2];rfl
def Gc{l:List gY}(hb:rB l=none)(hl:(lT l).size<=10000000)(hlab:∀x∈l,Sh x.labels):Hf pg 135 0 [jn l] [] (λg σ n=>g=.tup [gs (lT l),.v .nilIface]/\σ=[]/\n=0):=by
 have h:=Rg l hl hlab;rw[hb]at h;exact h
abbrev F1(to_ iN:Int)(l:List gY):GV:=.agg [gi to_,gi iN,jn l]
def Jw(s:ByteArray)(b:Bool):Hf pg 89 1 [.p 0 0] [rd s b] (λg σ n=>(∃(k:Int) (s0:ByteArray) (b0:Bool),g=gi k/\σ=[rd s0 b0]/\(b0=true->mj b (kf s)=none)/\(b0=false->b=false/\kf s=some (k,s0)))/\n=1):=by
 have h:=ta s b;cases hP:mj b (kf s) with
 |none=>
  exact (zp h hP).imp λg σ n ⟨h1,⟨s',h2⟩,h3⟩=>⟨⟨0,s',true,h1,h2,λ_=>rfl,λe=>(by cases e)⟩,h3⟩
 |some x=>
  obtain⟨k,r⟩:=x;obtain⟨hb,hs⟩:=rG hP;exact (ui h hP).imp λg σ n ⟨h1,h2,h3⟩=>⟨⟨k,r,false,h1,h2,λe=>(by cases e),λ_=>⟨hb,hs⟩⟩,h3⟩
def Ps{to_ iN:Int}{l:List gY}(h:lZ to_ iN l=true):rB l=none:=zg λi hi=>by
 obtain⟨h1,h2⟩:=nQ h l[i] (aR hi);unfold ru;rw[h1,h2];rfl
def OX {s s1 s2:ByteArray} {a b:Int} {b1 b2:Bool} (h1:b1=true->mj false (kf s)=none) (h1':b1=false->false=false/\kf s=some (a,s1)) (h2:b2=true->mj b1 (kf s1)=none) (h2':b2=false->b1=false/\kf s1=some (b,s2))
  (h:mj b2 (lO s2)=none):B7 s=none:=by
 unfold B7;cases b1 with
 |true=>rw[show kf s=none from h1 rfl]
 |false=>
  rw[(h1' rfl).2];simp only;cases b2 with
  |true=>rw[show kf s1=none from h2 rfl]
  |false=>
   rw[(h2' rfl).2];simp only;rw[show lO s2=none from h]
def N3 {s s1 s2 r:ByteArray} {a b:Int} {b1 b2:Bool} {l:List gY} (h1':b1=false->false=false/\kf s=some (a,s1)) (h2':b2=false->b1=false/\kf s1=some (b,s2))
  (h:mj b2 (lO s2)=some (l,r)):B7 s=some ((a,b,l),r):=by
 obtain⟨rfl,hs⟩:=rG h;obtain⟨rfl,hb⟩:=h2' rfl;unfold B7;rw[(h1' rfl).2];simp only;rw[hb];simp only;rw[hs]
def Pk{s s1 s2:ByteArray}{a b:Int}{b1 b2:Bool}(h1':b1=false->false=false/\kf s=some (a,s1))(h2':b2=false->b1=false/\kf s1=some (b,s2))(e:b2=false):s2.size<=s.size:=by
 obtain⟨rfl,hb⟩:=h2' e;have i1:=(pA hb).1;have i2:=(pA (h1' rfl).2).1;omega
def tN(x:gY):Prop:=x.labels.length<=1000000/\x.samples.length<=1000000/\∀y∈x.labels,y.name.size<4611686018427387904/\y.value.size<4611686018427387904
theorem zE(to_ iN:Int)(l:List gY)(hlab:∀x∈l,tN x):Rt pg 150 [F1 to_ iN l] (.b (lZ to_ iN l)):=by
 refine Rt.of gV func150 rfl ntmps150 rfl results150 call150 fun H0 S0 w0 h0 g0=>?_;have hll:(l.map se).length=l.length:=by simp
 refine JK.len 7 rfl fun hlen _=>?_;have hlen':l.length≤9223372036854775807:=by simpa[maxLen]using hlen
 refine JK.loop (α:=Nat) (fun i=>⟨[(1,.p 0 0),(7,jn l),(8,gi (l.map se).length),(9,gi i)],[(0,.hZ 91 [gi to_,gi iN,jn l])],1⟩) (fun i=>i≤l.length∧∀j,j<i→tG to_ l j=false) (fun i=>l.length-i) 0 id ?_ ⟨aQ _,fun j hj=>absurd hj az⟩ ?_
 ·exact⟨⟨rfl,rfl,rfl,rfl,trivial⟩,⟨rfl,trivial⟩,rfl⟩
 ·rintro i ⟨hi,hgood⟩;replace hi:i≤l.length:=hi;refine V ?_;by_cases hlt:i<l.length
  ·have hat:=v7 (to_:=to_) hlt;have hbad:tG to_ l i=true→lZ to_ iN l=false:=fun h=>by unfold lZ;rw[oa hlt h];rfl
   have hnext:tG to_ l i=false→∀j,j<i+1→tG to_ l j=false:=fun h j hj=>by
    rcases bX.1 hj with h1|h1
    ·exact hgood j h1
    ·subst h1;exact h
   obtain⟨q1,q2,q3⟩:=hlab l[i] (aR hlt);have hr1:=sV l[i].labels (fun y hy=>(q3 y hy).2);have hr2:=Rq.iN call180 (tq l[i].samples);have hsl:(l[i].samples.map sm).length=l[i].samples.length:=by simp
   refine p1 ?_ aj;refine ix (h:=?_);rcases tf (iS l[i].labels) with h1|h1
   ·refine iU [] false (tk [0,1]) au ?_;refine kE 2 false (tk [3,4,5,6]) (hr1.bt h1) rfl rfl au ?_
    repeat (first|refine p1 ?_|refine p2 ?_|refine p3 ?_|refine p4 ?_)
    rcases tf (ke l[i].samples) with h2|h2
    ·refine kE 7 false (tk [8,9,10,11,12,13,14,15,16,17,18,19,20,21,22,23,24,25,26,27,28,29,30,31,32,33,34,35,36,37,38]) (hr2.bt h2) rfl rfl au ?_
     repeat (first|refine p1 ?_|refine p2 ?_|refine p3 ?_|refine p4 ?_)
     by_cases h3:l[i].samples.length=0
     ·refine p3 ?_ (by simp[h3])
      repeat (first|refine p1 ?_|refine p2 ?_|refine p3 ?_|refine p4 ?_)
      refine pN 39 true (tk [40,41,42]) rfl rfl au ?_
      repeat (first|refine p1 ?_|refine p2 ?_|refine p3 ?_|refine p4 ?_)
      refine V ?_
      repeat (first|refine p1 ?_|refine p2 ?_|refine p3 ?_|refine p4 ?_)
      rw[hbad (by rw[hat,h1,h2,decide_eq_true h3];rfl)];exact⟨rfl,rfl⟩
     ·have h3':l[i].samples.length-1<l[i].samples.length:=by omega
      have hla:=BS (to_:=to_) h3';refine p4 ?_ (by rw[beq_eq_false_iff_ne];omega)
      repeat (first|refine p1 ?_|refine p2 ?_|refine p3 ?_|refine p4 ?_)
      refine idx (l[i].samples.length-1) (by rw[hsl,ic az az];omega) h3' ?_;by_cases h4:to_<l[i].samples[l[i].samples.length-1].time
      ·refine p3 ?_ (decide_eq_true h4)
       repeat (first|refine p1 ?_|refine p2 ?_|refine p3 ?_|refine p4 ?_)
       refine pN 39 true (tk [40,41,42]) rfl rfl au ?_
       repeat (first|refine p1 ?_|refine p2 ?_|refine p3 ?_|refine p4 ?_)
       refine V ?_
       repeat (first|refine p1 ?_|refine p2 ?_|refine p3 ?_|refine p4 ?_)
       rw[hbad (by rw[hat,h1,h2,decide_eq_false h3,hla,decide_eq_true h4];rfl)];exact⟨rfl,rfl⟩
      ·refine p4 ?_ (decide_eq_false h4);by_cases h5:0<i
       ·repeat (first|refine p1 ?_|refine p2 ?_|refine p3 ?_|refine p4 ?_)
        refine idx (i-1) (by rw[ic az az];omega) az ?_;have hpv:=BE (l:=l) (x:=l[i]) (by omega:i-1<l.length) h5;refine kE 39 true (tk [40,41,42]) (ra l[i-1].labels l[i].labels) rfl (congrArg (fun c=>bif (c==true) then some (43,[om l[i-1].labels,om l[i].labels]) else none) (decide_eq_true (show (i:Int) >0 by omega))) au ?_;refine V ?_;by_cases h6:0≤iZ l[i-1].labels l[i].labels
        ·refine p1 ?_ (decide_eq_true h6);rw[hbad (by rw[hat,h1,h2,decide_eq_false h3,hla,decide_eq_false h4,hpv,decide_eq_true h6];rfl)];exact⟨rfl,rfl⟩
        ·refine p2 ?_ (decide_eq_false h6);exact⟨i+1,id,⟨⟨rfl,rfl,rfl,h_ az,trivial⟩,⟨rfl,trivial⟩,rfl⟩,⟨hlt,hnext (by rw[hat,h1,h2,decide_eq_false h3,hla,decide_eq_false h4,hpv,decide_eq_false h6];rfl)⟩,by show l.length- (i+1)<l.length-i;omega⟩
       ·have hi0:i=0:=by omega
        repeat (first|refine p1 ?_|refine p2 ?_|refine p3 ?_|refine p4 ?_)
        refine pN 39 true (tk [40,41,42]) rfl (congrArg (fun c=>c== !true) (decide_eq_false (show¬(i:Int) >0 by omega))) au ?_;refine V ?_;have hp0:yC l i l[i]=false:=by unfold yC;rw[decide_eq_false h5];rfl
        exact⟨i+1,id,⟨⟨rfl,rfl,rfl,h_ az,trivial⟩,⟨rfl,trivial⟩,rfl⟩,⟨hlt,hnext (by rw[hat,h1,h2,decide_eq_false h3,hla,decide_eq_false h4,hp0];rfl)⟩,by show l.length- (i+1)<l.length-i;omega⟩
    ·refine kE 7 false (tk [8,9,10,11,12,13,14,15,16,17,18,19,20,21,22,23,24,25,26,27,28,29,30,31,32,33,34,35,36,37,38]) (hr2.bt h2) rfl rfl au ?_
     repeat (first|refine p1 ?_|refine p2 ?_|refine p3 ?_|refine p4 ?_)
     refine pN 39 true (tk [40,41,42]) rfl rfl au ?_
     repeat (first|refine p1 ?_|refine p2 ?_|refine p3 ?_|refine p4 ?_)
     refine V ?_
     repeat (first|refine p1 ?_|refine p2 ?_|refine p3 ?_|refine p4 ?_)
     rw[hbad (by rw[hat,h1,h2];rfl)];exact⟨rfl,rfl⟩
   ·refine iU [] false (tk [0,1]) au ?_;refine kE 2 false (tk [3,4,5,6]) (hr1.bt h1) rfl rfl au ?_
    repeat (first|refine p1 ?_|refine p2 ?_|refine p3 ?_|refine p4 ?_)
    refine pN 7 false (tk [8,9,10,11,12,13,14,15,16,17,18,19,20,21,22,23,24,25,26,27,28,29,30,31,32,33,34,35,36,37,38]) rfl rfl au ?_
    repeat (first|refine p1 ?_|refine p2 ?_|refine p3 ?_|refine p4 ?_)
    refine pN 39 true (tk [40,41,42]) rfl rfl au ?_
    repeat (first|refine p1 ?_|refine p2 ?_|refine p3 ?_|refine p4 ?_)
    refine V ?_
    repeat (first|refine p1 ?_|refine p2 ?_|refine p3 ?_|refine p4 ?_)
    rw[hbad (by rw[hat,h1];rfl)];exact⟨rfl,rfl⟩
  ·obtain rfl:i=l.length:=by omega
   refine p2 ?_ ai;refine V ?_;have hR:lZ to_ iN l=(decide (-1099511627776≤to_∧to_≤1099511627776)&&decide (-1≤iN)):=by unfold lZ;rw[nZ hgood];rfl
   rw[hR];by_cases t1: -1099511627776≤to_
   ·by_cases t2:to_≤1099511627776
    ·repeat (first|refine p1 ?_|refine p2 ?_|refine p3 ?_|refine p4 ?_)
     exact⟨by rw[decide_eq_true (show-1099511627776≤to_∧to_≤1099511627776 from⟨t1,t2⟩)];rfl,rfl⟩
    ·repeat (first|refine p1 ?_|refine p2 ?_|refine p3 ?_|refine p4 ?_)
     exact⟨by rw[decide_eq_false (show¬(-1099511627776≤to_∧to_≤1099511627776) from fun h=>t2 h.2)];rfl,rfl⟩
   ·repeat (first|refine p1 ?_|refine p2 ?_|refine p3 ?_|refine p4 ?_)
    exact⟨by rw[decide_eq_false (show¬(-1099511627776≤to_∧to_≤1099511627776) from fun h=>t1 h.1)];rfl,rfl⟩
theorem Lc(to_ iN:Int)(l:List gY)(hlab:∀x∈l,tN x)(hl:(lT l).size≤1000000)(hR:lZ to_ iN l=true):Rt pg 159 [F1 to_ iN l] (.tup [gs (mw to_ iN l),.v .nilIface]):=by
 refine Rt.of gV func159 rfl ntmps159 rfl results159 call159 fun H0 S0 w0 h0 g0=>?_;refine GO ((zE to_ iN l hlab).bt hR) rfl ?_
 repeat (first|refine p1 ?_|refine p2 ?_|refine p3 ?_|refine p4 ?_)
 refine JK.rX 1 0 5 1 rfl rfl (ig (p5 [] to_ aA) (rr 1 2) rfl rfl ⟨rfl,rfl,trivial⟩ rfl av ?_);rintro _ _ _ ⟨rfl,rfl,rfl⟩;refine ig (p5 ([]++lr (uN to_)) iN (by simp[lr])) (rr 1 3) rfl rfl ⟨rfl,rfl,trivial⟩ rfl av ?_;rintro _ _ _ ⟨rfl,rfl,rfl⟩;refine ig (Gc (Ps hR) az fun x hx y hy=>((hlab x hx).2.2 y hy).2) id rfl rfl trivial rfl ay ?_;rintro _ _ _ ⟨rfl,rfl,rfl⟩;refine ig (pE _) (rr 1 4) rfl rfl ⟨rfl,rfl,trivial⟩ rfl av ?_;rintro _ _ _ ⟨rfl,rfl,rfl⟩;have e:(⟨([]++lr (uN to_)++lr (uN iN)).toArray⟩:ByteArray)=jJ to_++jJ iN:=by
  apply cE;rw[bQ];simp[jJ]
 refine⟨by rw[e,aJ,jw,jw];omega,⟨⟨?_,rfl,trivial⟩,rfl⟩⟩;show GV.v (.string (_++lT l))=gs (mw to_ iN l);rw[e];rfl
noncomputable def bW(s:ByteArray):Option (Int×Int×List gY):=match B7 s with
 |some (x,r)=>if r.size=0 then (if lZ x.1 x.2.1 x.2.2=true then some x else none) else none
 |none=>none
def UB(none_:GV):Option (Int×Int×List gY)->GV
 |some x=>.tup [F1 x.1 x.2.1 x.2.2,.v .nilIface]
 |none=>.tup [none_,.ifc 54 (gi 3)]
def KV{x:gY}(h:qe x):tN x:=by
 obtain⟨h1,h2,_⟩:=h;obtain⟨r1,r2⟩:=lS h1;have h3:=((ja _).1 h2).2;exact⟨az,az,λy hy=>by have:=r2 y hy;omega⟩
theorem Pp(s:ByteArray)(hs:s.size≤1000000):Rt pg 84 [gs s] (UB (.agg [gi 0,gi 0,.v (.slice none 0 0)]) (bW s)):=by
 refine Rt.of gV func84 rfl ntmps84 rfl results84 call84 fun H0 S0 w0 h0 g0=>?_;refine ig (xk s) id rfl rfl trivial rfl (by exact K9 rfl) ?_;rintro _ _ _ ⟨rfl,rfl,rfl⟩;refine ig (Jw s false) (r1 0 1) rfl rfl ⟨rfl,trivial⟩ rfl (by exact tw rfl) ?_;rintro _ _ _ ⟨⟨k1,s1,b1,rfl,rfl,h1,h1'⟩,rfl⟩;refine ig (Jw s1 b1) (r1 0 1) rfl rfl ⟨rfl,trivial⟩ rfl (by exact tw rfl) ?_;rintro _ _ _ ⟨⟨k2,s2,b2,rfl,rfl,h2,h2'⟩,rfl⟩;have hsz:=Pk h1' h2';have hse:=Cp s2 b2 (fun e=>by have:=hsz e;omega);cases hP:mj b2 (lO s2) with
 |none=>
  have hb:bW s=none:=by unfold bW;rw[OX h1 h1' h2 h2' hP]
  rw[hb];refine ig (zp hse hP) (r1 0 1) rfl rfl ⟨rfl,trivial⟩ rfl (by exact tw rfl) ?_;rintro _ _ _ ⟨rfl,⟨s3,rfl⟩,rfl⟩;refine ig (AA s3 true) (r1 0 1) rfl rfl ⟨rfl,trivial⟩ rfl (by exact tw rfl) ?_;rintro _ _ _ ⟨rfl,rfl,rfl⟩;refine p3 ?_ (by cases zy s3<;>rfl)
  repeat (first|refine p1 ?_|refine p2 ?_|refine p3 ?_|refine p4 ?_)
  exact⟨⟨rfl,rfl,trivial⟩,rfl⟩
 |some x=>
  obtain⟨l,r⟩:=x;have hw:=N3 h1' h2' hP;refine ig (ui hse hP) (r1 0 1) rfl rfl ⟨rfl,trivial⟩ rfl (by exact tw rfl) ?_;rintro _ _ _ ⟨rfl,rfl,rfl⟩;have hd:=AA r false;unfold zy at hd;by_cases hr:r.size=0
  ·rw[decide_eq_true hr]at hd;refine ig hd (r1 0 1) rfl rfl ⟨rfl,trivial⟩ rfl (by exact tw rfl) ?_;rintro _ _ _ ⟨rfl,rfl,rfl⟩
   repeat (first|refine p1 ?_|refine p2 ?_|refine p3 ?_|refine p4 ?_)
   obtain⟨rfl,hsl⟩:=rG hP;have hgd:=(Ie hsl).2;have hlab:∀x∈l,tN x:=fun x hx=>KV (hgd x hx);have hbW:bW s=if lZ k1 k2 l=true then some (k1,k2,l) else none:=by unfold bW;rw[hw];exact if_pos hr
   rcases tf (lZ k1 k2 l) with hR|hR
   ·rw[hbW,if_pos hR];refine GO ((zE k1 k2 l hlab).bt hR) rfl ?_
    repeat (first|refine p1 ?_|refine p2 ?_|refine p3 ?_|refine p4 ?_)
    exact⟨⟨rfl,rfl,trivial⟩,rfl⟩
   ·rw[hbW,if_neg (by rw[hR];decide)];refine GO ((zE k1 k2 l hlab).bt hR) rfl ?_
    repeat (first|refine p1 ?_|refine p2 ?_|refine p3 ?_|refine p4 ?_)
    exact⟨⟨rfl,rfl,trivial⟩,rfl⟩
  ·rw[decide_eq_false hr]at hd;have hb:bW s=none:=by unfold bW;rw[hw];exact if_neg hr
   rw[hb];refine ig hd (r1 0 1) rfl rfl ⟨rfl,trivial⟩ rfl (by exact tw rfl) ?_;rintro _ _ _ ⟨rfl,rfl,rfl⟩
   repeat (first|refine p1 ?_|refine p2 ?_|refine p3 ?_|refine p4 ?_)
   exact⟨⟨rfl,rfl,trivial⟩,rfl⟩
abbrev eb(b:Bl):GV:=.agg [gi b.to_,gi b.iN,jn b.L]
abbrev gr(x:Int×Gn):List GV:=gi x.1::gn x.2
def nb(L:List (Value×Bl))(n:Nat):mM n (iG eb L)=true:=vv eb n (λ_=>rfl) L
def np(f:Nat->Nat)(L:List (Value×Bl)):jS f (iG eb L)=iG eb L:=ym eb (λ_=>rfl) f L
abbrev sB(s:iz)(h g:Nat):Nat×hY:=(0,.hZ 87 [.p 1 0,.p 2 0,.p h 0,.o 4,.o g,gi s.nx,.v (.bool false)])
abbrev sM(s:iz):Nat×hY:=(4,.mp (some .i64) (iG eb s.B))
abbrev sG(s:iz)(g:Nat):Nat×hY:=(g,.row 97 4 (s.G.map gr))
abbrev nC(s:iz)(h r:Nat):Nat×hY:=(h,.hZ 159 [gi s.mark,.o r])
abbrev sR(s:iz)(r:Nat):Nat×hY:=(r,.row 105 2 (s.S.map se))
abbrev SH(s:iz)(d:Dk)(fp:List Nat)(h g r:Nat):Heap:=[sB s h g,(1,.ab (dk d fp)),wl 2 1 false,nC s h r,sM s,sG s g,sR s r]
def lq(G:GV)(s:iz)(d:Dk):GV->Heap->Nat->Prop:=λg' σ n=>g'=G/\(∃fp,σ=SH s d fp 7 8 9)/\n=10
def U7(h g r:Nat):Nat->Nat:=λi=>bif Nat.beq i 7 then h else bif Nat.beq i 8 then g else bif Nat.beq i 9 then r else i
structure T3(s:iz)(d:Dk)(σ:Heap)(h g r:Nat):Prop where
 ids:iu [0,1,2,h,4,g,r]=true
 b:∃(i:Int) (x:GV),i=s.nx/\lL (.v (.bool false)) x/\gW σ 0=some (.hZ 87 [.p 1 0,.p 2 0,.p h 0,.o 4,.o g,gi i,x])
 d:∃fp,gW σ 1=some (.ab (dk d fp))
 w:gW σ 2=some (wl 2 1 false).2
 h:gW σ h=some (nC s h r).2
 m:gW σ 4=some (sM s).2
 g:gW σ g=some (sG s g).2
 r:gW σ r=some (sR s r).2
def lq.of{f:FuncId}{args:List GV}{σ:Heap}{G:GV}{s:iz}{d:Dk}(hG:iy 0 G=true)(hh:Hf pg f 7 args σ λg' σ' _=>lL G g'/\∃h g r,T3 s d σ' h g r):Hf pg f 7 args σ (lq G s d):=by
 have h2:Hf pg f 7 args σ λg' σ' _=>lL G g'/\∃h g r,T3 s d σ' h g r/\gW σ' 0=some (sB s h g).2:=by
  refine hh.ri 0 λg' σ' n' ⟨hgg,h,g,r,ha⟩=>?_;obtain⟨i,x,e1,e2,e3⟩:=ha.b;subst e1;have hi:=ha.ids;simp only[iu,je,aG,bG,bO]at hi;have o:∀{j:Nat},Nat.beq 0 j=false->gW (jh σ' 0 (sB s h g).2) j=gW σ' j:=λhj=>xP hj;obtain⟨fp,hd⟩:=ha.d;have hl:=tJ e3 (sB s h g).2;refine⟨_,_,[.p 1 0,.p 2 0,.p h 0,.o 4,.o g,gi s.nx,.v (.bool false)],e3,⟨rfl,rfl,rfl,rfl,rfl,rfl,e2,trivial⟩,hgg,h,g,r,⟨ha.ids,⟨s.nx,.v (.bool false),rfl,rfl,hl⟩,⟨fp,(o rfl).trans hd⟩,(o rfl).trans ha.w,?_,(o rfl).trans ha.m,?_,?_⟩,hl⟩
  ·exact (o (by simp_all)).trans ha.h
  ·exact (o (by simp_all)).trans ha.g
  exact (o (by simp_all)).trans ha.r
 refine h2.lL.jK λg' σ' n' ⟨hgg,h,g,r,ha,hb⟩=>?_;obtain⟨fp,hd⟩:=ha.d;refine⟨U7 h g r,G,SH s d fp 7 8 9,10,⟨rfl,⟨fp,rfl⟩,rfl⟩,by rw[hgg,o4 _ hG],⟨hb,hd,ha.w,ha.h,?_,?_,?_,trivial⟩,?_⟩
 ·show gW σ' 4=some (.mp (some .i64) (jS _ (iG eb s.B)));rw[np];exact ha.m
 ·exact ha.g
 ·exact ha.r
 have h1:=ha.ids;simp only[aG];refine⟨⟨⟨⟨r_ 10 hG,?_⟩,h1⟩,rfl⟩,rfl⟩;simp[iL,jm,im,iy,nb]
def aa{p:Prop}(h:p:=by simp[jt,iy,im,iL,jm,iv,iu,jf,je,nb];try decide):p:=h
def af{p:Prop}(h:p:=by simp only[iy,im,iL,jm,nb];rfl):p:=h
def oz(t:Tok):List GV:=[gi t.kind,gs t.text,gi t.pos]
abbrev yX(l:List Tok):GV:=.sl 3 (l.map oz)
abbrev ps(l:List Tok):Heap:=[(0,.hZ 240 [yX l])]
abbrev vw(e p:Int):GV:=.ifc 284 (.agg [.ifc 137 (.r [gi e,gi p])])
def uY(t:Tok)(l:List Tok)(e:Int):Hx pg 157 1 [.p 0 0,gi e] (ps (t::l)) (λ_ _ _=>False) (λg=>g=vw e t.pos):=by
 refine Hx.q9 gV func157 rfl ntmps157 rfl results157 call157 λH0 S0 w0 h0 g0=>?_;refine VM 14 ⟨oz t,ax,rfl,?_⟩;show JK _ _ _ _;refine JK.qF 1 rfl rfl (JK.throw rfl rfl rfl rfl ?_);intro v X σ n hX;exact⟨v,_,X,rfl,hX,rfl,rfl⟩
def uh{α:Type}(P:tW α)(g:GV):Prop:=∃e p,P=.error (e,p)/\g=vw e p
abbrev Vn(T:jz)(R':GV->Prop):Prop:=∀(v:Value) (g:GV) (X:Nat) (ρ:Env) (σ:Heap) (n:Nat),R' g->iy 0 g=true->gW σ X=some (.ab (Dv v g))->T (xt v) ⟨ρ,σ,n⟩
section
variable {N n0:Nat}{H0:Hid}{S0:List Nat}{w0:World}{h0:H0.n=n0}{g0:iX pg H0}{T:jz}{k:List It}{s:St}
def vR (R':GV->Prop) {all:List Oper} {o:Oper} {rest:List Oper} {f:FuncId} {m:Nat} {cargs gs:List GV} {σc:Heap} {Q:GV->Heap->Nat->Prop} {R:GV->Prop} (hr:Hx pg f m cargs σc Q R) (hR:∀g,R g->R' g) (r:Nat->Nat) (hk:mQ pg all s.ρ o=some (f,gs)) (hargs:gs=j4 r cargs) (hσ:o7 r σc s.σ)
  (chk:(im m cargs&&iL m σc&&iu (iv r σc))=true) (hrn:∀i,i<m->r i<s.n)
  (h:∀g σ' n',Q g σ' n'->nf (jW (sh r m s.n) g) λg=>kG (mm (sh r m s.n) σ'++jr (iv r σc) s.σ) λσ=>kW (s.n+(n'-m)) λn=>lB N s.ρ o.dst g λρ'=>JK ⟨pg,N,n0,H0,S0,w0,h0,g0⟩ T (.ops false all rest::k) ⟨ρ',σ,n⟩)
  (hT:Vn T R':=by exact λv g X _ _ _ h1 h2 h3=>⟨v,g,X,rfl,h3,h1,h2⟩):
  JK ⟨pg,N,n0,H0,S0,w0,h0,g0⟩ T (.ops false all (o::rest)::k) s:=
 JK.UG hr r hk hargs hσ chk hrn (λg v X _ _ hg hb hX=>hT v g X _ _ _ (hR g hg) hb hX) h
end
def KT(t:Tok)(l:List Tok)(s:ByteArray):Hf pg 213 1 [.p 0 0,gs s] (ps (t::l)) (λg σ n=>g=.b (qP s (t::l))/\σ=ps (t::l)/\n=1):=by
 refine Hf.lL (R:=λσ n=>σ=ps (t::l)/\n=1) ?_;refine Hf.of gV func213 rfl ntmps213 rfl results213 call213 λH0 S0 w0 h0 g0=>?_;refine⟨oz t,ax,rfl,?_⟩;rcases tf (mZ t.text s) with h|h
 ·refine p1 ⟨oz t,ax,rfl,?_⟩ h
  repeat (first|refine p1 ?_|refine p2 ?_|refine p3 ?_|refine p4 ?_)
  refine⟨?_,rfl,rfl⟩;show (t.kind != 3)=qP s (t::l);simp only[qP,qQ,List.headD_cons,h,cY];rw[cp];exact⟨λh=>decide_eq_true (by simpa using h),λh=>by simpa using of_decide_eq_true h⟩
 refine p2 ?_ h
 repeat (first|refine p1 ?_|refine p2 ?_|refine p3 ?_|refine p4 ?_)
 refine⟨?_,rfl,rfl⟩;show false=qP s (t::l);simp[qP,qQ,h]
def Qk(t:Tok)(l:List Tok):([(0,.hZ 240 [.sl 3 ((((t::l).map oz).take (((t::l).map oz).length:Int).toNat).drop (1:Int).toNat)])]:Heap)=ps l:=
 congrArg (λg=>match g with|some g=>([(0,.hZ 240 [g])]:Heap)|none=>[]) (qu 3 oz t l)
def qN{s:ByteArray}{t:Tok}{l:List Tok}:nu s (t::l)=true↔qP s (t::l)=true/\t.kind≠5:=by
 simp[nu,qQ]
theorem EP(t:Tok)(l:List Tok)(s:ByteArray)(h:nu s (t::l)=true):Hf pg 210 1 [.p 0 0,gs s] (ps (t::l)) (fun g σ n=>g=.v (.bool true)∧σ=ps l∧n=1):=by
 obtain⟨h1,h2⟩:=qN.1 h;refine Hf.lL (R:=fun σ n=>σ=ps l∧n=1) ?_;refine Hf.of gV func210 rfl ntmps210 rfl results210 call210 fun H0 S0 w0 h0 g0=>?_;refine ig (KT t l s) id rfl rfl ⟨rfl,trivial⟩ rfl ay ?_;rintro g σ' n' ⟨rfl,rfl,rfl⟩;refine p1 ⟨oz t,ax,rfl,?_⟩ h1;have hk:(t.kind != 5)=true:=by simp[h2]
 exact p1 ⟨ax,aq,aA,⟨hk,Qk t l,rfl⟩⟩ hk
theorem Gm(t:Tok)(l:List Tok)(s:ByteArray)(h:nu s (t::l)=false):Hf pg 210 1 [.p 0 0,gs s] (ps (t::l)) (fun g σ n=>g=.v (.bool false)∧σ=ps (t::l)∧n=1):=by
 refine Hf.lL (R:=fun σ n=>σ=ps (t::l)∧n=1) ?_;refine Hf.of gV func210 rfl ntmps210 rfl results210 call210 fun H0 S0 w0 h0 g0=>?_;refine ig (KT t l s) id rfl rfl ⟨rfl,trivial⟩ rfl ay ?_;rintro g σ' n' ⟨rfl,rfl,rfl⟩;rcases tf (qP s (t::l)) with h1|h1
 ·have h2:t.kind=5:=Classical.byContradiction fun hh=>by rw[qN.2 ⟨h1,hh⟩]at h;cases h
  refine p1 ⟨oz t,ax,rfl,?_⟩ h1;have hk:(t.kind != 5)=false:=by simp[h2]
  exact p2 ⟨hk,rfl,rfl⟩ hk
 ·exact p2 ⟨rfl,rfl,rfl⟩ h1
theorem DF(t:Tok)(l:List Tok)(s:ByteArray):Hx pg 209 1 [.p 0 0,gs s] (ps (t::l)) (fun g σ n=>qg s (t::l)=.ok ((),l)∧nu s (t::l)=true∧g=.tup []∧σ=ps l∧n=1) (uh (qg s (t::l))):=by
 refine Hx.q9 gV func209 rfl ntmps209 rfl results209 call209 fun H0 S0 w0 h0 g0=>?_;refine V ?_;rcases tf (nu s (t::l)) with h|h
 ·refine ig (EP t l s h) id rfl rfl ⟨rfl,trivial⟩ rfl ay ?_;rintro g σ' n' ⟨rfl,rfl,rfl⟩
  repeat (first|refine p1 ?_|refine p2 ?_|refine p3 ?_|refine p4 ?_)
  exact⟨by simp[qg,h],h,rfl,rfl,rfl⟩
 ·refine ig (Gm t l s h) id rfl rfl ⟨rfl,trivial⟩ rfl ay ?_;rintro g σ' n' ⟨rfl,rfl,rfl⟩
  repeat (first|refine p1 ?_|refine p2 ?_|refine p3 ?_|refine p4 ?_)
  refine vR (uh (qg s (t::l))) (uY t l 3) (fun g hg=>⟨3,t.pos,by simp[qg,h,qz,qQ],hg⟩) id rfl rfl ⟨rfl,trivial⟩ rfl ay ?_;exact fun _ _ _ h=>h.elim
def Gq(t:Tok)(l:List Tok)(k:Int):Hx pg 214 1 [.p 0 0,gi k] (ps (t::l)) (λg σ n=>uc k (t::l)=.ok (t.text,l)/\t.kind=k/\g=gs t.text/\σ=ps l/\n=1) (uh (uc k (t::l))):=by
 refine Hx.q9 gV func214 rfl ntmps214 rfl results214 call214 λH0 S0 w0 h0 g0=>?_;refine V ⟨oz t,ax,rfl,?_⟩;rcases tf (t.kind != k) with h|h
 ·have hk:t.kind≠k:=by simpa using h
  refine p1 (vR (uh (uc k (t::l))) (uY t l 3) (λg hg=>⟨3,t.pos,by simp[uc,qz,qQ,hk],hg⟩) id rfl rfl ⟨rfl,trivial⟩ rfl ay ?_) h;exact λ_ _ _ h=>h.elim
 have hk:t.kind=k:=by simpa using h
 exact p2 ⟨oz t,ax,rfl,⟨ax,aq,aA,⟨by simp[uc,qQ,hk],hk,rfl,Qk t l,rfl⟩⟩⟩ h
def Rl(t:Tok)(l:List Tok):Hx pg 211 1 [.p 0 0] (ps (t::l)) (λg σ n=>rm (t::l)=.ok (t.text,l)/\t.kind=1/\g=gs t.text/\σ=ps l/\n=1) (uh (rm (t::l))):=by
 refine Hx.q9 gV func211 rfl ntmps211 rfl results211 call211 λH0 S0 w0 h0 g0=>?_;refine V ⟨oz t,ax,rfl,?_⟩;have fin:(¬(t.kind=1/\lU t.text=false))->rm (t::l)=uc 1 (t::l):=λh=>if_neg h;rcases tf (t.kind==1) with h|h
 ·have hk:t.kind=1:=by simpa using h
  refine p1 ⟨oz t,ax,rfl,(GO (Oh t.text) rfl ?_)⟩ h;rcases tf (lU t.text) with h2|h2
  ·repeat (first|refine p1 ?_|refine p2 ?_|refine p3 ?_|refine p4 ?_)
   refine vR (uh (rm (t::l))) (Gq t l 1) (λg ⟨e,p,h3,h4⟩=>⟨e,p,by rw[fin (by simp[h2])];exact h3,h4⟩) id rfl rfl ⟨rfl,trivial⟩ rfl ay ?_;rintro g σ' n' ⟨h3,h4,rfl,rfl,rfl⟩;exact V ⟨by rw[fin (by simp[h2])];exact h3,hk,rfl,rfl,rfl⟩
  repeat (first|refine p1 ?_|refine p2 ?_|refine p3 ?_|refine p4 ?_)
  refine vR (uh (rm (t::l))) (uY t l 4) (λg hg=>⟨4,t.pos,by simp[rm,qz,qQ,hk,h2],hg⟩) id rfl rfl ⟨rfl,trivial⟩ rfl ay ?_;exact λ_ _ _ h=>h.elim
 have hk:t.kind≠1:=by simpa using h
 refine p2 ?_ h
 repeat (first|refine p1 ?_|refine p2 ?_|refine p3 ?_|refine p4 ?_)
 refine vR (uh (rm (t::l))) (Gq t l 1) (λg ⟨e,p,h3,h4⟩=>⟨e,p,by rw[fin (by simp[hk])];exact h3,h4⟩) id rfl rfl ⟨rfl,trivial⟩ rfl ay ?_;rintro g σ' n' ⟨h3,h4,rfl,rfl,rfl⟩;exact absurd h4 hk
end Go.Proofs.YtadildidlcbbkaaGreatDoor
namespace Go.Proofs
open Go.Shelf
def Tryz.Gs:Go.Shelf.Ren:=⟨fun|173=>152|246=>206|283=>261|284=>262|285=>263|286=>264|129=>246|317=>307|318=>308|319=>309|320=>310|337=>350|338=>351|n=>n,fun|2=>2|3=>3|9=>9|4=>4|171=>331|0=>0|53=>233|37=>182|5=>5|173=>333|212=>383|51=>315|20=>20|213=>384|46=>219|232=>427|233=>428|n=>n,fun|17=>8|18=>11|19=>12|n=>n⟩
def Tryz.Pf:Go.Proofs.LaysM.n173 Tryz.prog Tryz.Gs:={
 mixed:=au
 f129:=Tryz.func246.trans ah
 f173:=Tryz.func152.trans ah
 f246:=Tryz.func206.trans ah
 f283:=Tryz.func261.trans ah
 f284:=Tryz.func262.trans ah
 f285:=Tryz.func263.trans ah
 f286:=Tryz.func264.trans ah
 f317:=Tryz.func307.trans ah
 f318:=Tryz.func308.trans ah
 f319:=Tryz.func309.trans ah
 f320:=Tryz.func310.trans ah
 f337:=Tryz.func350.trans ah
 f338:=Tryz.func351.trans ah
 t0:=Tryz.underlying0
 a0:=Tryz.isAgg0
 z0:=Tryz.sizeOf0
 v0:=Tryz.zeroValue0
 t2:=Tryz.underlying2
 a2:=Tryz.isAgg2
 z2:=Tryz.sizeOf2
 v2:=Tryz.zeroValue2
 t3:=Tryz.underlying3
 a3:=Tryz.isAgg3
 z3:=Tryz.sizeOf3
 v3:=Tryz.zeroValue3
 t4:=Tryz.underlying4
 a4:=Tryz.isAgg4
 z4:=Tryz.sizeOf4
 v4:=Tryz.zeroValue4
 t5:=Tryz.underlying5
 a5:=Tryz.isAgg5
 z5:=Tryz.sizeOf5
 v5:=Tryz.zeroValue5
 t9:=Tryz.underlying9
 a9:=Tryz.isAgg9
 z9:=Tryz.sizeOf9
 v9:=Tryz.zeroValue9
 t20:=Tryz.underlying20
 a20:=Tryz.isAgg20
 z20:=Tryz.sizeOf20
 v20:=Tryz.zeroValue20
 t37:=Tryz.underlying182
 a37:=Tryz.isAgg182
 z37:=Tryz.sizeOf182
 v37:=Tryz.zeroValue182
 t46:=Tryz.underlying219
 a46:=Tryz.isAgg219
 z46:=Tryz.sizeOf219
 v46:=Tryz.zeroValue219
 t51:=Tryz.underlying315
 a51:=Tryz.isAgg315
 z51:=Tryz.sizeOf315
 v51:=Tryz.zeroValue315
 t53:=Tryz.underlying233
 a53:=Tryz.isAgg233
 z53:=Tryz.sizeOf233
 v53:=Tryz.zeroValue233
 t171:=Tryz.underlying331
 a171:=Tryz.isAgg331
 z171:=Tryz.sizeOf331
 v171:=Tryz.zeroValue331
 t173:=Tryz.underlying333
 a173:=Tryz.isAgg333
 z173:=Tryz.sizeOf333
 v173:=Tryz.zeroValue333
 t212:=Tryz.underlying383
 a212:=Tryz.isAgg383
 z212:=Tryz.sizeOf383
 v212:=Tryz.zeroValue383
 t213:=Tryz.underlying384
 a213:=Tryz.isAgg384
 z213:=Tryz.sizeOf384
 t232:=Tryz.underlying427
 a232:=Tryz.isAgg427
 z232:=Tryz.sizeOf427
 v232:=Tryz.zeroValue427
 t233:=Tryz.underlying428
 a233:=Tryz.isAgg428
 z233:=Tryz.sizeOf428
 v233:=Tryz.zeroValue428
 g17:=au
 g18:=au
 g19:=au
 i0:=au
 i2:=au
 i3:=au
 i4:=au
 i5:=au
 i9:=au
 i20:=au
 i37:=au
 i46:=au
 i51:=au
 i53:=au
 i171:=au
 i173:=au
 i212:=au
 i232:=au
 i233:=au
 m17:=au
 m18:=au
 m19:=by kernel_rfl}
open Go.RowKit Go.Sort Go.Lib in
def Tryz.strconv_FormatInt_10(n:Int)(h0: -9223372036854775808<=n)(h1:n<=9223372036854775807)(w:World)(htab:Lib.TabIs Tryz.prog w "internal/strconv.uint64pow10" .u64 Lib.pow10Tab):
  Calls Tryz.prog 152 #[.int .i64 n,.int .i64 10] w λe w'=>e=.returned (.string ⟨(Lib.itoa n).toArray⟩)/\∃k os,w'=grow (w.drewN k) os:=Any.strconv_FormatInt_10 Tryz.Pf n h0 h1 w htab
def Tryz.F2:Go.Shelf.Ren:=⟨fun|174=>83|247=>147|245=>148|287=>198|279=>199|280=>200|281=>201|282=>202|321=>254|322=>255|316=>256|171=>258|205=>257|243=>304|246=>206|283=>261|284=>262|285=>263|286=>264|129=>246|317=>307|318=>308|319=>309|320=>310|337=>350|338=>351|n=>n,fun|9=>9|3=>3|2=>2|75=>36|85=>163|4=>4|167=>273|5=>5|53=>233|175=>274|46=>219|168=>276|37=>182|0=>0|210=>327|21=>21|127=>271|145=>377|143=>375|171=>331|173=>333|212=>383|51=>315|20=>20|213=>384|232=>427|233=>428|80=>173|n=>n,fun|15=>4|16=>5|17=>8|18=>11|19=>12|n=>n⟩
def Tryz.PT:Go.Proofs.LaysC.n174 Tryz.prog Tryz.F2:={
 mixed:=au
 f129:=Tryz.func246.trans ah
 f171:=Tryz.func258.trans ah
 f174:=Tryz.func83.trans ah
 f205:=Tryz.func257.trans ah
 f243:=Tryz.func304.trans ah
 f245:=Tryz.func148.trans ah
 f246:=Tryz.func206.trans ah
 f247:=Tryz.func147.trans ah
 f279:=Tryz.func199.trans ah
 f280:=Tryz.func200.trans ah
 f281:=Tryz.func201.trans ah
 f282:=Tryz.func202.trans ah
 f283:=Tryz.func261.trans ah
 f284:=Tryz.func262.trans ah
 f285:=Tryz.func263.trans ah
 f286:=Tryz.func264.trans ah
 f287:=Tryz.func198.trans ah
 f316:=Tryz.func256.trans ah
 f317:=Tryz.func307.trans ah
 f318:=Tryz.func308.trans ah
 f319:=Tryz.func309.trans ah
 f320:=Tryz.func310.trans ah
 f321:=Tryz.func254.trans ah
 f322:=Tryz.func255.trans ah
 f337:=Tryz.func350.trans ah
 f338:=Tryz.func351.trans ah
 t0:=Tryz.underlying0
 a0:=Tryz.isAgg0
 z0:=Tryz.sizeOf0
 v0:=Tryz.zeroValue0
 t2:=Tryz.underlying2
 a2:=Tryz.isAgg2
 z2:=Tryz.sizeOf2
 v2:=Tryz.zeroValue2
 t3:=Tryz.underlying3
 a3:=Tryz.isAgg3
 z3:=Tryz.sizeOf3
 v3:=Tryz.zeroValue3
 t4:=Tryz.underlying4
 a4:=Tryz.isAgg4
 z4:=Tryz.sizeOf4
 v4:=Tryz.zeroValue4
 t5:=Tryz.underlying5
 a5:=Tryz.isAgg5
 z5:=Tryz.sizeOf5
 v5:=Tryz.zeroValue5
 t9:=Tryz.underlying9
 a9:=Tryz.isAgg9
 z9:=Tryz.sizeOf9
 v9:=Tryz.zeroValue9
 t20:=Tryz.underlying20
 a20:=Tryz.isAgg20
 z20:=Tryz.sizeOf20
 v20:=Tryz.zeroValue20
 t21:=Tryz.underlying21
 a21:=Tryz.isAgg21
 z21:=Tryz.sizeOf21
 v21:=Tryz.zeroValue21
 t37:=Tryz.underlying182
 a37:=Tryz.isAgg182
 z37:=Tryz.sizeOf182
 v37:=Tryz.zeroValue182
 t46:=Tryz.underlying219
 a46:=Tryz.isAgg219
 z46:=Tryz.sizeOf219
 v46:=Tryz.zeroValue219
 t51:=Tryz.underlying315
 a51:=Tryz.isAgg315
 z51:=Tryz.sizeOf315
 v51:=Tryz.zeroValue315
 t53:=Tryz.underlying233
 a53:=Tryz.isAgg233
 z53:=Tryz.sizeOf233
 v53:=Tryz.zeroValue233
 t75:=Tryz.underlying36
 a75:=Tryz.isAgg36
 z75:=Tryz.sizeOf36
 v75:=Tryz.zeroValue36
 t85:=Tryz.underlying163
 a85:=Tryz.isAgg163
 z85:=Tryz.sizeOf163
 v85:=Tryz.zeroValue163
 t127:=Tryz.underlying271
 a127:=Tryz.isAgg271
 z127:=Tryz.sizeOf271
 v127:=Tryz.zeroValue271
 t143:=Tryz.underlying375
 a143:=Tryz.isAgg375
 z143:=Tryz.sizeOf375
 v143:=Tryz.zeroValue375
 t145:=Tryz.underlying377
 a145:=Tryz.isAgg377
 z145:=Tryz.sizeOf377
 v145:=Tryz.zeroValue377
 t167:=Tryz.underlying273
 a167:=Tryz.isAgg273
 z167:=Tryz.sizeOf273
 v167:=Tryz.zeroValue273
 t168:=Tryz.underlying276
 a168:=Tryz.isAgg276
 z168:=Tryz.sizeOf276
 v168:=Tryz.zeroValue276
 t171:=Tryz.underlying331
 a171:=Tryz.isAgg331
 z171:=Tryz.sizeOf331
 v171:=Tryz.zeroValue331
 t173:=Tryz.underlying333
 a173:=Tryz.isAgg333
 z173:=Tryz.sizeOf333
 v173:=Tryz.zeroValue333
 t175:=Tryz.underlying274
 a175:=Tryz.isAgg274
 z175:=Tryz.sizeOf274
 v175:=Tryz.zeroValue274
 t210:=Tryz.underlying327
 a210:=Tryz.isAgg327
 z210:=Tryz.sizeOf327
 v210:=Tryz.zeroValue327
 t212:=Tryz.underlying383
 a212:=Tryz.isAgg383
 z212:=Tryz.sizeOf383
 v212:=Tryz.zeroValue383
 t213:=Tryz.underlying384
 a213:=Tryz.isAgg384
 z213:=Tryz.sizeOf384
 t232:=Tryz.underlying427
 a232:=Tryz.isAgg427
 z232:=Tryz.sizeOf427
 v232:=Tryz.zeroValue427
 t233:=Tryz.underlying428
 a233:=Tryz.isAgg428
 z233:=Tryz.sizeOf428
 v233:=Tryz.zeroValue428
 g15:=au
 g16:=au
 g17:=au
 g18:=au
 g19:=au
 t80:=Tryz.underlying173
 a80:=Tryz.isAgg173
 z80:=Tryz.sizeOf173
 v80:=Tryz.zeroValue173
 i0:=au
 i2:=au
 i3:=au
 i4:=au
 i5:=au
 i9:=au
 i20:=au
 i21:=au
 i37:=au
 i46:=au
 i51:=au
 i53:=au
 i75:=au
 i80:=au
 i85:=au
 i127:=au
 i143:=au
 i145:=au
 i167:=au
 i168:=au
 i171:=au
 i173:=au
 i175:=au
 i210:=au
 i212:=au
 i232:=au
 i233:=au
 m15:=au
 m16:=au
 m17:=au
 m18:=au
 m19:=au
 c0:=au
 c2:=au
 c3:=au
 c4:=au
 c5:=au
 c9:=au
 c20:=au
 c21:=au
 c37:=au
 c46:=au
 c51:=au
 c53:=au
 c75:=au
 c80:=au
 c85:=au
 c127:=au
 c143:=au
 c145:=au
 c167:=au
 c168:=au
 c171:=au
 c173:=au
 c175:=au
 c210:=au
 c212:=au
 c213:=au
 c232:=au
 c233:=by kernel_rfl}
open Go.RowKit in
def Tryz.strconv_ParseInt_10_at64_ok(s:ByteArray)(hmax:s.size<=9223372036854775806)(v:Int)(h:Lib.parseIntB 64 s.data.toList=.ok v)(w:World):
  Calls Tryz.prog 83 #[.string s,.int .i64 10,.int .i64 64] w λe w'=>e=.returned (.tuple #[.int .i64 v,.nilIface])/\(w'=w\/∃t,w'=Lib.bytesWorld w 5 t):=Any.strconv_ParseInt_10_at64_ok Tryz.PT s hmax v h w
end Go.Proofs
namespace Go.Proofs.YtadildidlcbbkaaGreatDoor
open Go Go.GK Go.PL Go.RowKit IntKind Go.Proofs.Tryz
set_option maxRecDepth 100000
def T9(n:Int)(h0: -9223372036854775808<=n)(h1:n<=9223372036854775807):Rt pg 152 [gi n,gi 10] (gs (bS (Lib.itoa n))):=by
 refine Rq.MZ (p:=pg) call152 [.int .i64 n,.int .i64 10] _ λH w hg hro=>?_;obtain⟨ty,fz,hv⟩:=hg.k_ hro (g:=8) (vs:=Lib.pow10Tab.map λz=>.int .u64 z) au;refine (Tryz.strconv_FormatInt_10 n h0 h1 w ?_).mono ?_
 ·unfold Lib.TabIs World.var?;have:prog.globalNamed "internal/strconv.uint64pow10" =some 8:=au
  rw[this];simp only[Option.bind_some,hv]
 rintro e w' ⟨rfl,k,os,rfl⟩;exact⟨_,_,rfl,Lib.below_grow _ w (aL _) k os,λro=>.v _,rfl,rfl⟩
def Td(t:Tok)(l:List Tok)(s:ByteArray){c:Bool}(h:qP s (t::l)=c):Hf pg 213 1 [.p 0 0,gs s] (ps (t::l)) (λg σ n=>g=.v (.bool c)/\σ=ps (t::l)/\n=1):=
 Hf.lL (R:=λσ n=>σ=ps (t::l)/\n=1) ((KT t l s).imp λ_ _ _ ⟨e,r⟩=>⟨by rw[e];exact h,r⟩)
theorem P3(ws:List ByteArray)(hws:ws.length≤100)(t:Tok)(l:List Tok)(n:Nat)(hn:n≤ws.length)(h1:∀i (h:i<ws.length),i<n→qP ws[i] (t::l)=false)(h2:∀h:n<ws.length,qP ws[n] (t::l)=true):
  Hf pg 212 1 [.sl 1 (ws.map fun s=>[gs s]),.fn (.func 213) [.p 0 0] []] (ps (t::l)) (fun g σ m=>g=gi (if n<ws.length then n else-1)∧σ=ps (t::l)∧m=1):=by
 refine Hf.of gV func212 rfl ntmps212 rfl results212 call212 fun H0 S0 w0 h0 g0=>?_;have hll:(ws.map fun s=>[gs s]).length=ws.length:=aA
 refine JK.loop (α:=Nat) (fun i=>⟨[(0,.sl 1 (ws.map fun s=>[gs s])),(1,.fn (.func 213) [.p 0 0] []),(7,gi (ws.map fun s=>[gs s]).length),(8,gi i)],ps (t::l),1⟩) (fun i=>i≤n) (fun i=>n-i) 0 id ?_ (aQ _) ?_
 ·exact⟨⟨rfl,rfl,rfl,rfl,trivial⟩,⟨rfl,trivial⟩,rfl⟩
 ·intro i hi;refine V ?_;by_cases hlt:i<ws.length
  ·refine p1 (ix (h:=?_));by_cases hin:i<n
   ·refine ig (Td t l ws[i] (h1 i hlt hin)) id rfl rfl ⟨rfl,trivial⟩ rfl ay ?_;rintro g σ' n' ⟨rfl,rfl,rfl⟩;exact⟨i+1,id,⟨⟨rfl,rfl,rfl,h_ az,trivial⟩,⟨rfl,trivial⟩,rfl⟩,hin,m8⟩
   ·have hin':i=n:=az
    subst hin';refine ig (Td t l ws[i] (h2 hlt)) id rfl rfl ⟨rfl,trivial⟩ rfl ay ?_;rintro g σ' n' ⟨rfl,rfl,rfl⟩;exact⟨by rw[if_pos hlt];rfl,rfl,rfl⟩
  ·exact p2 (V ⟨by rw[if_neg az];rfl,rfl,rfl⟩)
def yM{α:Type}{p:α->Bool}:∀{l:List α} {n:Nat},n<=l.length->(∀i (h:i<l.length),i<n->p l[i]=false)->(∀h:n<l.length,p l[n]=true)->l.findIdx? p=if n<l.length then some n else none
 | [],n,hn,_,_=>aA
 |a::l,0,_,_,h2=>by
  have:=h2 aA;simp only[d_]at this;simp[dX,this]
 |a::l,n+1,hn,h1,h2=>by
  have h0:=h1 0 aA az;simp only[d_]at h0;have ih:=yM (p:=p) (l:=l) (n:=n) (by simpa using hn) (λi h hh=>h1 (i+1) (by simpa using h) az) (λh=>h2 (by simpa using h));rw[dX,h0,ih];by_cases h:n<l.length<;>simp[h]
def GB(ws:List ByteArray)(hws:ws.length<=100)(t:Tok)(l:List Tok):Hf pg 212 1 [.sl 1 (ws.map λs=>[gs s]),.fn (.func 213) [.p 0 0] []] (ps (t::l)) (λg σ n=>g=gi (match ws.findIdx? λs=>qP s (t::l) with|some k=>k|none=> -1)/\σ=ps (t::l)/\n=1):=by
 obtain⟨n,hn,h1,h2,_⟩:=tr ws λs=>qP s (t::l);refine (P3 ws hws t l n hn h1 h2).imp λg σ m ⟨e,r⟩=>⟨?_,r⟩;rw[e,yM hn h1 h2];by_cases h:n<ws.length<;>simp[h]
def UN{α:Type}(P:tW α)(G:α->GV)(L:Nat)(g:GV)(σ:Heap)(n:Nat):Prop:=∃a l',P=.ok (a,l')/\nB l'/\l'.length<L/\g=G a/\σ=ps l'/\n=1
def UJ{α:Type}{P:tW α}{G:α->GV}{L:Nat}{f:FuncId}{args:List GV}{σ:Heap}{R:GV->Prop}(h:Hx pg f 1 args σ (λg σ' n=>1<=n/\∃a l',P=.ok (a,l')/\nB l'/\l'.length<L/\g=G a/\σ'=ps l') R)(hG:∀a,iy 1 (G a)=true):Hx pg f 1 args σ (UN P G L) R:=
 h.jK (λ_ h=>h) λg σ' n' ⟨hn,a,l',h1,h4,h5,h2,h3⟩=>⟨id,G a,ps l',1,⟨a,l',h1,h4,h5,rfl,rfl,rfl⟩,by rw[h2,mR],by rw[h3];exact⟨rfl,trivial⟩,by simp[hG,iL,jm,im,iy,iv,iu,jf,je]⟩
section
variable {N n0:Nat}{H0:Hid}{S0:List Nat}{w0:World}{h0:H0.n=n0}{g0:iX pg H0}{T:jz}{k:List It}{s:St}
def U1 {all:List Oper} {o:Oper} {rest:List Oper} {f:FuncId} {cargs gs:List GV} {G:GV} (hr:Rt pg f cargs G) (hk:mQ pg all s.ρ o=some (f,gs)) (hl:uJ s.σ gs cargs)
  (h:lB N s.ρ o.dst G λρ'=>JK ⟨pg,N,n0,H0,S0,w0,h0,g0⟩ T (.ops false all rest::k) ⟨ρ',s.σ,s.n⟩) (hfree:mq G=true:=by rfl):JK ⟨pg,N,n0,H0,S0,w0,h0,g0⟩ T (.ops false all (o::rest)::k) s:=by
 obtain⟨fo,args,ts,first,caps,gs',ho,hgd,hf,he,hargs⟩:=mu hk;refine JK.AJ hr.ct hr.call ho hgd hf he (by rw[hargs];exact hl) (λg σ' n' hq=>?_) (λg σ' n' hq=>?_)
 ·obtain⟨⟨rfl,h1⟩,_,_⟩:=hq;simp[h1,hfree]
 obtain⟨⟨rfl,h1⟩,_,_⟩:=hq;rw[nc,<-oh];exact h
def Vk (vs:List Value) {all:List Oper} {o:Oper} {rest:List Oper} {t e n:Nat} {x:Operand} {ti tie:TI} (ho:o.op=.slice t x none none none) (hgd:mS all s.ρ o.guard=true) (ht:jv Kj t=some ti) (htd:ti.d=.array n e) (hte:jv Kj e=some tie) (hsz:tie.sz=1) (hx:ev pg s.ρ x=some (.r (vs.map .v))) (hn:vs.length=n) (hne:Nat.ble 1 n=true) (hm:Nat.ble n maxLen=true) (h1:vs.all (·.oneCell')=true)
  (h:lB N s.ρ o.dst (.sl 1 (vs.map λv=>[.v v])) λρ'=>JK ⟨pg,N,n0,H0,S0,w0,h0,g0⟩ T (.ops false all rest::k) ⟨ρ',s.σ,s.n⟩):JK ⟨pg,N,n0,H0,S0,w0,h0,g0⟩ T (.ops false all (o::rest)::k) s:=by
 rw[oh]at h;exact JK.NT (cx:=⟨pg,N,n0,H0,S0,w0,h0,g0⟩) gV ho hgd ht htd hte hsz hx hn hne hm h1 h
end
theorem IB(t0:Tok)(l0:List Tok)(hE0:nB (t0::l0))(hlen:l0.length≤1000):Hx pg 156 1 [.p 0 0] (ps (t0::l0)) (UN (n_ (t0::l0)) (fun m=>.sl 3 (m.map mt)) (l0.length+1)) (uh (n_ (t0::l0))):=by
 refine UJ ?_ (fun a=>rfl);refine Hx.q9 gV func156 rfl ntmps156 rfl results156 call156 fun H0 S0 w0 h0 g0=>?_;refine V ?_;refine vR (uh (n_ (t0::l0))) (DF t0 l0 (bS [123])) (fun g ⟨e,p,h1,h2⟩=>⟨e,p,by rw[n_,h1],h2⟩) id rfl rfl ⟨rfl,trivial⟩ rfl ay ?_;rintro g σ' n' ⟨hm,htk,rfl,rfl,rfl⟩;have hk0:t0.kind≠5:=(qN.1 htk).2;have hE1:nB l0:=hE0.tail hk0;have hP:n_ (t0::l0)=jG (l0.length+1) [] l0:=by rw[n_,hm]
 rw[hP];obtain⟨t1,l1,rfl⟩:=hE1.cons;refine V ?_;show JK _ _ _ _;refine JK.kx 3 68 3 rfl ?_;refine JK.iT (α:=Bool×List Mt×Tok×List Tok×Nat) (β:=List Mt×List Tok) (fun x=>⟨[(0,.p 0 0),(3,.o 1),(4,.v (.bool x.1))],[(0,.hZ 240 [yX (x.2.2.1::x.2.2.2.1)]),(1,.row 68 3 (x.2.1.map mt))],2⟩)
  (fun x=>x.1=decide (x.2.1.length=0)∧nB (x.2.2.1::x.2.2.2.1)∧x.2.2.2.1.length+1<x.2.2.2.2∧x.2.1.length≤8∧x.2.2.2.1.length≤l1.length∧jG x.2.2.2.2 x.2.1 (x.2.2.1::x.2.2.2.1)=jG ((t1::l1).length+1) [] (t1::l1)) (fun x=>x.2.2.2.1.length)
  (fun y=>⟨[(3,.o 1)],[(0,.hZ 240 [yX y.2]),(1,.row 68 3 (y.1.map mt))],2⟩) (fun y=>jG ((t1::l1).length+1) [] (t1::l1)=.ok (y.1,y.2)∧nB y.2∧y.2.length≤l1.length) (true,[],t1,l1,(t1::l1).length+1) id ?_ ?_ ?_ ?_
 ·exact⟨⟨rfl,rfl,rfl,trivial⟩,⟨rfl,rfl,trivial⟩,rfl⟩
 ·exact⟨rfl,hE1,by simp,by simp,aL _,rfl⟩
 ·rintro⟨b,acc,t,l,f⟩ ⟨hb,hE,hf,h8,hl,heq⟩;replace hb:b=decide (acc.length=0):=hb;replace hE:nB (t::l):=hE;replace hf:l.length+1<f:=hf;replace h8:acc.length≤8:=h8;replace hl:l.length≤l1.length:=hl;replace heq:jG f acc (t::l)=jG ((t1::l1).length+1) [] (t1::l1):=heq;obtain⟨f,rfl⟩:∃f',f=f'+1:=⟨f-1,by omega⟩;refine V ?_;rcases tf (nu (bS [125]) (t::l)) with hend|hend
  ·refine ig (EP t l (bS [125]) hend) id rfl rfl ⟨rfl,trivial⟩ rfl ay ?_;rintro g σ' n' ⟨rfl,rfl,rfl⟩;exact⟨(acc,l),id,⟨⟨rfl,trivial⟩,⟨rfl,rfl,trivial⟩,rfl⟩,⟨by rw[←heq,jG,if_pos hend];rfl,hE.tail (qN.1 hend).2,hl⟩⟩
  ·refine sw (Gm t l (bS [125]) hend) id rfl rfl ⟨rfl,trivial⟩ rfl ay ?_;rintro g σ' n' ⟨rfl,rfl,rfl⟩;refine VM 7 ?_;refine JK.cut (α:=Tok×List Tok) (fun x=>⟨[(0,.p 0 0),(3,.o 1)],[(0,.hZ 240 [yX (x.1::x.2)]),(1,.row 68 3 (acc.map mt))],2⟩) (fun x=>nB (x.1::x.2)∧x.2.length≤l.length∧(if acc.length=0 then .ok ((),t::l) else qg (bS [44]) (t::l))=(.ok ((),x.1::x.2):tW Unit)) ?_ ?_
   ·cases b with
    |true=>
     have ha:acc.length=0:=of_decide_eq_true hb.symm;refine V ?_;exact⟨(t,l),id,⟨⟨rfl,rfl,trivial⟩,⟨rfl,rfl,trivial⟩,rfl⟩,hE,aL _,by rw[if_pos ha]⟩
    |false=>
     have ha:¬acc.length=0:=of_decide_eq_false hb.symm;refine V ?_;refine vR (uh (jG ((t1::l1).length+1) [] (t1::l1))) (DF t l (bS [44])) (fun g ⟨e,p,h1,h2⟩=>⟨e,p,by rw[←heq,jG,if_neg (by simp[hend]),if_neg ha,h1],h2⟩) id rfl rfl ⟨rfl,trivial⟩ rfl ay ?_;rintro g σ' n' ⟨hm,htk,rfl,rfl,rfl⟩;have hE2:=hE.tail (qN.1 htk).2;obtain⟨t2,l2,rfl⟩:=hE2.cons;refine V ?_;exact⟨(t2,l2),id,⟨⟨rfl,rfl,trivial⟩,⟨rfl,rfl,trivial⟩,rfl⟩,hE2,by simp,by rw[if_neg ha];exact hm⟩
   rintro⟨t2,l2⟩ ⟨hE2,hl2,hc⟩;replace hE2:nB (t2::l2):=hE2;replace hl2:l2.length≤l.length:=hl2;have hM:jG (f+1) acc (t::l)=if 8≤acc.length then qz 4 (t2::l2) else (match rD (t2::l2) with| .error e=>.error e| .ok (m,l)=>jG f (acc++[m]) l):=by
    replace hc:(if acc.length=0 then .ok ((),t::l) else qg (bS [44]) (t::l))=(.ok ((),t2::l2):tW Unit):=hc;rw[jG,if_neg (by simp[hend]),hc];rfl
   rw[heq]at hM;refine V ?_;by_cases h8':8≤acc.length
   ·refine p1 ?_ (decide_eq_true aq);refine vR (uh (jG ((t1::l1).length+1) [] (t1::l1))) (uY t2 l2 4) (fun g hg=>⟨4,t2.pos,by rw[hM,if_pos h8'];rfl,hg⟩) id rfl rfl ⟨rfl,trivial⟩ rfl ay ?_;exact fun _ _ _ h=>h.elim
   refine p2 ?_ (decide_eq_false aq);rw[if_neg h8']at hM;refine vR (uh (jG ((t1::l1).length+1) [] (t1::l1))) (Rl t2 l2) (fun g ⟨e,p,h1,h2⟩=>⟨e,p,by rw[hM,rD,h1],h2⟩) id rfl rfl ⟨rfl,trivial⟩ rfl ay ?_;rintro g σ' n' ⟨hn,hk1,rfl,rfl,rfl⟩;have hE3:=hE2.tail az;obtain⟨t3,l3,rfl⟩:=hE3.cons;have hPm:rD (t2::t3::l3)=(match opsL.findIdx? fun s=>qP s (t3::l3) with
     |none=>qz 3 (t3::l3)
     |some k=>match qg (opsL.getD k ⟨#[]⟩) (t3::l3) with
      | .error e=>.error e
      | .ok (_,l)=>match uc 3 l with
       | .error e=>.error e
       | .ok (s,l')=>if ma (s.extract 1 (s.size-1)) then .ok (⟨t2.text,k,s.extract 1 (s.size-1)⟩,l') else qz 4 l):=by
    rw[rD,hn];rfl
   rw[hPm]at hM;refine VM 6 ?_;refine Vk (opsL.map .string) rfl rfl rfl rfl rfl rfl rfl rfl rfl rfl rfl ?_;refine V ?_;cases hfi:opsL.findIdx? fun s=>qP s (t3::l3) with
   |none=>
    rw[hfi]at hM;refine ig ((GB opsL ax t3 l3).imp (Q':=fun g σ n=>g=gi (-1)∧σ=ps (t3::l3)∧n=1) fun g σ n ⟨e,r⟩=>⟨by rw[e,hfi],r⟩) id rfl rfl ⟨rfl,trivial⟩ rfl ay ?_;rintro g σ' n' ⟨rfl,rfl,rfl⟩;refine p1 ?_;refine vR (uh (jG ((t1::l1).length+1) [] (t1::l1))) (uY t3 l3 3) (fun g hg=>⟨3,t3.pos,by rw[hM];rfl,hg⟩) id rfl rfl ⟨rfl,trivial⟩ rfl ay ?_;exact fun _ _ _ h=>h.elim
   |some j=>
    rw[hfi]at hM;have hj:j<4:=(ck.1 hfi).1;refine ig ((GB opsL ax t3 l3).imp (Q':=fun g σ n=>g=gi j∧σ=ps (t3::l3)∧n=1) fun g σ n ⟨e,r⟩=>⟨by rw[e,hfi],r⟩) id rfl rfl ⟨rfl,trivial⟩ rfl ay ?_;rintro g σ' n' ⟨rfl,rfl,rfl⟩;refine p2 ?_;refine⟨by omega,by omega,?_⟩;refine tL (g:=gs (opsL.getD j ⟨#[]⟩)) ?_ ?_
    ·match j,hj with
     |0,_=>rfl
     |1,_=>rfl
     |2,_=>rfl
     |3,_=>rfl
    refine vR (uh (jG ((t1::l1).length+1) [] (t1::l1))) (DF t3 l3 (opsL.getD j ⟨#[]⟩)) (fun g ⟨e,p,h1,h2⟩=>⟨e,p,by rw[hM];simp only[h1],h2⟩) id rfl rfl ⟨rfl,trivial⟩ rfl ay ?_;rintro g σ' n' ⟨hmu,htk2,rfl,rfl,rfl⟩;have hE4:=hE3.tail (qN.1 htk2).2;obtain⟨t4,l4,rfl⟩:=hE4.cons;simp only[hmu]at hM;refine V ?_;refine⟨oz t4,by decide,rfl,?_⟩;refine vR (uh (jG ((t1::l1).length+1) [] (t1::l1))) (Gq t4 l4 3) (fun g ⟨e,p,h1,h2⟩=>⟨e,p,by rw[hM];simp only[h1],h2⟩) id rfl rfl ⟨rfl,trivial⟩ rfl ay ?_;rintro g σ' n' ⟨han,hk3,rfl,rfl,rfl⟩;have hE5:=hE4.tail az;obtain⟨t5,l5,rfl⟩:=hE5.cons;have ht4:=(hE4.each t4 bf);have hsz:=OE ht4.1 hk3;have hsz2:=ht4.2;have hw:i64.wrap ((t4.text.size:Int) -1)=((t4.text.size-1:Nat):Int):=by rw[ic az az];omega
    refine V ?_;refine⟨by decide,by rw[hw];omega,by rw[hw];omega,?_⟩;have hv:t4.text.extract (1:Int).toNat (i64.wrap ((t4.text.size:Int) -1)).toNat=t4.text.extract 1 (t4.text.size-1):=by rw[hw];rfl
    have hm1:(⟨t2.text,j,t4.text.extract (1:Int).toNat (i64.wrap ((t4.text.size:Int) -1)).toNat⟩:Mt)=⟨t2.text,j,t4.text.extract 1 (t4.text.size-1)⟩:=by rw[hv]
    have hSm:Qs [(⟨t2.text,j,t4.text.extract (1:Int).toNat (i64.wrap ((t4.text.size:Int) -1)).toNat⟩:Mt)]:=fun x hx=>by
     rw[aH.1 hx,hv,cJ];omega
    have hnm:lU t2.text=true:=O7 hn hk1;have hask:=ME (m:=⟨t2.text,j,t4.text.extract (1:Int).toNat (i64.wrap ((t4.text.size:Int) -1)).toNat⟩) hnm aA aq;simp only[han]at hM;rw[←hm1,←hv]at hM;rcases tf (ma (t4.text.extract (1:Int).toNat (i64.wrap ((t4.text.size:Int) -1)).toNat)) with hvf|hvf
    ·rw[if_pos hvf]at hM;refine Ma ((qt _ hSm).bt (hask.trans hvf)) rfl ⟨⟨rfl,rfl⟩,trivial⟩ ?_;refine⟨by simp;omega,?_⟩;refine⟨(false,acc++[⟨t2.text,j,t4.text.extract (1:Int).toNat (i64.wrap ((t4.text.size:Int) -1)).toNat⟩],t5,l5,f),fun i=>bif Nat.beq i 1 then 6 else i,⟨⟨rfl,rfl,rfl,trivial⟩,⟨rfl,?_,trivial⟩,rfl⟩,⟨?_,hE5,?_,?_,?_,hM.symm⟩,?_⟩
     ·exact congrArg (fun x=>some (hY.row 68 3 x)) (aP (l₁:=acc) (l₂:=[⟨t2.text,j,t4.text.extract (1:Int).toNat (i64.wrap ((t4.text.size:Int) -1)).toNat⟩]) (f:=mt)).symm
     ·exact (decide_eq_false aA).symm
     ·show l5.length+1<f;simp at hl2;omega
     ·show (acc++[_]).length≤8;simp;omega
     ·show l5.length≤l1.length;simp at hl2;omega
     ·show l5.length<l.length;simp at hl2;omega
    ·rw[if_neg (Bool.eq_false_iff.1 hvf)]at hM;refine U1 ((qt _ hSm).bt (hask.trans hvf)) rfl ⟨⟨rfl,rfl⟩,trivial⟩ ?_;refine VM 11 ?_;refine JK.qF 5 rfl rfl ?_;refine JK.throw rfl rfl rfl rfl ?_;intro v X σ n hX;exact⟨v,_,X,rfl,hX,⟨4,t4.pos,hM,rfl⟩,rfl⟩
 ·rintro⟨acc,l⟩ ⟨hq,hq2,hq3⟩;refine ot 1 rfl ?_;exact⟨bA rfl,acc,l,hq,hq2,by simp;exact Nat.lt_succ_of_le (Nat.le_succ_of_le hq3),rfl,rfl⟩
def qG:Qn->GV
 | .nil=>.v (.pointer none)
 | .mk c n m sp ns l r=>.r [gi c,gi n,.sl 3 (m.map mt),gi sp,.sl 1 (ns.map λs=>[gs s]),qG l,qG r]
def L3:∀(q:Qn) (n:Nat),iy n (qG q)=true
 | .nil,_=>rfl
 | .mk ..,_=>rfl
def Sub.eq{x y:GV}(h:x=y):Sub x y:=h ▸ Sub.rfl
def Ry(u:Value)(w:World):(Instr.typeAssert (.iface 284 u) 20 284 true).run prog w=.ok (.tuple #[u,.bool true]) w:=au
def Ij(p:Addr)(w:World):CallsD prog 208 #[.pointer (some p)] .returning w λe u' w'=>e=.returned (.tuple #[])/\u'=.returning/\w'=w:=by
 refine callsD_of_wpS func208 rfl λc₀ cs hu=>?_;apply wpS_seq;apply wpS_region;simp[wpOpsS,go_sem,recoverD,hu,ntmps208,Exit.thenS];refine wpS_of_wp ?_;simp only[Array.replicate]
 go_wp2
 cases c₀
 simp_all [bodyPostS,results,results208]
def FA(p:Addr)(x:Value)(t:TypeId)(q:Value)(w:World)(hc:w.cell? p=some x)(hz:w.frozen? p=false):CallsD prog 208 #[.pointer (some p)] (.panicking [{v:=.iface 284 (.agg #[(.iface t q)]),recovered:=false}]) w λe u' w'=>e=.returned (.tuple #[])/\u'=.panicking [{v:=.iface 284 (.agg #[(.iface t q)]),recovered:=true}]/\w'=(w.alloc (.cells #[(.iface t q)] 284)).setCell p (.iface t q):=by
 refine callsD_of_wpS func208 rfl λc₀ cs hu=>?_;apply wpS_seq;apply wpS_region;simp[wpOpsS,go_sem,recoverD,hu,ntmps208,Exit.thenS];refine wpS_of_wp ?_;simp only[Array.replicate]
 go_wp2
 rw[Ry]
 rename_i K1 a1 K a
 refine a _ _ ?_;have hlt:p.block<w.heap.size:=World.block_lt_of_cell? w _ hc;have hh:(w.alloc (.cells #[.iface t q] 284)).heap[p.block]? =w.heap[p.block]? :=((Below.refl w.heap.size w).alloc (aL _) _).block _ hlt;have hc2:(w.alloc (.cells #[.iface t q] 284)).cell? p=some x:=by
  unfold World.cell? at hc|-;rw[hh];exact hc
 have hz2:(w.alloc (.cells #[.iface t q] 284)).frozen? p=false:=by
  unfold World.frozen? at hz|-;rw[hh];exact hz
 go_wp2
 cases c₀
 simp_all [bodyPostS,results,results208]
def back{H H':Hid}{σ σ':Heap}{w w' w'':World}{o:Obj}(hs:Sat H σ w)(hs':Sat H' σ' w')(hfr:Fr H (g_ H σ) (w.alloc o) H' (g_ H' σ') w')(hos:w''.os=w'.os)(ht:w''.tape=w'.tape)(ho:w''.output=w'.output)(hz:w'.heap.size<=w''.heap.size)(hk:∀b,b<w'.heap.size->b≠w.heap.size->w''.heap[b]? =w'.heap[b]?):Sat H' σ' w''/\Fr H (g_ H σ) w H' (g_ H' σ') w'':=by
 have hold:∀b,b<w.heap.size->(w.alloc o).heap[b]? =w.heap[b]? :=λb hb=>((Below.refl w.heap.size w).alloc (aL _) _).block b hb;have hsize:(w.alloc o).heap.size=w.heap.size+1:=aA
 have hnb:w.heap.size∉g_ H σ:=λh=>absurd (hs.lt _ h) (Nat.lt_irrefl _);have hro:H'.ro w.heap.size=none:=by
  cases h:H'.ro w.heap.size with
  |none=>rfl
  |some x=>
   rcases hfr.fro w.heap.size (hs.rW _ (aL _)) (by rw[h];simp) with h1|h1
   ·exact absurd h1 hnb
   omega
 have hbl:w.heap.size∉g_ H' σ':=λh=>by
  rcases hfr.own _ h with h1|h1
  ·exact hnb h1
  omega
 have hsz:=hfr.size;refine⟨⟨λb x hb=>?_,λx hx=>?_,hs'.nodup,hs'.free,hs'.ids⟩,⟨hos.trans hfr.os,ht.trans hfr.tape,ho.trans hfr.output,az,λb h1 h2=>?_,λb hb=>?_,λb h1 h2=>?_,hfr.le⟩⟩
 ·have h1:=hs'.ro b x hb;rw[hk b (aW.1 h1).1 (λe=>by rw[e,hro]at hb;cases hb)];exact h1
 ·refine lu (λb hb=>?_) (hs'.holds x hx);have hm:b∈g_ H' σ':=aX.2 ⟨x,hx,hb⟩;exact hk b (hs'.lt b hm) (λe=>hbl (e ▸ hm))
 ·rw[hk b az az,hfr.keep b az h2,hold b h1]
 ·rcases hfr.own b hb with h|h
  ·exact .inl h
  exact .inr az
 rcases hfr.fro b h1 h2 with h|h
 ·exact .inl h
 exact .inr az
theorem NB(g:FuncId)(caps:List GV)(n0:Nat)(σ:Heap)(Q:GV→Heap→Nat→Prop)(R:GV→Prop)(hx:Hx pg g n0 caps σ Q R)(hR:∀x,R x→∃e p,x=vw e p):
  Hf pg 154 n0 [.fn (.func g) [] caps] σ (fun r σ' n'=>(∃x,Q x σ' n'∧r=.v .nilIface)∨(∃e p,R (vw e p)∧r=.ifc 137 (.r [gi e,gi p])∧σ'=[])):=by
 refine⟨call154,fun H us w hn hg hcs hs=>?_⟩;obtain⟨u,rfl,hu⟩:∃u,us=#[u]∧Is H (.fn (.func g) [] caps) u:=by
  obtain⟨h1,h2⟩:=hcs;have:=h2 0 _ rfl;refine⟨us.getD 0 undef,?_,this⟩;simp at h1;apply dW
  ·simp[←h1]
  ·intro i hi1 hi2;have:i=0:=by simp at hi2;omega
   subst this;simp[Array.getD,hi1]
 obtain⟨us0,vs,rfl,hl0,_,hl1,hi1⟩:=hu.w_;obtain rfl:us0=#[]:=dV hl0.symm;have hvs:Cells H caps vs:=⟨hl1,hi1⟩;have hcall:∀aas w,(callFunc g aas).run prog w=.ok (.enter g aas) w:=hx.call;show Calls prog _ _ _ _
 go_enter_defers func154,ntmps154
 go_wp2
 have hnew:=heap_alloc_new w (.cells #[Value.nilIface] 36);have hold:∀b,b<w.heap.size→(w.alloc (.cells #[Value.nilIface] 36)).heap[b]? =w.heap[b]? :=fun b hb=>((Below.refl w.heap.size w).alloc (aL _) _).block b hb;have hsize:(w.alloc (.cells #[Value.nilIface] 36)).heap.size=w.heap.size+1:=aA
 have hnb:w.heap.size∉g_ H σ:=fun h=>absurd (hs.lt _ h) (Nat.lt_irrefl _);have hs1:Sat H σ (w.alloc (.cells #[Value.nilIface] 36)):=hs.below ((Below.refl w.heap.size w).alloc (aL _) _);refine (hx.ct H vs _ hn hg hvs hs1).mono ?_;rintro e w' (⟨u,x,H',σ',rfl,hi,hs',hfr,hq⟩|⟨v,x,H',rfl,hi,hs',hfr,hr,hb⟩)
 ·rename_i K1 a1 K a
  have hb0:w'.heap[w.heap.size]? =some (.cells #[Value.nilIface] 36):=by
   rw[hfr.keep w.heap.size (by rw[hsize];omega) hnb];exact hnew
  have hc:w'.cell? ⟨w.heap.size,0,none⟩=some .nilIface:=by simp[World.cell?,hb0]
  have hz:w'.frozen? ⟨w.heap.size,0,none⟩=false:=by simp[World.frozen?,hb0]
  refine a _ _ ?_
  go_wp2
  refine leaves_cons (f:=208) (args:=#[.pointer (some ⟨w.heap.size,0,none⟩)]) aA (by simp[go_sem]) ((Ij _ _).mono ?_);rintro e u' w'' ⟨rfl,rfl,rfl⟩;show∃v,_∧_;refine⟨.nilIface,by simp[results,results154,go_sem,hc],?_⟩;obtain⟨h1,h2⟩:=back (w'':=w'.setCell ⟨w.heap.size,0,none⟩ .nilIface) hs hs' hfr rfl rfl rfl aA (fun b _ hb=>Below.heap_setCell _ _ _ _ hb);exact⟨.nilIface,.v .nilIface,H',σ',rfl,.ro (.v _),h1,h2,.inl ⟨x,hq,rfl⟩⟩
 ·obtain⟨e,p,rfl⟩:=hR x hr;have hb0:w'.heap[w.heap.size]? =some (.cells #[Value.nilIface] 36):=by
   rw[hfr.keep w.heap.size (by rw[hsize];omega) hnb];exact hnew
  have hc:w'.cell? ⟨w.heap.size,0,none⟩=some .nilIface:=by simp[World.cell?,hb0]
  have hz:w'.frozen? ⟨w.heap.size,0,none⟩=false:=by simp[World.frozen?,hb0]
  obtain⟨q,rfl,hq⟩:∃q,v=.iface 284 (.agg #[.iface 137 q])∧Is H' (.r [gi e,gi p]) q:=by
   obtain⟨u1,rfl,h1⟩:=hi.rQ;obtain⟨us1,rfl,h2,h3⟩:=h1.rN;obtain⟨q,hq1,hq2⟩:=(h3 0 _ rfl).rQ;refine⟨q,?_,hq2⟩;have:us1=#[.iface 137 q]:=by
    apply dW
    ·simpa using h2.symm
    ·intro i hi1 hi2;have:i=0:=by simp at hi2;omega
     subst this;rw[Array.getD,dif_pos hi1]at hq1;simpa using hq1
   rw[this]
  show Leaves _ _ _ _ _ _ _;refine leaves_cons (f:=208) (args:=#[.pointer (some ⟨w.heap.size,0,none⟩)]) aA (by simp[go_sem]) ((FA _ _ _ _ _ hc hz).mono ?_);rintro e' u' w'' ⟨rfl,rfl,rfl⟩;show∃v,_∧_;refine⟨.iface 137 q,?_,?_⟩
  ·have hlt:w.heap.size<w'.heap.size:=World.block_lt_of_cell? w' _ hc;have hh:(w'.alloc (.cells #[.iface 137 q] 284)).heap[w.heap.size]? =w'.heap[w.heap.size]? :=((Below.refl w'.heap.size w').alloc (aL _) _).block _ hlt;have hc2:(w'.alloc (.cells #[.iface 137 q] 284)).cell? ⟨w.heap.size,0,none⟩=some .nilIface:=by
    unfold World.cell? at hc⊢;rw[hh];exact hc
   simp[results,results154,go_sem,hc2]
  obtain⟨h1,h2⟩:=back (w'':=(w'.alloc (.cells #[.iface 137 q] 284)).setCell ⟨w.heap.size,0,none⟩ (.iface 137 q)) hs hs' hfr rfl rfl rfl aA (fun b hb1 hb2=>(Below.heap_setCell _ _ _ _ hb2).trans (((Below.refl w'.heap.size w').alloc (aL _) _).block b hb1));exact⟨_,.ifc 137 (.r [gi e,gi p]),H',[],rfl,.ifc hq,h1,h2,.inr ⟨e,p,hr,rfl,rfl⟩⟩
end Go.Proofs.YtadildidlcbbkaaGreatDoor
