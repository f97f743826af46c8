/- A part of the proof of StoreGoesCardSaid. -/
import Derived.Test.YtadildidlcbbkaaGreatDoorK03
import Derived.Lib.SlicesCompact
import Derived.Shelf.Strings.BuilderK
import Derived.Laws.OwnMore
import Derived.Lib.AppendStr
import Derived.Laws.CopyRow
import Derived.Lib.SliceRun
import Derived.Lib.ReflectliteSwap
import Derived.Lib.AppendZerosOnto
import Derived.LaidMore
import Derived.Stop.LaidErr
set_option linter.all false
namespace Go.PL
open Go Go.GK IntKind
def rv(A:List gY)(f t:Int)(z:Int):Option gY:=match A[z.toNat]? with
 |some x=>if x.samples.filter (zx f t)≠ [] then some ⟨x.labels,x.samples.filter (zx f t)⟩ else none
 |none=>none
def Fb(A:List gY)(ms:List Mt)(f t:Int):∀n,n<=A.length->(kj n λi=>rE ((A.map (·.labels)).getD i []) ms).filterMap (rv A f t)=ua (A.take n) ms f t
 |0,_=>by simp[kj,ua]
 |n+1,h=>by
  have ih:=Fb A ms f t n az;have hA:A[n]? =some A[n]:=aC az;have hg:(A.map (·.labels)).getD n []=A[n].labels:=by
   rw[cR,bg,hA];rfl
  unfold kj at ih|-;unfold ua at ih|-;rw[fK,cH,aP,dH,ih,bx,hA,cU,dH];refine congrArg _ ?_;by_cases hc:rE A[n].labels ms=true
  ·rw[dd (by rw[hg];exact hc),e_,bb,cN,df,dY,df,dY];have e:rv A f t (Int.ofNat n)=if A[n].samples.filter (zx f t)≠ [] then some ⟨A[n].labels,A[n].samples.filter (zx f t)⟩ else none:=by
    unfold rv;rw[show (Int.ofNat n).toNat=n from rfl,hA]
   rw[e];by_cases h0:A[n].samples.filter (zx f t)≠ []
   ·rw[if_pos h0,if_pos ⟨h0,hc⟩]
   rw[if_neg h0,if_neg (λh=>h0 h.1)]
  rw[de (by rw[hg];exact hc),e_,cN,dY,df,dY,if_neg (λh=>hc h.2)]
def PK(A:List gY)(ms:List Mt)(f t:Int):(kj A.length λi=>rE ((A.map (·.labels)).getD i []) ms).filterMap (rv A f t)=ua A ms f t:=by
 have:=Fb A ms f t A.length (aL _)
 rwa [aT]at this
def QN{α β:Type}(g:α->Option β)(l:List α){i:Nat}(h:i<l.length):(l.take (i+1)).filterMap g=(l.take i).filterMap g++(g l[i]).toList:=by
 rw[bx,aC h,dH];refine congrArg _ ?_;show List.filterMap g [l[i]]=_;rw[df,dY];cases g l[i] <;>rfl
def Ln{s:iz}(h:jq s):∀x∈iF s.B s.G,iS x.labels=true:=λx hx=>by
 rcases BF _ _ hx with ⟨y,hy,_⟩|⟨n,hn,y,hy,e⟩
 ·cases hy
 rw[<-e];exact (h.CU hn y hy).1
def E1{s:iz}(h:jq s):∀x∈iw s,iS x.labels=true:=λx hx=>by
 obtain⟨y,hy,e⟩:=ni _ _ _ hx;rw[<-e];rcases hy with hy|hy
 ·exact Ln h y hy
 exact (h.mem.head.each y hy).1
def Mo{x:Fl}(h:x.2=(x.1.size:Int)):mf 0 x=some x:=by
 obtain⟨b,n⟩:=x;simp only at h;subst h;unfold mf;simp only;rw[if_neg az];have e:max (b.size:Int) 0+min (max 0 0) ((b.size:Int) -max (b.size:Int) 0)=(b.size:Int):=az
 rw[e,bj];exact congrArg some (Prod.ext fW rfl)
def uD{W:Nat}{d:Dk}{ns:List Nt}{B:List (Value×Bl)}(h:jY W d ns B)(f:ByteArray):jg f (pf 0 d)=jg f d:=by
 rw[Mp h.ok];cases e:jg f d with
 |none=>rfl
 |some x=>exact Mo (h.safe f x e)
def jY.start{W:Nat}{d:Dk}{ns:List Nt}{B:List (Value×Bl)}(h:jY W d ns B):jY W (pf 0 d) ns B:=by
 refine⟨Ek h.ok,rfl,?_,h.small,λn hn=>?_,λf hf=>?_,λf x hx=>?_⟩
 ·unfold cont;rw[uD h];exact h.notes
 ·rw[uD h];exact h.file n hn
 ·rw[uD h]at hf;exact h.only f hf
 rw[uD h]at hx;exact h.safe f x hx
def iM.start{W K:Nat}{s:iz}{d:Dk}(h:iM W K s d):iM W K s (pf 0 d):=by
 obtain⟨ns,hd,h1,h2⟩:=h.disk;exact⟨h.sto,h.few,h.iN,h.up,h.nx,h.gl,h.gok,h.size,ns,hd.start,h1,h2⟩
def nA(k:UInt8)(X:ByteArray):((⟨#[k]⟩:ByteArray)++X).size=1+X.size:=by rw[aJ];rfl
def BL(k:UInt8)(X:ByteArray):((⟨#[k]⟩:ByteArray)++X).extract 1 (1+X.size)=X:=by
 apply cE;rw[cw,bQ];have:X.size=X.data.size:=rfl;rw[this];simp
def T6(k:UInt8)(X:ByteArray)(h:0<((⟨#[k]⟩:ByteArray)++X).size):((⟨#[k]⟩:ByteArray)++X)[0]=k:=by
 rw[ByteArray.getElem_eq_getElem_data];simp[bQ]
def DM(k:UInt8)(X:ByteArray):(((⟨#[k]⟩:ByteArray)++X).toList==(⟨#[]⟩:ByteArray).toList)=false:=by
 cases h:(((⟨#[k]⟩:ByteArray)++X).toList==(⟨#[]⟩:ByteArray).toList) with
 |false=>rfl
 |true=>
  have h1:=congrArg ByteArray.size (l_.1 h);rw[nA]at h1;have:(⟨#[]⟩:ByteArray).size=0:=rfl;omega
def JX(y:Lx):∀L:List (List Lx),(∀x∈L,x.length<=3)->(rI y L).length<=4*L.length
 | [],_=>aL _
 | [x],h=>by have:=h x aA;show x.length<=4;omega
 |x::z::r,h=>by
  have h1:=h x aA;have h2:=JX y (z::r) λw hw=>h w (by simp[hw]);show (x++y::rI y (z::r)).length<=4*(r.length+1+1);rw[aI,aB];rw[aB]at h2;omega
def Pw{m:List Mt}(h:sd m):tE (jC (zk m))=.ok m:=by
 have w1:(zk m).length<=120:=by
  have h1:=JX (mL [44]) (m.map zl) λx hx=>by
   obtain⟨z,_,rfl⟩:=ba.1 hx;exact aL 3
  have h2:=h.2;rw[aD]at h1;show (mL [123] ::(rI (mL [44]) (m.map zl)++[mL [125]])).length<=120;rw[aB,aI];show (rI (mL [44]) (m.map zl)).length+1+1<=120;omega
 obtain⟨T,e,h1,h2,h3,h4⟩:=Q4 (TV h) w1;rw[tE,h1];simp only;rw[Fu h T [e] h2];simp only;rw[if_neg (by
  show¬e.kind≠5;rw[h3]
  decide)]
def KZ{n:Int}(h0:0<=n)(h1:n<1000000000000000000):Lib.parseIntB 64 (Lib.itoa n)=.ok n:=by
 obtain⟨d1,d2⟩:=OM h0;have d3:=BN h0 (k:=18) ax (by simpa using h1);have hb:(bS (Lib.itoa n)).data.toList=Lib.itoa n:=vW _;have:=(SA (t:=⟨2,bS (Lib.itoa n),0⟩) (.inl (.inr (.inl ⟨rfl,by rw[hb];exact d2,by rw[hb];exact d3,λb hbm=>d1 b (by rw[hb]at hbm;exact hbm)⟩))) rfl).1;rw[hb,vS h0]at this;exact this
def IJ{α:Type}[DecidableEq α]:∀{l m:List α},l.Nodup->(∀x∈l,x∈m)->l.length<=m.length
 | [],_,_,_=>aQ _
 |a::l,m,hn,hs=>by
  obtain⟨h1,h2⟩:=bJ.1 hn;have ha:=hs a aA;have h3:=IJ (l:=l) (m:=m.erase a) h2 λx hx=>(List.mem_erase_of_ne (λe=>h1 (by rw[<-e];exact hx))).2 (hs x (by simp[hx]));rw[List.length_erase_of_mem ha]at h3;have h4:0<m.length:=List.length_pos_of_mem ha;rw[aB];omega
def jY.kind{W:Nat}{d:Dk}{ns:List Nt}{B:List (Value×Bl)}(h:jY W d ns B){nx:Int}(hB:iP B nx){f:ByteArray}(hf:(jg f d).isSome=true):f=nN\/∃n:Int,n∈gZ B/\0<=n/\n<1000000000000000000/\f=jk n:=by
 rcases h.only f hf with e|⟨n,n0,n1,e⟩
 ·exact .inl e
 subst e;obtain⟨x,b,_,hb,_⟩:=ya h n0 hf;exact .inr ⟨n,(mV hB).2 (by rw[hb];rfl),n0,n1,rfl⟩
def jY.files{W:Nat}{d:Dk}{ns:List Nt}{B:List (Value×Bl)}(h:jY W d ns B){nx:Int}(hB:iP B nx):d.L.length<=B.length+1:=by
 have hk:∀y∈d.L,∃f:ByteArray,y.1=ks f/\(jg f d).isSome=true:=λy hy=>by
  obtain⟨q,x⟩:=y;have hq:=h.ok.keys _ hy;cases q with
  |string f=>
   refine⟨f,rfl,?_⟩;have:jg f d=some x:=(kF rfl h.ok.keys h.ok.nd).2 hy;rw[this];rfl
  |_=>cases hq
 have hn:(d.L.map λy=>y.1).Nodup:=h.ok.nd
 let g:Value->ByteArray:=λv=>match v with| .string f=>f|_=>⟨#[]⟩
 have hn2:(d.L.map λy=>g y.1).Nodup:=by
  have e:(d.L.map λy=>g y.1)=(d.L.map λy=>y.1).map g:=by rw[bR];rfl
  rw[e];refine List.Pairwise.map g ?_ (List.Pairwise.and_mem.1 hn);rintro a b ⟨ha,hb,hab⟩ e;obtain⟨y,hy,rfl⟩:=ba.1 ha;obtain⟨z,hz,rfl⟩:=ba.1 hb;obtain⟨f1,e1,_⟩:=hk y hy;obtain⟨f2,e2,_⟩:=hk z hz;refine hab ?_;rw[e1,e2]at e;rw[e1,e2];exact congrArg ks e
 have hsub:∀f∈d.L.map λy=>g y.1,f∈nN::(gZ B).map jk:=λf hf=>by
  obtain⟨y,hy,rfl⟩:=ba.1 hf;obtain⟨f,e,hs⟩:=hk y hy;rw[e];rcases h.kind hB hs with e2|⟨n,hn,_,_,e2⟩
  ·exact aF.2 (.inl e2)
  exact aF.2 (.inr (ba.2 ⟨n,hn,e2.symm⟩))
 have h3:=IJ hn2 hsub;rw[aD,aB,aD]at h3;have h4:(gZ B).length=B.length:=by
  show (p6 _).length=_;rw[(ku _).length_eq,aD]
 omega
def EW(mk:Int)(ls:List Lb):∀(n:Nat) (sm:List Sm) (S:List gY),sm.length<=n->lI S->lI (oF mk S ls sm)
 |0,sm,S,hn,h=>by
  obtain rfl:sm=[]:=ca.1 az;rw[tF];exact h
 |n+1,sm,S,hn,h=>by
  by_cases e:sm=[]
  ·subst e;rw[tF];exact h
  rw[si e];have hp:0<sm.length:=cm.2 e;exact EW mk ls n _ _ (by rw[bw];omega) (sZ _ h)
def HB(mk:Int):∀(l S:List gY),lI S->lI (nY mk S l)
 | [],_,h=>h
 |x::l,S,h=>HB mk l _ (EW mk x.labels x.samples.length x.samples S (aL _) h)
def KE{m:Mem}(h:lI m.S)(n:Nt):lI (k6 m n).S:=by
 cases n with
 |came l=>exact HB m.mark l m.S h
 |went u g=>exact tB h
 |mark k n=>exact tB h
def Kg:∀(l:List Nt),lI (kZ l).S:=by
 intro l;unfold kZ;have:∀(l:List Nt) (m:Mem),lI m.S->lI (l.foldl k6 m).S:=by
  intro l;induction l with
  |nil=>intro m h;exact h
  |cons n l ih=>intro m h;exact ih _ (KE h n)
 exact this l DA lI.nil
def H8:∀(l:List Nt),(kZ l).G.length<=l.length:=by
 intro l;unfold kZ;have:∀(l:List Nt) (m:Mem),(l.foldl k6 m).G.length<=m.G.length+l.length:=by
  intro l;induction l with
  |nil=>intro m;exact aL _
  |cons n l ih=>
   intro m;have h1:=ih (k6 m n);have h2:(k6 m n).G.length<=m.G.length+1:=by
    cases n with
    |came l=>exact gQ _
    |went u g=>
     show (m.G++[(u,g)]).length<=_;rw[aI];exact aL _
    |mark k n=>exact gQ _
   rw[bC,aB];omega
 have h:=this l DA;have h0:DA.G.length=0:=rfl;omega
def Kz(l:List Nt){i:Nat}(h:i<l.length):kZ (l.take (i+1))=k6 (kZ (l.take i)) l[i]:=by
 rw[bx,aC h,cU,rh]
end Go.PL
namespace Go.PL
open Go Go.GK Go.Lib
open IntKind
def DJ(l:List Int)(h:l.Pairwise (· <= ·)):wy (compact l)/\∀z,z∈compact l↔z∈l:=by
 suffices hm:∀m,m<=l.length->wy (compactUpTo l.toArray m)/\∀z,z∈compactUpTo l.toArray m↔z∈l.take m by
  have:=hm l.length (aL _);rw[aT]at this;exact this
 intro m;induction m with
 |zero=>intro _;exact⟨by simp[compactUpTo],by simp[compactUpTo]⟩
 |succ m ih=>
  intro hm;have hlt:m<l.length:=hm;obtain⟨h1,h2⟩:=ih az;have hg:∀j (hj:j<l.length),l.toArray[j]! =l[j]:=λj hj=>by simp[hj]
  rw[compactUpTo_succ,a6 hlt];by_cases hk:keeps l.toArray m=true
  ·rw[if_pos hk,hg m hlt];refine⟨cG.2 ⟨h1,dE _ _,λa ha b hb=>?_⟩,λz=>by rw[aE,aE,h2]⟩;rw[aH.1 hb];obtain⟨j,hj,rfl⟩:=bz ((h2 a).1 ha);rw[aY]at hj;rw[eB];have hle:=bT.1 h;cases m with
   |zero=>omega
   |succ q=>
    have h3:l[q] ≠l[q+1]:=by
     unfold keeps at hk;rw[decide_eq_true_iff]at hk;rcases hk with hk|hk
     ·omega
     rw[cP,hg q az,hg (q+1) hlt]at hk;exact λe=>hk e.symm
    have h4:l[q]<=l[q+1]:=hle q (q+1) az hlt az;have h5:l[j]<=l[q]:=by
     by_cases e:j=q
     ·subst e;exact bY _
     exact hle j q az az az
    omega
  rw[if_neg hk,aZ];refine⟨h1,λz=>?_⟩;rw[h2,aE,aH];refine⟨.inl,λhz=>hz.elim id λe=>?_⟩;cases m with
  |zero=>exact absurd (by simp[keeps]) hk
  |succ q=>
   have h3:l[q]=l[q+1]:=by
    unfold keeps at hk;rw[decide_eq_true_iff,not_or,Decidable.not_not]at hk;have:=hk.2;rw[cP,hg q az,hg (q+1) hlt]at this;exact this.symm
   rw[e,<-h3,fL];exact⟨q,by rw[aY];omega,aA⟩
def Ki(l:List Int):(compact l).length<=l.length:=by
 unfold compact compactUpTo;rw[aD];exact bE (bZ _ _) aA
def M8(a b:List Int):List Int:=compact ((a++b).mergeSort λx y=>decide (x<=y))
def SV(a b:List Int):TJ a b (M8 a b):=by
 have hs:((a++b).mergeSort λx y=>decide (x<=y)).Pairwise (· <= ·):=by
  have:=gL (le:=λx y:Int=>decide (x<=y)) (λa b c h1 h2=>by simp at h1 h2|-;omega) (λa b=>aq) (a++b);exact this.imp λh=>by simpa using h
 obtain⟨h1,h2⟩:=DJ _ hs;exact⟨h1,λz=>by unfold M8;rw[h2,fX,aE]⟩
def MM(N:Nat)(p q:Nat->Bool):M8 (kj N p) (kj N q)=kj N λi=>p i||q i:=Uz (SV _ _)
end Go.PL
namespace Go.PL
open Go Go.GK IntKind
structure Sp where
 w:Int
 L:List gY
 t:Int
 g:Gn
instance:Inhabited Sp:=⟨⟨0,[],0,⟨[],0,0⟩⟩⟩
def P9{A B:List gY}(hA:kC A)(hB:kC B)(ha:∀x∈A,x.samples≠ [])(hb:∀x∈B,x.samples≠ []):∀x∈ij iJ A B,x.samples≠ []:=λx hx hx0=>by
 have h1:=mb (hA.merge hB).ris.dl hx;rw[jx iJ x.labels _ _ hA.ris hB.ris]at h1;cases e1:iB x.labels A with
 |none=>
  cases e2:iB x.labels B with
  |none=>rw[e1,e2]at h1;cases h1
  |some t=>
   rw[e1,e2]at h1;cases h1;exact hb _ (kg e2) hx0
 |some a=>
  cases e2:iB x.labels B with
  |none=>rw[e1,e2]at h1;cases h1;exact ha _ (kg e1) hx0
  |some t=>
   rw[e1,e2]at h1;have h1:iJ a t=x.samples:=br h1;exact ha _ (kg e1) (GY (h1.trans hx0)).1
def Uf{s:iz}(h:jq s):∀x∈iw s,x.samples≠ []:=
 P9 (mC h) h.mem.head.yJ (As h) λx hx=>(h.mem.head.each x hx).2.2
def MH{s:iz}(h:jq s):oZ (λls=>iS ls=true) (λy=> -1099511627776<=y.time/\y.time<=1099511627776) (iw s):=by
 refine oZ.merge (mC h) h.mem.head.yJ (vI h λy hy=>Gv (h.hZ y hy).1) ⟨λx hx=>(h.mem.head.each x hx).1,λx hx y hy=>?_⟩;have hr:=((ja _).1 (h.mem.head.each x hx).2.1).1;exact⟨hr.lo y hy,hr.hi y hy⟩
def JC:∀{A:List gY},(∀x∈A,x.samples≠ [])->(∀x∈A,∀y∈x.samples, -1099511627776<=y.time/\y.time<=1099511627776)->ua A [] (-1099511627776) 1099511627776=A
 | [],_,_=>rfl
 |x::A,hn,ht=>by
  have ih:=JC (A:=A) (λy hy=>hn y (by simp[hy])) (λy hy=>ht y (by simp[hy]));have hf:x.samples.filter (zx (-1099511627776) 1099511627776)=x.samples:=cD.2 λy hy=>decide_eq_true (ht x aA y hy);unfold ua at ih|-;rw[df,hf,if_pos ⟨hn x aA,rfl⟩];simp only;rw[ih]
def Rm{s:iz}(h:jq s):ua (iw s) [] (-1099511627776) 1099511627776=iw s:=JC (Uf h) λx hx y hy=>(MH h).sam x hx y hy
def wQ{t v:Int}:∀{a:List Sm},nn t a=some v->∃x∈a,x.time=t
 | [],h=>by cases h
 |x::a,h=>by
  rw[jF]at h;by_cases e:x.time=t
  ·exact⟨x,aA,e⟩
  rw[if_neg e]at h;obtain⟨y,hy,e2⟩:=wQ h;exact⟨y,by simp[hy],e2⟩
def AM(t:Int):∀(a b:List Sm),nn t (a++b)=match nn t a with|some v=>some v|none=>nn t b
 | [],b=>rfl
 |x::a,b=>by
  rw[b_,jF,jF,AM t a b];by_cases e:x.time=t
  ·rw[if_pos e,if_pos e]
  rw[if_neg e,if_neg e]
def Q6{a b:List Sm}(ha:mY a)(hb:mY b)(h:∀x∈a,∀y∈b,x.time<y.time):iJ a b=a++b:=by
 have hab:mY (a++b):=cG.2 ⟨ha,hb,h⟩;refine zA (ph ha hb) hab λt=>?_;rw[nz t ha hb,AM];cases e1:nn t a with
 |none=>cases nn t b<;>rfl
 |some v=>
  cases e2:nn t b with
  |none=>rfl
  |some w=>
   obtain⟨x,hx,e3⟩:=wQ e1;obtain⟨y,hy,e4⟩:=wQ e2;have:=h x hx y hy;omega
def xO(x:gY)(l:List gY):ir (x::l)=x.samples.length+ir l:=by simp[ir]
def xR:∀(a b:List gY),(∀x∈a,mY x.samples)->(∀x∈b,mY x.samples)->(∀x∈a,∀y∈b,∀u∈x.samples,∀v∈y.samples,u.time<v.time)->ir (ij iJ a b)=ir a+ir b
 | [],b,_,_,_=>by rw[jP];simp[ir]
 |x::a,[],_,_,_=>by rw[ko];simp[ir]
 |x::a,y::b,ha,hb,h=>by
  rw[oN];split
  ·have:=xR a (y::b) (λz hz=>ha z (by simp[hz])) hb (λz hz=>h z (by simp[hz]));simp only[xO]at this|-;omega
  split
  ·have:=xR a b (λz hz=>ha z (by simp[hz])) (λz hz=>hb z (by simp[hz])) (λz hz w hw=>h z (by simp[hz]) w (by simp[hw]));have h4:=Q6 (ha x aA) (hb y aA) (h x aA y aA);simp only[xO,h4,aI];omega
  have:=xR (x::a) b ha (λz hz=>hb z (by simp[hz])) (λz hz w hw=>h z hz w (by simp[hw]));simp only[xO]at this|-;omega
termination_by a b=>a.length+b.length
def FW{s:iz}(h:jq s):oZ (λ_=>True) (λy=>y.time<=s.mark) (iF s.B s.G):=by
 refine vI h λy hy=>⟨λ_ _=>trivial,λx hx z hz=>?_⟩;have h1:=(zP (h.hZ y hy).1).1 x hx z hz;have h2:=(h.hZ y hy).2;omega
def J3{s:iz}(h:jq s){S:List gY}(hS:lI S)(hab:rp s.mark S):ir (ij iJ (iF s.B s.G) S)=ir (iF s.B s.G)+ir S:=by
 refine xR _ _ (mC h).up hS.yJ.up λx hx y hy u hu v hv=>?_;have h1:=(FW h).sam x hx u hu;have h2:=hab y hy v hv;omega
def Nb{s:iz}(h:jq s){l:List gY}(h0:(j8 l s).1.1=0):ir (iw (j8 l s).2)=ir (iw s)+ir l:=by
 by_cases he:(jb s.mark s.S l).1.1=0
 ·cases hF:qa (iw (mO s l)) l with
  |some i=>rw[uL he hF]at h0;exact absurd (show (12:Int)=0 from h0) ax
  |none=>
   rw[sE he hF];obtain⟨g1,g2,g3⟩:=pK he;have hab:=vU h.mem.above g2;have e1:=J3 h (sZ l h.mem.head) (by rw[g3];exact hab);have e2:=J3 h h.mem.head h.mem.above;have e3:ir (jb s.mark s.S l).2=ir s.S+ir l:=by rw[g3];exact vP l s.S
   show ir (ij iJ (iF s.B s.G) (jb s.mark s.S l).2)=ir (ij iJ (iF s.B s.G) s.S)+ir l;have e1':ir (ij iJ (iF s.B s.G) (jb s.mark s.S l).2)=ir (iF s.B s.G)+ir (jb s.mark s.S l).2:=e1;have e2':ir (ij iJ (iF s.B s.G) s.S)=ir (iF s.B s.G)+ir s.S:=e2;omega
 rw[vO he]at h0;exact absurd h0 he
def y_{s:iz}{l:List gY}(h0:(j8 l s).1.1≠0):(j8 l s).2=s:=by
 by_cases he:(jb s.mark s.S l).1.1=0
 ·cases hF:qa (iw (mO s l)) l with
  |some i=>rw[uL he hF]
  |none=>rw[sE he hF]at h0;exact absurd rfl h0
 rw[vO he]
def ou(A B:List gY):Prop:=∀ls a,iB ls A=some a->∃b,iB ls B=some b/\∀t v,nn t a=some v->nn t b=some v
def ou.rfl {A:List gY}:ou A A:=λ_ a h=>⟨a,h,λ_ _ h=>h⟩
def ou.trans{A B C:List gY}(h:ou A B)(k:ou B C):ou A C:=λls a ha=>by
 obtain⟨b,hb,h1⟩:=h ls a ha;obtain⟨c,hc,h2⟩:=k ls b hb;exact⟨c,hc,λt v e=>h2 t v (h1 t v e)⟩
def wg(ls:List Lb):∀(l S:List gY),lW S->∀b,iB ls S=some b->∃c,iB ls (l.foldl jV S)=some (b++c)
 | [],S,_,b,hb=>⟨[],by rw[aZ];exact hb⟩
 |x::l,S,hS,b,hb=>by
  rw[bC];have h1:=Eh (x:=x) hS ls;rw[hb]at h1;cases e:iB ls [x] with
  |none=>
   rw[e]at h1;exact wg ls l _ (yr x hS) b h1
  |some y=>
   rw[e]at h1;obtain⟨c,hc⟩:=wg ls l _ (yr x hS) (b++y) h1;exact⟨y++c,by rw[hc,aS]⟩
def LI{s:iz}(h:jq s){l:List gY}:ou (iw s) (iw (j8 l s).2):=by
 by_cases h0:(j8 l s).1.1=0
 ·by_cases he:(jb s.mark s.S l).1.1=0
  ·cases hF:qa (iw (mO s l)) l with
   |some i=>rw[uL he hF]at h0;exact absurd (show (12:Int)=0 from h0) ax
   |none=>
    rw[sE he hF];obtain⟨g1,g2,g3⟩:=pK he;have hab:=vU h.mem.above g2;have hS':lI (l.foldl jV s.S):=by have:=sZ l h.mem.head (mk:=s.mark);rwa [g3]at this
    have hw:=mC h;have hlow:=FW h;intro ls a ha;have ha':iB ls (ij iJ (iF s.B s.G) s.S)=some a:=ha;rw[jx iJ ls _ _ hw.ris h.mem.head.ris]at ha';have hgoal:iB ls (iw (mO s l))=both iJ (iB ls (iF s.B s.G)) (iB ls (l.foldl jV s.S)):=by
     show iB ls (ij iJ (iF s.B s.G) (jb s.mark s.S l).2)=_;rw[g3];exact jx iJ ls _ _ hw.ris hS'.ris
    rw[hgoal];have hupc:∀{b},iB ls (l.foldl jV s.S)=some b->mY b/\∀y∈b,s.mark<y.time:=λhb=>⟨hS'.yJ.look hb,λy hy=>hab _ (kg hb) y hy⟩;cases e1:iB ls (iF s.B s.G) with
    |none=>
     rw[e1]at ha';have hb:iB ls s.S=some a:=ha';obtain⟨c,hc⟩:=wg ls l s.S h.mem.head.ris a hb;rw[hc];exact⟨a++c,rfl,λt v e=>by rw[AM,e]⟩
    |some w=>
     have hwu:=hw.look e1;have hwl:∀y∈w,y.time<=s.mark:=λy hy=>hlow.sam _ (kg e1) y hy;rw[e1]at ha';cases e2:iB ls s.S with
     |none=>
      rw[e2]at ha';obtain rfl:w=a:=br ha';cases e3:iB ls (l.foldl jV s.S) with
      |none=>exact⟨w,rfl,λ_ _ e=>e⟩
      |some c=>
       obtain⟨hcu,hcl⟩:=hupc e3;refine⟨iJ w c,rfl,λt v e=>?_⟩;rw[nz t hwu hcu,pq (l:=c) λy hy=>?_]
       ·exact e
       obtain⟨x,hx,e4⟩:=wQ e;have:=hwl x hx;have:=hcl y hy;omega
     |some b=>
      rw[e2]at ha';obtain rfl:iJ w b=a:=br ha';obtain⟨c,hc⟩:=wg ls l s.S h.mem.head.ris b e2;have hbu:=h.mem.head.yJ.look e2;obtain⟨hcu,hcl⟩:=hupc hc;rw[hc];refine⟨iJ w (b++c),rfl,λt v e=>?_⟩;rw[nz t hwu hbu]at e;rw[nz t hwu hcu,AM];cases e5:nn t b with
      |some v'=>rw[e5]at e;exact e
      |none=>
       rw[e5]at e;have e:nn t w=some v:=e;obtain⟨x,hx,e6⟩:=wQ e;have hno:nn t c=none:=pq λy hy=>by
        have:=hwl x hx;have:=hcl y (List.mem_append_right _ hy);omega
       simp only[hno];exact e
  rw[vO he]at h0;exact absurd h0 he
 rw[y_ h0];exact ou.rfl
def No{A B:List gY}(hA:kC A)(hB:kC B)(h:ou A B):ij iJ A B=B/\ij iJ B A=B:=by
 have key:∀{a b:List Sm},mY a->mY b->(∀t v,nn t a=some v->nn t b=some v)->iJ a b=b/\iJ b a=b:=λ{a b} ha hb hs=>by
  refine⟨zA (ph ha hb) hb λt=>?_,zA (ph hb ha) hb λt=>?_⟩
  ·rw[nz t ha hb];cases e:nn t b with
   |some v=>rfl
   |none=>
    cases e2:nn t a with
    |none=>rfl
    |some v=>rw[hs t v e2]at e;cases e
  rw[nz t hb ha];cases e2:nn t a with
  |none=>rfl
  |some v=>exact (hs t v e2).symm
 refine⟨wW (hA.merge hB).ris hB.ris λls=>?_,wW (hB.merge hA).ris hB.ris λls=>?_⟩
 ·rw[jx iJ ls _ _ hA.ris hB.ris];cases e1:iB ls A with
  |none=>rfl
  |some a=>
   obtain⟨b,hb,hs⟩:=h ls a e1;rw[hb];exact congrArg some (key (hA.look e1) (hB.look hb) hs).1
 rw[jx iJ ls _ _ hB.ris hA.ris];cases e1:iB ls A with
 |none=>cases iB ls B<;>rfl
 |some a=>
  obtain⟨b,hb,hs⟩:=h ls a e1;rw[hb];exact congrArg some (key (hA.look e1) (hB.look hb) hs).2
def ue:iz:=⟨-1099511627777,[],[],[],0,false,false⟩
def LL:gZ []=[]:=bU ((List.Perm.length_eq (ku _)).trans rfl)
def FX(G:List (Int×Gn)):iF [] G=[]:=by
 unfold iF;rw[LL];rfl
def Si:iw ue=[]:=by
 show ij iJ (iF [] []) []=[];rw[FX];exact ko _ _
def Ve:jY 0 sK [] []:=by
 have hf:∀f,jg f sK=none:=λf=>rfl;refine⟨Ub _,rfl,rfl,(λx hx=>by cases hx),λn _=>rfl,λf hs=>?_,λf x hx=>?_⟩
 ·rw[hf]at hs;cases hs
 rw[hf]at hx;cases hx
def AP:iM 0 0 ue sK:=by
 refine⟨⟨R1,⟨(λ_ h=>by cases h),fQ⟩,by simp[ue],(λ_ h=>by cases h),(λ_ h=>by cases h),(λ_ h=>by cases h),(λ_ h=>by cases h)⟩,?_,(λ_ h=>by cases h),⟨rfl,rfl⟩,ax,by simp[ue],(λ_ h=>by cases h),⟨0,0,aL _,aL _,aL _⟩,[],Ve,rfl,(λ_ h=>by cases h)⟩;rw[Si];intro ls a h;cases h
def wx(v:ByteArray)(t n:Int):gY:=⟨[⟨⟨#[110]⟩,v⟩],[⟨t,n⟩]⟩
abbrev oA:gY:=wx ⟨#[97]⟩ 5 3
def U9:iS oA.labels=true:=m7
def UU:ke oA.samples=true:=by
 rw[ja];refine⟨⟨by simp[wx],by simp[wx],by simp[wx]⟩,by simp[wx]⟩
abbrev ER:iz:={ue with S:=[oA]}
abbrev wS:iz:=⟨5,[],[(kn 0,⟨5, -1,[oA]⟩)],[],1,false,false⟩
def RL:jb (-1099511627777) [] [oA]=((0, -1),[oA]):=by
 have he:mi (-1099511627777) [] oA=0:=by
  unfold mi;rw[if_neg (by rw[U9,UU];decide)];rfl
 unfold jb;rw[if_neg ax,lF,if_pos he,lF];show ((0, -1),jV [] oA)=_;rw[xL]
def O2:j8 [oA] ue=((0, -1),ER):=by
 have h:jb ue.mark ue.S [oA]=((0, -1),[oA]):=RL;unfold j8;rw[h,if_neg (λe=>e rfl)];have hf:qa (ij iJ (iF ue.B ue.G) [oA]) [oA]=none:=by
  show qa (ij iJ (iF [] []) [oA]) [oA]=none;rw[FX,jP]
  decide+kernel
 rw[hf]
def Dr:kb 5 ER=[oA]:=rfl
def TB:k9 5 ER=wS:=by
 unfold k9;rw[if_neg (by rw[Dr];decide),Dr];rfl
def IK:gZ wS.B=[0]:=by
 exact List.perm_singleton.1 ((ku _).trans (fR _))
def SR:iw wS=[oA]:=by
 have h:iF wS.B wS.G=[oA]:=by
  unfold iF;rw[IK];show ij iJ [] (gX (lD []) [oA])=[oA];rw[jP];rfl
 show ij iJ (iF wS.B wS.G) []=[oA];rw[h,ko]
def SS:ua [oA] [] 0 9=[oA]:=rfl
end Go.PL
namespace Go.GK
open Go Go.RowKit IntKind
def UA(n:Nat)(τ:Heap)(fp:List Nat)(ro:Nat->Option Obj)(b:Nat)(v:Value)(w:World):Prop:=
 ∃Hl:Hid,Hl.n=n/\Hl.bl 0=b/\Hl.sv 0=v/\(∀c o,Hl.ro c=some o->ro c=some o)/\(∀x∈τ,holds Hl w x)/\(∀x∈τ,x.1<n)/\g_ Hl τ=fp
def pack(n:Nat)(τ:Heap)(fp:List Nat):wk where
 P:=UA n τ fp
 fp:=fp
 ex:=λro b v w h c hc=>by
  obtain⟨Hl,_,_,_,_,h1,_,rfl⟩:=h;obtain⟨x,hx,hcx⟩:=aX.1 hc;exact Ge (h1 x hx) c hcx
 congr:=λro b v w w' hw h=>by
  obtain⟨Hl,e1,e2,e3,h1,h2,h3,rfl⟩:=h;exact⟨Hl,e1,e2,e3,h1,λx hx=>lu (λc hc=>hw c (aX.2 ⟨x,hx,hc⟩)) (h2 x hx),h3,rfl⟩
 mono:=λro ro' b v w hro h=>by
  obtain⟨Hl,e1,e2,e3,h1,h⟩:=h;exact⟨Hl,e1,e2,e3,λc o hc=>hro c o (h1 c o hc),h⟩
def yW(id m:Nat)(i:Nat):Nat:=bif Nat.beq i 0 then id else m+i
def Sat.pack{H:Hid}{σ:Heap}{w:World}(h:Sat H σ w){r:Nat->Nat}{n id:Nat}{τ:Heap}(hl:o7 r τ σ)(hb:iL n τ=true)(hd:iu (iv r τ)=true)(h0:r 0=id)(hid:id<H.n):
  ∃fp,Sat H ((id,.ab (pack n τ fp))::jr (iv r τ) σ) w/\∀b∈g_ H ((id,.ab (GK.pack n τ fp))::jr (iv r τ) σ),b∈g_ H σ:=by
 obtain⟨hp,hpb⟩:=h.part hl hb hd;have hbl:g_ H ((id,.ab (GK.pack n τ (g_ (H.via r n) τ)))::jr (iv r τ) σ)=g_ (H.via r n) τ++g_ H (jr (iv r τ) σ):=by
  rw[iD];rfl
 have hin:∀b∈g_ H ((id,.ab (GK.pack n τ (g_ (H.via r n) τ)))::jr (iv r τ) σ),b∈g_ H σ:=λb hb=>by
  rw[hbl]at hb;rcases aE.1 hb with hb|hb
  ·obtain⟨x,hx,_,hbx⟩:=hpb b hb;exact aX.2 ⟨x,hx,hbx⟩
  obtain⟨x,hx,hbx⟩:=aX.1 hb;exact aX.2 ⟨x,(lK hx).1,hbx⟩
 refine⟨g_ (H.via r n) τ,⟨h.ro,λx hx=>?_,?_,λb hb=>h.free b (hin b hb),λx hx=>?_⟩,hin⟩
 ·rcases aF.1 hx with rfl|hx
  ·exact⟨H.via r n,rfl,by show H.bl (r 0)=_;rw[h0],by show H.sv (r 0)=_;rw[h0],λ_ _ h=>h,hp.holds,hp.ids,rfl⟩
  exact h.holds x (lK hx).1
 ·rw[hbl];refine a8.2 ⟨hp.nodup,rf h.nodup,λb hb c hc e=>?_⟩;subst e;obtain⟨x,hx,hxi,hbx⟩:=hpb b hb;obtain⟨y,hy,hby⟩:=aX.1 hc;exact ur h.nodup hx (lK hy).1 (λe=>(lK hy).2 (by rw[<-e];exact hxi)) b hbx hby
 rcases aF.1 hx with rfl|hx
 ·exact hid
 exact h.ids x (lK hx).1
section
variable {cx:Cx}{T:jz}
def JK.pack {k:List It} {s:St} (r:Nat->Nat) (n id:Nat) (τ:Heap) (hl:o7 r τ s.σ) (chk:(iL n τ&&iu (iv r τ)&&Nat.beq (r 0) id&&Nat.blt id s.n)=true)
  (h:∀fp,kG ((id,.ab (GK.pack n τ fp))::jr (iv r τ) s.σ) λσ=>JK cx T k ⟨s.ρ,σ,s.n⟩):JK cx T k s:=by
 simp only[aG]at chk;obtain⟨⟨⟨h1,h2⟩,h3⟩,h4⟩:=chk;intro H a w hg hs ha;obtain⟨fp,hsat,hin⟩:=hs.sat.pack hl h1 h2 (beq_eq h3) (by rw[hs.n];exact qq h4);have hk:=h fp;rw[jy]at hk;refine hk H a w hg ⟨hs.n,hsat,?_⟩ ha;have hf:=hs.fr;exact⟨hf.os,hf.tape,hf.output,hf.size,hf.keep,λc hc=>hf.own c (hin c hc),hf.fro,hf.le⟩
def JK.unpack {k:List It} {s:St} (id:Nat) {n:Nat} {τ:Heap} {fp:List Nat} (hl:gW s.σ id=some (.ab (GK.pack n τ fp)))
  (h:kG (mm (yW id s.n) τ++jQ s.σ id) λσ=>kW (s.n+n) λm=>JK cx T k ⟨s.ρ,σ,m⟩):JK cx T k s:=by
 rw[jy,j9]at h;refine JK.CL _ (λH a w hg hs ha=>?_) h;obtain⟨l1,l2,e1,e2,_⟩:=kU hl;have hmem:=ib hl;obtain⟨Hl,hn,hb0,hv0,hro0,hh,iv,hfp⟩:=hs.sat.holds _ hmem;have hidn:id<s.n:=by rw[<-hs.n];exact hs.sat.ids _ hmem
 have hHn:=hs.n
 let H':Hid:={ro:=H.ro,bl:=λi=>if i<s.n then H.bl i else Hl.bl (i-s.n),sv:=λi=>if i<s.n then H.sv i else Hl.sv (i-s.n),n:=s.n+n}
 have hle:H.le H':=⟨by show H.n<=s.n+n;omega,λb o h=>h,λi hi=>by show (if i<s.n then _ else _)=_;rw[if_pos az],λi hi=>by show (if i<s.n then _ else _)=_;rw[if_pos az]⟩;have hf:∀i,i<Hl.n->yW id s.n i<H'.n/\H'.bl (yW id s.n i)=Hl.bl i/\H'.sv (yW id s.n i)=Hl.sv i:=by
  intro i hi;unfold yW;cases hb:Nat.beq i 0 with
  |true=>
   have:=beq_eq hb;subst this;simp only[cond_true];refine⟨by show id<s.n+n;omega,?_,?_⟩
   ·show (if id<s.n then H.bl id else _)=_;rw[if_pos hidn,hb0]
   show (if id<s.n then H.sv id else _)=_;rw[if_pos hidn,hv0]
  |false=>
   simp only[cond_false];refine⟨by show s.n+i<s.n+n;omega,?_,?_⟩
   ·show (if s.n+i<s.n then _ else Hl.bl (s.n+i-s.n))=_;rw[if_neg az,show s.n+i-s.n=i by omega]
   show (if s.n+i<s.n then _ else Hl.sv (s.n+i-s.n))=_;rw[if_neg az,show s.n+i-s.n=i by omega]
 have hro:∀b o,Hl.ro b=some o->H'.ro b=some o:=hro0;have hids':∀x∈τ,x.1<Hl.n:=λx hx=>by rw[hn];exact iv x hx
 have hb1:g_ H' (mm (yW id s.n) τ)=fp:=(zz (λi hi=>(hf i hi).2) hids').trans hfp;have hsub:∀x∈l1++l2,x∈s.σ:=λx hx=>by
  rw[e1];rcases aE.1 hx with h|h<;>simp[h]
 have hb2:g_ H' (l1++l2)=g_ H (l1++l2):=nD hle (λx hx=>hs.sat.ids x (hsub x hx));have hσ:g_ H s.σ=g_ H l1++(fp++g_ H l2):=by rw[e1,il,iD];rfl
 have hin:∀b∈g_ H' (mm (yW id s.n) τ++jQ s.σ id),b∈g_ H s.σ:=λb hb=>by
  rw[e2,il,hb1,hb2,il]at hb;rw[hσ];simp only[aE]at hb|-;rcases hb with h|h|h<;>simp[h]
 have hnd:=hs.sat.nodup;rw[hσ]at hnd;refine⟨H',hg.up (λ_ _ h=>h),⟨rfl,⟨hs.sat.ro,λx hx=>?_,?_,λb hb=>hs.sat.free b (hin b hb),λx hx=>?_⟩,?_⟩,ha.mono hle⟩
 ·rcases aE.1 hx with hx|hx
  ·obtain⟨y,hy,rfl⟩:=vB hx;exact Fp hro hf (hids' y hy) (hh y hy)
  rw[e2]at hx;exact nO hle (hs.sat.ids x (hsub x hx)) (hs.sat.holds x (hsub x hx))
 ·show (g_ H' (mm (yW id s.n) τ++jQ s.σ id)).Nodup;rw[e2,il,hb1,hb2,il];have hperm:(g_ H l1++(fp++g_ H l2)).Perm (fp++(g_ H l1++g_ H l2)):=by
   rw[<-aS,<-aS];exact List.Perm.append_right _ dt
  exact hperm.nodup_iff.1 hnd
 ·rcases aE.1 hx with hx|hx
  ·obtain⟨y,hy,rfl⟩:=vB hx;exact (hf _ (hids' y hy)).1
  rw[e2]at hx;exact a_ (hs.sat.ids x (hsub x hx)) hle.n
 have hfr:=hs.fr;exact⟨hfr.os,hfr.tape,hfr.output,hfr.size,hfr.keep,λc hc=>hfr.own c (hin c hc),hfr.fro,hfr.le.trans hle⟩
end
def Er{A:wk}{σ:Heap}:∀l:Heap,je 0 (iv id l)=false->o7 id l σ->o7 id l ((0,.ab A)::σ)
 | [],_,_=>trivial
 | (j,y)::r,hm,hl=>by
  simp only[iv,je,bO]at hm;refine⟨?_,Er r hm.2 hl.2⟩;show (bif Nat.beq 0 (id j) then _ else gW σ (id j))=_;rw[hm.1];exact hl.1
def Hf.pack {p:Pg} {f:FuncId} {n0:Nat} {args:List GV} {σ:Heap} {Q Q':GV->Heap->Nat->Prop} (h:Hf p f n0 args σ Q)
  (hQ:∀g σ' n',Q g σ' n'->∃rest,(Nat.blt 0 n0&&Nat.ble n0 n'&&iy n0 g&&iL n0 rest&&iu (0::iv id rest))=true/\
   ((∃(r:Nat->Nat) (n:Nat) (τ:Heap),o7 r τ σ'/\o7 id rest (jr (iv r τ) σ')/\(iL n τ&&iu (iv r τ)&&Nat.beq (r 0) 0)=true/\∀fp,Q' g ((0,.ab (GK.pack n τ fp))::rest) n0)\/
   ∃A,gW σ' 0=some (.ab A)/\o7 id rest σ'/\Q' g ((0,.ab A)::rest) n0)):Hf p f n0 args σ Q':=by
 refine⟨h.call,?_⟩;have key:Ct p f n0 args σ (λg σ' n'=>∃rest A,gW σ' 0=some (.ab A)/\o7 id rest σ'/\(Nat.blt 0 n0&&Nat.ble n0 n'&&iy n0 g&&iL n0 rest&&iu (0::iv id rest))=true/\Q' g ((0,.ab A)::rest) n0):=by
  intro H us w hn hg hc hs;refine Calls.mono (h.ct H us w hn hg hc hs) (λe w' he=>?_);obtain⟨u,g,H',σ',rfl,hi,hs',hfr,hq⟩:=he;obtain⟨rest,hchk,hq⟩:=hQ g σ' _ hq;rcases hq with ⟨r,n,τ,h1,h2,hchk2,h3⟩|⟨A,h1,h2,h3⟩
  ·have hc1:=hchk;simp only[aG]at hchk hchk2;obtain⟨⟨⟨⟨c4,c5⟩,c6⟩,c7⟩,c8⟩:=hchk;obtain⟨⟨c1,c2⟩,c3⟩:=hchk2;have hn':=bA c5;have h00:=qq c4;obtain⟨fp,hsat,hin⟩:=hs'.pack h1 c1 c2 (beq_eq c3) az;simp only[iu,aG,bG]at c8;exact⟨u,g,H',_,rfl,hi,hsat,⟨hfr.os,hfr.tape,hfr.output,hfr.size,hfr.keep,λc hc=>hfr.own c (hin c hc),hfr.fro,hfr.le⟩,rest,_,rfl,Er rest c8.1 h2,hc1,h3 fp⟩
  exact⟨u,g,H',σ',rfl,hi,hs',hfr,rest,A,h1,h2,hchk,h3⟩
 refine key.jK λg σ' n' hq=>?_;obtain⟨rest,A,hh,hl,hchk,hq⟩:=hq;simp only[aG]at hchk;obtain⟨⟨⟨⟨c4,c5⟩,c6⟩,c7⟩,c8⟩:=hchk;have hfix:∀n,jf id n=true:=λn=>by
  induction n with
  |zero=>rfl
  |succ n ih=>simp[jf,ih]
 refine⟨id,g,(0,.ab A)::rest,n0,hq,(mR g).symm,⟨hh,hl⟩,?_⟩;simp only[iL,jm,aG];exact⟨⟨⟨⟨c6,⟨⟨c4,trivial⟩,c7⟩⟩,c8⟩,hfix n0⟩,by rw[Nat.ble_eq];exact aL n0⟩
def Hf.lL{p:Pg}{f:FuncId}{n0:Nat}{args:List GV}{σ:Heap}{g:GV}{R:Heap->Nat->Prop}(h:Hf p f n0 args σ λg' σ' n'=>GK.lL g g'/\R σ' n'):Hf p f n0 args σ λg' σ' n'=>g'=g/\R σ' n':=by
 refine⟨h.call,λH us w hn hg hc hs=>(Calls.mono (h.ct H us w hn hg hc hs) (λe w' he=>?_))⟩;obtain⟨u,g',H',σ',rfl,hi,hs',hfr,he,hR⟩:=he;exact⟨u,g,H',σ',rfl,zt he hi,hs',hfr,rfl,hR⟩
def tJ{σ:Heap}{id:Nat}{x:hY}(h:gW σ id=some x)(y:hY):gW (jh σ id y) id=some y:=by
 induction σ with
 |nil=>cases h
 |cons z r ih=>
  obtain⟨s,g⟩:=z;unfold jh;unfold gW at h;cases hb:Nat.beq s id with
  |true=>simp only[cond_true];unfold gW;rw[hb];rfl
  |false=>
   rw[hb]at h;simp only[cond_false]at h|-;unfold gW;rw[hb];exact ih h
def xP{σ:Heap}{id j:Nat}{y:hY}(hne:Nat.beq id j=false):gW (jh σ id y) j=gW σ j:=by
 induction σ with
 |nil=>rfl
 |cons z r ih=>
  obtain⟨s,g⟩:=z;unfold jh;cases hb:Nat.beq s id with
  |true=>
   have:=beq_eq hb;subst this;simp only[cond_true];unfold gW;rw[hne];rfl
  |false=>
   simp only[cond_false];unfold gW;rw[ih]
def Hf.ri {p:Pg} {f:FuncId} {n0:Nat} {args:List GV} {σ:Heap} {Q Q':GV->Heap->Nat->Prop} (h:Hf p f n0 args σ Q) (id:Nat)
  (hQ:∀g σ' n',Q g σ' n'->∃ty cs cs',gW σ' id=some (.hZ ty cs)/\t_ cs' cs/\Q' g (jh σ' id (.hZ ty cs')) n'):Hf p f n0 args σ Q':=by
 refine⟨h.call,λH us w hn hg hc hs=>(Calls.mono (h.ct H us w hn hg hc hs) (λe w' he=>?_))⟩;obtain⟨u,g,H',σ',rfl,hi,hs',hfr,hq⟩:=he;obtain⟨ty,cs,cs',hl,he,hq'⟩:=hQ g σ' _ hq;obtain⟨l1,l2,e1,_,e3⟩:=kU hl;have e3:=e3 (.hZ ty cs');have hin:∀x∈jh σ' id (.hZ ty cs'),x=(id,.hZ ty cs')\/x∈σ':=λx hx=>by
  rw[e3]at hx;rw[e1];rcases aE.1 hx with h|h
  ·exact .inr (by simp[h])
  rcases aF.1 h with h|h
  ·exact .inl h
  exact .inr (by simp[h])
 have hb:g_ H' (jh σ' id (.hZ ty cs'))=g_ H' σ':=by rw[e3,e1,il,il,iD,iD];rfl
 refine⟨u,g,H',_,rfl,hi,⟨hs'.ro,λx hx=>?_,by rw[hb];exact hs'.nodup,by rw[hb];exact hs'.free,λx hx=>?_⟩,by rw[hb];exact hfr,hq'⟩
 ·rcases hin x hx with rfl|hx
  ·obtain⟨us',hw,hlen,his⟩:=hs'.holds _ (ib hl);obtain⟨e4,e5⟩:=AF (F:=λj=>us'.getD j undef) cs' cs he his;exact⟨us',hw,by rw[e4];exact hlen,e5⟩
  exact hs'.holds x hx
 rcases hin x hx with rfl|hx
 ·exact hs'.ids (id,.hZ ty cs) (ib hl)
 exact hs'.ids x hx
section
variable {cx:Cx}{T:jz}
def JK.ri{k:List It}{s:St}(id:Nat){ty:Nat}{cs:List GV}(cs':List GV)(hl:gW s.σ id=some (.hZ ty cs))(he:t_ cs' cs)(h:kG (jh s.σ id (.hZ ty cs')) λσ=>JK cx T k ⟨s.ρ,σ,s.n⟩):JK cx T k s:=by
 rw[jy]at h;refine JK.CL ⟨s.ρ,jh s.σ id (.hZ ty cs'),s.n⟩ (λH a w hg hs ha=>⟨H,hg,?_,ha⟩) h;obtain⟨us',hw,hlen,his⟩:=hs.sat.holds _ (ib hl);obtain⟨e4,e5⟩:=AF (F:=λj=>us'.getD j undef) cs' cs he his;exact hs.put (y:=.hZ ty cs') (w':=w) hl rfl rfl rfl rfl (aL _) (λ_ _ _=>rfl) ⟨us',hw,by rw[e4];exact hlen,e5⟩ s.ρ
end
end Go.GK
set_option linter.unusedVariables false
namespace Go.Lib
section
variable {P:Program}(w:World)
def Gp{w:World}{base:Nat}{e:TypeId}{size:Nat}{v:Value}{n:Nat}{xs:List Value}(h:w.ownsRowF base e size v n xs):w.ownsRowF 0 e size v n xs:=by
 refine⟨h.1,?_⟩;rcases h.2 with h|⟨g,cap,cur,fz,h1,h2,h3⟩
 ·exact .inl h
 exact .inr ⟨g,cap,cur,fz,h1,aQ _,h3⟩
def uF (t u ty e:TypeId) (i:TypeInfo) (ht:P.underlying t=some (.slice e)) (hu:P.underlying u=some .string) (hi:P.info? e=some i) (hz:i.zero=some (.int .u8 0))
  (hsize:i.size=1) (hby:i.bytes=1)
  (v:Value) (n:Nat) (xs:List Value) (hown:w.ownsRowF 0 e 1 v n xs) (s:ByteArray)
  (h63:n+s.size<=maxLen) (hbytes:n+s.size<=140737488355328):
  ∃v' w',(Builtin.append_ #[t,u] ty #[v,.string s]).run P w=.ok v' w'/\w'.ownsRowF 0 e 1 v' (n+s.size) (xs++strCells s)/\w.grownBy w' v.ownBlock/\
   (v'=.slice none 0 0↔v=.slice none 0 0/\s.size=0)/\∀g,v'.ownBlock=some g->v.ownBlock=some g\/w.heap.size<=g:=by
 rcases hown.2 with ⟨rfl,rfl⟩|⟨g,cap,cur,fz,rfl,hbg,hg,hfz,hnc,hcm,hcs,htake⟩
 ·
  obtain⟨v',w',h1,h2,h3,h4⟩:=run_append_own_string (P:=P) w w.heap.size t u ty e i ht hu hi hz hsize hby (.slice none 0 0) 0 xs ⟨hown.1,.inl ⟨rfl,rfl⟩⟩ s h63 hbytes (aL _);exact⟨v',w',h1,Gp (World.ownsRowF_of h2),h3,h4,λg hg=>.inr ((World.ownsRowF_of h2).lt g hg).1⟩
 have hsmall:n+s.size<=9223372036854775807:=by simp only[maxLen]at h63;omega
 have hxl:xs.length=n:=by simpa using hown.1
 have hlen:(xs++strCells s).length=(n+s.size)*1:=by rw[aI,hxl,strCells_length,cX]
 by_cases hroom:n+s.size<=cap
 ·have hcs':cur.size=cap:=by simpa using hcs
  have hr:=run_append_room_stringF (P:=P) w t u ty e i ht hu hi hsize g n cap cur fz hg (by simpa using hfz) s hroom az;refine⟨_,_,hr,⟨hlen,.inr ⟨g,cap,_,fz,rfl,hbg,setRow_heap w g cur _ e _ hg,az,hroom,hcm,?_,?_⟩⟩,⟨rfl,rfl,rfl,aA,λk _ hk=>setRow_other w g k _ (λe=>hk (by simp[Value.ownBlock,e]))⟩,aA,λg' hg'=>.inl hg'⟩
  ·simp only[cr,aI,aY,bw,bu,strCells_length];omega
  have ht':cur.toList.take n=xs:=by simpa using htake
  rw[ht',<-hlen];exact gR
 have holds:∀j u,xs[j]? =some u->w.cell? ((⟨g,0,none⟩:Addr).add j)=some u:=hown.cells (g:=g) rfl;have hr:=run_append_grow_string (P:=P) w t u ty e i (.int .u8 0) ht hu hi hz ⟨g,0,none⟩ n cap xs (by rw[hsize];simpa using hxl) holds s az az (by rw[hby];exact growslice_fits az az);have hge:=grownCap_ge w (n+s.size) cap e;have hcm2:grownCap w (n+s.size) cap e<=maxLen:=grownCap_le_maxLen w (n+s.size) cap e h63;refine⟨_,_,hr,⟨hlen,.inr ⟨w.heap.size,_,_,(0,0),rfl,aQ _,heap_alloc_new w.drew _,aQ _,hge,hcm2,?_,?_⟩⟩,⟨rfl,rfl,rfl,aA,λk hk _=>by first|exact heap_alloc_old w.drew _ k hk|exact heap_alloc_old w.drew _ hk⟩,aA,λg' hg'=>.inr (by simp[Value.ownBlock]at hg';omega)⟩
 ·have hz1:(Value.int IntKind.u8 0).cells.size=1:=rfl;simp only[fm,cr,size_zeroCells,hz1,hxl,strCells_length];omega
 simp only[dR,aS];rw[<-aS,<-hlen];exact gR
def sX {ops:Array Oper} {rest:List Oper} {o:Oper} {a:Act} {Q:Exit->Act->World->Prop} (hgd:o.guard=none) (sl x:Operand) (t u:TypeId)
  (ho:o.op=.call {callee:=.builtin .append,args:=#[sl,x],argTypes:=#[t,u]})
  (e:TypeId) (i:TypeInfo) (ht:P.underlying t=some (.slice e)) (hu:P.underlying u=some .string) (hi:P.info? e=some i) (hz:i.zero=some (.int .u8 0))
  (hsize:i.size=1) (hby:i.bytes=1)
  (v:Value) (n:Nat) (xs:List Value) (hs:a.eval sl=v) (hown:w.ownsRowF 0 e 1 v n xs) (s:ByteArray) (hx:a.eval x=.string s)
  (h63:n+s.size<=maxLen) (hbytes:n+s.size<=140737488355328)
  (h:∀v' w',w'.ownsRowF 0 e 1 v' (n+s.size) (xs++strCells s)->w.grownBy w' v.ownBlock->(v'=.slice none 0 0↔v=.slice none 0 0/\s.size=0)->(∀g,v'.ownBlock=some g->v.ownBlock=some g\/w.heap.size<=g)->wpList P ops Q rest (a.put o.dst v') w'):wpList P ops Q (o::rest) a w:=by
 refine wpList_plain hgd λK hK=>?_;obtain⟨v',w',hr,h2,h3,h4,h5⟩:=uF (P:=P) w t u o.type e i ht hu hi hz hsize hby v n xs hown s h63 hbytes;unfold Oper.wp execOp;simp only[ho,resolve,invoke,builtin,Sem.run_bind,Sem.run_pure,Result.andThen_ok,gz,bb,cN,hs,hx,hr];exact hK _ _ (h v' w' h2 h3 h4 h5)
end
def J5(T e:TypeId)(b:Nat)(u:Value)(bs:List Value)(w:World):Prop:=
 ∃p,w.heap[b]? =some (.cells #[p,u] T (0,0))/\(p=.pointer none\/p=.pointer (some ⟨b,0,none⟩))/\w.ownsRowF 0 e 1 u bs.length bs/\(bs=[]->u=.slice none 0 0)
structure K_(b:Nat)(u u':Value)(w w':World):Prop where
 os:w'.os=w.os
 tape:w'.tape=w.tape
 output:w'.output=w.output
 size:w.heap.size<=w'.heap.size
 keep:∀k,k<w.heap.size->k≠b->u.ownBlock≠some k->w'.heap[k]? =w.heap[k]?
 own:∀g,u'.ownBlock=some g->u.ownBlock=some g\/w.heap.size<=g
end Go.Lib
namespace Go.Proofs
open Go.Shelf Go.RowKit
variable {P:Program}{ρ:Ren}
structure Lib.U5(p:Prop):Prop where
 out:p
structure Lib.Vf(T e:TypeId)(b:Nat)(u:Value)(bs:List Value)(w w1:World):Prop where
 hb:w1.heap[b]? =some (.cells #[.pointer (some ⟨b,0,none⟩),u] T (0,0))
 own:w1.ownsRowF 0 e 1 u bs.length bs
 os:w1.os=w.os
 tape:w1.tape=w.tape
 output:w1.output=w.output
 size:w1.heap.size=w.heap.size
 keep:∀k,k≠b->w1.heap[k]? =w.heap[k]?
 nil:bs=[]->u=.slice none 0 0
 ne:u.ownBlock≠some b
def Any.Fx(L:Lays.n240 P ρ)(X:Builder.Extra P ρ)(b:Nat)(u:Value)(bs:List Value)(w:World)(h:Lib.J5 (ρ.t 72) (ρ.t 5) b u bs w):
  Calls P (ρ.f 240) #[.pointer (some ⟨b,0,none⟩)] w λe w1=>e=.returned (.tuple #[])/\Lib.Vf (ρ.t 72) (ρ.t 5) b u bs w w1:=by
 obtain⟨p,hbk,hp,hown,hnil⟩:=h;have hne:u.ownBlock≠some b:=Lib.ownBlock_neF hown hbk X.neB5;rcases hp with rfl|rfl
 ·refine (Any.Builder_copyCheck_fresh L X.toX72 b w (by rw[Lib.cell_of_heap hbk];rfl) (by simp[World.shape?,hbk]) (Lib.frozen_of_heap hbk 0)).mono ?_;rintro e w' ⟨rfl,rfl⟩;have hk:∀k,k≠b->(w.setCell ⟨b,0,none⟩ (.pointer (some ⟨b,0,none⟩))).heap[k]? =w.heap[k]? :=λk hk=>Below.heap_setCell _ _ _ _ hk;exact⟨rfl,by simp[World.setCell,cz,hbk],hown.kept (row:=some b) ⟨rfl,rfl,rfl,by simp[World.setCell],λk _ hkb=>hk k (λe=>hkb (by rw[e]))⟩ (Or.inr hne),rfl,rfl,rfl,by simp[World.setCell],hk,hnil,hne⟩
 refine (Any.Builder_copyCheck_used L X.toX72 b w (by rw[Lib.cell_of_heap hbk];rfl)).mono ?_;rintro e w' ⟨rfl,rfl⟩;exact⟨rfl,hbk,hown,rfl,rfl,rfl,rfl,λ_ _=>rfl,hnil,hne⟩
set_option maxHeartbeats 2000000 in
set_option maxRecDepth 100000 in
def Any.C9(L:Lays.n166 P ρ)(X:Builder.Extra P ρ)(b:Nat)(u:Value)(bs:List Value)(s:ByteArray)(w:World)(h:Lib.J5 (ρ.t 72) (ρ.t 5) b u bs w)(hlen:bs.length+s.size<=140737488355328):
  Calls P (ρ.f 166) #[.pointer (some ⟨b,0,none⟩),.string s] w λe w'=>e=.returned (.tuple #[.int .i64 s.size,.nilIface])/\∃u',Lib.J5 (ρ.t 72) (ρ.t 5) b u' (bs++Lib.strCells s) w'/\Lib.K_ b u u' w w':=by
 obtain⟨i0,hi,hz0,hz1,hz2⟩:=info_parts X.infoByte;have mixed:=L.mixed;have t72:=L.t72;have a72:=L.a72;have z72:=L.z72;have v72:=L.v72;have u72:=run_underlying L.t72;have t70:=L.t70;have a70:=L.a70;have z70:=L.z70;have v70:=L.v70;have u70:=run_underlying L.t70;have t37:=L.t37;have a37:=L.a37;have z37:=L.z37;have v37:=L.v37;have u37:=run_underlying L.t37;have t3:=L.t3;have a3:=L.a3;have z3:=L.z3;have v3:=L.v3;have u3:=run_underlying L.t3;have t9:=L.t9;have a9:=L.a9;have z9:=L.z9;have v9:=L.v9;have u9:=run_underlying L.t9;have t4:=L.t4;have a4:=L.a4;have z4:=L.z4;have v4:=L.v4;have u4:=run_underlying L.t4;have t164:=L.t164;have a164:=L.a164;have z164:=L.z164;have v164:=L.v164;have u164:=run_underlying L.t164;have t5:=X.t5;have a5:=X.a5;have z5:=X.z5;have v5:=X.v5;have u5:=run_underlying X.t5;have e240:∀args w,(callFunc (ρ.f 240) args).run P w=.ok (.enter (ρ.f 240) args) w:=enters_of L.f240 au rfl
 go_enter L.f166,Body.n166_ntmps ρ
 go_wp2_with (go_at_fn (ρ.f 240);refine (Any.Fx {L with} X b u bs _ h).mono ?_)
 rintro e w1 ⟨rfl,H1⟩;have hbk:=H1.hb;have hown:=H1.own;have c0:w1.cell? ⟨b,0,none⟩=some (.pointer (some ⟨b,0,none⟩)):=by rw[Lib.cell_of_heap hbk];rfl
 have c1:w1.cell? ⟨b,1,none⟩=some u:=by rw[Lib.cell_of_heap hbk];rfl
 go_wp2_with (at_builtin;refine Lib.sX _ rfl _ _ (ρ.t 37) (ρ.t 9) rfl (ρ.t 5) i0 L.t37 L.t9 hi hz0 hz1 hz2 _ _ _ rfl hown s rfl ?c3 ?c4 ?_)
 case c3=>unfold maxLen;omega
 case c4=>omega
 intro v' w2 hown' hgrow hnl hat;have hlt:b<w1.heap.size:=(aW.1 hbk).1;have hb2:w2.heap[b]? =some (.cells #[.pointer (some ⟨b,0,none⟩),u] (ρ.t 72) (0,0)):=by
  rw[hgrow.block b hlt (λe=>H1.ne e.symm)];exact hbk
 have d0:w2.cell? ⟨b,0,none⟩=some (.pointer (some ⟨b,0,none⟩)):=by rw[Lib.cell_of_heap hb2];rfl
 have d1:w2.cell? ⟨b,1,none⟩=some u:=by rw[Lib.cell_of_heap hb2];rfl
 have f1:w2.frozen? ⟨b,1,none⟩=false:=Lib.frozen_of_heap hb2 1;obtain⟨ao,n',cap,rfl⟩:∃ao n' cap,v'=.slice ao n' cap:=by
  rcases hown'.2 with ⟨hv,_⟩|⟨g,cap,cur,fz,hv,_⟩
  ·exact⟨_,_,_,hv⟩
  exact⟨_,_,_,hv⟩
 have HN:=Lib.U5.mk (And.intro hnl hat);clear hnl hat
 go_wp2
 go_ret2
 obtain⟨hnl,hat⟩:=HN.out;have hlen':(bs++Lib.strCells s).length=bs.length+s.size:=by rw[aI,Lib.strCells_length]
 obtain⟨_,v2,hb3,hown3,_⟩:=Lib.BuilderAtF.put (T:=(ρ.t 72)) (e:=(ρ.t 5)) (B:=0) (aQ b) hb2 (bs':=bs++Lib.strCells s) (by rw[hlen'];exact hown') X.neB5;have hb4:(w2.setCell ⟨b,1,none⟩ (.slice ao n' cap)).heap[b]? =some (.cells #[.pointer (some ⟨b,0,none⟩),.slice ao n' cap] (ρ.t 72) (0,0)):=by simp[World.setCell,cz,hb2]
 rw[hb4]at hb3;have ev:v2=.slice ao n' cap:=by simp at hb3;exact hb3.symm
 subst ev;have hsz:=H1.size;refine⟨rfl,_,⟨_,hb4,.inr rfl,hown3,λhe=>?_⟩,⟨hgrow.os.trans H1.os,hgrow.tape.trans H1.tape,hgrow.output.trans H1.output,?_,λk hk hkb hku=>?_,λg hg=>?_⟩⟩
 ·have h1:bs=[]/\Lib.strCells s=[]:=List.append_eq_nil_iff.1 he;have hs0:s.size=0:=by rw[<-Lib.strCells_length,h1.2];rfl
  exact hnl.2 ⟨H1.nil h1.1,by first|exact hs0|simpa using hs0⟩
 ·have:=hgrow.size;simp only[World.setCell,Array.size_modify];omega
 ·rw[Below.heap_setCell _ _ _ _ hkb,hgrow.block k az (λe=>hku e.symm),H1.keep k hkb]
 rcases hat g hg with h|h
 ·exact .inl h
 exact .inr az
set_option maxHeartbeats 2000000 in
set_option maxRecDepth 100000 in
def Any.Li(L:Lays.n169 P ρ)(X:Builder.Extra P ρ)(b:Nat)(u:Value)(l:List UInt8)(w:World)(h:Lib.J5 (ρ.t 72) (ρ.t 5) b u (Lib.byteCells l) w):
  Calls P (ρ.f 169) #[.pointer (some ⟨b,0,none⟩)] w λe w'=>e=.returned (.string ⟨l.toArray⟩)/\Lib.K_ b u (.slice none 0 0) w w':=by
 obtain⟨p,hbk,hp,hown,hnil⟩:=h;have hUS0:=Any.unsafeString_none L X;have mixed:=L.mixed;have t72:=L.t72;have a72:=L.a72;have z72:=L.z72;have v72:=L.v72;have u72:=run_underlying L.t72;have t70:=L.t70;have a70:=L.a70;have z70:=L.z70;have v70:=L.v70;have u70:=run_underlying L.t70;have t37:=L.t37;have a37:=L.a37;have z37:=L.z37;have v37:=L.v37;have u37:=run_underlying L.t37;have t127:=L.t127;have a127:=L.a127;have z127:=L.z127;have v127:=L.v127;have u127:=run_underlying L.t127;have t3:=L.t3;have a3:=L.a3;have z3:=L.z3;have v3:=L.v3;have u3:=run_underlying L.t3;have t9:=L.t9;have a9:=L.a9;have z9:=L.z9;have v9:=L.v9;have u9:=run_underlying L.t9;have t5:=X.t5;have a5:=X.a5;have z5:=X.z5;have v5:=X.v5;have u5:=run_underlying X.t5;by_cases h0:l=[]
 ·subst h0;obtain rfl:=hnil rfl;have c1:w.drew.cell? ⟨b,1,none⟩=some (.slice none 0 0):=by
   have:w.drew.heap[b]? =some (.cells #[p,.slice none 0 0] (ρ.t 72) (0,0)):=hbk;rw[Lib.cell_of_heap this];rfl
  have hUS:=hUS0;have hSD:(Builtin.unsafeSliceData_ #[(ρ.t 37)] (ρ.t 127) #[.slice none 0 0]).run P w.drew=.ok (.pointer none) w.drew:=rfl
  go_enter L.f169,Body.n169_ntmps ρ
  go_wp2
  go_region_o
  all_goals (go_wp2;go_ret;exact⟨rfl,⟨rfl,rfl,rfl,aL _,λ_ _ _ _=>rfl,λg hg=>by simp[Value.ownBlock]at hg⟩⟩)
 have hl0:l.length≠0:=by simpa using h0
 rw[Lib.byteCells_length]at hown;obtain⟨g,cap,cur,fz,rfl,hbg,hg,hfz,hnc,hcm,hcs,htake⟩:∃g cap cur fz,u=.slice (some ⟨g,0,none⟩) l.length cap/\0<=g/\w.heap[g]? =some (.cells cur (ρ.t 5) fz)/\fz.2<=l.length*1/\l.length<=cap/\cap<=maxLen/\cur.size=cap*1/\cur.toList.take (l.length*1)=Lib.byteCells l:=by
  rcases hown.2 with ⟨_,hz⟩|⟨g,cap,cur,fz,hv,r⟩
  ·exact absurd hz hl0
  exact⟨g,cap,cur,fz,hv,r⟩
 have c1:w.drew.cell? ⟨b,1,none⟩=some (.slice (some ⟨g,0,none⟩) l.length cap):=by
  have:w.drew.heap[b]? =some (.cells #[p,.slice (some ⟨g,0,none⟩) l.length cap] (ρ.t 72) (0,0)):=hbk;rw[Lib.cell_of_heap this];rfl
 have hSD:(Builtin.unsafeSliceData_ #[(ρ.t 37)] (ρ.t 127) #[.slice (some ⟨g,0,none⟩) l.length cap]).run P w.drew=.ok (.pointer (some ⟨g,0,none⟩)) w.drew:=
  Lib.run_unsafeSliceData_row _ _ _ _ _ _ az
 have hUS:(Builtin.unsafeString_ #[(ρ.t 127),(ρ.t 3)] (ρ.t 9) #[.pointer (some ⟨g,0,none⟩),.int .i64 l.length]).run P w.drew=.ok (.string ⟨l.toArray⟩) (w.drew.freeze ⟨g,0,none⟩ l.length):=by
  refine Lib.run_unsafeString_row w.drew (ρ.t 127) (ρ.t 3) (ρ.t 9) (ρ.t 5) L.t127 X.cellsByte g cur.size (by have hg':w.drew.heap[g]? =some (.cells cur (ρ.t 5) fz):=hg;simp[World.shape?,hg']) l h0 az (by unfold maxLen at hcm;omega) ?_;intro j x hx;have:=hown.cells (g:=g) rfl j (.int .u8 x.toNat) (by simp[Lib.byteCells,hx]);exact this
 have hfrz:∀k,k≠g->(w.drew.freeze ⟨g,0,none⟩ l.length).heap[k]? =w.heap[k]? :=λk hk=>by
  unfold World.freeze;rw[if_neg hl0];simp only[cz];rw[if_neg (λe=>hk e.symm)];rfl
 have hfo:(w.drew.freeze ⟨g,0,none⟩ l.length).os=w.os/\(w.drew.freeze ⟨g,0,none⟩ l.length).tape=w.tape/\(w.drew.freeze ⟨g,0,none⟩ l.length).output=w.output/\(w.drew.freeze ⟨g,0,none⟩ l.length).heap.size=w.heap.size:=by
  unfold World.freeze;rw[if_neg hl0];refine⟨rfl,rfl,rfl,?_⟩;simp only[Array.size_modify];rfl
 have hfin:Lib.K_ b (.slice (some ⟨g,0,none⟩) l.length cap) (.slice none 0 0) w (w.drew.freeze ⟨g,0,none⟩ l.length):=
  ⟨hfo.1,hfo.2.1,hfo.2.2.1,cM hfo.2.2.2.symm,λk _ _ hku=>hfrz k (λe=>hku (by simp[Value.ownBlock,e])),λg' hg'=>by simp[Value.ownBlock]at hg'⟩
 go_enter L.f169,Body.n169_ntmps ρ
 go_wp2
 go_region_o
 all_goals (go_wp2;go_ret;exact⟨rfl,hfin⟩)
end Go.Proofs
namespace Go.GK
open Go Go.RowKit IntKind
def Hf.abs {p:Pg} {f:FuncId} {vs:List Value} {A:wk} {R:wk->Prop} {r:Value} (hc:∀xs w,(callFunc f xs).run p.P w=.ok (.enter f xs) w)
  (h:∀ro b v w,A.P ro b v w->Calls p.P f (.pointer (some ⟨b,0,none⟩)::vs).toArray w λe w'=>e=.returned r/\∃A',R A'/\A'.P ro b v w'/\A'.fp.Nodup/\(∀g∈A'.fp,g∈A.fp\/w.heap.size<=g)/\
   w'.os=w.os/\w'.tape=w.tape/\w'.output=w.output/\w.heap.size<=w'.heap.size/\∀k,k<w.heap.size->k∉A.fp->w'.heap[k]? =w.heap[k]?):
  Hf p f 1 (.p 0 0::vs.map .v) [(0,.ab A)] λg σ n=>g=.v r/\(∃A',R A'/\σ=[(0,.ab A')])/\n=1:=by
 refine⟨hc,λH us w hn hg hcs hs=>?_⟩;obtain⟨hl,hi⟩:=hcs;have hu:us=(.pointer (some ⟨H.bl 0,0,none⟩)::vs).toArray:=by
  refine dW (by simpa using hl.symm) (λi h1 h2=>?_);have eg:us.getD i undef=us[i]:=by rw[Array.getD,dif_pos h1];rfl
  cases i with
  |zero=>
   have:=(hi 0 (.p 0 0) rfl).qf;rw[eg]at this;simpa using this.1
  |succ i=>
   have h2':i<vs.length:=by simpa using h2
   have:=(hi (i+1) (.v vs[i]) (by simp[h2'])).iH;rw[eg]at this;simpa using this
 subst hu;have hA:=hs.holds (0,.ab A) aA;have hid:(0:Nat)<H.n:=hs.ids (0,.ab A) aA;refine Calls.mono (h H.ro (H.bl 0) (H.sv 0) w hA) (λe w' he=>?_);obtain⟨rfl,A',hR,hP,hnd,hown,h1,h2,h3,h4,h5⟩:=he;have hfree:∀b∈A.fp,H.ro b=none:=λb hb=>hs.free b (by simpa[g_,blocks]using hb);refine⟨r,.v r,H,[(0,.ab A')],rfl,.ro (.v r),⟨λb o hr=>?_,?_,by simpa[g_,blocks]using hnd,λb hb=>?_,by simpa using hid⟩,?_,rfl,⟨A',hR,rfl⟩,hn⟩
 ·have ho:=hs.ro b o hr;rw[h5 b (aW.1 ho).1 (λhb=>by rw[hfree b hb]at hr;cases hr)];exact ho
 ·intro y hy;simp only[aH]at hy;subst hy;exact hP
 ·have hb':b∈A'.fp:=by simpa[g_,blocks]using hb
  rcases hown b hb' with h|h
  ·exact hfree b h
  exact hs.rW b h
 refine⟨h1,h2,h3,h4,λb hb hb2=>h5 b hb (λhm=>hb2 (by simpa[g_,blocks]using hm)),λb hb=>?_,λb h1 h2=>(h2 h1).elim,Hid.le.refl H⟩;have hb':b∈A'.fp:=by simpa[g_,blocks]using hb
 rcases hown b hb' with h|h
 ·exact .inl (by simpa[g_,blocks]using h)
 exact .inr h
def Hf.UY {p:Pg} {f:FuncId} {vs:List Value} {A:wk} {r:Value} (hc:∀xs w,(callFunc f xs).run p.P w=.ok (.enter f xs) w)
  (h:∀ro b v w,A.P ro b v w->Calls p.P f (.pointer (some ⟨b,0,none⟩)::vs).toArray w λe w'=>e=.returned r/\
   w'.os=w.os/\w'.tape=w.tape/\w'.output=w.output/\w.heap.size<=w'.heap.size/\∀k,k<w.heap.size->k∉A.fp->w'.heap[k]? =w.heap[k]?):
  Hf p f 1 (.p 0 0::vs.map .v) [(0,.ab A)] λg σ n=>g=.v r/\σ=[]/\n=1:=by
 let E:wk:=⟨λ_ _ _ _=>True,[],λ_ _ _ _ _ c hc=>(dm hc).elim,λ_ _ _ _ _ _ h=>h,λ_ _ _ _ _ _ h=>h⟩
 have key:=Hf.abs (p:=p) (vs:=vs) (A:=A) (R:=λ_=>True) (r:=r) hc λro b v w hP=>(h ro b v w hP).mono λe w' ⟨h1,h2,h3,h4,h5,h6⟩=>⟨h1,E,trivial,trivial,by simp[E],by simp[E],h2,h3,h4,h5,h6⟩;refine key.jK λg σ' n' ⟨h1,_,h3⟩=>⟨id,g,[],1,⟨h1,rfl,rfl⟩,(mR g).symm,trivial,?_⟩;subst h1;rfl
def yZ(T e:TypeId)(bs:List Value)(fp:List Nat):wk where
 P:=λ_ b _ w=>∃u,Lib.J5 T e b u bs w/\T≠e/\fp=b::u.ownBlock.toList
 fp:=fp
 ex:=λro b v w h c hc=>by
  obtain⟨u,⟨p,hb,hp,hown,_⟩,hne,rfl⟩:=h;rcases aF.1 hc with rfl|hc
  ·exact (aW.1 hb).1
  exact (hown.lt c (by simpa using hc)).2
 congr:=λro b v w w' hw h=>by
  obtain⟨u,⟨p,hb,hp,hown,hnil⟩,hne,rfl⟩:=h;refine⟨u,⟨p,(hw b aA).trans hb,hp,⟨hown.1,?_⟩,hnil⟩,hne,rfl⟩;rcases hown.2 with h|⟨g,cap,cur,fz,hv,h0,hg,r⟩
  ·exact .inl h
  exact .inr ⟨g,cap,cur,fz,hv,h0,(hw g (by simp[hv,Value.ownBlock])).trans hg,r⟩
 mono:=λro ro' b v w _ h=>h
def MY{T e:TypeId}{b:Nat}{u:Value}{bs:List Value}{w:World}(h:Lib.J5 T e b u bs w)(hne:T≠e):(b::u.ownBlock.toList).Nodup:=by
 obtain⟨p,hb,_,hown,_⟩:=h;have:=Lib.ownBlock_neF hown hb hne;cases hu:u.ownBlock with
 |none=>simp
 |some g=>
  rw[hu]at this;simp only[cU,bJ,aH,dm,not_false_eq_true,fQ,and_true];exact λe=>this (by rw[e])
section
variable {cx:Cx}{T:jz}
def JK.yZ {k:List It} {s:St} (id:Nat) {ty e:TypeId} (hne:ty≠e) (hl:gW s.σ id=some (.hZ ty [.v (.pointer none),.v (.slice none 0 0)]))
  (h:∀fp,kG (jh s.σ id (.ab (GK.yZ ty e [] fp))) λσ=>JK cx T k ⟨s.ρ,σ,s.n⟩):JK cx T k s:=by
 intro H a w hg hs ha;have hk:=h [H.bl id];rw[jy]at hk;refine hk H a w hg ?_ ha;obtain⟨us,hw,hlen,hi⟩:=hs.sat.holds _ (ib hl);have hus:us=#[.pointer none,.slice none 0 0]:=by
  have:=uq (vs:=[.pointer none,.slice none 0 0]) (us:=us) ⟨hlen,hi⟩;simpa using this
 subst hus;exact hs.put (y:=.ab (GK.yZ ty e [] [H.bl id])) (w':=w) hl rfl rfl rfl rfl (aL _) (λ_ _ _=>rfl)
  ⟨.slice none 0 0,⟨.pointer none,hw,.inl rfl,World.ownsRowF_nil w 0 e 1,λ_=>rfl⟩,hne,rfl⟩ s.ρ
end
open Go.Shelf Go.Proofs in
theorem CO{p:Pg}{ρ:Ren}(L:Lays.n166 p.P ρ)(X:Builder.Extra p.P ρ)(hc:∀xs w,(callFunc (ρ.f 166) xs).run p.P w=.ok (.enter (ρ.f 166) xs) w)(bs:List Value)(fp:List Nat)(s:ByteArray)(hlen:bs.length+s.size≤140737488355328):
  Hf p (ρ.f 166) 1 [.p 0 0,.v (.string s)] [(0,.ab (yZ (ρ.t 72) (ρ.t 5) bs fp))] fun g σ n=>g=.v (.tuple #[.int .i64 s.size,.nilIface])∧(∃fp',σ=[(0,.ab (yZ (ρ.t 72) (ρ.t 5) (bs++Lib.strCells s) fp'))])∧n=1:=by
 have key:=Hf.abs (p:=p) (vs:=[.string s]) (A:=yZ (ρ.t 72) (ρ.t 5) bs fp) (R:=fun A'=>∃fp',A'=yZ (ρ.t 72) (ρ.t 5) (bs++Lib.strCells s) fp') (r:=.tuple #[.int .i64 s.size,.nilIface]) hc fun ro b v w hP=>by
  obtain⟨u,hB,hne,rfl⟩:=hP;refine (Any.C9 L X b u bs s w hB hlen).mono fun e w' ⟨h1,u',hB',hF⟩=>?_;refine⟨h1,yZ (ρ.t 72) (ρ.t 5) (bs++Lib.strCells s) (b::u'.ownBlock.toList),⟨_,rfl⟩,⟨u',hB',hne,rfl⟩,MY hB' hne,fun g hg=>?_,hF.os,hF.tape,hF.output,hF.size,fun k hk hm=>?_⟩
  ·rcases aF.1 hg with rfl|hg
   ·exact .inl (bf)
   ·rcases hF.own g (by simpa using hg) with h|h
    ·exact .inl (aK _ (by simp[h]))
    ·exact .inr h
  ·exact hF.keep k hk (fun e=>hm (by rw[e];exact bf)) (fun e=>hm (aK _ (by simp[e])))
 refine key.jK fun g σ' n' ⟨h1,⟨A',⟨fp',hA⟩,h3⟩,h4⟩=>?_;subst h1 h3 h4 hA;exact⟨id,_,_,1,⟨rfl,⟨fp',rfl⟩,rfl⟩,rfl,⟨rfl,trivial⟩,rfl⟩
open Go.Shelf Go.Proofs in
def KL{p:Pg}{ρ:Ren}(L:Lays.n169 p.P ρ)(X:Builder.Extra p.P ρ)(hc:∀xs w,(callFunc (ρ.f 169) xs).run p.P w=.ok (.enter (ρ.f 169) xs) w)(l:List UInt8)(fp:List Nat):
  Hf p (ρ.f 169) 1 [.p 0 0] [(0,.ab (yZ (ρ.t 72) (ρ.t 5) (Lib.byteCells l) fp))] λg σ n=>g=.v (.string ⟨l.toArray⟩)/\σ=[]/\n=1:=
 Hf.UY (p:=p) (vs:=[]) hc λro b v w hP=>by
  obtain⟨u,hB,hne,rfl⟩:=hP;exact (Any.Li L X b u l w hB).mono λe w' ⟨h1,hF⟩=>⟨h1,hF.os,hF.tape,hF.output,hF.size,λk hk hm=>hF.keep k hk (λe=>hm (by rw[e];exact bf)) (λe=>hm (aK _ (by simp[e])))⟩
section
variable {cx:Cx}{T:jz}
def RA.TW {ops:List Oper} {k:List It} {σs:Heap} {ρq:Env} {fuel:Nat} {listed:List Bool} {s:St} (i:Nat) (order:List (Nat×Bool)) (e:Bool) {o:Oper} {f:FuncId} {n0:Nat} {cargs gs:List GV} {σc:Heap} {Q:GV->Heap->Nat->Prop} (hp:cx.pg.Ok) (kM:Region.noSelect ops.toArray=true) (hT:∀ch s,¬T (.panic ch) s) (hr:Hf cx.pg f n0 cargs σc Q) (r:Nat->Nat) (hi:ops[i]? =some o) (hk:mQ cx.pg ops s.ρ o=some (f,gs)) (hargs:gs=j4 r cargs) (hσ:o7 r σc s.σ)
  (chk:(im n0 cargs&&iL n0 σc&&iu (iv r σc))=true) (hrn:∀i,i<n0->r i<s.n)
  (hB:(vC (Region.ready .any ops.toArray listed.toArray) [i] &&sW ops e order (listed.set i true))=true)
  (h:∀g σ' n',Q g σ' n'->nf (jW (sh r n0 s.n) g) λg=>kG (mm (sh r n0 s.n) σ'++jr (iv r σc) s.σ) λσ=>kW (s.n+(n'-n0)) λn=>p9 (oS ρq o.dst g) λρq=>lB cx.N s.ρ o.dst g λρ'=>r4 cx T ops k σs e order fuel (listed.set i true) ρq ⟨ρ',σ,n⟩):RA cx T ops k σs ρq (fuel+1) listed s:=by
 obtain⟨fo,args,ts,first,caps,gs',ho',hgd,hf,he,hargs'⟩:=mu hk;simp only[aG]at hB;refine RA.call (n0:=n0) (r:=r) (σc:=σc) i hr.ct hr.call hi (iV hB.1) hgd ho' hf he (hargs'.trans hargs) hσ chk hrn ?_;intro g σ' n' hq;have:=h g σ' n' hq;rw[nc,jy,j9,oE]at this|-
 revert this
 cases o.dst with
 |none=>exact λh=>RA.run hp kM hT order hB.2 h
 |some d=>
  simp only[lB,iO];cases Nat.blt d cx.N with
  |false=>exact λh=>h
  |true=>simp only[cond_true,nc];exact λh=>RA.run hp kM hT order hB.2 h
end
section
variable {cx:Cx}{T:jz}
end
section
variable {cx:Cx}{T:jz}
def iY(cx:Cx)(T:jz)(ops:List Oper)(k:List It)(σs:Heap)(ρq:Env)(fuel:Nat)(listed:List Bool)(s:St)(i:Nat)(o:Oper):Prop:=
 ops[i]? =some o/\mS ops s.ρ o.guard=true/\∀(n0:Nat) (H0:Hid) (S0:List Nat) (w0:World) (h0:H0.n=n0) (g0:iX cx.pg H0) (H:Hid) (a:Act) (w:World) (K:Act->World->Prop) (Q':Exit->Act->World->Prop),iX cx.pg H->iQ ⟨cx.pg,cx.N,n0,H0,S0,w0,h0,g0⟩ H s w->kr cx H s.ρ a->Sat H (s.σ++σs) w->
   (∀(H':Hid) (u:Value) (g:GV) (w':World) (s':St) (ρ':Env),H.le H'->Is H' g u->iQ ⟨cx.pg,cx.N,n0,H0,S0,w0,h0,g0⟩ H' {s' with ρ:=ρ'} w'->kr cx H' ρ' (a.put o.dst u)->(∀d,o.dst=some d->d<cx.N)->RA cx T ops k σs (oS ρq o.dst g) fuel (listed.set i true) {s' with ρ:=ρ'}->K (a.put o.dst u) w')->
   o.wp cx.pg.P a w K Q'
def RA.both {ops:List Oper} {k:List It} {σs:Heap} {ρq:Env} {fuel:Nat} {listed:List Bool} {s:St} (i j:Nat) {oi oj:Oper} (hr:Region.ready .any ops.toArray listed.toArray=[i,j])
  (hi:iY cx T ops k σs ρq fuel listed s i oi) (hj:iY cx T ops k σs ρq fuel listed s j oj):RA cx T ops k σs ρq (fuel+1) listed s:=by
 have one:∀{q:Nat} {o:Oper},iY cx T ops k σs ρq fuel listed s q o->∀(n0:Nat) (H0:Hid) (S0:List Nat) (w0:World) (h0:H0.n=n0) (g0:iX cx.pg H0),Sat H0 σs w0->(∀b∈g_ H0 σs,b∉S0)->(∀b∈S0,H0.ro b=none)->
   (∀H s' w',iQ ⟨cx.pg,cx.N,n0,H0,S0,w0,h0,g0⟩ H s' w'->iQ cx H ⟨s'.ρ,s'.σ++σs,s'.n⟩ w')->
   ∀H a w,iQ ⟨cx.pg,cx.N,n0,H0,S0,w0,h0,g0⟩ H s w->kr cx H s.ρ a->jH (H.at H0.ro) ρq a->
   wpOp cx.pg.P ops.toArray (cont cx.pg.P (post cx T) k) q (λa w=>rH S0 w0 w/\wpAnyH cx.pg.P .any ops.toArray (cont cx.pg.P (post cx T) k) (rH S0 w0) fuel (listed.toArray.setIfInBounds q true) a w) a w:=by
  intro q o hst n0 H0 S0 w0 h0 g0 hσ hap hfree hlink H a w hs ha hq;obtain⟨hq',hgd,h⟩:=hst;unfold wpOp;have hi':ops.toArray[q]? =some o:=by simpa using hq'
  rw[hi'];simp only;have hw:=j_ (o:=o) ha.env hgd;rw[if_pos hw];refine .inl (h n0 H0 S0 w0 h0 g0 H a w _ _ (g0.mono hs.fr.le) hs ha (hlink H s w hs).sat λH' u g w' s' ρ' hle hi hs' ha' hd hra=>?_);rw[sN];exact⟨hs'.keeps,hra n0 H0 S0 w0 h0 g0 hσ hap hfree hlink H' (a.put o.dst u) w' hs' ha' (jH.Hp (H:=H) hq hle (λd hdd=>by rw[ha.size];exact hd d hdd) hi)⟩
 intro n0 H0 S0 w0 h0 g0 hσ hap hfree hlink H a w hs ha hq;refine wpAnyH_all hr aA (λq hq'=>?_);rcases aF.1 hq' with rfl|hq'
 ·exact one hi n0 H0 S0 w0 h0 g0 hσ hap hfree hlink H a w hs ha hq
 obtain rfl:=aH.1 hq';exact one hj n0 H0 S0 w0 h0 g0 hσ hap hfree hlink H a w hs ha hq
def iY.mem {ops:List Oper} {k:List It} {σs:Heap} {ρq:Env} {fuel:Nat} {listed:List Bool} {s:St} (i:Nat) {o:Oper} (hp:cx.pg.Ok) (hi:ops[i]? =some o) (hgd:mS ops s.ρ o.guard=true) (hpu:oG o.op=false)
  (h:ub cx false s o (λs'=>RA cx T ops k σs (oS ρq o.dst (match s'.ρ with| (_,g)::_=>g| []=>.v undef)) fuel (listed.set i true) s') (λ_=>False) s.ρ):iY cx T ops k σs ρq fuel listed s i o:=by
 refine⟨hi,hgd,λn0 H0 S0 w0 h0 g0 H a w K Q' hg hs ha _ hK=>?_⟩;have ha':kr ⟨cx.pg,cx.N,n0,H0,S0,w0,h0,g0⟩ H s.ρ a:=⟨ha.env,ha.size,ha.defers⟩;have h':ub ⟨cx.pg,cx.N,n0,H0,S0,w0,h0,g0⟩ false s o (λs'=>RA cx T ops k σs (oS ρq o.dst (match s'.ρ with| (_,g)::_=>g| []=>.v undef)) fuel (listed.set i true) s') (λ_=>False) s.ρ:=h;rcases HA (cx:=⟨cx.pg,cx.N,n0,H0,S0,w0,h0,g0⟩) hp hg hs ha' hpu h' with hl|⟨H',u,g,w',s0,hle,hrun,hi,hd,hsim⟩
 ·exact hl.elim
 refine rj hrun ?_;have hlt:=pc hd;cases hdst:o.dst with
 |none=>
  rw[hdst]at hd;have h1:=hK H' u g w' s0 s.ρ hle hi (hsim s.ρ) (by rw[hdst];exact ha.mono hle) hlt (by rw[hdst];exact hd);rw[hdst]at h1;exact h1
 |some d=>
  rw[hdst]at hd;simp only[iO,nc]at hd;have hdl:=hlt d hdst;have hb:Nat.blt d cx.N=true:=by rw[dx];exact hdl
  rw[hb]at hd;have hput:kr cx H' ((d,g)::s.ρ) (a.put (some d) u):=⟨(ha.mono hle).env.put (by rw[ha.size];exact hdl) hi,by simp[Act.put,ha.size],by simp[Act.put,ha.defers]⟩;have h1:=hK H' u g w' s0 ((d,g)::s.ρ) hle hi (hsim _) (by rw[hdst];exact hput) hlt (by rw[hdst];exact hd);rw[hdst]at h1;exact h1
def JK.pb {id:Nat} {ops:Array Oper} {k:List It} {s:St} (M:List Nat) (I:St) (hp:cx.pg.Ok) (hk:JK cx T k I)
  (h:JK cx T k I->RA cx T ops.toList k (jr M s.σ++mF (kM M s.σ)) s.ρ ops.toList.length (List.replicate ops.toList.length false) ⟨s.ρ,kM M s.σ,s.n⟩):JK cx T (.code (.region id ops true)::k) s:=
 JK.draw M hp (h hk)
def RA.kD{ops:List Oper}{k:List It}{σs:Heap}{ρq:Env}{fuel:Nat}{listed:List Bool}{s I:St}(f:Nat->Nat)(hr:vC (Region.ready .any ops.toArray listed.toArray) []=true)(hk:JK cx T k I)(hl:Le cx.n0 f I ⟨s.ρ,s.σ++σs,s.n⟩):RA cx T ops k σs ρq fuel listed s:=
 RA.done (iV hr) (JK.weaken f I hl hk)
def Va{α:Type}(cx:Cx)(T:jz)(k:List It)(I:α->St)(pre:α->Prop):jz:=λe s=>
 match e with
 | .normal=>∃(y:α) (f:Nat->Nat),Le cx.n0 f (I y) s/\pre y
 |e=>D1 cx T k e s
def JK.cut{α:Type}{c:Code}{k:List It}{s:St}(I:α->St)(pre:α->Prop)(hb:JK cx (Va cx T k I pre) [.code c] s)(hk:∀x,pre x->JK cx T k (I x)):JK cx T (.code c::k) s:=by
 intro H a w hg hs ha;have h1:=hb H a w hg hs ha;have hgx:∀{H':Hid},Hid.le cx.H0 H'->iX cx.pg H':=λhle=>cx.g0.mono hle;refine Code.wp_mono (λe a' w' hq=>?_) h1;obtain⟨H',s',hs',ha',hT⟩:=hq;cases e with
 |normal=>
  obtain⟨y,f,hl,hpy⟩:=hT;obtain⟨H2,hg2,hs2,ha2⟩:=GK.weaken (hgx hs'.fr.le) hs' ha' hl;exact hk y hpy H2 a' w' hg2 hs2 ha2
 |exit id=>exact l6 (hgx hs'.fr.le) hs' ha' hT
 |goto l=>exact l6 (hgx hs'.fr.le) hs' ha' hT
 |ret=>exact l6 (hgx hs'.fr.le) hs' ha' hT
 |panic ch=>exact l6 (hgx hs'.fr.le) hs' ha' hT
 |outgrown=>exact l6 (hgx hs'.fr.le) hs' ha' hT
end
def Sub(g' g:GV):Prop:=∀{H:Hid} {u:Value},Is H g u->Is H g' u
def Sub.rfl {g:GV}:Sub g g:=λh=>h
def Sub.nil(sz:Nat):Sub (.sl sz []) (.v (.slice none 0 0)):=λ{H u} h=>by
 rw[h.iH];exact .ro .slnil
def Sub.UZ{a a' b b':GV}(ha:Sub a' a)(hb:Sub b' b):Sub (.tup [a',b']) (.tup [a,b]):=λ{H u} h=>by
 obtain⟨us,rfl,hl,hi⟩:=h.uW;refine .tup hl λj g hj=>?_
 match j with
 |0=>simp at hj;subst hj;exact ha (hi 0 a _root_.rfl)
 |1=>simp at hj;subst hj;exact hb (hi 1 b _root_.rfl)
 |j+2=>simp at hj
def Hf.imp{p:Pg}{f:FuncId}{n0:Nat}{args:List GV}{σ:Heap}{Q Q':GV->Heap->Nat->Prop}(h:Hf p f n0 args σ Q)(hQ:∀g σ' n',Q g σ' n'->Q' g σ' n'):Hf p f n0 args σ Q':=
 ⟨h.call,λH us w a b c d=>(h.ct H us w a b c d).mono λ_ _ ⟨u,g,H',σ',e1,e2,e3,e4,hq⟩=>⟨u,g,H',σ',e1,e2,e3,e4,hQ _ _ _ hq⟩⟩
def Hf.sub{p:Pg}{f:FuncId}{n0:Nat}{args:List GV}{σ:Heap}{Q Q':GV->Heap->Nat->Prop}(h:Hf p f n0 args σ Q)(hQ:∀g σ' n',Q g σ' n'->∃g',Sub g' g/\Q' g' σ' n'):Hf p f n0 args σ Q':=by
 refine⟨h.call,λH us w hn hg hc hs=>(Calls.mono (h.ct H us w hn hg hc hs) (λe w' he=>?_))⟩;obtain⟨u,g,H',σ',rfl,hi,hs',hfr,hq⟩:=he;obtain⟨g',hs2,hq'⟩:=hQ g σ' _ hq;exact⟨u,g',H',σ',rfl,hs2 hi,hs',hfr,hq'⟩
def Rq.sub{p:Pg}{f:FuncId}{args:List GV}{Q Q':GV->Prop}(h:Rq p f args Q)(hQ:∀g,Q g->∃g',Sub g' g/\Q' g'/\iy 0 g'=true):Rq p f args Q':=
 ⟨h.call,λH us w hn hg hcs hs=>(h.ct H us w hn hg hcs hs).mono λ_ _ ⟨u,g,H',σ',e,hi,hs',hfr,hv,r⟩=>by
  obtain⟨g',hs2,hq',hid⟩:=hQ g hv.1;exact⟨u,g',H',σ',e,hs2 hi,hs',hfr,⟨hq',hid⟩,r⟩⟩
section
variable {cx:Cx}{T:jz}
def JK.sub{k:List It}{s:St}(t:Nat){g:GV}(g':GV)(hl:look s.ρ t=some g)(hg:Sub g' g)(h:JK cx T k ⟨(t,g')::s.ρ,s.σ,s.n⟩):JK cx T k s:=by
 exact JK.CL _ (λH a w hgl hs ha=>⟨H,hgl,hs.ρ _,⟨ha.env.cons (hg (ha.env t _ hl)),ha.size,ha.defers⟩⟩) h
end
section
variable {cx:Cx}{T:jz}
end
section
variable {p:Pg}
end
section
variable {p:Pg}{H:Hid}{w:World}
def KR {P:Program} (w:World) {t u ty e:TypeId} {i:TypeInfo} (ht:P.underlying t=some (.slice e)) (hu:P.underlying u=some .string) (hi:P.info? e=some i) (hz:i.zero=some (.int .u8 0)) (hsize:i.size=1) (hby:i.bytes=1)
  {v:Value} {n:Nat} {xs:List Value} (hown:w.ownsRow 0 e 1 v n xs) (s:ByteArray) (hb:n+s.size<=140737488355328):
  ∃v' w',(Builtin.append_ #[t,u] ty #[v,.string s]).run P w=.ok v' w'/\w'.ownsRow 0 e 1 v' (n+s.size) (xs++Lib.strCells s)/\w.grownBy w' v.ownBlock/\(v'.ownBlock=v.ownBlock\/v'.ownBlock=some w.heap.size):=by
 have hm:n+s.size<=maxLen:=by simp only[maxLen];omega
 obtain⟨v',w',hr,ho,hg,hn⟩:=Lib.run_append_own_string (P:=P) w 0 t u ty e i ht hu hi hz hsize hby v n xs hown s hm hb (aQ _);refine⟨v',w',hr,ho,hg,?_⟩;have hxl:xs.length=n:=by simpa using hown.1
 rcases hown.2 with ⟨rfl,rfl⟩|⟨g,cap,cur,rfl,_,hgc,hnc,_,hcs,_⟩
 ·by_cases hs:s.size=0
  ·rw[hn.2 ⟨rfl,hs⟩];exact .inl rfl
  have h2:=run_append_nil_string (P:=P) w t u ty e i (.int .u8 0) ht hu hi hz s az az (by rw[hby];omega);rw[hr]at h2;injection h2 with h3;rw[h3];exact .inr rfl
 by_cases hroom:n+s.size<=cap
 ·have hcs':cur.size=cap:=by simpa using hcs
  have h2:=Lib.run_append_room_string (P:=P) w t u ty e i ht hu hi hsize g n cap cur hgc s hroom az;rw[hr]at h2;injection h2 with h3;rw[h3];exact .inl rfl
 have h2:=Lib.run_append_grow_string (P:=P) w t u ty e i (.int .u8 0) ht hu hi hz ⟨g,0,none⟩ n cap xs (by rw[hsize];simpa using hxl) (hown.cells (g:=g) rfl) s az az (by rw[hby];exact growslice_fits az az);rw[hr]at h2;injection h2 with h3;rw[h3];exact .inr rfl
def iQ.AR {cx:Cx} {s:St} (hs:iQ cx H s w) {e sz:Nat} {ud u:Value} {rows news:List (List GV)} {σ':Heap} {xs ys:List Value} {w':World}
  (hown':w'.ownsRow 0 e sz u (rows.length+news.length) (xs++ys)) (hrow:kJ H.ro sz rows xs) (hyr:kJ H.ro sz news ys) (hin:∀b∈ud.ownBlock.toList,b∈g_ H s.σ) (hsub:∀x∈σ',x∈s.σ) (hnd:(g_ H σ').Nodup) (hout:∀b∈ud.ownBlock.toList,b∉g_ H σ')
  (hgr:w.grownBy w' ud.ownBlock) (hblk:u.ownBlock=ud.ownBlock\/u.ownBlock=some w.heap.size) (ρ:Env):
  ∃H',H.le H'/\Is H' (.o s.n) u/\iQ cx H' {ρ:=ρ,σ:=(s.n,.row e sz (rows++news))::σ',n:=s.n+1} w':=by
 have hsl:∃A' c',u=.slice A' (rows.length+news.length) c':=by
  rcases hown'.2 with ⟨rfl,hn⟩|⟨g,cap,cur,rfl,_⟩
  ·exact⟨none,0,by rw[hn]⟩
  exact⟨_,_,rfl⟩
 obtain⟨A',c',hue⟩:=hsl;have hle:=H.km w.heap.size u;have esv:(H.more w.heap.size u).sv s.n=u:=by simp[Hid.more,hs.n]
 have hn:s.n<(H.more w.heap.size u).n:=by simp[Hid.more,hs.n]
 have hlt:∀b∈g_ H s.σ,b<w.heap.size:=hs.sat.lt;have hblkin:∀b∈u.ownBlock.toList,b∈ud.ownBlock.toList\/b=w.heap.size:=λb hb=>by
  rcases hblk with h|h
  ·rw[h]at hb;exact .inl hb
  rw[h]at hb;simp at hb;exact .inr hb
 have hsubB:∀b∈g_ H σ',b∈g_ H s.σ:=λb hb=>by
  obtain⟨x,hx,hbx⟩:=aX.1 hb;exact aX.2 ⟨x,hsub x hx,hbx⟩
 have hbl:g_ (H.more w.heap.size u) σ'=g_ H σ':=nD hle (λx hx=>hs.sat.ids x (hsub x hx));have hkeep:∀b,b<w.heap.size->b∉ud.ownBlock.toList->w'.heap[b]? =w.heap[b]? :=λb h1 h2=>hgr.block b h1 (λe=>h2 (by rw[<-e];simp));have hblocks:blocks (H.more w.heap.size u) (s.n,hY.row e sz (rows++news))=u.ownBlock.toList:=by simp[blocks,esv]
 refine⟨H.more w.heap.size u,hle,?_,?_⟩
 ·rw[hue]at esv|-;exact .o hn esv rfl
 have hfr:=hs.fr;refine⟨by simp[Hid.more,hs.n],⟨λb o ho=>?_,λx hx=>?_,?_,λb hbm=>?_,λx hx=>?_⟩,?_⟩
 ·have h1:=hs.sat.ro b o ho;rw[hkeep b (aW.1 h1).1 (λhbx=>by have h2:=hs.sat.free b (hin b hbx);have h3:H.ro b=some o:=ho;rw[h2]at h3;cases h3)];exact h1
 ·rcases aF.1 hx with rfl|hx
  ·refine⟨xs++ys,?_,(hrow.append hyr).mono hle.ro⟩;rw[esv];simpa using hown'
  refine lu (w:=w) (λb hb=>?_) (nO hle (hs.sat.ids x (hsub x hx)) (hs.sat.holds x (hsub x hx)));rw[pF hle (hs.sat.ids x (hsub x hx))]at hb;have hbm:b∈g_ H σ':=aX.2 ⟨x,hx,hb⟩;exact hkeep b (hlt b (hsubB b hbm)) (λhc=>hout b hc hbm)
 ·rw[iD,hbl,hblocks];refine a8.2 ⟨by cases u.ownBlock<;>simp,hnd,λb hb c hc e=>?_⟩;subst e;rcases hblkin b hb with h|h
  ·exact hout b h hc
  have:=hlt b (hsubB b hc);omega
 ·show H.ro b=none;rw[iD,hbl,hblocks]at hbm;rcases aE.1 hbm with h|h
  ·rcases hblkin b h with h|h
   ·exact hs.sat.free b (hin b h)
   exact hs.sat.rW b az
  exact hs.sat.free b (hsubB b h)
 ·rcases aF.1 hx with rfl|hx
  ·exact hn
  exact a_ (hs.sat.ids x (hsub x hx)) hle.n
 refine⟨hgr.os.trans hfr.os,hgr.tape.trans hfr.tape,hgr.output.trans hfr.output,bE hfr.size hgr.size,λb h1 h2=>?_,λb hbm=>?_,hfr.fro,hfr.le.trans hle⟩
 ·rw[hkeep b (a_ h1 hfr.size) (λhbx=>?_)]
  ·exact hfr.keep b h1 h2
  rcases hfr.own b (hin b hbx) with h|h
  ·exact h2 h
  omega
 simp only at hbm;rw[iD,hbl,hblocks]at hbm;rcases aE.1 hbm with h|h
 ·rcases hblkin b h with h|h
  ·exact hfr.own b (hin b h)
  exact .inr (by have:=hfr.size;omega)
 exact hfr.own b (hsubB b h)
def SY(ro:Nat->Option Obj)(s:ByteArray):kJ ro 1 (s.data.toList.map jX) (Lib.strCells s):=by
 refine⟨by simp[Lib.strCells],λrow hr=>?_,λi row hr j g hj=>?_,Lib.strCells_oneCell s⟩
 ·obtain⟨b,_,rfl⟩:=ba.1 hr;rfl
 rw[bg]at hr;obtain⟨b,hb,rfl⟩:=cu.1 hr;cases j with
 |zero=>
  simp[jX]at hj;subst hj;exact⟨.int .u8 b.toNat,by simp only[Lib.strCells,cX,b8,bg,hb];rfl,.v _⟩
 |succ j=>simp[jX]at hj
end
section
variable {cx:Cx}{T:jz}
def JK.Mc {all:List Oper} {o:Oper} {rest:List Oper} {k:List It} {s:St} {sl x:Operand} {t u e:TypeId} {ti tie:TI} {gd:GV} {str:ByteArray} {rows:List (List GV)} {σ':Heap} (hp:cx.pg.Ok)
  (ho:o.op=.call {callee:=.builtin .append,args:=#[sl,x],argTypes:=#[t,u]}) (hgd:mS all s.ρ o.guard=true)
  (ht:jv cx.pg.tt t=some ti) (htd:ti.d=.slice e) (hu:cx.pg.P.underlying u=some .string) (hte:jv cx.pg.tt e=some tie) (hsz:tie.sz=1) (hbt:tie.by_=1) (hzo:(cx.pg.P.info? e).bind (·.zero)=some (.int .u8 0))
  (hl:ev cx.pg s.ρ sl=some gd) (hx:ev cx.pg s.ρ x=some (.v (.string str))) (hdr:xq s.σ e 1 gd=some (rows,σ')) (hb:rows.length+str.size<=140737488355328)
  (h:kW (s.n+1) λm=>kG σ' λσ'=>iO cx.N s.ρ o.dst (.o s.n) λρ'=>JK cx T (.ops false all rest::k) ⟨ρ',(s.n,.row e 1 (rows++str.data.toList.map jX))::σ',m⟩):JK cx T (.ops false all (o::rest)::k) s:=by
 rw[j9,jy]at h;intro H a w hg hs ha;have hw:=j_ (o:=o) ha.env hgd;have hut:cx.pg.P.underlying t=some (.slice e):=by have:=(hp.tt _ _ ht).d;rw[htd]at this;exact this
 obtain⟨i,z,hi,hisz,hiby,_,_,_⟩:=(hp.tt _ _ hte).info;have hxv:=(iE hg ha.env hx).iH;have hlv:=iE hg ha.env hl;obtain⟨xs,hown,hrow,hin,hsub,hnd,hout⟩:=zF hs.sat hlv hdr;have hz8:i.zero=some (.int .u8 0):=by
  rw[hi]at hzo;exact hzo
 obtain⟨v',w',hr,hown',hgr,hblk⟩:=KR (P:=cx.pg.P) (ty:=o.type) w hut hu hi hz8 (hisz.trans hsz) (hiby.trans hbt) hown str hb;have hln:(str.data.toList.map jX).length=str.size:=by rw[aD];rfl
 obtain⟨H',hle,hiu,hsim⟩:=hs.AR (news:=str.data.toList.map jX) (by rw[hln];exact hown') hrow (SY _ str) hin hsub hnd hout hgr hblk s.ρ;have hrun:(execOp a.eval o).run cx.pg.P w=.ok (.value v') w':=by
  obtain⟨q,hq⟩:=nh (p:=cx.pg) (a:=a) rfl o ho w;rw[hq];simp[builtin,hxv,hr]
 obtain⟨ρ',ha',hJ⟩:=(ha.mono hle).iO (u:=v') hiu h;exact lC hw hrun (hJ _ (a.put o.dst _) w' (hg.mono hle) (hsim.ρ ρ') ha')
end
end Go.GK
namespace Go.GK
open Go Go.RowKit IntKind
mutual
def r_(n:Nat):∀{g:GV},iy 0 g=true->iy n g=true
 | .v _,_| .b _,_| .r _,_| .sl _ _,_=>rfl
 | .p _ _,h| .e _ _ _ _,h| .o _,h=>by simp[iy]at h
 | .agg cs,h=>by simp only[iy]at h|-;exact td n cs h
 | .tup cs,h=>by simp only[iy]at h|-;exact td n cs h
 | .fn g ks cs,h=>by simp only[iy,aG]at h|-;exact⟨td n ks h.1,td n cs h.2⟩
 | .ifc t x,h=>by simp only[iy]at h|-;exact r_ n h
def td(n:Nat):∀(l:List GV),im 0 l=true->im n l=true
 | [],_=>rfl
 |g::r,h=>by simp only[im,aG]at h|-;exact⟨r_ n h.1,td n r h.2⟩
end
def Pb{α:Type}(A z:List α)(p r:Nat)(hp:p+z.length<=r)(hr:r<=A.length):(A.take p++z++A.drop (p+z.length)).take r=(A.take r).take p++z++(A.take r).drop (p+z.length):=by
 apply cT;intro q;rw[bD];by_cases hq:q<r
 ·rw[if_pos hq];by_cases h1:q<p
  ·rw[aS,bc aq,aS,bc aq];rw[bD,bD,bD,if_pos h1,if_pos h1,if_pos hq]
  by_cases h2:q<p+z.length
  ·rw[bc aq,aU aq];rw[bc aq,aU aq]
   congr 1
   simp;omega
  rw[aU aq,aU aq];rw[bo,bo,bD,if_pos aq]
  congr 1
  simp;omega
 rw[if_neg hq]
 symm
 apply bI;simp;omega
section
variable {p:Pg}{H:Hid}{w:World}
def kJ.k_(ro:Nat->Option Obj)(sz n:Nat)(us:List Value)(hl:us.length=n*sz)(h1:∀u∈us,u.oneCell'=true):∃zs:List (List GV),zs.length=n/\kJ ro sz zs us:=by
 refine⟨(List.range n).map λi=>(List.range sz).map λj=>.v (us.getD (i*sz+j) undef),by simp,by simp[hl],λrow hr=>?_,λi row hr j g hj=>?_,h1⟩
 ·obtain⟨i,_,rfl⟩:=ba.1 hr;simp
 rw[bg]at hr;obtain⟨i',hi,rfl⟩:=cu.1 hr;have hi1:=(aO.1 hi);obtain⟨hi2,hi3⟩:=hi1;simp at hi2 hi3;subst hi3;rw[bg]at hj;obtain⟨j',hj',rfl⟩:=cu.1 hj;obtain⟨hj2,hj3⟩:=aO.1 hj';simp at hj2 hj3;subst hj3;have hlt:i*sz+j<us.length:=by
  rw[hl];have:=bH sz (show i+1<=n by omega);rw[cg]at this;omega
 exact⟨us.getD (i*sz+j) undef,by simp[hlt],.v _⟩
def kJ.take{ro:Nat->Option Obj}{sz:Nat}{rows:List (List GV)}{xs:List Value}(h:kJ ro sz rows xs)(m:Nat):kJ ro sz (rows.take m) (xs.take (m*sz)):=by
 refine⟨?_,λrow hr=>h.each row (b9 hr),λi row hr j g hj=>?_,λu hu=>h.one u (b9 hu)⟩
 ·rw[aY,aY,h.len];by_cases hm:m<=rows.length
  ·have:=bH sz hm;rw[cq hm,cq this]
  have:=bH sz (show rows.length<=m by omega);rw[fF (show rows.length<=m by omega),fF this]
 rw[bD]at hr;split at hr
 ·rename_i hi
  obtain⟨u,hu,his⟩:=h.is i row hr j g hj;refine⟨u,?_,his⟩;have hj':j<sz:=by rw[<-h.each row (bp hr)];exact (aO.1 hj).1
  have:=bH sz (show i+1<=m by omega);rw[cg]at this;rw[bD,if_pos az];exact hu
 cases hr
def kJ.drop{ro:Nat->Option Obj}{sz:Nat}{rows:List (List GV)}{xs:List Value}(h:kJ ro sz rows xs)(m:Nat):kJ ro sz (rows.drop m) (xs.drop (m*sz)):=by
 refine⟨?_,λrow hr=>h.each row (cF hr),λi row hr j g hj=>?_,λu hu=>h.one u (cF hu)⟩
 ·rw[bw,bw,h.len,fS]
 rw[bo]at hr;obtain⟨u,hu,his⟩:=h.is (m+i) row hr j g hj;refine⟨u,?_,his⟩;rw[bo,<-hu]
 congr 1
 rw[cg];omega
end
section
variable {cx:Cx}{T:jz}
def JK.Pd {all:List Oper} {o:Oper} {rest:List Oper} {k:List It} {s:St} {x:Operand} {t e:TypeId} {ti tie:TI} {m id ty sz lo n:Nat} {rows:List (List GV)} (hp:cx.pg.Ok)
  (ho:o.op=.call {callee:=.builtin .clear,args:=#[x],argTypes:=#[t]}) (hgd:mS all s.ρ o.guard=true) (ht:jv cx.pg.tt t=some ti) (htd:ti.d=.slice e) (hte:jv cx.pg.tt e=some tie) (hsz:tie.sz=sz) (hone:tie.zero.all (·.oneCell')=true)
  (hx:ev cx.pg s.ρ x=some (.o m)) (hm:gW s.σ m=some (.sub id sz lo n)) (hl:gW s.σ id=some (.row ty sz rows)) (hln:lo+n<=rows.length)
  (hk:∀zs:List (List GV),zs.length=n->iO cx.N s.ρ o.dst (.v (.tuple #[])) λρ'=>kG (jh s.σ id (.row ty sz (rows.take lo++zs++rows.drop (lo+n)))) λσ'=>JK cx T (.ops false all rest::k) ⟨ρ',σ',s.n⟩):JK cx T (.ops false all (o::rest)::k) s:=by
 intro H a w hg hs ha;have hw:=j_ (o:=o) ha.env hgd;have hu:cx.pg.P.underlying t=some (.slice e):=by have:=(hp.tt _ _ ht).d;rw[htd]at this;exact this
 obtain⟨i,z,hi,hisz,hiby,hiz,hzc,hzl⟩:=(hp.tt _ _ hte).info;have hzsz:z.cells.size=sz:=by rw[<-bu,hzc,hzl,hsz]
 have hzone:∀v∈z.cells.toList,v.oneCell'=true:=by rw[hzc];exact cW.1 hone
 obtain⟨hv,hmid⟩:=(iE hg ha.env hx).mh;obtain⟨hid,A,c,hsv,hnc,hcm,hAn,hA⟩:=hs.sat.holds _ (ib hm);obtain⟨xs,hown,hrow⟩:=hs.sat.holds _ (ib hl);have hev:a.eval x=.slice A n c:=hv.trans hsv;have key:∃(zs:List (List GV)) (w':World),zs.length=n/\(Builtin.clear_ #[t] o.type #[.slice A n c]).run cx.pg.P w=.ok (.tuple #[]) w'/\w'.os=w.os/\w'.tape=w.tape/\w'.output=w.output/\w.heap.size<=w'.heap.size/\(∀b,b<w.heap.size->b∉blocks H (id,.row ty sz rows)->w'.heap[b]? =w.heap[b]?)/\
   GK.holds H w' (id,.row ty sz (rows.take lo++zs++rows.drop (lo+n))):=by
  by_cases hn:n=0
  ·subst hn;refine⟨[],w,rfl,?_,rfl,rfl,rfl,aL _,λ_ _ _=>rfl,?_⟩
   ·simp only[Builtin.clear_];cases A<;>simp[ik hu]
   simp only[aZ,b8,cj];exact⟨xs,hown,hrow⟩
  obtain⟨g,l',c',hsi,hll,rfl⟩:=hA az;rcases hown.2 with ⟨he,_⟩|⟨g',cap,cur,he,_,hgc,hlc,hcap,hcur,htk⟩
  ·rw[hsi]at he;cases he
  rw[hsi]at he;injection he with e1 e2 e3;injection e1 with e1;injection e1 with e1 _ _;subst e1;subst e2;subst e3;have hsi':=hsi;have hmul:(lo+n)*sz<=c'*sz:=bH sz az;rw[cg]at hmul
  let zc:=(Builtin.zeroCells z.cells n).toList
  have hzcl:zc.length=n*sz:=by simp[zc,Builtin.zeroCells,hzsz]
  have hzco:∀v∈zc,v.oneCell'=true:=by
   intro v hv;simp only[zc,Builtin.zeroCells,Array.toList_map,ba]at hv;obtain⟨q,hq,rfl⟩:=hv;have hq':q<n*z.cells.size:=by simpa using hq
   have hpos:0<z.cells.size:=by
    rcases Nat.eq_zero_or_pos z.cells.size with h0|h0
    ·rw[h0]at hq';omega
    exact h0
   have hlt:=eK q hpos;rw[getElem!_pos z.cells _ hlt];exact hzone _ aA
  have hst:=run_storeCells_at (P:=cx.pg.P) g (lo*sz) ty zc 0 cur w hgc (by rw[hzcl,hcur];omega) hzco;simp only[b8]at hst;obtain⟨zs,hzs,hzr⟩:=kJ.k_ H.ro sz n zc hzcl hzco;have hheap:∀(arr:Array Value),(w.setRow g arr).heap[g]? =some (.cells arr ty (0,0)):=λarr=>setRow_heap w g cur arr ty _ hgc;refine⟨zs,w.setRow g (cur.toList.take (lo*sz)++zc++cur.toList.drop (lo*sz+zc.length)).toArray,hzs,?_,?_,?_,?_,?_,?_,?_⟩
  ·obtain⟨n',rfl⟩:∃n',n=n'+1:=⟨n-1,az⟩;have hzv:∀w,(zeroValue e).run cx.pg.P w=.ok z w:=λw=>by simp[zeroValue,tQ hi,hiz]
   simp[Builtin.clear_,ik hu,hzv];simp[zc]at hst;simp[hst,zc]
  ·rfl
  ·rfl
  ·rfl
  ·simp
  ·intro b hb hnb;refine setRow_other w g b _ λe=>hnb ?_;subst e;simp[blocks,hsi,Value.ownBlock]
  have hR:=((hrow.take lo).append hzr).append (hrow.drop (lo+n));refine⟨xs.take (lo*sz)++zc++xs.drop ((lo+n)*sz),?_,hR⟩;have hlen:(rows.take lo++zs++rows.drop (lo+n)).length=rows.length:=by simp[hzs];omega
  rw[hlen];have hxl:xs.length=rows.length*sz:=by simpa using hown.1
  have hm2:(lo+n)*sz<=rows.length*sz:=bH sz hln;have hm3:(lo+n)*sz=lo*sz+n*sz:=cg _ _ _;refine⟨?_,.inr ⟨g,c',_,hsi,aQ _,hheap _,hlc,hcap,?_,?_⟩⟩
  ·rw[aI,aI,aY,bw,hxl,hzcl,cq az];omega
  ·rw[cr,aI,aI,aY,bw,bu,hzcl,hcur,cq az];omega
  have hm4:rows.length*sz<=c'*sz:=bH sz hlc;have hcl:cur.toList.length=c'*sz:=by simpa using hcur
  have:=Pb cur.toList zc (lo*sz) (rows.length*sz) (by rw[hzcl];omega) (by rw[hcl];omega);rw[htk,hzcl]at this;rw[hzcl,hm3];exact this
 obtain⟨zs,w',hzs,hr,hos,htape,hout,hsize,hkeep,hh⟩:=key;have hrun:(execOp a.eval o).run cx.pg.P w=.ok (.value (.tuple #[])) w':=by
  obtain⟨q,hq⟩:=nh (p:=cx.pg) (a:=a) rfl o ho w;rw[hq];simp[builtin,hev,hr]
 have hd:=hk zs hzs;obtain⟨ρ',ha',hJ⟩:=ha.iO (u:=.tuple #[]) (.ro (.v _)) hd;rw[jy]at hJ;exact lC hw hrun (hJ _ (a.put o.dst _) w' hg (hs.put (y:=.row ty sz (rows.take lo++zs++rows.drop (lo+n))) hl rfl hos htape hout hsize hkeep hh ρ') ha')
def JK.Ov {all:List Oper} {o:Oper} {rest:List Oper} {k:List It} {s:St} {t e:TypeId} {x:Operand} {lo hi:Option Operand} {id ty sz:Nat} {rows:List (List GV)} (hp:cx.pg.Ok) (ho:o.op=.slice t x lo hi none) (hgd:mS all s.ρ o.guard=true)
  {ti tie:TI} (ht:jv cx.pg.tt t=some ti) (htd:ti.d=.slice e) (hte:jv cx.pg.tt e=some tie) (hsz:tie.sz=sz) (hx:ev cx.pg s.ρ x=some (.o id)) (hl:gW s.σ id=some (.row ty sz rows)) {h:Int} (hlo:vo cx.pg s.ρ 0 lo=some 0) (hhi:vo cx.pg s.ρ rows.length hi=some h)
  (h1:0<=h) (h2:h<=rows.length)
  (hk:kW (s.n+1) λm=>kG (jQ s.σ id) λσ'=>iO cx.N s.ρ o.dst (.o s.n) λρ'=>JK cx T (.ops false all rest::k) ⟨ρ',(s.n,.row ty sz (rows.take h.toNat))::σ',m⟩):JK cx T (.ops false all (o::rest)::k) s:=by
 rw[j9,jy]at hk;intro H a w hg hs ha;have hw:=j_ (o:=o) ha.env hgd;have hu:cx.pg.P.underlying t=some (.slice e):=by have:=(hp.tt _ _ ht).d;rw[htd]at this;exact this
 have hes:=(hp.tt _ _ hte).size;obtain⟨hv,hid⟩:=(iE hg ha.env hx).mh;obtain⟨xs,hown,hrow⟩:=hs.sat.holds _ (ib hl);have hA:∃A c,H.sv id=.slice A rows.length c/\rows.length<=c/\c<=maxLen/\w.ownsRow 0 ty sz (.slice A h.toNat c) h.toNat (xs.take (h.toNat*sz)):=by
  have hxl:xs.length=rows.length*sz:=by simpa using hown.1
  have hm:=bH sz (show h.toNat<=rows.length by omega);rcases hown.2 with ⟨he,hn⟩|⟨g,cap,cur,he,h0,hgc,hc,hm',hcs,htk⟩
  ·refine⟨none,0,by rw[he,hn],by omega,by simp[maxLen],?_⟩;have hz:h.toNat=0:=by omega
   rw[hz];exact⟨by simp,.inl ⟨rfl,rfl⟩⟩
  refine⟨_,cap,he,hc,hm',by rw[aY,hxl];omega,.inr ⟨g,cap,cur,rfl,h0,hgc,by omega,hm',hcs,?_⟩⟩;rw[<-htk,fh,cq hm]
 obtain⟨A,c,hsv,hc,hm,hown'⟩:=hA;have hadd:∀a:Addr,a.add 0=a:=λa=>by simp[Addr.add]
 have hrun:(execOp a.eval o).run cx.pg.P w=.ok (.value (.slice A h.toNat c)) w:=by
  have hb:=qI (p:=cx.pg) (isS:=true) hg ha.env hlo hhi (bY 0) h1 h2 hc w;simp only[execOp,ho,Instr.sliceAt,Sem.run_bind,ik hu,Result.andThen_ok,Instr.slice,hv,hsv,dG,hb,hes,hsz];cases A<;>simp[hadd]
 obtain⟨l1,l2,e1,e2,_⟩:=kU hl;have hnd:=hs.sat.nodup;rw[e1,il,iD]at hnd;have n1:=a8.1 hnd;have n2:=a8.1 n1.2.1;have hob:∀b∈(H.sv id).ownBlock.toList,b∈g_ H s.σ:=λb hb=>by
  rw[e1,il,iD];simp[blocks,hb]
 obtain⟨H',hle,hiu,hsim⟩:=hs.AR (e:=ty) (sz:=sz) (ud:=H.sv id) (u:=.slice A h.toNat c) (rows:=rows.take h.toNat) (news:=[]) (xs:=xs.take (h.toNat*sz)) (ys:=[]) (σ':=jQ s.σ id) (w':=w)
  (by
    have hz:(rows.take h.toNat).length+([]:List (List GV)).length=h.toNat:=by simp;omega
    rw[hz,aZ];exact hown') (hrow.take _) .nil hob
  (λx hx=>by rw[e2]at hx;rw[e1];rcases aE.1 hx with h1|h1<;>simp[h1])
  (by rw[e2,il];exact a8.2 ⟨n1.1,n2.2.1,λb hb c hc e=>n1.2.2 b hb c (by simp[hc]) e⟩)
  (λb hb hc=>by
   have hb':b∈blocks H (id,hY.row ty sz rows):=by simpa[blocks]using hb
   rw[e2,il]at hc;rcases aE.1 hc with h1|h1
   ·exact n1.2.2 b h1 b (by simp[hb']) rfl
   exact n2.2.2 b hb' b h1 rfl)
  ⟨rfl,rfl,rfl,aL _,λ_ _ _=>rfl⟩ (.inl (by rw[hsv];cases A<;>rfl)) s.ρ
 rw[aZ]at hsim;obtain⟨ρ',ha',hJ⟩:=(ha.mono hle).iO (u:=.slice A h.toNat c) hiu hk;exact lC hw hrun (hJ _ (a.put o.dst _) w (hg.mono hle) (hsim.ρ ρ') ha')
def JK.FC {all:List Oper} {o:Oper} {rest:List Oper} {k:List It} {s:St} {t e t':TypeId} {x:Operand} {ti:TI} {sz:Nat} {rows:List (List GV)} (hp:cx.pg.Ok) (ho:o.op=.binOp .eql t x (.const (.slice none 0 0)) t') (hgd:mS all s.ρ o.guard=true)
  (ht:jv cx.pg.tt t=some ti) (htd:ti.d=.slice e) (hx:ev cx.pg s.ρ x=some (.sl sz rows))
  (hk1:rows=[]->iO cx.N s.ρ o.dst (.v (.bool true)) λρ'=>JK cx T (.ops false all rest::k) ⟨ρ',s.σ,s.n⟩)
  (hk2:iO cx.N s.ρ o.dst (.v (.bool false)) λρ'=>JK cx T (.ops false all rest::k) ⟨ρ',s.σ,s.n⟩):JK cx T (.ops false all (o::rest)::k) s:=by
 intro H a w hg hs ha;have hw:=j_ (o:=o) ha.env hgd;have hu:cx.pg.P.underlying t=some (.slice e):=by have:=(hp.tt _ _ ht).d;rw[htd]at this;exact this
 obtain⟨A,c,us,hv,hc,hm,he,hne⟩:=(iE hg ha.env hx).ny.ny;have hrun:(execOp a.eval o).run cx.pg.P w=.ok (.value (.bool A.isNone)) w:=by
  have:=Lib.run_eql_slice_nil (P:=cx.pg.P) w t e A rows.length c 0 0 hu;have hgd:(eqGuard .eql t x (.const (.slice none 0 0)) (.slice A rows.length c) (.slice none 0 0)).run cx.pg.P w=.ok () w:=by simp[eqGuard]
  have hc:a.eval (.const (.slice none 0 0))=.slice none 0 0:=rfl;simp only[execOp,ho,hv,hc,Sem.run_bind,hgd,Result.andThen_ok,this];rfl
 cases A with
 |none=>
  have hr:rows=[]:=by
   by_cases h:rows=[]
   ·exact h
   obtain⟨ad,h1,_⟩:=hne h;cases h1
  obtain⟨ρ',ha',hJ⟩:=ha.iO (u:=.bool true) (.ro (.v _)) (hk1 hr);exact lC hw hrun (hJ _ (a.put o.dst _) w hg (hs.ρ ρ') ha')
 |some ad=>
  obtain⟨ρ',ha',hJ⟩:=ha.iO (u:=.bool false) (.ro (.v _)) hk2;exact lC hw hrun (hJ _ (a.put o.dst _) w hg (hs.ρ ρ') ha')
end
def Hf.q9 {p:Pg} {f:FuncId} {fn:Func} {c:Code} {n0 N:Nat} {args:List GV} {σ:Heap} {Q:GV->Heap->Nat->Prop} (hp:p.Ok) (hf:p.P.funcs[f]? =some fn) (hb:fn.body=some c) (hN:fn.ntmps=N) (hl:Nat.ble args.length N=true) {rs:Array ResultVar} (hr:fn.results=rs)
  (hc:∀ar w,(callFunc f ar).run p.P w=.ok (.enter f ar) w)
  (h:∀(H0:Hid) (S0:List Nat) (w0:World) (h0:H0.n=n0) (g0:iX p H0),JK ⟨p,N,n0,H0,S0,w0,h0,g0⟩ (DC p rs.toList Q) [.code c] ⟨qp 0 args,σ,n0⟩):Hf p f n0 args σ Q:=
 ⟨hc,Ct.j7 hp hf hb hN hl hr h⟩
def Rt.q9 {p:Pg} {f:FuncId} {fn:Func} {c:Code} {N:Nat} {args:List GV} {G:GV} (hp:p.Ok) (hf:p.P.funcs[f]? =some fn) (hb:fn.body=some c) (hN:fn.ntmps=N) (hl:Nat.ble args.length N=true) {rs:Array ResultVar} (hr:fn.results=rs)
  (hc:∀ar w,(callFunc f ar).run p.P w=.ok (.enter f ar) w)
  (h:∀(H0:Hid) (S0:List Nat) (w0:World) (h0:H0.n=0) (g0:iX p H0),JK ⟨p,N,0,H0,S0,w0,h0,g0⟩ (DC p rs.toList λg _ _=>lL G g/\iy 0 g=true) [.code c] ⟨qp 0 args,[],0⟩):Rt p f args G:=by
 have hq:Rq p f args (lL G):=⟨hc,Ct.jK (Ct.j7 hp hf hb hN hl hr h) λg σ' n' hq=>⟨id,g,[],0,⟨hq,rfl,rfl⟩,(mR g).symm,trivial,by simp[hq.2,iL,iv,iu,jf]⟩⟩;refine⟨hc,λH us w hn hg hcs hs=>((hq.ct H us w hn hg hcs hs).mono ?_)⟩;rintro e w' ⟨u,g,H',σ',rfl,hi,hs',hfr,hq,h1,h2⟩;exact⟨u,G,H',σ',rfl,zt hq.1 hi,hs',hfr,⟨rfl,DZ hq.1 hq.2⟩,h1,h2⟩
def U2(g' g:GV):Prop:=∀{ro:Nat->Option Obj} {u:Value},jM ro g u->jM ro g' u
inductive nv:List GV->List GV->Prop
 |nil:nv [] []
 |cons {x y:GV} {xs ys:List GV} (h:U2 x y) (t:nv xs ys):nv (x::xs) (y::ys)
end Go.GK
namespace Go.GK
open Go Go.RowKit IntKind
def qs(g:Nat)(t:TypeId):∀(vs:List Value) (o:Nat) (cur:Array Value) (w:World),w.heap[g]? =some (.cells cur t (0,0))->o+vs.length<=cur.size->
  w.setCells g o vs=w.setRow g (cur.toList.take o++vs++cur.toList.drop (o+vs.length)).toArray
 | [],o,cur,w,hg,_=>by
  simp only[World.setCells,aZ,aM,b8,cj,Array.toArray_toList];exact (setRow_self w g cur t (0,0) hg).symm
 |v::r,o,cur,w,hg,hl=>by
  simp only[aB]at hl;rw[World.setCells,setCell_eq_setRow w g o cur t (0,0) v hg,qs g t r (o+1) (cur.setIfInBounds o v) (w.setRow g (cur.setIfInBounds o v)) (setRow_heap w g cur _ t _ hg) aq,setRow_setRow];have e:=list_seg_step cur.toList o v r aq;simp only[eT];rw[e];rfl
section
variable {cx:Cx}{T:jz}
end
end Go.GK
namespace Go.GK
open Go Go.RowKit IntKind
mutual
def Gd(id sz:Nat)(rows:List (List GV)):∀{g:GV},iy 0 g=true->lJ id sz rows g=g
 | .v _,_| .b _,_| .r _,_| .sl _ _,_=>rfl
 | .p _ _,h| .e _ _ _ _,h| .o _,h=>by simp[iy]at h
 | .agg cs,h=>by simp only[iy]at h;simp only[lJ,rS id sz rows cs h]
 | .tup cs,h=>by simp only[iy]at h;simp only[lJ,rS id sz rows cs h]
 | .fn g ks cs,h=>by simp only[iy,aG]at h;simp only[lJ,rS id sz rows ks h.1,rS id sz rows cs h.2]
 | .ifc t x,h=>by simp only[iy]at h;simp only[lJ,Gd id sz rows h]
def rS(id sz:Nat)(rows:List (List GV)):∀(l:List GV),im 0 l=true->pd id sz rows l=l
 | [],_=>rfl
 |g::r,h=>by simp only[im,aG]at h;simp only[pd,Gd id sz rows h.1,rS id sz rows r h.2]
end
section
variable {cx:Cx}{T:jz}
end
end Go.GK
namespace Go.GK
open Go Go.RowKit IntKind
section
variable {cx:Cx}{T:jz}
def JK.Ck {all:List Oper} {o:Oper} {rest:List Oper} {k:List It} {s:St} {x:Operand} {t e:TypeId} {ti:TI} (hp:cx.pg.Ok) (ho:o.op=.call {callee:=.builtin .cap,args:=#[x],argTypes:=#[t]}) (hgd:mS all s.ρ o.guard=true)
  (ht:jv cx.pg.tt t=some ti) (htd:ti.d=.slice e) (hx:ev cx.pg s.ρ x=some (.v (.slice none 0 0)))
  (h:iO cx.N s.ρ o.dst (.v (.int .i64 0)) λρ'=>JK cx T (.ops false all rest::k) ⟨ρ',s.σ,s.n⟩):JK cx T (.ops false all (o::rest)::k) s:=by
 intro H a w hg hs ha;have hw:=j_ (o:=o) ha.env hgd;have hu:cx.pg.P.underlying t=some (.slice e):=by have:=(hp.tt _ _ ht).d;rw[htd]at this;exact this
 have hxv:=(iE hg ha.env hx).iH;have hrun:(execOp a.eval o).run cx.pg.P w=.ok (.value (.int .i64 0)) w:=by
  obtain⟨q,hq⟩:=nh (p:=cx.pg) (a:=a) rfl o ho w;rw[hq];simp[builtin,hxv,Builtin.cap_,ik hu,goInt]
 obtain⟨ρ',ha',hJ⟩:=ha.iO (u:=.int .i64 0) (.ro (.v _)) h;exact lC hw hrun (hJ _ (a.put o.dst _) w hg (hs.ρ ρ') ha')
def JK.IF {all:List Oper} {o:Oper} {rest:List Oper} {k:List It} {s:St} {x y:Operand} {t tn e:TypeId} {ti tie:TI} {kn kq:IntKind} {n sz:Nat} (hp:cx.pg.Ok) (ho:o.op=.call {callee:=.builtin .append,args:=#[x,y],argTypes:=#[t,tn]}) (hgd:mS all s.ρ o.guard=true)
  (ht:jv cx.pg.tt t=some ti) (htd:ti.d=.slice e) (htn:cx.pg.P.underlying tn=some (.int kn)) (hte:jv cx.pg.tt e=some tie) (hsz:tie.sz=sz) (h0:0<sz) (hone:tie.zero.all (·.oneCell')=true)
  (hx:ev cx.pg s.ρ x=some (.v (.slice none 0 0))) (hy:ev cx.pg s.ρ y=some (.v (.int kq (n:Int)))) (hn:0<n) (hb:n*tie.by_<=140737488355328) (hm:n<=140737488355328)
  (h:∀zs:List (List GV),zs.length=n->kW (s.n+1) λm=>iO cx.N s.ρ o.dst (.o s.n) λρ'=>JK cx T (.ops false all rest::k) ⟨ρ',(s.n,.row e sz zs)::s.σ,m⟩):JK cx T (.ops false all (o::rest)::k) s:=by
 intro H a w hg hs ha;have hw:=j_ (o:=o) ha.env hgd;have hu:cx.pg.P.underlying t=some (.slice e):=by have:=(hp.tt _ _ ht).d;rw[htd]at this;exact this
 obtain⟨i,z,hi,hisz,hiby,hiz,hzc,hzl⟩:=(hp.tt _ _ hte).info;have hzsz:z.cells.size=sz:=by rw[<-bu,hzc,hzl,hsz]
 have hzone:∀v∈z.cells.toList,v.oneCell'=true:=by rw[hzc];exact cW.1 hone
 have hxv:=(iE hg ha.env hx).iH;have hyv:=(iE hg ha.env hy).iH;have hr:=Lib.run_append_grow_zeros (P:=cx.pg.P) w t tn o.type e i z kq kn hu htn hi hiz none 0 0 [] (run_firstCells_none w.drew i.size 0 0 0) n hn (by rw[hisz,hsz];exact h0) az az (by rw[hiby];omega) (by rw[hiby,cy];exact growslice_fits az hb);rw[cy]at hr;have hge:=grownCap_ge w n 0 e;have hgm:grownCap w n 0 e<=maxLen:=grownCap_le_maxLen w n 0 e (by unfold maxLen;omega)
 let zc:=(Builtin.zeroCells z.cells n).toList
 have hzcl:zc.length=n*sz:=by simp[zc,Builtin.zeroCells,hzsz]
 have hzco:∀v∈zc,v.oneCell'=true:=by
  intro v hv;simp only[zc,Builtin.zeroCells,Array.toList_map,ba]at hv;obtain⟨q,hq,rfl⟩:=hv;have hq':q<n*z.cells.size:=by simpa using hq
  have hpos:0<z.cells.size:=az
  have hlt:=eK q hpos;rw[getElem!_pos z.cells _ hlt];exact hzone _ aA
 obtain⟨zs,hzs,hzr⟩:=kJ.k_ H.ro sz n zc hzcl hzco;have hj:=h zs hzs;rw[j9]at hj;have hown:(w.drew.alloc (.cells (([]:List Value).toArray++Builtin.zeroCells z.cells n++Builtin.zeroCells z.cells (grownCap w n 0 e-n)) e)).ownsRow 0 e sz (.slice (some ⟨w.heap.size,0,none⟩) n (grownCap w n 0 e)) n zc:=by
  refine⟨hzcl,.inr ⟨w.heap.size,grownCap w n 0 e,_,rfl,aQ _,heap_alloc_new w.drew _,hge,hgm,?_,?_⟩⟩
  ·simp only[fm,cr,aM,size_zeroCells,hzsz,cy,<-cg]
   congr 1
   omega
  have:(([]:List Value).toArray++Builtin.zeroCells z.cells n++Builtin.zeroCells z.cells (grownCap w n 0 e-n)).toList=zc++(Builtin.zeroCells z.cells (grownCap w n 0 e-n)).toList:=by simp[zc]
  rw[this,<-hzcl,gR]
 obtain⟨H',hle,hiu,hsim⟩:=hs.AR (e:=e) (sz:=sz) (ud:=.slice none 0 0) (u:=.slice (some ⟨w.heap.size,0,none⟩) n (grownCap w n 0 e)) (rows:=[]) (news:=zs) (xs:=[]) (ys:=zc) (σ':=s.σ) (w':=w.drew.alloc (.cells (([]:List Value).toArray++Builtin.zeroCells z.cells n++Builtin.zeroCells z.cells (grownCap w n 0 e-n)) e))
  (by rw[aM,cy,hzs,dy];exact hown) .nil hzr (by simp[Value.ownBlock]) (λx hx=>hx) hs.sat.nodup (by simp[Value.ownBlock])
  ⟨rfl,rfl,rfl,aA,λk hk _=>by first|exact heap_alloc_old w.drew _ k hk|exact heap_alloc_old w.drew _ hk⟩ (.inr rfl) s.ρ
 have hrun:(execOp a.eval o).run cx.pg.P w=.ok (.value (.slice (some ⟨w.heap.size,0,none⟩) n (grownCap w n 0 e))) (w.drew.alloc (.cells (([]:List Value).toArray++Builtin.zeroCells z.cells n++Builtin.zeroCells z.cells (grownCap w n 0 e-n)) e)):=by
  obtain⟨q,hq⟩:=nh (p:=cx.pg) (a:=a) rfl o ho w;rw[hq];simp only[gz,bb,cN,builtin,hxv,hyv,Sem.run_bind,hr];rfl
 obtain⟨ρ',ha',hJ⟩:=(ha.mono hle).iO (u:=.slice (some ⟨w.heap.size,0,none⟩) n (grownCap w n 0 e)) hiu hj;rw[dy]at hsim;exact lC hw hrun (hJ _ (a.put o.dst _) _ (hg.mono hle) (hsim.ρ ρ') ha')
end
section
variable {P:Program}
def uC (w:World) (dT sT ty elem:TypeId) (k b o dLen dCap:Nat) (a:Addr) (sLen sCap n:Nat) (cs:List Value)
  (hu:P.underlying dT=some (.slice elem)) (hs:(P.info? elem).map (·.size)=some k) (hn:n=Nat.min sLen dLen) (hl:cs.length=n*k)
  (hsrc:∀j v,cs[j]? =some v->w.cell? (a.add j)=some v) (hc:∀j,j<cs.length->(w.cell? ⟨b,o+j,none⟩).isSome=true) (hf:∀j,j<cs.length->w.frozen? ⟨b,o+j,none⟩=false) (h1:∀v∈cs,v.oneCell'=true):
  (Builtin.copy_ #[dT,sT] ty #[.slice (some ⟨b,o,none⟩) dLen dCap,.slice (some a) sLen sCap]).run P w=.ok (goInt n) (w.setCells b o cs):=by
 have hld:=run_loadCells_list (P:=P) w a cs hsrc;have hst:=run_storeCells_cells (P:=P) b o cs 0 w (by simpa using hc) (by simpa using hf) h1;cases hq:P.info? elem with
 |none=>simp[hq]at hs
 |some i=>
  have hi:i.size=k:=by simpa[hq]using hs
  simp[Builtin.copy_,run_underlying hu,Builtin.lenOf,Builtin.firstCells,sizeOf,typeInfo,hq,hi,<-hn,<-hl,hld,hst]
end
def LD(A vs:List Value){p q m:Nat}(hv:vs.length=m)(hpq:p<=q)(hl:q+m<=A.length):
  ((A.take (p+m)++(A.take q).drop p++A.drop (p+m+((A.take q).drop p).length)).take p++vs++(A.take (p+m)++(A.take q).drop p++A.drop (p+m+((A.take q).drop p).length)).drop (p+vs.length)).take (q+m)=(A.take q).take p++vs++(A.take q).drop p:=by
 have e1:((A.take q).drop p).length=q-p:=aq
 have e2:(A.take (p+m)).length=p+m:=aq
 rw[e1,hv];have a1:(A.take (p+m)++(A.take q).drop p++A.drop (p+m+(q-p))).take p=A.take p:=by
  rw[aS,eu az,fh,cq az]
 have a2:(A.take (p+m)++(A.take q).drop p++A.drop (p+m+(q-p))).drop (p+m)=(A.take q).drop p++A.drop (p+m+(q-p)):=by
  rw[aS,List.drop_left' e2]
 have a3:(A.take q).take p=A.take p:=by rw[fh,cq hpq]
 rw[a1,a2,a3,<-aS,eZ aq]
def MT(R vs D:List Value){p q m:Nat}(hv:vs.length=m)(hd:D.length=q-p)(hpq:p<=q)(hl:q+m<=R.length):
  ((R.take p++vs++R.drop (p+vs.length)).take (p+m)++D++(R.take p++vs++R.drop (p+vs.length)).drop (p+m+D.length)).take (q+m)=R.take p++vs++D:=by
 have a1:(R.take p++vs++R.drop (p+vs.length)).take (p+m)=R.take p++vs:=eZ (by simp[hv];omega);rw[a1,eZ (by simp[hv,hd];omega)]
def JU(P:Program)(f:FuncId)(e:TypeId):Prop:=
 ∀(v:Value) (n i vb vc:Nat) (xs vs:List Value) (vcur:Array Value) (w:World),w.ownsRow 0 e 2 v n xs->i<=n->n<1000000->w.heap[vb]? =some (.cells vcur e (0,0))->1<=vc->vc<=maxLen->vcur.size=vc*2->vcur.toList.take 2=vs->v.ownBlock≠some vb->(∀u∈xs,u.oneCell'=true)->(∀u∈vs,u.oneCell'=true)->
  Calls P f #[v,.int .i64 (i:Int),.slice (some ⟨vb,0,none⟩) 1 vc] w λev w'=>∃v',ev=.returned v'/\w'.ownsRow 0 e 2 v' (n+1) (xs.take (i*2)++vs++xs.drop (i*2))/\w.grownBy w' v.ownBlock/\(v'.ownBlock=v.ownBlock\/v'.ownBlock=some w.heap.size)
def MA{p:Pg}{f:FuncId}{e:TypeId}(hc:∀ar w,(callFunc f ar).run p.P w=.ok (.enter f ar) w)(hI:JU p.P f e)(rows:List (List GV))(r:List GV)(i:Nat)(hi:i<=rows.length)(hl:rows.length<1000000):
  Hf p f 2 [.o 0,.v (.int .i64 (i:Int)),.o 1] [(0,.row e 2 rows),(1,.row e 2 [r])] λG σ n=>G=.o 2/\σ=[(2,.row e 2 (rows.take i++[r]++rows.drop i)),(1,.row e 2 [r])]/\n=3:=by
 refine⟨hc,λH us w hn hg hcs hs=>?_⟩;obtain⟨g0,h0⟩:=(hcs.2 0 _ rfl).mh;have g1:=(hcs.2 1 _ rfl).iH;obtain⟨g2,h2⟩:=(hcs.2 2 _ rfl).mh;have hue:us=#[H.sv 0,.int .i64 (i:Int),H.sv 1]:=by
  have h4:us.size=3:=hcs.1.symm;apply dW
  ·exact h4
  intro q h5 h6;have hq:us[q]=us.getD q undef:=by simp[Array.getD,h5]
  rw[hq]
  match q,h6 with
  |0,_=>exact g0
  |1,_=>exact g1
  |2,_=>exact g2
 obtain⟨xs,hown,hrow⟩:=hs.holds (0,.row e 2 rows) aA;obtain⟨ys,hown1,hrow1⟩:=hs.holds (1,.row e 2 [r]) aA;rcases hown1.2 with ⟨_,hn1⟩|⟨vb,vc,vcur,hsv,_,hgc,hnc,hcm,hcz,htk⟩
 ·simp at hn1
 have hnd:=hs.nodup;simp only[g_,dB,gD,blocks,aZ]at hnd;have n1:=a8.1 hnd;have hne:(H.sv 0).ownBlock≠some vb:=λe0=>n1.2.2 vb (by rw[e0];simp) vb (by rw[hsv];simp[Value.ownBlock]) rfl;rw[hue];have hC:=hI (H.sv 0) rows.length i vb vc xs ys vcur w hown hi hl hgc hnc hcm hcz (by simpa using htk) hne hrow.one hrow1.one;rw[hsv];refine hC.mono ?_;rintro _ w' ⟨v',rfl,hown',hgr,hblk⟩
 let cx:Cx:=⟨p,0,2,H,g_ H [(0,.row e 2 rows),(1,.row e 2 [r])],w,hn,hg⟩
 have hS:iQ cx H ⟨[],[(0,.row e 2 rows),(1,.row e 2 [r])],2⟩ w:=⟨hn,hs,Fr.refl _ _ _⟩;have hR:kJ H.ro 2 (rows.take i++[r]++rows.drop i) (xs.take (i*2)++ys++xs.drop (i*2)):=((hrow.take i).append hrow1).append (hrow.drop i);have hlen:(rows.take i++[r]++rows.drop i).length+([]:List (List GV)).length=rows.length+1:=aq
 obtain⟨H',hle,hiu,hsim⟩:=hS.AR (e:=e) (sz:=2) (ud:=H.sv 0) (u:=v') (rows:=rows.take i++[r]++rows.drop i) (news:=[]) (ys:=[]) (σ':=[(1,.row e 2 [r])])
  (by rw[hlen,aZ];exact hown') hR .nil (λb hb=>by simp[g_,blocks,hb]) (λx hx=>by simp at hx;simp[hx]) (by simp only[g_,dB,gD,blocks,aZ];exact n1.2.1)
  (λb hb hc=>by
   simp only[g_,dB,gD,blocks,aZ]at hc;exact n1.2.2 b hb b hc rfl) hgr hblk []
 rw[aZ]at hsim;exact⟨v',.o 2,H',_,rfl,hiu,hsim.sat,hsim.fr,rfl,rfl,hsim.n⟩
section
variable {cx:Cx}{T:jz}
def JK.Uc {all:List Oper} {o:Oper} {rest:List Oper} {k:List It} {s:St} {t e t':TypeId} {x:Operand} {ti:TI} {id ty sz:Nat} {rows:List (List GV)} (hp:cx.pg.Ok) (ho:o.op=.binOp .eql t x (.const (.slice none 0 0)) t') (hgd:mS all s.ρ o.guard=true)
  (ht:jv cx.pg.tt t=some ti) (htd:ti.d=.slice e) (hx:ev cx.pg s.ρ x=some (.o id)) (hl:gW s.σ id=some (.row ty sz rows))
  (hk1:rows=[]->iO cx.N s.ρ o.dst (.v (.bool true)) λρ'=>JK cx T (.ops false all rest::k) ⟨ρ',s.σ,s.n⟩)
  (hk2:iO cx.N s.ρ o.dst (.v (.bool false)) λρ'=>JK cx T (.ops false all rest::k) ⟨ρ',s.σ,s.n⟩):JK cx T (.ops false all (o::rest)::k) s:=by
 intro H a w hg hs ha;have hw:=j_ (o:=o) ha.env hgd;have hu:cx.pg.P.underlying t=some (.slice e):=by have:=(hp.tt _ _ ht).d;rw[htd]at this;exact this
 obtain⟨hv,hid⟩:=(iE hg ha.env hx).mh;obtain⟨xs,hown,hrow⟩:=hs.sat.holds _ (ib hl);have run:∀A c,H.sv id=.slice A rows.length c->(execOp a.eval o).run cx.pg.P w=.ok (.value (.bool A.isNone)) w:=λA c hsv=>by
  have:=Lib.run_eql_slice_nil (P:=cx.pg.P) w t e A rows.length c 0 0 hu;have hgd:(eqGuard .eql t x (.const (.slice none 0 0)) (.slice A rows.length c) (.slice none 0 0)).run cx.pg.P w=.ok () w:=by simp[eqGuard]
  have hc:a.eval (.const (.slice none 0 0))=.slice none 0 0:=rfl;simp only[execOp,ho,hv,hsv,hc,Sem.run_bind,hgd,Result.andThen_ok,this];rfl
 rcases hown.2 with ⟨he,hn⟩|⟨g,cap,cur,he,_⟩
 ·have hr:rows=[]:=ca.1 hn;have hrun:=run none 0 (by rw[he,hn]);obtain⟨ρ',ha',hJ⟩:=ha.iO (u:=.bool true) (.ro (.v _)) (hk1 hr);exact lC hw hrun (hJ _ (a.put o.dst _) w hg (hs.ρ ρ') ha')
 have hrun:=run (some ⟨g,0,none⟩) cap he;obtain⟨ρ',ha',hJ⟩:=ha.iO (u:=.bool false) (.ro (.v _)) hk2;exact lC hw hrun (hJ _ (a.put o.dst _) w hg (hs.ρ ρ') ha')
end
section
variable {cx:Cx}{T:jz}
def iY.read {ops:List Oper} {k:List It} {σs:Heap} {ρq:Env} {fuel:Nat} {listed:List Bool} {s:St} (i:Nat) {o:Oper} (hp:cx.pg.Ok) (hi:ops[i]? =some o) (hgd:mS ops s.ρ o.guard=true)
  (h:pv cx.pg s.ρ (s.σ++σs) o.op λg=>nf g λg=>iO cx.N s.ρ o.dst g λρ'=>p9 (oS ρq o.dst g) λρq=>RA cx T ops k σs ρq fuel (listed.set i true) ⟨ρ',s.σ,s.n⟩):iY cx T ops k σs ρq fuel listed s i o:=by
 refine⟨hi,hgd,λn0 H0 S0 w0 h0 g0 H a w K Q' hg hs ha hsat hK=>?_⟩;obtain⟨u,g,hrun,hiu,hk⟩:=xI hp hg ha.env hsat h;simp only[nc,oE]at hk;have hlt:=pc hk;refine rj (u:=u) (.inl (hrun w (rU.refl hsat) o rfl)) ?_;obtain⟨ρ',ha',hra⟩:=ha.iO hiu hk;exact hK H u g w s ρ' (Hid.le.refl H) hiu (hs.ρ _) ha' hlt hra
def iY.rt {ops:List Oper} {k:List It} {σs:Heap} {ρq:Env} {fuel:Nat} {listed:List Bool} {s:St} (i:Nat) {o:Oper} {f:FuncId} {cargs:List GV} {G:GV} (hr:Rt cx.pg f cargs G) (hi:ops[i]? =some o) (hk:mQ cx.pg ops s.ρ o=some (f,cargs)) (hb:im 0 cargs=true)
  (h:lB cx.N s.ρ o.dst G λρ'=>p9 (oS ρq o.dst G) λρq=>RA cx T ops k σs ρq fuel (listed.set i true) ⟨ρ',s.σ,s.n⟩):iY cx T ops k σs ρq fuel listed s i o:=by
 obtain⟨fo,args,ts,first,caps,gs,ho',hgd,hf,he,hargs⟩:=mu hk;refine⟨hi,hgd,λm0 H0 S0 w0 h0 g0 H a w K Q' hg hs ha _ hK=>?_⟩;refine xm (cx:=⟨cx.pg,cx.N,m0,H0,S0,w0,h0,g0⟩) hr.ct hr.call id ho' hf he (by rw[nE];exact hargs) (σc:=[]) trivial (by simp[hb,iL,iv,iu]) aA hg hs ha.env λH'' u g σ' n' w' hle hiu hQ hsim=>?_;obtain⟨⟨rfl,hidb⟩,rfl,rfl⟩:=hQ;have e1:mm (sh id 0 s.n) []++jr (iv id []) s.σ=s.σ:=by rw[show iv id []=[] from rfl,wa];rfl
 rw[o4 _ hidb]at hiu;rw[e1]at hsim;rw[oh]at h;simp only[oE]at h;have hlt:=pc h;obtain⟨ρ',ha',hra⟩:=(ha.mono hle).iO hiu h;exact hK H'' u _ w' ⟨ρ',_,_⟩ ρ' hle hiu (hsim ρ') ha' hlt hra
end
section
variable {cx:Cx}{T:jz}
def iQ.freeze{s:St}{H:Hid}{a:Act}{w:World}(id:Nat){ty sz:Nat}{rows:List (List GV)}(hl:gW s.σ id=some (.row ty sz rows))(hg:iX cx.pg H)(hs:iQ cx H s w)(ha:kr cx H s.ρ a):
  ∃ro':Nat->Option Obj,iX cx.pg {H with ro:=ro'}/\iQ cx {H with ro:=ro'} ⟨zJ id sz rows s.ρ,tY id sz rows (jQ s.σ id),s.n⟩ w/\kr cx {H with ro:=ro'} (zJ id sz rows s.ρ) a:=by
 obtain⟨l1,l2,e1,e2,_⟩:=kU hl;have hmem:=ib hl;obtain⟨xs,hown,hrow⟩:=hs.sat.holds _ hmem
 let ro':Nat->Option Obj:=λb=>if (H.sv id).ownBlock=some b then w.heap[b]? else H.ro b
 have hfree:∀b,(H.sv id).ownBlock=some b->H.ro b=none:=λb hb=>hs.sat.free b (aX.2 ⟨_,hmem,by simp[blocks,hb]⟩);have hro:∀b o,H.ro b=some o->ro' b=some o:=by
  intro b o ho;show (if _ then _ else _)=_;rw[if_neg (λhb=>by rw[hfree b hb]at ho;cases ho)];exact ho
 let H':Hid:={H with ro:=ro'}
 have hle:H.le H':=⟨aL _,hro,λ_ _=>rfl,λ_ _=>rfl⟩;have hsl:jM ro' (.sl sz rows) (H.sv id):=hrow.sl hro hown (λb hb=>by show (if _ then _ else _)=_;rw[if_pos hb]);have hfz:∀{g:GV} {u:Value},Is H g u->Is H' (lJ id sz rows g) u:=λhi=>Is.lJ (H':=H') hro rfl rfl rfl hsl hi;have hfr:=hs.fr;have hnd:=hs.sat.nodup;have hbl:g_ H' (tY id sz rows (jQ s.σ id))=g_ H (l1++l2):=by rw[e2];exact zK rfl rfl _
 rw[e1,il,iD]at hnd;have n1:=a8.1 hnd;have n2:=a8.1 n1.2.1;have hin:∀b∈g_ H (l1++l2),b∈g_ H s.σ:=λb hb=>by
  rw[e1,il,iD];rw[il]at hb;rcases aE.1 hb with h1|h1<;>simp[h1]
 have hnin:∀b∈g_ H (l1++l2),(H.sv id).ownBlock≠some b:=λb hb hc=>by
  have hc':b∈blocks H (id,.row ty sz rows):=by simp[blocks,hc]
  rw[il]at hb;rcases aE.1 hb with h1|h1
  ·exact n1.2.2 b h1 b (by simp[hc']) rfl
  exact n2.2.2 b hc' b h1 rfl
 refine⟨ro',hg.up hro,⟨hs.n,⟨λb o ho=>?_,λx hx=>?_,?_,λb hb=>?_,λx hx=>?_⟩,?_⟩,⟨λt g hlk=>?_,ha.size,ha.defers⟩⟩
 ·have ho':(if (H.sv id).ownBlock=some b then w.heap[b]? else H.ro b)=some o:=ho;split at ho'
  ·exact ho'
  exact hs.sat.ro b o ho'
 ·obtain⟨y,hy,rfl⟩:=ve hx;rw[e2]at hy;have hy':y∈s.σ:=by
   rw[e1];rcases aE.1 hy with h1|h1<;>simp[h1]
  have hh:=hs.sat.holds y hy';obtain⟨j,r⟩:=y;cases r with
  |hZ ty cs=>
   obtain⟨us,hw,hlen,hi⟩:=hh;refine⟨us,hw,by rw[og];exact hlen,λj g hj=>?_⟩;rw[yj]at hj;cases hc:cs[j]? with
   |none=>rw[hc]at hj;cases hj
   |some x=>rw[hc]at hj;simp at hj;subst hj;exact hfz (hi j x hc)
  |row ty z rs=>obtain⟨ys,h1,h2⟩:=hh;exact⟨ys,h1,h2.mono hro⟩
  |ob o=>exact hh
  |ln z n=>exact hh
  |sub i z lo n=>exact hh
  |mp kd es=>
   obtain⟨b,arr,clock,h1,h2,h3⟩:=hh;exact⟨b,arr,clock,h1,h2,h3.lJ hfz⟩
  |mr kd es left cur=>
   obtain⟨b,arr,clock,seen,h1,h2,h3,h4,h5⟩:=hh;exact⟨b,arr,clock,seen,h1,h2,h3,h4.lJ hfz,h5⟩
  |itr m=>exact hh
  |me kd es k st=>
   obtain⟨h0,b,arr,clock,h1,h2,h3,h4⟩:=hh;exact⟨h0,b,arr,clock,h1,h2,h3.lJ hfz,h4⟩
  |ab A=>exact A.mono _ _ _ _ _ hro hh
  |mre kd es left cur k st=>
   obtain⟨h0,b,arr,clock,seen,h1,h2,h3,h4,h5⟩:=hh;exact⟨h0,b,arr,clock,seen,h1,h2,h3,h4.lJ hfz,h5⟩
 ·rw[hbl,il];exact a8.2 ⟨n1.1,n2.2.1,λb hb c hc e=>n1.2.2 b hb c (by simp[hc]) e⟩
 ·rw[hbl]at hb;show (if _ then _ else _)=_;rw[if_neg (hnin b hb)];exact hs.sat.free b (hin b hb)
 ·obtain⟨y,hy,rfl⟩:=ve hx;rw[e2]at hy;refine hs.sat.ids y ?_;rw[e1];rcases aE.1 hy with h1|h1<;>simp[h1]
 ·refine⟨hfr.os,hfr.tape,hfr.output,hfr.size,hfr.keep,λb hb=>?_,λb h1 h2=>?_,hfr.le.trans hle⟩
  ·rw[hbl]at hb;exact hfr.own b (hin b hb)
  have h2':(if (H.sv id).ownBlock=some b then w.heap[b]? else H.ro b)≠none:=h2;split at h2'
  ·rename_i hb
   exact hfr.own b (aX.2 ⟨_,hmem,by simp[blocks,hb]⟩)
  exact hfr.fro b h1 h2'
 rw[zH]at hlk;cases hc:look s.ρ t with
 |none=>rw[hc]at hlk;cases hlk
 |some x=>rw[hc]at hlk;simp at hlk;subst hlk;exact hfz (ha.env t x hc)
def RA.freeze {ops:List Oper} {k:List It} {σs:Heap} {ρq:Env} {fuel:Nat} {listed:List Bool} {s:St} (id:Nat) {ty sz:Nat} {rows:List (List GV)} (hl:gW s.σ id=some (.row ty sz rows))
  (h:kG (tY id sz rows (jQ s.σ id)) λσ=>p9 (zJ id sz rows s.ρ) λρ=>RA cx T ops k σs ρq fuel listed ⟨ρ,σ,s.n⟩):RA cx T ops k σs ρq fuel listed s:=by
 rw[jy,oE]at h;intro n0 H0 S0 w0 h0 g0 hσ hap hfree hlink H a w hs ha hq;have hg:iX cx.pg H:=cx.g0.mono (hlink H s w hs).fr.le;obtain⟨ro',_,hs',ha'⟩:=iQ.freeze (cx:=⟨cx.pg,cx.N,n0,H0,S0,w0,h0,g0⟩) id hl hg hs ⟨ha.env,ha.size,ha.defers⟩;exact h n0 H0 S0 w0 h0 g0 hσ hap hfree hlink {H with ro:=ro'} a w hs' ⟨ha'.env,ha'.size,ha'.defers⟩ hq
end
section
variable {cx:Cx}{T:jz}
def RA.three {ops:List Oper} {k:List It} {σs:Heap} {ρq:Env} {fuel:Nat} {listed:List Bool} {s:St} (i j l:Nat) {oi oj ol:Oper} (hr:Region.ready .any ops.toArray listed.toArray=[i,j,l])
  (hi:iY cx T ops k σs ρq fuel listed s i oi) (hj:iY cx T ops k σs ρq fuel listed s j oj) (hl:iY cx T ops k σs ρq fuel listed s l ol):RA cx T ops k σs ρq (fuel+1) listed s:=by
 have one:∀{q:Nat} {o:Oper},iY cx T ops k σs ρq fuel listed s q o->∀(n0:Nat) (H0:Hid) (S0:List Nat) (w0:World) (h0:H0.n=n0) (g0:iX cx.pg H0),Sat H0 σs w0->(∀b∈g_ H0 σs,b∉S0)->(∀b∈S0,H0.ro b=none)->
   (∀H s' w',iQ ⟨cx.pg,cx.N,n0,H0,S0,w0,h0,g0⟩ H s' w'->iQ cx H ⟨s'.ρ,s'.σ++σs,s'.n⟩ w')->
   ∀H a w,iQ ⟨cx.pg,cx.N,n0,H0,S0,w0,h0,g0⟩ H s w->kr cx H s.ρ a->jH (H.at H0.ro) ρq a->
   wpOp cx.pg.P ops.toArray (cont cx.pg.P (post cx T) k) q (λa w=>rH S0 w0 w/\wpAnyH cx.pg.P .any ops.toArray (cont cx.pg.P (post cx T) k) (rH S0 w0) fuel (listed.toArray.setIfInBounds q true) a w) a w:=by
  intro q o hst n0 H0 S0 w0 h0 g0 hσ hap hfree hlink H a w hs ha hq;obtain⟨hq',hgd,h⟩:=hst;unfold wpOp;have hi':ops.toArray[q]? =some o:=by simpa using hq'
  rw[hi'];simp only;have hw:=j_ (o:=o) ha.env hgd;rw[if_pos hw];refine .inl (h n0 H0 S0 w0 h0 g0 H a w _ _ (g0.mono hs.fr.le) hs ha (hlink H s w hs).sat λH' u g w' s' ρ' hle hi hs' ha' hd hra=>?_);rw[sN];exact⟨hs'.keeps,hra n0 H0 S0 w0 h0 g0 hσ hap hfree hlink H' (a.put o.dst u) w' hs' ha' (jH.Hp (H:=H) hq hle (λd hdd=>by rw[ha.size];exact hd d hdd) hi)⟩
 intro n0 H0 S0 w0 h0 g0 hσ hap hfree hlink H a w hs ha hq;refine wpAnyH_all hr aA (λq hq'=>?_);rcases aF.1 hq' with rfl|hq'
 ·exact one hi n0 H0 S0 w0 h0 g0 hσ hap hfree hlink H a w hs ha hq
 rcases aF.1 hq' with rfl|hq'
 ·exact one hj n0 H0 S0 w0 h0 g0 hσ hap hfree hlink H a w hs ha hq
 obtain rfl:=aH.1 hq';exact one hl n0 H0 S0 w0 h0 g0 hσ hap hfree hlink H a w hs ha hq
end
inductive ou:List GV->List GV->Prop
 |nil:ou [] []
 |cons {x y:GV} {xs ys:List GV} (h:Sub x y) (t:ou xs ys):ou (x::xs) (y::ys)
section
variable {cx:Cx}{T:jz}
def iY.hf {ops:List Oper} {k:List It} {σs:Heap} {ρq:Env} {fuel:Nat} {listed:List Bool} {s:St} (i:Nat) {o:Oper} {f:FuncId} {m:Nat} {cargs gs:List GV} {σc:Heap} {Q:GV->Heap->Nat->Prop} (hr:Hf cx.pg f m cargs σc Q) (r:Nat->Nat) (hi:ops[i]? =some o) (hk:mQ cx.pg ops s.ρ o=some (f,gs)) (hargs:gs=j4 r cargs) (hσ:o7 r σc s.σ)
  (chk:(im m cargs&&iL m σc&&iu (iv r σc))=true) (hrn:∀i,i<m->r i<s.n)
  (h:∀g σ' n',Q g σ' n'->nf (jW (sh r m s.n) g) λg=>kG (mm (sh r m s.n) σ'++jr (iv r σc) s.σ) λσ=>kW (s.n+(n'-m)) λn=>lB cx.N s.ρ o.dst g λρ'=>p9 (oS ρq o.dst g) λρq=>RA cx T ops k σs ρq fuel (listed.set i true) ⟨ρ',σ,n⟩):iY cx T ops k σs ρq fuel listed s i o:=by
 obtain⟨fo,args,ts,first,caps,gs',ho',hgd,hf,he,hargs'⟩:=mu hk;refine⟨hi,hgd,λm0 H0 S0 w0 h0 g0 H a w K Q' hg hs ha _ hK=>?_⟩;refine xm (cx:=⟨cx.pg,cx.N,m0,H0,S0,w0,h0,g0⟩) hr.ct hr.call r ho' hf he (hargs'.trans hargs) (σc:=σc) hσ chk hrn hg hs ha.env λH'' u g σ' n' w' hle hiu hQ hsim=>?_;have h:=h g σ' n' hQ;simp only[nc,jy,j9]at h;rw[oh]at h;simp only[oE]at h;have hlt:=pc h;obtain⟨ρ',ha',hra⟩:=(ha.mono hle).iO hiu h;exact hK H'' u _ w' ⟨ρ',_,_⟩ ρ' hle hiu (hsim ρ') ha' hlt hra
end
structure qZ (α:Type) where
 D:α->List Nat->wk
 fpE:∀a f,(D a f).fp=f
 ow:∀a f ro b v w,(D a f).P ro b v w->GK.ow v=true
def pM{α:Type}(F:qZ α)(ro:Nat->Option Obj)(w:World):List (α×Value)->List Nat->Prop
 | [],f=>f=[]
 | (a,u)::r,f=>∃b f1 f2,f=f1++f2/\(F.D a f1).P ro b u w/\pM F ro w r f2
section
variable {α:Type}{F:qZ α}{ro ro':Nat->Option Obj}{w w':World}
def DH:∀{l:List (α×Value)} {f:List Nat},pM F ro w l f->∀c∈f,c<w.heap.size
 | [],f,h,c,hc=>by rw[show f=[] from h]at hc;cases hc
 | (a,u)::r,f,h,c,hc=>by
  obtain⟨b,f1,f2,rfl,h1,h2⟩:=h;rcases aE.1 hc with hc|hc
  ·exact (F.D a f1).ex _ _ _ _ h1 c (by rw[F.fpE];exact hc)
  exact DH h2 c hc
def xG:∀{l:List (α×Value)} {f:List Nat},(∀c∈f,w'.heap[c]? =w.heap[c]?)->pM F ro w l f->pM F ro w' l f
 | [],f,_,h=>h
 | (a,u)::r,f,hc,h=>by
  obtain⟨b,f1,f2,rfl,h1,h2⟩:=h;exact⟨b,f1,f2,rfl,(F.D a f1).congr _ _ _ _ _ (λc h=>hc c (aE.2 (.inl (by rw[F.fpE]at h;exact h)))) h1,xG (λc h=>hc c (aE.2 (.inr h))) h2⟩
def zQ(hro:∀c o,ro c=some o->ro' c=some o):∀{l:List (α×Value)} {f:List Nat},pM F ro w l f->pM F ro' w l f
 | [],_,h=>h
 | (a,u)::r,f,h=>by
  obtain⟨b,f1,f2,rfl,h1,h2⟩:=h;exact⟨b,f1,f2,rfl,(F.D a f1).mono _ _ _ _ _ hro h1,zQ hro h2⟩
def CW{a:α}{u:Value}{l2:List (α×Value)}:∀{l1:List (α×Value)} {f:List Nat},pM F ro w (l1++(a,u)::l2) f->∃b f1 f2,f.Perm (f1++f2)/\(F.D a f1).P ro b u w/\pM F ro w (l1++l2) f2
 | [],f,h=>by
  obtain⟨b,f1,f2,rfl,h1,h2⟩:=h;exact⟨b,f1,f2,.refl _,h1,h2⟩
 | (a',u')::r,f,h=>by
  obtain⟨b',g1,g2,rfl,h1,h2⟩:=h;obtain⟨b,f1,f2,hp,h3,h4⟩:=CW (l1:=r) h2;refine⟨b,f1,g1++f2,((hp.append_left g1).trans ?_),h3,b',g1,f2,rfl,h1,h4⟩;rw[<-aS,<-aS];exact dt.append_right f2
def Eo{a:α}{u:Value}{b:Nat}{f1:List Nat}{l2:List (α×Value)}(h1:(F.D a f1).P ro b u w):∀{l1:List (α×Value)} {f2:List Nat},pM F ro w (l1++l2) f2->∃f,f.Perm (f1++f2)/\pM F ro w (l1++(a,u)::l2) f
 | [],f2,h=>⟨f1++f2,.refl _,b,f1,f2,rfl,h1,h⟩
 | (a',u')::r,f2,h=>by
  obtain⟨b',g1,g2,rfl,h3,h4⟩:=h;obtain⟨f,hp,h5⟩:=Eo h1 (l1:=r) h4;refine⟨g1++f,((hp.append_left g1).trans ?_),b',g1,f,rfl,h3,h5⟩;rw[<-aS,<-aS];exact dt.append_right g2
end
def qc{α:Type}(F:qZ α)(l:List (α×Value))(f:List Nat):wk where
 P:=λro _ _ w=>pM F ro w l f
 fp:=f
 ex:=λ_ _ _ _ h=>DH h
 congr:=λ_ _ _ _ _ hc h=>xG hc h
 mono:=λ_ _ _ _ _ hro h=>zQ hro h
def Vi(kd:Option IntKind)(kvs:List (Value×Value))(arr:Array MapEntry)(clock:Nat):Prop:=
 (arr.toList.map λe=>(e.key,e.val))=kvs/\(∀e∈arr.toList,iq kd e.key=true)/\MapKept.Stamped arr clock
abbrev er{α:Type}(x:Value×α×Value):Value×α:=(x.1,x.2.1)
abbrev kv{α:Type}(x:Value×α×Value):Value×Value:=(x.1,x.2.2)
abbrev mE{α:Type}(l:List (Value×α×Value)):List (Value×GV):=l.map λx=>(x.1,GV.v x.2.2)
def Ax{α:Type}{H:Hid}:∀{l:List (Value×α×Value)} {es:List MapEntry},(es.map λe=>(e.key,e.val))=l.map kv->mT H (mE l) es
 | [],[],_=>trivial
 |x::r,e::s,h=>by
  simp only[bb,gO,bK]at h;exact⟨h.1.1,by rw[h.1.2];exact .ro (.v _),Ax h.2⟩
 | [],_::_,h=>by simp at h
 |_::_,[],h=>by simp at h
def xj{α:Type}{H:Hid}:∀{l:List (Value×α×Value)} {es:List MapEntry},mT H (mE l) es->(es.map λe=>(e.key,e.val))=l.map kv
 | [],[],_=>rfl
 |x::r,e::s,h=>by
  obtain⟨h1,h2,h3⟩:=h;simp only[bb,gO,bK];exact⟨⟨h1,h2.iH⟩,xj h3⟩
 | [],_::_,h=>h.elim
 |_::_,[],h=>h.elim
def x9{H:Hid}:∀{a b:List (Value×GV)} {es:List MapEntry},mT H (a++b) es↔∃e1 e2,es=e1++e2/\mT H a e1/\mT H b e2
 | [],b,es=>⟨λh=>⟨[],es,rfl,trivial,h⟩,λ⟨e1,e2,he,h1,h2⟩=>by
  cases e1 with
  |nil=>rw[he];exact h2
  |cons _ _=>exact h1.elim⟩
 | (k,g)::r,b,[]=>⟨λh=>h.elim,λ⟨e1,e2,he,h1,h2⟩=>by
  cases e1 with
  |nil=>exact h1.elim
  |cons _ _=>cases he⟩
 | (k,g)::r,b,e::s=>by
  constructor
  ·rintro⟨h1,h2,h3⟩;obtain⟨e1,e2,rfl,h4,h5⟩:=x9.1 h3;exact⟨e::e1,e2,rfl,⟨h1,h2,h4⟩,h5⟩
  rintro⟨e1,e2,he,h1,h2⟩;cases e1 with
  |nil=>exact h1.elim
  |cons x y=>
   cases he;exact⟨h1.1,h1.2.1,x9.2 ⟨y,e2,rfl,h1.2.2,h2⟩⟩
def UX{α:Type}(F:qZ α)(kd:Option IntKind)(l:List (Value×α))(f:List Nat)(ro:Nat->Option Obj)(v:Value)(w:World):Prop:=
 ∃(l':List (Value×α×Value)) (b:Nat) (arr:Array MapEntry) (clock:Nat) (f2:List Nat),l'.map er=l/\v=.map (some b)/\f=b::f2/\w.heap[b]? =some (.map arr clock)/\Vi kd (l'.map kv) arr clock/\pM F ro w (l'.map (·.2)) f2
def mapA{α:Type}(F:qZ α)(kd:Option IntKind)(l:List (Value×α))(f:List Nat):wk where
 P:=λro _ v w=>UX F kd l f ro v w
 fp:=f
 ex:=λ_ _ _ w h c hc=>by
  obtain⟨l',b,arr,clock,f2,_,_,rfl,h1,_,h2⟩:=h;rcases aF.1 hc with rfl|hc
  ·rcases Nat.lt_or_ge c w.heap.size with h|h
   ·exact h
   rw[ft h]at h1;cases h1
  exact DH h2 c hc
 congr:=λ_ _ _ _ _ hc h=>by
  obtain⟨l',b,arr,clock,f2,e1,e2,rfl,h1,h3,h2⟩:=h;exact⟨l',b,arr,clock,f2,e1,e2,rfl,by rw[hc b aA];exact h1,h3,xG (λc h=>hc c (by simp[h])) h2⟩
 mono:=λ_ _ _ _ _ hro h=>by
  obtain⟨l',b,arr,clock,f2,e1,e2,e3,h1,h3,h2⟩:=h;exact⟨l',b,arr,clock,f2,e1,e2,e3,h1,h3,zQ hro h2⟩
def Gl{α:Type}(F:qZ α)(kd:Option IntKind):qZ (List (Value×α)) where
 D:=mapA F kd
 fpE:=λ_ _=>rfl
 ow:=λa f ro b v w h=>by
  obtain⟨l',b,arr,clock,f2,_,rfl,_⟩:=h;rfl
section
variable {cx:Cx}{T:jz}{k:List It}{s:St}
def iQ.swap{H:Hid}{w:World}(hs:iQ cx H s w)(H':Hid)(hle:H.le H')(hro:H'.ro=H.ro){iN keep:Heap}(new:Heap)(hp:s.σ.Perm (iN++keep))(hh:∀x∈new,holds H' w x)(hid:∀x∈new,x.1<H'.n)(hb:(g_ H' new).Perm (g_ H iN))(ρ':Env):iQ cx H' ⟨ρ',new++keep,H'.n⟩ w:=by
 have hk:∀x∈keep,x∈s.σ:=λx hx=>hp.mem_iff.2 (by simp[hx]);have hkb:g_ H' keep=g_ H keep:=nD hle λx hx=>hs.sat.ids x (hk x hx);have hall:(g_ H' (new++keep)).Perm (g_ H s.σ):=by
  rw[il,hkb];refine (hb.append_right _).trans ?_;rw[<-il];exact (gJ (blocks H) hp).symm
 refine⟨rfl,⟨?_,λx hx=>?_,hall.nodup_iff.2 hs.sat.nodup,λb hb=>?_,λx hx=>?_⟩,?_⟩
 ·rw[hro];exact hs.sat.ro
 ·rcases aE.1 hx with hx|hx
  ·exact hh x hx
  exact nO hle (hs.sat.ids x (hk x hx)) (hs.sat.holds x (hk x hx))
 ·rw[hro];exact hs.sat.free b (hall.mem_iff.1 hb)
 ·rcases aE.1 hx with hx|hx
  ·exact hid x hx
  exact a_ (hs.sat.ids x (hk x hx)) hle.n
 have hf:=hs.fr;exact⟨hf.os,hf.tape,hf.output,hf.size,hf.keep,λc hc=>hf.own c (hall.mem_iff.1 hc),λb h1 h2=>hf.fro b h1 (by rw[hro]at h2;exact h2),hf.le.trans hle⟩
def n3{σ:Heap}{id:Nat}{x:hY}(h:gW σ id=some x):σ.Perm ((id,x)::jQ σ id):=by
 obtain⟨l1,l2,e1,e2,_⟩:=kU h;rw[e1,<-e1,e2,e1];exact dQ
def Hid.plus(H:Hid)(n:Nat)(bl:Nat->Nat)(sv:Nat->Value):Hid:=⟨H.ro,λi=>if i<H.n then H.bl i else bl (i-H.n),λi=>if i<H.n then H.sv i else sv (i-H.n),H.n+n⟩
def Hid.uX(H:Hid)(n:Nat)(bl:Nat->Nat)(sv:Nat->Value):H.le (H.plus n bl sv):=⟨by show H.n<=H.n+n;omega,λ_ _ h=>h,λi hi=>if_pos hi,λi hi=>if_pos hi⟩
def Hid.Rx(H:Hid)(n:Nat)(bl:Nat->Nat)(sv:Nat->Value)(i:Nat):(H.plus n bl sv).bl (H.n+i)=bl i:=by
 show (if H.n+i<H.n then _ else bl (H.n+i-H.n))=_;rw[if_neg az,gK]
def Hid.DK(H:Hid)(n:Nat)(bl:Nat->Nat)(sv:Nat->Value)(i:Nat):(H.plus n bl sv).sv (H.n+i)=sv i:=by
 show (if H.n+i<H.n then _ else sv (H.n+i-H.n))=_;rw[if_neg az,gK]
def JK.KQ {α:Type} {F:qZ α} {kd:Option IntKind} {l:List (Value×α)} {f:List Nat} (X:Nat) (hl:gW s.σ X=some (.ab (mapA F kd l f)))
  (h:∀(l':List (Value×α×Value)) (f2:List Nat),l'.map er=l->kW s.n λR=>kW (s.n+1) λn=>kG (jQ s.σ X) λσ=>JK cx T k ⟨s.ρ,(X,.mp kd (mE l'))::(R,.ab (qc F (l'.map (·.2)) f2))::σ,n⟩):JK cx T k s:=by
 intro H a w hg hs ha;obtain⟨l',b,arr,clock,f2,e1,e2,rfl,h1,h3,h2⟩:=hs.sat.holds _ (ib hl);have h:=h l' f2 e1;simp only[j9,jy]at h;have hX:X<H.n:=hs.sat.ids _ (ib hl);have hle:=H.uX 1 (λ_=>0) (λ_=>undef);have hsv:=hle.sv X hX;have hn:=hs.n;have hnn:(H.plus 1 (λ_=>0) (λ_=>undef)).n=s.n+1:=by rw[<-hn];rfl
 have hrr:(H.plus 1 (λ_=>0) (λ_=>undef)).ro=H.ro:=rfl;generalize H.plus 1 (λ_=>0) (λ_=>undef)=H' at hle hsv hnn hrr;have hsw:=iQ.swap hs H' hle hrr [(X,.mp kd (mE l')),(s.n,.ab (qc F (l'.map (·.2)) f2))] (iN:=[(X,.ab (mapA F kd l (b::f2)))]) (n3 hl) ?_ ?_ ?_ s.ρ
 ·rw[hnn]at hsw;exact h H' a w (hg.up (λ_ _ h=>by rw[hrr];exact h)) hsw (ha.mono hle)
 ·intro x hx;rcases aF.1 hx with rfl|hx
  ·exact⟨b,arr,clock,hsv.trans e2,h1,Ax h3.1,h3.2.1,h3.2.2⟩
  rw[aH.1 hx];show pM F H'.ro w _ f2;rw[hrr];exact h2
 ·intro x hx;rcases aF.1 hx with rfl|hx
  ·exact a_ hX hle.n
  rw[aH.1 hx];show s.n<H'.n;omega
 have hbv:ju (H'.sv X)=[b]:=by rw[hsv,e2];rfl
 show (ju (H'.sv X)++(f2++[])).Perm ((b::f2)++[]);rw[hbv];simp
def JK.SQ {α:Type} {F:qZ α} {kd:Option IntKind} {l':List (Value×α×Value)} {f2:List Nat} (X R:Nat) (hl:gW s.σ X=some (.mp kd (mE l'))) (hr:gW (jQ s.σ X) R=some (.ab (qc F (l'.map (·.2)) f2)))
  (h:∀(f:List Nat),kG (jQ (jQ s.σ X) R) λσ=>JK cx T k ⟨s.ρ,(X,.ab (mapA F kd (l'.map er) f))::σ,s.n⟩):JK cx T k s:=by
 intro H a w hg hs ha;have hp:s.σ.Perm ([(X,.mp kd (mE l')),(R,.ab (qc F (l'.map (·.2)) f2))]++jQ (jQ s.σ X) R):=(n3 hl).trans ((n3 hr).cons _);obtain⟨b,arr,clock,e2,h1,hm⟩:=hs.sat.holds _ (ib hl);have hb2:pM F H.ro w (l'.map (·.2)) f2:=hs.sat.holds _ (hp.mem_iff.2 (by simp:(R,hY.ab (qc F (l'.map (·.2)) f2))∈_));have h:=h (b::f2);simp only[jy]at h;have hX:X<H.n:=hs.sat.ids _ (ib hl);have hn:=hs.n;have hsw:=iQ.swap hs H (Hid.le.refl H) rfl [(X,.ab (mapA F kd (l'.map er) (b::f2)))] hp ?_ ?_ ?_ s.ρ
 ·rw[hn]at hsw;exact h H a w hg hsw ha
 ·intro x hx;rw[aH.1 hx];exact⟨l',b,arr,clock,f2,rfl,e2,rfl,h1,⟨xj hm.is,hm.sorts,hm.st⟩,hb2⟩
 ·intro x hx;rw[aH.1 hx];exact hX
 have hbv:ju (H.sv X)=[b]:=by rw[e2];rfl
 show ((b::f2)++[]).Perm (ju (H.sv X)++(f2++[]));rw[hbv];simp
def JK.U6 {α:Type} (F:qZ α) {kd:Option IntKind} (X:Nat) (hl:gW s.σ X=some (.mp kd []))
  (h:∀(f:List Nat),kG (jQ s.σ X) λσ=>JK cx T k ⟨s.ρ,(X,.ab (mapA F kd [] f))::σ,s.n⟩):JK cx T k s:=by
 intro H a w hg hs ha;obtain⟨b,arr,clock,e2,h1,hm⟩:=hs.sat.holds _ (ib hl);have h:=h [b];simp only[jy]at h;have hX:X<H.n:=hs.sat.ids _ (ib hl);have hn:=hs.n;have hsw:=iQ.swap hs H (Hid.le.refl H) rfl [(X,.ab (mapA F kd [] [b]))] (iN:=[(X,.mp kd [])]) (n3 hl) ?_ ?_ ?_ s.ρ
 ·rw[hn]at hsw;exact h H a w hg hsw ha
 ·intro x hx;rw[aH.1 hx];exact⟨[],b,arr,clock,[],rfl,e2,rfl,h1,⟨xj (l:=([]:List (Value×α×Value))) hm.is,hm.sorts,hm.st⟩,rfl⟩
 ·intro x hx;rw[aH.1 hx];exact hX
 have hbv:ju (H.sv X)=[b]:=by rw[e2];rfl
 show ([b]++[]).Perm (ju (H.sv X)++[]);rw[hbv]
def JK.focus {α:Type} {F:qZ α} {kd:Option IntKind} {l1 l2:List (Value×α)} {key:Value} {x:α} {f:List Nat} (X:Nat) (hl:gW s.σ X=some (.ab (mapA F kd (l1++(key,x)::l2) f)))
  (h:∀(m1 m2:List (Value×α×Value)) (f1 f2:List Nat),m1.map er=l1->m2.map er=l2->kW s.n λY=>kW (s.n+1) λR=>kW (s.n+2) λn=>kG (jQ s.σ X) λσ=>JK cx T k ⟨s.ρ,(X,.mp kd (mE m1++(key,.o Y)::mE m2))::(Y,.ab (F.D x f1))::(R,.ab (qc F ((m1++m2).map (·.2)) f2))::σ,n⟩):JK cx T k s:=by
 intro H a w hg hs ha;obtain⟨l',b,arr,clock,f',e1,e2,rfl,h1,h3,h2⟩:=hs.sat.holds _ (ib hl);obtain⟨m1,m3,rfl,rfl,hm3⟩:=ee.1 e1;obtain⟨z,m2,rfl,hz,rfl⟩:=c_.1 hm3;obtain⟨key',x',u⟩:=z;simp only[er,bK]at hz;obtain⟨hz1,hz2⟩:=hz;replace hz1:=hz1.symm;replace hz2:=hz2.symm;subst hz1;subst hz2;rw[aP,bb]at h2;obtain⟨b',f1,f2,hpf,hD,hbag⟩:=CW h2;have h:=h m1 m2 f1 f2 rfl rfl;simp only[j9,jy]at h;have hX:X<H.n:=hs.sat.ids _ (ib hl);have hle:=H.uX 2 (λi=>if i=0 then b' else 0) (λi=>if i=0 then u else undef);have hsv:=hle.sv X hX;have hn:=hs.n;have hb0:(H.plus 2 (λi=>if i=0 then b' else 0) (λi=>if i=0 then u else undef)).bl s.n=b':=by rw[<-hn];exact H.Rx _ _ _ 0
 have hv0:(H.plus 2 (λi=>if i=0 then b' else 0) (λi=>if i=0 then u else undef)).sv s.n=u:=by rw[<-hn];exact H.DK _ _ _ 0
 have hnn:(H.plus 2 (λi=>if i=0 then b' else 0) (λi=>if i=0 then u else undef)).n=s.n+2:=by rw[<-hn];rfl
 have hrr:(H.plus 2 (λi=>if i=0 then b' else 0) (λi=>if i=0 then u else undef)).ro=H.ro:=rfl;generalize H.plus 2 (λi=>if i=0 then b' else 0) (λi=>if i=0 then u else undef)=H' at hle hsv hb0 hv0 hnn hrr;have hsw:=iQ.swap hs H' hle hrr [(X,.mp kd (mE m1++(key,.o s.n)::mE m2)),(s.n,.ab (F.D x f1)),(s.n+1,.ab (qc F ((m1++m2).map (·.2)) f2))] (iN:=[(X,.ab (mapA F kd (m1.map er++(key,x)::m2.map er) (b::f')))]) (n3 hl) ?_ ?_ ?_ s.ρ
 ·rw[hnn]at hsw;exact h H' a w (hg.up (λ_ _ h=>by rw[hrr];exact h)) hsw (ha.mono hle)
 ·intro y hy;simp only[aF,dm,or_false]at hy;rcases hy with rfl|rfl|rfl
  ·refine⟨b,arr,clock,hsv.trans e2,h1,?_,h3.2.1,h3.2.2⟩;have h0:=h3.1;rw[aP,bb]at h0;obtain⟨c1,c3,hc,hc1,hc3⟩:=ee.1 h0;obtain⟨e,c2,rfl,he,hc2⟩:=c_.1 hc3;rw[hc];simp only[bK]at he;refine x9.2 ⟨c1,e::c2,rfl,Ax hc1,he.1,.o (by rw[hnn];omega) (by rw[hv0];exact he.2.symm) (by rw[he.2];exact F.ow _ _ _ _ _ _ hD),Ax hc2⟩
  ·show (F.D x f1).P H'.ro (H'.bl s.n) (H'.sv s.n) w;rw[hb0,hv0,hrr];exact hD
  show pM F H'.ro w _ f2;rw[hrr,aP];exact hbag
 ·intro y hy;simp only[aF,dm,or_false]at hy;rcases hy with rfl|rfl|rfl
  ·exact a_ hX hle.n
  ·show s.n<H'.n;omega
  show s.n+1<H'.n;omega
 have hbv:ju (H'.sv X)=[b]:=by rw[hsv,e2];rfl
 show (ju (H'.sv X)++((F.D x f1).fp++(f2++[]))).Perm ((b::f')++[]);rw[hbv,F.fpE];simp only[aZ,List.singleton_append];exact hpf.symm.cons b
def JK.s_ {α:Type} {F:qZ α} {kd:Option IntKind} {m1 m2:List (Value×α×Value)} {key:Value} {x:α} {f1 f2:List Nat} (X Y R:Nat) (hl:gW s.σ X=some (.mp kd (mE m1++(key,.o Y)::mE m2))) (hy:gW (jQ s.σ X) Y=some (.ab (F.D x f1)))
  (hr:gW (jQ (jQ s.σ X) Y) R=some (.ab (qc F ((m1++m2).map (·.2)) f2)))
  (h:∀(f:List Nat),kG (jQ (jQ (jQ s.σ X) Y) R) λσ=>JK cx T k ⟨s.ρ,(X,.ab (mapA F kd (m1.map er++(key,x)::m2.map er) f))::σ,s.n⟩):JK cx T k s:=by
 intro H a w hg hs ha;have hp:s.σ.Perm ([(X,.mp kd (mE m1++(key,.o Y)::mE m2)),(Y,.ab (F.D x f1)),(R,.ab (qc F ((m1++m2).map (·.2)) f2))]++jQ (jQ (jQ s.σ X) Y) R):=
  (n3 hl).trans (((n3 hy).trans ((n3 hr).cons _)).cons _)
 obtain⟨b,arr,clock,e2,h1,hm⟩:=hs.sat.holds _ (ib hl);have hD:(F.D x f1).P H.ro (H.bl Y) (H.sv Y) w:=hs.sat.holds _ (hp.mem_iff.2 (by simp:(Y,hY.ab (F.D x f1))∈_));have hb2:pM F H.ro w ((m1++m2).map (·.2)) f2:=hs.sat.holds _ (hp.mem_iff.2 (by simp:(R,hY.ab (qc F ((m1++m2).map (·.2)) f2))∈_));rw[aP]at hb2;obtain⟨f,hpf,hbag⟩:=Eo hD hb2;have h:=h (b::f);simp only[jy]at h;have hX:X<H.n:=hs.sat.ids _ (ib hl);have hn:=hs.n;have hsw:=iQ.swap hs H (Hid.le.refl H) rfl [(X,.ab (mapA F kd (m1.map er++(key,x)::m2.map er) (b::f)))] hp ?_ ?_ ?_ s.ρ
 ·rw[hn]at hsw;exact h H a w hg hsw ha
 ·intro z hz;rw[aH.1 hz];refine⟨m1++(key,x,H.sv Y)::m2,b,arr,clock,f,aA,e2,rfl,h1,⟨?_,hm.sorts,hm.st⟩,by rw[aP,bb];exact hbag⟩;obtain⟨c1,c3,hc,hc1,hc3⟩:=x9.1 hm.is;rw[hc];cases c3 with
  |nil=>exact hc3.elim
  |cons e c2=>
   obtain⟨q1,q2,q3⟩:=hc3;have q4:e.val=H.sv Y:=by
    cases q2 with
    |ro h=>cases h
    |o _ h _=>exact h.symm
   rw[aP,bb,aP,bb,xj hc1,xj q3,q1,q4]
 ·intro z hz;rw[aH.1 hz];exact hX
 have hbv:ju (H.sv X)=[b]:=by rw[e2];rfl
 show ((b::f)++[]).Perm (ju (H.sv X)++((F.D x f1).fp++(f2++[])));rw[hbv,F.fpE];simp only[aZ,List.singleton_append];exact hpf.cons b
end
abbrev jA(l:List Int):List (List GV):=l.map λi=>[GV.v (.int .i64 i)]
def tX(ty:Nat):qZ (List Int) where
 D:=λl f=>pack 1 [(0,.row ty 1 (jA l))] f
 fpE:=λ_ _=>rfl
 ow:=λa f ro b v w h=>by
  obtain⟨Hl,_,_,rfl,_,h1,_,_⟩:=h;obtain⟨xs,⟨_,ho⟩,_⟩:=h1 _ (aH.2 rfl);rcases ho with ⟨h,_⟩|⟨g,cap,cur,h,_⟩<;>rw[h] <;>rfl
def KB(ty:Nat):qZ (List (Value×List Int)):=Gl (tX ty) none
abbrev UK(l:List (Value×List Int)):List (Value×GV):=l.map λx=>(x.1,GV.sl 1 (jA x.2))
def sH:qZ (List (Value×List Int)) where
 D:=λl f=>pack 1 [(0,.mp none (UK l))] f
 fpE:=λ_ _=>rfl
 ow:=λa f ro b v w h=>by
  obtain⟨Hl,_,_,rfl,_,h1,_,_⟩:=h;obtain⟨b,arr,clock,h,_⟩:=h1 _ (aH.2 rfl);rw[h];rfl
def Ng{α:Type}(F G:qZ α):Prop:=∀a f ro b v (w:World),(F.D a f).P ro b v w->∃f' z b',(f'++z).Perm f/\∀ro':Nat->Option Obj,(∀c o,ro c=some o->ro' c=some o)->(∀c∈z,ro' c=w.heap[c]?)->(G.D a f').P ro' b' v w
def JP{α:Type}{F G:qZ α}(hF:Ng F G){ro:Nat->Option Obj}{w:World}:∀{l:List (α×Value)} {f:List Nat},pM F ro w l f->∃f' z,(f'++z).Perm f/\∀ro':Nat->Option Obj,(∀c o,ro c=some o->ro' c=some o)->(∀c∈z,ro' c=w.heap[c]?)->pM G ro' w l f'
 | [],f,h=>⟨[],[],by rw[show f=[] from h];exact .refl _,λ_ _ _=>rfl⟩
 | (a,u)::r,f,h=>by
  obtain⟨b,f1,f2,rfl,h1,h2⟩:=h;obtain⟨g1,z1,b1,p1,k1⟩:=hF a f1 ro b u w h1;obtain⟨g2,z2,p2,k2⟩:=JP hF h2;refine⟨g1++g2,z1++z2,(List.Perm.trans ?_ (p1.append p2)),λro' hro hz=>⟨b1,g1,g2,rfl,k1 ro' hro λc hc=>hz c (by simp[hc]),k2 ro' hro λc hc=>hz c (by simp[hc])⟩⟩;rw[aS,aS];refine List.Perm.append_left g1 ?_;rw[<-aS,<-aS];exact dt.append_right z2
def Ss{α:Type}{F G:qZ α}(hF:Ng F G)(kd:Option IntKind):Ng (Gl F kd) (Gl G kd):=by
 intro l f ro b v w h;obtain⟨l',bm,arr,clock,f2,e1,e2,rfl,h1,h3,h2⟩:=h;obtain⟨f',z,hp,hk⟩:=JP hF h2;exact⟨bm::f',z,b,by simpa using hp,λro' hro hz=>⟨l',bm,arr,clock,f',e1,e2,rfl,h1,h3,hk ro' hro hz⟩⟩
def HE{ty:Nat}{ro:Nat->Option Obj}{w:World}:∀{m:List (Value×List Int×Value)} {es:List MapEntry} {f:List Nat},pM (tX ty) ro w (m.map (·.2)) f->(es.map λe=>(e.key,e.val))=m.map kv->∀H':Hid,(∀c o,ro c=some o->H'.ro c=some o)->(∀c∈f,H'.ro c=w.heap[c]?)->mT H' (UK (m.map er)) es
 | [],[],_,_,_,_,_,_=>trivial
 |x::r,e::s,f,h,he,H',hro,hz=>by
  obtain⟨b,f1,f2,rfl,h1,h2⟩:=h;simp only[bb,gO,bK]at he;obtain⟨Hl,_,_,hv,hr,hh,_,hf⟩:=h1;obtain⟨xs,hown,hrow⟩:=hh _ (aH.2 rfl);refine⟨he.1.1,?_,HE h2 he.2 H' hro λc hc=>hz c (by simp[hc])⟩;rw[he.1.2];refine .ro (hrow.sl (λc o hc=>hro c o (hr c o hc)) (w:=w) (ty:=ty) ?_ λc hc=>hz c ?_)
  ·rw[<-hv];exact hown
  rw[<-hf];refine aE.2 (.inl ?_);show c∈(Hl.sv 0).ownBlock.toList++[];rw[hv,hc];simp
 | [],_::_,_,_,he,_,_,_=>by simp at he
 |_::_,[],_,_,he,_,_,_=>by simp at he
def Rp(ty:Nat):Ng (KB ty) sH:=by
 intro l f ro b v w h;obtain⟨l',bm,arr,clock,f2,rfl,e2,rfl,h1,h3,h2⟩:=h;refine⟨[bm],f2,b,aA,λro' hro hz=>⟨⟨ro',λ_=>b,λ_=>v,1⟩,rfl,rfl,rfl,λ_ _ h=>h,λx hx=>?_,λx hx=>?_,?_⟩⟩
 ·rw[aH.1 hx];exact⟨bm,arr,clock,e2,h1,HE h2 h3.1 ⟨ro',λ_=>b,λ_=>v,1⟩ hro hz,h3.2.1,h3.2.2⟩
 ·rw[aH.1 hx];exact Nat.zero_lt_one
 show ju v++[]=[bm];rw[e2];rfl
section
variable {cx:Cx}{T:jz}{k:List It}{s:St}
def JK.Vd {α:Type} {F G:qZ α} (hF:Ng F G) {a:α} {f:List Nat} (X:Nat) (hl:gW s.σ X=some (.ab (F.D a f))) (hb:∀f ro b b' v w,(G.D a f).P ro b v w->(G.D a f).P ro b' v w)
  (h:∀f',kG (jQ s.σ X) λσ=>JK cx T k ⟨s.ρ,(X,.ab (G.D a f'))::σ,s.n⟩):JK cx T k s:=by
 intro H ac w hg hs ha;have hp:=n3 hl;have hD:(F.D a f).P H.ro (H.bl X) (H.sv X) w:=hs.sat.holds _ (ib hl);obtain⟨f',z,b',hpf,hk⟩:=hF a f _ _ _ _ hD;have h:=h f';simp only[jy]at h;have hbl:(g_ H s.σ).Perm ((f'++z)++g_ H (jQ s.σ X)):=by
  refine (gJ (blocks H) hp).trans ?_;show ((F.D a f).fp++g_ H (jQ s.σ X)).Perm _;rw[F.fpE];exact hpf.symm.append_right _
 have hnd:=hbl.nodup_iff.1 hs.sat.nodup;have hfree:∀c∈z,H.ro c=none:=λc hc=>hs.sat.free c (hbl.mem_iff.2 (by simp[hc]))
 let ro':Nat->Option Obj:=λc=>if c∈z then w.heap[c]? else H.ro c
 have hro:∀c o,H.ro c=some o->ro' c=some o:=λc o ho=>by
  show (if _ then _ else _)=_;rw[if_neg λhc=>by rw[hfree c hc]at ho;cases ho];exact ho
 let H':Hid:={H with ro:=ro'}
 have hle:H.le H':=⟨aL _,hro,λ_ _=>rfl,λ_ _=>rfl⟩;have hkeep:∀x∈jQ s.σ X,x∈s.σ:=λx hx=>hp.mem_iff.2 (by simp[hx]);have hkb:g_ H' (jQ s.σ X)=g_ H (jQ s.σ X):=nD hle λx hx=>hs.sat.ids x (hkeep x hx);have hnew:g_ H' ((X,.ab (G.D a f'))::jQ s.σ X)=f'++g_ H (jQ s.σ X):=by
  rw[iD,hkb];show (G.D a f').fp++_=_;rw[G.fpE]
 have hin:∀c∈f'++g_ H (jQ s.σ X),c∈g_ H s.σ/\c∉z:=λc hc=>by
  refine⟨hbl.mem_iff.2 ?_,λhz=>?_⟩
  ·rcases aE.1 hc with h|h<;>simp[h]
  have n1:=a8.1 hnd;have n2:=a8.1 n1.1;rcases aE.1 hc with h|h
  ·exact n2.2.2 c h c hz rfl
  exact n1.2.2 c (by simp[hz]) c h rfl
 refine h H' ac w (hg.up hro) ⟨hs.n,⟨λc o ho=>?_,λx hx=>?_,?_,λc hc=>?_,λx hx=>?_⟩,?_⟩ (ha.mono hle)
 ·have ho':(if c∈z then w.heap[c]? else H.ro c)=some o:=ho;split at ho'
  ·exact ho'
  exact hs.sat.ro c o ho'
 ·rcases aF.1 hx with rfl|hx
  ·exact hb _ _ _ _ _ _ (hk ro' hro λc hc=>if_pos hc)
  exact nO hle (hs.sat.ids x (hkeep x hx)) (hs.sat.holds x (hkeep x hx))
 ·rw[hnew];have n1:=a8.1 hnd;exact a8.2 ⟨(a8.1 n1.1).1,n1.2.1,λc hc d hd=>n1.2.2 c (by simp[hc]) d hd⟩
 ·rw[hnew]at hc;show (if c∈z then w.heap[c]? else H.ro c)=none;rw[if_neg (hin c hc).2];exact hs.sat.free c (hin c hc).1
 ·rcases aF.1 hx with rfl|hx
  ·exact hs.sat.ids (X,.ab (F.D a f)) (ib hl)
  exact hs.sat.ids x (hkeep x hx)
 have hfr:=hs.fr;refine⟨hfr.os,hfr.tape,hfr.output,hfr.size,hfr.keep,λc hc=>?_,λc h1 h2=>?_,hfr.le.trans hle⟩
 ·rw[hnew]at hc;exact hfr.own c (hin c hc).1
 have h2':(if c∈z then w.heap[c]? else H.ro c)≠none:=h2;split at h2'
 ·rename_i hc
  exact hfr.own c (hbl.mem_iff.2 (by simp[hc]))
 exact hfr.fro c h1 h2'
def JK.Uk {ty:Nat} {l:List (Value×List (Value×List Int))} {f:List Nat} (X:Nat) (hl:gW s.σ X=some (.ab (mapA (KB ty) none l f)))
  (h:∀f',kG (jQ s.σ X) λσ=>JK cx T k ⟨s.ρ,(X,.ab (mapA sH none l f'))::σ,s.n⟩):JK cx T k s:=
 JK.Vd (F:=Gl (KB ty) none) (G:=Gl sH none) (Ss (Rp ty) none) X hl (λ_ _ _ _ _ _ h=>h) h
end
def xZ{a b:ByteArray}:iA (.string a) (.string b)=true↔a=b:=by
 constructor
 ·intro h;have:=kH (kd:=none) rfl rfl h;injection this
 rintro rfl;exact lj (kd:=none) rfl
def Jt{a b:ByteArray}(h:a≠b):iA (.string a) (.string b)=false:=by
 cases hv:iA (.string a) (.string b) with
 |false=>rfl
 |true=>exact absurd (xZ.1 hv) h
def xX{k:Value}{b:List (Value×GV)}:∀{a:List (Value×GV)},(∀y∈a,iA k y.1=false)->jl k (a++b)=jl k b
 | [],_=>rfl
 | (k',g)::r,h=>by
  show jl k ((k',g)::(r++b))=_;rw[jl,if_neg (by rw[h (k',g) aA];decide),xX (a:=r) λy hy=>h y (by simp[hy])]
def zI{k:Value}{g:GV}{b:List (Value×GV)}:∀{a:List (Value×GV)},(∀y∈a,iA k y.1=false)->jB k g (a++b)=a++jB k g b
 | [],_=>rfl
 | (k',g')::r,h=>by
  show jB k g ((k',g')::(r++b))=_;rw[jB,if_neg (by rw[h (k',g') aA];decide),zI (a:=r) λy hy=>h y (by simp[hy])];rfl
section
variable {α:Type}{s:ByteArray}{m m1 m2:List (Value×α×Value)}{g g':GV}
def v8{α:Type}(s:ByteArray)(m:List (Value×α×Value)):Prop:=∀x∈m,∃t,x.1=.string t/\s≠t
def v8.vk(h:v8 s m):∀y∈mE m,iA (.string s) y.1=false:=λy hy=>by
 obtain⟨x,hx,rfl⟩:=ba.1 hy;obtain⟨t,e,hn⟩:=h x hx;show iA _ x.1=false;rw[e];exact Jt hn
def oQ(h:v8 s m1):jl (.string s) (mE m1++(.string s,g)::mE m2)=some g:=by
 rw[xX h.vk,jl,if_pos (xZ.2 rfl)]
def wV(h:v8 s m):jl (.string s) (mE m)=none:=by
 have:=xX (b:=[]) h.vk;rw[aZ]at this;rw[this];rfl
def Jr(h:v8 s m1):jB (.string s) g (mE m1++(.string s,g')::mE m2)=mE m1++(.string s,g)::mE m2:=by
 rw[zI h.vk,jB,if_pos (xZ.2 rfl)]
def zu(h:v8 s m):jB (.string s) g (mE m)=mE m++(.string s,g)::mE ([]:List (Value×α×Value)):=by
 have:=zI (g:=g) (b:=[]) h.vk;rw[aZ]at this;rw[this];rfl
def zm(f:Nat->Nat):∀m:List (Value×α×Value),jS f (mE m)=mE m
 | []=>rfl
 |x::r=>by
  show (x.1,GV.v x.2.2)::jS f (mE r)=(x.1,GV.v x.2.2)::mE r;rw[zm f r]
def zB(n:Nat):∀m:List (Value×α×Value),mM n (mE m)=true
 | []=>rfl
 |x::r=>by
  show mM n ((x.1,GV.v x.2.2)::mE r)=true;rw[mM,zB n r];rfl
def Od(f:Nat->Nat)(a b:List (Value×GV)):jS f (a++b)=jS f a++jS f b:=by unfold jS;rw[aP]
def Hz(n:Nat):∀a b:List (Value×GV),mM n (a++b)=(mM n a&&mM n b)
 | [],b=>rfl
 |x::r,b=>by
  show mM n (x::(r++b))=_;rw[mM,mM,Hz n r b,Bool.and_assoc]
def lP{n Y:Nat}{k:Value}:mM n (mE m1++(k,GV.o Y)::mE m2)=Nat.blt Y n:=by
 rw[Hz,zB,mM,zB];simp[iy]
def uS{n Y:Nat}{k:Value}:mM n (mE m1++[(k,GV.o Y)])=Nat.blt Y n:=by
 have:=lP (n:=n) (Y:=Y) (k:=k) (m1:=m1) (m2:=([]:List (Value×α×Value)));exact this
def kV{f:Nat->Nat}{Y:Nat}{k:Value}:jS f (mE m1++(k,GV.o Y)::mE m2)=mE m1++(k,GV.o (f Y))::mE m2:=by
 rw[Od,zm];have:jS f ((k,GV.o Y)::mE m2)=(k,GV.o (f Y))::jS f (mE m2):=rfl;rw[this,zm]
end
section
variable {cx:Cx}{T:jz}{k:List It}{s:St}
def JK.R9 {kd:Option IntKind} {es:List (Value×GV)} {fp:List Nat} (id:Nat) (hl:gW s.σ id=some (.ab (GK.pack 1 [(0,.mp kd es)] fp))) (he:∀f,jS f es=es)
  (h:kG (jQ s.σ id) λσ=>kW (s.n+1) λm=>JK cx T k ⟨s.ρ,(id,.mp kd es)::σ,m⟩):JK cx T k s:=by
 refine JK.unpack id hl ?_;rw[jy,j9]at h|-;have e:mm (yW id s.n) [(0,.mp kd es)]=[(id,.mp kd es)]:=by
  show [(yW id s.n 0,hY.mp kd (jS _ es))]=_;rw[he];rfl
 rw[e];exact h
def JK.U3{α:Type}(F:qZ α)(h:kW s.n λR=>kW (s.n+1) λn=>kG s.σ λσ=>JK cx T k ⟨s.ρ,(R,.ab (qc F [] []))::σ,n⟩):JK cx T k s:=by
 intro H a w hg hs ha;simp only[j9,jy]at h;have hle:=H.uX 1 (λ_=>0) (λ_=>undef);have hn:=hs.n;have hnn:(H.plus 1 (λ_=>0) (λ_=>undef)).n=s.n+1:=by rw[<-hn];rfl
 have hrr:(H.plus 1 (λ_=>0) (λ_=>undef)).ro=H.ro:=rfl;generalize H.plus 1 (λ_=>0) (λ_=>undef)=H' at hle hnn hrr;have hsw:=iQ.swap hs H' hle hrr [(s.n,.ab (qc F [] []))] (iN:=[]) (.refl _) (λx hx=>by rw[aH.1 hx];rfl) (λx hx=>by
  rw[aH.1 hx];show s.n<H'.n;omega) (.refl _) s.ρ
 rw[hnn]at hsw;exact h H' a w (hg.up (λ_ _ h=>by rw[hrr];exact h)) hsw (ha.mono hle)
end
def Dv(v:Value)(g:GV):wk where
 P:=λro _ _ _=>jM ro g v
 fp:=[]
 ex:=λ_ _ _ _ _ c hc=>by cases hc
 congr:=λ_ _ _ _ _ _ h=>h
 mono:=λ_ _ _ _ _ hro h=>h.mono hro
abbrev xt(v:Value):Exit:=.panic [{v:=v,recovered:=false}]
def NO{H:Hid}{g:GV}{u:Value}(h:Is H g u):iy 0 g=true->jM H.ro g u:=by
 have hget:∀{cs:List GV} {j:Nat} {g:GV},im 0 cs=true->cs[j]? =some g->iy 0 g=true:=by
  intro cs;induction cs with
  |nil=>intro j g _ hj;simp at hj
  |cons x r ih=>
   intro j g hb hj;simp only[im,aG]at hb;cases j with
   |zero=>simp at hj;subst hj;exact hb.1
   |succ j=>exact ih hb.2 (by simpa using hj)
 induction h with
 |ro h=>exact λ_=>h
 |p h=>intro hb;simp[iy]at hb
 |e h hs=>intro hb;simp[iy]at hb
 |o h hs h1=>intro hb;simp[iy]at hb
 |agg hl h ih=>intro hb;simp only[iy]at hb;exact .agg hl λj g hj=>ih j g hj (hget hb hj)
 |tup hl h ih=>intro hb;simp only[iy]at hb;exact .tup hl λj g hj=>ih j g hj (hget hb hj)
 |fn hl h hl' h' ih ih'=>intro hb;simp only[iy,aG]at hb;exact .fn hl (λj g hj=>ih j g hj (hget hb.1 hj)) hl' λj g hj=>ih' j g hj (hget hb.2 hj)
 |ifc h ih=>intro hb;simp only[iy]at hb;exact .ifc (ih hb)
def Vo(p:Pg)(f:FuncId)(n0:Nat)(args:List GV)(σ:Heap)(Q:GV->Heap->Nat->Prop)(R:GV->Prop):Prop:=
 ∀H us w,H.n=n0->iX p H->Cells H args us->Sat H σ w->Calls p.P f us w λe w'=>
  (∃u g H' σ',e=.returned u/\Is H' g u/\Sat H' σ' w'/\Fr H (g_ H σ) w H' (g_ H' σ') w'/\Q g σ' H'.n)\/
  (∃v g H',e=.panicked [{v:=v,recovered:=false}]/\Is H' g v/\Sat H' [] w'/\Fr H (g_ H σ) w H' [] w'/\R g/\iy 0 g=true)
structure Hx(p:Pg)(f:FuncId)(n0:Nat)(args:List GV)(σ:Heap)(Q:GV->Heap->Nat->Prop)(R:GV->Prop):Prop where
 call:∀aas w,(callFunc f aas).run p.P w=.ok (.enter f aas) w
 ct:Vo p f n0 args σ Q R
def Vb(p:Pg)(rs:List ResultVar)(Q:GV->Heap->Nat->Prop)(R:GV->Prop):jz:=λe s=>
 match e with
 | .panic ch=>∃v g X,ch=[{v:=v,recovered:=false}]/\gW s.σ X=some (.ab (Dv v g))/\R g/\iy 0 g=true
 | .ret| .normal=>(match q8 p s rs with|some gs=>Q (wG gs) s.σ s.n|none=>False)
 |_=>False
def Hx.q9 {p:Pg} {f:FuncId} {fn:Func} {c:Code} {n0 N:Nat} {args:List GV} {σ:Heap} {Q:GV->Heap->Nat->Prop} {R:GV->Prop} (hp:p.Ok) (hf:p.P.funcs[f]? =some fn) (hb:fn.body=some c) (hN:fn.ntmps=N) (hl:Nat.ble args.length N=true) {rs:Array ResultVar} (hr:fn.results=rs)
  (hc:∀aas w,(callFunc f aas).run p.P w=.ok (.enter f aas) w)
  (h:∀(H0:Hid) (S0:List Nat) (w0:World) (h0:H0.n=n0) (g0:iX p H0),JK ⟨p,N,n0,H0,S0,w0,h0,g0⟩ (Vb p rs.toList Q R) [.code c] ⟨qp 0 args,σ,n0⟩):Hx p f n0 args σ Q R:=by
 refine⟨hc,λH us w hn hg hcs hs=>?_⟩;have hl':=bA hl;have hus:us.size=args.length:=hcs.1.symm;refine calls_of_wp hf hb ?_;have hJ:=h H (g_ H σ) w hn hg H {tmps:=us++Array.replicate (fn.ntmps-us.size) undef,defers:=[]} w hg ⟨hn,hs,Fr.refl _ _ _⟩ ⟨λt g hlk=>?_,by simp[hN,hus];omega,rfl⟩
 ·refine Code.wp_mono (λe a w' hq=>?_) hJ;obtain⟨H',s',hs',ha',hT⟩:=hq;have key:(match q8 p s' rs.toList with|some gs=>Q (wG gs) s'.σ s'.n|none=>False)->a.defers=[]/\∃v,(results fn a.tmps).run p.P w'=.ok v w'/\((∃u g H' σ',Ending.returned v=.returned u/\Is H' g u/\Sat H' σ' w'/\Fr H (g_ H σ) w H' (g_ H' σ') w'/\Q g σ' H'.n)\/(∃v' g H',Ending.returned v=.panicked [{v:=v',recovered:=false}]/\Is H' g v'/\Sat H' [] w'/\Fr H (g_ H σ) w H' [] w'/\R g/\iy 0 g=true)):=by
   intro hk;cases hra:q8 p s' rs.toList with
   |none=>rw[hra]at hk;exact hk.elim
   |some gs=>
    rw[hra]at hk;obtain⟨vs,hvs,hcv⟩:=xY hp hs'.sat ha'.env hra;have hvs:(rs.toList.mapM (fun| .tmp t=>pure (a.tmps.getD t undef)| .cell c t=>do loadVar t (<-asAddr (a.tmps.getD c undef)):ResultVar->Sem Value)).run p.P w'=.ok vs w':=hvs;refine⟨ha'.defers,_,?_,.inl ⟨(if h:vs.toArray.size=1 then vs.toArray[0] else .tuple vs.toArray),wG gs,H',s'.σ,rfl,?_,hs'.sat,hs'.fr,by rw[hs'.n];exact hk⟩⟩
    ·have:(fn.results.mapM (fun| .tmp t=>pure (a.tmps.getD t undef)| .cell c t=>do loadVar t (<-asAddr (a.tmps.getD c undef)):ResultVar->Sem Value)).run p.P w'=.ok vs.toArray w':=by
      rw[hr,gp,Sem.run_map,hvs];rfl
     have e:results fn a.tmps=(fn.results.mapM (fun| .tmp t=>pure (a.tmps.getD t undef)| .cell c t=>do loadVar t (<-asAddr (a.tmps.getD c undef)):ResultVar->Sem Value) >>=λvs=>pure (if h:vs.size=1 then vs[0] else .tuple vs)):=rfl;rw[e,Sem.run_bind,this];rfl
    have hlen:=hcv.1;simp at hlen;by_cases h1:vs.toArray.size=1
    ·rw[dif_pos h1]
     match gs,hcv,hlen with
     | [g],hcv,_=>
      have:=hcv.2 0 g rfl;simp at h1
      match vs,h1 with
      | [v],_=>simpa[wG]using this
     | [],_,hlen=>simp at h1 hlen;omega
     |_::_::_,_,hlen=>simp at h1 hlen;omega
    rw[dif_neg h1]
    match gs,hcv,hlen with
    | [g],hcv,hlen=>simp at h1 hlen;omega
    | [],hcv,_=>exact .tup hcv.1 hcv.2
    |_::_::_,hcv,_=>exact .tup hcv.1 hcv.2
  cases e with
  |normal=>exact key hT
  |ret=>exact key hT
  |exit id=>exact hT.elim
  |goto l=>exact hT.elim
  |panic ch=>
   obtain⟨v,g,X,rfl,hX,hR,hid⟩:=hT;have hv:jM H'.ro g v:=hs'.sat.holds _ (ib hX);have hfr:=hs'.fr;exact⟨ha'.defers,.inr ⟨v,g,H',rfl,.ro hv,⟨hs'.sat.ro,aA,by simp[g_],by simp[g_],aA⟩,⟨hfr.os,hfr.tape,hfr.output,hfr.size,hfr.keep,aA,hfr.fro,hfr.le⟩,hR,hid⟩⟩
  |outgrown=>exact hT.elim
 obtain⟨h1,h2⟩:=wz (H:=H) (us:=us) (args:=args) (i:=0) (λj g hj=>by simpa using hcs.2 j g hj) t g hlk;have:(us++Array.replicate (fn.ntmps-us.size) undef).getD t undef=us.getD t undef:=by
  have hlt:t<us.size:=az
  simp only[bn];rw[eQ hlt]
 rw[this];exact h1
section
variable {cx:Cx}{T:jz}
def Bj{s:St}{H:Hid}{a:Act}{w:World}(hs:iQ cx H s w)(ha:kr cx H s.ρ a){v:Value}{g:GV}(hv:jM H.ro g v)(hT:T (xt v) ⟨s.ρ,(s.n,.ab (Dv v g))::s.σ,s.n+1⟩):post cx T (xt v) a w:=by
 have hle:=H.uX 1 (λ_=>0) (λ_=>undef);have hn:=hs.n;have hnn:(H.plus 1 (λ_=>0) (λ_=>undef)).n=s.n+1:=by rw[<-hn];rfl
 have hrr:(H.plus 1 (λ_=>0) (λ_=>undef)).ro=H.ro:=rfl;generalize H.plus 1 (λ_=>0) (λ_=>undef)=H' at hle hnn hrr;have hsw:=iQ.swap hs H' hle hrr [(s.n,.ab (Dv v g))] (iN:=[]) (.refl _) (λx hx=>by
  rw[aH.1 hx];show jM H'.ro g v;rw[hrr];exact hv) (λx hx=>by
  rw[aH.1 hx];show s.n<H'.n;omega) (.refl _) s.ρ
 rw[hnn]at hsw;exact⟨H',_,hsw,ha.mono hle,hT⟩
def JK.throw {all:List Oper} {o:Oper} {rest:List Oper} {k:List It} {s:St} {x:Operand} {t:TypeId} {g:GV} (ho:o.op=.panic x) (hgd:mS all s.ρ o.guard=true) (hx:ev cx.pg s.ρ x=some (.ifc t g)) (hb:iy 0 g=true)
  (hT:∀v X σ n,gW σ X=some (.ab (Dv v (.ifc t g)))->T (xt v) ⟨s.ρ,σ,n⟩):JK cx T (.ops false all (o::rest)::k) s:=by
 intro H a w hg hs ha;have hw:=j_ (o:=o) ha.env hgd;have hu0:=iE hg ha.env hx;obtain⟨u,hu,hi⟩:=hu0.rQ;have hr:jM H.ro (.ifc t g) (.iface t u):=.ifc (NO hi hb);show wpList _ _ _ _ _ _;unfold wpList;rw[if_pos hw];refine .inl ?_;unfold Oper.wp;have hrun:(execOp a.eval o).run cx.pg.P w=.halt (.panic (.iface t u)) w:=by
  simp only[execOp,ho,hu,Instr.panic];rfl
 rw[hrun,Oper.upon_panic,oJ];exact Bj hs ha hr (hT _ s.n _ _ (by unfold gW;rw[gB];rfl))
def JK.UG {all:List Oper} {o:Oper} {rest:List Oper} {k:List It} {s:St} {f:FuncId} {m:Nat} {cargs gs:List GV} {σc:Heap} {Q:GV->Heap->Nat->Prop} {R:GV->Prop} (hr:Hx cx.pg f m cargs σc Q R) (r:Nat->Nat) (hk:mQ cx.pg all s.ρ o=some (f,gs)) (hargs:gs=j4 r cargs) (hσ:o7 r σc s.σ)
  (chk:(im m cargs&&iL m σc&&iu (iv r σc))=true) (hrn:∀i,i<m->r i<s.n)
  (hT:∀g v X σ n,R g->iy 0 g=true->gW σ X=some (.ab (Dv v g))->T (xt v) ⟨s.ρ,σ,n⟩)
  (h:∀g σ' n',Q g σ' n'->nf (jW (sh r m s.n) g) λg=>kG (mm (sh r m s.n) σ'++jr (iv r σc) s.σ) λσ=>kW (s.n+(n'-m)) λn=>lB cx.N s.ρ o.dst g λρ'=>JK cx T (.ops false all rest::k) ⟨ρ',σ,n⟩):
  JK cx T (.ops false all (o::rest)::k) s:=by
 obtain⟨fo,args,ts,first,caps,gs',ho,hgd,hf,he,hargs'⟩:=mu hk;intro H a w hg hs ha;have hw:=j_ (o:=o) ha.env hgd;show wpList _ _ _ _ _ _;unfold wpList;rw[if_pos hw];refine .inl ?_;simp only[aG]at chk;obtain⟨⟨h1,h2⟩,h3⟩:=chk;obtain⟨us,hc,hex⟩:=tx (ts:=ts) hg ha.env hf he hr.call;rw[hargs',hargs]at hc;have hpart:=(hs.sat.part hσ h2 h3).1;have hC:=hr.ct (H.via r m) us w rfl hg.re (Cm hc h1) hpart;unfold Oper.wp;rw[hex o ho w,Oper.upon_enter];refine hC.mono ?_;rintro e w' (⟨u,g,H',σ',rfl,hi,hs',hfr,hQ⟩|⟨v,g,H',rfl,hi,hs',hfr,hR,hid⟩)
 ·obtain⟨H'',hle,hren,hsim⟩:=hs.call hσ h2 h3 hrn hs' hfr s.ρ;have hd:=h g σ' H'.n hQ;simp only[nc,jy,j9,oh]at hd;obtain⟨ρ',ha',hJ⟩:=(ha.mono hle).iO (hren g u hi) hd;exact hJ H'' (a.put o.dst u) w' (hg.mono hle) (hsim.ρ ρ') ha'
 obtain⟨H'',hle,hren,hsim⟩:=hs.call hσ h2 h3 hrn hs' hfr s.ρ;have hg2:=hren g v hi;rw[o4 _ hid]at hg2;show cont cx.pg.P (post cx T) _ (xt v) a w';rw[oJ];exact Bj hsim (ha.mono hle) (NO hg2 hid) (hT g v _ _ _ hR hid (by unfold gW;rw[gB];rfl))
end
def Hx.jK {p:Pg} {f:FuncId} {n0:Nat} {args:List GV} {σ:Heap} {Q Q':GV->Heap->Nat->Prop} {R R':GV->Prop} (h:Hx p f n0 args σ Q R) (hR:∀g,R g->R' g)
  (hQ:∀g σ' n',Q g σ' n'->∃(r:Nat->Nat) (g0:GV) (τ:Heap) (m:Nat),Q' g0 τ m/\g=jW r g0/\o7 r τ σ'/\(iy m g0&&iL m τ&&iu (iv r τ)&&jf r n0&&Nat.ble n0 m)=true):Hx p f n0 args σ Q' R':=by
 refine⟨h.call,λH us w hn hg hc hs=>(Calls.mono (h.ct H us w hn hg hc hs) (λe w' he=>?_))⟩;rcases he with ⟨u,g,H',σ',rfl,hi,hs',hfr,hq⟩|⟨v,g,H',rfl,hi,hs',hfr,hr,hb⟩
 ·obtain⟨r,g0,τ,m,hq',rfl,hl,hchk⟩:=hQ g σ' _ hq;obtain⟨h1,h2,h3,h4,h5⟩:=O_ hchk;obtain⟨hsat,hbl⟩:=hs'.part hl h2 h3;have hfix:=xV h4;have hm:=bA h5;refine .inl ⟨u,g0,H'.via r m,τ,rfl,ql hi h1,hsat,⟨hfr.os,hfr.tape,hfr.output,hfr.size,hfr.keep,λb hb=>?_,hfr.fro,⟨by rw[hn];exact hm,hfr.le.ro,λi hi=>?_,λi hi=>?_⟩⟩,hq'⟩
  ·obtain⟨x,hx,_,hbx⟩:=hbl b hb;exact hfr.own b (aX.2 ⟨x,hx,hbx⟩)
  ·show H'.bl (r i)=_;rw[hfix i az];exact hfr.le.bl i hi
  show H'.sv (r i)=_;rw[hfix i az];exact hfr.le.sv i hi
 exact .inr ⟨v,g,H',rfl,hi,hs',hfr,hR g hr,hb⟩
section
variable {cx:Cx}{T:jz}
def JK.NT {all:List Oper} {o:Oper} {rest:List Oper} {k:List It} {s:St} {t e n:Nat} {x:Operand} {ti tie:TI} {vs:List Value} (hp:cx.pg.Ok) (ho:o.op=.slice t x none none none) (hgd:mS all s.ρ o.guard=true) (ht:jv cx.pg.tt t=some ti) (htd:ti.d=.array n e) (hte:jv cx.pg.tt e=some tie) (hsz:tie.sz=1) (hx:ev cx.pg s.ρ x=some (.r (vs.map .v))) (hn:vs.length=n) (hne:Nat.ble 1 n=true) (hm:Nat.ble n maxLen=true) (h1:vs.all (·.oneCell')=true)
  (h:iO cx.N s.ρ o.dst (.sl 1 (vs.map λv=>[.v v])) λρ'=>JK cx T (.ops false all rest::k) ⟨ρ',s.σ,s.n⟩):JK cx T (.ops false all (o::rest)::k) s:=by
 intro H a w hg hs ha;have hw:=j_ (o:=o) ha.env hgd;have hu:cx.pg.P.underlying t=some (.array n e):=by have:=(hp.tt _ _ ht).d;rw[htd]at this;exact this
 have hes:=(hp.tt _ _ hte).size;obtain⟨ad,us,hv,hc,his⟩:=(iE hg ha.env hx).x5;have hb:=qI (p:=cx.pg) (isS:=false) (lo:=none) (hi:=none) (len:=n) (cap:=n) (l:=0) (h:=n) hg ha.env rfl rfl az az az az w;have hne:=bA hne;have hm:=bA hm;have had:ad.add 0=ad:=by cases ad;simp[Addr.add]
 have hrun:(execOp a.eval o).run cx.pg.P w=.ok (.value (.slice (some ad) n n)) w:=by
  have hn0:¬n=0:=az
  simp only[dG,Int.toNat_zero,bj]at hb;simp only[execOp,ho,Instr.sliceAt,Sem.run_bind,ik hu,Result.andThen_ok,hv,dG,Instr.sureAddr,Sem.run_pure,hb,hes];simp[hn0,had]
 have hval:∀(j:Nat) (v:Value),vs[j]? =some v->us j=v/\v.oneCell'=true:=λj v hj=>by
  have h2:=his j (.v v) (by rw[bg,hj];rfl);cases h2;exact⟨rfl,by
   have:=cW.1 h1 (us j) (bp hj);simpa using this⟩
 have hI:jM H.ro (.sl 1 (vs.map λv=>[.v v])) (.slice (some ad) n n):=by
  have hlen:(vs.map λv=>[GV.v v]).length=n:=by simp[hn]
  have:jM H.ro (.sl 1 (vs.map λv=>[.v v])) (.slice (some ad) (vs.map λv=>[GV.v v]).length n):=by
   refine .sl (λi j=>if j=0 then (vs[i]?).getD (.bool false) else .bool false) aA az hm ?_ ?_ ?_
   ·intro i row hi j g hj;simp only[bg,cu]at hi;obtain⟨v,hvi,rfl⟩:=hi;cases j with
    |succ j=>simp at hj
    |zero=>
     have:=hc i (.v v) (by rw[bg,hvi];rfl);rw[(hval i v hvi).1]at this;simpa[hvi]using this
   ·intro i row hi j g hj;simp only[bg,cu]at hi;obtain⟨v,hvi,rfl⟩:=hi;cases j with
    |succ j=>simp at hj
    |zero=>simp at hj;subst hj;simpa[hvi]using jM.v (ro:=H.ro) v
   intro i j;by_cases hj:j=0
   ·rw[if_pos hj];cases hvi:vs[i]? with
    |none=>rfl
    |some v=>exact (hval i v hvi).2
   rw[if_neg hj];rfl
  rwa [hlen]at this
 obtain⟨ρ',ha',hJ⟩:=ha.iO (.ro hI) h;exact lC hw hrun (hJ H (a.put o.dst _) w hg (hs.ρ ρ') ha')
end
section
variable {cx:Cx}{T:jz}
end
def Rq.MZ {p:Pg} {f:FuncId} (hc:∀a w,(callFunc f a).run p.P w=.ok (.enter f a) w) (vs:List Value) (Q:GV->Prop)
  (h:∀H w,iX p H->(∀b o,H.ro b=some o->w.heap[b]? =some o)->Calls p.P f vs.toArray w λe w'=>∃u g,e=.returned u/\Below w.heap.size w w'/\(∀ro,jM ro g u)/\Q g/\iy 0 g=true):Rq p f (vs.map .v) Q:=by
 refine⟨hc,λH us w hn hg hcs hs=>?_⟩;rw[uq hcs];refine Calls.mono (h H w hg hs.ro) (λe w' he=>?_);obtain⟨u,g,rfl,hb,hi,hq,hid⟩:=he;exact⟨u,g,H,[],rfl,.ro (hi H.ro),hs.below hb,Fr.x_ hb,⟨hq,hid⟩,rfl,hn⟩
def iX.Uu{p:Pg}{H:Hid}{w:World}(hg:iX p H)(hro:∀b o,H.ro b=some o->w.heap[b]? =some o){g:Nat}{cs:List GV}(hl:look p.gl g=some (.r cs)){j:Nat}{x:GV}(hj:cs[j]? =some x):∃u,w.cell? ⟨g,j,none⟩=some u/\jM H.ro x u:=by
 have h:=hg g _ hl;cases h with
 |r us h1 h2=>
  refine⟨us j,?_,h2 j x hj⟩;have:=pU hro (h1 j x hj);rw[j5]at this;simpa using this
def iX.k_{p:Pg}{H:Hid}{w:World}(hg:iX p H)(hro:∀b o,H.ro b=some o->w.heap[b]? =some o){g:Nat}{vs:List Value}(hl:look p.gl g=some (.r (vs.map .v))):∃ty fz,w.heap[g]? =some (.cells vs.toArray ty fz):=by
 obtain⟨c,ty,fz,e,hz⟩:=hg.ex g _ hl;refine⟨ty,fz,?_⟩;have hc:c=vs.toArray:=by
  refine dW (by simpa using hz) (λi h1 h2=>?_);have h2':i<vs.length:=by simpa using h2
  obtain⟨u,hu,hi⟩:=hg.Uu hro hl (j:=i) (x:=.v vs[i]) (by simp[h2']);cases hi;unfold World.cell? at hu;rw[hro _ _ e]at hu;simp[h1]at hu;simpa using hu
 rw[<-hc];exact hro _ _ e
end Go.GK
namespace Go.GK
open Go.ChangeShapes Go.WideShapes
open IntKind
def mB(W:World)(g:Nat)(gv:GV):Prop:=∀H:Hid,H.ro=sf W->jM H.ro gv (.pointer (some ⟨g,0,none⟩))/\∀cs,gv=.r cs->∃c ty fz,H.ro g=some (.cells c ty fz)/\c.size=cs.length
def BK:∀{l:Env} {g:Nat} {gv:GV},look l g=some gv->(g,gv)∈l
 | [],_,_,h=>by simp[look]at h
 | (g',x)::l,g,gv,h=>by
  unfold look at h;cases hb:Nat.beq g' g with
  |true=>
   rw[hb]at h;simp only[cond_true,aV]at h;subst h;have:=fG hb;subst this;exact bf
  |false=>
   rw[hb]at h;exact aK _ (BK h)
def iX.Sd{p:Pg}{W:World}(h:∀x∈p.gl,mB W x.1 x.2):∀H:Hid,H.ro=sf W->iX p H:=λH hro=>
 ⟨λg gv hl=>(h _ (BK hl) H hro).1,λg cs hl=>(h _ (BK hl) H hro).2 cs rfl⟩
def mB.DQ{P:Program}{W:World}{n:String}{g:Nat}{cs:Array Value}{vs:List Value}(hg:P.globalNamed n=some g)(hv:W.var? P n=some cs)(h:cs.toList=vs):mB W g (.r (vs.map .v)):=by
 intro H hro;have hc:∀i,W.cell? ⟨g,i,none⟩=vs[i]? :=λi=>by
  rw[World.var?_cell hg hv i,<-h];simp
 refine⟨?_,λcs' he=>?_⟩
 ·refine .r (λj=>(vs[j]?).getD undef) (λj gv hj=>?_) (λj gv hj=>?_)
  ·rw[hro,j5,cy];have hj':j<vs.length:=by have:=(aO.1 hj).1;simpa using this
   have:=hc j;rw[aC hj']at this|-;exact this
  have hj':j<vs.length:=by have:=(aO.1 hj).1;simpa using this
  rw[bg,aC hj']at hj;simp only[cC,aV]at hj;subst hj;rw[aC hj'];exact .v _
 cases he;have hv':=hv;simp only[World.var?,hg,Option.bind_some]at hv';rw[hro];unfold sf;cases ho:W.heap[g]? with
 |none=>rw[ho]at hv';cases hv'
 |some o=>
  rw[ho]at hv';cases o with
  |cells c ty fz=>
   simp only[aV]at hv';subst hv';exact⟨_,ty,fz,rfl,by rw[aD,<-h];simp⟩
  |_=>cases hv'
def Oz {Hh:Type} {enc:TypeId×Value->Hh} {P:Program} {w:World} {base:Nat} {spare:Nat->Bool} {held:Bool} {n:Nat} {t e:TypeId} (ht:P.underlying t=some (.array n e)) (he:P.underlying e=some .string) (hc:P.cellsOf e=1) {zs:List (List UInt8)} (hz:zs.length=n) (hct:P.cellsOf t=n) {fuel:Nat} {cs:List Value} {ps:List MemPlace}
  (h:DataW.trod enc P w base spare held fuel t cs=some (.agg (zs.map λz=>.lit (.string z)),ps)):cs=zs.map λz=>Value.string ⟨z.toArray⟩:=by
 obtain⟨xs,m1,_,hx,hlen,hn,hel⟩:=DataW.trod_array ht h;simp only[bK,DataW.agg.injEq]at hx;rw[hct]at hlen;refine List.ext_getElem aq λi h1 h2=>?_;have hi:i<xs.length:=az
 have:=hel i az;rw[hc,cX,aC hi]at this;obtain⟨m,e1,e2,_⟩:=DataW.trod_string he this;have e3:(cs.drop i).take 1=[cs[i]]:=by rw[cn h1];rfl
 rw[e3]at e1;have e4:(zs.map λz=>DataW.lit (H:=Hh) (.string z))[i]? =(xs.map (·.1))[i]? :=by rw[hx.1]
 rw[bg,bg,aC hi,aC az,e2]at e4;simp only[cC,aV,DataW.lit.injEq,Lit.string.injEq]at e4;rw[gA,e4];have e5:(⟨m.data.toList.toArray⟩:ByteArray)=m:=by cases m;simp
 rw[e5];simpa using e1
section
variable {P:Program}{W:World}{n:String}{g:Nat}{t:TypeId}
def mB.ints{k:IntKind}{e:TypeId}{zs:List Int}(h:laidMet P [(n,.agg (zs.map λz=>.lit (.int k z)))] W)(hg:P.globalNamed n=some g)(hty:(P.globals[g]?).map (·.type)=some t)(ht:P.underlying t=some (.array zs.length e))(he:P.underlying e=some (.int k))(hc:P.cellsOf e=1)(hct:P.cellsOf t=zs.length):
  mB W g (.r ((zs.map (Value.int k)).map .v)):=by
 obtain⟨ps,⟨g0,t0,cs0,f0,p0,q0,hg0,ht0,hv0,CR,_,_⟩,_,_⟩:=h;obtain rfl:=br (hg.symm.trans hg0);obtain rfl:=br (hty.symm.trans ht0);exact .DQ hg hv0 (Qa ht he hc rfl hct CR)
def mB.strs{e:TypeId}{zs:List (List UInt8)}(h:laidMet P [(n,.agg (zs.map λz=>.lit (.string z)))] W)(hg:P.globalNamed n=some g)(hty:(P.globals[g]?).map (·.type)=some t)(ht:P.underlying t=some (.array zs.length e))(he:P.underlying e=some .string)(hc:P.cellsOf e=1)(hct:P.cellsOf t=zs.length):
  mB W g (.r ((zs.map λz=>Value.string ⟨z.toArray⟩).map .v)):=by
 obtain⟨ps,⟨g0,t0,cs0,f0,p0,q0,hg0,ht0,hv0,CR,_,_⟩,_,_⟩:=h;obtain rfl:=br (hg.symm.trans hg0);obtain rfl:=br (hty.symm.trans ht0);exact .DQ hg hv0 (Oz ht he hc rfl hct CR)
def mB.err {ms:Array (String×TypeId)} {tp te ts:TypeId} {f:Field} {nm:String} {text:List UInt8} (h:laidMet P [(n,.iface nm (.ptr (.agg [.lit (.string text)])))] W) (hg:P.globalNamed n=some g) (hty:(P.globals[g]?).map (·.type)=some t) (hi:P.underlying t=some (.interface ms)) (hrow:∀u,P.typeName? 3 u=some nm->u=tp)
  (hp:P.underlying tp=some (.pointer te)) (he:P.underlying te=some (.struct #[f])) (hft:f.type=ts) (hfo:f.offset=0) (hs:P.underlying ts=some .string) (hc:P.cellsOf te=1) (hcs:P.cellsOf ts=1):
  mB W g (.r [.ifc tp (.r [.v (.string ⟨text.toArray⟩)])]):=by
 obtain⟨a,s,hv,hcell,htx,_⟩:=laid_sentinel h hg hty hi hrow hp he hft hfo hs hc hcs;have hsx:(⟨text.toArray⟩:ByteArray)=s:=by rw[<-htx]
 rw[hsx];intro H hro;refine⟨?_,λcs' hcs'=>?_⟩
 ·refine .r (λ_=>.iface tp (.pointer (some a))) (λj gv hj=>?_) (λj gv hj=>?_)
  ·cases j with
   |zero=>
    rw[hro];have:=World.var?_cell hg hv 0;exact this
   |succ j=>simp at hj
  cases j with
  |zero=>
   simp at hj;subst hj;refine .ifc (.r (λ_=>.string s) (λj gv hj=>?_) (λj gv hj=>?_))
   ·cases j with
    |zero=>
     rw[hro];exact hcell
    |succ j=>simp at hj
   cases j with
   |zero=>simp at hj;subst hj;exact .v _
   |succ j=>simp at hj
  |succ j=>simp at hj
 cases hcs';have:=(mB.DQ hg hv rfl H hro).2 _ rfl;simpa using this
end
end Go.GK
namespace Go.GK
open Go Go.ChangeShapes Go.WideShapes Go.ChangeAt Go.RowKit Go.Deep
open IntKind
def NM(P:Program)(n:Nat):List TypeId->Option (List (Bool×List Sh))
 | []=>some []
 |t::ts=>match yO P n t,NM P n ts with
  |some ss,some r=>(match P.underlying t with
   |some (.struct _)=>some ((true,ss)::r)
   |_=>(match ss with| [s]=>some ((false,[s])::r)|_=>none))
  |_,_=>none
def ye:List (Bool×List Sh)->List GV->Prop
 | [],gs=>gs=[]
 | (true,ss)::r,gs=>∃cs q,gs=.agg cs::q/\k8 ss cs/\ye r q
 | (false,[s])::r,gs=>∃g q,gs=g::q/\fits s g/\ye r q
 | (false,[])::_,_=>False
 | (false,_::_::_)::_,_=>False
def En(ro:Nat->Option Obj)(gs:List GV)(vs:List Value):Prop:=gs.length=vs.length/\∀(j:Nat) (g:GV),gs[j]? =some g->∃u,vs[j]? =some u/\jM ro g u
def En.cons{ro:Nat->Option Obj}{g:GV}{gs:List GV}{u:Value}{us:List Value}(h:jM ro g u)(k:En ro gs us):En ro (g::gs) (u::us):=by
 refine⟨by simp[k.1],λj g' hj=>?_⟩;cases j with
 |zero=>simp at hj;subst hj;exact⟨u,rfl,h⟩
 |succ j=>exact k.2 j g' (by simpa using hj)
def yI.agg{ro:Nat->Option Obj}{gs:List GV}{us:Array Value}(h:yI ro gs us.toList):jM ro (.agg gs) (.agg us):=by
 refine .agg (by simpa using h.1) λj g hj=>?_;obtain⟨u,hu,h1,_⟩:=h.2 j g hj;have:us[j]? =some u:=by simpa using hu
 rw[zf this];exact h1
def Ga{Hh:Type}{enc:TypeId×Value->Hh}{P:Program}{w:World}{base:Nat}{spare:Nat->Bool}{held:Bool}{r:Reach}{b0:Nat}(n:Nat):∀{ts:List TypeId} {vs:List Value} {ds:List (DataW Hh)} {ps:List MemPlace} {shs:List (Bool×List Sh)},
  NM P n ts=some shs->(∀(j:Nat) t v,ts[j]? =some t->vs[j]? =some v->Value.okWide P w r b0 t v)->DataW.TrodAll enc P w base spare held ts vs ds ps->
   ∃gs,ye shs gs/\En (sf w) gs vs
 | [],vs,ds,ps,shs,hs,_,h=>by
  simp only[NM,aV]at hs;subst hs;obtain⟨rfl,_,_⟩:=trodAll_nil h;exact⟨[],rfl,rfl,aA⟩
 |t::ts,vs,ds,ps,shs,hs,hv,h=>by
  obtain⟨v,vs',d,ds',p,q,rfl,rfl,rfl,⟨fuel,h1⟩,h2⟩:=trodAll_cons h;unfold NM at hs;split at hs
  ·rename_i ss r' e1 e2
   obtain⟨gs,k1,k2⟩:=Ga n e2 (λj t v a b=>hv (j+1) t v (by simpa using a) (by simpa using b)) h2;obtain⟨gs',l1,l2⟩:=DO n fuel t _ _ _ h1 e1;split at hs
   ·rename_i fs hu
    simp only[aV]at hs;subst hs;obtain⟨cs,rfl,_⟩:=okWide_struct hu (hv 0 t v rfl rfl);exact⟨.agg gs'::gs,⟨gs',gs,rfl,l1,k1⟩,.cons l2.agg k2⟩
   rename_i hu
   split at hs
   ·rename_i s
    simp only[aV]at hs;subst hs;have hc:=Hj e1 (hv 0 t v rfl rfl) (λfs hfs=>hu fs hfs);rw[hc]at l2;have hl:=tS l1;obtain⟨g,rfl⟩:∃g,gs'=[g]:=List.length_eq_one_iff.1 hl;obtain⟨u,hu',hi,_⟩:=l2.2 0 g rfl;simp at hu';subst hu';simp only[k8]at l1;obtain⟨g1,r1,e,hf,_⟩:=l1;obtain⟨rfl,_⟩:=List.cons.inj e;exact⟨g::gs,⟨g,gs,rfl,hf,k1⟩,.cons hi k2⟩
   cases hs
  cases hs
def En.cells{H:Hid}{gs:List GV}{us:Array Value}(h:En H.ro gs us.toList):Cells H gs us:=by
 refine⟨by simpa using h.1,λj g hj=>?_⟩;obtain⟨u,hu,h1⟩:=h.2 j g hj;have:us[j]? =some u:=by simpa using hu
 rw[zf this];exact .ro h1
def Ct.UT{pg:Pg}{f:FuncId}{shs:List (Bool×List Sh)}(hct:∀gs,ye shs gs->Ct pg f 0 gs [] (uj λg=>g=.b true)){w:World}{us:Array Value}{gs:List GV}(hg:∀H:Hid,H.ro=sf w->iX pg H)(hf:ye shs gs)(hl:En (sf w) gs us.toList):
  Calls pg.P f us w λe w'=>e=.returned (.bool true)/\Below w.heap.size w w':=by
 let H:Hid:=⟨sf w,λ_=>0,λ_=>.bool false,0⟩
 refine Calls.mono (hct gs hf H us w rfl (hg H rfl) (En.cells (H:=H) hl) ⟨λb o h=>h,aA,by simp[g_],by simp[g_],aA⟩) (λe w' he=>?_);obtain⟨u,g,H',σ',rfl,hi,hs',hfr,⟨rfl,rfl,_⟩⟩:=he;refine⟨by rw[hi.nF],hfr.os,hfr.tape,hfr.output,hfr.size,λb hb=>hfr.keep b hb (by simp[g_])⟩
section
variable {Hh:Type}{enc:TypeId×Value->Hh}{pg:Pg}
def LC {fn:Func} {f:FuncId} {s:ChangeSpec} {shs:List (Bool×List Sh)} {apart fresh handsOn again:Bool} {tb:TypeId} (ts:List TypeId) (hts:fn.params.toList=ts) (hres:fn.resultTypes=#[tb]) (hb:pg.P.underlying tb=some .bool) (hvars:s.vars=[]) (hsh:NM pg.P 8 ts=some shs)
  (hlaid:laidOutB pg.P=true) (hread:ts.all (λt=>pg.P.readableRec t&&decide (t<pg.P.types.size))=true) (hfn:∀ds:List (DataW Hh),ds.length=ts.length->s.fn Hh ds={results:=[.lit (.bool true)],args:=ds})
  (hct:∀gs,ye shs gs->Ct pg f 0 gs [] (uj λg=>g=.b true))
  {W:World} {base:Nat} {args:Array Value} {ds gs:List (DataW Hh)} {before:List MemPlace} (hgl:∀H:Hid,H.ro=sf W->iX pg H)
  (hval:∀(j:Nat) t v,fn.params[j]? =some t->args[j]? =some v->Value.okWide pg.P W .any base t v) (hW:DataW.Whole enc pg.P fn.params.toList s.vars apart W args.toList ds gs before):
  Calls pg.P f args W λe W'=>∃v,e=.returned v/\s.post enc pg.P fn apart fresh handsOn again W args v W':=by
 have hW':=hW;have hlt:=hW.lt;obtain⟨p,q,hA,hV,rfl,hfz,hnd⟩:=hW;rw[hts]at hA;rw[hvars]at hV;obtain⟨rfl,rfl⟩:=trodVars_none hV;obtain⟨us,h1,h2⟩:=Ga 8 hsh (λj t v a b=>hval j t v (by rw[<-hts]at a;simpa using a) (by simpa using b)) hA;have hdl:=Bc hA;refine (Ct.UT hct hgl h1 h2).mono λe W' ⟨he,hbel⟩=>?_;have hold:∀x∈p++[],x.block<W.heap.size:=hlt;have hargs:∀sp:Nat->Bool,(∀x∈p,sp x.block=true)->DataW.TrodAll enc pg.P W' 0 sp true fn.params.toList args.toList ds p:=λsp hsp=>by
  rw[hts];refine yR hlaid hbel (λt ht=>?_) hA (λx hx=>⟨hlt x (by simp[hx]),hsp x hx⟩);have:=cW.1 hread t ht;simpa using this
 have hres':∀(b:Nat) (sp:Nat->Bool) (hd:Bool),DataW.TrodAll enc pg.P W' b sp hd fn.resultTypes.toList ((Value.bool true).resultList fn.resultTypes.size) [.lit (.bool true)] []:=λb sp hd=>by
  rw[hres];exact trodAll_mk1 (p:=[]) ⟨1,by simp[DataW.trod,Value.cells,hb]⟩
 have hvr:∀sp:Nat->Bool,DataW.TrodVars enc pg.P W' sp s.vars [] []:=λsp=>by rw[hvars];rfl
 have hspec:=hfn ds hdl;refine⟨.bool true,he,ds,[],p++[],[],p,[],hW',?_,?_,?_,World.keptBut_mono (λx hx=>⟨hx,.inr (by simpa using hx)⟩) (hbel.frame (· ∈p++[])),λ_=>⟨λj t r hj hr=>?_,.lit (.bool true)::ds,[],([]++p)++[],⟨[]++p,[],?_,?_,rfl,λb off hx=>?_,λha=>?_⟩,λx hx _=>by simpa using hx⟩⟩
 ·rw[aZ,hspec];exact hres' _ _ _
 ·rw[aZ,hspec];exact hargs _ (λx hx=>by simpa using hlt x (by simp[hx]))
 ·rw[aZ,hspec];exact hvr _
 ·rw[hres]at hj hr;cases j with
  |zero=>
   simp at hj;subst hj;simp[Value.resultList]at hr;subst hr;exact okWide_bool_mk hb _
  |succ j=>simp at hj
 ·exact trodAll_append (hargs _ (λ_ _=>rfl)) (hres' _ _ _)
 ·exact hvr _
 ·have hin:MemPlace.cell b off∈p++[]:=by simpa using hx
  rw[hbel.frozen (hlt _ hin)];exact hfz b off hin
 simpa using hnd ha
end
end Go.GK
