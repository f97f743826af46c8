/- A part of the proof of StoreGoesCardSaid. -/
import Derived.Test.YtadildidlcbbkaaGreatDoorK02
import Derived.Lib.ItoaNum
import Derived.Lib.ParseIntB
import Derived.Lib.SlTrimSet
import Derived.Sort.LotA
import Derived.Sort.LotB
import Derived.Sort.LotC
import Derived.Sort.LotD1
import Derived.Sort.LotD2
import Derived.Sort.LotD3
set_option linter.all false
namespace Go.PL
open Go Go.GK IntKind
section
variable {α:Type}
def ov(k:ByteArray)(f:α->α)(d:α):List (ByteArray×α)->List (ByteArray×α)
 | []=>[(k,f d)]
 | (k',a)::r=>if k'=k then (k',f a)::r else (k',a)::ov k f d r
def lA(k:ByteArray)(d:α):List (ByteArray×α)->α
 | []=>d
 | (k',a)::r=>if k'=k then a else lA k d r
abbrev ji(l:List (ByteArray×α)):List ByteArray:=l.map (·.1)
def B3(k k':ByteArray)(f:α->α)(d:α):∀l,lA k' d (ov k f d l)=if k'=k then f (lA k d l) else lA k' d l
 | []=>by
  unfold ov lA lA;by_cases h:k=k'
  ·subst h;simp[lA]
  rw[if_neg h,if_neg λe=>h e.symm]
 | (q,a)::r=>by
  unfold ov;by_cases h:q=k
  ·subst h;rw[if_pos rfl];unfold lA;by_cases h':q=k'
   ·subst h';rw[if_pos rfl,if_pos rfl,if_pos rfl]
   rw[if_neg h',if_neg h',if_neg λe=>h' e.symm]
  rw[if_neg h];unfold lA;rw[B3 k k' f d r];by_cases h':q=k'
  ·subst h';rw[if_pos rfl,if_pos rfl,if_neg h]
  rw[if_neg h',if_neg h',if_neg h]
def yu{k:ByteArray}{f:α->α}{d:α}:∀{l:List (ByteArray×α)},k∉ji l->ov k f d l=l++[(k,f d)]
 | [],_=>rfl
 | (q,a)::r,h=>by
  simp only[ji,bb,aF,not_or]at h;unfold ov;rw[if_neg λe=>h.1 e.symm,yu (l:=r) h.2];rfl
def vG{k:ByteArray}{f:α->α}{d a:α}{l2:List (ByteArray×α)}:∀{l1:List (ByteArray×α)},k∉ji l1->ov k f d (l1++(k,a)::l2)=l1++(k,f a)::l2
 | [],_=>by show ov k f d ((k,a)::l2)=_;unfold ov;rw[if_pos rfl];rfl
 | (q,x)::r,h=>by
  simp only[ji,bb,aF,not_or]at h;show ov k f d ((q,x)::(r++(k,a)::l2))=_;unfold ov;rw[if_neg λe=>h.1 e.symm,vG (l1:=r) h.2];rfl
def y8{k:ByteArray}:∀{l:List (ByteArray×α)},k∈ji l->∃l1 a l2,l=l1++(k,a)::l2/\k∉ji l1
 | [],h=>by cases h
 | (q,a)::r,h=>by
  by_cases e:q=k
  ·subst e;exact⟨[],a,r,rfl,aA⟩
  have h':k∈ji r:=by
   simp only[ji,bb,aF]at h;rcases h with h|h
   ·exact absurd h.symm e
   exact h
  obtain⟨l1,b,l2,rfl,hn⟩:=y8 h';refine⟨(q,a)::l1,b,l2,rfl,?_⟩;simp only[ji,bb,aF,not_or];exact⟨λe'=>e e'.symm,hn⟩
def FT{k:ByteArray}{d a:α}{l2:List (ByteArray×α)}:∀{l1:List (ByteArray×α)},k∉ji l1->lA k d (l1++(k,a)::l2)=a
 | [],_=>by show lA k d ((k,a)::l2)=_;unfold lA;rw[if_pos rfl]
 | (q,x)::r,h=>by
  simp only[ji,bb,aF,not_or]at h;show lA k d ((q,x)::(r++(k,a)::l2))=_;unfold lA;rw[if_neg λe=>h.1 e.symm,FT (l1:=r) h.2]
def Gh{k:ByteArray}{d:α}:∀{l:List (ByteArray×α)},k∉ji l->lA k d l=d
 | [],_=>rfl
 | (q,x)::r,h=>by
  simp only[ji,bb,aF,not_or]at h;unfold lA;rw[if_neg λe=>h.1 e.symm,Gh (l:=r) h.2]
def wh(k:ByteArray)(f:α->α)(d:α)(l:List (ByteArray×α)):(k∈ji l->ji (ov k f d l)=ji l)/\(k∉ji l->ji (ov k f d l)=ji l++[k]):=by
 refine⟨λh=>?_,λh=>by rw[yu h];simp[ji]⟩;obtain⟨l1,a,l2,rfl,hn⟩:=y8 h;rw[vG hn];simp[ji]
def D2(k k':ByteArray)(f:α->α)(d:α)(l:List (ByteArray×α)):k'∈ji (ov k f d l)↔k'∈ji l\/k'=k:=by
 by_cases h:k∈ji l
 ·rw[(wh k f d l).1 h];exact⟨.inl,λh'=>h'.elim id λe=>e ▸ h⟩
 rw[(wh k f d l).2 h];simp
def wO{k:ByteArray}{f:α->α}{d:α}{l:List (ByteArray×α)}(h:(ji l).Nodup):(ji (ov k f d l)).Nodup:=by
 by_cases hk:k∈ji l
 ·rw[(wh k f d l).1 hk];exact h
 rw[(wh k f d l).2 hk];refine a8.2 ⟨h,aA,λa ha b hb=>?_⟩;rw[aH.1 hb];exact λe=>hk (e ▸ ha)
end
abbrev AY:=List (ByteArray×List Int)
abbrev Ix:=List (ByteArray×AY)
def oY(i:Nat)(L:Ix)(y:Lb):Ix:=ov y.name (λM=>ov y.value (λr=>r++[(i:Int)]) [] M) [] L
def m_(S:List (List Lb)):Ix:=(S.foldl (λp s=>(p.1+1,s.foldl (oY p.1) p.2)) (0,[])).2
def SC(S:List (List Lb)):(S.foldl (λp s=>(p.1+1,s.foldl (oY p.1) p.2)) ((0,[]):Nat×Ix)).1=S.length:=by
 suffices h:∀(S:List (List Lb)) (p:Nat×Ix),(S.foldl (λp s=>(p.1+1,s.foldl (oY p.1) p.2)) p).1=p.1+S.length by rw[h];simp
 intro S;induction S with
 |nil=>intro p;rfl
 |cons x r ih=>intro p;rw[bC,ih];simp;omega
def Cb(S:List (List Lb))(s:List Lb):m_ (S++[s])=s.foldl (oY S.length) (m_ S):=by
 unfold m_;rw[bN,bC,eC,SC]
def Pj(S:List (List Lb))(i:Nat)(h:i<S.length):m_ (S.take (i+1))=S[i].foldl (oY i) (m_ (S.take i)):=by
 rw[a6 h,Cb,aY,cq (Nat.le_of_lt h)]
def xS(L:Ix)(n v:ByteArray):List Int:=lA v [] (lA n [] L)
structure vD(P:Nat->ByteArray->ByteArray->Prop)(N:Nat)(L:Ix):Prop where
 nd:(ji L).Nodup
 nd2:∀x∈L,(ji x.2).Nodup
 names:∀n,n∈ji L↔∃i v,i<N/\P i n v
 k_:∀n v,v∈ji (lA n [] L)↔∃i,i<N/\P i n v
 rows:∀n v,(xS L n v).Pairwise (· < ·)/\∀z:Int,z∈xS L n v↔∃i:Nat,z=i/\i<N/\P i n v
def FN(S:List (List Lb))(i:Nat)(n v:ByteArray):Prop:=∃s,S[i]? =some s/\(⟨n,v⟩:Lb)∈s
def yg{α:Type}{k:ByteArray}{f:α->α}{d:α}{x:ByteArray×α}:∀{l:List (ByteArray×α)},x∈ov k f d l->x∈l\/∃a,x=(k,f a)/\(a=d\/(k,a)∈l)
 | [],h=>by
  simp only[ov,aH]at h;exact .inr ⟨d,h,.inl rfl⟩
 | (q,a)::r,h=>by
  unfold ov at h;split at h
  ·rename_i e
   subst e;rcases aF.1 h with rfl|h
   ·exact .inr ⟨a,rfl,.inr aA⟩
   exact .inl (by simp[h])
  rcases aF.1 h with rfl|h
  ·exact .inl aA
  rcases yg h with h|⟨b,e,h|h⟩
  ·exact .inl (by simp[h])
  ·exact .inr ⟨b,e,.inl h⟩
  exact .inr ⟨b,e,.inr (by simp[h])⟩
def vD.nil:vD (λ_ _ _=>False) 0 []:=by
 refine⟨by simp[ji],aA,λn=>?_,λn v=>?_,λn v=>⟨.nil,λz=>?_⟩⟩
 ·simp[ji]
 ·simp[ji,lA]
 simp[xS,lA]
theorem vD.add{P:Nat→ByteArray→ByteArray→Prop}{i:Nat}{L:Ix}(h:vD P (i+1) L)(y:Lb)(hy:¬P i y.name y.value):vD (fun j n v=>P j n v∨(j=i∧n=y.name∧v=y.value)) (i+1) (oY i L y):=by
 have hg:∀n,lA n [] (oY i L y)=if n=y.name then ov y.value (fun r=>r++[(i:Int)]) [] (lA y.name [] L) else lA n [] L:=fun n=>B3 _ _ _ _ _;have hr:∀n v,xS (oY i L y) n v=if n=y.name∧v=y.value then xS L n v++[(i:Int)] else xS L n v:=by
  intro n v;unfold xS;rw[hg];by_cases h1:n=y.name
  ·rw[if_pos h1,B3];by_cases h2:v=y.value
   ·rw[if_pos h2,if_pos ⟨h1,h2⟩,h1,h2]
   ·rw[if_neg h2,if_neg fun e=>h2 e.2,h1]
  ·rw[if_neg h1,if_neg fun e=>h1 e.1]
 refine⟨wO h.nd,fun x hx=>?_,fun n=>?_,fun n v=>?_,fun n v=>?_⟩
 ·rcases yg hx with hx|⟨a,rfl,rfl|ha⟩
  ·exact h.nd2 x hx
  ·exact wO (by simp[ji])
  ·exact wO (h.nd2 _ ha)
 ·rw[oY,D2,h.names];constructor
  ·rintro (⟨j,v,h1,h2⟩|rfl)
   ·exact⟨j,v,h1,.inl h2⟩
   ·exact⟨i,y.value,eJ i,.inr ⟨rfl,rfl,rfl⟩⟩
  ·rintro⟨j,v,h1,h2|⟨_,rfl,_⟩⟩
   ·exact .inl ⟨j,v,h1,h2⟩
   ·exact .inr rfl
 ·rw[hg];by_cases h1:n=y.name
  ·rw[if_pos h1,D2,h.k_];subst h1;constructor
   ·rintro (⟨j,h1,h2⟩|rfl)
    ·exact⟨j,h1,.inl h2⟩
    ·exact⟨i,eJ i,.inr ⟨rfl,rfl,rfl⟩⟩
   ·rintro⟨j,h1,h2|⟨_,_,rfl⟩⟩
    ·exact .inl ⟨j,h1,h2⟩
    ·exact .inr rfl
  ·rw[if_neg h1,h.k_];constructor
   ·rintro⟨j,h1,h2⟩;exact⟨j,h1,.inl h2⟩
   ·rintro⟨j,h2,h3|⟨_,e,_⟩⟩
    ·exact⟨j,h2,h3⟩
    ·exact absurd e h1
 ·obtain⟨r1,r2⟩:=h.rows n v;rw[hr];by_cases h1:n=y.name∧v=y.value
  ·rw[if_pos h1];obtain⟨rfl,rfl⟩:=h1;refine⟨cG.2 ⟨r1,dE _ _,fun a ha b hb=>?_⟩,fun z=>?_⟩
   ·rw[aH.1 hb];obtain⟨j,rfl,hj,hp⟩:=(r2 a).1 ha;have:j≠i:=fun e=>hy (e ▸ hp);omega
   ·rw[aE,r2,aH];constructor
    ·rintro (⟨j,h1,h2,h3⟩|h1)
     ·exact⟨j,h1,h2,.inl h3⟩
     ·exact⟨i,h1,eJ i,.inr ⟨rfl,rfl,rfl⟩⟩
    ·rintro⟨j,h1,h2,h3|⟨h3,_⟩⟩
     ·exact .inl ⟨j,h1,h2,h3⟩
     ·exact .inr (by rw[h1,h3])
  ·rw[if_neg h1];refine⟨r1,fun z=>?_⟩;rw[r2];constructor
   ·rintro⟨j,h1,h2,h3⟩;exact⟨j,h1,h2,.inl h3⟩
   ·rintro⟨j,h3,h4,h5|⟨_,e⟩⟩
    ·exact⟨j,h3,h4,h5⟩
    ·exact absurd e h1
def vD.congr{P Q:Nat->ByteArray->ByteArray->Prop}{N M:Nat}{L:Ix}(h:vD P N L)(e:∀i n v,(i<N/\P i n v)↔(i<M/\Q i n v)):vD Q M L:=by
 refine⟨h.nd,h.nd2,λn=>?_,λn v=>?_,λn v=>⟨(h.rows n v).1,λz=>?_⟩⟩
 ·rw[h.names];exact⟨λ⟨i,v,hp⟩=>⟨i,v,(e i n v).1 hp⟩,λ⟨i,v,hp⟩=>⟨i,v,(e i n v).2 hp⟩⟩
 ·rw[h.k_];exact⟨λ⟨i,hp⟩=>⟨i,(e i n v).1 hp⟩,λ⟨i,hp⟩=>⟨i,(e i n v).2 hp⟩⟩
 rw[(h.rows n v).2];exact⟨λ⟨i,hz,hp⟩=>⟨i,hz,(e i n v).1 hp⟩,λ⟨i,hz,hp⟩=>⟨i,hz,(e i n v).2 hp⟩⟩
def A8{s:List Lb}(h:iS s=true):s.Pairwise λa b=>sg a.name b.name= -1:=by
 unfold iS at h;rw[aG,bG]at h;have h1:∀i (hi:i+1<s.length),sg s[i].name s[i+1].name= -1:=λi hi=>by
  have:=oP h.1 (i+1) hi;unfold vh at this;simp only[bO,fH,decide_eq_false_iff_not,dv,cP]at this;rcases this.2.2.2 with h|h
  ·omega
  rw[show s.getD i default=s[i] by simp[show i<s.length by omega],show s.getD (i+1) default=s[i+1] by simp[hi]]at h;exact Q5.1 h
 rw[bT];intro i j hi hj hij;induction j with
 |zero=>omega
 |succ j ih=>
  by_cases e:i=j
  ·subst e;exact h1 i hj
  exact xg.trans _ _ _ (ih az az) (h1 j hj)
def GR:∀(S:List (List Lb)),(∀s∈S,iS s=true)->vD (FN S) S.length (m_ S):=by
 intro S;induction hn:S.length generalizing S with
 |zero=>
  intro _;obtain rfl:=ca.1 hn;refine vD.nil.congr λi n v=>⟨λh=>h.2.elim,λh=>az⟩
 |succ N ih=>
  intro hS;obtain⟨A,s,rfl⟩:∃A s,S=A++[s]:=by
   cases hl:S.getLast? with
   |none=>rw[dM]at hl;subst hl;cases hn
   |some s=>exact⟨_,s,(fa.1 hl).choose_spec⟩
  have hA:A.length=N:=by simpa using hn
  have h0:=ih A hA λx hx=>hS x (by simp[hx]);have hs:=hS s aA;have hnm:=A8 hs;rw[Cb,hA]
  suffices h:∀j,j<=s.length->vD (λi n v=>(i<N/\FN A i n v)\/(i=N/\(⟨n,v⟩:Lb)∈s.take j)) (N+1) ((s.take j).foldl (oY N) (m_ A)) by
   have:=h s.length (aL _);rw[aT]at this;refine this.congr λi n v=>?_;unfold FN;constructor
   ·rintro⟨h1,⟨h2,t,h3,h4⟩|⟨rfl,h2⟩⟩
    ·exact⟨h1,t,by rw[bc az];exact h3,h4⟩
    exact⟨h1,s,by rw[aU az,hA];simp,h2⟩
   rintro⟨h1,t,h2,h3⟩;refine⟨h1,?_⟩;by_cases e:i<N
   ·rw[bc az]at h2;exact .inl ⟨e,t,h2,h3⟩
   obtain rfl:i=N:=az
   rw[aU az,hA]at h2;simp at h2;subst h2;exact .inr ⟨rfl,h3⟩
  intro j;induction j with
  |zero=>
   intro _;refine h0.congr λi n v=>⟨λh=>⟨az,.inl h⟩,λh=>?_⟩;rcases h.2 with h|h
   ·exact h
   simp at h
  |succ j ihj=>
   intro hj;have hlt:j<s.length:=hj;rw[a6 hlt,bN];have hk:=(ihj az).add (y:=s[j]) (λh=>by
    rcases h with ⟨h,_⟩|⟨_,h⟩
    ·omega
    obtain⟨q,hq,e⟩:=bz h;rw[eB]at e;rw[aY]at hq;have:=bT.1 hnm q j az hlt az;rw[e]at this;rw[xg.self]at this;omega)
   refine hk.congr λi n v=>?_;simp only[aE,aH];constructor
   ·rintro⟨h1,(h2|⟨h2,h3⟩)|⟨h2,h3,h4⟩⟩
    ·exact⟨h1,.inl h2⟩
    ·exact⟨h1,.inr ⟨h2,.inl h3⟩⟩
    exact⟨h1,.inr ⟨h2,.inr (by rw[h3,h4])⟩⟩
   rintro⟨h1,h2|⟨h2,h3|h3⟩⟩
   ·exact⟨h1,.inl (.inl h2)⟩
   ·exact⟨h1,.inl (.inr ⟨h2,h3⟩)⟩
   exact⟨h1,.inr ⟨h2,by rw[<-h3],by rw[<-h3]⟩⟩
def qo(K:Nat)(L:Ix):Prop:=∀x∈L,∀y∈x.2,y.2.length<=K
def qo.add{K:Nat}{L:Ix}(h:qo K L)(i:Nat)(y:Lb):qo (K+1) (oY i L y):=λx hx z hz=>by
 have h1:∀M:AY,(∀z∈M,z.2.length<=K)->∀z∈ov y.value (λr=>r++[(i:Int)]) [] M,z.2.length<=K+1:=λM hM z hz=>by
  rcases yg hz with hz|⟨a,rfl,rfl|ha⟩
  ·have:=hM z hz;omega
  ·simp
  have:=hM _ ha;simp at this|-;omega
 rcases yg hx with hx|⟨a,rfl,rfl|ha⟩
 ·have:=h x hx z hz;omega
 ·exact h1 [] aA z hz
 exact h1 a (h _ ha) z hz
def qo.fold{i:Nat}:∀{l:List Lb} {K:Nat} {L:Ix},qo K L->qo (K+l.length) (l.foldl (oY i) L)
 | [],_,_,h=>h
 |y::r,K,L,h=>by
  have:=qo.fold (i:=i) (l:=r) (h.add i y);rw[bC];simp only[aB]
  rwa [show K+(r.length+1)=K+1+r.length by omega]
def P1(B:Nat):∀(S:List (List Lb)),(∀s∈S,s.length<=B)->qo (S.length*B) (m_ S):=by
 intro S;induction hn:S.length generalizing S with
 |zero=>
  intro _;obtain rfl:=ca.1 hn;intro x hx;cases hx
 |succ N ih=>
  intro hS;obtain⟨A,s,rfl⟩:∃A s,S=A++[s]:=by
   cases hl:S.getLast? with
   |none=>rw[dM]at hl;subst hl;cases hn
   |some s=>exact⟨_,s,(fa.1 hl).choose_spec⟩
  have hA:A.length=N:=by simpa using hn
  have h0:=ih A hA λx hx=>hS x (by simp[hx]);rw[Cb];intro x hx y hy;have h1:=qo.fold (i:=A.length) (l:=s) h0 x hx y hy;have h2:=hS s aA;rw[Nat.succ_mul];omega
abbrev wy(l:List Int):Prop:=l.Pairwise (· < ·)
def vz:∀{a b:List Int},wy a->wy b->(∀z,z∈a↔z∈b)->a=b
 | [],[],_,_,_=>rfl
 | [],y::r,_,_,h=>absurd ((h y).2 aA) aA
 |x::r,[],_,_,h=>absurd ((h x).1 aA) aA
 |x::r,y::s,ha,hb,h=>by
  obtain⟨a1,a2⟩:=bh.1 ha;obtain⟨b1,b2⟩:=bh.1 hb;have hxy:x=y:=by
   rcases aF.1 ((h x).1 aA) with h1|h1
   ·exact h1
   rcases aF.1 ((h y).2 aA) with h2|h2
   ·exact h2.symm
   have:=b1 x h1;have:=a1 y h2;omega
  subst hxy;rw[vz a2 b2 λz=>⟨λhz=>?_,λhz=>?_⟩]
  ·rcases aF.1 ((h z).1 (by simp[hz])) with rfl|h1
   ·have:=a1 z hz;omega
   exact h1
  rcases aF.1 ((h z).2 (by simp[hz])) with rfl|h1
  ·have:=b1 z hz;omega
  exact h1
def kj(N:Nat)(p:Nat->Bool):List Int:=((List.range N).filter p).map Int.ofNat
def pZ{N:Nat}{p:Nat->Bool}{z:Int}:z∈kj N p↔∃i:Nat,z=i/\i<N/\p i=true:=by
 unfold kj;rw[ba];constructor
 ·rintro⟨i,h,rfl⟩;obtain⟨h1,h2⟩:=bF.1 h;exact⟨i,rfl,eE.1 h1,h2⟩
 rintro⟨i,rfl,h1,h2⟩;exact⟨i,bF.2 ⟨eE.2 h1,h2⟩,rfl⟩
def Gw{N:Nat}{p:Nat->Bool}{i:Nat}(h:i<N):(i:Int)∈kj N p↔p i=true:=by
 rw[pZ];constructor
 ·rintro⟨j,e,_,hp⟩;obtain rfl:i=j:=az
  exact hp
 exact λhp=>⟨i,rfl,h,hp⟩
def qA(N:Nat)(p:Nat->Bool):wy (kj N p):=by
 unfold kj;rw[wy,fq];refine List.Pairwise.filter _ ?_;exact List.pairwise_lt_range.imp λh=>bq.2 h
def uV(N:Nat)(p:Nat->Bool):(kj N p).length<=N:=by
 unfold kj;rw[aD];exact bE (bZ _ _) aA
def n9{N:Nat}{p q:Nat->Bool}(h:∀i,i<N->p i=q i):kj N p=kj N q:=
 vz (qA N p) (qA N q) λz=>by
  rw[pZ,pZ];exact⟨λ⟨i,e,h1,h2⟩=>⟨i,e,h1,by rw[<-h i h1];exact h2⟩,λ⟨i,e,h1,h2⟩=>⟨i,e,h1,by rw[h i h1];exact h2⟩⟩
def wi(N:Nat):kj N (λ_=>false)=[]:=by
 unfold kj;rw[dj.2 aA];rfl
def pJ(a b:List Int)(c:Bool):List Int:=a.filter λn=>decide (n∈b)==c
def Dh(N:Nat)(p q:Nat->Bool)(c:Bool):pJ (kj N p) (kj N q) c=kj N λi=>p i&&(q i==c):=by
 refine vz ((qA N p).filter _) (qA N _) λz=>?_;unfold pJ;rw[bF];refine Iff.trans (and_congr_left' pZ) (Iff.trans ?_ pZ.symm);constructor
 ·rintro⟨⟨i,rfl,h1,h2⟩,h3⟩;refine⟨i,rfl,h1,?_⟩;rw[h2,cY];have h4:=Gw (p:=q) h1;cases hq:q i with
  |true=>rw[decide_eq_true (h4.2 hq)]at h3;exact h3
  |false=>rw[decide_eq_false λh=>by rw[h4.1 h]at hq;cases hq]at h3;exact h3
 rintro⟨i,rfl,h1,h2⟩;rw[aG]at h2;refine⟨⟨i,rfl,h1,h2.1⟩,?_⟩;have h4:=Gw (p:=q) h1;cases hq:q i with
 |true=>rw[decide_eq_true (h4.2 hq)];rw[hq]at h2;exact h2.2
 |false=>rw[decide_eq_false λh=>by rw[h4.1 h]at hq;cases hq];rw[hq]at h2;exact h2.2
def Ec(a b:List Int)(c:Bool):(pJ a b c).length<=a.length:=bZ _ _
def TJ(a b l:List Int):Prop:=wy l/\∀z,z∈l↔z∈a\/z∈b
def Uz{N:Nat}{p q:Nat->Bool}{l:List Int}(h:TJ (kj N p) (kj N q) l):l=kj N λi=>p i||q i:=by
 refine vz h.1 (qA N _) λz=>?_;rw[h.2,pZ,pZ,pZ];constructor
 ·rintro (⟨i,e,h1,h2⟩|⟨i,e,h1,h2⟩)
  ·exact⟨i,e,h1,by rw[h2];rfl⟩
  exact⟨i,e,h1,by rw[h2,ff]⟩
 rintro⟨i,e,h1,h2⟩;rcases Bool.or_eq_true_iff.1 h2 with h|h
 ·exact .inl ⟨i,e,h1,h⟩
 exact .inr ⟨i,e,h1,h⟩
def kS(S:List (List Lb))(i:Nat)(n v:ByteArray):Bool:=(S.getD i []).any λy=>mZ y.name n&&mZ y.value v
def hasB(S:List (List Lb))(i:Nat)(n:ByteArray):Bool:=(S.getD i []).any λy=>mZ y.name n
def z7{S:List (List Lb)}{i:Nat}{n v:ByteArray}(hi:i<S.length):kS S i n v=true↔FN S i n v:=by
 unfold kS FN;rw[show S.getD i []=S[i] by simp[hi],dp,aC hi];constructor
 ·rintro⟨y,hy,h⟩;rw[aG,l_,l_]at h;obtain⟨rfl,rfl⟩:=h;exact⟨_,rfl,hy⟩
 rintro⟨s,hs,h⟩;cases hs;exact⟨_,h,aA⟩
def TZ{S:List (List Lb)}(hS:∀s∈S,iS s=true)(n v:ByteArray):xS (m_ S) n v=kj S.length λi=>kS S i n v:=by
 have h:=(GR S hS).rows n v;refine vz h.1 (qA _ _) λz=>?_;rw[h.2,pZ];exact⟨λ⟨i,e,h1,h2⟩=>⟨i,e,h1,(z7 h1).2 h2⟩,λ⟨i,e,h1,h2⟩=>⟨i,e,h1,(z7 h1).1 h2⟩⟩
def GA{s:List Lb}(h:iS s=true){n v:ByteArray}:((s.any λy=>mZ y.name n&&mZ y.value v)=true)↔((s.any λy=>mZ y.name n)=true/\kT s n=v):=by
 have hp:=A8 h;clear h;induction s with
 |nil=>simp
 |cons x r ih=>
  obtain⟨p1,p2⟩:=bh.1 hp;have ih:=ih p2;simp only[gS,Bool.or_eq_true,aG];by_cases e:x.name=n
  ·have hno:∀y∈r,mZ y.name n=false:=λy hy=>by
    rw[E0];intro e';have:=p1 y hy;rw[e,e',xg.self]at this;omega
   have h1:(r.any λy=>mZ y.name n&&mZ y.value v)=false:=by
    rw[dL];intro y hy;rw[hno y hy];simp
   rw[h1,l_.2 e,kT,if_pos (l_.2 e),l_];simp
  have h0:mZ x.name n=false:=E0.2 e;rw[h0,kT,if_neg (by rw[h0];decide)];simp only[a7,false_and,false_or];exact ih
def QM{s:List Lb}{n:ByteArray}(h:(s.any λy=>mZ y.name n)=false):kT s n=⟨#[]⟩:=by
 induction s with
 |nil=>rfl
 |cons x r ih=>
  simp only[gS,bO]at h;rw[kT,if_neg (by rw[h.1];decide),ih h.2]
def Lk{S:List (List Lb)}(hS:∀s∈S,iS s=true){i:Nat}(hi:i<S.length):iS (S.getD i [])=true:=by
 rw[show S.getD i []=S[i] by simp[hi]];exact hS _ (aR hi)
def kY(m:Mt)(v:ByteArray):Bool:=if m.op=0\/m.op=1 then mZ v m.value else if m.op=2\/m.op=3 then nI v m.value else false
abbrev qh(L:Ix)(n:ByteArray):List ByteArray:=ji (lA n [] L)
def Hm{S:List (List Lb)}(hS:∀s∈S,iS s=true)(n:ByteArray)(q:ByteArray->Bool){i:Nat}(hi:i<S.length):((qh (m_ S) n).any λv=>q v&&kS S i n v)=(hasB S i n&&q (kT (S.getD i []) n)):=by
 have hr:=Lk hS hi;rw[cp,dp,aG];constructor
 ·rintro⟨v,hv,h⟩;rw[aG]at h;obtain⟨h1,h2⟩:=(GA hr).1 h.2;exact⟨h1,by rw[h2];exact h.1⟩
 rintro⟨h1,h2⟩;have h3:kS S i n (kT (S.getD i []) n)=true:=(GA hr).2 ⟨h1,rfl⟩;exact⟨_,((GR S hS).k_ n _).2 ⟨i,hi,(z7 hi).1 h3⟩,by rw[h2,h3];rfl⟩
def L8{m:Mt}(hop:0<=m.op/\m.op<=3):kY m ⟨#[]⟩=mZ m.value ⟨#[]⟩:=by
 unfold kY;by_cases h:m.op=0\/m.op=1
 ·rw[if_pos h,cp,l_,l_];exact eq_comm
 rw[if_neg h,if_pos az,cp,Nh,l_];constructor
 ·intro hp;exact zL (List.prefix_nil.1 hp)
 rintro e;rw[e];exact List.prefix_refl _
def SK{S:List (List Lb)}(hS:∀s∈S,iS s=true){m:Mt}(hop:0<=m.op/\m.op<=3){i:Nat}(hi:i<S.length):
  (((qh (m_ S) m.name).any λv=>kY m v&&kS S i m.name v)||(mZ m.value ⟨#[]⟩&&((qh (m_ S) m.name).any (λv=>true&&kS S i m.name v)==false)))=kY m (kT (S.getD i []) m.name):=by
 rw[Hm hS m.name (kY m) hi,Hm hS m.name (λ_=>true) hi,gT];cases hh:hasB S i m.name with
 |true=>simp
 |false=>
  rw[QM hh,L8 hop];simp
def Ob{l:List Lb}{m:Mt}(hop:0<=m.op/\m.op<=3):o_ l m=if m.op=0\/m.op=2 then kY m (kT l m.name) else !kY m (kT l m.name):=by
 unfold o_ kY;by_cases h0:m.op=0
 ·simp[h0]
 by_cases h1:m.op=1
 ·simp[h1]
 by_cases h2:m.op=2
 ·simp[h2]
 obtain h3:m.op=3:=az
 simp[h3]
structure Tok where
 kind:Int
 text:ByteArray
 pos:Int
instance:Inhabited Tok:=⟨⟨5,⟨#[]⟩,0⟩⟩
def k7:List (List UInt8):=[[33,61],[94,61],[33,94],[61],[123],[125],[91],[93],[40],[41],[44],[43],[45],[42],[47]]
def lg(l:List UInt8):Nat×Int:=match l with
 | []=>(0,4)
 |c::r=>
  if lH c then ((l.takeWhile λb=>lH b||kz b).length,1)
  else if kz c then ((l.takeWhile kz).length,2)
  else if c.toNat=34 then (match r.findIdx? (· ==34) with|some j=>j+2|none=>0,3)
  else (match k7.find? (λm=>m.isPrefixOf l) with|some m=>m.length|none=>0,4)
def pe(s:List UInt8):Nat->Nat->Nat->Except (Int×Int) (List Tok)
 |0,_,_=>.error (0,0)
 |fuel+1,i,pG=>
  let i:=i+((s.drop i).takeWhile (· ==32)).length
  if s.length<=i then .ok [⟨5,⟨#[]⟩,i⟩]
  else
   let (n,k):=lg (s.drop i)
   if n=0 then .error (3,i)
   else if (k=2/\18<n)\/120<=pG then .error (4,i)
   else match pe s fuel (i+n) (pG+1) with
    | .ok l=>.ok (⟨k,⟨((s.drop i).take n).toArray⟩,i⟩::l)
    | .error e=>.error e
inductive Qn where
 |nil
 |mk (code num:Int) (m:List Mt) (span:Int) (by_:List ByteArray) (l r:Qn)
abbrev tW(α:Type):=Except (Int×Int) (α×List Tok)
def qQ(l:List Tok):Tok:=l.headD default
def qz{α:Type}(e:Int)(l:List Tok):tW α:=.error (e,(qQ l).pos)
def qP(s:ByteArray)(l:List Tok):Bool:=mZ (qQ l).text s&&decide ((qQ l).kind≠3)
def nu(s:ByteArray)(l:List Tok):Bool:=qP s l&&decide ((qQ l).kind≠5)
def qg(s:ByteArray)(l:List Tok):tW Unit:=if nu s l then .ok ((),l.tail) else qz 3 l
def uc(k:Int)(l:List Tok):tW ByteArray:=if (qQ l).kind=k then .ok ((qQ l).text,l.tail) else qz 3 l
def rm(l:List Tok):tW ByteArray:=if (qQ l).kind=1/\lU (qQ l).text=false then qz 4 l else uc 1 l
def zG(s:ByteArray):Int:=s.data.toList.foldl (λn c=>n*10+((c.toNat:Int) -48)) 0
def bS(l:List UInt8):ByteArray:=⟨l.toArray⟩
def opsL:List ByteArray:=[bS [61],bS [33,61],bS [94,61],bS [33,94]]
def rD(l:List Tok):tW Mt:=
 match rm l with
 | .error e=>.error e
 | .ok (n,l)=>match opsL.findIdx? λs=>qP s l with
  |none=>qz 3 l
  |some k=>match qg (opsL.getD k ⟨#[]⟩) l with
   | .error e=>.error e
   | .ok (_,l)=>match uc 3 l with
    | .error e=>.error e
    | .ok (s,l')=>if ma (s.extract 1 (s.size-1)) then .ok (⟨n,k,s.extract 1 (s.size-1)⟩,l') else qz 4 l
def jG:Nat->List Mt->List Tok->tW (List Mt)
 |0,_,_=>.error (0,0)
 |f+1,acc,l=>
  if nu (bS [125]) l then .ok (acc,l.tail)
  else match (if acc.length=0 then .ok ((),l) else qg (bS [44]) l) with
   | .error e=>.error e
   | .ok (_,l)=>if 8<=acc.length then qz 4 l else match rD l with
    | .error e=>.error e
    | .ok (m,l)=>jG f (acc++[m]) l
def n_(l:List Tok):tW (List Mt):=match qg (bS [123]) l with
 | .error e=>.error e
 | .ok (_,l)=>jG (l.length+1) [] l
structure Lx where
 pre:Nat
 text:List UInt8
 kind:Int
 post:Nat
def py(n:Nat):List UInt8:=List.replicate n 32
def Lx.bytes(x:Lx):List UInt8:=py x.pre++x.text++py x.post
def jC(l:List Lx):List UInt8:=l.flatMap Lx.bytes
def Lx.st(x:Lx):Int×ByteArray:=(x.kind,bS x.text)
def Tok.st(t:Tok):Int×ByteArray:=(t.kind,t.text)
def wL(s:List UInt8):Lx:=⟨0,s,1,0⟩
def qL(v:List UInt8):Lx:=⟨0,34::v++[34],3,0⟩
def mL(s:List UInt8):Lx:=⟨0,s,4,0⟩
def DY(k:Int)(t:List UInt8):Prop:=
 (k=1/\∃c r,t=c::r/\lH c=true/\∀b∈r,(lH b||kz b)=true)\/
 (k=2/\t≠ []/\t.length<=18/\∀b∈t,kz b=true)\/
 (k=3/\∃v,t=34::v++[34]/\∀b∈v,b.toNat≠34)\/
 (k=4/\t∈k7)
def Lx.Ok(x:Lx):Prop:=DY x.kind x.text
def Th{c:UInt8}(h:lH c=true):c.toNat≠34/\c≠32:=by
 have:c≠32:=by rintro rfl;revert h;decide
 simp[lH]at h;exact⟨az,this⟩
def NA{c:UInt8}(h:kz c=true):c.toNat≠34/\c≠32/\lH c=false:=by
 have:c≠32:=by rintro rfl;revert h;decide
 simp[kz]at h;refine⟨az,this,?_⟩;simp[lH];omega
def F8{p:UInt8->Bool}{l r:List UInt8}(h:∀b∈l,p b=true)(hr:∀c,r.head? =some c->p c=false):(l++r).takeWhile p=l:=by
 induction l with
 |nil=>
  cases r with
  |nil=>rfl
  |cons c r=>simp[hr c rfl]
 |cons b l ih=>
  simp only[b_,List.takeWhile,h b bf];rw[ih λb hb=>h b (aK _ hb)]
def xJ{t:List UInt8}(h:t∈k7):∃c r,t=c::r/\lH c=false/\kz c=false/\c≠34/\c≠32/\c.toNat≠34:=by
 simp only[k7,aF,dm,or_false]at h;rcases h with rfl|rfl|rfl|rfl|rfl|rfl|rfl|rfl|rfl|rfl|rfl|rfl|rfl|rfl|rfl<;>exact⟨_,_,rfl,ax,ax,ax,ax,ax⟩
def J8{t:List UInt8}(h:t∈k7)(r:List UInt8):k7.find? (λm=>m.isPrefixOf (t++r))=some t:=by
 simp only[k7,aF,dm,or_false]at h;rcases h with rfl|rfl|rfl|rfl|rfl|rfl|rfl|rfl|rfl|rfl|rfl|rfl|rfl|rfl|rfl<;>simp[k7,List.find?,List.isPrefixOf]
def TO{v r:List UInt8}(h:∀b∈v,b.toNat≠34):(v++34::r).findIdx? (· ==34)=some v.length:=by
 induction v with
 |nil=>simp[dX]
 |cons b v ih=>
  have hb:(b==34)=false:=by
   cases hh:b==34 with
   |false=>rfl
   |true=>exact absurd (by rw[eq_of_beq hh];rfl) (h b bf)
  rw[b_,dX,hb,ih λb hb=>h b (aK _ hb)];simp
def NF{k:Int}{t:List UInt8}(h:DY k t)(r:List UInt8)(hr:k=1->∀c,r.head? =some c->(lH c||kz c)=false)(hd:k=2->∀c,r.head? =some c->kz c=false):
  lg (t++r)=(t.length,k)/\t≠ []/\t.head? ≠some 32/\(k=2->t.length<=18):=by
 rcases h with ⟨rfl,c,l,rfl,hc,hl⟩|⟨rfl,hne,h18,hl⟩|⟨rfl,v,rfl,hv⟩|⟨rfl,hm⟩
 ·refine⟨?_,aA,by simpa using (Th hc).2,aA⟩;have:=F8 (p:=λb=>lH b||kz b) (l:=c::l) (r:=r) (λb hb=>by
   rcases aF.1 hb with rfl|hb
   ·simp[hc]
   exact hl b hb) (hr rfl)
  simp only[b_]at this|-;simp only[lg,hc,if_true,this]
 ·cases t with
  |nil=>exact absurd rfl hne
  |cons c l=>
   have hc:=hl c bf;refine⟨?_,aA,by simpa using (NA hc).2.1,λ_=>h18⟩;have:=F8 (p:=kz) (l:=c::l) (r:=r) hl (hd rfl);simp only[b_]at this|-;simp only[lg,(NA hc).2.2,hc,if_true,a7,if_false,this]
 ·refine⟨?_,aA,aA,aA⟩;have e:34::v++[34]++r=34::(v++34::r):=aA
  rw[e];simp only[lg,TO hv];simp[lH,kz]
 obtain⟨c,l,e,h1,h2,h3,h4,h5⟩:=xJ hm;refine⟨?_,by simp[e],by simpa[e]using h4,aA⟩;have:=J8 hm r;subst e;simp only[b_]at this|-;simp only[lg,h1,h2,h5,a7,if_false,this]
def lk(x y:Lx):Prop:=(x.kind=1\/x.kind=2)->x.post≠0\/y.pre≠0\/y.kind=4
def yK:List Lx->Prop
 |x::y::r=>lk x y/\yK (y::r)
 |_=>True
def OL{x:Lx}{l:List Lx}(h:x.kind=4\/x.kind=3\/x.post≠0)(hl:yK l):yK (x::l):=by
 cases l with
 |nil=>trivial
 |cons y r=>
  refine⟨λhx=>?_,hl⟩;rcases h with h|h|h
  ·omega
  ·omega
  exact .inl h
def Qb{x y:Lx}{l:List Lx}(h:y.kind=4\/y.pre≠0)(hl:yK (y::l)):yK (x::y::l):=
 ⟨λ_=>by rcases h with h|h<;>simp[h],hl⟩
def Sb{a:List Lx}{y:Lx}{b:List Lx}(ha:yK a)(h:y.kind=4\/y.pre≠0)(hb:yK (y::b)):yK (a++y::b):=by
 induction a with
 |nil=>exact hb
 |cons x r ih=>
  cases r with
  |nil=>exact Qb h hb
  |cons z r=>exact⟨ha.1,ih ha.2⟩
def o5(x:Lx)(l:List Lx):jC (x::l)=x.bytes++jC l:=rfl
def yT(a b:List Lx):jC (a++b)=jC a++jC b:=by simp[jC]
def Ce{n:Nat}{l:List UInt8}(h:n≠0):(py n++l).head? =some 32:=by
 cases n with
 |zero=>exact absurd rfl h
 |succ n=>rfl
def Rz(a b:Nat):py (a+b)=py a++py b:=by simp[py,List.replicate_append_replicate]
def Nj(a:Nat){l:List UInt8}(h:l.head? ≠some 32):((py a++l).takeWhile (· ==32)).length=a:=by
 rw[F8 (p:=(· ==32)) (λb hb=>by simp[py]at hb;simp[hb.2]) (λc hc=>by
  cases h':c==32 with
  |false=>rfl
  |true=>exact absurd (by rw[hc,eq_of_beq h']) h)]
 simp[py]
def J1{p:UInt8->Bool}(hp:p 32=false){x:Lx}{l:List Lx}(hc:yK (x::l))(hx:x.kind=1\/x.kind=2)(hm:∀t c,t∈k7->t.head? =some c->p c=false)(hl:∀y∈l,y.Ok):
  ∀c,(py x.post++jC l).head? =some c->p c=false:=by
 intro c hcc;by_cases h0:x.post=0
 ·cases l with
  |nil=>rw[h0]at hcc;cases hcc
  |cons y r=>
   rcases hc.1 hx with h|h|h
   ·exact absurd h0 h
   ·rw[h0,o5]at hcc;have:(y.bytes++jC r).head? =some 32:=by simp only[Lx.bytes,aS];exact Ce h
    have e:(py 0++(y.bytes++jC r))=y.bytes++jC r:=rfl;rw[e,this]at hcc;cases hcc;exact hp
   by_cases hy:y.pre=0
   ·rcases hl y bf with h'|h'|h'|⟨_,h'⟩
    ·have:=h'.1;omega
    ·have:=h'.1;omega
    ·have:=h'.1;omega
    obtain⟨c',r',e, -⟩:=xJ h';refine hm y.text c h' ?_;rw[h0,o5,Lx.bytes,hy]at hcc;rw[e]at hcc|-;exact hcc
   rw[h0,o5]at hcc;have:(y.bytes++jC r).head? =some 32:=by simp only[Lx.bytes,aS];exact Ce hy
   have e:(py 0++(y.bytes++jC r))=y.bytes++jC r:=rfl;rw[e,this]at hcc;cases hcc;exact hp
 rw[Ce h0]at hcc;cases hcc;exact hp
def M4(s:List UInt8):∀(L:List Lx) (fuel i pG a:Nat),(∀x∈L,x.Ok)->yK L->s.drop i=py a++jC L->i<=s.length->pG+L.length<=120->L.length<fuel->
  ∃l,pe s fuel i pG=.ok l/\l.map Tok.st=L.map Lx.st++[(5,bS [])]
 | [],0,_,_,_,_,_,_,_,_,hf=>by simp at hf
 | [],fuel+1,i,pG,a,_,_,hs,hi,_,_=>by
  have hlen:=congrArg List.length hs;simp[jC,py]at hlen;have h1:((s.drop i).takeWhile (· ==32)).length=a:=by
   rw[hs];exact Nj a (by simp[jC])
  refine⟨[⟨5,⟨#[]⟩,(i+a:Nat)⟩],?_,by simp[Tok.st,bS]⟩;simp only[pe,h1];rw[if_pos az]
 |x::r,0,_,_,_,_,_,_,_,_,hf=>by simp at hf
 |x::r,fuel+1,i,pG,a,hok,hc,hs,hi,hn,hf=>by
  have hx:=hok x bf;have hr:∀y∈r,y.Ok:=λy hy=>hok y (aK _ hy);have hcr:yK r:=by
   cases r with
   |nil=>trivial
   |cons y r=>exact hc.2
  obtain⟨h1,h2,h3,h4⟩:=NF hx (py x.post++jC r) (λhk=>J1 (p:=λc=>lH c||kz c) ax hc (.inl hk) (λt c ht hh=>by
   obtain⟨c',r',e,g1,g2, -⟩:=xJ ht;rw[e]at hh;cases hh;simp[g1,g2]) hr) (λhk=>J1 (p:=kz) ax hc (.inr hk) (λt c ht hh=>by
   obtain⟨c',r',e,g1,g2, -⟩:=xJ ht;rw[e]at hh;cases hh;exact g2) hr)
  have hs2:s.drop i=py (a+x.pre)++(x.text++(py x.post++jC r)):=by
   rw[hs,o5,Lx.bytes,Rz];simp
  have hh:(x.text++(py x.post++jC r)).head? ≠some 32:=by
   cases ht:x.text with
   |nil=>exact absurd ht h2
   |cons c t=>rw[ht]at h3;simpa using h3
  have h5:((s.drop i).takeWhile (· ==32)).length=a+x.pre:=by
   rw[hs2];exact Nj _ hh
  have hd:s.drop (i+(a+x.pre))=x.text++(py x.post++jC r):=by
   rw[<-dO,hs2];have:(py (a+x.pre)).length=a+x.pre:=by simp[py]
   rw[dC az,fu az];rfl
  have hpos:0<x.text.length:=by cases ht:x.text with|nil=>exact absurd ht h2|cons c t=>simp
  have hlen:=congrArg List.length hd;simp only[bw,aI]at hlen;have IT:s.drop (i+(a+x.pre)+x.text.length)=py x.post++jC r:=by
   rw[<-dO,hd];simp
  obtain⟨l,e1,e2⟩:=M4 s r fuel (i+(a+x.pre)+x.text.length) (pG+1) x.post hr hcr IT az (by simp at hn;omega) (by simp at hf;omega);refine⟨⟨x.kind,⟨(x.text).toArray⟩,(i+(a+x.pre):Nat)⟩::l,?_,?_⟩
  ·simp only[pe,h5];rw[if_neg az];rw[hd,h1];simp only;rw[if_neg az,if_neg (by
    simp at hn;intro h;rcases h with h|h
    ·have:=h4 h.1;omega
    omega)]
   rw[e1];simp
  simp[e2,Tok.st,Lx.st,bS]
def Tok.Ok(t:Tok):Prop:=DY t.kind t.text.data.toList\/(t.kind=5/\t.text=⟨#[]⟩)
def Tok.Vm(t:Tok):Prop:=t.Ok/\t.text.size<=1000
structure nB(l:List Tok):Prop where
 each:∀t∈l,t.Vm
 last:∃a e,l=a++[e]/\e.kind=5
def nB.cons{l:List Tok}(h:nB l):∃t r,l=t::r:=by
 obtain⟨a,e,rfl,_⟩:=h.last;cases a with
 |nil=>exact⟨e,[],rfl⟩
 |cons t r=>exact⟨t,r++[e],rfl⟩
def nB.tail{t:Tok}{l:List Tok}(h:nB (t::l))(hk:t.kind≠5):nB l:=by
 refine⟨λx hx=>h.each x (aK _ hx),?_⟩;obtain⟨a,e,he,hk'⟩:=h.last;cases a with
 |nil=>
  simp at he;exact absurd (he.1 ▸ hk') hk
 |cons x r=>
  simp at he;exact⟨r,e,he.2,hk'⟩
def Jh{b:UInt8}(h:kz b=true):48<=b.toNat/\b.toNat<=57:=by simpa[kz]using h
def z6:∀(l:List UInt8) (acc:Nat),(∀b∈l,kz b=true)->l.length<=18->acc<10^ (18-l.length)->
  ∃n:Nat,Lib.parseUintM (2^64-1) acc l=.ok n/\n<10^18/\l.foldl (λ(n:Int) c=>n*10+((c.toNat:Int) -48)) (acc:Int)=n
 | [],acc,_,_,ha=>⟨acc,rfl,by simpa using ha,rfl⟩
 |c::r,acc,hl,h18,ha=>by
  have hc:=Jh (hl c bf);have h18':r.length+1<=18:=by simpa using h18
  have hp:10^ (18-r.length)=10^ (18- (r.length+1))*10:=by rw[<-fJ];congr 1;omega
  have hle:10^ (18-r.length)<=10^18:=eP ax az;simp only[aB]at ha;have hb:acc*10+(c.toNat-48)<10^ (18-r.length):=az
  obtain⟨n,h1,h2,h3⟩:=z6 r (acc*10+(c.toNat-48)) (λb hb=>hl b (aK _ hb)) az hb;refine⟨n,?_,h2,?_⟩
  ·rw[Lib.parseUintM,if_pos hc,if_neg az,if_neg az,h1]
  rw[<-h3,bC]
  congr 1
  omega
def SA{t:Tok}(h:t.Ok)(hk:t.kind=2):Lib.parseIntB 64 t.text.data.toList=.ok (zG t.text)/\0<=zG t.text/\zG t.text<1000000000000000000:=by
 rcases h with (⟨h,_⟩|⟨_,h1,h2,h3⟩|⟨h,_⟩|⟨h,_⟩)|⟨h,_⟩
 ·omega
 ·cases hl:t.text.data.toList with
  |nil=>exact absurd hl h1
  |cons c r=>
   have hc:=Jh (h3 c (by rw[hl];exact bf));obtain⟨n,e1,e2,e3⟩:=z6 (c::r) 0 (by rw[<-hl];exact h3) (by rw[<-hl];exact h2) (Nat.pow_pos ax);have e:zG t.text=(n:Int):=by
    unfold zG;rw[hl];exact e3
   refine⟨?_,az,az⟩;simp only[Lib.parseIntB];rw[if_neg az,Lib.parseUintB,if_neg aA,e1];simp only;rw[if_neg az,if_neg az,if_neg az,e]
 ·omega
 ·omega
 omega
def SF{t:Tok}(h:t.Ok)(hk:t.kind=3):∃v:List UInt8,t.text.data.toList=34::v++[34]/\∀b∈v,b.toNat≠34:=by
 rcases h with (⟨h,_⟩|⟨h,_⟩|⟨_,h⟩|⟨h,_⟩)|⟨h,_⟩
 ·omega
 ·omega
 ·exact h
 ·omega
 omega
def OE{t:Tok}(h:t.Ok)(hk:t.kind=3):2<=t.text.size:=by
 obtain⟨v,e,_⟩:=SF h hk;have:=congrArg List.length e;simp at this;have h2:t.text.size=t.text.data.size:=rfl;omega
def ME{m:Mt}(hn:lU m.name=true)(h0:0<=m.op)(h1:m.op<=3):l8 [m]=ma m.value:=by
 have:l8 [m]= !xE m:=by simp[l8,p7,fK]
 rw[this,xE,hn];cases h:ma m.value<;>simp<;>omega
def O7{t:Tok}{l:List Tok}{r:ByteArray×List Tok}(h:rm (t::l)=.ok r)(hk:t.kind=1):lU t.text=true:=by
 cases h2:lU t.text with
 |true=>rfl
 |false=>
  have:rm (t::l)=qz 4 (t::l):=if_pos ⟨hk,h2⟩;rw[this]at h;cases h
def QL(c:UInt8):decide (0<=Lib.indexByte tZ c)=kz c:=by
 have:=Cy (p:=λc=>decide (0<=Lib.indexByte tZ c)==kz c) (m7) c;simpa using this
def Qd(c:UInt8):tZ.contains c=kz c:=by
 have:=Cy (p:=λc=>tZ.contains c==kz c) (m7) c;simpa using this
def E7(c:UInt8):∀l:List UInt8,Lib.indexByte l c=match l.findIdx? (· ==c) with|some j=>(j:Int)|none=> -1
 | []=>rfl
 |b::l=>by
  rw[Lib.indexByte,dX,E7 c l];cases h:b==c with
  |true=>simp
  |false=>
   cases h2:l.findIdx? (· ==c) with
   |none=>simp
   |some j=>simp
def UF{p:UInt8->Bool}(l:List UInt8):(l.takeWhile p).length+(l.dropWhile p).length=l.length:=by
 rw[<-aI,List.takeWhile_append_dropWhile]
def BA{p q:UInt8->Bool}(h:∀b,p b=q b)(l:List UInt8):l.takeWhile p=l.takeWhile q:=by
 have:p=q:=funext h;rw[this]
def OO(s:ByteArray)(p:List UInt8):nI s (bS p)=p.isPrefixOf s.data.toList:=by
 have h0:(bS p).size=p.length:=by show p.toArray.size=_;simp
 have h1:s.size=s.data.toList.length:=aA
 rw[cp,dK,nI,aG,decide_eq_true_iff,l_,h0,h1];constructor
 ·rintro⟨h2,h3⟩;have h4:=congrArg (λb:ByteArray=>b.data.toList) h3;simp only[tU]at h4;rw[dD];exact h4.symm
 intro h;refine⟨h.length_le,?_⟩;have h4:=tU s p.length;rw[<-dD.1 h]at h4;have:∀b:ByteArray,b=⟨b.data.toList.toArray⟩:=λb=>by cases b;simp
 rw[this (s.extract 0 p.length),h4];rfl
def Cn{α:Type}{p:α->Bool}:∀{l:List α} {n:Nat},n<=l.length->(∀i (h:i<l.length),i<n->p l[i]=false)->(∀h:n<l.length,p l[n]=true)->l.find? p=l[n]?
 | [],n,_,_,_=>aA
 |a::l,0,_,_,h2=>by
  have h3:p a=true:=h2 aA;simp[h3]
 |a::l,n+1,hn,h1,h2=>by
  have h3:p a=false:=h1 0 aA az;rw[List.find?_cons,h3];exact Cn (by simpa using hn) (λi h hh=>h1 (i+1) (by simpa using h) az) (λh=>h2 (by simpa using h))
def JM(l:List UInt8):(lg l).1<=l.length:=by
 cases l with
 |nil=>simp[lg]
 |cons c r=>
  simp only[lg];by_cases h1:lH c=true
  ·rw[if_pos h1];exact (fA _).length_le
  rw[if_neg h1];by_cases h2:kz c=true
  ·rw[if_pos h2];exact (fA _).length_le
  rw[if_neg h2];by_cases h3:c.toNat=34
  ·rw[if_pos h3];cases h:r.findIdx? (· ==34) with
   |none=>simp
   |some j=>
    have:=(ck.1 h).1;simp;omega
  rw[if_neg h3];cases h:k7.find? (λm=>m.isPrefixOf (c::r)) with
  |none=>simp
  |some m=>exact (dK.1 (gM (p:=λm:List UInt8=>m.isPrefixOf (c::r)) h)).length_le
def Uw{b:ByteArray}{c:UInt8}{r:List UInt8}(h:b.data.toList=c::r):b[0]? =some c:=by
 obtain⟨d⟩:=b;have h1:d.toList[0]? =some c:=by rw[show d.toList=c::r from h];rfl
 have hs:0<d.size:=by
  have:=congrArg List.length (show d.toList=c::r from h);simp at this;omega
 rw[getElem?_pos (ByteArray.mk d) 0 hs];show some d[0]=some c;simpa[hs]using h1
def IP{p:UInt8->Bool}(l:List UInt8):l.take (l.takeWhile p).length=l.takeWhile p:=
 (dD.1 (List.takeWhile_prefix p)).symm
def Mr{p:UInt8->Bool}{l:List UInt8}:∀b∈l.takeWhile p,p b=true:=λb hb=>cW.1 (List.all_takeWhile (p:=p) (l:=l)) b hb
def Sc(l:List UInt8)(h0:(lg l).1≠0)(h18:¬((lg l).2=2/\18<(lg l).1)):DY (lg l).2 (l.take (lg l).1):=by
 cases l with
 |nil=>exact absurd rfl h0
 |cons c r=>
  by_cases h1:lH c=true
  ·have e:lg (c::r)=(((c::r).takeWhile λb=>lH b||kz b).length,1):=by simp only[lg,h1,if_true]
   rw[e,IP];refine .inl ⟨rfl,c,r.takeWhile λb=>lH b||kz b,by simp[h1],h1,Mr⟩
  by_cases h2:kz c=true
  ·have e:lg (c::r)=(((c::r).takeWhile kz).length,2):=by simp only[lg,h1,h2,if_true,a7,if_false]
   rw[e]at h18;rw[e,IP];refine .inr (.inl ⟨rfl,by simp[h2],?_,Mr⟩);exact Nat.le_of_not_lt λh=>h18 ⟨rfl,h⟩
  by_cases h3:c.toNat=34
  ·have e:lg (c::r)=(match r.findIdx? (· ==34) with|some j=>j+2|none=>0,3):=by
    unfold lg;simp only[h1,h2,a7,if_false];rw[if_pos h3] <;>rfl
   rw[e]at h0;rw[e];cases h:r.findIdx? (· ==34) with
   |none=>rw[h]at h0;exact absurd rfl h0
   |some j=>
    obtain⟨hj,hp,hn⟩:=ck.1 h;have hc:c=34:=eY.1 h3;refine .inr (.inr (.inl ⟨rfl,r.take j,?_,?_⟩))
    ·show (c::r).take (j+2)=_;have h5:r[j]=34:=by simpa using hp
     rw[hc,fP,a6 hj,h5];rfl
    intro b hb;obtain⟨i,hi,he⟩:=bz hb;have hij:i<j:=by simp at hi;omega
    have h6:=hn i hij;have h7:r[i]'az=b:=by simpa using he
    rw[h7]at h6;intro hb34;have:b=34:=eY.1 hb34;rw[this]at h6;simp at h6
  have e:lg (c::r)=(match k7.find? (λm=>m.isPrefixOf (c::r)) with|some m=>m.length|none=>0,4):=by
   unfold lg;simp only[h1,h2,a7,if_false];rw[if_neg h3] <;>rfl
  rw[e]at h0;rw[e];cases h:k7.find? (λm=>m.isPrefixOf (c::r)) with
  |none=>rw[h]at h0;exact absurd rfl h0
  |some m=>
   refine .inr (.inr (.inr ⟨rfl,?_⟩));show (c::r).take m.length∈k7;rw[<-dD.1 (dK.1 (gM (p:=λm:List UInt8=>m.isPrefixOf (c::r)) h))];exact gk h
def Gr(s:List UInt8)(hs:s.length<=1000):∀(f i pG:Nat) (l:List Tok),pe s f i pG=.ok l->pG<=120->nB l/\pG+l.length<=121
 |0,_,_,_,h,_=>by simp[pe]at h
 |f+1,i,pG,l,h,hc=>by
  rw[pe]at h;simp only at h;generalize hk:((s.drop i).takeWhile (· ==32)).length=k at h;by_cases he:s.length<=i+k
  ·rw[if_pos he]at h;cases h;refine⟨⟨λt ht=>?_,[],_,rfl,rfl⟩,by simp;omega⟩;rw[aH.1 ht];exact⟨.inr ⟨rfl,rfl⟩,show (ByteArray.mk #[]).size<=1000 by decide⟩
  rw[if_neg he]at h;have hx:=Sc (s.drop (i+k));have hle:=JM (s.drop (i+k));generalize lg (s.drop (i+k))=nk at h hx hle;obtain⟨n,kd⟩:=nk;simp only at h hx hle;by_cases hn:n=0
  ·rw[if_pos hn]at h;cases h
  rw[if_neg hn]at h;by_cases hl:(kd=2/\18<n)\/120<=pG
  ·rw[if_pos hl]at h;cases h
  rw[if_neg hl]at h;cases hr:pe s f (i+k+n) (pG+1) with
  |error e=>rw[hr]at h;cases h
  |ok l2=>
   rw[hr]at h;cases h;obtain⟨h1,h2⟩:=Gr s hs f _ _ l2 hr az;obtain⟨a,e,h3,h4⟩:=h1.last;refine⟨⟨λt ht=>?_,_::a,e,by rw[h3];rfl,h4⟩,by simp;omega⟩;rcases aF.1 ht with rfl|ht
   ·refine⟨.inl ?_,?_⟩
    ·simpa using hx hn (λh=>hl (.inl h))
    show ((s.drop (i+k)).take n).toArray.size<=1000;simp;omega
   exact h1.each t ht
def tE(s:List UInt8):Except (Int×Int) (List Mt):=match pe s (s.length+1) 0 0 with
 | .error e=>.error e
 | .ok l=>match n_ l with
  | .error e=>.error e
  | .ok (m,l')=>if (qQ l').kind≠5 then .error (3,(qQ l').pos) else .ok m
def lvl(c:Int):Nat:=if c=13\/c=14 then 0 else if c=15\/c=16 then 1 else 2
def bL(s:ByteArray):List UInt8:=s.data.toList
def An(s:ByteArray):bS (bL s)=s:=by cases s;simp[bS,bL]
def vW(l:List UInt8):bL (bS l)=l:=by simp[bS,bL]
def Ci{a b:List UInt8}(h:bS a=bS b):a=b:=by rw[<-vW a,<-vW b,h]
def vt(s:ByteArray):(bL s).length=s.size:=by simp[bL]
def pz(a b:List UInt8):bS (a++b)=bS a++bS b:=by
 apply cE;simp[bS]
def rI(y:Lx):List (List Lx)->List Lx
 | []=>[]
 | [x]=>x
 |x::r=>x++y::rI y r
def zl(m:Mt):List Lx:=[wL (bL m.name),mL (bL (opsL.getD m.op.toNat ⟨#[]⟩)),qL (bL m.value)]
def zk(l:List Mt):List Lx:=mL [123] ::(rI (mL [44]) (l.map zl)++[mL [125]])
def jN(l:List Mt):ByteArray:=bS (jC (zk l))
def IW(m:Mt):Prop:=lU m.name=true/\ma m.value=true/\0<=m.op/\m.op<=3
def sd(l:List Mt):Prop:=(∀m∈l,IW m)/\l.length<=8
structure Bl where
 to_:Int
 iN:Int
 L:List gY
abbrev kn(n:Int):Value:=.int .i64 n
structure iz where
 mark:Int
 S:List gY
 B:List (Value×Bl)
 G:List (Int×Gn)
 nx:Int
 dn:Bool
 wd:Bool
inductive Nt where
 |came (l:List gY)
 |went (u:Int) (g:Gn)
 |mark (m n:Int)
def iR:Nt->ByteArray
 | .came l=>⟨#[1]⟩++lT l
 | .went u g=>⟨#[2]⟩++(jJ u++jJ g.lo++jJ g.hi++kX (jN g.mt))
 | .mark m n=>⟨#[3]⟩++(jJ m++jJ n)
noncomputable def oF(mk:Int)(S:List gY)(ls:List Lb)(s:List Sm):List gY:=
 if _h:s=[] then S else oF mk (jb mk S [⟨ls,s.take 40⟩]).2 ls (s.drop 40)
termination_by s.length
decreasing_by
 have:0<s.length:=cm.2 _h;simp only[bw];omega
noncomputable def nY(mk:Int)(S l:List gY):List gY:=l.foldl (λS x=>oF mk S x.labels x.samples) S
def tF(mk:Int)(S:List gY)(ls:List Lb):oF mk S ls []=S:=by
 unfold oF;rw[dif_pos rfl]
def si{mk:Int}{S:List gY}{ls:List Lb}{s:List Sm}(h:s≠ []):oF mk S ls s=oF mk (jb mk S [⟨ls,s.take 40⟩]).2 ls (s.drop 40):=by
 rw[oF,dif_neg h]
def Ab{mk:Int}{S:List gY}{x:gY}(hl:x.samples.length<=40)(he:mi mk S x=0):(jb mk S [x]).2=jV S x:=by
 unfold jb;rw[if_neg (by simp[ir];omega),lF,if_pos he,lF];rfl
def Dp{mk:Int}{S:List gY}{x:gY}(h:mi mk S x=0):iS x.labels=true/\ke x.samples=true/\x.samples≠ []/\mk<pT x.samples:=by
 unfold mi at h;split at h
 ·omega
 rename_i hb
 rw[Bool.not_eq_false,aG,aG,bG,decide_eq_false_iff_not]at hb;obtain⟨⟨b1,b2⟩,b3⟩:=hb;split at h
 ·omega
 exact⟨b1,b2,λe=>b3 (by rw[e];rfl),az⟩
def CK{mk:Int}:∀{l S:List gY} {i:Nat},ir l<=40->lF mk S l i=none->nY mk S l=l.foldl jV S
 | [],_,_,_,_=>rfl
 |x::r,S,i,ht,h=>by
  unfold lF at h;split at h
  ·rename_i he
   have hne:=(Dp he).2.2.1;have hx:x.samples.length<=40:=by simp[ir]at ht;omega
   have hr:ir r<=40:=by simp[ir]at ht|-;omega
   show nY mk (oF mk S x.labels x.samples) r=r.foldl jV (jV S x);have e1:oF mk S x.labels x.samples=jV S x:=by
    rw[si hne,cv az,fw az,tF,Ab hx he]
   rw[e1];exact CK hr h
  cases h
def rp(mk:Int)(S:List gY):Prop:=∀x∈S,∀s∈x.samples,mk<s.time
def Jc{a b c:List Sm}(h:ke (a++b++c)=true):ke b=true:=by
 rw[ja]at h|-;obtain⟨h1,h2⟩:=h;refine⟨⟨λx hx=>h1.lo x (by simp[hx]),λx hx=>h1.hi x (by simp[hx]),?_⟩,by simp at h2;omega⟩;have:=h1.up;exact (cG.1 (cG.1 this).1).2.1
def BT{ls:List Lb}:∀{P:List gY},(∀y∈P,iZ y.labels ls<0)->i_ ls P=P.length
 | [],_=>rfl
 |y::P,h=>by
  rw[i_,if_pos (h y aA),BT λz hz=>h z (by simp[hz])];rfl
def I6{ls:List Lb}{P:List gY}(h:∀y∈P,iZ y.labels ls<0):mJ ls P=none:=by
 unfold mJ;rw[BT h,bI (aL _)]
def N7{x:gY}{P:List gY}(h:∀y∈P,iZ y.labels x.labels<0):jV P x=P++[x]:=by
 rw[AT (I6 h),BT h];simp
def Fj{x:gY}:∀{P:List gY},(∀y∈P,iZ y.labels x.labels<0)->i_ x.labels (P++[x])=P.length
 | [],_=>by
  show i_ x.labels [x]=0;rw[i_,if_neg (by rw[(jo.eq0 _ _).2 rfl];omega)]
 |y::P,h=>by
  rw[b_,i_,if_pos (h y aA),Fj λz hz=>h z (by simp[hz])];rfl
def FZ{x:gY}{P:List gY}(h:∀y∈P,iZ y.labels x.labels<0):mJ x.labels (P++[x])=some x/\i_ x.labels (P++[x])=P.length:=by
 have hp:=Fj h;refine⟨?_,hp⟩;unfold mJ;rw[hp,aU (aL _),dh];show (if iZ x.labels x.labels=0 then some x else none)=some x;rw[if_pos ((jo.eq0 _ _).2 rfl)]
def L_{x:gY}{t:List Sm}{P:List gY}(h:∀y∈P,iZ y.labels x.labels<0):jV (P++[x]) ⟨x.labels,t⟩=P++[⟨x.labels,x.samples++t⟩]:=by
 obtain⟨h1,h2⟩:=FZ h;have:=yf (x:=⟨x.labels,t⟩) h1;rw[this];show (P++[x]).set (i_ x.labels (P++[x])) _=_;rw[h2,List.set_append_right _ _ (aL _),dh];rfl
def De{s:List Sm}(h:s≠ []):∃x∈s,pT s=x.time:=by
 cases s with
 |nil=>exact absurd rfl h
 |cons x r=>exact⟨x,aA,rfl⟩
def M0{s:List Sm}(h:s≠ []):∃x∈s,rk s=x.time:=by
 unfold rk;cases hl:s.getLast? with
 |none=>exact absurd (dM.1 hl) h
 |some y=>exact⟨y,List.mem_of_getLast? hl,rfl⟩
def Em{mk:Int}{ls:List Lb}(hr:iS ls=true):∀(n:Nat) (P:List gY) (a b:List Sm),b.length<=n->(∀y∈P,iZ y.labels ls<0)->a≠ []->ke (a++b)=true->(∀s∈a++b,mk<s.time)->
  oF mk (P++[⟨ls,a⟩]) ls b=P++[⟨ls,a++b⟩]
 |n,P,a,b,hn,hP,ha,hok,hmk=>by
  by_cases hb:b=[]
  ·subst hb;rw[tF,aZ]
  have hpos:0<b.length:=cm.2 hb;have hlen:(a++b).length<=2000:=((ja _).1 hok).2;have hup:=((ja _).1 hok).1.up;have htne:b.take 40≠ []:=by
   intro e;have:=congrArg List.length e;rw[aY,aM]at this;omega
  have hsplit:a++b=a++b.take 40++b.drop 40:=by rw[aS,cj]
  have he:mi mk (P++[⟨ls,a⟩]) ⟨ls,b.take 40⟩=0:=by
   have hat:=(FZ (x:=⟨ls,a⟩) hP).1;have hokb:ke (b.take 40)=true:=Jc (a:=a) (c:=b.drop 40) (by rw[<-hsplit];exact hok);obtain⟨x,hx,ex⟩:=De htne;obtain⟨y,hy,ey⟩:=M0 ha;have hlt:y.time<x.time:=(cG.1 hup).2.2 y hy x (b9 hx);have hmx:=hmk x (by simp[b9 hx]);unfold mi;rw[if_neg (by rw[hr,hokb,decide_eq_false (λh=>htne (bU h))];decide),if_neg (by rw[ex];omega),hat];simp only;rw[if_neg (by rw[ex,ey];omega),if_neg (by simp at hlen|-;omega)]
  rw[si hb,Ab (by show (b.take 40).length<=40;rw[aY];omega) he,L_ hP];cases n with
  |zero=>omega
  |succ n=>
   have ih:=Em hr n P (a++b.take 40) (b.drop 40) aq hP (by simp[ha]) (by rw[<-hsplit];exact hok) (by rw[<-hsplit];exact hmk);rw[ih,<-hsplit]
def MF{mk:Int}{P:List gY}{x:gY}(hl:P.length<60)(hP:∀y∈P,iZ y.labels x.labels<0)(hr:iS x.labels=true)(hok:ke x.samples=true)(hne:x.samples≠ [])(hmk:∀s∈x.samples,mk<s.time):oF mk P x.labels x.samples=P++[x]:=by
 obtain⟨ls,s⟩:=x;simp only at*;have hlen:s.length<=2000:=((ja _).1 hok).2;have hpos:0<s.length:=cm.2 hne;have htne:s.take 40≠ []:=by
  intro e;have:=congrArg List.length e;rw[aY,aM]at this;omega
 have he:mi mk P ⟨ls,s.take 40⟩=0:=by
  have hokb:ke (s.take 40)=true:=Jc (a:=[]) (c:=s.drop 40) (by simpa using hok);obtain⟨x,hx,ex⟩:=De htne;have hmx:=hmk x (b9 hx);unfold mi;rw[if_neg (by rw[hr,hokb,decide_eq_false (λh=>htne (bU h))];decide),if_neg (by rw[ex];omega),I6 hP];simp only;rw[if_neg az]
 rw[si hne,Ab (by show (s.take 40).length<=40;rw[aY];omega) he,N7 hP];have:=Em (mk:=mk) hr (s.drop 40).length P (s.take 40) (s.drop 40) (aL _) hP htne (by simpa using hok) (by simpa using hmk);rw[this,cj]
def Hq{mk:Int}{S:List gY}(h:lI S)(ha:rp mk S):∀i,i<=S.length->nY mk [] (S.take i)=S.take i
 |0,_=>rfl
 |i+1,hi=>by
  have ih:=Hq h ha i az;have hlt:i<S.length:=hi;unfold nY at ih|-;rw[a6 hlt,bN,ih];obtain⟨h1,h2,h3⟩:=h.each S[i] (aR hlt);show oF mk (S.take i) S[i].labels S[i].samples=_;have hl:=h.len;refine MF (by rw[aY];omega) (λy hy=>?_) h1 h2 h3 (ha _ (aR hlt));obtain⟨j,hj,rfl⟩:=bz hy;rw[eB];rw[aY]at hj;exact bT.1 h.ris j i az hlt az
def EI{mk:Int}{S:List gY}(h:lI S)(ha:rp mk S):nY mk [] S=S:=by
 have:=Hq h ha S.length (aL _)
 rwa [aT]at this
structure Mem where
 mark:Int
 S:List gY
 G:List (Int×Gn)
 nx:Int
def DA:Mem:=⟨-1099511627777,[],[],0⟩
noncomputable def k6(m:Mem):Nt->Mem
 | .came l=>{m with S:=nY m.mark m.S l}
 | .went u g=>{m with S:=gX (oB g) m.S,G:=m.G++[(u,g)]}
 | .mark k n=>{m with mark:=max m.mark k,S:=gX (jO k) m.S,nx:=max m.nx n}
noncomputable def kZ(l:List Nt):Mem:=l.foldl k6 DA
def rh(l:List Nt)(n:Nt):kZ (l++[n])=k6 (kZ l) n:=by
 unfold kZ;rw[bN];rfl
structure qC(m:Mem):Prop where
 head:lI m.S
 above:rp m.mark m.S
 mlo: -1099511627777<=m.mark
 mhi:m.mark<=1099511627776
 nlo:0<=m.nx
def R1:qC DA:=⟨lI.nil,(λ_ h=>(by cases h)),ax,ax,ax⟩
def wI{k:Int}{S:List gY}(h:∀x∈S,x.samples≠ []/\∀s∈x.samples,k<s.time):gX (jO k) S=S:=by
 induction S with
 |nil=>rfl
 |cons x r ih=>
  obtain⟨h1,h2⟩:=h x aA;have e:jZ (jO k) x=x.samples:=by
   unfold jZ;rw[cD];intro s hs;have:=h2 s hs;simp[jO];omega
  cases hx:x.samples with
  |nil=>exact absurd hx h1
  |cons y s=>
   rw[iK r (by rw[e,hx]),ih λz hz=>h z (by simp[hz]),<-hx]
def qC.cut{m:Mem}(h:qC m){k:Int}(hk:k<=m.mark):gX (jO k) m.S=m.S:=
 wI λx hx=>⟨(h.head.each x hx).2.2,λs hs=>by have:=h.above x hx s hs;omega⟩
def kK(m:Mem):List Nt:=.mark m.mark m.nx::((m.G.map λx=>.went x.1 x.2)++m.S.map λx=>.came [x])
def Lq(G:List (Int×Gn)):∀m:Mem,m.S=[]->(G.map λx=>Nt.went x.1 x.2).foldl k6 m={m with G:=m.G++G}:=by
 induction G with
 |nil=>intro m _;simp
 |cons g G ih=>
  intro m hm;rw[bb,bC,ih _ (by show gX _ m.S=[];rw[hm];rfl)];show (⟨m.mark,gX (oB g.2) m.S,(m.G++[(g.1,g.2)])++G,m.nx⟩:Mem)=⟨m.mark,m.S,m.G++g::G,m.nx⟩;rw[hm];simp[gX]
def C8(mk:Int)(G:List (Int×Gn))(nx:Int):∀(l P:List gY),(l.map λx=>Nt.came [x]).foldl k6 ⟨mk,P,G,nx⟩=⟨mk,nY mk P l,G,nx⟩
 | [],_=>rfl
 |x::l,P=>by
  rw[bb,bC];show (l.map λx=>Nt.came [x]).foldl k6 ⟨mk,nY mk P [x],G,nx⟩=_;rw[C8 mk G nx l];rfl
def Ik{m:Mem}(h:qC m):kZ (kK m)=m:=by
 unfold kZ kK;rw[bC,bN];have e1:k6 DA (.mark m.mark m.nx)=⟨m.mark,[],[],m.nx⟩:=by
  show (⟨max (-1099511627777) m.mark,gX _ [],[],max 0 m.nx⟩:Mem)=_;have h1:=h.mlo;have h2:=h.nlo;rw[show max (-1099511627777) m.mark=m.mark by omega,show max 0 m.nx=m.nx by omega];rfl
 rw[e1,Lq m.G ⟨m.mark,[],[],m.nx⟩ rfl];show (m.S.map λx=>Nt.came [x]).foldl k6 ⟨m.mark,[],[]++m.G,m.nx⟩=m;rw[C8,EI h.head h.above,dy]
def KF{mk:Int}{S:List gY}{x:gY}(h:rp mk S)(hx:∀s∈x.samples,mk<s.time):rp mk (jV S x):=λz hz s hs=>by
 rcases yb hz with hz|rfl|⟨y,hy,_,rfl⟩
 ·exact h z hz s hs
 ·exact hx s hs
 rcases aE.1 hs with hs|hs
 ·exact h y hy s hs
 exact hx s hs
def vU{mk:Int}:∀{l S:List gY} {i:Nat},rp mk S->lF mk S l i=none->rp mk (l.foldl jV S)
 | [],_,_,h,_=>h
 |x::r,S,i,h,ht=>by
  unfold lF at ht;split at ht
  ·rename_i he
   obtain⟨h1,h2,h3,h4⟩:=Dp he;refine vU (l:=r) (KF h λs hs=>?_) ht;have:=EE ((ja _).1 h2).1.up hs;omega
  cases ht
def Iv{m:Mem}(h:qC m){l:List gY}(ht:ir l<=40)(he:lF m.mark m.S l 0=none):k6 m (.came l)={m with S:=l.foldl jV m.S}/\qC {m with S:=l.foldl jV m.S}:=by
 refine⟨?_,⟨DX h.head he,vU h.above he,h.mlo,h.mhi,h.nlo⟩⟩;show ({m with S:=nY m.mark m.S l}:Mem)=_;rw[CK ht he]
def ki{h:nR}:∀{S:List gY} {z:gY},z∈gX h S->∃x∈S,z.labels=x.labels/\z.samples=jZ h x/\z.samples≠ []
 | [],z,hz=>by cases hz
 |x::r,z,hz=>by
  cases hx:jZ h x with
  |nil=>
   rw[iW r hx]at hz;obtain⟨y,hy,e⟩:=ki hz;exact⟨y,by simp[hy],e⟩
  |cons y s=>
   rw[iK r hx]at hz;rcases aF.1 hz with rfl|hz
   ·exact⟨x,aA,rfl,hx.symm,aA⟩
   obtain⟨y,hy,e⟩:=ki hz;exact⟨y,by simp[hy],e⟩
def oM{h:nR}:∀{S:List gY},lW S->lW (gX h S)
 | [],_=>.nil
 |x::r,hr=>by
  obtain⟨h1,h2⟩:=bh.1 hr;cases hx:jZ h x with
  |nil=>rw[iW r hx];exact oM h2
  |cons y s=>
   rw[iK r hx];refine bh.2 ⟨λz hz=>?_,oM h2⟩;obtain⟨w,hw,e,_⟩:=ki hz;rw[e];exact h1 w hw
def tB{h:nR}{S:List gY}(hS:lI S):lI (gX h S):=by
 refine⟨oM hS.ris,bE (qv h S) hS.len,λz hz=>?_⟩;obtain⟨x,hx,e1,e2,e3⟩:=ki hz;obtain⟨h1,h2,_⟩:=hS.each x hx;exact⟨by rw[e1];exact h1,by rw[e2];exact CY _ h2,e3⟩
def Ft{h:nR}{mk:Int}{S:List gY}(hS:rp mk S):rp mk (gX h S):=λz hz s hs=>by
 obtain⟨x,hx,_,e2,_⟩:=ki hz;rw[e2]at hs;exact hS x hx s (bF.1 hs).1
def KY{m:Mem}(h:qC m)(u:Int)(g:Gn):qC (k6 m (.went u g)):=⟨tB h.head,Ft h.above,h.mlo,h.mhi,h.nlo⟩
def Mx{t mk:Int}{S:List gY}(h:rp mk S):rp (max mk t) (gX (jO t) S):=λz hz s hs=>by
 obtain⟨x,hx,_,e2,_⟩:=ki hz;rw[e2]at hs;obtain⟨h1,h2⟩:=bF.1 hs;have:=h x hx s h1;simp[jO]at h2;omega
def MB{m:Mem}(h:qC m){t:Int}(ht:t<=1099511627776)(nx:Int)(hn:0<=nx):qC ⟨max m.mark t,gX (jO t) m.S,m.G,nx⟩:=
 ⟨tB h.head,Mx h.above,by have:=h.mlo;show _<=max m.mark t;omega,by have:=h.mhi;show max m.mark t<=_;omega,hn⟩
def Kq{m:Mem}(h:qC m):k6 m (.mark m.mark m.nx)=m:=by
 show (⟨max m.mark m.mark,gX (jO m.mark) m.S,m.G,max m.nx m.nx⟩:Mem)=m;rw[h.cut (bY _),Int.max_self,Int.max_self]
def DV{m:Mem}(h:qC m){t:Int}(hc:gX (mN (jO t)) m.S=[]):gX (jO t) m.S=m.S/\k6 m (.mark (max m.mark t) m.nx)=⟨max m.mark t,gX (jO t) m.S,m.G,m.nx⟩:=by
 have hall:∀x∈m.S,x.samples≠ []/\∀s∈x.samples,t<s.time:=λx hx=>by
  refine⟨(h.head.each x hx).2.2,λs hs=>?_⟩;by_cases hlt:t<s.time
  ·exact hlt
  exfalso;have:∃z,z∈gX (mN (jO t)) m.S:=by
   have key:∀{S:List gY},x∈S->∃z,z∈gX (mN (jO t)) S:=by
    intro S;induction S with
    |nil=>intro h;cases h
    |cons y r ih=>
     intro hxy;cases hy:jZ (mN (jO t)) y with
     |cons a b=>rw[iK r hy];exact⟨_,bf⟩
     |nil=>
      rw[iW r hy];rcases aF.1 hxy with rfl|hxy
      ·exfalso;have:s∈jZ (mN (jO t)) x:=bF.2 ⟨hs,by simp[mN,jO];omega⟩;rw[hy]at this;cases this
      exact ih hxy
   exact key hx
  rw[hc]at this;obtain⟨z,hz⟩:=this;cases hz
 have e1:=wI hall;refine⟨e1,?_⟩;have e2:gX (jO (max m.mark t)) m.S=m.S:=wI λx hx=>⟨(hall x hx).1,λs hs=>by
  have h1:=(hall x hx).2 s hs;have h2:=h.above x hx s hs;omega⟩
 show (⟨max m.mark (max m.mark t),gX (jO (max m.mark t)) m.S,m.G,max m.nx m.nx⟩:Mem)=_;rw[e1,e2,Int.max_self,show max m.mark (max m.mark t)=max m.mark t by omega]
def oO:Value->Int
 | .int _ n=>n
 |_=>0
abbrev p6(L:List Int):List Int:=L.mergeSort λx y=>decide (x<=y)
def gZ(B:List (Value×Bl)):List Int:=p6 (B.map λy=>oO y.1)
def js(B:List (Value×Bl))(n:Int):Bl:=(iC (kn n) B).getD ⟨0,0,[]⟩
def mv(G:List (Int×Gn))(n:Int):List Gn:=(G.filter λx=>decide (n<=x.1)).map (·.2)
def kl(B:List (Value×Bl))(G:List (Int×Gn))(n:Int):List gY:=gX (lD (mv G n)) (js B n).L
def qd(B:List (Value×Bl))(G:List (Int×Gn))(l:List Int):List gY:=l.foldl (λout n=>ij iJ out (kl B G n)) []
def iF(B:List (Value×Bl))(G:List (Int×Gn)):List gY:=qd B G (gZ B)
def iw(s:iz):List gY:=ij iJ (iF s.B s.G) s.S
structure iP(B:List (Value×Bl))(nx:Int):Prop where
 keys:∀y∈B,∃n:Int,y.1=kn n/\0<=n/\n<nx
 nd:(B.map (·.1)).Nodup
def iP.sort{B:List (Value×Bl)}{nx:Int}(h:iP B nx):∀y∈B,iq (some .i64) y.1=true:=λy hy=>by
 obtain⟨n,e,_⟩:=h.keys y hy;rw[e];rfl
def BU{B:List (Value×Bl)}{nx:Int}(h:iP B nx):(B.map λy=>oO y.1).Nodup:=by
 have h1:=h.nd;rw[List.nodup_iff_pairwise_ne,fq]at h1|-;refine (List.Pairwise.and_mem.1 h1).imp λ{y z} ⟨hy,hz,hne⟩ e=>?_;obtain⟨n,e1,_⟩:=h.keys y hy;obtain⟨m,e2,_⟩:=h.keys z hz;rw[e1,e2]at e hne;have:n=m:=e;exact hne (by rw[this])
def ku(L:List Int):(p6 L).Perm L:=List.mergeSort_perm _ _
def A4(L:List Int):(p6 L).Pairwise (· <= ·):=by
 have:=gL (le:=λx y:Int=>decide (x<=y)) (λa b c h1 h2=>by simp only[decide_eq_true_eq]at*;omega) (λa b=>aq) L;exact this.imp λh=>of_decide_eq_true h
def rA{B:List (Value×Bl)}{nx:Int}(h:iP B nx):(gZ B).Pairwise (· < ·):=by
 have h1:=A4 (B.map λy=>oO y.1);have h2:(gZ B).Nodup:=(ku _).nodup_iff.2 (BU h);have h3:=List.pairwise_and_iff.2 ⟨h1,h2⟩;exact h3.imp λ⟨a,b⟩=>az
def nq{B:List (Value×Bl)}{nx:Int}(h:iP B nx){n:Int}:n∈gZ B↔∃b,(kn n,b)∈B:=by
 unfold gZ;rw[(ku _).mem_iff,ba];constructor
 ·rintro⟨⟨k,b⟩,hy,rfl⟩;obtain⟨m,e,_⟩:=h.keys _ hy;simp only at e;subst e;exact⟨b,hy⟩
 rintro⟨b,hb⟩;exact⟨_,hb,rfl⟩
def tR:∀{l m:List Int},l.Pairwise (· < ·)->m.Pairwise (· < ·)->(∀n,n∈l↔n∈m)->l=m
 | [],[],_,_,_=>rfl
 | [],y::m,_,_,h=>absurd ((h y).2 aA) aA
 |x::l,[],_,_,h=>absurd ((h x).1 aA) aA
 |x::l,y::m,h1,h2,h=>by
  obtain⟨a1,a2⟩:=bh.1 h1;obtain⟨b1,b2⟩:=bh.1 h2;have e:x=y:=by
   rcases aF.1 ((h x).1 aA) with e|hx
   ·exact e
   rcases aF.1 ((h y).2 aA) with e|hy
   ·exact e.symm
   have:=b1 x hx;have:=a1 y hy;omega
  subst e
  congr 1
  refine tR a2 b2 λn=>?_;constructor
  ·intro hn;rcases aF.1 ((h n).1 (by simp[hn])) with e|hx
   ·have:=a1 n hn;omega
   exact hx
  intro hn;rcases aF.1 ((h n).2 (by simp[hn])) with e|hx
  ·have:=b1 n hn;omega
  exact hx
def rF{B:List (Value×Bl)}{nx:Int}(h:iP B nx)(b:Bl):jE (kn nx) b B=B++[(kn nx,b)]:=by
 have:∀{B:List (Value×Bl)},(∀y∈B,∃n:Int,y.1=kn n/\n<nx)->jE (kn nx) b B=B++[(kn nx,b)]:=by
  intro B;induction B with
  |nil=>intro _;rfl
  |cons y r ih=>
   intro h;obtain⟨k,x⟩:=y;obtain⟨n,e,hn⟩:=h (k,x) aA;simp only at e;subst e;show (if (nx==n)=true then _ else _)=_;rw[if_neg aq,ih λz hz=>h z (by simp[hz])];rfl
 exact this λy hy=>by
  obtain⟨n,e,_,h2⟩:=h.keys y hy;exact⟨n,e,h2⟩
def iP.put{B:List (Value×Bl)}{nx:Int}(h:iP B nx)(h0:0<=nx)(b:Bl):iP (jE (kn nx) b B) (nx+1):=by
 rw[rF h];refine⟨λy hy=>?_,?_⟩
 ·rcases aE.1 hy with hy|hy
  ·obtain⟨n,e,h1,h2⟩:=h.keys y hy;exact⟨n,e,h1,az⟩
  rw[aH.1 hy];exact⟨nx,rfl,h0,az⟩
 rw[aP,a8];refine⟨h.nd,aA,λa ha c hc e=>?_⟩;obtain⟨y,hy,rfl⟩:=ba.1 ha;obtain⟨n,e1,_,h2⟩:=h.keys y hy;simp only[bb,cN,aH]at hc;rw[hc,e1]at e;have:n=nx:=by simpa using e
 omega
def HO{B:List (Value×Bl)}{nx:Int}(h:iP B nx)(h0:0<=nx)(b:Bl):gZ (jE (kn nx) b B)=gZ B++[nx]:=by
 have h':=h.put h0 b;refine tR (rA h') ?_ λn=>?_
 ·refine cG.2 ⟨rA h,dE _ _,λa ha c hc=>?_⟩;obtain⟨x,hx⟩:=(nq h).1 ha;obtain⟨m,e,_,hm⟩:=h.keys _ hx;have:a=m:=by simpa using e
  rw[aH.1 hc];omega
 rw[nq h',rF h,aE,aH,nq h];constructor
 ·rintro⟨x,hx⟩;rcases aE.1 hx with hx|hx
  ·exact .inl ⟨x,hx⟩
  have:=aH.1 hx;right;simpa using congrArg Prod.fst this
 rintro (⟨x,hx⟩|rfl)
 ·exact⟨x,aE.2 (.inl hx)⟩
 exact⟨b,aA⟩
def M5{B:List (Value×Bl)}{nx:Int}(h:iP B nx)(b:Bl)(n:Int):js (jE (kn nx) b B) n=if n=nx then b else js B n:=by
 unfold js;rw[tM (kd:=some .i64) rfl rfl b B h.sort];by_cases e:n=nx
 ·subst e;rw[if_pos rfl,if_pos (by simp[iA])];rfl
 rw[if_neg e,if_neg (by simp[iA,e])]
structure Pa where
 n:Int
 to_:Int
 L:List gY
def o6(B:List (Value×Bl))(G:List (Int×Gn)):List Pa:=(gZ B).map λn=>⟨n,(js B n).to_,kl B G n⟩
def FG(l:List Pa):List gY:=l.foldl (λout b=>ij iJ out b.L) []
def oL(B:List (Value×Bl))(G:List (Int×Gn)):FG (o6 B G)=iF B G:=by
 unfold FG o6 iF qd;rw[List.foldl_map]
def Ms{G:List (Int×Gn)}{nx:Int}(h:∀x∈G,x.1<nx):mv G nx=[]:=by
 unfold mv;rw[dj.2,cN];intro x hx;have:=h x hx;simp;omega
def Ka{G:List (Int×Gn)}{n u:Int}(h:n<=u)(g:Gn):mv (G++[(u,g)]) n=mv G n++[g]:=by
 unfold mv;rw[cH,aP]
 congr 1
 rw[dd (by simpa using h)];rfl
def N_{B:List (Value×Bl)}{G:List (Int×Gn)}{nx:Int}(h:iP B nx)(h0:0<=nx)(hG:∀x∈G,x.1<nx)(b:Bl)(hb:∀x∈b.L,x.samples≠ []):o6 (jE (kn nx) b B) G=o6 B G++[⟨nx,b.to_,b.L⟩]:=by
 unfold o6;rw[HO h h0,aP]
 congr 1
 ·refine cd λn hn=>?_;obtain⟨x,hx⟩:=(nq h).1 hn;obtain⟨m,e,_,hm⟩:=h.keys _ hx;have e:n=m:=by simpa using e
  have:js (jE (kn nx) b B) n=js B n:=by rw[M5 h,if_neg az]
  unfold kl;rw[this]
 have:js (jE (kn nx) b B) nx=b:=by rw[M5 h,if_pos rfl]
 show [(⟨nx,_,_⟩:Pa)]=_;unfold kl;rw[this,Ms hG,yL b.L hb]
def GZ(gs:List Gn)(g:Gn)(L:List gY):gX (lD (gs++[g])) L=gX (oB g) (gX (lD gs) L):=by
 rw[GX];refine Dn (λls t=>?_) L;simp[lD,gN]
def Md{B:List (Value×Bl)}{G:List (Int×Gn)}{nx:Int}(h:iP B nx)(g:Gn):o6 B (G++[(nx-1,g)])=(o6 B G).map λb=>{b with L:=gX (oB g) b.L}:=by
 unfold o6;rw[bR];refine cd λn hn=>?_;obtain⟨x,hx⟩:=(nq h).1 hn;obtain⟨m,e,_,hm⟩:=h.keys _ hx;have e:n=m:=by simpa using e
 show (⟨n,_,kl B (G++[(nx-1,g)]) n⟩:Pa)=⟨n,_,gX (oB g) (kl B G n)⟩;unfold kl;rw[Ka az,GZ]
def O1(nx:Int)(b:Bl)(hb:∀x∈b.L,x.samples≠ []):o6 [(kn nx,b)] []=[⟨nx,b.to_,b.L⟩]:=by
 have e1:gZ [(kn nx,b)]=[nx]:=List.mergeSort_singleton _;have e2:js [(kn nx,b)] nx=b:=by
  unfold js;show ((if (nx==nx)=true then some b else none):Option Bl).getD _=b;rw[if_pos aA];rfl
 unfold o6;rw[e1];show [(⟨nx,_,kl _ _ nx⟩:Pa)]=_;unfold kl;rw[e2];show [(⟨nx,b.to_,gX (lD []) b.L⟩:Pa)]=_;rw[yL b.L hb]
def iP.del{B:List (Value×Bl)}{nx:Int}(h:iP B nx)(k:Int):iP (kA (kn k) B) nx:=by
 have hs:∀{B:List (Value×Bl)},(kA (kn k) B).Sublist B:=by
  intro B;induction B with
  |nil=>exact gh _
  |cons y r ih=>
   obtain⟨q,x⟩:=y;show (if iA (kn k) q=true then r else (q,x)::kA (kn k) r).Sublist _;split
   ·exact List.sublist_cons_self _ _
   exact ih.cons_cons _
 exact⟨λy hy=>h.keys y (hs.subset hy),(hs.map _).nodup h.nd⟩
def x8{B:List (Value×Bl)}{nx:Int}(h:iP B nx)(k n:Int):iC (kn n) (kA (kn k) B)=if n=k then none else iC (kn n) B:=by
 have:∀{B:List (Value×Bl)},(∀y∈B,∃n:Int,y.1=kn n)->(B.map (·.1)).Nodup->iC (kn n) (kA (kn k) B)=if n=k then none else iC (kn n) B:=by
  intro B;induction B with
  |nil=>intro _ _;show none=_;split<;>rfl
  |cons y r ih=>
   intro hk hn;obtain⟨q,x⟩:=y;obtain⟨m,e⟩:=hk (q,x) aA;simp only at e;subst e;rw[bb,bJ]at hn;have ih:=ih (λz hz=>hk z (by simp[hz])) hn.2;show iC (kn n) (if (k==m)=true then r else (kn m,x)::kA (kn k) r)=if n=k then none else (if (n==m)=true then some x else iC (kn n) r);by_cases h1:k=m
   ·subst h1;rw[if_pos aA];by_cases h2:n=k
    ·subst h2;rw[if_pos rfl];cases hf:iC (kn n) r with
     |none=>rfl
     |some z=>
      exfalso;refine hn.1 ?_;have:∀{r:List (Value×Bl)},(∀y∈r,∃n:Int,y.1=kn n)->iC (kn n) r=some z->kn n∈r.map (·.1):=by
       intro r;induction r with
       |nil=>intro _ h;cases h
       |cons w r ih2=>
        intro hk hf;obtain⟨q,v⟩:=w;obtain⟨m,e⟩:=hk (q,v) aA;simp only at e;subst e;have hf:(if (n==m)=true then some v else iC (kn n) r)=some z:=hf;by_cases e:n=m
        ·subst e;simp
        rw[if_neg (by simpa using e)]at hf;rw[bb];exact aK _ (ih2 (λy hy=>hk y (by simp[hy])) hf)
      exact this (λy hy=>hk y (by simp[hy])) hf
    rw[if_neg h2,if_neg (by simpa using h2)]
   rw[if_neg (by simpa using h1)];show (if (n==m)=true then some x else iC (kn n) (kA (kn k) r))=_;rw[ih];by_cases h2:n=m
   ·subst h2;rw[if_pos aA,if_neg (λe=>h1 e.symm),if_pos aA]
   have h3:¬(n==m)=true:=by simpa using h2
   by_cases h4:n=k
   ·rw[if_neg h3,if_pos h4,if_pos h4]
   rw[if_neg h3,if_neg h4,if_neg h4,if_neg h3]
 exact this (λy hy=>by obtain⟨n,e,_⟩:=h.keys y hy;exact⟨n,e⟩) h.nd
def mV{B:List (Value×Bl)}{nx:Int}(h:iP B nx){n:Int}:n∈gZ B↔(iC (kn n) B).isSome=true:=by
 rw[nq h];have:∀{B:List (Value×Bl)},(∀y∈B,∃n:Int,y.1=kn n)->((∃b,(kn n,b)∈B)↔(iC (kn n) B).isSome=true):=by
  intro B;induction B with
  |nil=>
   intro _;constructor
   ·rintro⟨b,hb⟩;cases hb
   intro h;cases h
  |cons y r ih=>
   intro hk;obtain⟨q,x⟩:=y;obtain⟨m,e⟩:=hk (q,x) aA;simp only at e;subst e;have ih:=ih λz hz=>hk z (by simp[hz]);show _↔(if (n==m)=true then some x else iC (kn n) r).isSome=true;by_cases h1:n=m
   ·subst h1;rw[if_pos aA];exact⟨λ_=>rfl,λ_=>⟨x,aA⟩⟩
   rw[if_neg (by simpa using h1),<-ih];constructor
   ·rintro⟨b,hb⟩;rcases aF.1 hb with hb|hb
    ·exact absurd (by simpa using congrArg Prod.fst hb) h1
    exact⟨b,hb⟩
   rintro⟨b,hb⟩;exact⟨b,by simp[hb]⟩
 exact this λy hy=>by obtain⟨n,e,_⟩:=h.keys y hy;exact⟨n,e⟩
def To{B:List (Value×Bl)}{nx:Int}(h:iP B nx){k n:Int}(hn:n≠k):js (kA (kn k) B) n=js B n:=by
 unfold js;rw[x8 h,if_neg hn]
def N1{B:List (Value×Bl)}{nx:Int}(h:iP B nx)(k:Int):gZ (kA (kn k) B)=(gZ B).filter λn=>decide (n≠k):=by
 refine tR (rA (h.del k)) ((rA h).filter _) λn=>?_;rw[mV (h.del k),x8 h,bF,mV h];by_cases e:n=k
 ·subst e;simp
 simp[e]
def jL(B:List (Value×Bl))(l:List Int):List (Value×Bl):=l.foldl (λB n=>kA (kn n) B) B
def rT{nx:Int}:∀{l:List Int} {B:List (Value×Bl)},iP B nx->iP (jL B l) nx/\(∀n,n∉l->js (jL B l) n=js B n)/\gZ (jL B l)=(gZ B).filter λn=>decide (n∉l)
 | [],B,h=>⟨h,λ_ _=>rfl,by show gZ B=_;rw[cD.2 (λ_ _=>aA)]⟩
 |k::l,B,h=>by
  obtain⟨h1,h2,h3⟩:=rT (l:=l) (h.del k);refine⟨h1,λn hn=>?_,?_⟩
  ·rw[aF,not_or]at hn;show js (jL (kA (kn k) B) l) n=_;rw[h2 n hn.2,To h hn.1]
  show gZ (jL (kA (kn k) B) l)=_;rw[h3,N1 h,List.filter_filter];refine ez λn _=>?_;simp[Bool.and_comm,not_or]
def PR{B:List (Value×Bl)}{G:List (Int×Gn)}{nx:Int}(h:iP B nx)(t:Int):
  o6 (jL B ((gZ B).filter λn=>decide ((js B n).to_<=t))) G=(o6 B G).filter λb=>decide (t<b.to_):=by
 obtain⟨_,h2,h3⟩:=rT (l:=(gZ B).filter λn=>decide ((js B n).to_<=t)) h;unfold o6;rw[h3,List.filter_map];have e:(gZ B).filter (λn=>decide (n∉ (gZ B).filter λn=>decide ((js B n).to_<=t)))=(gZ B).filter ((λb:Pa=>decide (t<b.to_)) ∘λn=>⟨n,(js B n).to_,kl B G n⟩):=by
  refine ez λn hn=>?_;rw[cp];simp only[bF,decide_eq_true_iff,Function.comp_apply];constructor
  ·intro hh;by_cases hc:(js B n).to_<=t
   ·exact absurd ⟨hn,hc⟩ hh
   omega
  rintro hh ⟨_,hc⟩;omega
 rw[e];refine cd λn hn=>?_;have hc:=(bF.1 hn).2;simp only[Function.comp_apply,decide_eq_true_iff]at hc;have:js (jL B ((gZ B).filter λn=>decide ((js B n).to_<=t))) n=js B n:=h2 n λhm=>by
  have:=(bF.1 hm).2;simp only[decide_eq_true_iff]at this;omega
 unfold kl;rw[this]
def nH(ls:List Lb)(l:List gY):Nat:=ir (l.filter λx=>decide (iZ x.labels ls=0))
def JV{ls:List Lb}:∀{l:List gY},lW l->nH ls l=match mJ ls l with|some y=>y.samples.length|none=>0
 | [],_=>rfl
 |x::r,h=>by
  obtain⟨h1,h2⟩:=bh.1 h;have ih:=JV (ls:=ls) h2;unfold nH at ih|-;by_cases hc:iZ x.labels ls<0
  ·have e:i_ ls (x::r)=i_ ls r+1:=by rw[i_,if_pos hc]
   have ea:mJ ls (x::r)=mJ ls r:=by
    unfold mJ;rw[e];rfl
   rw[ea,de aq,ih]
  have e:i_ ls (x::r)=0:=by rw[i_,if_neg hc]
  have hr:r.filter (λx=>decide (iZ x.labels ls=0))=[]:=by
   rw[dj];intro y hy;have h3:=h1 y hy;have a1:=jo.anti ls y.labels;simp only[decide_eq_true_iff];intro h4;rw[(jo.eq0 _ _).1 h4]at h3;exact hc h3
  by_cases h0:iZ x.labels ls=0
  ·have ea:mJ ls (x::r)=some x:=by
    unfold mJ;rw[e];show (if iZ x.labels ls=0 then some x else none)=_;rw[if_pos h0]
   rw[ea,dd (by simpa using h0),hr];simp[ir]
  have ea:mJ ls (x::r)=none:=by
   unfold mJ;rw[e];show (if iZ x.labels ls=0 then some x else none)=_;rw[if_neg h0]
  rw[ea,de (by simpa using h0),hr];rfl
def qa(all l:List gY):Option Nat:=l.findIdx? λx=>decide (2000<nH x.labels all)
noncomputable def j8(l:List gY)(s:iz):(Int×Int)×iz:=
 if (jb s.mark s.S l).1.1≠0 then ((jb s.mark s.S l).1,s)
 else match qa (ij iJ (iF s.B s.G) (jb s.mark s.S l).2) l with
  |some i=>((12,(i:Int)),s)
  |none=>((0, -1),{s with S:=(jb s.mark s.S l).2})
def pK{mk:Int}{S l:List gY}(h:(jb mk S l).1.1=0):ir l<=40/\lF mk S l 0=none/\jb mk S l=((0, -1),l.foldl jV S):=by
 unfold jb at h|-;by_cases h1:40<ir l
 ·rw[if_pos h1]at h;exact absurd (show (4:Int)=0 from h) ax
 rw[if_neg h1]at h|-;cases ht:lF mk S l 0 with
 |none=>exact⟨az,rfl,rfl⟩
 |some ei=>
  exfalso;rw[ht]at h;obtain⟨e,i⟩:=ei;simp only at h;have:∀{l S:List gY} {i:Nat} {e:Int×Nat},lF mk S l i=some e->e.1≠0:=by
   intro l;induction l with
   |nil=>intro S i e h;cases h
   |cons x r ih=>
    intro S i e h;unfold lF at h;split at h
    ·exact ih h
    cases h
    assumption
  exact this ht h
structure jq(s:iz):Prop where
 mem:qC ⟨s.mark,s.S,s.G,s.nx⟩
 bls:iP s.B s.nx
 len:s.B.length<=30
 gone:∀x∈s.G,x.1<s.nx
 hZ:∀y∈s.B,lZ y.2.to_ y.2.iN y.2.L=true/\y.2.to_<=s.mark
 k_:(∀x∈s.S,lV x.samples)/\∀y∈s.B,∀x∈y.2.L,lV x.samples
def GD{s:iz}(h:jq s){l:List gY}(hv:∀x∈l,lV x.samples):jq (j8 l s).2/\
  ((j8 l s).1.1=0->k6 ⟨s.mark,s.S,s.G,s.nx⟩ (.came l)=⟨(j8 l s).2.mark,(j8 l s).2.S,(j8 l s).2.G,(j8 l s).2.nx⟩):=by
 unfold j8;by_cases h1:(jb s.mark s.S l).1.1≠0
 ·rw[if_pos h1];exact⟨h,λh2=>absurd h2 h1⟩
 rw[if_neg h1];cases hf:qa (ij iJ (iF s.B s.G) (jb s.mark s.S l).2) l with
 |some i=>exact⟨h,λh2=>absurd (show (12:Int)=0 from h2) ax⟩
 |none=>
  obtain⟨a,b,c⟩:=pK (gj.1 h1);obtain⟨e1,e2⟩:=Iv h.mem a b;rw[c];refine⟨⟨e2,h.bls,h.len,h.gone,h.hZ,?_,h.k_.2⟩,λ_=>e1⟩;have:∀{l S:List gY},(∀x∈l,lV x.samples)->(∀x∈S,lV x.samples)->∀x∈l.foldl jV S,lV x.samples:=by
   intro l;induction l with
   |nil=>intro S _ h;exact h
   |cons y r ih=>
    intro S hl hS;refine ih (λx hx=>hl x (by simp[hx])) λx hx=>?_;rcases yb hx with hx|rfl|⟨z,hz,_,rfl⟩
    ·exact hS x hx
    ·exact hl x aA
    intro w hw;rcases aE.1 hw with hw|hw
    ·exact hS z hz w hw
    exact hl y aA w hw
  exact this hv h.k_.1
def I0{to_ iN:Int}{l:List gY}(hr:lW l)(he:∀x∈l,iS x.labels=true/\ke x.samples=true/\x.samples≠ []/\∀s∈x.samples,s.time<=to_)(h1: -1099511627776<=to_/\to_<=1099511627776)(h2: -1<=iN):lZ to_ iN l=true:=by
 unfold lZ;rw[decide_eq_true h1,decide_eq_true h2,nZ λi hi=>?_]
 ·rfl
 obtain⟨a,b,c,d⟩:=he l[i] (aR hi);have hpos:0<l[i].samples.length:=cm.2 c;rw[v7 hi,a,b,decide_eq_false az,BS az,decide_eq_false (by have:=d _ (aR (show l[i].samples.length-1<l[i].samples.length by omega));omega)];have hp:yC l i l[i]=false:=by
  by_cases h0:i=0
  ·subst h0;rfl
  have h1:i-1<l.length:=by omega
  rw[BE h1 az,decide_eq_false];have:=bT.1 hr (i-1) i h1 hi az;omega
 rw[hp];rfl
def kb(t:Int)(s:iz):List gY:=gX (mN (jO t)) s.S
def k9(t:Int)(s:iz):iz:=
 if kb t s=[] then {s with mark:=max s.mark t,S:=gX (jO t) s.S}
 else {s with mark:=max s.mark t,S:=gX (jO t) s.S,B:=jE (kn s.nx) ⟨max s.mark t, -1,kb t s⟩ s.B,nx:=s.nx+1}
def xQ{s:iz}(h:jq s)(t:Int):lZ (max s.mark t) (-1) (kb t s)=true\/(t< -1099511627776\/1099511627776<t):=by
 by_cases ht: -1099511627776<=t/\t<=1099511627776
 ·refine .inl (I0 (oM h.mem.head.ris) (λx hx=>?_) ⟨az,?_⟩ az)
  ·obtain⟨y,hy,e1,e2,e3⟩:=ki hx;obtain⟨a,b,_⟩:=h.mem.head.each y hy;refine⟨by rw[e1];exact a,by rw[e2];exact CY _ b,e3,λz hz=>?_⟩;rw[e2]at hz;have:=(bF.1 hz).2;simp[mN,jO]at this;omega
  have h1:s.mark<=1099511627776:=h.mem.mhi;omega
 right;omega
def sk{h:nR}{S:List gY}(hS:∀x∈S,lV x.samples):∀x∈gX h S,lV x.samples:=λx hx y hy=>by
 obtain⟨z,hz,_,e2,_⟩:=ki hx;rw[e2]at hy;exact hS z hz y (bF.1 hy).1
def PW{B:List (Value×Bl)}{nx:Int}(h:iP B nx)(b:Bl):(jE (kn nx) b B).length=B.length+1:=by
 rw[rF h];simp
def JE{s:iz}(h:jq s){t:Int}(ht: -1099511627776<=t/\t<=1099511627776)(hl:s.B.length<30):jq (k9 t s):=by
 unfold k9;have hnx:0<=s.nx:=h.mem.nlo;have hb:=(xQ h t).resolve_right az;split
 ·refine⟨MB h.mem ht.2 s.nx hnx,h.bls,h.len,h.gone,λy hy=>?_,sk h.k_.1,h.k_.2⟩;obtain⟨a,b⟩:=h.hZ y hy;exact⟨a,by show y.2.to_<=max s.mark t;omega⟩
 refine⟨MB h.mem ht.2 (s.nx+1) az,h.bls.put hnx _,?_,λx hx=>?_,λy hy=>?_,sk h.k_.1,λy hy=>?_⟩
 ·show (jE _ _ s.B).length<=30;rw[PW h.bls];omega
 ·have:=h.gone x hx;show x.1<s.nx+1;omega
 ·have hy:y∈jE _ _ s.B:=hy;rw[rF h.bls]at hy;rcases aE.1 hy with hy|hy
  ·obtain⟨a,b⟩:=h.hZ y hy;exact⟨a,by show y.2.to_<=max s.mark t;omega⟩
  rw[aH.1 hy];exact⟨hb,bY _⟩
 have hy:y∈jE _ _ s.B:=hy;rw[rF h.bls]at hy;rcases aE.1 hy with hy|hy
 ·exact h.k_.2 y hy
 rw[aH.1 hy];exact sk h.k_.1
abbrev iz.mem(s:iz):Mem:=⟨s.mark,s.S,s.G,s.nx⟩
def NI{s:iz}(h:jq s){t:Int}(hc:kb t s=[]):k6 s.mem (.mark (k9 t s).mark (k9 t s).nx)=(k9 t s).mem:=by
 unfold k9;rw[if_pos hc];exact (DV h.mem hc).2
def tz(g:Gn)(s:iz):iz:={s with S:=gX (oB g) s.S,G:=s.G++[(s.nx-1,g)]}
def Pn{s:iz}(h:jq s)(g:Gn):jq (tz g s):=by
 refine⟨KY h.mem (s.nx-1) g,h.bls,h.len,λx hx=>?_,h.hZ,sk h.k_.1,h.k_.2⟩;rcases aE.1 hx with hx|hx
 ·exact h.gone x hx
 rw[aH.1 hx];show s.nx-1<s.nx;omega
def KC(s:iz)(g:Gn):k6 s.mem (.went (s.nx-1) g)=(tz g s).mem:=rfl
def qS(B:List (Value×Bl)):Int:=(gZ B).foldl (λm n=>max m (js B n).to_) (-1099511627776)
def l9(s:iz):iz:={s with B:=[(kn s.nx,⟨qS s.B,s.nx-1,iF s.B s.G⟩)],G:=[],nx:=s.nx+1}
def B9(f:Int->Int):∀(l:List Int) (m:Int),m<=l.foldl (λm n=>max m (f n)) m/\(∀n∈l,f n<=l.foldl (λm n=>max m (f n)) m)/\∀K,m<=K->(∀n∈l,f n<=K)->l.foldl (λm n=>max m (f n)) m<=K
 | [],m=>⟨bY _,(λ_ h=>(by cases h)),λ_ h _=>h⟩
 |x::l,m=>by
  obtain⟨a,b,c⟩:=B9 f l (max m (f x));rw[bC];refine⟨az,λn hn=>?_,λK h1 h2=>c K ?_ λn hn=>h2 n (by simp[hn])⟩
  ·rcases aF.1 hn with rfl|hn
   ·omega
   exact b n hn
  have:=h2 x aA;omega
def qD{B:List (Value×Bl)}{nx:Int}(h:iP B nx){n:Int}(hn:n∈gZ B):∃y∈B,y.1=kn n/\y.2=js B n:=by
 have h1:=(mV h).1 hn;cases hf:iC (kn n) B with
 |none=>rw[hf]at h1;cases h1
 |some b=>
  exact⟨(kn n,b),((kF (kd:=some .i64) rfl h.sort h.nd).1 hf),rfl,by unfold js;rw[hf];rfl⟩
def nn(t:Int)(l:List Sm):Option Int:=(l.find? λx=>decide (x.time=t)).map (·.value)
def JZ(t:Int):nn t []=none:=rfl
def jF(t:Int)(x:Sm)(l:List Sm):nn t (x::l)=if x.time=t then some x.value else nn t l:=by
 unfold nn;rw[List.find?_cons];by_cases h:x.time=t
 ·rw[if_pos h,decide_eq_true h];rfl
 rw[if_neg h,decide_eq_false h]
def pq{t:Int}:∀{l:List Sm},(∀x∈l,t<x.time)->nn t l=none
 | [],_=>rfl
 |x::l,h=>by
  have:=h x aA;rw[jF,if_neg az,pq λz hz=>h z (by simp[hz])]
def tj:∀{a b:List Sm} {z:Sm},z∈iJ a b->z∈a\/z∈b
 | [],b,z,h=>by rw[mo]at h;exact .inr h
 |x::a,[],z,h=>by rw[oc]at h;exact .inl h
 |x::a,y::b,z,h=>by
  rw[pI]at h;split at h
  ·rcases aF.1 h with rfl|h
   ·simp
   rcases tj (a:=a) (b:=y::b) h with h|h
   ·simp[h]
   exact .inr h
  split at h
  ·rcases aF.1 h with rfl|h
   ·simp
   rcases tj (a:=a) (b:=b) h with h|h<;>simp[h]
  rcases aF.1 h with rfl|h
  ·simp
  rcases tj (a:=x::a) (b:=b) h with h|h
  ·exact .inl h
  simp[h]
termination_by a b=>a.length+b.length
def ph:∀{a b:List Sm},mY a->mY b->mY (iJ a b)
 | [],b,_,hb=>by rw[mo];exact hb
 |x::a,[],ha,_=>by rw[oc];exact ha
 |x::a,y::b,ha,hb=>by
  obtain⟨a1,a2⟩:=bh.1 ha;obtain⟨b1,b2⟩:=bh.1 hb;rw[pI];split
  ·rename_i h
   refine bh.2 ⟨λz hz=>?_,ph a2 hb⟩;rcases tj hz with hz|hz
   ·exact a1 z hz
   rcases aF.1 hz with rfl|hz
   ·exact h
   have:=b1 z hz;omega
  rename_i h
  split
  ·rename_i h2
   refine bh.2 ⟨λz hz=>?_,ph a2 b2⟩;rcases tj hz with hz|hz
   ·have:=a1 z hz;omega
   exact b1 z hz
  refine bh.2 ⟨λz hz=>?_,ph ha b2⟩;rcases tj hz with hz|hz
  ·rcases aF.1 hz with rfl|hz
   ·omega
   have:=a1 z hz;omega
  exact b1 z hz
termination_by a b=>a.length+b.length
def nz(t:Int):∀{a b:List Sm},mY a->mY b->nn t (iJ a b)=match nn t b with|some v=>some v|none=>nn t a
 | [],b,_,_=>by
  rw[mo];cases nn t b<;>rfl
 |x::a,[],_,_=>by rw[oc];rfl
 |x::a,y::b,ha,hb=>by
  obtain⟨a1,a2⟩:=bh.1 ha;obtain⟨b1,b2⟩:=bh.1 hb;rw[pI];split
  ·rename_i h
   rw[jF,nz t a2 hb];by_cases ht:x.time=t
   ·rw[if_pos ht,pq (l:=y::b) (λz hz=>by
     rcases aF.1 hz with rfl|hz
     ·omega
     have:=b1 z hz;omega),jF,if_pos ht]
   rw[if_neg ht];cases nn t (y::b) with
   |none=>simp only;rw[jF,if_neg ht]
   |some v=>rfl
  rename_i h
  split
  ·rename_i h2
   rw[jF,jF t y b,nz t a2 b2];by_cases ht:y.time=t
   ·rw[if_pos ht,if_pos ht]
   rw[if_neg ht,if_neg ht,jF t x a,if_neg az]
  rename_i h2
  rw[jF,jF t y b,nz t ha b2];by_cases ht:y.time=t
  ·rw[if_pos ht,if_pos ht]
  rw[if_neg ht,if_neg ht]
termination_by a b=>a.length+b.length
def zA:∀{a b:List Sm},mY a->mY b->(∀t,nn t a=nn t b)->a=b
 | [],[],_,_,_=>rfl
 | [],y::b,_,_,h=>by
  have:=h y.time;rw[JZ,jF,if_pos rfl]at this;cases this
 |x::a,[],_,_,h=>by
  have:=h x.time;rw[JZ,jF,if_pos rfl]at this;cases this
 |x::a,y::b,ha,hb,h=>by
  obtain⟨a1,a2⟩:=bh.1 ha;obtain⟨b1,b2⟩:=bh.1 hb;have hxy:x.time=y.time:=by
   have h1:=h x.time;have h2:=h y.time;rw[jF,jF,if_pos rfl]at h1;rw[jF,jF,if_pos rfl]at h2;by_cases e:y.time=x.time
   ·exact e.symm
   rw[if_neg e]at h1;rw[if_neg (λe'=>e e'.symm)]at h2;rcases Int.lt_or_gt_of_ne e with hlt|hgt
   ·rw[pq (l:=a) (λz hz=>by have:=a1 z hz;omega)]at h2;cases h2
   rw[pq (l:=b) (λz hz=>by have:=b1 z hz;omega)]at h1;cases h1
  have hv:x=y:=by
   have h1:=h x.time;rw[jF,jF,if_pos rfl,if_pos hxy.symm]at h1;cases x;cases y;simp only at hxy h1;cases h1;rw[hxy]
  subst hv
  congr 1
  refine zA a2 b2 λt=>?_;have:=h t;rw[jF,jF]at this;by_cases e:x.time=t
  ·rw[pq (λz hz=>by have:=a1 z hz;omega),pq (λz hz=>by have:=b1 z hz;omega)]
  rw[if_neg e,if_neg e]at this;exact this
def Me{a b c:List Sm}(ha:mY a)(hb:mY b)(hc:mY c):iJ (iJ a b) c=iJ a (iJ b c):=by
 refine zA (ph (ph ha hb) hc) (ph ha (ph hb hc)) λt=>?_;rw[nz t (ph ha hb) hc,nz t ha hb,nz t ha (ph hb hc),nz t hb hc];cases nn t c<;>rfl
structure kC(l:List gY):Prop where
 ris:lW l
 up:∀x∈l,mY x.samples
def kC.nil:kC []:=⟨.nil,λ_ h=>(by cases h)⟩
def kC.look{l:List gY}(h:kC l){ls:List Lb}{s:List Sm}(hl:iB ls l=some s):mY s:=h.up _ (kg hl)
def kC.merge{a b:List gY}(ha:kC a)(hb:kC b):kC (ij iJ a b):=by
 have hr:=qH (mg:=iJ) a b ha.ris hb.ris;refine⟨hr,λx hx=>?_⟩;have h1:=mb hr.dl hx;rw[jx iJ x.labels a b ha.ris hb.ris]at h1;cases e1:iB x.labels a with
 |none=>
  cases e2:iB x.labels b with
  |none=>rw[e1,e2]at h1;cases h1
  |some t=>rw[e1,e2]at h1;cases h1;exact hb.look e2
 |some s=>
  cases e2:iB x.labels b with
  |none=>rw[e1,e2]at h1;cases h1;exact ha.look e1
  |some t=>
   rw[e1,e2]at h1;have h1:iJ s t=x.samples:=br h1;rw[<-h1];exact ph (ha.look e1) (hb.look e2)
def kC.mW{l:List gY}(h:kC l)(k:nR):kC (gX k l):=⟨oM h.ris,λx hx=>by
 obtain⟨y,hy,_,e,_⟩:=ki hx;rw[e];exact (h.up y hy).filter _⟩
def Ig{a b c:List gY}(ha:kC a)(hb:kC b)(hc:kC c):ij iJ (ij iJ a b) c=ij iJ a (ij iJ b c):=by
 refine wW (((ha.merge hb).merge hc).ris) ((ha.merge (hb.merge hc)).ris) λls=>?_;rw[jx iJ ls _ _ (ha.merge hb).ris hc.ris,jx iJ ls _ _ ha.ris hb.ris,jx iJ ls _ _ ha.ris (hb.merge hc).ris,jx iJ ls _ _ hb.ris hc.ris];cases e1:iB ls a<;>cases e2:iB ls b<;>cases e3:iB ls c<;>try rfl
 exact congrArg some (Me (ha.look e1) (hb.look e2) (hc.look e3))
def lI.yJ{S:List gY}(h:lI S):kC S:=⟨h.ris,λx hx=>((ja _).1 (h.each x hx).2.1).1.up⟩
def wX{to_ iN:Int}{l:List gY}(h:lZ to_ iN l=true):kC l:=⟨(th h).1,λx hx=>((th h).2 x hx).1⟩
def r6(k:nR)(ls:List Lb):∀{l:List gY},lW l->iB ls (gX k l)=match iB ls l with|none=>none|some s=>if s.filter (λx=> !k ls x.time)=[] then none else some (s.filter λx=> !k ls x.time)
 | [],_=>rfl
 |x::l,h=>by
  obtain⟨h1,h2⟩:=bh.1 h;have ih:=r6 k ls h2;have hne:∀z∈l,x.labels≠z.labels:=λz hz e=>by
   have:=h1 z hz;rw[e,(jo.eq0 _ _).2 rfl]at this;omega
  by_cases hx:x.labels=ls
  ·subst hx;have hl:iB x.labels l=none:=mA.2 λz hz e=>hne z hz e.symm;have hw:iB x.labels (gX k l)=none:=by rw[ih,hl]
   have e1:iB x.labels (x::l)=some x.samples:=mb h.dl aA;rw[e1];simp only;cases hf:jZ k x with
   |nil=>
    rw[iW l hf,hw,if_pos (show x.samples.filter (λy=> !k x.labels y.time)=[] from hf)]
   |cons y r=>
    have hf':x.samples.filter (λy=> !k x.labels y.time)=y::r:=hf;rw[iK l hf,hf',if_neg aA];have hr:lW (⟨x.labels,y::r⟩::gX k l):=by rw[<-iK l hf];exact oM h
    exact mb (x:=⟨x.labels,y::r⟩) hr.dl aA
  have e1:iB ls (x::l)=iB ls l:=by
   cases hll:iB ls l with
   |none=>
    refine mA.2 λz hz=>?_;rcases aF.1 hz with rfl|hz
    ·exact hx
    exact mA.1 hll z hz
   |some s=>
    have:=kg hll;exact mb (x:=⟨ls,s⟩) h.dl (by simp[this])
  rw[e1,<-ih];cases hf:jZ k x with
  |nil=>rw[iW l hf]
  |cons y r=>
   rw[iK l hf];have hr:lW (⟨x.labels,y::r⟩::gX k l):=by rw[<-iK l hf];exact oM h
   cases hll:iB ls (gX k l) with
   |none=>
    refine mA.2 λz hz=>?_;rcases aF.1 hz with rfl|hz
    ·exact hx
    exact mA.1 hll z hz
   |some s=>
    have:=kg hll;exact mb (x:=⟨ls,s⟩) hr.dl (by simp[this])
def JY{S:List gY}(h:lI S)(t:Int):ij iJ (gX (mN (jO t)) S) (gX (jO t) S)=S:=by
 have hu:=h.yJ;refine wW ((hu.mW _).merge (hu.mW _)).ris h.ris λls=>?_;rw[jx iJ ls _ _ (hu.mW _).ris (hu.mW _).ris,r6 _ ls h.ris,r6 _ ls h.ris];cases e:iB ls S with
 |none=>rfl
 |some s=>
  have hs:=hu.look e;have hne:s≠ []:=(h.each _ (kg e)).2.2;have h1:(s.filter λx=> !mN (jO t) ls x.time)=s.filter λx=>decide (x.time<=t):=ez λx _=>by simp[mN,jO]
  have h2:(s.filter λx=> !jO t ls x.time)=s.filter λx=> !decide (x.time<=t):=rfl;have hsp:=Fk t hs;simp only;rw[h1,h2];by_cases c1:(s.filter λx=>decide (x.time<=t))=[]
  ·rw[c1,mo]at hsp;rw[if_pos c1,hsp,if_neg hne];rfl
  by_cases c2:(s.filter λx=> !decide (x.time<=t))=[]
  ·rw[c2,oc]at hsp;rw[if_neg c1,if_pos c2,hsp];rfl
  rw[if_neg c1,if_neg c2];exact congrArg some hsp
def mC{s:iz}(h:jq s):kC (iF s.B s.G):=by
 have key:∀(l:List Int) (o:List gY),(∀n∈l,n∈gZ s.B)->kC o->kC (l.foldl (λout n=>ij iJ out (kl s.B s.G n)) o):=by
  intro l;induction l with
  |nil=>intro o _ ho;exact ho
  |cons n l ih=>
   intro o hl ho;refine ih _ (λm hm=>hl m (by simp[hm])) (ho.merge ?_);obtain⟨y,hy,_,e⟩:=qD h.bls (hl n aA);unfold kl;rw[<-e];exact (wX (h.hZ y hy).1).mW _
 exact key _ _ (λ_ h=>h) kC.nil
def pX{s:iz}(h:jq s):kC (iw s):=(mC h).merge h.mem.head.yJ
def Bs{s:iz}(h:jq s)(t:Int):iw (k9 t s)=iw s:=by
 unfold k9;split
 ·rename_i hc
  unfold iw;have e:=JY h.mem.head t;unfold kb at hc;show ij iJ (iF s.B s.G) (gX (jO t) s.S)=_;rw[hc,jP]at e;rw[e]
 unfold iw;show ij iJ (iF (jE (kn s.nx) ⟨max s.mark t, -1,kb t s⟩ s.B) s.G) (gX (jO t) s.S)=_;rw[<-oL,N_ h.bls h.mem.nlo h.gone _ (λx hx=>by
  obtain⟨y,_,_,_,e⟩:=ki (show x∈kb t s from hx);exact e)]
 unfold FG;rw[bN];show ij iJ (ij iJ (FG (o6 s.B s.G)) (kb t s)) (gX (jO t) s.S)=_;rw[oL];have hu:kC s.S:=h.mem.head.yJ;have e:=Ig (mC h) (hu.mW (mN (jO t))) (hu.mW (jO t));rw[JY h.mem.head t]at e;exact e
def As{s:iz}(h:jq s):∀x∈iF s.B s.G,x.samples≠ []:=by
 have key:∀(l:List Int) (o:List gY),kC o->(∀n∈l,n∈gZ s.B)->(∀x∈o,x.samples≠ [])->∀x∈l.foldl (λout n=>ij iJ out (kl s.B s.G n)) o,x.samples≠ []:=by
  intro l;induction l with
  |nil=>intro o _ _ ho;exact ho
  |cons n l ih=>
   intro o hu hl ho;obtain⟨y,hy,_,e⟩:=qD h.bls (hl n aA);have hL:kC (kl s.B s.G n):=by
    unfold kl;rw[<-e];exact (wX (h.hZ y hy).1).mW _
   refine ih _ (hu.merge hL) (λm hm=>hl m (by simp[hm])) λx hx hx0=>?_;have h1:=mb (hu.merge hL).ris.dl hx;rw[jx iJ x.labels _ _ hu.ris hL.ris]at h1;cases e1:iB x.labels o with
   |none=>
    cases e2:iB x.labels (kl s.B s.G n) with
    |none=>rw[e1,e2]at h1;cases h1
    |some t=>
     rw[e1,e2]at h1;cases h1;obtain⟨_,_,_,_,e3⟩:=ki (kg e2);exact e3 hx0
   |some a=>
    cases e2:iB x.labels (kl s.B s.G n) with
    |none=>rw[e1,e2]at h1;cases h1;exact ho _ (kg e1) hx0
    |some t=>
     rw[e1,e2]at h1;have h1:iJ a t=x.samples:=br h1;exact ho _ (kg e1) (GY (h1.trans hx0)).1
 exact key _ _ kC.nil (λ_ h=>h) (λ_ h=>(by cases h))
def C3{s:iz}(h:jq s):iw (l9 s)=iw s:=by
 unfold iw l9;show ij iJ (iF [(kn s.nx,⟨qS s.B,s.nx-1,iF s.B s.G⟩)] []) s.S=_;rw[<-oL,O1 _ _ (As h)];show ij iJ (ij iJ [] (iF s.B s.G)) s.S=_;rw[jP]
def nW(a b:List Sm):Prop:=∀t,nn t a≠none->nn t b≠none
def nW.len:∀{a b:List Sm},mY a->mY b->nW a b->a.length<=b.length
 | [],_,_,_,_=>aQ _
 |x::a,[],_,_,h=>absurd rfl (h x.time (by rw[jF,if_pos rfl];simp))
 |x::a,y::b,ha,hb,h=>by
  obtain⟨a1,a2⟩:=bh.1 ha;obtain⟨b1,b2⟩:=bh.1 hb;rcases Int.lt_trichotomy x.time y.time with hlt|heq|hgt
  ·exact absurd (pq (l:=y::b) λz hz=>by
    rcases aF.1 hz with rfl|hz
    ·exact hlt
    have:=b1 z hz;omega) (h x.time (by rw[jF,if_pos rfl];simp))
  ·have:a.length<=b.length:=nW.len a2 b2 λt ht=>by
    have hlt:x.time<t:=by
     by_cases e:x.time<t
     ·exact e
     exact absurd (pq λz hz=>by have:=a1 z hz;omega) ht
    have:=h t (by rw[jF,if_neg az];exact ht);rw[jF,if_neg az]at this;exact this
   simpa using this
  have:(x::a).length<=b.length:=nW.len ha b2 λt ht=>by
   have hlt:y.time<t:=by
    by_cases e:y.time<t
    ·exact e
    exact absurd (pq λz hz=>by
     rcases aF.1 hz with rfl|hz
     ·omega
     have:=a1 z hz;omega) ht
   have:=h t ht;rw[jF,if_neg az]at this;exact this
  exact Nat.le_succ_of_le this
def nW.rfl {a:List Sm}:nW a a:=λ_ h=>h
def nW.left{a b:List Sm}(ha:mY a)(hb:mY b):nW a (iJ a b):=λt ht=>by
 rw[nz t ha hb];cases nn t b with
 |none=>exact ht
 |some v=>simp
def nW.right{a b:List Sm}(ha:mY a)(hb:mY b):nW b (iJ a b):=λt ht=>by
 rw[nz t ha hb];cases h:nn t b with
 |none=>exact absurd h ht
 |some v=>simp
def nW.mg{a a' b:List Sm}(ha:mY a)(ha':mY a')(hb:mY b)(h:nW a a'):nW (iJ a b) (iJ a' b):=λt ht=>by
 rw[nz t ha hb]at ht;rw[nz t ha' hb];cases hv:nn t b with
 |none=>rw[hv]at ht;exact h t ht
 |some v=>simp
def nW.filter{a:List Sm}(p:Sm->Bool):nW (a.filter p) a:=λt ht=>by
 induction a with
 |nil=>exact ht
 |cons x a ih=>
  rw[jF];by_cases e:x.time=t
  ·rw[if_pos e];simp
  rw[if_neg e];refine ih ?_;by_cases hp:p x=true
  ·rw[dd hp,jF,if_neg e]at ht;exact ht
  rw[de hp]at ht;exact ht
def nv(A B:List gY):Prop:=∀ls a,iB ls A=some a->∃b,iB ls B=some b/\nW a b
def nv.rfl {A:List gY}:nv A A:=λ_ a h=>⟨a,h,nW.rfl⟩
def nv.trans{A B C:List gY}(h:nv A B)(k:nv B C):nv A C:=λls a ha=>by
 obtain⟨b,hb,h1⟩:=h ls a ha;obtain⟨c,hc,h2⟩:=k ls b hb;exact⟨c,hc,λt ht=>h2 t (h1 t ht)⟩
def nv.left{A B:List gY}(hA:kC A)(hB:kC B):nv A (ij iJ A B):=λls a ha=>by
 rw[jx iJ ls A B hA.ris hB.ris,ha];cases hb:iB ls B with
 |none=>exact⟨a,Eq.refl _,nW.rfl⟩
 |some b=>exact⟨iJ a b,Eq.refl _,nW.left (hA.look ha) (hB.look hb)⟩
def nv.merge{A A' B:List gY}(hA:kC A)(hA':kC A')(hB:kC B)(h:nv A A'):nv (ij iJ A B) (ij iJ A' B):=λls x hx=>by
 rw[jx iJ ls A B hA.ris hB.ris]at hx;rw[jx iJ ls A' B hA'.ris hB.ris];cases ha:iB ls A with
 |none=>
  rw[ha]at hx;cases hb:iB ls B with
  |none=>rw[hb]at hx;cases hx
  |some b=>
   rw[hb]at hx;have hx:b=x:=br hx;subst hx;cases ha':iB ls A' with
   |none=>exact⟨b,Eq.refl _,nW.rfl⟩
   |some a'=>exact⟨iJ a' b,Eq.refl _,nW.right (hA'.look ha') (hB.look hb)⟩
 |some a=>
  rw[ha]at hx;obtain⟨a',ha',h1⟩:=h ls a ha;rw[ha'];cases hb:iB ls B with
  |none=>
   rw[hb]at hx;have hx:a=x:=br hx;subst hx;exact⟨a',Eq.refl _,h1⟩
  |some b=>
   rw[hb]at hx;have hx:iJ a b=x:=br hx;subst hx;exact⟨iJ a' b,Eq.refl _,nW.mg (hA.look ha) (hA'.look ha') (hB.look hb) h1⟩
def nv.mW{A:List gY}(k:nR)(hA:kC A):nv (gX k A) A:=λls a ha=>by
 rw[r6 k ls hA.ris]at ha;cases h:iB ls A with
 |none=>rw[h]at ha;cases ha
 |some b=>
  rw[h]at ha;simp only at ha;split at ha
  ·cases ha
  have ha:=br ha;subst ha;exact⟨b,Eq.refl _,nW.filter _⟩
def sJ(A:List gY):Prop:=∀ls a,iB ls A=some a->a.length<=2000
def sJ.sub{A B:List gY}(hA:kC A)(hB:kC B)(h:nv A B)(hf:sJ B):sJ A:=λls a ha=>by
 obtain⟨b,hb,h1⟩:=h ls a ha;exact bE (nW.len (hA.look ha) (hB.look hb) h1) (hf ls b hb)
def Ks{A:List gY}(hA:lW A)(ls:List Lb):nH ls A=match iB ls A with|some a=>a.length|none=>0:=by
 rw[JV hA];cases h:mJ ls A with
 |some y=>
  obtain⟨hn,e1,e2⟩:=u_ h;have hm:y∈A:=e1 ▸ aR hn;have:=mb hA.dl hm;rw[(jo.eq0 _ _).1 e2]at this;rw[this]
 |none=>
  cases hl:iB ls A with
  |none=>rfl
  |some a=>
   exfalso;have hm:=kg hl;obtain⟨i,hi,ei⟩:=bz hm;have h0:iZ A[i].labels ls=0:=by rw[ei];exact (jo.eq0 _ _).2 rfl
   rcases f_ i (i_ ls A) with hi'|hi'|hi'
   ·have:=Al ls A i hi hi';omega
   ·have:=BW h az;simp only[<-hi']at this;exact this h0
   have hn:i_ ls A<A.length:=az
   have hp:iZ A[i_ ls A].labels A[i].labels<0:=bT.1 hA _ _ hn hi hi';rw[(jo.eq0 _ _).1 h0]at hp;exact AI ls A hn hp
def Eh{x:gY}{S:List gY}(hS:lW S)(ls:List Lb):iB ls (jV S x)=both (· ++ ·) (iB ls S) (iB ls [x]):=jx (· ++ ·) ls S [x] hS (dE _ _)
def CD{ls:List Lb}:∀{l S:List gY},lW S->(∀x∈l,x.labels≠ls)->iB ls (l.foldl jV S)=iB ls S
 | [],_,_,_=>rfl
 |x::l,S,hS,h=>by
  rw[bC,CD (yr x hS) λy hy=>h y (by simp[hy]),Eh hS];have:iB ls [x]=none:=mA.2 λz hz=>by rw[aH.1 hz];exact h x aA
  rw[this];cases iB ls S<;>rfl
def NC{s:iz}(h:jq s){l:List gY}(hv:∀x∈l,lV x.samples)(hf:sJ (iw s)):sJ (iw (j8 l s).2):=by
 have hok:=(GD h hv).1;unfold j8 at hok|-;by_cases h1:(jb s.mark s.S l).1.1≠0
 ·rw[if_pos h1];exact hf
 rw[if_neg h1]at hok|-;cases hfu:qa (ij iJ (iF s.B s.G) (jb s.mark s.S l).2) l with
 |some i=>exact hf
 |none=>
  rw[hfu]at hok;obtain⟨_,b,c⟩:=pK (gj.1 h1);simp only at hok;have hup:=pX hok;intro ls a ha;by_cases hl:∃x∈l,x.labels=ls
  ·obtain⟨x,hx,rfl⟩:=hl;have:=dN.1 hfu x hx;simp only[decide_eq_false_iff_not]at this;have hm:nH x.labels (iw {s with S:=(jb s.mark s.S l).2})<=2000:=by
    show nH x.labels (ij iJ (iF s.B s.G) (jb s.mark s.S l).2)<=2000;omega
   rw[Ks hup.ris,ha]at hm;exact hm
  have hn:∀x∈l,x.labels≠ls:=λx hx e=>hl ⟨x,hx,e⟩;have hw:=mC h;have e:iB ls (iw {s with S:=(jb s.mark s.S l).2})=iB ls (iw s):=by
   show iB ls (ij iJ (iF s.B s.G) (jb s.mark s.S l).2)=iB ls (ij iJ (iF s.B s.G) s.S);have hr2:lW (jb s.mark s.S l).2:=(sZ l h.mem.head).ris;rw[jx iJ ls _ _ hw.ris hr2,jx iJ ls _ _ hw.ris h.mem.head.ris];rw[c,CD h.mem.head.ris hn]
  exact hf ls a (e ▸ ha)
def Ju{s:iz}(h:jq s)(t:Int)(hf:sJ (iw s)):sJ (iw (k9 t s)):=by
 rw[Bs h t];exact hf
def M_{s:iz}(h:jq s)(hf:sJ (iw s)):sJ (iw (l9 s)):=by
 rw[C3 h];exact hf
def PN{s:iz}(h:jq s)(hf:sJ (iw s)):sJ (iF s.B s.G):=hf.sub (mC h) (pX h) (nv.left (mC h) h.mem.head.yJ)
def yY{k:nR}{A B:List gY}(hA:kC A)(hB:kC B):gX k (ij iJ A B)=ij iJ (gX k A) (gX k B):=
 qK oc mo (λ_ _ h=>GY h) (G:=mY) (λp xs ys hx hy hp=>uK p hp xs ys hx hy) A B hA.ris hB.ris hA.up hB.up
def ED{k:nR}:∀(l:List Pa) (o:List gY),(∀b∈l,kC b.L)->kC o->(l.map λb=>({b with L:=gX k b.L}:Pa)).foldl (λout b=>ij iJ out b.L) (gX k o)=gX k (l.foldl (λout b=>ij iJ out b.L) o)
 | [],_,_,_=>rfl
 |b::l,o,hl,ho=>by
  have hb:=hl b aA;have:=ED (k:=k) l (ij iJ o b.L) (λc hc=>hl c (by simp[hc])) (ho.merge hb);rw[bb,bC,bC,<-this,yY ho hb]
def GL{s:iz}(h:jq s):∀b∈o6 s.B s.G,kC b.L:=λb hb=>by
 obtain⟨n,hn,rfl⟩:=ba.1 hb;obtain⟨y,hy,_,e⟩:=qD h.bls hn;show kC (kl s.B s.G n);unfold kl;rw[<-e];exact (wX (h.hZ y hy).1).mW _
def EM{s:iz}(h:jq s)(g:Gn):iw (tz g s)=gX (oB g) (iw s):=by
 unfold iw tz;show ij iJ (iF s.B (s.G++[(s.nx-1,g)])) (gX (oB g) s.S)=_;rw[yY (mC h) h.mem.head.yJ]
 congr 1
 rw[<-oL,Md h.bls,<-oL];exact ED (o6 s.B s.G) [] (GL h) kC.nil
def OJ{s:iz}(h:jq s)(g:Gn)(hf:sJ (iw s)):sJ (iw (tz g s)):=by
 rw[EM h];exact hf.sub ((pX h).mW _) (pX h) (nv.mW _ (pX h))
def Ns{A B:List gY}(hA:kC A)(hB:kC B){z:gY}(hz:z∈ij iJ A B):∀y∈z.samples,(∃x∈A,x.labels=z.labels/\y∈x.samples)\/∃x∈B,x.labels=z.labels/\y∈x.samples:=λy hy=>by
 have h1:=mb (qH A B hA.ris hB.ris).dl hz;rw[jx iJ z.labels A B hA.ris hB.ris]at h1;cases ha:iB z.labels A with
 |none=>
  cases hb:iB z.labels B with
  |none=>rw[ha,hb]at h1;cases h1
  |some b=>
   rw[ha,hb]at h1;have h1:b=z.samples:=br h1;exact .inr ⟨_,kg hb,rfl,by rw[h1];exact hy⟩
 |some a=>
  cases hb:iB z.labels B with
  |none=>
   rw[ha,hb]at h1;have h1:a=z.samples:=br h1;exact .inl ⟨_,kg ha,rfl,by rw[h1];exact hy⟩
  |some b=>
   rw[ha,hb]at h1;have h1:iJ a b=z.samples:=br h1;rw[<-h1]at hy;rcases tj hy with hy|hy
   ·exact .inl ⟨_,kg ha,rfl,hy⟩
   exact .inr ⟨_,kg hb,rfl,hy⟩
structure oZ(p:List Lb->Prop)(q:Sm->Prop)(A:List gY):Prop where
 lab:∀x∈A,p x.labels
 sam:∀x∈A,∀y∈x.samples,q y
def oZ.nil{p:List Lb->Prop}{q:Sm->Prop}:oZ p q []:=⟨λ_ h=>(by cases h),λ_ h=>(by cases h)⟩
def oZ.merge{p:List Lb->Prop}{q:Sm->Prop}{A B:List gY}(hA:kC A)(hB:kC B)(a:oZ p q A)(b:oZ p q B):oZ p q (ij iJ A B):=by
 refine⟨λz hz=>?_,λz hz y hy=>?_⟩
 ·obtain⟨x,hx,e⟩:=ni A B z hz;rw[<-e];rcases hx with hx|hx
  ·exact a.lab x hx
  exact b.lab x hx
 rcases Ns hA hB hz y hy with ⟨x,hx,_,hy⟩|⟨x,hx,_,hy⟩
 ·exact a.sam x hx y hy
 exact b.sam x hx y hy
def oZ.mW{p:List Lb->Prop}{q:Sm->Prop}{A:List gY}(k:nR)(a:oZ p q A):oZ p q (gX k A):=by
 refine⟨λz hz=>?_,λz hz y hy=>?_⟩
 ·obtain⟨x,hx,e,_⟩:=ki hz;rw[e];exact a.lab x hx
 obtain⟨x,hx,_,e,_⟩:=ki hz;rw[e]at hy;exact a.sam x hx y (bF.1 hy).1
def vI{s:iz}(h:jq s){p:List Lb->Prop}{q:Sm->Prop}(hb:∀y∈s.B,oZ p q y.2.L):oZ p q (iF s.B s.G):=by
 have key:∀(l:List Int) (o:List gY),(∀n∈l,n∈gZ s.B)->kC o->oZ p q o->oZ p q (l.foldl (λout n=>ij iJ out (kl s.B s.G n)) o):=by
  intro l;induction l with
  |nil=>intro o _ _ ho;exact ho
  |cons n l ih=>
   intro o hl hu ho;obtain⟨y,hy,_,e⟩:=qD h.bls (hl n aA);have h1:kC (kl s.B s.G n):=by
    unfold kl;rw[<-e];exact (wX (h.hZ y hy).1).mW _
   have h2:oZ p q (kl s.B s.G n):=by
    unfold kl;rw[<-e];exact (hb y hy).mW _
   exact ih _ (λm hm=>hl m (by simp[hm])) (hu.merge h1) (ho.merge hu h1 h2)
 exact key _ _ (λ_ h=>h) kC.nil oZ.nil
def Gv{to_ iN:Int}{l:List gY}(h:lZ to_ iN l=true):oZ (λls=>iS ls=true) (λy=> -1099511627776<=y.time/\y.time<=1099511627776) l:=
 ⟨λx hx=>(nQ h x hx).1,λx hx y hy=>by
  have:=(ja _).1 (nQ h x hx).2;exact⟨this.1.lo y hy,this.1.hi y hy⟩⟩
def zP{to_ iN:Int}{l:List gY}(h:lZ to_ iN l=true):(∀x∈l,∀y∈x.samples,y.time<=to_)/\ -1099511627776<=to_/\to_<=1099511627776/\ -1<=iN:=by
 have hu:=wX h;have hne:=λx hx=>((th h).2 x hx).2;unfold lZ at h;rw[aG,aG,bG,decide_eq_true_iff,decide_eq_true_iff]at h;refine⟨λx hx y hy=>?_,h.2.1.1,h.2.1.2,h.2.2⟩;obtain⟨i,hi,rfl⟩:=bz hx;have:=oP h.1 i hi;have hpos:0<l[i].samples.length:=cm.2 (hne _ hx);rw[v7 hi]at this;simp only[bO]at this;have h4:=this.2.2.2.1;rw[BS az]at h4;have h5:=of_decide_eq_false h4;have h6:=Hy (hu.up _ hx) hy;have h7:rk l[i].samples=l[i].samples[l[i].samples.length-1].time:=by
  unfold rk;rw[gq,aC az]
 omega
def E2{s:iz}(h:jq s)(hf:sJ (iw s))(hB:s.B≠ []):jq (l9 s):=by
 obtain⟨m1,m2,m3⟩:=B9 (λn=>(js s.B n).to_) (gZ s.B) (-1099511627776);have hto:∀n∈gZ s.B, -1099511627776<=(js s.B n).to_/\(js s.B n).to_<=s.mark:=λn hn=>by
  obtain⟨y,hy,_,e⟩:=qD h.bls hn;rw[<-e];obtain⟨a,b⟩:=h.hZ y hy;exact⟨(zP a).2.1,b⟩
 have hmk: -1099511627776<=s.mark:=by
  obtain⟨y,hy⟩:=List.exists_mem_of_ne_nil _ hB;obtain⟨a,b⟩:=h.hZ y hy;have:=(zP a).2.1;omega
 have htop:qS s.B<=s.mark:=m3 s.mark hmk λn hn=>(hto n hn).2;have hmhi:s.mark<=1099511627776:=h.mem.mhi;have hnlo:0<=s.nx:=h.mem.nlo;have he:oZ (λls=>iS ls=true) (λy=>(-1099511627776<=y.time/\y.time<=1099511627776)/\y.time<=qS s.B) (iF s.B s.G):=vI h λy hy=>by
  have hb:=(h.hZ y hy).1;have h1:=Gv hb;refine⟨h1.lab,λx hx z hz=>⟨h1.sam x hx z hz,?_⟩⟩;have h2:=(zP hb).1 x hx z hz;obtain⟨n,e,_⟩:=h.bls.keys y hy;have hn:n∈gZ s.B:=(nq h.bls).2 ⟨y.2,by rw[<-e];exact hy⟩;have h3:=m2 n hn;have h4:js s.B n=y.2:=by
   unfold js;have hm:(kn n,y.2)∈s.B:=by rw[<-e];exact hy
   rw[(kF (kd:=some .i64) rfl h.bls.sort h.bls.nd).2 hm];rfl
  rw[h4]at h3;show z.time<=qS s.B;unfold qS;omega
 have hv:oZ (λ_=>True) (λy=>kp y.value) (iF s.B s.G):=vI h λy hy=>⟨λ_ _=>trivial,λx hx z hz=>h.k_.2 y hy x hx z hz⟩;have hfew:=PN h hf;have hup:=mC h;refine⟨⟨h.mem.head,h.mem.above,h.mem.mlo,h.mem.mhi,by show 0<=s.nx+1;omega⟩,⟨λy hy=>?_,by simp[l9]⟩,by simp[l9],(λx hx=>(by cases hx)),λy hy=>?_,h.k_.1,λy hy=>?_⟩
 ·rw[aH.1 hy];exact⟨s.nx,rfl,hnlo,by show s.nx<s.nx+1;omega⟩
 ·rw[aH.1 hy];refine⟨I0 hup.ris (λx hx=>⟨he.lab x hx,(ja _).2 ⟨⟨λy hy=>(he.sam x hx y hy).1.1,λy hy=>(he.sam x hx y hy).1.2,hup.up x hx⟩,hfew x.labels x.samples (mb hup.ris.dl hx)⟩,As h x hx,λy hy=>(he.sam x hx y hy).2⟩) ⟨m1,by show qS s.B<=_;omega⟩ (by show-1<=s.nx-1;omega),htop⟩
 rw[aH.1 hy];exact λx hx z hz=>hv.sam x hx z hz
def kN(t:Int)(s:iz):List Int:=(gZ s.B).filter λn=>decide ((js s.B n).to_<=t)
def y7(t:Int)(s:iz):iz:={s with B:=jL s.B (kN t s)}
def yp:∀{l:List Int} {B:List (Value×Bl)},(jL B l).Sublist B
 | [],B=>gh _
 |k::l,B=>by
  refine (yp (l:=l) (B:=kA (kn k) B)).trans ?_;have hs:∀{B:List (Value×Bl)},(kA (kn k) B).Sublist B:=by
   intro B;induction B with
   |nil=>exact gh _
   |cons y r ih=>
    obtain⟨q,x⟩:=y;show (if iA (kn k) q=true then r else (q,x)::kA (kn k) r).Sublist _;split
    ·exact List.sublist_cons_self _ _
    exact ih.cons_cons _
  exact hs
def Ds{s:iz}(h:jq s)(t:Int):jq (y7 t s):=by
 have hs:(jL s.B (kN t s)).Sublist s.B:=yp;exact⟨h.mem,(rT h.bls).1,bE hs.length_le h.len,h.gone,λy hy=>h.hZ y (hs.subset hy),h.k_.1,λy hy=>h.k_.2 y (hs.subset hy)⟩
def NU{s:iz}(h:jq s)(t:Int):o6 (y7 t s).B (y7 t s).G=(o6 s.B s.G).filter λb=>decide (t<b.to_):=PR h.bls t
def sub_fold:∀{l m:List Pa} {o p:List gY},l.Sublist m->(∀b∈m,kC b.L)->kC o->kC p->nv o p->nv (l.foldl (λout b=>ij iJ out b.L) o) (m.foldl (λout b=>ij iJ out b.L) p)
 |_,_,_,_,.slnil,_,_,_,h=>h
 |_,_,o,p,.cons (l₁:=l) (l₂:=m) b hs,hm,ho,hp,h=>by
  have hb:=hm b aA;rw[bC];exact sub_fold hs (λc hc=>hm c (by simp[hc])) ho (hp.merge hb) (h.trans (nv.left hp hb))
 |_,_,o,p,.cons_cons (l₁:=l) (l₂:=m) b hs,hm,ho,hp,h=>by
  have hb:=hm b aA;rw[bC,bC];exact sub_fold hs (λc hc=>hm c (by simp[hc])) (ho.merge hb) (hp.merge hb) (nv.merge ho hp hb h)
def Ru{s:iz}(h:jq s)(t:Int)(hf:sJ (iw s)):sJ (iw (y7 t s)):=by
 refine hf.sub (pX (Ds h t)) (pX h) ?_;unfold iw;refine nv.merge (mC (Ds h t)) (mC h) h.mem.head.yJ ?_;rw[<-oL,<-oL,NU h t];exact sub_fold List.filter_sublist (GL h) kC.nil kC.nil nv.rfl
def Ti(l:List Sm):(enc l).size<=18*l.length+20:=by
 have h9:(enc l).size=((my l).length+7) /8:=by
  show (pack (my l)).toArray.size=_;rw[cr,tm]
 have h8:=yt l;omega
def JO:∀{m:List Lb},(∀x∈m,x.name.size<=24/\x.value.size<=24)->(pQ m).size<=64*m.length
 | [],_=>aL _
 |x::m,hm=>by
  have h3:=hm x aA;have h4:=JO (m:=m) λy hy=>hm y (by simp[hy]);have h5:(kX x.name).size=8+x.name.size:=by unfold kX;rw[aJ,jw]
  have h6:(kX x.value).size=8+x.value.size:=by unfold kX;rw[aJ,jw]
  simp only[pQ,aJ,aB];omega
def zR:∀{m:List gY},(∀x∈m,iS x.labels=true)->(pr m).size<=550*m.length+18*ir m
 | [],_=>aQ _
 |x::m,hm=>by
  obtain⟨h1,h2⟩:=lS (hm x aA);have h4:=zR (m:=m) λy hy=>hm y (by simp[hy]);have h7:=JO h2;have h8:=Ti x.samples;have h10:(Bb x).size=8+(pQ x.labels).size+(8+(enc x.samples).size):=by
   unfold Bb wm kX;simp only[aJ,jw]
  have h11:ir (x::m)=x.samples.length+ir m:=by simp[ir]
  simp only[pr,aJ,aB];rw[h11];omega
def xw{l:List gY}(h:∀x∈l,iS x.labels=true):(lT l).size<=8+550*l.length+18*ir l:=by
 have h1:=zR h;have h4:(lT l).size=8+(pr l).size:=by unfold lT;rw[aJ,jw]
 omega
def w6{l:List gY}(h:∀x∈l,x.samples≠ []):l.length<=ir l:=by
 induction l with
 |nil=>exact aL _
 |cons x l ih=>
  have h1:=ih λy hy=>h y (by simp[hy]);have h2:0<x.samples.length:=cm.2 (h x aA);have h3:ir (x::l)=x.samples.length+ir l:=by simp[ir]
  simp only[aB];omega
def rM:∀(a b:List gY),ir (ij iJ a b)<=ir a+ir b
 | [],b=>by rw[jP];simp[ir]
 |x::a,[]=>by rw[ko];simp[ir]
 |x::a,y::b=>by
  rw[oN];have e1:ir (x::a)=x.samples.length+ir a:=by simp[ir]
  have e2:ir (y::b)=y.samples.length+ir b:=by simp[ir]
  split
  ·have:=rM a (y::b);have e3:ir (x::ij iJ a (y::b))=x.samples.length+ir (ij iJ a (y::b)):=by simp[ir]
   omega
  split
  ·have:=rM a b;have h4:=xp x.samples y.samples;have e3':∀ls,ir (⟨ls,iJ x.samples y.samples⟩::ij iJ a b)=(iJ x.samples y.samples).length+ir (ij iJ a b):=λls=>by simp[ir]
   rw[e3'];omega
  have:=rM (x::a) b;have e3:ir (y::ij iJ (x::a) b)=y.samples.length+ir (ij iJ (x::a) b):=by simp[ir]
  omega
termination_by a b=>a.length+b.length
def oT(k:nR):∀l:List gY,ir (gX k l)<=ir l
 | []=>aL _
 |x::l=>by
  have h1:=oT k l;have e1:ir (x::l)=x.samples.length+ir l:=by simp[ir]
  cases hx:jZ k x with
  |nil=>rw[iW l hx];omega
  |cons y r=>
   have h2:(jZ k x).length<=x.samples.length:=bZ _ _;rw[hx]at h2;rw[iK l hx];have e3:ir (⟨x.labels,y::r⟩::gX k l)=(y::r).length+ir (gX k l):=by simp[ir]
   rw[e3];omega
def l7(B:List (Value×Bl)):Nat:=(B.map λy=>ir y.2.L).sum
def vF(s:iz):Nat:=l7 s.B+ir s.S
def M3{B:List (Value×Bl)}{n:Int}:ir (js B n).L<=l7 B:=by
 unfold js l7;induction B with
 |nil=>exact aQ _
 |cons y r ih=>
  obtain⟨k,b⟩:=y;rw[bb,cK];show ir (((if iA (kn n) k=true then some b else iC (kn n) r):Option Bl).getD _).L<=ir b.L+(r.map λy=>ir y.2.L).sum;split
  ·exact Nat.le_add_right _ _
  omega
def GW(w:ByteArray)(d:Dk):Option Int×Dk:=match jg w d with|some _=>lQ w d|none=>(none,d)
def yq(w f s:ByteArray)(d:Dk):Option Int×Dk:=tC (GW w d) λd=>tC (lM w s d) λd=>tC (nJ w d) (rl w f)
def LB(l:List ByteArray)(d:Dk):ox l d=yq fN nN (jc l) d:=rfl
def Eb{d:Dk}{B:Nat}(hok:d.ok B)(hc:d.cut=false){f:ByteArray}{x:Fl}(hf:jg f d=some x):∃d',lQ f d=(none,d')/\d'.ok B/\d'.cut=false/\∀g,jg g d'=if g=f then none else jg g d:=by
 have e:lQ f d=(none,s8 f (kc d)):=by unfold lQ;rw[hf];simp only[];rw[if_pos (pR hc)]
 have hk:=yy hok f;rw[e]at hk;exact⟨_,e,hk,hc,λg=>Jg (o3 hok (pR hc)) f g⟩
def Jk{d:Dk}{B:Nat}(hok:d.ok B)(hc:d.cut=false){w f:ByteArray}(hw:pH w=false)(hf:pH f=false)(s:ByteArray):
  ∃d',yq w f s d=(none,d')/\d'.ok (B+s.size)/\d'.cut=false/\∀g,jg g d'=if g=f then some (s,(s.size:Int)) else if g=w then none else jg g d:=by
 have hcl:∃d1,GW w d=(none,d1)/\d1.ok B/\d1.cut=false/\jg w d1=none/\∀g,g≠w->jg g d1=jg g d:=by
  unfold GW;cases h:jg w d with
  |none=>exact⟨d,rfl,hok,hc,h,λ_ _=>rfl⟩
  |some x=>
   obtain⟨d',e,h1,h2,h3⟩:=Eb hok hc h;exact⟨d',e,h1,h2,by rw[h3,if_pos rfl],λg hg=>by rw[h3,if_neg hg]⟩
 obtain⟨d1,h1,hk1,hc1,hf1,hg1⟩:=hcl;have h2:lM w s d1=(none,mP w (s, -1) (kc d1)):=by rw[Fh hc1 hw,hf1]
 have hk2:=qJ hk1 w s;rw[h2]at hk2;have hc2:(mP w (s, -1) (kc d1)).cut=false:=hc1;have e2:=λg=>wY (o3 hk1 (pR hc1)) w g (s, -1);generalize mP w (s, -1) (kc d1)=d2 at*;have e2w:=e2 w;rw[if_pos rfl]at e2w;have h3:nJ w d2=(none,mP w (s,s.size) (kc d2)):=by unfold nJ;rw[e2w];simp only[];rw[if_pos (pR hc2)]
 have hk3:=vu hk2 w;rw[h3]at hk3;have hc3:(mP w (s,s.size) (kc d2)).cut=false:=hc2;have e3:=λg=>wY (o3 hk2 (pR hc2)) w g (s,(s.size:Int));generalize mP w (s,(s.size:Int)) (kc d2)=d3 at*;have e3w:=e3 w;rw[if_pos rfl]at e3w;have h4:rl w f d3=(none,mP f (s,s.size) (s8 w (kc d3))):=by unfold rl;rw[if_neg (by rw[hf];decide),e3w];simp only[];rw[if_pos (pR hc3)]
 have hkd:=Jf (f:=w) (o3 hk3 (pR hc3));have hk4:(mP f (s,(s.size:Int)) (s8 w (kc d3))).ok (B+s.size):=yc hkd rfl (by show s.size<=_;omega) (by show (-1:Int)<=s.size;omega) (bY _);refine⟨_,?_,hk4,hc3,λg=>?_⟩
 ·unfold yq;rw[h1,nj,h2,nj,h3,nj,h4]
 rw[wY hkd];by_cases e:g=f
 ·rw[if_pos e,if_pos e]
 rw[if_neg e,if_neg e,Jg (o3 hk3 (pR hc3))];by_cases e':g=w
 ·rw[if_pos e',if_pos e']
 rw[if_neg e',if_neg e'];show jg g d3=_;rw[e3,if_neg e',show jg g (kc d2)=jg g d2 from rfl,e2,if_neg e',show jg g (kc d1)=jg g d1 from rfl,hg1 g e']
def Q8{d:Dk}{B:Nat}(hok:d.ok B)(hc:d.cut=false)(s:ByteArray)(hs:s.size<=60000):
  ∃d',sa s false d=(none,false,d')/\d'.ok (B+(s.size+2))/\d'.cut=false/\cont d'=cont d++jU s/\(∀g,g≠nN->jg g d'=jg g d)/\∀x,jg nN d'=some x->x.2=(x.1.size:Int):=by
 have hB:0<=s.size:=aQ _;unfold sa;rw[if_neg az,if_neg ax];have hk1:=qJ hok nN (jU s);rw[ml]at hk1;obtain⟨x,h2,e2⟩:∃x:Fl,lM nN (jU s) d=(none,mP nN x (kc d))/\x.1=cont d++jU s:=by
  rw[Fh hc Jm];unfold cont;cases h:jg nN d with
  |none=>exact⟨(jU s, -1),rfl,aA⟩
  |some y=>exact⟨(y.1++jU s,y.2),rfl,rfl⟩
 rw[h2]at hk1;have hc2:(mP nN x (kc d)).cut=false:=hc;have e3:=λg=>wY (o3 hok (pR hc)) nN g x;rw[h2,nj];generalize mP nN x (kc d)=d2 at*;have e3n:=e3 nN;rw[if_pos rfl]at e3n;have h3:nJ nN d2=(none,mP nN (x.1,x.1.size) (kc d2)):=by unfold nJ;rw[e3n];simp only[];rw[if_pos (pR hc2)]
 have hk3:=vu hk1 nN;rw[h3]at hk3;have e4:=λg=>wY (o3 hk1 (pR hc2)) nN g (x.1,(x.1.size:Int));rw[h3];refine⟨_,rfl,hk3,hc2,?_,λg hg=>?_,λz hz=>?_⟩
 ·have:=e4 nN;rw[if_pos rfl]at this;rw[<-e2];unfold cont;rw[this]
 ·rw[e4,if_neg hg,show jg g (kc d2)=jg g d2 from rfl,e3,if_neg hg];rfl
 have:=e4 nN;rw[if_pos rfl]at this;rw[this]at hz;cases hz;rfl
def Jo:∀(k u:Nat),1<=k->u<10^k->Lib.nDigits u<=k
 |0,_,h,_=>absurd h az
 |1,u,_,h=>by rw[Lib.nDigits_small (by simpa using h)];exact aL _
 |k+2,u,_,h=>by
  by_cases h1:u<10
  ·rw[Lib.nDigits_small h1];omega
  rw[Lib.nDigits_big h1];have:=Jo (k+1) (u/10) az (by rw[fJ]at h;omega);omega
def BN{n:Int}(h0:0<=n){k:Nat}(hk:1<=k)(h:n<(10^k:Nat)):(Lib.itoa n).length<=k:=by
 rw[Lib.itoa,if_neg az,Lib.decDigits_length];exact Jo k _ hk az
def Nn:opsL.length=4:=rfl
def s9(l:List UInt8):(bS l).size=l.length:=by show l.toArray.size=_;simp
def Jl{t:Tok}{s:ByteArray}(r:List Tok)(h:t.text=s)(hk:t.kind≠3):qP s (t::r)=true:=by
 rw[qP,aG,decide_eq_true_iff,l_];exact⟨h,hk⟩
def GI{t:Tok}{s:ByteArray}(r:List Tok)(h:t.text≠s):qP s (t::r)=false:=by
 rw[qP,fH];left;rw[<-Bool.not_eq_true,l_];exact h
def CP{t:Tok}{s:ByteArray}(r:List Tok)(h:t.text=s)(hk:t.kind≠3)(hk5:t.kind≠5):nu s (t::r)=true:=by
 rw[nu,Jl r h hk,cY,decide_eq_true_iff];exact hk5
def EZ{t:Tok}{s:ByteArray}(r:List Tok)(h:t.text≠s):nu s (t::r)=false:=by
 rw[nu,GI r h,fi]
def Ed{t:Tok}{s:ByteArray}(r:List Tok)(h:t.text=s)(hk:t.kind≠3)(hk5:t.kind≠5):qg s (t::r)=.ok ((),r):=by
 rw[qg,if_pos (CP r h hk hk5)];rfl
def Az{t:Tok}{x:Lx}(h:t.st=x.st):t.kind=x.kind/\t.text=bS x.text:=⟨congrArg Prod.fst h,congrArg Prod.snd h⟩
def Hu(t:Tok)(s:List UInt8):Prop:=t.text=bS s/\t.kind≠3/\t.kind≠5
def wU{t:Tok}{s:List UInt8}(h:t.st=(mL s).st):Hu t s:=⟨(Az h).2,by rw[(Az h).1];exact (by decide:(4:Int)≠3),by rw[(Az h).1];exact (by decide:(4:Int)≠5)⟩
def Hu.TN{t:Tok}{s:List UInt8}(h:Hu t s)(r:List Tok):qg (bS s) (t::r)=.ok ((),r):=Ed r h.1 h.2.1 h.2.2
def Hu.Qp{t:Tok}{s:List UInt8}(h:Hu t s)(r:List Tok):nu (bS s) (t::r)=true:=CP r h.1 h.2.1 h.2.2
def Hu.not{t:Tok}{s w:List UInt8}(h:Hu t s)(r:List Tok)(hne:s≠w):nu (bS w) (t::r)=false:=EZ r (by rw[h.1];exact λe=>hne (Ci e))
def Py{L:List ByteArray}(hL:∀i j,i<j->j<L.length->L.getD i ⟨#[]⟩≠L.getD j ⟨#[]⟩){t:Tok}(r:List Tok){k:Nat}(hk:k<L.length)(h:t.text=L.getD k ⟨#[]⟩)(h3:t.kind≠3):
  (L.findIdx? λs=>qP s (t::r))=some k:=by
 rw[ck];have e:∀i (hi:i<L.length),L.getD i ⟨#[]⟩=L[i]:=λi hi=>by rw[cR,aC hi];rfl
 refine⟨hk,Jl r (by rw[h,e k hk]) h3,λj hj=>?_⟩;rw[GI r (by rw[h,<-e j az];exact (hL j k hj hk).symm)];exact bM
def wV{L:List ByteArray}{t:Tok}(r:List Tok)(h:∀s∈L,t.text≠s):(L.findIdx? λs=>qP s (t::r))=none:=by
 rw[dN];exact λs hs=>GI r (h s hs)
def Tl:∀i j,i<j->j<opsL.length->opsL.getD i ⟨#[]⟩≠opsL.getD j ⟨#[]⟩:=by
 intro i j h1 h2;have:j<4:=h2;have hh:∀j:Fin 4,∀i:Fin 4,i.val<j.val->opsL.getD i.val ⟨#[]⟩≠opsL.getD j.val ⟨#[]⟩:=ax
 exact hh ⟨j,az⟩ ⟨i,az⟩ h1
def OM{n:Int}(h:0<=n):(∀b∈Lib.itoa n,kz b=true)/\Lib.itoa n≠ []:=by
 rw[Lib.itoa,if_neg az];generalize n.toNat=u;induction u using Nat.strongRecOn with
 |_ u ih=>
  have hd:∀d,d<10->kz (UInt8.ofNat (48+d))=true:=by
   intro d hd;have hh:∀d:Fin 10,kz (UInt8.ofNat (48+d.val))=true:=ax
   exact hh ⟨d,hd⟩
  rw[Lib.decDigits];by_cases h:u<10
  ·rw[dif_pos h];exact⟨λb hb=>by rw[aH.1 hb];exact hd u h,aA⟩
  rw[dif_neg h];refine⟨λb hb=>?_,aA⟩;rcases aE.1 hb with hb|hb
  ·exact (ih (u/10) az).1 b hb
  rw[aH.1 hb];exact hd _ (eK _ ax)
def vS{n:Int}(h:0<=n):zG (bS (Lib.itoa n))=n:=by
 unfold zG;rw[show (bS (Lib.itoa n)).data.toList=Lib.itoa n from vW _,Lib.itoa,if_neg az];have:∀u:Nat,(Lib.decDigits u).foldl (λ(n:Int) c=>n*10+((c.toNat:Int) -48)) 0=u:=by
  intro u;induction u using Nat.strongRecOn with
  |_ u ih=>
   have hd:∀d,d<10->((UInt8.ofNat (48+d)).toNat:Int) -48=d:=by
    intro d hd;have hh:∀d:Fin 10,((UInt8.ofNat (48+d.val)).toNat:Int) -48=d.val:=ax
    exact hh ⟨d,hd⟩
   rw[Lib.decDigits];by_cases h:u<10
   ·rw[dif_pos h,bC,eC,hd u h];omega
   rw[dif_neg h,bN,ih (u/10) az,bC,eC,hd _ (eK _ ax)];omega
 rw[this];omega
def MU{t:Tok}(r:List Tok){s:ByteArray}(hs:lU s=true)(h:t.st=(wL (bL s)).st):rm (t::r)=.ok (s,r):=by
 obtain⟨hk,ht⟩:=Az h;have hk:t.kind=1:=hk;have ht:t.text=s:=by rw[ht];exact An s
 have h1:rm (t::r)=uc 1 (t::r):=if_neg (by rintro⟨_,h⟩;rw[show (qQ (t::r)).text=s from ht,hs]at h;cases h);have h2:uc 1 (t::r)=.ok (t.text,r):=if_pos hk;rw[h1,h2,ht]
def zU{m:Mt}(hm:IW m)(T rest:List Tok)(hT:T.map Tok.st=(zl m).map Lx.st):rD (T++rest)=.ok (m,rest):=by
 obtain⟨t1,T,rfl,h1,hT⟩:=c_.1 hT;obtain⟨t2,T,rfl,h2,hT⟩:=c_.1 hT;obtain⟨t3,T,rfl,h3,hT⟩:=c_.1 hT;rw[cN,eV]at hT;subst hT;obtain⟨g1,g2,g3,g4⟩:=hm;have hk:m.op.toNat<opsL.length:=by rw[Nn];omega
 have i2:=wU h2;have e2:t2.text=opsL.getD m.op.toNat ⟨#[]⟩:=by rw[i2.1,An]
 rw[show [t1,t2,t3]++rest=t1::t2::t3::rest from rfl,rD,MU _ g1 h1];simp only;rw[Py Tl _ hk e2 i2.2.1];simp only;rw[Ed _ e2 i2.2.1 i2.2.2];simp only;obtain⟨k3,x3⟩:=Az h3;have k3:t3.kind=3:=k3;have x3:t3.text=bS (34::bL m.value++[34]):=x3;have h4:uc 3 (t3::rest)=.ok (t3.text,rest):=if_pos k3;rw[h4];simp only;have h5:t3.text.extract 1 (t3.text.size-1)=m.value:=by
  rw[x3,s9];apply cE;apply Array.ext';rw[cw,dz];show List.extract (34::bL m.value++[34]) _ _=_;simp[bL]
 rw[h5,if_pos g2];obtain⟨n,o,v⟩:=m;have:((o.toNat:Nat):Int)=o:=by simp only at g3;omega
 simp only[this]
def Mw(y:Lx)(x:List Lx)(r:List (List Lx)):rI y (x::r)=x++r.flatMap (y:: ·):=by
 induction r generalizing x with
 |nil=>simp[rI]
 |cons b r ih=>
  have:rI y (x::b::r)=x++y::rI y (b::r):=rfl;rw[this,ih];simp
def JQ{T:List Tok}{a b:List Lx}(h:T.map Tok.st=(a++b).map Lx.st):∃T1 T2,T=T1++T2/\T1.map Tok.st=a.map Lx.st/\T2.map Tok.st=b.map Lx.st:=by
 rw[aP]at h;obtain⟨T1,T2,h1,h2,h3⟩:=ee.1 h;exact⟨T1,T2,h1,h2,h3⟩
def vf{T:List Tok}{a:Lx}{b:List Lx}(h:T.map Tok.st=(a::b).map Lx.st):∃t T2,T=t::T2/\t.st=a.st/\T2.map Tok.st=b.map Lx.st:=by
 obtain⟨t,T2,h1,h2,h3⟩:=c_.1 h;exact⟨t,T2,h1,h2,h3⟩
def IM{T:List Tok}(h:T.map Tok.st=([]:List Lx).map Lx.st):T=[]:=eV.1 h
def Js{T:List Tok}{X:List Lx}(h:T.map Tok.st=X.map Lx.st):T.length=X.length:=by
 have:=congrArg List.length h;simpa using this
def wT:∀(ms acc:List Mt) (f:Nat) (T rest:List Tok),(∀m∈ms,IW m)->acc≠ []->acc.length+ms.length<=8->ms.length<f->T.map Tok.st=((ms.map zl).flatMap (mL [44] :: ·)++[mL [125]]).map Lx.st->
  jG f acc (T++rest)=.ok (acc++ms,rest)
 |ms,acc,0,_,_,_,_,_,hf,_=>az
 | [],acc,f+1,T,rest,_,_,_,_,hT=>by
  obtain⟨t,T,rfl,h1,hT⟩:=vf hT;cases IM hT;rw[show [t]++rest=t::rest from rfl,jG,if_pos ((wU h1).Qp rest),aZ];rfl
 |m::ms,acc,f+1,T,rest,hm,ha,hl,hf,hT=>by
  have ha0:acc.length≠0:=by cases acc with|nil=>exact absurd rfl ha|cons a b=>simp
  rw[bb,dB,aS]at hT;obtain⟨t,T,rfl,h1,hT⟩:=vf hT;obtain⟨T1,T2,rfl,hT1,hT2⟩:=JQ hT;rw[show t::(T1++T2)++rest=t::(T1++T2++rest) from rfl,jG,if_neg (by rw[(wU h1).not _ ax];exact bM),if_neg ha0,(wU h1).TN];simp only[aB]at hl hf|-;rw[if_neg az,aS,zU (hm m bf) T1 _ hT1];simp only;rw[wT ms (acc++[m]) f T2 rest (λx hx=>hm x (aK _ hx)) aA aq az hT2];simp
def vd:∀ms:List Mt,ms.length<=((ms.map zl).flatMap (mL [44] :: ·)).length
 | []=>aL _
 |a::b=>by
  have:=vd b;rw[bb,dB,aI,aB,aB];omega
def Fu{ms:List Mt}(hm:sd ms)(T rest:List Tok)(hT:T.map Tok.st=(zk ms).map Lx.st):n_ (T++rest)=.ok (ms,rest):=by
 obtain⟨t,T,rfl,h1,hT⟩:=vf hT;have hlen:=Js hT;rw[show t::T++rest=t::(T++rest) from rfl,n_,(wU h1).TN];simp only;cases ms with
 |nil=>
  obtain⟨t2,T,rfl,h2,hT⟩:=vf hT;cases IM hT;rw[show [t2]++rest=t2::rest from rfl,jG,if_pos ((wU h2).Qp rest)];rfl
 |cons m ms=>
  rw[bb,Mw,aS]at hT hlen;obtain⟨T1,T2,rfl,hT1,hT2⟩:=JQ hT;have hT1':=hT1;obtain⟨t1,T1',e,h2,_⟩:=vf hT1;rw[jG];have hnt:nu (bS [125]) (T1++T2++rest)=false:=by
   subst e;show nu (bS [125]) (t1::_)=false;refine EZ _ ?_;obtain⟨_,hx⟩:=Az h2;rw[hx];intro e;have hn:=(hm.1 m bf).1;have e:=Ci e;have e:bL m.name=[125]:=e;have:m.name=bS [125]:=by rw[<-e,An]
   rw[this]at hn
   revert hn
   decide
  rw[if_neg (by rw[hnt];exact bM)];rw[aS];simp only[aM,if_true];rw[if_neg az,zU (hm.1 m bf) T1 _ hT1'];simp only;have hf:=vd ms;have hh:=hm.2;simp only[aB]at hh;show jG _ [m] (T2++rest)=_;rw[wT ms [m] _ T2 rest (λx hx=>hm.1 x (aK _ hx)) aA aq (by
   have:=Js hT2;simp only[aI,aB]at this|-;omega) hT2]
  rfl
def k1:Qn->Nat
 | .nil=>0
 | .mk c _ _ _ _ l _=>if lvl c=1 then k1 l+1 else 0
def k0:Qn->Nat
 | .nil=>0
 | .mk c _ _ _ _ l _=>if lvl c=0 then k0 l+1 else 0
def T_(s:ByteArray)(i:Nat):s[i]? =(bL s)[i]? :=by
 by_cases h:i<s.size
 ·rw[getElem?_pos s i h,aC (by rw[vt];exact h)];obtain⟨d⟩:=s;simp[bL];rfl
 rw[getElem?_neg s i h,bI (by rw[vt];omega)]
def JB{n:Nat}{p:Nat->Bool}(h:p7 n p=false){i:Nat}(hi:i<n):p i=false:=by
 cases hp:p i with
 |false=>rfl
 |true=>rw[oa hi hp]at h;cases h
def QV{s:ByteArray}(h:lU s=true):DY 1 (bL s):=by
 rw[lU,aG,decide_eq_true_iff,bG]at h;obtain⟨h1,h2,_⟩:=h;have hb:∀(i:Nat) (c:UInt8),(bL s)[i]? =some c->lH c=true\/(i≠0/\kz c=true):=by
  intro i c hc;have hi:i<s.size:=by
   rw[<-vt];exact (aO.1 hc).1
  have:=JB h1 hi;rw[K5,T_,hc]at this;simp only[fH,bO,dv,beq_eq_false_iff_ne]at this;exact this
 refine .inl ⟨rfl,?_⟩;cases hl:bL s with
 |nil=>
  have:=vt s;rw[hl]at this;simp at this;omega
 |cons c r=>
  refine⟨c,r,rfl,?_,λb hb'=>?_⟩
  ·rcases hb 0 c (by rw[hl];rfl) with h|h
   ·exact h
   exact absurd rfl h.1
  obtain⟨i,hi,e⟩:=bz hb';rcases hb (i+1) b (by rw[hl,gI,aC hi,e]) with h|h
  ·rw[h];rfl
  rw[h.2,ff]
def NX{s:ByteArray}(h:ma s=true):DY 3 (34::bL s++[34]):=by
 rw[ma,aG,decide_eq_true_iff,bG]at h;refine .inr (.inr (.inl ⟨rfl,bL s,rfl,λb hb=>?_⟩));obtain⟨i,hi,e⟩:=bz hb;have:=JB h.1 (i:=i) (by rw[<-vt];exact hi);rw[zM,T_,aC hi,e]at this;simp only[bO,decide_eq_false_iff_not]at this;exact this.2.2.1
def TR{k:Nat}(hk:k<4):bL (opsL.getD k ⟨#[]⟩)∈k7:=by
 have hh:∀k:Fin 4,bL (opsL.getD k.val ⟨#[]⟩)∈k7:=ax
 exact hh ⟨k,hk⟩
def rP(l:List Lx):Prop:=(∀x∈l,x.Ok)/\yK l
def rP.nil:rP []:=⟨λ_ h=>(by cases h),trivial⟩
def rP.cons{x:Lx}{l:List Lx}(h:x.Ok)(hx:x.kind=4\/x.kind=3\/x.post≠0)(hl:rP l):rP (x::l):=
 ⟨λy hy=>by
  rcases aF.1 hy with rfl|hy
  ·exact h
  exact hl.1 y hy,OL hx hl.2⟩
def rP.one{x:Lx}(h:x.Ok):rP [x]:=⟨λy hy=>by rw[aH.1 hy];exact h,trivial⟩
def rP.app{a:List Lx}{y:Lx}{b:List Lx}(ha:rP a)(h:y.kind=4\/y.pre≠0)(hb:rP (y::b)):rP (a++y::b):=
 ⟨λz hz=>by
  rcases aE.1 hz with hz|hz
  ·exact ha.1 z hz
  exact hb.1 z hz,Sb ha.2 h hb.2⟩
def rP.word{x y:Lx}{l:List Lx}(h:x.Ok)(hy:y.kind=4\/y.pre≠0)(hl:rP (y::l)):rP (x::y::l):=rP.app (a:=[x]) (.one h) hy hl
def Ai{l:List UInt8}(h:l∈k7):(mL l).Ok:=.inr (.inr (.inr ⟨rfl,h⟩))
def Ui{m:Mt}(h:IW m):rP (zl m):=by
 obtain⟨h1,h2,h3,h4⟩:=h;exact .word (QV h1) (.inl rfl) (.cons (Ai (TR az)) (.inl rfl) (.one (NX h2)))
def IU{y:Lx}(hy:y.Ok)(hk:y.kind=4):∀{l:List (List Lx)},(∀x∈l,rP x)->rP (rI y l)
 | [],_=>.nil
 | [x],h=>h x bf
 |x::z::r,h=>.app (h x bf) (.inl hk) (.cons hy (.inl hk) (IU hy hk λa ha=>h a (aK _ ha)))
def TV{l:List Mt}(h:sd l):rP (zk l):=by
 refine .cons (Ai ax) (.inl rfl) (.app (IU (Ai ax) rfl λx hx=>?_) (.inl rfl) (.one (Ai ax)));obtain⟨m,hm,rfl⟩:=ba.1 hx;exact Ui (h.1 m hm)
def Q4{X:List Lx}(h:rP X)(hn:X.length<=120):∃l e,pe (jC X) ((jC X).length+1) 0 0=.ok (l++[e])/\l.map Tok.st=X.map Lx.st/\e.kind=5/\e.text=bS []:=by
 have hlen:X.length<=(jC X).length:=by
  have:∀X:List Lx,(∀x∈X,x.Ok)->X.length<=(jC X).length:=by
   intro X;induction X with
   |nil=>intro _;exact aL _
   |cons x X ih=>
    intro hx;have h1:=ih λy hy=>hx y (aK _ hy);have h2:=(NF (hx x bf) [] (λ_ _ h=>(by cases h)) (λ_ _ h=>(by cases h))).2.1;have h3:0<x.text.length:=by cases ht:x.text with|nil=>exact absurd ht h2|cons c t=>simp
    rw[o5,aI,Lx.bytes];simp only[aI,aB];omega
  exact this X h.1
 obtain⟨l,h1,h2⟩:=M4 (jC X) X ((jC X).length+1) 0 0 0 h.1 h.2 (by simp[py]) (aQ _) az az;obtain⟨l1,l2,rfl,h3,h4⟩:=ee.1 h2;obtain⟨e,l2,rfl,h5,h6⟩:=c_.1 h4;rw[eV]at h6;subst h6;exact⟨l1,e,h1,h3,congrArg Prod.fst h5,congrArg Prod.snd h5⟩
def Un(f:ByteArray):(f.toList==(⟨#[]⟩:ByteArray).toList)=decide (f.size=0):=by
 rw[cp];simp only[beq_iff_eq,decide_eq_true_eq,ByteArray.toList_eq];constructor
 ·intro h;have:=congrArg List.length h;simpa using this
 intro h;apply bU;simpa using h
def preB:List UInt8:=[98,108,111,99,107,47]
def jk(n:Int):ByteArray:=bS (preB++Lib.itoa n)
def kO:ByteArray:=bS [102,114,101,115,104]
def Oo{n m:Int}(hn:0<=n)(hm:0<=m)(h:Lib.itoa n=Lib.itoa m):n=m:=by
 rw[<-vS hn,<-vS hm,h]
def Ff{n m:Int}(hn:0<=n)(hm:0<=m)(h:jk n=jk m):n=m:=by
 have:=Ci h;exact Oo hn hm (List.append_cancel_left this)
def yi(n:Int):jk n≠nN:=λh=>by
 have h1:=congrArg (λs:ByteArray=>(bL s).head?) h;simp only[jk,vW]at h1;have h2:(bL nN).head? =some 119:=m7
 rw[h2]at h1;cases h1
def N0(n:Int):jk n≠fN:=λh=>by
 have h1:=congrArg (λs:ByteArray=>(bL s).head?) h;simp only[jk,vW]at h1;have h2:(bL fN).head? =some 119:=m7
 rw[h2]at h1;cases h1
def Ii(n:Int):jk n≠kO:=λh=>by
 have h1:=Ci h;have h2:=congrArg List.head? h1;simp only[preB,b_,List.head?_cons]at h2;cases h2
def PE:nN≠kO:=m7
def Kl:pH kO=false:=m7
def um{n:Int}(h0:0<=n)(h1:n<1000000000000000000):(jk n).size<=24/\6<=(jk n).size:=by
 have:=BN h0 (k:=18) ax (by simpa using h1);unfold jk;rw[s9,aI];have h2:preB.length=6:=rfl;omega
def MD{n:Int}(h0:0<=n)(h1:n<1000000000000000000):pH (jk n)=false:=by
 obtain⟨a,b⟩:=um h0 h1;unfold pH;rw[decide_eq_false az,fY,Un,decide_eq_false az]
structure jY(W:Nat)(d:Dk)(ns:List Nt)(B:List (Value×Bl)):Prop where
 ok:d.ok W
 on:d.cut=false
 notes:cont d=jc (ns.map iR)
 small:∀x∈ns,(iR x).size<=60000
 file:∀n:Int,0<=n->(jg (jk n) d).map (·.1)=(iC (kn n) B).map λb=>mw b.to_ b.iN b.L
 only:∀f,(jg f d).isSome=true->f=nN\/∃n:Int,0<=n/\n<1000000000000000000/\f=jk n
 safe:∀f x,jg f d=some x->x.2=(x.1.size:Int)
def QI(l:List ByteArray)(x:ByteArray):jc (l++[x])=jc l++jU x:=by
 rw[u6];simp[jc]
def jY.add{W:Nat}{d:Dk}{ns:List Nt}{B:List (Value×Bl)}(h:jY W d ns B)(n:Nt)(hn:(iR n).size<=60000):
  ∃d',sa (iR n) false d=(none,false,d')/\jY (W+((iR n).size+2)) d' (ns++[n]) B:=by
 obtain⟨d',e,h1,h2,h3,h4,h5⟩:=Q8 h.ok h.on (iR n) hn;refine⟨d',e,h1,h2,?_,λx hx=>?_,λm hm=>?_,λf hf=>?_,λf x hx=>?_⟩
 ·rw[h3,h.notes,aP,bb,cN,QI]
 ·rcases aE.1 hx with hx|hx
  ·exact h.small x hx
  rw[aH.1 hx];exact hn
 ·rw[h4 _ (yi m)];exact h.file m hm
 ·by_cases e:f=nN
  ·exact .inl e
  rw[h4 f e]at hf;exact h.only f hf
 by_cases e:f=nN
 ·subst e;exact h5 x hx
 rw[h4 f e]at hx;exact h.safe f x hx
def jY.set{W:Nat}{d:Dk}{ns:List Nt}{B:List (Value×Bl)}(h:jY W d ns B)(l:List Nt)(hl:∀x∈l,(iR x).size<=60000):
  ∃d',pY (l.map iR) false d=(none,false,d')/\jY (W+(jc (l.map iR)).size) d' l B:=by
 obtain⟨d',e,h1,h2,h3⟩:=Jk h.ok h.on Rb Jm (jc (l.map iR));have hlong:yk (l.map iR)=false:=by
  unfold yk;rw[dL];intro x hx;obtain⟨y,hy,rfl⟩:=ba.1 hx;have:=hl y hy;simp;omega
 refine⟨d',?_,h1,h2,?_,hl,λm hm=>?_,λf hf=>?_,λf x hx=>?_⟩
 ·unfold pY;rw[hlong,if_neg ax,if_neg ax,LB,e];rfl
 ·unfold cont;rw[h3,if_pos rfl]
 ·rw[h3,if_neg (yi m),if_neg (N0 m)];exact h.file m hm
 ·rw[h3]at hf;by_cases e1:f=nN
  ·exact .inl e1
  rw[if_neg e1]at hf;by_cases e2:f=fN
  ·rw[if_pos e2]at hf;cases hf
  rw[if_neg e2]at hf;exact h.only f hf
 rw[h3]at hx;by_cases e1:f=nN
 ·rw[if_pos e1]at hx;cases hx;rfl
 rw[if_neg e1]at hx;by_cases e2:f=fN
 ·rw[if_pos e2]at hx;cases hx
 rw[if_neg e2]at hx;exact h.safe f x hx
def jY.put{W:Nat}{d:Dk}{ns:List Nt}{B:List (Value×Bl)}(h:jY W d ns B){nx:Int}(hB:iP B nx){n:Int}(h0:0<=n)(h1:n<1000000000000000000)(b:Bl):
  ∃d',yq kO (jk n) (mw b.to_ b.iN b.L) d=(none,d')/\jY (W+(mw b.to_ b.iN b.L).size) d' ns (jE (kn n) b B):=by
 obtain⟨d',e,h2,h3,h4⟩:=Jk h.ok h.on Kl (MD h0 h1) (mw b.to_ b.iN b.L);refine⟨d',e,h2,h3,?_,h.small,λm hm=>?_,λf hf=>?_,λf x hx=>?_⟩
 ·unfold cont;rw[h4,if_neg (λe=>yi n e.symm),if_neg PE];exact h.notes
 ·rw[h4,tM (kd:=some .i64) rfl rfl b B hB.sort];by_cases e:m=n
  ·subst e;rw[if_pos rfl,if_pos (by simp[iA])];rfl
  rw[if_neg (λe'=>e (Ff hm h0 e')),if_neg (Ii m),if_neg (by simp[iA,e])];exact h.file m hm
 ·rw[h4]at hf;by_cases e1:f=jk n
  ·exact .inr ⟨n,h0,h1,e1⟩
  rw[if_neg e1]at hf;by_cases e2:f=kO
  ·rw[if_pos e2]at hf;cases hf
  rw[if_neg e2]at hf;exact h.only f hf
 rw[h4]at hx;by_cases e1:f=jk n
 ·rw[if_pos e1]at hx;cases hx;rfl
 rw[if_neg e1]at hx;by_cases e2:f=kO
 ·rw[if_pos e2]at hx;cases hx
 rw[if_neg e2]at hx;exact h.safe f x hx
def jY.del{W:Nat}{d:Dk}{ns:List Nt}{B:List (Value×Bl)}(h:jY W d ns B){nx:Int}(hB:iP B nx){n:Int}(h0:0<=n)(hn:n∈gZ B):
  ∃d',lQ (jk n) d=(none,d')/\jY W d' ns (kA (kn n) B):=by
 have h1:=(mV hB).1 hn;have h2:=h.file n h0;obtain⟨x,hx⟩:∃x,jg (jk n) d=some x:=by
  cases hf:jg (jk n) d with
  |some x=>exact⟨x,rfl⟩
  |none=>
   rw[hf]at h2;cases hp:iC (kn n) B with
   |none=>rw[hp]at h1;cases h1
   |some b=>rw[hp]at h2;cases h2
 obtain⟨d',e,h3,h4,h5⟩:=Eb h.ok h.on hx;refine⟨d',e,h3,h4,?_,h.small,λm hm=>?_,λf hf=>?_,λf y hy=>?_⟩
 ·unfold cont;rw[h5,if_neg (λe=>yi n e.symm)];exact h.notes
 ·rw[h5,x8 hB];by_cases e:m=n
  ·subst e;rw[if_pos rfl,if_pos rfl];rfl
  rw[if_neg (λe'=>e (Ff hm h0 e')),if_neg e];exact h.file m hm
 ·rw[h5]at hf;by_cases e1:f=jk n
  ·rw[if_pos e1]at hf;cases hf
  rw[if_neg e1]at hf;exact h.only f hf
 rw[h5]at hy;by_cases e1:f=jk n
 ·rw[if_pos e1]at hy;cases hy
 rw[if_neg e1]at hy;exact h.safe f y hy
def EV{y:Lx}{s:List UInt8}(hy:y.bytes=s):∀l:List (List Lx),jC (rI y l)=s.intercalate (l.map jC)
 | []=>rfl
 | [x]=>by simp[rI,List.intercalate]
 |x::z::r=>by
  have e:rI y (x::z::r)=x++y::rI y (z::r):=rfl;rw[e,yT,o5,hy,EV hy (z::r)];simp[List.intercalate]
def o9(m:Mt):List UInt8:=bL m.name++bL (opsL.getD m.op.toNat ⟨#[]⟩)++[34]++bL m.value++[34]
def Pe(m:Mt):jC (zl m)=o9 m:=by
 simp[zl,o9,jC,Lx.bytes,wL,mL,qL,py]
def Bo(l:List Mt):jC (zk l)=[123]++([44]:List UInt8).intercalate (l.map o9)++[125]:=by
 have e:(mL [44]).bytes=[44]:=rfl;rw[zk,o5,yT,EV e,bR];have:jC∘zl=o9:=funext Pe;rw[this];simp[jC,Lx.bytes,mL,py]
def Cg{s:List UInt8}{k:Nat}(hs:s.length<=k){m:Nat}:∀{l:List (List UInt8)},(∀x∈l,x.length<=m)->(s.intercalate l).length<=l.length*(m+k)
 | [],_=>by simp[List.intercalate]
 | [a],h=>by
  have h1:=h a bf;have e:s.intercalate [a]=a:=by simp[List.intercalate]
  rw[e];simp;omega
 |a::b::l,h=>by
  have h1:=h a bf;have h2:=Cg hs (λx hx=>h x (aK _ hx):∀x∈b::l,x.length<=m);have e:s.intercalate (a::b::l)=a++(s++s.intercalate (b::l)):=by simp[List.intercalate]
  rw[e];simp only[aI,aB,cg]at h2|-;omega
def Ko{m:Mt}(h:IW m):(o9 m).length<=52:=by
 obtain⟨h1,h2,h3,h4⟩:=h;rw[lU,aG,decide_eq_true_iff]at h1;rw[ma,aG,decide_eq_true_iff]at h2;have ho:∀k:Fin 4,(bL (opsL.getD k.val ⟨#[]⟩)).length<=2:=ax
 have:=ho ⟨m.op.toNat,az⟩;rw[vt]at this;simp only at this;simp only[o9,aI,vt,aB,aM];omega
def vg{l:List Mt}(h:sd l):(jC (zk l)).length<=500:=by
 have h1:=Cg (s:=[44]) (k:=1) ax (m:=52) (l:=l.map o9) λx hx=>by
  obtain⟨m,hm,rfl⟩:=ba.1 hx;exact Ko (h.1 m hm)
 have:=h.2;rw[aD]at h1;rw[Bo];simp only[aI,aB,aM];omega
end Go.PL
namespace Go.PL
open Go.Sort
open IntKind
section
variable {β:Type}
def Nl(d:Array Int){i:Nat}(h:i<d.size)(f:Int->β):(d.toList.map f)[i]? =some (f d[i]!):=by
 rw[bg,dq,dw h,getElem!_pos d i h];rfl
def Sv(d:Array Int)(i j:Nat)(f:Int->β):((d.toList.map f).set i (f d[j]!)).set j (f d[i]!)=(swp d i j).toList.map f:=by
 rw[<-fM,<-fM,swp,eT,eT]
end
def Fin(a0 b0:Nat)(d0:Array Int)(a b:Nat)(d:Array Int):Prop:=d.size=d0.size/\a<=b/\b<=d.size/\Below ltInt a b d/\∀R,PermIn a b d R->SortedIn ltInt a b R->PermIn a0 b0 d0 R/\SortedIn ltInt a0 b0 R
def Fin.perm{a0 b0 a b:Nat}{d0 d d':Array Int}(h:Fin a0 b0 d0 a b d)(hp:PermIn a b d d'):Fin a0 b0 d0 a b d':=
 ⟨hp.1.trans h.1,h.2.1,by rw[hp.1];exact h.2.2.1,h.2.2.2.1.perm h.2.2.1 hp,λR h1 h2=>h.2.2.2.2 R (permIn_trans _ _ _ _ _ hp h1) h2⟩
def Nk{a b:Nat}{d d':Array Int}(hb:b<=d.size)(h:PermIn a b d d'):d'.toList.Perm d.toList:=by
 have h1:=permIn_mono _ _ a b 0 d.size (aQ _) hb (aL _) h;have h2:=h1.2.2;have e:d'.extract 0 d.size=d':=by rw[<-h1.1,Array.extract_size]
 rw[e,Array.extract_size]at h2;exact h2
def s7{a b:Nat}{d d':Array Int}(hb:b<=d.size)(h:PermIn a b d d')(hn:d.toList.Nodup):d'.toList.Nodup:=(Nk hb h).nodup_iff.2 hn
def Io{a b p:Nat}{d:Array Int}(ha:0<a)(hB:Below ltInt a b d)(h1:a<=p)(h2:p<b)(hb:b<=d.size)(hn:d.toList.Nodup):ltInt d[a-1]! d[p]! =true:=by
 rcases hB with h0|hB
 ·omega
 have h3:=hB p h1 h2;have hne:d[a-1]! ≠d[p]! :=λe=>by
  rw[getElem!_pos d (a-1) az,getElem!_pos d p az,<-eN,<-eN]at e;have:=(List.getElem_inj hn).1 e;omega
 unfold ltInt at h3|-;have h4:=of_decide_eq_false h3;exact decide_eq_true az
def G5{a b i j:Nat}{d0 d:Array Int}(h:PermIn a b d0 d)(hb:b<=d0.size)(h1:a<=i)(h2:i<b)(h3:a<=j)(h4:j<b):PermIn a b d0 (swp d i j):=
 permIn_trans _ _ _ a b h (swp_permIn d a b i j h1 h2 h3 h4 (by rw[h.1];exact hb))
def KX{d R:Array Int}(h1:PermIn 0 d.size d R)(h2:SortedIn ltInt 0 d.size R):R.toList=p6 d.toList:=by
 have:=sorted_unique_holds swo_ltInt (λx y a b=>by unfold ltInt at a b;have:=of_decide_eq_false a;have:=of_decide_eq_false b;omega) d R h1 h2;rw[this];refine congrArg (λf:Int->Int->Bool=>List.mergeSort d.toList f) ?_
 funext x y
 unfold ltInt;by_cases h:x<=y
 ·rw[decide_eq_true h,decide_eq_false az];rfl
 rw[decide_eq_false h,decide_eq_true az];rfl
def RU{a b:List Int}(h:a.Perm b)(hb:b.Nodup):p6 a=p6 b:=by
 have up:∀{l:List Int},l.Nodup->(p6 l).Pairwise (· < ·):=λ{l} hl=>by
  have h1:(p6 l).Nodup:=(ku l).nodup_iff.2 hl;exact ((A4 l).and h1).imp λ⟨h2,h3⟩=>az
 refine tR (up (h.nodup_iff.2 hb)) (up hb) λn=>?_;rw[(ku a).mem_iff,(ku b).mem_iff,h.mem_iff]
section
variable {p:Int->Bool}{d:Array Int}{i j:Nat}
def Ql(h:i<=j)(hp:p d[i]! =true):scanUp p d j i=scanUp p d j (i+1):=by rw[scanUp.eq_def p d j i,if_pos (by rw[hp,decide_eq_true h];rfl)]
def NJ(h:¬i<=j):scanUp p d j i=i:=by rw[scanUp,if_neg (by rw[decide_eq_false h];exact bM)]
def Qt(hp:p d[i]! =false):scanUp p d j i=i:=by rw[scanUp,if_neg (by rw[hp,du];exact bM)]
def Qm(h1:1<=j)(h:i<=j)(hp:p d[j]! =true):scanDown p d i j=scanDown p d i (j-1):=by
 obtain⟨m,rfl⟩:∃m,j=m+1:=⟨j-1,az⟩;rw[scanDown,if_pos (by rw[hp,decide_eq_true h];rfl),cP]
def Mv(h:¬i<=j):scanDown p d i j=j:=by
 cases j with
 |zero=>rfl
 |succ m=>rw[scanDown,if_neg (by rw[decide_eq_false h];exact bM)]
def Qj(hp:p d[j]! =false):scanDown p d i j=j:=by
 cases j with
 |zero=>rfl
 |succ m=>rw[scanDown,if_neg (by rw[hp,du];exact bM)]
end
end Go.PL
namespace Go.PL
open Go Go.GK IntKind
def uv(B:List (Value×Bl)):Prop:=∀y∈B,∀z∈B,∀n:Int,z.1=kn n->y.2.iN<n
def Cl(B0:List (Value×Bl))(n:Int)(B:List (Value×Bl)):List (Value×Bl):=match iC (kn n) B0 with|some b=>jE (kn n) b B|none=>B
def E4{B:List (Value×Bl)}(hs:∀y∈B,iq (some .i64) y.1=true)(n m:Int)(b:Bl):iC (kn m) (jE (kn n) b B)=if m=n then some b else iC (kn m) B:=by
 rw[tM (kd:=some .i64) rfl rfl b B hs];by_cases e:m=n
 ·subst e;rw[if_pos rfl,if_pos (by simp[iA])]
 rw[if_neg e,if_neg (by simp[iA,e])]
def QE{B0:List (Value×Bl)}{nx:Int}(h0:iP B0 nx):∀{l:List Int} {B:List (Value×Bl)},iP B nx->iP (l.foldl (λB n=>Cl B0 n B) B) nx/\∀m,iC (kn m) (l.foldl (λB n=>Cl B0 n B) B)=if m∈l/\(iC (kn m) B0).isSome=true then iC (kn m) B0 else iC (kn m) B
 | [],B,h=>⟨h,λm=>by rw[if_neg (λe=>by cases e.1)];rfl⟩
 |n::l,B,h=>by
  have h1:iP (Cl B0 n B) nx:=by
   unfold Cl;cases hf:iC (kn n) B0 with
   |none=>exact h
   |some b=>
    have hm:=(kF (kd:=some .i64) rfl h0.sort h0.nd).1 hf;obtain⟨k,e,a,c⟩:=h0.keys _ hm;have e:n=k:=by simpa using e
    refine⟨λy hy=>?_,?_⟩
    ·rcases tl y hy with rfl|hy
     ·exact⟨n,rfl,az,az⟩
     exact h.keys y hy
    exact (xF (kd:=some .i64) rfl b h.sort h.nd).1
  obtain⟨h2,h3⟩:=QE h0 (l:=l) h1;refine⟨h2,λm=>?_⟩;show iC (kn m) (l.foldl _ (Cl B0 n B))=_;rw[h3];unfold Cl;by_cases hm:m∈l/\(iC (kn m) B0).isSome=true
  ·rw[if_pos hm,if_pos ⟨by simp[hm.1],hm.2⟩]
  rw[if_neg hm];cases hf:iC (kn n) B0 with
  |none=>
   simp only;by_cases e:m∈n::l/\(iC (kn m) B0).isSome=true
   ·exfalso;rcases aF.1 e.1 with rfl|hml
    ·rw[hf]at e;cases e.2
    exact hm ⟨hml,e.2⟩
   rw[if_neg e]
  |some b=>
   simp only;rw[E4 h.sort];by_cases e:m=n
   ·subst e;rw[if_pos rfl,if_pos ⟨aA,by rw[hf];rfl⟩,hf]
   rw[if_neg e,if_neg λe'=>hm ⟨(aF.1 e'.1).resolve_left e,e'.2⟩]
def D4{B B':List (Value×Bl)}{nx:Int}(h:iP B nx)(h':iP B' nx)(e:∀n,iC (kn n) B'=iC (kn n) B)(G:List (Int×Gn)):gZ B'=gZ B/\o6 B' G=o6 B G:=by
 have e1:gZ B'=gZ B:=tR (rA h') (rA h) λn=>by rw[mV h',mV h,e]
 refine⟨e1,?_⟩;unfold o6;rw[e1];refine cd λn _=>?_;have:js B' n=js B n:=by unfold js;rw[e]
 unfold kl;rw[this]
def tK{B B':List (Value×Bl)}{nx:Int}(h:iP B nx)(h':iP B' nx)(e:∀n,iC (kn n) B'=iC (kn n) B):∀y,y∈B'↔y∈B:=λy=>by
 have key:∀{B B':List (Value×Bl)},iP B nx->iP B' nx->(∀n,iC (kn n) B'=iC (kn n) B)->y∈B'->y∈B:=by
  intro B B' h h' e hy;obtain⟨k,b⟩:=y;obtain⟨n,e1,_⟩:=h'.keys _ hy;simp only at e1;subst e1;have h1:=(kF (kd:=some .i64) rfl h'.sort h'.nd).2 hy;rw[e]at h1;exact (kF (kd:=some .i64) rfl h.sort h.nd).1 h1
 exact⟨key h h' e,key h' h λn=>(e n).symm⟩
def HL{B B':List (Value×Bl)}{nx:Int}(h:iP B nx)(h':iP B' nx)(e:∀n,iC (kn n) B'=iC (kn n) B):B'.length=B.length:=by
 have h1:=(D4 h h' e []).1;have h2:(gZ B').length=(gZ B).length:=by rw[h1]
 unfold gZ at h2;rw[(ku _).length_eq,(ku _).length_eq,aD,aD]at h2;exact h2
def QS{s:iz}(h:jq s){B':List (Value×Bl)}(h':iP B' s.nx)(e:∀n,iC (kn n) B'=iC (kn n) s.B):jq {s with B:=B'}:=
 ⟨h.mem,h',by show B'.length<=30;rw[HL h.bls h' e];exact h.len,h.gone,λy hy=>h.hZ y ((tK h.bls h' e y).1 hy),h.k_.1,λy hy=>h.k_.2 y ((tK h.bls h' e y).1 hy)⟩
def Gk{s:iz}(h:jq s){B':List (Value×Bl)}(h':iP B' s.nx)(e:∀n,iC (kn n) B'=iC (kn n) s.B):iw {s with B:=B'}=iw s:=by
 unfold iw;show ij iJ (iF B' s.G) s.S=_;rw[<-oL,(D4 h.bls h' e s.G).2,oL]
def BI{l:List Mt}(h:l8 l=true):sd l:=by
 unfold l8 at h;rw[aG,bG,decide_eq_true_eq]at h;refine⟨λm hm=>?_,h.2⟩;obtain⟨i,hi,rfl⟩:=bz hm;have h1:=oP h.1 i hi;rw[cR,aC hi]at h1;simp only[dP,xE,bO,dv,decide_eq_true_eq]at h1;exact⟨h1.1,h1.2.1,h1.2.2.1,h1.2.2.2⟩
def wC:Nt->Prop
 | .came l=>(∀x∈l,qe x)/\ir l<=2000/\l.length<=40
 | .went u g=>kp u/\kp g.lo/\kp g.hi/\sd g.mt
 | .mark m n=>kp m/\kp n
def mU:∀{n:Nt},wC n->(iR n).size<=60000
 | .came l,⟨h1,h2,h3⟩=>by
  have:=xw (l:=l) λx hx=>(h1 x hx).1;show (⟨#[1]⟩++lT l:ByteArray).size<=_;rw[aJ];have:(⟨#[1]⟩:ByteArray).size=1:=rfl;omega
 | .went u g,⟨_,_,_,h⟩=>by
  have h1:=vg h;show (⟨#[2]⟩++(jJ u++jJ g.lo++jJ g.hi++kX (jN g.mt)):ByteArray).size<=_;unfold kX;simp only[aJ,jw];have h2:(⟨#[2]⟩:ByteArray).size=1:=rfl;have h3:(jN g.mt).size=(jC (zk g.mt)).length:=by rw[jN,s9]
  omega
 | .mark m n,_=>by
  show (⟨#[3]⟩++(jJ m++jJ n):ByteArray).size<=_;simp only[aJ,jw];have h2:(⟨#[3]⟩:ByteArray).size=1:=rfl;omega
def oo(B:List (Value×Bl)):Nat:=(B.map λy=>y.2.L.length).sum
def EF(K:Nat)(s:iz):Prop:=∃a c:Nat,a+c<=K/\vF s<=40*a/\oo s.B<=60*c
def EF.mono{K K':Nat}{s:iz}(h:EF K s)(hK:K<=K'):EF K' s:=by
 obtain⟨a,c,h1,h2,h3⟩:=h;exact⟨a,c,az,h2,h3⟩
def EF.ir{K:Nat}{s:iz}(h:EF K s):l7 s.B+ir s.S<=40*K:=by
 obtain⟨a,c,h1,h2,h3⟩:=h;unfold vF at h2;omega
structure iM(W K:Nat)(s:iz)(d:Dk):Prop where
 sto:jq s
 few:sJ (iw s)
 iN:uv s.B
 up:s.dn=false/\s.wd=false
 nx:s.nx<=K
 gl:s.G.length<=200
 gok:∀x∈s.G,kp x.1/\kp x.2.lo/\kp x.2.hi/\sd x.2.mt
 size:EF K s
 disk:∃ns,jY W d ns s.B/\kZ ns=s.mem/\∀n∈ns,wC n
def Nv{B:List (Value×Bl)}{nx:Int}(h:uv B)(hB:iP B nx)(ho:∀y∈B,y.2.iN<nx){b:Bl}(hb:b.iN<0)(h0:0<=nx):uv (jE (kn nx) b B):=λy hy z hz n e=>by
 rcases tl y hy with rfl|hy
 ·rcases tl z hz with rfl|hz
  ·have e:nx=n:=by simpa using e
   show b.iN<n;omega
  obtain⟨k,e1,a,c⟩:=hB.keys z hz;have e2:k=n:=by rw[e1]at e;simpa using e
  show b.iN<n;omega
 rcases tl z hz with rfl|hz
 ·have e:nx=n:=by simpa using e
  have:=ho y hy;omega
 exact h y hy z hz n e
def L2{nx:Int}{b:Bl}(hb:b.iN<nx):uv [(kn nx,b)]:=λy hy z hz n e=>by
 obtain rfl:=aH.1 hy;obtain rfl:=aH.1 hz;have e:nx=n:=by simpa using e
 show b.iN<n;omega
def uv.sub{B B':List (Value×Bl)}(h:uv B)(hs:B'.Sublist B):uv B':=λy hy z hz n e=>h y (hs.subset hy) z (hs.subset hz) n e
def Ph{W K:Nat}{s:iz}{d:Dk}(h:iM W K s d)(hK:K<=1000000):∀n∈kK s.mem,wC n:=λn hn=>by
 have hm:=h.sto.mem;unfold kK at hn;rcases aF.1 hn with rfl|hn
 ·have:=hm.mlo;have:=hm.mhi;have:=hm.nlo;have:=h.nx;exact⟨⟨by show _<=s.mark;have: -1099511627777<=s.mark:=hm.mlo;omega,by show s.mark<=_;have:s.mark<=1099511627776:=hm.mhi;omega⟩,by show _<=s.nx;have:0<=s.nx:=hm.nlo;omega,by show s.nx<=_;omega⟩
 rcases aE.1 hn with hn|hn
 ·obtain⟨x,hx,rfl⟩:=ba.1 hn;exact h.gok x hx
 obtain⟨x,hx,rfl⟩:=ba.1 hn;have h1:=hm.head.each x hx;refine⟨λy hy=>?_,?_,aA⟩
 ·obtain rfl:=aH.1 hy;exact⟨h1.1,h1.2.1,h.sto.k_.1 _ hx⟩
 have:x.samples.length<=2000:=((ja _).1 h1.2.1).2;simp[ir];exact this
def B6{mk:Int}:∀{l S:List gY} {i:Nat},lF mk S l i=none->∀x∈l,iS x.labels=true/\ke x.samples=true/\x.samples≠ []
 | [],_,_,_,_,hx=>by cases hx
 |x::r,S,i,h,z,hz=>by
  unfold lF at h;by_cases he:mi mk S x=0
  ·rw[if_pos he]at h;rcases aF.1 hz with rfl|hz
   ·obtain⟨a,b,c,_⟩:=Dp he;exact⟨a,b,c⟩
   exact B6 h z hz
  rw[if_neg he]at h;cases h
def jY.mono{W W':Nat}{d:Dk}{ns:List Nt}{B:List (Value×Bl)}(h:jY W d ns B)(hw:W<=W'):jY W' d ns B:=⟨h.ok.mono hw,h.on,h.notes,h.small,h.file,h.only,h.safe⟩
def jY.congr{W:Nat}{d:Dk}{ns:List Nt}{B B':List (Value×Bl)}(h:jY W d ns B)(e:∀n,iC (kn n) B'=iC (kn n) B):jY W d ns B':=⟨h.ok,h.on,h.notes,h.small,λn hn=>by rw[e];exact h.file n hn,h.only,h.safe⟩
def OB{W K:Nat}{s:iz}{d:Dk}(h:iM W K s d){l:List gY}(hv:∀x∈l,lV x.samples)(h0:(j8 l s).1.1=0):
  ∃d',sa (iR (.came l)) false d=(none,false,d')/\iM (W+60002) (K+1) (j8 l s).2 d':=by
 obtain⟨c1,c2⟩:=GD h.sto hv;have c3:=c2 h0;have c4:=NC h.sto hv h.few;unfold j8 at h0 c1 c3 c4|-;by_cases h1:(jb s.mark s.S l).1.1≠0
 ·rw[if_pos h1]at h0;exact absurd h0 h1
 rw[if_neg h1]at h0 c1 c3 c4|-;obtain⟨a,b,c⟩:=pK (gj.1 h1);cases hf:qa (ij iJ (iF s.B s.G) (jb s.mark s.S l).2) l with
 |some i=>rw[hf]at h0;exact absurd (show (12:Int)=0 from h0) ax
 |none=>
  rw[hf]at c1 c3 c4;simp only[c]at c1 c3 c4|-;have hg:=B6 b;have hlen:l.length<=40:=by have:=w6 (l:=l) λx hx=>(hg x hx).2.2;omega
  have hn:wC (.came l):=⟨λx hx=>⟨(hg x hx).1,(hg x hx).2.1,hv x hx⟩,az,hlen⟩;obtain⟨ns,d1,d2,d3⟩:=h.disk;obtain⟨d',e1,e2⟩:=d1.add _ (mU hn);refine⟨d',e1,c1,c4,h.iN,h.up,by have:=h.nx;show s.nx<=_;omega,h.gl,h.gok,?_,ns++[.came l],e2.mono (by have:=mU hn;omega),?_,?_⟩
  ·obtain⟨u,v,s1,s2,s3⟩:=h.size;unfold vF at s2;refine⟨u+1,v,az,?_,s3⟩;show l7 s.B+ir (l.foldl jV s.S)<=_;rw[vP];omega
  ·rw[rh,d2];exact c3
  intro n hm;rcases aE.1 hm with hm|hm
  ·exact d3 n hm
  rw[aH.1 hm];exact hn
def Sj{W K:Nat}{s:iz}{d:Dk}(h:iM W K s d)(hK:K<=1000000){g:Gn}(hg:l8 g.mt=true)(h1:kp g.lo)(h2:kp g.hi)(hl:s.G.length<200):
  ∃d',sa (iR (.went (s.nx-1) g)) false d=(none,false,d')/\iM (W+60002) (K+1) (tz g s) d':=by
 have h0:0<=s.nx:=h.sto.mem.nlo;have hx:kp (s.nx-1):=⟨az,by have:=h.nx;omega⟩;have hn:wC (.went (s.nx-1) g):=⟨hx,h1,h2,BI hg⟩;obtain⟨ns,d1,d2,d3⟩:=h.disk;obtain⟨d',e1,e2⟩:=d1.add _ (mU hn);refine⟨d',e1,Pn h.sto g,OJ h.sto g h.few,h.iN,h.up,by have:=h.nx;show s.nx<=_;omega,?_,?_,?_,ns++[.went (s.nx-1) g],e2.mono (by have:=mU hn;omega),?_,?_⟩
 ·show (s.G++[(s.nx-1,g)]).length<=200;simp;omega
 ·intro x hx';rcases aE.1 hx' with hx'|hx'
  ·exact h.gok x hx'
  rw[aH.1 hx'];exact⟨hx,h1,h2,BI hg⟩
 ·obtain⟨u,v,s1,s2,s3⟩:=h.size;have h3:=oT (oB g) s.S;unfold vF at s2;refine⟨u,v,az,?_,s3⟩;show l7 s.B+ir (gX (oB g) s.S)<=_;omega
 ·rw[rh,d2];exact KC s g
 intro n hm;rcases aE.1 hm with hm|hm
 ·exact d3 n hm
 rw[aH.1 hm];exact hn
def G0(k:nR)(x:gY)(l:List gY):ir (gX k (x::l))=(jZ k x).length+ir (gX k l):=by
 cases hx:jZ k x with
 |nil=>rw[iW l hx];simp
 |cons y r=>rw[iK l hx];simp[ir]
def E9(k:nR):∀l:List gY,ir (gX k l)+ir (gX (mN k) l)=ir l
 | []=>rfl
 |x::l=>by
  have h1:=E9 k l;have h2:ir (x::l)=x.samples.length+ir l:=by simp[ir]
  have h3:(jZ k x).length+(jZ (mN k) x).length=x.samples.length:=by
   have:∀(s:List Sm) (p:Sm->Bool),(s.filter λy=> !p y).length+(s.filter λy=> !!p y).length=s.length:=by
    intro s p;induction s with
    |nil=>rfl
    |cons a s ih=>cases hp:p a<;>simp[hp]at ih|- <;>omega
   exact this x.samples λy=>k x.labels y.time
  rw[G0,G0,h2];omega
def HG:∀{l:List ByteArray},(∀x∈l,x.size<=60000)->(jc l).size<=60002*l.length
 | [],_=>aL _
 |x::l,h=>by
  have h1:=HG (l:=l) λy hy=>h y (by simp[hy]);have h2:=h x aA;have h3:(jc (x::l)).size=(x.size+2)+(jc l).size:=by
   show (jU x++jc l).size=_;rw[aJ,ml]
  rw[h3,aB];omega
def Ow{B:List (Value×Bl)}{nx:Int}(h:iP B nx)(b:Bl):l7 (jE (kn nx) b B)=l7 B+ir b.L:=by
 rw[rF h];simp[l7]
def PC{B:List (Value×Bl)}{nx:Int}(h:iP B nx)(b:Bl):oo (jE (kn nx) b B)=oo B+b.L.length:=by
 rw[rF h];simp[oo]
def pW(k:nR):∀l:List gY,(gX k l).length<=l.length
 | []=>aL _
 |x::l=>by
  have h1:=pW k l;cases hx:jZ k x with
  |nil=>rw[iW l hx,aB];omega
  |cons y r=>rw[iK l hx,aB,aB];omega
def iM.S_{W K:Nat}{s:iz}{d:Dk}(h:iM W K s d):∀y∈s.B,y.2.iN<s.nx:=λy hy=>by
 obtain⟨n,e,_,a⟩:=h.sto.bls.keys y hy;have:=h.iN y hy y hy n e;omega
def we(m:Mem):(kK m).length=1+m.G.length+m.S.length:=by
 unfold kK;simp;omega
def LR{W K:Nat}{s:iz}{d:Dk}{ns:List Nt}(hs:jq s)(hf:sJ (iw s))(ho:uv s.B)(hu:s.dn=false/\s.wd=false)(hn:s.nx<=K)(hg:s.G.length<=200)(hgk:∀x∈s.G,kp x.1/\kp x.2.lo/\kp x.2.hi/\sd x.2.mt)(ht:EF K s)(hK:K<=1000)(hd:jY W d ns s.B):
  ∃d',pY ((kK s.mem).map iR) false d=(none,false,d')/\iM (W+20000000) K s d':=by
 have hok:∀n∈kK s.mem,wC n:=by
  have hm:=hs.mem;intro n hn';unfold kK at hn';rcases aF.1 hn' with rfl|hn'
  ·have:=hm.nlo;exact⟨⟨by show _<=s.mark;have: -1099511627777<=s.mark:=hm.mlo;omega,by show s.mark<=_;have:s.mark<=1099511627776:=hm.mhi;omega⟩,by show _<=s.nx;have:0<=s.nx:=hm.nlo;omega,by show s.nx<=_;omega⟩
  rcases aE.1 hn' with hn'|hn'
  ·obtain⟨x,hx,rfl⟩:=ba.1 hn';exact hgk x hx
  obtain⟨x,hx,rfl⟩:=ba.1 hn';have h1:=hm.head.each x hx;refine⟨λy hy=>?_,?_,aA⟩
  ·obtain rfl:=aH.1 hy;exact⟨h1.1,h1.2.1,hs.k_.1 _ hx⟩
  have:x.samples.length<=2000:=((ja _).1 h1.2.1).2;simp[ir];exact this
 obtain⟨d',e1,e2⟩:=hd.set (kK s.mem) λx hx=>mU (hok x hx);refine⟨d',e1,hs,hf,ho,hu,hn,hg,hgk,ht,kK s.mem,e2.mono ?_,Ik hs.mem,hok⟩;have h1:=HG (l:=(kK s.mem).map iR) λx hx=>by
  obtain⟨n,hn',rfl⟩:=ba.1 hx;exact mU (hok n hn')
 rw[aD,we]at h1;have h2:s.S.length<=60:=hs.mem.head.len;have h3:s.mem.G.length=s.G.length:=rfl;have h4:s.mem.S.length=s.S.length:=rfl;omega
def Hn{W:Nat}{s:iz}{d:Dk}{ns:List Nt}(hb:iP s.B s.nx)(h0:0<=s.nx)(h1:s.nx<=1000)(hd:jY W d ns s.B){b:Bl}(hr:lZ b.to_ b.iN b.L=true)(hne:∀x∈b.L,x.samples≠ [])(ht:ir b.L<=40000):
  ∃d',yq kO (jk s.nx) (mw b.to_ b.iN b.L) d=(none,d')/\jY (W+30000000) d' ns (jE (kn s.nx) b s.B):=by
 obtain⟨d',e1,e2⟩:=hd.put hb h0 az b;refine⟨d',e1,e2.mono ?_⟩;have h2:=xw (l:=b.L) λx hx=>(nQ hr x hx).1;have h3:=w6 hne;have h4:(mw b.to_ b.iN b.L).size=16+(lT b.L).size:=by
  unfold mw;rw[aJ,aJ,jw,jw]
 omega
def Sf{W K:Nat}{s:iz}{d:Dk}(h:iM W K s d)(hK:K<=1000){t:Int}(ht: -1099511627776<=t/\t<=1099511627776)(hl:s.B.length<30)(hc:kb t s=[]):
  ∃d',sa (iR (.mark (k9 t s).mark (k9 t s).nx)) false d=(none,false,d')/\iM (W+60002) (K+1) (k9 t s) d':=by
 have hok:=JE h.sto ht hl;have hnt:=NI h.sto hc;have hfew:=Ju h.sto t h.few;have hm:=hok.mem;have e:k9 t s={s with mark:=max s.mark t,S:=gX (jO t) s.S}:=by unfold k9;rw[if_pos hc]
 have h0:0<=s.nx:=h.sto.mem.nlo;have hnx:=h.nx;have hn:wC (.mark (k9 t s).mark (k9 t s).nx):=by
  refine⟨⟨by have: -1099511627777<=(k9 t s).mark:=hm.mlo;omega,by have:(k9 t s).mark<=1099511627776:=hm.mhi;omega⟩,?_⟩;rw[e];exact⟨by show _<=s.nx;omega,by show s.nx<=_;omega⟩
 obtain⟨ns,d1,d2,d3⟩:=h.disk;obtain⟨d',e1,e2⟩:=d1.add _ (mU hn);refine⟨d',e1,hok,hfew,by rw[e];exact h.iN,by rw[e];exact h.up,by rw[e];show s.nx<=_;omega,by rw[e];exact h.gl,by rw[e];exact h.gok,?_,ns++[.mark (k9 t s).mark (k9 t s).nx],?_,?_,?_⟩
 ·rw[e];obtain⟨u,v,s1,s2,s3⟩:=h.size;have h3:=oT (jO t) s.S;unfold vF at s2;refine⟨u,v,az,?_,s3⟩;show l7 s.B+ir (gX (jO t) s.S)<=_;omega
 ·have:(k9 t s).B=s.B:=by rw[e]
  rw[this];exact e2.mono (by have:=mU hn;omega)
 ·rw[rh,d2];exact hnt
 intro n hm';rcases aE.1 hm' with hm'|hm'
 ·exact d3 n hm'
 rw[aH.1 hm'];exact hn
def Tt{W K:Nat}{s:iz}{d:Dk}(h:iM W K s d)(hK:K<1000){t:Int}(ht: -1099511627776<=t/\t<=1099511627776)(hl:s.B.length<30)(hc:kb t s≠ []):
  ∃d1 d',yq kO (jk s.nx) (mw (max s.mark t) (-1) (kb t s)) d=(none,d1)/\pY ((kK (k9 t s).mem).map iR) false d1=(none,false,d')/\iM (W+50000000) (K+1) (k9 t s) d':=by
 have hok:=JE h.sto ht hl;have hfew:=Ju h.sto t h.few;have e:k9 t s={s with mark:=max s.mark t,S:=gX (jO t) s.S,B:=jE (kn s.nx) ⟨max s.mark t, -1,kb t s⟩ s.B,nx:=s.nx+1}:=by unfold k9;rw[if_neg hc]
 have h0:0<=s.nx:=h.sto.mem.nlo;have hnx:=h.nx;have hsz:=h.size.ir;have hsp:=E9 (jO t) s.S;obtain⟨ns,d1,_,_⟩:=h.disk;obtain⟨e1,p1,p2⟩:=Hn (b:=⟨max s.mark t, -1,kb t s⟩) h.sto.bls h0 az d1 ((xQ h.sto t).resolve_right az) (λx hx=>by
  obtain⟨y,_,_,_,e⟩:=ki (show x∈kb t s from hx);exact e) (by show ir (kb t s)<=_;unfold kb;omega)
 have hB:(k9 t s).B=jE (kn s.nx) ⟨max s.mark t, -1,kb t s⟩ s.B:=by rw[e]
 obtain⟨d',q1,q2⟩:=LR (K:=K+1) (d:=e1) (ns:=ns) hok hfew (by rw[hB];exact Nv h.iN h.sto.bls h.S_ (by show (-1:Int)<0;omega) h0) (by rw[e];exact h.up) (by rw[e];show s.nx+1<=_;omega) (by rw[e];exact h.gl) (by rw[e];exact h.gok) (by
  rw[e];obtain⟨u,v,s1,s2,s3⟩:=h.size;unfold vF at s2;refine⟨u,v+1,az,?_,?_⟩
  ·show l7 (jE _ _ s.B)+ir (gX (jO t) s.S)<=_;rw[Ow h.sto.bls];show l7 s.B+ir (gX (mN (jO t)) s.S)+ir (gX (jO t) s.S)<=_;omega
  show oo (jE _ _ s.B)<=_;rw[PC h.sto.bls];have h1:(kb t s).length<=s.S.length:=pW _ _;have h2:s.S.length<=60:=h.sto.mem.head.len;show oo s.B+(kb t s).length<=_;omega) az (hB ▸ p2)
 exact⟨e1,d',p1,q1,by
  have:W+50000000=W+30000000+20000000:=az
  rw[this];exact q2⟩
def wD(B:List (Value×Bl))(l:List Int)(k:Int):jL B (l++[k])=kA (kn k) (jL B l):=by
 unfold jL;rw[bN];rfl
def AZ{nx:Int}(n:Int):∀{l:List Int} {B:List (Value×Bl)},iP B nx->iC (kn n) (jL B l)=if n∈l then none else iC (kn n) B
 | [],B,_=>by rw[if_neg aA];rfl
 |k::l,B,h=>by
  show iC (kn n) (jL (kA (kn k) B) l)=_;rw[AZ n (h.del k),x8 h];by_cases h1:n∈l
  ·rw[if_pos h1,if_pos (by simp[h1])]
  rw[if_neg h1];by_cases h2:n=k
  ·rw[if_pos h2,if_pos (by simp[h2])]
  rw[if_neg h2,if_neg (by simp[h1,h2])]
def Gz{W:Nat}{d:Dk}{ns:List Nt}{B:List (Value×Bl)}{nx:Int}(hB:iP B nx){l:List Int}(hl:∀n∈l,n∈gZ B)(hd:l.Nodup){i:Nat}(hi:i<l.length)(h:jY W d ns (jL B (l.take i))):
  ∃d',lQ (jk l[i]) d=(none,d')/\jY W d' ns (jL B (l.take (i+1))):=by
 have hm:=hl l[i] (aR hi);obtain⟨b,hb⟩:=(nq hB).1 hm;obtain⟨k,e,h0,_⟩:=hB.keys _ hb;have e:l[i]=k:=by simpa using e
 have hb':=(rT (l:=l.take i) hB).1;have hn:l[i] ∉l.take i:=λhx=>by
  obtain⟨j,hj,e⟩:=bz hx;rw[aY]at hj;rw[eB]at e;exact (bT.1 hd) j i az hi az e
 have hm':l[i] ∈gZ (jL B (l.take i)):=by
  rw[(rT hB).2.2];exact bF.2 ⟨hm,by simpa using hn⟩
 obtain⟨d',e1,e2⟩:=h.del hb' az hm';refine⟨d',e1,?_⟩;rw[a6 hi,wD];exact e2
def Cr{B:List (Value×Bl)}{nx:Int}(h:iP B nx):(gZ B).Nodup:=(rA h).imp λh=>az
def Rj(t:Int)(s:iz):∀n∈kN t s,n∈gZ s.B:=λ_ hn=>(bF.1 hn).1
def LQ{t:Int}{s:iz}(h:iP s.B s.nx):(kN t s).Nodup:=(Cr h).filter _
def RZ{W K:Nat}{s:iz}{d:Dk}(h:iM W K s d)(hK:K<=1000):
  ∃d',sa (iR (.mark s.mark s.nx)) false d=(none,false,d')/\iM (W+60002) (K+1) s d':=by
 have h0:0<=s.nx:=h.sto.mem.nlo;have hnx:=h.nx;have hm:=h.sto.mem;have hn:wC (.mark s.mark s.nx):=⟨⟨by have: -1099511627777<=s.mark:=hm.mlo;omega,by have:s.mark<=1099511627776:=hm.mhi;omega⟩,az,az⟩;obtain⟨ns,d1,d2,d3⟩:=h.disk;obtain⟨d',e1,e2⟩:=d1.add _ (mU hn);refine⟨d',e1,h.sto,h.few,h.iN,h.up,az,h.gl,h.gok,h.size.mono az,ns++[.mark s.mark s.nx],e2.mono (by have:=mU hn;omega),?_,λn hm'=>?_⟩
 ·rw[rh,d2];exact Kq hm
 rcases aE.1 hm' with hm'|hm'
 ·exact d3 n hm'
 rw[aH.1 hm'];exact hn
def Pu{B B':List (Value×Bl)}(h:B'.Sublist B):l7 B'<=l7 B:=by
 unfold l7;induction h with
 |slnil=>exact aL _
 |cons a _ ih=>rw[bb,cK];omega
 |cons_cons a _ ih=>rw[bb,bb,cK,cK];omega
def PU{B B':List (Value×Bl)}(h:B'.Sublist B):oo B'<=oo B:=by
 unfold oo;induction h with
 |slnil=>exact aL _
 |cons a _ ih=>rw[bb,cK];omega
 |cons_cons a _ ih=>rw[bb,bb,cK,cK];omega
def TC{W K:Nat}{s:iz}{d d':Dk}{ns:List Nt}(h:iM W K s d)(t:Int)(h1:jY W d' ns (y7 t s).B)(h2:kZ ns=s.mem)(h3:∀n∈ns,wC n):iM W K (y7 t s) d':=by
 have hs:(jL s.B (kN t s)).Sublist s.B:=yp;refine⟨Ds h.sto t,Ru h.sto t h.few,h.iN.sub hs,h.up,h.nx,h.gl,h.gok,?_,ns,h1,h2,h3⟩;obtain⟨u,v,s1,s2,s3⟩:=h.size;have h4:=Pu hs;have h5:=PU hs;unfold vF at s2;refine⟨u,v,s1,?_,?_⟩
 ·show l7 (jL s.B (kN t s))+ir s.S<=_;omega
 show oo (jL s.B (kN t s))<=_;omega
def BM{f:List gY->Nat}(hm:∀a b,f (ij iJ a b)<=f a+f b)(hw:∀k l,f (gX k l)<=f l)(B:List (Value×Bl))(G:List (Int×Gn)):∀(l:List Int) (o:List gY),f (l.foldl (λout n=>ij iJ out (kl B G n)) o)<=f o+(l.map λn=>f (js B n).L).sum
 | [],o=>aA
 |n::l,o=>by
  rw[bC];have h1:=BM hm hw B G l (ij iJ o (kl B G n));have h2:=hm o (kl B G n);have h3:f (kl B G n)<=f (js B n).L:=hw _ _;rw[bb,cK];omega
def Gf{f:List gY->Nat}(hm:∀a b,f (ij iJ a b)<=f a+f b)(hw:∀k l,f (gX k l)<=f l)(h0:f []=0){B:List (Value×Bl)}{nx:Int}(h:iP B nx)(G:List (Int×Gn)):f (iF B G)<=(B.map λy=>f y.2.L).sum:=by
 have h1:=BM hm hw B G (gZ B) [];have h2:((gZ B).map λn=>f (js B n).L).sum=(B.map λy=>f y.2.L).sum:=by
  have hp:((gZ B).map λn=>f (js B n).L).Perm ((B.map λy=>oO y.1).map λn=>f (js B n).L):=(ku _).map _;rw[hp.sum_nat,bR]
  congr 1
  refine cd λy hy=>?_;obtain⟨n,e,_⟩:=h.keys y hy;have hf:iC (kn n) B=some y.2:=(kF (kd:=some .i64) rfl h.sort h.nd).2 (by rw[<-e];exact hy);show f (js B (oO y.1)).L=_;rw[e];unfold js oO;rw[hf];rfl
 unfold iF qd;omega
def rJ:∀(a b:List gY),(ij iJ a b).length<=a.length+b.length
 | [],b=>by rw[jP];simp
 |x::a,[]=>by rw[ko];simp
 |x::a,y::b=>by
  rw[oN];split
  ·have:=rJ a (y::b);simp only[aB]at this|-;omega
  split
  ·have:=rJ a b;simp only[aB];omega
  have:=rJ (x::a) b;simp only[aB]at this|-;omega
termination_by a b=>a.length+b.length
def Bz{B:List (Value×Bl)}{nx:Int}(h:iP B nx)(G:List (Int×Gn)):ir (iF B G)<=l7 B:=Gf rM oT rfl h G
def Bw{B:List (Value×Bl)}{nx:Int}(h:iP B nx)(G:List (Int×Gn)):(iF B G).length<=oo B:=Gf (f:=List.length) rJ pW rfl h G
abbrev pa(s:iz):Bl:=⟨qS s.B,s.nx-1,iF s.B s.G⟩
def RP{W K:Nat}{s:iz}{d:Dk}(h:iM W K s d)(hK:K<1000)(hB:s.B≠ []):∃ns d',yq kO (jk s.nx) (mw (qS s.B) (s.nx-1) (iF s.B s.G)) d=(none,d')/\jY (W+30000000) d' ns (jE (kn s.nx) (pa s) s.B):=by
 have h0:0<=s.nx:=h.sto.mem.nlo;have hnx:=h.nx;obtain⟨ns,d1,_,_⟩:=h.disk;have hb:=((E2 h.sto h.few hB).hZ (kn s.nx,pa s) (aH.2 rfl)).1;have hsz:=h.size.ir;have ht:=Bz h.sto.bls s.G;obtain⟨d',e⟩:=Hn (b:=pa s) h.sto.bls h0 az d1 hb (As h.sto) (by show ir (iF s.B s.G)<=_;omega);exact⟨ns,d',e⟩
def PD{s:iz}(h:jq s):∀n,iC (kn n) [(kn s.nx,pa s)]=iC (kn n) (jL (jE (kn s.nx) (pa s) s.B) (gZ s.B)):=λn=>by
 have h0:0<=s.nx:=h.mem.nlo;rw[AZ n (h.bls.put h0 (pa s)),E4 h.bls.sort];have e1:iC (kn n) [(kn s.nx,pa s)]=if n=s.nx then some (pa s) else none:=by
  show (if iA (kn n) (kn s.nx)=true then some (pa s) else none)=_;by_cases e:n=s.nx
  ·subst e;rw[if_pos (by simp[iA]),if_pos rfl]
  rw[if_neg (by simp[iA,e]),if_neg e]
 rw[e1];by_cases hn:n∈gZ s.B
 ·rw[if_pos hn];obtain⟨b,hb⟩:=(nq h.bls).1 hn;obtain⟨k,e,_,a⟩:=h.bls.keys _ hb;have e:n=k:=by simpa using e
  rw[if_neg az]
 rw[if_neg hn];by_cases e:n=s.nx
 ·rw[if_pos e,if_pos e]
 rw[if_neg e,if_neg e];have:=λhs=>hn ((mV h.bls).2 hs);cases hf:iC (kn n) s.B with
 |none=>rfl
 |some b=>rw[hf]at this;exact absurd rfl this
def ON{s:iz}(h:jq s):∀n∈gZ s.B,n∈gZ (jE (kn s.nx) (pa s) s.B):=λn hn=>by
 rw[HO h.bls h.mem.nlo];exact eO _ hn
def TK{W W' K:Nat}{s:iz}{d d1:Dk}{ns:List Nt}(h:iM W K s d)(hK:K<1000)(hB:s.B≠ [])(hd:jY W' d1 ns (jL (jE (kn s.nx) (pa s) s.B) (gZ s.B))):
  ∃d',pY ((kK (l9 s).mem).map iR) false d1=(none,false,d')/\iM (W'+20000000) (K+1) (l9 s) d':=by
 have hnx:=h.nx;have ht:=Bz h.sto.bls s.G;have hl:=Bw h.sto.bls s.G;obtain⟨u,v,s1,s2,s3⟩:=h.size;unfold vF at s2;refine LR (K:=K+1) (E2 h.sto h.few hB) (M_ h.sto h.few) (L2 (by show s.nx-1<s.nx;omega)) h.up (by show s.nx+1<=_;omega) (aQ _) (λx hx=>by cases hx) ⟨u,v,az,?_,?_⟩ az (hd.congr (PD h.sto))
 ·unfold vF;have e:l7 (l9 s).B=ir (iF s.B s.G):=by
   unfold l7 l9;simp
  rw[e];show _+ir s.S<=_;omega
 have e:oo (l9 s).B=(iF s.B s.G).length:=by
  unfold oo l9;simp
 rw[e];omega
def JT{B B':List (Value×Bl)}{nx:Int}(h:iP B nx)(h':iP B' nx)(e:∀n,iC (kn n) B'=iC (kn n) B):B'.Perm B:=by
 have nd:∀{C:List (Value×Bl)},(C.map (·.1)).Nodup->C.Nodup:=λ{C} h=>by
  unfold List.Nodup at h|-;rw[fq]at h;exact h.imp λh e=>h (congrArg Prod.fst e)
 exact (List.perm_ext_iff_of_nodup (nd h'.nd) (nd h.nd)).2 (tK h h' e)
def LY{B B':List (Value×Bl)}{nx:Int}(h:iP B nx)(h':iP B' nx)(e:∀n,iC (kn n) B'=iC (kn n) B):l7 B'=l7 B:=by
 unfold l7;exact ((JT h h' e).map _).sum_nat
def Sn{W K:Nat}{s:iz}{d:Dk}(h:iM W K s d){B':List (Value×Bl)}(h':iP B' s.nx)(e:∀n,iC (kn n) B'=iC (kn n) s.B):iM W K {s with B:=B'} d:=by
 obtain⟨ns,d1,d2,d3⟩:=h.disk;refine⟨QS h.sto h' e,?_,λy hy z hz=>?_,h.up,h.nx,h.gl,h.gok,?_,ns,d1.congr e,d2,d3⟩
 ·rw[Gk h.sto h' e];exact h.few
 ·exact h.iN y ((tK h.sto.bls h' e y).1 hy) z ((tK h.sto.bls h' e z).1 hz)
 obtain⟨u,v,s1,s2,s3⟩:=h.size;unfold vF at s2;refine⟨u,v,s1,?_,?_⟩
 ·show l7 B'+ir s.S<=_;rw[LY h.sto.bls h' e];exact s2
 show oo B'<=_;rw[show oo B'=oo s.B from ((JT h.sto.bls h' e).map _).sum_nat];exact s3
def OC{s:iz}(h:jq s){t:Int}(ht:t<=s.mark):max s.mark t=s.mark/\gX (jO t) s.S=s.S:=⟨az,h.mem.cut ht⟩
def Uv{s:iz}(h:jq s):∀y∈s.B,y.2.to_<=s.mark:=λy hy=>(h.hZ y hy).2
def UD{s:iz}(h:jq s):∀y∈s.B,max s.nx (oO y.1+1)=s.nx:=λy hy=>by
 obtain⟨n,e,_,a⟩:=h.bls.keys y hy;rw[e];show max s.nx (n+1)=s.nx;omega
def su(B:List (Value×Bl))(l:List Int):Int:=l.foldl (λm n=>max m (js B n).iN) (-1)
def SZ{B:List (Value×Bl)}{nx:Int}(h:iP B nx)(ho:uv B){l:List Int}(hl:∀n∈l,n∈gZ B){n:Int}(hn:n∈gZ B):su B l<n:=by
 obtain⟨y,hy,e1,e2⟩:=qD h hn;have h0:0<=n:=by
  obtain⟨k,e,a,_⟩:=h.keys y hy;have:n=k:=by rw[e1]at e;simpa using e
  omega
 have:=(B9 (λn=>(js B n).iN) l (-1)).2.2 (n-1) az λm hm=>by
  obtain⟨z,hz,e3,e4⟩:=qD h (hl m hm);have:=ho z hz y hy n e1;rw[e4]at this;show (js B m).iN<=n-1;omega
 unfold su;omega
def xn{x:Nat}:∀{l:List Nat},x∈l->x<=l.sum
 |y::l,h=>by
  rw[cK];rcases aF.1 h with rfl|h
  ·omega
  have:=xn h;omega
def JR{K:Nat}{s:iz}(h:jq s)(hz:EF K s)(hK:K<=60):∀y∈s.B,(mw y.2.to_ y.2.iN y.2.L).size<=900000:=λy hy=>by
 obtain⟨u,v,s1,s2,s3⟩:=hz;have h2:=xw (l:=y.2.L) λx hx=>(nQ (h.hZ y hy).1 x hx).1;have h4:(mw y.2.to_ y.2.iN y.2.L).size=16+(lT y.2.L).size:=by
  unfold mw;rw[aJ,aJ,jw,jw]
 have h5:=w6 λx hx=>((th (h.hZ y hy).1).2 x hx).2;unfold vF at s2;have h6:ir y.2.L<=l7 s.B:=by
  unfold l7;exact xn (ba.2 ⟨y,hy,rfl⟩)
 have h7:y.2.L.length<=oo s.B:=by
  unfold oo;exact xn (ba.2 ⟨y,hy,rfl⟩)
 omega
def numOf(f:ByteArray):Option Int:=if preB.isPrefixOf (bL f) then some (zG (bS ((bL f).drop 6))) else none
def xH{n:Int}(h:0<=n):numOf (jk n)=some n:=by
 have e1:bL (jk n)=preB++Lib.itoa n:=vW _;have e2:(preB++Lib.itoa n).drop 6=Lib.itoa n:=rfl;have e3:preB.isPrefixOf (preB++Lib.itoa n)=true:=by
  rw[dK];exact List.prefix_append _ _
 unfold numOf;rw[e1,e3,if_pos rfl,e2,vS h]
def Hg:numOf nN=none:=m7
def jI(l:List ByteArray):List Int:=l.filterMap numOf
def KW(l:List ByteArray){n:Int}(h:0<=n):jI (l++[jk n])=jI l++[n]:=by
 unfold jI;rw[dH];simp[xH h]
def N5(l:List ByteArray):jI (l++[nN])=jI l:=by
 unfold jI;rw[dH];simp[Hg]
def ya{W:Nat}{d:Dk}{ns:List Nt}{B:List (Value×Bl)}(h:jY W d ns B){n:Int}(h0:0<=n)(hs:(jg (jk n) d).isSome=true):∃x b,jg (jk n) d=some x/\iC (kn n) B=some b/\x.1=mw b.to_ b.iN b.L:=by
 have h2:=h.file n h0;cases hf:jg (jk n) d with
 |none=>rw[hf]at hs;cases hs
 |some x=>
  rw[hf]at h2;cases hp:iC (kn n) B with
  |none=>rw[hp]at h2;cases h2
  |some b=>
   rw[hp]at h2;exact⟨x,b,rfl,rfl,by simpa using h2⟩
def He{W:Nat}{d:Dk}{ns:List Nt}{B:List (Value×Bl)}{nx:Int}(h:jY W d ns B)(hB:iP B nx){l:List ByteArray}(hl:∀f,f∈l↔(jg f d).isSome=true):
  (∀n∈jI l,n∈gZ B)/\∀m,(iC (kn m) B).isSome=true->m∈jI l:=by
 constructor
 ·intro n hn;obtain⟨f,hf,e⟩:=fe.1 hn;rcases h.only f ((hl f).1 hf) with rfl|⟨k,k0,_,rfl⟩
  ·rw[Hg]at e;cases e
  rw[xH k0]at e;have e:k=n:=by simpa using e
  subst e;obtain⟨x,b,_,hb,_⟩:=ya h k0 ((hl _).1 hf);rw[mV hB,hb];rfl
 intro m hm;have hm':=(mV hB).2 hm;obtain⟨b,hb⟩:=(nq hB).1 hm';obtain⟨k,e,k0,_⟩:=hB.keys _ hb;have e:m=k:=by simpa using e
 subst e;refine fe.2 ⟨jk m,(hl _).2 ?_,xH k0⟩;have h2:=h.file m k0;cases hf:jg (jk m) d with
 |some x=>rfl
 |none=>
  rw[hf]at h2;cases hp:iC (kn m) B with
  |none=>rw[hp]at hm;cases hm
  |some b=>rw[hp]at h2;cases h2
def oI(B:List (Value×Bl))(l:List Int):List (Value×Bl):=l.foldl (λC n=>Cl B n C) []
def Fs{W:Nat}{d:Dk}{ns:List Nt}{B:List (Value×Bl)}{nx:Int}(h:jY W d ns B)(hB:iP B nx){l:List ByteArray}(hl:∀f,f∈l↔(jg f d).isSome=true):
  iP (oI B (jI l)) nx/\∀n,iC (kn n) (oI B (jI l))=iC (kn n) B:=by
 obtain⟨h1,h2⟩:=QE hB (l:=jI l) (B:=[]) ⟨(λ_ hy=>by cases hy),fQ⟩;refine⟨h1,λn=>?_⟩;unfold oI;rw[h2];by_cases hs:(iC (kn n) B).isSome=true
 ·rw[if_pos ⟨(He h hB hl).2 n hs,hs⟩]
 rw[if_neg λe=>hs e.2];cases hp:iC (kn n) B with
 |none=>rfl
 |some b=>rw[hp]at hs;exact absurd rfl hs
def OG{B:List (Value×Bl)}(l:List Int){n:Int}{b:Bl}(h:iC (kn n) B=some b):oI B (l++[n])=jE (kn n) b (oI B l):=by
 unfold oI;rw[bN];show Cl B n _=_;unfold Cl;rw[h]
def LV{B:List (Value×Bl)}(l:List Int){n:Int}{b:Bl}(h:iC (kn n) B=some b):su B (l++[n])=max (su B l) b.iN:=by
 unfold su;rw[bN];show max _ (js B n).iN=_;unfold js;rw[h];rfl
def Sz(l:List gY):Prop:=l.length<=100000/\∀x∈l,x.samples.length<=3000/\x.labels.length<=3000
structure zV(s:iz):Prop where
 bls:iP s.B s.nx
 len:s.B.length<=30
 bl:∀n∈gZ s.B,Sz (js s.B n).L
 left:∀n∈gZ s.B,Sz (kl s.B s.G n)
 aw:∀i,i<=(gZ s.B).length->Sz (qd s.B s.G ((gZ s.B).take i))
 gl:s.G.length<=1000
 gm:∀x∈s.G,x.2.mt.length<=100000
 hd:Sz s.S
def rR{l:List Lb}(h:iS l=true):l.length<=8:=by
 unfold iS at h;rw[aG]at h;exact (of_decide_eq_true h.2).2
def Ky(B:List (Value×Bl))(G:List (Int×Gn)){l:List Int}{i:Nat}(h:i<l.length):qd B G (l.take (i+1))=ij iJ (qd B G (l.take i)) (kl B G l[i]):=by
 unfold qd;rw[bx,aC h,bN];rfl
def KH{G:List (Int×Gn)}{j:Nat}(n:Int)(h:j<G.length):mv (G.take (j+1)) n=mv (G.take j) n++(if n<=G[j].1 then [G[j].2] else []):=by
 unfold mv;rw[bx,aC h,cH,aP];refine congrArg _ ?_;by_cases hc:n<=G[j].1
 ·rw[if_pos hc];simp[hc]
 rw[if_neg hc];simp[hc]
def EU(G:List (Int×Gn))(n:Int):(mv G n).length<=G.length:=by
 unfold mv;rw[aD];exact bZ _ _
def LW{G:List (Int×Gn)}{n:Int}{g:Gn}(h:g∈mv G n):∃x∈G,x.2=g:=by
 unfold mv at h;obtain⟨x,hx,e⟩:=ba.1 h;exact⟨x,(bF.1 hx).1,e⟩
def Cc{l:List gY}{x:gY}(h:x∈l):x.samples.length<=ir l:=by
 induction l with
 |nil=>cases h
 |cons y r ih=>
  show x.samples.length<=y.samples.length+ir r;rcases aF.1 h with rfl|h
  ·omega
  have:=ih h;omega
def BF{B:List (Value×Bl)}{G:List (Int×Gn)}:∀(l:List Int) (o:List gY) {z:gY},z∈l.foldl (λout n=>ij iJ out (kl B G n)) o->(∃x∈o,x.labels=z.labels)\/∃n∈l,∃x∈(js B n).L,x.labels=z.labels
 | [],o,z,h=>.inl ⟨z,h,rfl⟩
 |n::l,o,z,h=>by
  rw[bC]at h;rcases BF l _ h with ⟨x,hx,e⟩|⟨m,hm,x,hx,e⟩
  ·obtain⟨y,hy,e2⟩:=ni _ _ _ hx;rcases hy with hy|hy
   ·exact .inl ⟨y,hy,e2.trans e⟩
   obtain⟨w,hw,e3,_⟩:=ki hy;exact .inr ⟨n,aA,w,hw,e3.symm.trans (e2.trans e)⟩
  exact .inr ⟨m,by simp[hm],x,hx,e⟩
def Ho:∀(l:List Nat) (i:Nat),(l.take i).sum<=l.sum
 | [],i=>aA
 |y::l,0=>aA
 |y::l,i+1=>by
  rw[fP,cK,cK];have:=Ho l i;omega
def Jb{f:List gY->Nat}(hm:∀a b,f (ij iJ a b)<=f a+f b)(hw:∀k l,f (gX k l)<=f l)(h0:f []=0){B:List (Value×Bl)}{nx:Int}(h:iP B nx)(G:List (Int×Gn))(i:Nat):f (qd B G ((gZ B).take i))<=(B.map λy=>f y.2.L).sum:=by
 have h1:=BM hm hw B G ((gZ B).take i) [];have h3:=Ho ((gZ B).map λn=>f (js B n).L) i;rw[<-fZ]at h3;have h2:((gZ B).map λn=>f (js B n).L).sum=(B.map λy=>f y.2.L).sum:=by
  have hp:((gZ B).map λn=>f (js B n).L).Perm ((B.map λy=>oO y.1).map λn=>f (js B n).L):=(ku _).map _;rw[hp.sum_nat,bR]
  congr 1
  refine cd λy hy=>?_;obtain⟨n,e,_⟩:=h.keys y hy;have hf:iC (kn n) B=some y.2:=(kF (kd:=some .i64) rfl h.sort h.nd).2 (by rw[<-e];exact hy);show f (js B (oO y.1)).L=_;rw[e];unfold js oO;rw[hf];rfl
 unfold qd at h1|-;omega
def jq.CU{s:iz}(h:jq s){n:Int}(hn:n∈gZ s.B):∀x∈(js s.B n).L,iS x.labels=true/\x.samples.length<=2000:=λx hx=>by
 obtain⟨y,hy,_,e⟩:=qD h.bls hn;rw[<-e]at hx;obtain⟨a,b⟩:=nQ (h.hZ y hy).1 x hx;exact⟨a,((ja _).1 b).2⟩
def jq.NR{s:iz}(h:jq s){n:Int}(hn:n∈gZ s.B):(js s.B n).L.length<=oo s.B:=by
 obtain⟨y,hy,_,e⟩:=qD h.bls hn;rw[<-e];unfold oo;exact xn (ba.2 ⟨y,hy,rfl⟩)
def iM.aw{W K:Nat}{s:iz}{d:Dk}(h:iM W K s d)(hK:K<=70):zV s:=by
 have ht:=h.size.ir;obtain⟨a,c,k1,k2,k3⟩:=h.size;have hs:=h.sto;have hgl:=h.gl;refine⟨hs.bls,hs.len,λn hn=>⟨?_,λx hx=>?_⟩,λn hn=>⟨?_,λz hz=>?_⟩,λi hi=>⟨?_,λz hz=>?_⟩,az,λx hx=>?_,?_,λx hx=>?_⟩
 ·have:=hs.NR hn;omega
 ·obtain⟨e1,e2⟩:=hs.CU hn x hx;have:=rR e1;omega
 ·have:=hs.NR hn;have:=pW (lD (mv s.G n)) (js s.B n).L;unfold kl;omega
 ·obtain⟨x,hx,e3,e4,_⟩:=ki hz;obtain⟨e1,e2⟩:=hs.CU hn x hx;have:=rR e1;have h5:=Cc hz;have h6:=oT (lD (mv s.G n)) (js s.B n).L;have h7:ir (js s.B n).L<=l7 s.B:=M3;unfold kl at h5;rw[e3];omega
 ·have:=Jb (f:=List.length) rJ pW rfl hs.bls s.G i;unfold oo at k3;omega
 ·have h5:=Cc hz;have h6:=Jb (f:=ir) rM oT rfl hs.bls s.G i;have h7:(s.B.map λy=>ir y.2.L).sum=l7 s.B:=rfl;refine⟨az,?_⟩;rcases BF _ _ hz with ⟨x,hx,_⟩|⟨n,hn,x,hx,e⟩
  ·cases hx
  have:=rR (hs.CU (b9 hn) x hx).1;rw[<-e];omega
 ·have:=(h.gok x hx).2.2.2.2;omega
 ·have:s.S.length<=60:=hs.mem.head.len;omega
 obtain⟨e1,e2,_⟩:=hs.mem.head.each x hx;have:=rR e1;have:=((ja _).1 e2).2;omega
def EL{mk:Int}{S l:List gY}(h:(jb mk S l).1.1≠0):(jb mk S l).2=S:=by
 unfold jb at h|-;split
 ·rfl
 rename_i h1
 rw[if_neg h1]at h;cases ht:lF mk S l 0 with
 |none=>rw[ht]at h;exact absurd rfl h
 |some x=>rfl
def qV{s:iz}(h:zV s)(ht:l7 s.B+ir s.S<=3000)(hs:oo s.B<=6000)(h60:s.S.length<=60):Sz (iF s.B s.G)/\Sz (iw s):=by
 have ha:Sz (iF s.B s.G):=by
  have:=h.aw (gZ s.B).length (aL _)
  rwa [aT]at this
 have h1:=Bz h.bls s.G;have hal:=Bw h.bls s.G;refine⟨ha,?_,λz hz=>⟨?_,?_⟩⟩
 ·have h2:=rJ (iF s.B s.G) s.S;show (ij iJ (iF s.B s.G) s.S).length<=100000;omega
 ·have h2:=Cc hz;have h3:ir (iw s)<=ir (iF s.B s.G)+ir s.S:=rM _ _;omega
 obtain⟨y,hy,e⟩:=ni _ _ _ hz;rw[<-e];rcases hy with hy|hy
 ·exact (ha.2 y hy).2
 exact (h.hd.2 y hy).2
def iM.qV{W K:Nat}{s:iz}{d:Dk}(h:iM W K s d)(hK:K<=60):Sz (iF s.B s.G)/\Sz (iw s):=by
 have ht:=h.size.ir;obtain⟨a,c,k1,k2,k3⟩:=h.size;have h6:s.S.length<=60:=h.sto.mem.head.len;exact PL.qV (h.aw az) az az h6
noncomputable abbrev mO(s:iz)(l:List gY):iz:={s with S:=(jb s.mark s.S l).2}
def RI{W K:Nat}{s:iz}{d:Dk}(h:iM W K s d)(hK:K<60)(l:List gY)(h0:(jb s.mark s.S l).1.1=0):zV (mO s l)/\Sz (iF s.B s.G)/\Sz (iw (mO s l)):=by
 have ht:=h.size.ir;obtain⟨a,c,k1,k2,k3⟩:=h.size;have hok:lI (jb s.mark s.S l).2:=sZ l h.sto.mem.head;obtain⟨g1,g2,g3⟩:=pK h0;have h8:∀x∈(jb s.mark s.S l).2,x.samples.length<=3000/\x.labels.length<=3000:=λx hx=>by
  obtain⟨e1,e2,_⟩:=hok.each x hx;have:=rR e1;have:=((ja _).1 e2).2;omega
 have ha:=h.aw az;have haw:zV (mO s l):=⟨ha.bls,ha.len,ha.bl,ha.left,ha.aw,ha.gl,ha.gm,by have:=hok.len;show (jb s.mark s.S l).2.length<=100000;omega,h8⟩;have hts:ir (jb s.mark s.S l).2=ir s.S+ir l:=by rw[g3];exact vP l s.S
 have hz:=PL.qV haw (by show l7 s.B+ir (jb s.mark s.S l).2<=3000;omega) (by show oo s.B<=6000;omega) hok.len;exact⟨haw,hz⟩
def vO{s:iz}{l:List gY}(h:(jb s.mark s.S l).1.1≠0):j8 l s=((jb s.mark s.S l).1,s):=by
 unfold j8;rw[if_pos h]
def uL{s:iz}{l:List gY}{i:Nat}(h:(jb s.mark s.S l).1.1=0)(hf:qa (iw (mO s l)) l=some i):j8 l s=((12,(i:Int)),s):=by
 unfold j8;rw[if_neg (λh'=>h' h)];have e:qa (ij iJ (iF s.B s.G) (jb s.mark s.S l).2) l=some i:=hf;rw[e]
def sE{s:iz}{l:List gY}(h:(jb s.mark s.S l).1.1=0)(hf:qa (iw (mO s l)) l=none):j8 l s=((0, -1),mO s l):=by
 unfold j8;rw[if_neg (λh'=>h' h)];have e:qa (ij iJ (iF s.B s.G) (jb s.mark s.S l).2) l=none:=hf;rw[e]
def ng(l:List Int)(d:Dk):Dk:=l.foldl (λd n=>(lQ (jk n) d).2) d
def Cj(l:List Int)(d:Dk){i:Nat}(h:i<l.length):ng (l.take (i+1)) d=(lQ (jk l[i]) (ng (l.take i) d)).2:=by
 unfold ng;rw[bx,aC h,bN];rfl
def Ak{W:Nat}{d:Dk}{ns:List Nt}{B:List (Value×Bl)}{nx:Int}(hB:iP B nx){l:List Int}(hl:∀n∈l,n∈gZ B)(hd:l.Nodup)(h:jY W d ns B):∀i,i<=l.length->jY W (ng (l.take i) d) ns (jL B (l.take i))
 |0,_=>h
 |i+1,hi=>by
  obtain⟨d',e1,e2⟩:=Gz hB hl hd (i:=i) az (Ak hB hl hd h i az);rw[Cj l d az,e1];exact e2
def Jq{W:Nat}{d:Dk}{ns:List Nt}{B:List (Value×Bl)}{nx:Int}(hB:iP B nx){l:List Int}(hl:∀n∈l,n∈gZ B)(hd:l.Nodup)(h:jY W d ns B){i:Nat}(hi:i<l.length):lQ (jk l[i]) (ng (l.take i) d)=(none,ng (l.take (i+1)) d):=by
 obtain⟨d',e1,e2⟩:=Gz hB hl hd hi (Ak hB hl hd h i az);rw[Cj l d hi,e1]
def A7{α:Type}(p:α->Bool)(l:List α){i:Nat}(h:i<l.length):(l.take (i+1)).filter p=(l.take i).filter p++(if p l[i] then [l[i]] else []):=by
 rw[bx,aC h,cH];refine congrArg _ ?_;by_cases hc:p l[i]=true
 ·rw[if_pos hc];simp[hc]
 rw[if_neg hc];simp[hc]
def I3{B:List (Value×Bl)}{nx:Int}(h:iP B nx){n:Int}(hn:n∈gZ B):0<=n/\n<nx:=by
 obtain⟨b,hb⟩:=(nq h).1 hn;obtain⟨m,e,h1,h2⟩:=h.keys _ hb;have:n=m:=by
  have:=congrArg oO e;exact this
 omega
def OP{B:List (Value×Bl)}(h:gZ B=[]):B=[]:=by
 have h1:(gZ B).length=B.length:=by
  show (p6 _).length=_;rw[(ku _).length_eq,aD]
 rw[h]at h1;exact ca.1 h1.symm
def KS{B:List (Value×Bl)}{nx:Int}(h:iP B nx):jL B (gZ B)=[]:=by
 refine OP ?_;rw[(rT (l:=gZ B) h).2.2];exact dj.2 λn hn=>by simp[hn]
def OR(B:List (Value×Bl))(l:List Int)(m:Int){i:Nat}(h:i<l.length):(l.take (i+1)).foldl (λm n=>max m (js B n).to_) m=max ((l.take i).foldl (λm n=>max m (js B n).to_) m) (js B l[i]).to_:=by
 rw[bx,aC h,bN];rfl
structure Pt where
 labels:List Lb
 value:Int
instance:Inhabited Pt:=⟨⟨[],0⟩⟩
abbrev zx(f t:Int)(x:Sm):Bool:=decide (f<=x.time/\x.time<=t)
def ua(l:List gY)(m:List Mt)(f t:Int):List gY:=l.filterMap λx:gY=>
 if (x.samples.filter (zx f t))≠ []/\rE x.labels m=true then some ⟨x.labels,x.samples.filter (zx f t)⟩ else none
def G4:Qn->Prop
 | .nil=>True
 | .mk _ _ _ sp _ l r=>0<=sp/\sp<=1099511627776/\G4 l/\G4 r
def hv(l:List Sm):Int:=match l with|x::_=>x.value| []=>0
end Go.PL
