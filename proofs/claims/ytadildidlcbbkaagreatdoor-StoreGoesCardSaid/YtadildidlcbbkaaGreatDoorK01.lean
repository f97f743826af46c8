/- A part of the proof of StoreGoesCardSaid. -/
import Derived.Test.YtadildidlcbbkaaGreatDoorK00
import Derived.Maps.RangeRun
import Derived.Deep.LoopGhost
import Derived.OrdersHeld
import Derived.Deep.Slices
import Derived.ProofKit
import Derived.ChangeSame
import Derived.ChangeOld
import Derived.OpenShut
set_option linter.all false
namespace Go.GK
open Go Go.RowKit IntKind
def Bn{n:Nat}:∀{l:List GV},im n l=true->∀{j:Nat} {g:GV},l[j]? =some g->iy n g=true
 | [],_,j,g,hj=>by simp at hj
 |x::r,h,0,g,hj=>by simp[im]at h;simp at hj;subst hj;exact h.1
 |x::r,h,j+1,g,hj=>by simp[im]at h;exact Bn h.2 (by simpa using hj)
def uG{α:Type}(l vs:List α)(a k:Nat)(h:a+vs.length<=l.length):(l.take a++vs++l.drop (a+vs.length))[k]? =if a<=k/\k<a+vs.length then vs[k-a]? else l[k]? :=by
 have e1:(l.take a).length=a:=aq
 by_cases h1:k<a
 ·rw[if_neg az,aS,bc az,bD,if_pos h1]
 by_cases h2:k<a+vs.length
 ·rw[if_pos ⟨az,h2⟩,bc aq,aU az,e1]
 rw[if_neg az,aU aq,bo]
 congr 1
 simp;omega
def uz{α:Type}(l vs:List α)(a:Nat)(h:a+vs.length<=l.length):(l.take a++vs++l.drop (a+vs.length)).length=l.length:=by
 simp;omega
def Kv{α:Type}{l vs:List α}{a b:Nat}{x:α}(h:x∈l.take a++vs++l.drop b):x∈l\/x∈vs:=by
 rcases aE.1 h with h|h
 ·rcases aE.1 h with h|h
  ·exact .inl (b9 h)
  exact .inr h
 exact .inl (cF h)
def Iu{α:Type}(l vs:List α)(a m:Nat)(h:a+vs.length<=m)(hm:m<=l.length):(l.take a++vs++l.drop (a+vs.length)).take m=(l.take m).take a++vs++(l.take m).drop (a+vs.length):=by
 refine cT λk=>?_;rw[uG _ _ _ _ aq,bD,uG _ _ _ _ az,bD];by_cases h1:a<=k/\k<a+vs.length
 ·rw[if_pos h1,if_pos h1,if_pos az]
 rw[if_neg h1,if_neg h1]
theorem iQ.Oa {cx:Cx} {H:Hid} {s:St} {w:World} (h:iQ cx H s w) {id ty sz i off b n c:Nat} {rows:List (List GV)} {row gs:List GV} {vs:Array Value} (hl:gW s.σ id=some (.row ty sz rows)) (hsv:H.sv id=.slice (some ⟨b,0,none⟩) n c) (hi:rows[i]? =some row) (hg:Cells H gs vs)
  (hle:off+gs.length≤sz) (h1:pS gs=true) (h0:im 0 gs=true) (ρ:Env):
  ∃w',(∀P:Program,(storeCells ⟨b,i*sz+off,none⟩ vs.toList).run P w=.ok () w')∧iQ cx H {s with ρ:=ρ,σ:=jh s.σ id (.row ty sz (rows.set i (row.take off++gs++row.drop (off+gs.length))))} w':=by
 obtain⟨xs,⟨hxl,hor⟩,hrow⟩:=h.sat.holds _ (ib hl);have hilt:i<rows.length:=(aO.1 hi).1;have hvl:vs.toList.length=gs.length:=by simp[hg.1]
 have hrl:row.length=sz:=hrow.each row (bp hi);have hmul:i*sz+sz≤rows.length*sz:=by
  have:(i+1)*sz≤rows.length*sz:=bH _ hilt
  rwa [cg,fT]at this
 rcases hor with ⟨hn,_⟩|⟨g,cap,cur,hsl,hg0,hw,hcap,hmax,hcs,htk⟩
 ·rw[hsv]at hn;cases hn
 ·rw[hsv]at hsl;simp only[Value.slice.injEq,aV,Addr.mk.injEq,and_true]at hsl;obtain⟨rfl,rfl,rfl⟩:=hsl;have hcapmul:rows.length*sz≤c*sz:=bH _ hcap;have hcl:cur.toList.length=c*sz:=by simpa using hcs
  have hin:i*sz+off+vs.toList.length≤rows.length*sz:=az
  refine⟨w.setRow b (cur.toList.take (i*sz+off)++vs.toList++cur.toList.drop (i*sz+off+vs.toList.length)).toArray,fun P=>?_,?_⟩
  ·exact run_storeCells_at P b (i*sz+off) ty vs.toList 0 cur w hw (by simp only[bu]at*;omega) (uo hg h1)
  ·refine h.put (y:=.row ty sz (rows.set i (row.take off++gs++row.drop (off+gs.length)))) (w':=w.setRow b (cur.toList.take (i*sz+off)++vs.toList++cur.toList.drop (i*sz+off+vs.toList.length)).toArray) hl rfl rfl rfl rfl aA (fun b' hb hn=>?_) ?_ ρ
   ·exact setRow_other w _ b' _ (fun e=>hn (by simp[blocks,hsv,Value.ownBlock,e]))
   ·refine⟨xs.take (i*sz+off)++vs.toList++xs.drop (i*sz+off+vs.toList.length),⟨?_,.inr ⟨b,c,_,by rw[hsv,eX],aQ _,setRow_heap w _ cur _ ty (0,0) hw,by rw[eX];exact hcap,hmax,?_,?_⟩⟩,?_,fun r hr=>?_,fun i' r hr j g' hj=>?_,fun u hu=>?_⟩
    ·rw[uz _ _ _ (by rw[hxl];exact hin),eX,hxl]
    ·rw[←hcs,cr,uz _ _ _ (by rw[hcl];omega)];simp
    ·rw[eX,←htk];show List.take _ (_++_++_)=_;exact Iu _ _ _ _ hin (by rw[hcl];exact hcapmul)
    ·rw[uz _ _ _ (by rw[hxl];exact hin),eX,hxl]
    ·rcases List.mem_or_eq_of_mem_set hr with hr|rfl
     ·exact hrow.each r hr
     ·rw[uz _ _ _ (by rw[hrl];exact hle),hrl]
    ·rw[uG _ _ _ _ (by rw[hxl];exact hin)];by_cases hii:i=i'
     ·subst hii;rw[dZ hilt]at hr;simp only[aV]at hr;subst hr;rw[uG _ _ _ _ (by rw[hrl];exact hle)]at hj;by_cases hjj:off≤j∧j<off+gs.length
      ·rw[if_pos hjj]at hj;rw[if_pos az];have:=hg.2 _ _ hj;have e:i*sz+j- (i*sz+off)=j-off:=az
       have hlt:j-off<vs.size:=by have:=hg.1;omega
       refine⟨vs.getD (j-off) undef,?_,Is.Qx this (Bn h0 hj)⟩;rw[e];simp[Array.getD,hlt]
      ·rw[if_neg hjj]at hj;rw[if_neg az];exact hrow.is i row hi j g' hj
     ·rw[eM hii]at hr;have hr1:=hrow.each r (bp hr);have hjl:j<sz:=by have:=(aO.1 hj).1;omega
      rw[if_neg ?_]
      ·exact hrow.is i' r hr j g' hj
      ·rintro⟨ha,hb⟩;rcases Nat.lt_or_gt_of_ne hii with hlt|hlt
       ·have:(i+1)*sz≤i'*sz:=bH _ hlt;rw[cg,fT]at this;omega
       ·have:(i'+1)*sz≤i*sz:=bH _ hlt;rw[cg,fT]at this;omega
    ·rcases Kv hu with hu|hu
     ·exact hrow.one u hu
     ·exact uo hg h1 u hu
end Go.GK
namespace Go.GK
open Go.RowKit
section
variable {H:Hid}{w:World}{kd:Option IntKind}{es:List (Value×GV)}{arr:Array MapEntry}{clock:Nat}
def lj{kd:Option IntKind}{a:Value}(h:iq kd a=true):iA a a=true:=by
 cases kd<;>cases a<;>simp only[iq,a7]at h
 ·exact (MapKept.bytes_beq _ _).2 rfl
 simp[iA]
def Bt{k:Value}{g:GV}{u:Value}(hi:Is H g u)(c:Nat):∀{es:List (Value×GV)} {l:List MapEntry},mT H es l->∀i,
  (∃j e,lG k l i=some (i+j,e.val)/\l[j]? =some e/\iA k e.key=true/\mT H (jB k g es) (l.modify j λe=>{e with key:=k,val:=u}))\/
  (lG k l i=none/\(∀e∈l,iA k e.key=false)/\mT H (jB k g es) (l++[⟨k,u,c⟩]))
 | [],[],_,i=>.inr ⟨rfl,aA,rfl,hi,trivial⟩
 | (k',g')::r,e::s,h,i=>by
  obtain⟨h1,h2,h3⟩:=h;by_cases hv:iA k k'=true
  ·refine .inl ⟨0,e,?_,rfl,by rw[h1];exact hv,?_⟩
   ·simp[lG,h1,hv]
   simp only[jB,if_pos hv,List.modify_cons,if_true];exact⟨rfl,hi,h3⟩
  rcases Bt hi c h3 (i+1) with ⟨j,e',a1,a2,a3,a4⟩|⟨a1,a2,a3⟩
  ·refine .inl ⟨j+1,e',?_,by simpa using a2,a3,?_⟩
   ·simp only[lG,h1,if_neg hv,a1];congr 2;omega
   simp only[jB,if_neg hv,List.modify_succ_cons];exact⟨h1,h2,a4⟩
  refine .inr ⟨?_,?_,?_⟩
  ·simp only[lG,h1,if_neg hv,a1]
  ·intro x hx;rcases aF.1 hx with rfl|hx
   ·rw[h1];simpa using hv
   exact a2 x hx
  simp only[jB,if_neg hv,b_];exact⟨h1,h2,a3⟩
 | [],_::_,h,_=>h.elim
 |_::_,[],h,_=>h.elim
def F5{k:Value}:∀{es:List (Value×GV)} {l:List MapEntry},mT H es l->∀i,
  (∃j e,lG k l i=some (i+j,e.val)/\l[j]? =some e/\iA k e.key=true/\(∀e'∈l.take j,iA k e'.key=false)/\mT H (nM k es) (l.eraseIdx j))\/
  (lG k l i=none/\(∀e∈l,iA k e.key=false)/\nM k es=es)
 | [],[],_,i=>.inr ⟨rfl,aA,rfl⟩
 | (k',g')::r,e::s,h,i=>by
  obtain⟨h1,h2,h3⟩:=h;by_cases hv:iA k k'=true
  ·refine .inl ⟨0,e,?_,rfl,by rw[h1];exact hv,aA,?_⟩
   ·simp[lG,h1,hv]
   simp only[nM,if_pos hv,gG];exact h3
  rcases F5 h3 (i+1) with ⟨j,e',a1,a2,a3,a5,a4⟩|⟨a1,a2,a3⟩
  ·refine .inl ⟨j+1,e',?_,by simpa using a2,a3,?_,?_⟩
   ·simp only[lG,h1,if_neg hv,a1];congr 2;omega
   ·intro x hx;rcases aF.1 (by simpa using hx) with rfl|hx
    ·rw[h1];simpa using hv
    exact a5 x hx
   simp only[nM,if_neg hv,gH];exact⟨h1,h2,a4⟩
  refine .inr ⟨?_,?_,?_⟩
  ·simp only[lG,h1,if_neg hv,a1]
  ·intro x hx;rcases aF.1 hx with rfl|hx
   ·rw[h1];simpa using hv
   exact a2 x hx
  simp only[nM,if_neg hv,a3]
 | [],_::_,h,_=>h.elim
 |_::_,[],h,_=>h.elim
def lv(a:Array MapEntry)(j:Nat)(f:MapEntry->MapEntry):(a.modify j f).toList=a.toList.modify j f:=by
 apply cT;intro i;rw[dq,cz,cZ,dq];by_cases h:j=i
 ·simp[h]
 simp[h]
def sA(a:Array MapEntry)(j:Nat):(a.eraseIdxIfInBounds j).toList=a.toList.eraseIdx j:=by
 unfold Array.eraseIdxIfInBounds;split
 ·exact Array.toList_eraseIdx ..
 rename_i h
 rw[List.eraseIdx_of_length_le (by simpa using h)]
def kB.put(h:kB H kd es arr clock){kv:Value}(hk:iq kd kv=true){g:GV}{u:Value}(hi:Is H g u):
  (∃(j:Nat) (e:MapEntry),lG kv arr.toList 0=some (j,e.val)/\arr[j]? =some e/\e.key=kv/\kB H kd (jB kv g es) (arr.modify j λe=>{e with key:=kv,val:=u}) clock)\/
  (lG kv arr.toList 0=none/\kB H kd (jB kv g es) (arr.push ⟨kv,u,clock⟩) (clock+1)):=by
 rcases Bt (k:=kv) hi clock h.is 0 with ⟨j,e,a1,a2,a3,a4⟩|⟨a1,a2,a3⟩
 ·have hj:arr[j]? =some e:=by simpa using a2
  have he:e∈arr.toList:=bp a2;have hkey:e.key=kv:=(kH hk (h.sorts e he) a3).symm;refine .inl ⟨j,e,by simpa using a1,hj,hkey,⟨by rw[lv];exact a4,λx hx=>?_,?_⟩⟩
  ·rw[lv]at hx;obtain⟨i,hi'⟩:=cA hx;rw[cZ]at hi';cases hy:arr.toList[i]? with
   |none=>rw[hy]at hi';simp at hi'
   |some y=>
    rw[hy]at hi';simp only[fj,cC,aV]at hi';split at hi'
    ·rw[<-hi'];exact hk
    rw[<-hi'];exact h.sorts y (bp hy)
  exact MapKept.stamped_modify h.st _ _ (λ_ _=>rfl) (λe' _ he'=>by rw[hj]at he';cases he';exact hkey.symm)
 refine .inr ⟨a1,⟨by simpa using a3,λx hx=>?_,?_⟩⟩
 ·simp only[Array.toList_push,aE,aH]at hx;rcases hx with hx|rfl
  ·exact h.sorts x hx
  exact hk
 exact MapKept.stamped_push h.st (λx hx e=>by have:=a2 x hx;rw[e,lj hk]at this;cases this)
def kB.del(h:kB H kd es arr clock){kv:Value}:
  (∃(j:Nat) (e:MapEntry),lG kv arr.toList 0=some (j,e.val)/\arr.toList[j]? =some e/\iA kv e.key=true/\(∀e'∈arr.toList.take j,iA kv e'.key=false)/\kB H kd (nM kv es) (arr.eraseIdxIfInBounds j) clock)\/
  (lG kv arr.toList 0=none/\(∀e∈arr.toList,iA kv e.key=false)/\nM kv es=es):=by
 rcases F5 (k:=kv) h.is 0 with ⟨j,e,a1,a2,a3,a5,a4⟩|⟨a1,a2,a3⟩
 ·refine .inl ⟨j,e,by simpa using a1,a2,a3,a5,⟨by rw[sA];exact a4,λx hx=>?_,MapKept.stamped_erase h.st _⟩⟩;rw[sA]at hx;exact h.sorts x ((List.eraseIdx_sublist _ _).subset hx)
 exact .inr ⟨a1,a2,a3⟩
def lf(seen:Array Nat)(l:List MapEntry):List Value:=(l.filter λe=> !seen.contains e.born).map (·.key)
def pt(seen:Array Nat)(arr:Array MapEntry):((arr.filter λe=> !seen.contains e.born).toList.map (·.key))=lf seen arr.toList:=by
 simp[lf]
def vK{seen:Array Nat}{kv u:Value}:∀{l:List MapEntry} {j:Nat} {e:MapEntry},l[j]? =some e->e.key=kv->lf seen (l.modify j λe=>{e with key:=kv,val:=u})=lf seen l
 | [],j,e,h,_=>by simp at h
 |x::r,0,e,h,hk=>by
  simp at h;subst h;simp only[List.modify_cons,if_true,lf,bV];cases h2:seen.contains x.born<;>simp[hk]
 |x::r,j+1,e,h,hk=>by
  have ih:=vK (seen:=seen) (kv:=kv) (u:=u) (l:=r) (j:=j) (by simpa using h) hk;simp only[List.modify_succ_cons,lf,bV]at ih|-;cases h2:seen.contains x.born<;>simp only[dU,eD,a7,if_false,if_true,bb,ih]
def vT{k:Value}:∀{l:List Value},(∀x∈l,iA k x=false)->sS k l=l
 | [],_=>rfl
 |x::r,h=>by
  unfold sS;rw[if_neg (by rw[h x bf];simp),vT (λy hy=>h y (aK _ hy))]
def MX{seen:Array Nat}{l:List MapEntry}{x:Value}(h:x∈lf seen l):∃e∈l,e.key=x:=by
 simp only[lf,ba,bF]at h;obtain⟨e,⟨h1,_⟩,h2⟩:=h;exact⟨e,h1,h2⟩
def G9{seen:Array Nat}{kv:Value}:∀{l:List MapEntry} {j:Nat} {e:MapEntry},l[j]? =some e->iA kv e.key=true->(∀e'∈l.take j,iA kv e'.key=false)->(∀e'∈l.drop (j+1),iA kv e'.key=false)->
  lf seen (l.eraseIdx j)=sS kv (lf seen l)
 | [],j,e,h,_,_,_=>by simp at h
 |x::r,0,e,h,hk,_,hd=>by
  simp at h;subst h;simp only[gG,lf,bV];have hr:sS kv (lf seen r)=lf seen r:=vT (λy hy=>by obtain⟨e',h1,rfl⟩:=MX hy;exact hd e' (by simpa using h1));cases h2:seen.contains x.born with
  |true=>simpa[lf]using hr.symm
  |false=>simp[sS,hk]
 |x::r,j+1,e,h,hk,ht,hd=>by
  have ih:=G9 (seen:=seen) (kv:=kv) (l:=r) (j:=j) (by simpa using h) hk (λe' he=>ht e' (by simp[he])) (λe' he=>hd e' (by simpa using he));have hx:iA kv x.key=false:=ht x aA;simp only[gH,lf,bV]at ih|-;cases h2:seen.contains x.born with
  |true=>simpa only[dU,a7,if_false]using ih
  |false=>simp only[eD,if_true,bb,sS,hx,a7,if_false,ih]
def wA{arr:Array MapEntry}{clock:Nat}(h:MapKept.Stamped arr clock){i j:Nat}{x y:MapEntry}(hx:arr.toList[i]? =some x)(hy:arr.toList[j]? =some y)(e:x.key=y.key):i=j:=by
 have hn:=h.2.2;have h1:(arr.toList.map (·.key))[i]? =some x.key:=by rw[bg,hx];rfl
 have h2:(arr.toList.map (·.key))[j]? =some x.key:=by rw[bg,hy,e];rfl
 have hlt:=(aO.1 h1).1;exact (List.getElem?_inj hlt hn).1 (h1.trans h2.symm)
def nU(w:World)(b:Nat)(o:Obj):World:={w with heap:=w.heap.setIfInBounds b o}
def nK{w:World}{b:Nat}{o o':Obj}(h:w.heap[b]? =some o):(nU w b o').heap[b]? =some o':=by
 have:=(aW.1 h).1;simp[nU,this]
def mc{w:World}{b c:Nat}{o:Obj}(h:c≠b):(nU w b o).heap[c]? =w.heap[c]? :=by
 simp[nU,Ne.symm h]
def nr(w:World)(b:Nat)(o:Obj):(nU w b o).heap.size=w.heap.size:=by simp[nU]
def vj {P:Program} {t kt et:TypeId} (hu:P.underlying t=some (.map kt et)) {kd:Option IntKind} (hk:P.underlying kt=some (so kd)) {kv u:Value} (hs:iq kd kv=true) {b clock:Nat} {arr:Array MapEntry} {w:World} (hw:w.heap[b]? =some (.map arr clock))
  (hl:∀e∈arr.toList,iq kd e.key=true):
  (∀j v e,lG kv arr.toList 0=some (j,v)->arr[j]? =some e->e.key=kv->(Instr.mapUpdate t (.map (some b)) kv u).run P w=.ok () (nU w b (.map (arr.modify j λe=>{e with key:=kv,val:=u}) clock)))/\
  (lG kv arr.toList 0=none->(Instr.mapUpdate t (.map (some b)) kv u).run P w=.ok () (nU w b (.map (arr.push ⟨kv,u,clock⟩) (clock+1)))):=by
 have h1:=run_checkKey hk false 9999 kv w;have h2:=run_findKey hk hs hl w;refine⟨λj v e hf hj he=>?_,λhf=>?_⟩
 ·rw[hf]at h2;have hsb:Instr.sameBits 10000 kv kv=true:=by
   cases kd<;>cases kv<;>simp only[iq,a7]at hs
   ·exact (MapKept.bytes_beq _ _).2 rfl
   simp[Instr.sameBits]
  simp[Instr.mapUpdate,ik hu,getObj,setObj,Sem.run,hw,h1,h2,hj,he,Instr.keyThatStays,hsb];rfl
 rw[hf]at h2;simp[Instr.mapUpdate,ik hu,getObj,setObj,Sem.run,hw,h1,h2];rfl
def wj {P:Program} {t kt et:TypeId} (hu:P.underlying t=some (.map kt et)) {kd:Option IntKind} (hk:P.underlying kt=some (so kd)) {z:Value} (hz:∀w,(zeroValue et).run P w=.ok z w) {kv:Value} (hs:iq kd kv=true) {b clock:Nat} {arr:Array MapEntry} {w:World} (hw:w.heap[b]? =some (.map arr clock))
  (hl:∀e∈arr.toList,iq kd e.key=true):
  (∀j v e,lG kv arr.toList 0=some (j,v)->arr[j]? =some e->e.key=kv->(Instr.mapEntry t (.map (some b)) kv).run P w=.ok (.tuple #[v,goInt e.born]) (nU w b (.map (arr.modify j λe=>{e with key:=kv}) clock)))/\
  (lG kv arr.toList 0=none->(Instr.mapEntry t (.map (some b)) kv).run P w=.ok (.tuple #[z,goInt clock]) (nU w b (.map (arr.push ⟨kv,z,clock⟩) (clock+1)))):=by
 have h1:=run_checkKey hk false 9999 kv w;have h2:=run_findKey hk hs hl w;refine⟨λj v e hf hj he=>?_,λhf=>?_⟩
 ·rw[hf]at h2;have hsb:Instr.sameBits 10000 kv kv=true:=by
   cases kd<;>cases kv<;>simp only[iq,a7]at hs
   ·exact (MapKept.bytes_beq _ _).2 rfl
   simp[Instr.sameBits]
  simp[Instr.mapEntry,ik hu,getObj,setObj,Sem.run,hw,h1,h2,hj,he,Instr.keyThatStays,hsb];rfl
 rw[hf]at h2;have h3:=hz w;simp[Instr.mapEntry,ik hu,getObj,setObj,Sem.run,hw,h1,h2]at h3|-;simp[h3,hw];rfl
def yG {P:Program} {t kt et ty:TypeId} {ts:Array TypeId} (ht:ts[0]? =some t) (hu:P.underlying t=some (.map kt et)) {kd:Option IntKind} (hk:P.underlying kt=some (so kd)) {kv:Value} (hs:iq kd kv=true) {b clock:Nat} {arr:Array MapEntry} {w:World} (hw:w.heap[b]? =some (.map arr clock))
  (hl:∀e∈arr.toList,iq kd e.key=true):
  (Builtin.delete_ ts ty #[.map (some b),kv]).run P w=.ok (.tuple #[]) (nU w b (.map (match lG kv arr.toList 0 with|some (j,_)=>arr.eraseIdxIfInBounds j|none=>arr) clock)):=by
 have h1:=run_checkKey hk arr.isEmpty 9999 kv w;have h2:=run_findKey hk hs hl w;cases hf:lG kv arr.toList 0 with
 |none=>
  rw[hf]at h2;simp[Builtin.delete_,ht,ik hu,getObj,setObj,Sem.run,hw,h1,h2];rfl
 |some x=>
  obtain⟨j,v⟩:=x;rw[hf]at h2;simp[Builtin.delete_,ht,ik hu,getObj,setObj,Sem.run,hw,h1,h2];rfl
end
section
variable {cx:Cx}{H:Hid}{s:St}{w:World}{kd:Option IntKind}{es:List (Value×GV)}
def iQ.T8(h:iQ cx H s w)(kd:Option IntKind)(ρ:Env):
  iQ cx (H.more w.heap.size (.map (some w.heap.size))) {ρ:=ρ,σ:=(s.n,.mp kd [])::s.σ,n:=s.n+1} (w.alloc (.map #[] 0))/\Is (H.more w.heap.size (.map (some w.heap.size))) (.o s.n) (.map (some w.heap.size)):=by
 have hle:=H.km w.heap.size (.map (some w.heap.size));have e:(H.more w.heap.size (.map (some w.heap.size))).sv s.n=.map (some w.heap.size):=by simp[Hid.more,h.n]
 refine⟨h.grow hle rfl (by simp[Hid.more,h.n]) ((Below.refl _ _).alloc (aL _) _) ?_ (by simp[blocks,e,ju]) (by simp[blocks,e,ju]) ρ,.o (by simp[Hid.more,h.n]) e rfl⟩;exact⟨w.heap.size,#[],0,e,heap_alloc_new w _,⟨trivial,by simp,MapKept.stamped_empty 0⟩⟩
def iQ.TP(h:iQ cx H s w){id:Nat}(hl:gW s.σ id=some (.mp kd es)){kv:Value}(hk:iq kd kv=true){g:GV}{u:Value}(hi:Is H g u){P:Program}{t kt et:TypeId}(hu:P.underlying t=some (.map kt et))(hku:P.underlying kt=some (so kd))(ρ:Env):
  ∃w',(Instr.mapUpdate t (H.sv id) kv u).run P w=.ok () w'/\iQ cx H {s with ρ:=ρ,σ:=jh s.σ id (.mp kd (jB kv g es))} w':=by
 obtain⟨b,arr,clock,hb,hw,hm⟩:=h.sat.holds _ (ib hl);obtain⟨r1,r2⟩:=vj (u:=u) hu hku hk hw hm.sorts;rw[hb];rcases hm.put hk hi with ⟨j,e,a1,a2,a3,a4⟩|⟨a1,a2⟩
 ·exact⟨_,r1 j _ e a1 a2 a3,h.put (y:=.mp kd (jB kv g es)) (w':=nU w b _) hl rfl rfl rfl rfl (cM (nr _ _ _).symm) (λc _ hc=>mc (λe=>hc (by simp[blocks,hb,ju,e]))) ⟨b,_,_,hb,nK hw,a4⟩ ρ⟩
 exact⟨_,r2 a1,h.put (y:=.mp kd (jB kv g es)) (w':=nU w b _) hl rfl rfl rfl rfl (cM (nr _ _ _).symm) (λc _ hc=>mc (λe=>hc (by simp[blocks,hb,ju,e]))) ⟨b,_,_,hb,nK hw,a2⟩ ρ⟩
def iQ.Tg(h:iQ cx H s w){id:Nat}(hl:gW s.σ id=some (.mp kd es)){kv:Value}(hk:iq kd kv=true){P:Program}{t kt et ty:TypeId}{ts:Array TypeId}(ht:ts[0]? =some t)(hu:P.underlying t=some (.map kt et))(hku:P.underlying kt=some (so kd))(ρ:Env):
  ∃w',(Builtin.delete_ ts ty #[H.sv id,kv]).run P w=.ok (.tuple #[]) w'/\iQ cx H {s with ρ:=ρ,σ:=jh s.σ id (.mp kd (nM kv es))} w':=by
 obtain⟨b,arr,clock,hb,hw,hm⟩:=h.sat.holds _ (ib hl);have r:=yG (ty:=ty) ht hu hku hk hw hm.sorts;rw[hb];refine⟨_,r,h.put (y:=.mp kd (nM kv es)) (w':=nU w b _) hl rfl rfl rfl rfl (cM (nr _ _ _).symm) (λc _ hc=>mc (λe=>hc (by simp[blocks,hb,ju,e]))) ⟨b,_,_,hb,nK hw,?_⟩ ρ⟩;rcases hm.del (kv:=kv) with ⟨j,e,a1,_,_,_,a4⟩|⟨a1,_,a3⟩
 ·rw[a1];exact a4
 rw[a1,a3];exact hm
def iQ.fresh(h:iQ cx H s w)(v:Value)(ρ:Env):iQ cx (H.more 0 v) {ρ:=ρ,σ:=s.σ,n:=s.n+1} w:=by
 have hle:=H.km 0 v;have e:g_ (H.more 0 v) s.σ=g_ H s.σ:=nD hle h.sat.ids;have hfr:=h.fr;refine⟨by simp[Hid.more,h.n],⟨h.sat.ro,λx hx=>nO hle (h.sat.ids x hx) (h.sat.holds x hx),by rw[e];exact h.sat.nodup,by rw[e];exact h.sat.free,λx hx=>a_ (h.sat.ids x hx) hle.n⟩,⟨hfr.os,hfr.tape,hfr.output,hfr.size,hfr.keep,λb hb=>hfr.own b ?_,hfr.fro,hfr.le.trans hle⟩⟩;rw[<-e];exact hb
def CF{arr:Array MapEntry}{j:Nat}{e:MapEntry}{kv:Value}(hj:arr[j]? =some e):(arr.modify j λx=>{x with key:=kv})=arr.modify j λx=>{x with key:=kv,val:=e.val}:=by
 apply fc;intro i;rw[cz,cz];by_cases hij:j=i
 ·subst hij;rw[if_pos rfl,if_pos rfl,hj];rfl
 rw[if_neg hij,if_neg hij]
def iQ.mapEntry(h:iQ cx H s w){id:Nat}(hl:gW s.σ id=some (.mp kd es)){kv:Value}(hk:iq kd kv=true){P:Program}{t kt et:TypeId}(hu:P.underlying t=some (.map kt et))(hku:P.underlying kt=some (so kd)){z:GV}{zv:Value}(hz:∀w,(zeroValue et).run P w=.ok zv w)(hzi:∀H:Hid,Is H z zv)(ρ:Env):
  (∀g,jl kv es=some g->∃(v st:Value) (w':World),(Instr.mapEntry t (H.sv id) kv).run P w=.ok (.tuple #[v,st]) w'/\Is (H.more 0 st) (.tup [g,.o s.n]) (.tuple #[v,st])/\iQ cx (H.more 0 st) {ρ:=ρ,σ:=jh s.σ id (.me kd (jB kv g es) kv s.n),n:=s.n+1} w')/\
  (jl kv es=none->∃(v st:Value) (w':World),(Instr.mapEntry t (H.sv id) kv).run P w=.ok (.tuple #[v,st]) w'/\Is (H.more 0 st) (.tup [z,.o s.n]) (.tuple #[v,st])/\iQ cx (H.more 0 st) {ρ:=ρ,σ:=jh s.σ id (.me kd (jB kv z es) kv s.n),n:=s.n+1} w'):=by
 obtain⟨b,arr,clock,hb,hw,hm⟩:=h.sat.holds _ (ib hl);have hidn:id<H.n:=h.sat.ids _ (ib hl);obtain⟨r1,r2⟩:=wj hu hku hz hk hw hm.sorts;have tupI:∀(v st:Value) (g:GV),Is H g v->ow st=true->Is (H.more 0 st) (.tup [g,.o s.n]) (.tuple #[v,st]):=λv st g hi ho=>.tup rfl λj x hj=>by
  match j,hj with
  |0,hj=>cases hj;exact hi.mono (H.km 0 st)
  |1,hj=>cases hj;exact .o (by simp[Hid.more,h.n]) (by simp[Hid.more,h.n]) ho
 refine⟨λg hg=>?_,λhg=>?_⟩
 ·obtain⟨j0,e0,f1,f2,f3,f4⟩:=qj (i:=0) hm.is g hg;rcases hm.put hk f4 with ⟨j,e,a1,a2,a3,a4⟩|⟨a1,_⟩
  ·rw[a1]at f1;have hj0:j=j0:=by have:=(fU (br f1)).1;omega
   subst hj0;have he0:e=e0:=by
    have:arr.toList[j]? =some e:=by simpa using a2
    rw[f2]at this;exact (br this).symm
   subst he0;refine⟨e.val,goInt e.born,_,by rw[hb];exact r1 j _ e a1 a2 a3,tupI _ _ _ f4 rfl,?_⟩;have hf:=h.fresh (goInt e.born) ρ;have hle:=H.km 0 (goInt e.born);have hbl:(H.more 0 (goInt e.born)).sv id=.map (some b):=(hle.sv id hidn).trans hb;refine hf.put (y:=.me kd (jB kv g es) kv s.n) (w':=nU w b _) hl (by simp[blocks]) rfl rfl rfl (cM (nr _ _ _).symm) (λc _ hc=>mc (λe=>hc (by simp[blocks,hbl,ju,e]))) ?_ ρ;rw[CF a2];refine⟨by simp[Hid.more,h.n],b,_,clock,hbl,nK hw,a4.le hle,hk,{e with key:=kv,val:=e.val},?_,rfl,by simp[Hid.more,h.n,goInt]⟩;rw[lv];have hjl:arr.toList[j]? =some e:=by simpa using a2
   refine bp (i:=j) ?_;rw[cZ,hjl];simp
  rw[a1]at f1;cases f1
 have hn:=vH (i:=0) hm.is hg;rcases hm.put hk (hzi H) with ⟨j,e,a1,_⟩|⟨_,a2⟩
 ·rw[hn]at a1;cases a1
 refine⟨zv,goInt clock,_,by rw[hb];exact r2 hn,tupI _ _ _ (hzi H) rfl,?_⟩;have hf:=h.fresh (goInt clock) ρ;have hle:=H.km 0 (goInt clock);have hbl:(H.more 0 (goInt clock)).sv id=.map (some b):=(hle.sv id hidn).trans hb;exact hf.put (y:=.me kd (jB kv z es) kv s.n) (w':=nU w b _) hl (by simp[blocks]) rfl rfl rfl (cM (nr _ _ _).symm) (λc _ hc=>mc (λe=>hc (by simp[blocks,hbl,ju,e]))) ⟨by simp[Hid.more,h.n],b,_,clock+1,hbl,nK hw,a2.le hle,hk,⟨kv,zv,clock⟩,aA,rfl,by simp[Hid.more,h.n,goInt]⟩ ρ
def born_inj{arr:Array MapEntry}{clock:Nat}(h:MapKept.Stamped arr clock){i j:Nat}{x y:MapEntry}(hx:arr.toList[i]? =some x)(hy:arr.toList[j]? =some y)(e:x.born=y.born):i=j:=by
 have hn:=h.2.1;have h1:(arr.toList.map (·.born))[i]? =some x.born:=by rw[bg,hx];rfl
 have h2:(arr.toList.map (·.born))[j]? =some x.born:=by rw[bg,hy,e];rfl
 have hlt:=(aO.1 h1).1;exact (List.getElem?_inj hlt hn).1 (h1.trans h2.symm)
def iQ.entryStore(h:iQ cx H s w){id q:Nat}{kv:Value}(hl:gW s.σ id=some (.me kd es kv q)){g:GV}{u:Value}(hi:Is H g u){P:Program}{t:TypeId}(ρ:Env):
  ∃w',(Instr.entryStore t (H.sv id) (H.sv q) u).run P w=.ok () w'/\iQ cx H {s with ρ:=ρ,σ:=jh s.σ id (.mp kd (jB kv g es))} w':=by
 obtain⟨_,b,arr,clock,hb,hw,hm,hk,e,he,hek,hq⟩:=h.sat.holds _ (ib hl);obtain⟨i,hi'⟩:=cA he;have hfi:arr.findIdx? (λx=>(x.born:Int)==(e.born:Int))=some i:=by
  rw[fk];obtain⟨hlt,hge⟩:=aO.1 hi';refine⟨by simpa using hlt,?_,λj hj=>?_⟩
  ·rw[eN]at hge;rw[hge];simp
  have hjl:j<arr.size:=by
   have:i<arr.size:=by simpa using hlt
   omega
  have hjj:arr.toList[j]? =some arr[j]:=by simp[hjl]
  intro hc;have hc2:(arr[j].born:Int)=(e.born:Int):=by simpa using hc
  have:arr[j].born=e.born:=az
  have:=born_inj hm.st hjj hi' this;omega
 rcases hm.put hk hi with ⟨j,e2,a1,a2,a3,a4⟩|⟨a1,_⟩
 ·have hj2:arr.toList[j]? =some e2:=by simpa using a2
  have hij:j=i:=wA hm.st hj2 hi' (a3.trans hek.symm);subst hij;have hmod:(arr.modify j λx=>{x with val:=u})=arr.modify j λx=>{x with key:=kv,val:=u}:=by
   apply fc;intro i;rw[cz,cz];by_cases hij:j=i
   ·subst hij;rw[if_pos rfl,if_pos rfl,a2];simp[<-a3]
   rw[if_neg hij,if_neg hij]
  refine⟨nU w b (.map (arr.modify j λx=>{x with val:=u}) clock),?_,?_⟩
  ·rw[hb,hq];simp[Instr.entryStore,getObj,setObj,Sem.run,hw,asInt,asIntOf,hfi];rfl
  refine h.put (y:=.mp kd (jB kv g es)) (w':=nU w b _) hl (by simp[blocks]) rfl rfl rfl (cM (nr _ _ _).symm) (λc _ hc=>mc (λe=>hc (by simp[blocks,hb,ju,e]))) ?_ ρ;rw[hmod];exact⟨b,_,_,hb,nK hw,a4⟩
 exfalso;have hv:iA kv e.key=true:=by
  rw[hek];cases kd<;>cases kv<;>simp only[iq,a7]at hk
  ·exact (MapKept.bytes_beq _ _).2 rfl
  simp[iA]
 have:∀(l:List MapEntry) (n:Nat),e∈l->lG kv l n≠none:=by
  intro l;induction l with
  |nil=>intro _ h;cases h
  |cons x r ih=>
   intro n hm;unfold lG;by_cases hx:iA kv x.key=true
   ·rw[if_pos hx];simp
   rw[if_neg hx];rcases aF.1 hm with rfl|hm
   ·exact absurd hv hx
   exact ih _ hm
 exact this _ 0 he a1
def iQ.R5(h:iQ cx H s w){id:Nat}{left:List Value}{cur:Option Value}(hl:gW s.σ id=some (.mr kd es left cur)){kv:Value}(hk:iq kd kv=true){g:GV}{u:Value}(hi:Is H g u)(hin:(jl kv es).isSome=true){P:Program}{t kt et:TypeId}(hu:P.underlying t=some (.map kt et))(hku:P.underlying kt=some (so kd))(ρ:Env):
  ∃w',(Instr.mapUpdate t (H.sv id) kv u).run P w=.ok () w'/\iQ cx H {s with ρ:=ρ,σ:=jh s.σ id (.mr kd (jB kv g es) left cur)} w':=by
 obtain⟨b,arr,clock,seen,hb,hne,hw,hm,hit,hleft,hcur⟩:=h.sat.holds _ (ib hl);obtain⟨r1,_⟩:=vj (u:=u) hu hku hk hw hm.sorts;rw[hb];rcases hm.put hk hi with ⟨j,e,a1,a2,a3,a4⟩|⟨a1,a2⟩
 ·refine⟨_,r1 j _ e a1 a2 a3,h.put (y:=.mr kd (jB kv g es) left cur) (w':=nU w b _) hl rfl rfl rfl rfl (cM (nr _ _ _).symm) (λc _ hc=>mc (λe=>hc (by simp[blocks,hb,ju,e]))) ⟨b,_,_,seen,hb,hne,nK hw,a4,(mc hne).trans hit,?_,λk hk'=>?_⟩ ρ⟩
  ·rw[hleft,pt,pt,lv,vK (e:=e) (by simpa using a2) a3]
  obtain⟨h1,stamp,h2,h3⟩:=hcur k hk';refine⟨h1,stamp,h2,λx hx=>?_⟩;rw[lv]at hx;obtain⟨i,hi'⟩:=cA hx;rw[cZ]at hi';cases hy:arr.toList[i]? with
  |none=>rw[hy]at hi';simp at hi'
  |some y=>
   rw[hy]at hi';simp only[fj,cC,aV]at hi';have:=h3 y (bp hy);split at hi'
   ·rename_i hij
    subst hij;have:y=e:=by
     have h5:arr.toList[j]? =some e:=by simpa using a2
     rw[h5]at hy;cases hy;rfl
    subst this;rw[<-hi'];simp only;rw[<-a3]
    assumption
   rw[<-hi'];exact this
 obtain⟨g',hg'⟩:=cL.1 hin;obtain⟨j,e,e1,_⟩:=qj (i:=0) hm.is g' hg';rw[a1]at e1;cases e1
def NG{arr:Array MapEntry}{clock i:Nat}{e:MapEntry}(h:MapKept.Stamped arr clock)(hi:arr.toList[i]? =some e):arr.findIdx? (λx=>(x.born:Int)==(e.born:Int))=some i:=by
 rw[fk];obtain⟨hlt,hge⟩:=aO.1 hi;refine⟨by simpa using hlt,?_,λj hj=>?_⟩
 ·rw[eN]at hge;rw[hge];simp
 have hjl:j<arr.size:=by
  have:i<arr.size:=by simpa using hlt
  omega
 have hjj:arr.toList[j]? =some arr[j]:=by simp[hjl]
 intro hc;have hc2:(arr[j].born:Int)=(e.born:Int):=by simpa using hc
 have:arr[j].born=e.born:=az
 have:=born_inj h hjj hi this;omega
def iQ.LJ(h:iQ cx H s w){id:Nat}{left:List Value}{cur:Option Value}(hl:gW s.σ id=some (.mr kd es left cur)){kv:Value}(hk:iq kd kv=true){P:Program}{t kt et:TypeId}(hu:P.underlying t=some (.map kt et))(hku:P.underlying kt=some (so kd)){zv:Value}(hz:∀w,(zeroValue et).run P w=.ok zv w){g:GV}(hg:jl kv es=some g)(ρ:Env):
  ∃(v st:Value) (w':World),(Instr.mapEntry t (H.sv id) kv).run P w=.ok (.tuple #[v,st]) w'/\Is (H.more 0 st) (.tup [g,.o s.n]) (.tuple #[v,st])/\iQ cx (H.more 0 st) {ρ:=ρ,σ:=jh s.σ id (.mre kd (jB kv g es) left cur kv s.n),n:=s.n+1} w':=by
 obtain⟨b,arr,clock,seen,hb,hne,hw,hm,hit,hleft,hcur⟩:=h.sat.holds _ (ib hl);have hidn:id<H.n:=h.sat.ids _ (ib hl);obtain⟨r1,_⟩:=wj hu hku hz hk hw hm.sorts;obtain⟨j0,e0,f1,f2,f3,f4⟩:=qj (i:=0) hm.is g hg;rcases hm.put hk f4 with ⟨j,e,a1,a2,a3,a4⟩|⟨a1,_⟩
 ·rw[a1]at f1;have hj0:j=j0:=by have:=(fU (br f1)).1;omega
  subst hj0;have hjl:arr.toList[j]? =some e:=by simpa using a2
  have he0:e=e0:=by
   rw[f2]at hjl;exact (br hjl).symm
  subst he0;have tupI:Is (H.more 0 (goInt e.born)) (.tup [g,.o s.n]) (.tuple #[e.val,goInt e.born]):=.tup rfl λj x hj=>by
   match j,hj with
   |0,hj=>cases hj;exact f4.mono (H.km 0 _)
   |1,hj=>cases hj;exact .o (by simp[Hid.more,h.n]) (by simp[Hid.more,h.n]) rfl
  refine⟨e.val,goInt e.born,_,by rw[hb];exact r1 j _ e a1 a2 a3,tupI,?_⟩;have hf:=h.fresh (goInt e.born) ρ;have hle:=H.km 0 (goInt e.born);have hsv:(H.more 0 (goInt e.born)).sv id=.map (some b):=(hle.sv id hidn).trans hb;have hbl:(H.more 0 (goInt e.born)).bl id=H.bl id:=hle.bl id hidn;refine hf.put (y:=.mre kd (jB kv g es) left cur kv s.n) (w':=nU w b _) hl rfl rfl rfl rfl (cM (nr _ _ _).symm) (λc _ hc=>mc (λe=>hc (by simp[blocks,hsv,ju,e]))) ?_ ρ;rw[CF a2];have hmem:∀x∈(arr.modify j λx=>{x with key:=kv,val:=e.val}).toList,∃y∈arr.toList,x.key=y.key/\x.born=y.born:=λx hx=>by
   rw[lv]at hx;obtain⟨i,hi'⟩:=cA hx;rw[cZ]at hi';cases hy:arr.toList[i]? with
   |none=>rw[hy]at hi';simp at hi'
   |some y=>
    rw[hy]at hi';simp only[fj,cC,aV]at hi';refine⟨y,bp hy,?_⟩;split at hi'
    ·rename_i hij
     subst hij;rw[hjl]at hy;cases hy;rw[<-hi'];exact⟨a3.symm,rfl⟩
    rw[<-hi'];exact⟨rfl,rfl⟩
  refine⟨by simp[Hid.more,h.n],b,_,clock,seen,hsv,by rw[hbl];exact hne,nK hw,a4.le hle,?_,?_,λk hk'=>?_,hk,{e with key:=kv,val:=e.val},?_,rfl,by simp[Hid.more,h.n,goInt]⟩
  ·rw[hbl];exact (mc hne).trans hit
  ·rw[hleft,pt,pt,lv,vK (e:=e) hjl a3]
  ·obtain⟨h1,stamp,h2,h3⟩:=hcur k hk';refine⟨h1,stamp,h2,λx hx=>?_⟩;obtain⟨y,hy,e1,e2⟩:=hmem x hx;rw[e1,e2];exact h3 y hy
  rw[lv];refine bp (i:=j) ?_;rw[cZ,hjl];simp
 rw[a1]at f1;cases f1
def iQ.Ib(h:iQ cx H s w){id q:Nat}{kv:Value}{left:List Value}{cur:Option Value}(hl:gW s.σ id=some (.mre kd es left cur kv q)){g:GV}{u:Value}(hi:Is H g u){P:Program}{t:TypeId}(ρ:Env):
  ∃w',(Instr.entryStore t (H.sv id) (H.sv q) u).run P w=.ok () w'/\iQ cx H {s with ρ:=ρ,σ:=jh s.σ id (.mr kd (jB kv g es) left cur)} w':=by
 obtain⟨_,b,arr,clock,seen,hb,hne,hw,hm,hit,hleft,hcur,hk,e,he,hek,hq⟩:=h.sat.holds _ (ib hl);obtain⟨i,hi'⟩:=cA he;have hfi:=NG hm.st hi';rcases hm.put hk hi with ⟨j,e2,a1,a2,a3,a4⟩|⟨a1,_⟩
 ·have hj2:arr.toList[j]? =some e2:=by simpa using a2
  have hij:j=i:=wA hm.st hj2 hi' (a3.trans hek.symm);subst hij;have hmod:(arr.modify j λx=>{x with val:=u})=arr.modify j λx=>{x with key:=kv,val:=u}:=by
   apply fc;intro i;rw[cz,cz];by_cases hij:j=i
   ·subst hij;rw[if_pos rfl,if_pos rfl,a2];simp[<-a3]
   rw[if_neg hij,if_neg hij]
  refine⟨nU w b (.map (arr.modify j λx=>{x with val:=u}) clock),?_,?_⟩
  ·rw[hb,hq];simp[Instr.entryStore,getObj,setObj,Sem.run,hw,asInt,asIntOf,hfi];rfl
  refine h.put (y:=.mr kd (jB kv g es) left cur) (w':=nU w b _) hl rfl rfl rfl rfl (cM (nr _ _ _).symm) (λc _ hc=>mc (λe=>hc (by simp[blocks,hb,ju,e]))) ?_ ρ;rw[hmod];refine⟨b,_,clock,seen,hb,hne,nK hw,a4,(mc hne).trans hit,?_,λk hk'=>?_⟩
  ·rw[hleft,pt,pt,lv,vK (e:=e2) hj2 a3]
  obtain⟨h1,stamp,h2,h3⟩:=hcur k hk';refine⟨h1,stamp,h2,λx hx=>?_⟩;rw[lv]at hx;obtain⟨i,hi2⟩:=cA hx;rw[cZ]at hi2;cases hy:arr.toList[i]? with
  |none=>rw[hy]at hi2;simp at hi2
  |some y=>
   rw[hy]at hi2;simp only[fj,cC,aV]at hi2;have h4:=h3 y (bp hy);split at hi2
   ·rename_i hij
    subst hij;rw[hj2]at hy;cases hy;rw[<-hi2];simp only;rw[<-a3];exact h4
   rw[<-hi2];exact h4
 exfalso;have hv:iA kv e.key=true:=by
  rw[hek];cases kd<;>cases kv<;>simp only[iq,a7]at hk
  ·exact (MapKept.bytes_beq _ _).2 rfl
  simp[iA]
 have:∀(l:List MapEntry) (n:Nat),e∈l->lG kv l n≠none:=by
  intro l;induction l with
  |nil=>intro _ h;cases h
  |cons x r ih=>
   intro n hm;unfold lG;by_cases hx:iA kv x.key=true
   ·rw[if_pos hx];simp
   rw[if_neg hx];rcases aF.1 hm with rfl|hm
   ·exact absurd hv hx
   exact ih _ hm
 exact this _ 0 he a1
def iQ.RE(h:iQ cx H s w){id:Nat}{left:List Value}{cur:Option Value}(hl:gW s.σ id=some (.mr kd es left cur)){kv:Value}(hk:iq kd kv=true){P:Program}{t kt et ty:TypeId}{ts:Array TypeId}(ht:ts[0]? =some t)(hu:P.underlying t=some (.map kt et))(hku:P.underlying kt=some (so kd))(ρ:Env):
  ∃w',(Builtin.delete_ ts ty #[H.sv id,kv]).run P w=.ok (.tuple #[]) w'/\iQ cx H {s with ρ:=ρ,σ:=jh s.σ id (.mr kd (nM kv es) (sS kv left) cur)} w':=by
 obtain⟨b,arr,clock,seen,hb,hne,hw,hm,hit,hleft,hcur⟩:=h.sat.holds _ (ib hl);have r:=yG (ty:=ty) ht hu hku hk hw hm.sorts;rw[hb];refine⟨_,r,h.put (y:=.mr kd (nM kv es) (sS kv left) cur) (w':=nU w b _) hl rfl rfl rfl rfl (cM (nr _ _ _).symm) (λc _ hc=>mc (λe=>hc (by simp[blocks,hb,ju,e]))) ?_ ρ⟩;rcases hm.del (kv:=kv) with ⟨j,e,a1,a2,a3,a5,a4⟩|⟨a1,a2,a3⟩
 ·rw[a1];have hek:=kH hk (hm.sorts e (bp a2)) a3;have hdrop:∀e'∈arr.toList.drop (j+1),iA kv e'.key=false:=λe' he'=>by
   obtain⟨i,hi'⟩:=cA he';rw[bo]at hi';cases hv:iA kv e'.key with
   |false=>rfl
   |true=>
    have h2:=kH hk (hm.sorts e' (bp hi')) hv;have:=wA hm.st a2 hi' (hek.symm.trans h2);omega
  refine⟨b,_,_,seen,hb,hne,nK hw,a4,(mc hne).trans hit,?_,λk hk'=>?_⟩
  ·rw[hleft,pt,pt,sA,G9 a2 a3 a5 hdrop]
  obtain⟨h1,stamp,h2,h3⟩:=hcur k hk';refine⟨h1,stamp,h2,λx hx=>h3 x ?_⟩;rw[sA]at hx;exact (List.eraseIdx_sublist _ _).subset hx
 rw[a1,a3];refine⟨b,_,_,seen,hb,hne,nK hw,hm,(mc hne).trans hit,?_,hcur⟩;rw[hleft,pt];exact vT (λy hy=>by obtain⟨e',h1,rfl⟩:=MX hy;exact a2 e' h1)
end
end Go.GK
namespace Go.GK
open Go.RowKit
section
variable {cx:Cx}{H:Hid}{s:St}{w:World}{kd:Option IntKind}{es:List (Value×GV)}
def Gb{P:Program}{t k e:TypeId}(hu:P.underlying t=some (.map k e)){b clock:Nat}{arr:Array MapEntry}(hw:w.heap[b]? =some (.map arr clock)):
  (Instr.range t (.map (some b))).run P w=.ok (.pointer (some ⟨w.heap.size,0,none⟩)) (w.alloc (.mapIter (some b) clock #[] clock)):=by
 simp[Instr.range,ik hu,getObj,newObj,Sem.run,hw]
def Fz{P:Program}{t k e:TypeId}(hu:P.underlying t=some (.map k e))(w:World):
  (Instr.range t (.map none)).run P w=.ok (.pointer (some ⟨w.heap.size,0,none⟩)) (w.alloc (.mapIter none 0 #[] 0)):=by
 simp[Instr.range,ik hu,newObj,Sem.run]
def iQ.mapRange(h:iQ cx H s w){id:Nat}(hl:gW s.σ id=some (.mp kd es)){P:Program}{t kt et:TypeId}(hu:P.underlying t=some (.map kt et))(ρ:Env):
  ∃(H':Hid) (w':World),H.le H'/\(Instr.range t (H.sv id)).run P w=.ok (.pointer (some ⟨w.heap.size,0,none⟩)) w'/\Is H' (.p s.n 0) (.pointer (some ⟨w.heap.size,0,none⟩))/\iQ cx H' {ρ:=ρ,σ:=(s.n,.mr kd es (es.map (·.1)) none)::jh s.σ id (.itr s.n),n:=s.n+1} w':=by
 obtain⟨b,arr,clock,hb,hw,hm⟩:=h.sat.holds _ (ib hl);obtain⟨l1,l2,e1,_,e3⟩:=kU hl;have hs:=h.sat;have hfr:=h.fr;have hle:=H.km w.heap.size (.map (some b));have hn:=h.n;have en:(H.more w.heap.size (.map (some b))).bl s.n=w.heap.size:=by simp[Hid.more,hn]
 have es':(H.more w.heap.size (.map (some b))).sv s.n=.map (some b):=by simp[Hid.more,hn]
 have hid:id<H.n:=hs.ids _ (ib hl);have eid:(H.more w.heap.size (.map (some b))).sv id=.map (some b):=(hle.sv id hid).trans hb;have hbel:Below w.heap.size w (w.alloc (.mapIter (some b) clock #[] clock)):=(Below.refl _ _).alloc (aL _) _;have hblt:b<w.heap.size:=(aW.1 hw).1;have hin1:∀z∈l1,z∈s.σ:=λz hz=>by rw[e1];exact aE.2 (.inl hz)
 have hin2:∀z∈l2,z∈s.σ:=λz hz=>by rw[e1];exact aE.2 (.inr (aK _ hz))
 have b1:g_ (H.more w.heap.size (.map (some b))) l1=g_ H l1:=nD hle (λz hz=>hs.ids z (hin1 z hz));have b2:g_ (H.more w.heap.size (.map (some b))) l2=g_ H l2:=nD hle (λz hz=>hs.ids z (hin2 z hz));have hσb:g_ H s.σ=g_ H l1++([b]++g_ H l2):=by rw[e1,il,iD];simp[blocks,hb,ju]
 have hnew:g_ (H.more w.heap.size (.map (some b))) ((s.n,.mr kd es (es.map (·.1)) none)::jh s.σ id (.itr s.n))=[b,w.heap.size]++(g_ H l1++g_ H l2):=by
  rw[e3,iD,il,iD,b1,b2];simp[blocks,es',en,ju]
 have hmem:∀x,x∈g_ (H.more w.heap.size (.map (some b))) ((s.n,.mr kd es (es.map (·.1)) none)::jh s.σ id (.itr s.n))↔x=w.heap.size\/x∈g_ H s.σ:=λx=>by
  rw[hnew,hσb];simp only[aE,aF,dm,or_false];grind
 refine⟨_,_,hle,by rw[hb];exact Gb hu hw,?_,⟨by simp[Hid.more,hn],⟨λc o hr=>?_,λz hz=>?_,?_,λc hc=>?_,λz hz=>?_⟩,?_⟩⟩
 ·have:=Is.p (H:=H.more w.heap.size (.map (some b))) (id:=s.n) (off:=0) (by simp[Hid.more,hn])
  rwa [en]at this
 ·have:=hs.ro c o hr;rw[hbel.block c (aW.1 this).1];exact this
 ·rcases aF.1 hz with rfl|hz
  ·refine⟨b,arr,clock,#[],es',by rw[en];omega,(hbel.block b hblt).trans hw,hm.le hle,by rw[en];exact heap_alloc_new w _,?_,λk hk=>by cases hk⟩;rw[pt];simp only[lf];rw[cD.2 aA,Aa hm.is]
  rw[e3]at hz;have hold:∀y∈s.σ,GK.holds (H.more w.heap.size (.map (some b))) (w.alloc (.mapIter (some b) clock #[] clock)) y:=λy hy=>
   lu (w:=w) (λc hc=>by
    rw[pF hle (hs.ids y hy)]at hc;exact hbel.block c (hs.lt c (aX.2 ⟨y,hy,hc⟩))) (nO hle (hs.ids y hy) (hs.holds y hy))
  rcases aE.1 hz with hz|hz
  ·exact hold z (hin1 z hz)
  rcases aF.1 hz with rfl|hz
  ·exact⟨by simp[Hid.more,hn],eid.trans es'.symm,b,es'⟩
  exact hold z (hin2 z hz)
 ·have hnd:=hs.nodup;rw[hσb]at hnd;rw[hnew];have hperm:([b,w.heap.size]++(g_ H l1++g_ H l2)).Perm (w.heap.size::(g_ H l1++([b]++g_ H l2))):=by
   exact (List.Perm.swap w.heap.size b _).trans (List.Perm.cons _ ((dQ (a:=b) (l₁:=g_ H l1) (l₂:=g_ H l2)).symm))
  rw[hperm.nodup_iff];refine bJ.2 ⟨λhc=>?_,hnd⟩;rw[<-hσb]at hc;have:=hs.lt _ hc;omega
 ·rw[hmem]at hc;rcases hc with rfl|hc
  ·exact hs.rW _ (aL _)
  exact hs.free c hc
 ·rcases aF.1 hz with rfl|hz
  ·simp[Hid.more,hn]
  rw[e3]at hz;rcases aE.1 hz with hz|hz
  ·exact a_ (hs.ids z (hin1 z hz)) hle.n
  rcases aF.1 hz with rfl|hz
  ·exact a_ hid hle.n
  exact a_ (hs.ids z (hin2 z hz)) hle.n
 refine⟨hbel.os.trans hfr.os,hbel.tape.trans hfr.tape,hbel.output.trans hfr.output,bE hfr.size hbel.size,λc h1 h2=>(hbel.block c (a_ h1 hfr.size)).trans (hfr.keep c h1 h2),λc hc=>?_,λc h1 h2=>hfr.fro c h1 h2,hfr.le.trans hle⟩;have hc':=(hmem c).1 hc;rcases hc' with rfl|hc'
 ·exact .inr hfr.size
 exact hfr.own c hc'
def IZ{seen:Array Nat}:∀{l:List MapEntry} {e:MapEntry},e∈l->(l.map (·.born)).Nodup-> !seen.contains e.born->∃l1 l2,lf seen l=l1++e.key::l2/\lf (seen.push e.born) l=l1++l2
 | [],e,h,_,_=>by cases h
 |x::r,e,h,hn,hs=>by
  simp only[bb,bJ]at hn;by_cases hx:x=e
  ·subst hx;refine⟨[],lf seen r,?_,?_⟩
   ·simp only[lf,bV,hs,if_true,bb,dy]
   have hc:(seen.push x.born).contains x.born=true:=aA
   simp only[lf,bV,hc,dU,a7,if_false,dy];refine congrArg (List.map _) (ez λy hy=>?_);have hne:y.born≠x.born:=λe=>hn.1 (by rw[<-e];exact cc hy);simp[hne]
  have hr:e∈r:=by
   rcases aF.1 h with h|h
   ·exact absurd h.symm hx
   exact h
  obtain⟨l1,l2,h1,h2⟩:=IZ hr hn.2 hs;have hne:x.born≠e.born:=λe'=>hn.1 (by rw[e'];exact cc hr);have hcc:(seen.push e.born).contains x.born=seen.contains x.born:=by simp[hne]
  simp only[lf,bV,hcc]at h1 h2|-;cases hc:seen.contains x.born with
  |true=>exact⟨l1,l2,by simpa only[dU,a7,if_false]using h1,by simpa only[dU,a7,if_false]using h2⟩
  |false=>exact⟨x.key::l1,l2,by simp only[eD,if_true,bb,h1,b_],by simp only[eD,if_true,bb,h2,b_]⟩
def kB.get{arr:Array MapEntry}{clock:Nat}(h:kB H kd es arr clock){e:MapEntry}(he:e∈arr.toList):∃g,jl e.key es=some g/\Is H g e.val:=by
 have hse:=h.sorts e he;cases hf:jl e.key es with
 |none=>
  have:=Bt (k:=e.key) (g:=.v undef) (u:=undef) (.ro (.v undef)) 0 h.is 0;rcases this with ⟨j,x,a1,_⟩|⟨_,a2,_⟩
  ·rw[vH h.is hf]at a1;cases a1
  have:=a2 e he;rw[lj hse]at this;cases this
 |some g=>
  obtain⟨j,x,e1,e2,e3,e4⟩:=qj (i:=0) h.is g hf;have hx:=h.sorts x (bp e2);have hk:=kH hse hx e3;have:=tH h.st.2.2 he (bp e2) hk;subst this;exact⟨g,rfl,e4⟩
def iQ.mapNext(h:iQ cx H s w){it:Nat}{left:List Value}{cur:Option Value}(hl:gW s.σ it=some (.mr kd es left cur))(P:Program)(ty:TypeId)(ρ:Env):
  (left=[]/\(Instr.next (.pointer (some ⟨H.bl it,0,none⟩)) false ty).run P w=.ok (.tuple #[.bool false]) w)\/
  ∃l1 k l2 g v w',left=l1++k::l2/\jl k es=some g/\Is H g v/\(Instr.next (.pointer (some ⟨H.bl it,0,none⟩)) false ty).run P w=.ok (.tuple #[.bool true,k,v]) w'/\iQ cx H {s with ρ:=ρ,σ:=jh s.σ it (.mr kd es (l1++l2) (some k))} w':=by
 obtain⟨b,arr,clock,seen,hb,hne,hw,hm,hit,hleft,hcur⟩:=h.sat.holds _ (ib hl);rw[pt]at hleft;rcases Go.run_next_at (P:=P) w ty (H.bl it) b clock clock seen arr clock hit hw hm.st.1 (aL _) with ⟨h0,hr⟩|⟨e,he,w1,hw1,hr⟩
 ·refine .inl ⟨?_,hr⟩;rw[hleft,<-pt];have:(Array.filter (λe=> !seen.contains e.born) arr)=#[]:=dV h0;rw[this];rfl
 have he2:e∈arr.toList/\(!seen.contains e.born)=true:=by
  have:e∈(Array.filter (λe=> !seen.contains e.born) arr).toList:=he;simp only[Array.toList_filter,bF]at this;exact this
 obtain⟨l1,l2,a1,a2⟩:=IZ he2.1 hm.st.2.1 he2.2;obtain⟨g,hg,hgi⟩:=hm.get he2.1;have hsim1:iQ cx H s w1:=by
  rcases hw1 with rfl|rfl
  ·exact h
  exact h.below (yw w)
 have hheap:w1.heap=w.heap:=by rcases hw1 with rfl|rfl<;>rfl
 have hsize:w1.heap.size=w.heap.size:=by rw[hheap]
 refine .inr ⟨l1,e.key,l2,g,e.val,_,hleft.trans a1,hg,hgi,hr,hsim1.put (y:=.mr kd es (l1++l2) (some e.key)) (w':=nU w1 (H.bl it) _) hl rfl rfl rfl rfl (cM (nr _ _ _).symm) (λc _ hc=>mc (λe=>hc (by simp[blocks,e]))) ⟨b,arr,clock,seen.push e.born,hb,hne,(mc (Ne.symm hne)).trans (by rw[hheap];exact hw),hm,nK (by rw[hheap];exact hit),by rw[pt];exact a2.symm,λk hk=>?_⟩ ρ⟩;cases hk;refine⟨hm.sorts e he2.1,e.born,aA,λx hx=>⟨λhx'=>?_,λhx'=>?_⟩⟩
 ·rw[tH hm.st.2.1 hx he2.1 hx'];exact lj (hm.sorts e he2.1)
 have:=kH (hm.sorts e he2.1) (hm.sorts x hx) hx';rw[tH hm.st.2.2 hx he2.1 this.symm]
def iQ.NZ(h:iQ cx H s w)(o:Obj)(ρ:Env):
  iQ cx (H.more w.heap.size undef) {ρ:=ρ,σ:=(s.n,.ob o)::s.σ,n:=s.n+1} (w.alloc o)/\Is (H.more w.heap.size undef) (.p s.n 0) (.pointer (some ⟨w.heap.size,0,none⟩)):=by
 have hle:=H.km w.heap.size undef;have e:(H.more w.heap.size undef).bl s.n=w.heap.size:=by simp[Hid.more,h.n]
 refine⟨h.grow hle rfl (by simp[Hid.more,h.n]) ((Below.refl _ _).alloc (aL _) _) ?_ (by simp[blocks]) (by simp[blocks,e]) ρ,?_⟩
 ·show (w.alloc o).heap[(H.more w.heap.size undef).bl s.n]? =some o;rw[e];exact heap_alloc_new w _
 have:=Is.p (H:=H.more w.heap.size undef) (id:=s.n) (off:=0) (by simp[Hid.more,h.n])
 rwa [e]at this
def GG{P:Program}{r since last:Nat}{seen:Array Nat}(hw:w.heap[r]? =some (.mapIter none since seen last))(ty:TypeId):(Instr.next (.pointer (some ⟨r,0,none⟩)) false ty).run P w=.ok (.tuple #[.bool false]) w:=by
 simp[Instr.next,getObj,Sem.run,hw]
end
end Go.GK
namespace Go.GK
open Go Go.RowKit IntKind
section
variable {P:Program}{Q:Exit->Act->World->Prop}
def sP:∀(k:List It) (a:Act) (w:World),cont P Q k .ret a w=Q .ret a w
 | [],_,_=>rfl
 | .code _::k,a,w=>sP k a w
 | .hZ _::k,a,w=>sP k a w
 | .ops false _ _::k,a,w=>sP k a w
 | .ops true _ _::k,a,w=>sP k a w
def oJ{ch:List PanicEntry}:∀(k:List It) (a:Act) (w:World),cont P Q k (.panic ch) a w=Q (.panic ch) a w
 | [],_,_=>rfl
 | .code _::k,a,w=>oJ k a w
 | .hZ _::k,a,w=>oJ k a w
 | .ops false _ _::k,a,w=>oJ k a w
 | .ops true _ _::k,a,w=>oJ k a w
def rY{id:Nat}:∀(k:List It) (a:Act) (w:World),cont P Q k (.exit id) a w=match exitTo id k with|some k'=>cont P Q k' .normal a w|none=>Q (.exit id) a w
 | [],_,_=>rfl
 | .code _::k,a,w=>rY k a w
 | .hZ j::k,a,w=>by
  unfold exitTo;simp only[cont];cases hb:Nat.beq id j with
  |true=>rw[if_pos (beq_eq hb)];rfl
  |false=>rw[if_neg (jD hb)];exact rY k a w
 | .ops false _ _::k,a,w=>rY k a w
 | .ops true _ _::k,a,w=>rY k a w
def L4{c:Code}{k:List It}:∀(e:Exit) (a:Act) (w:World),cont P Q (.code c::k) e a w=Exit.then (c.wp P (cont P Q k)) (cont P Q k) e a w
 | .normal,_,_=>rfl
 | .exit _,_,_=>rfl
 | .goto _,_,_=>rfl
 | .ret,_,_=>rfl
 | .panic _,_,_=>rfl
 | .outgrown,_,_=>rfl
def O6{id:Nat}{k:List It}:∀(e:Exit) (a:Act) (w:World),cont P Q (.hZ id::k) e a w=Exit.inBlock id (cont P Q k) e a w
 | .normal,_,_=>rfl
 | .exit _,_,_=>rfl
 | .goto _,_,_=>rfl
 | .ret,_,_=>rfl
 | .panic _,_,_=>rfl
 | .outgrown,_,_=>rfl
def lC{ops:Array Oper}{o:Oper}{rest:List Oper}{a:Act}{w w':World}{u:Value}(hw:Region.wanted o (yielded ops a.tmps)=true)(hr:(execOp a.eval o).run P w=.ok (.value u) w')(h:wpList P ops Q rest (a.put o.dst u) w'):wpList P ops Q (o::rest) a w:=by
 unfold wpList;rw[if_pos hw];refine .inl ?_;unfold Oper.wp;rw[hr];exact h
def DP{ops:Array Oper}{o:Oper}{rest:List Oper}{a:Act}{w w':World}(hw:Region.wanted o (yielded ops a.tmps)=true)(hr:(execOp a.eval o).run P w=.ok .skip w')(h:wpList P ops Q rest (a.put o.dst undef) w'):wpList P ops Q (o::rest) a w:=by
 unfold wpList;rw[if_pos hw];refine .inl ?_;unfold Oper.wp;rw[hr];exact h
def Ia{ops:Array Oper}{o:Oper}{rest:List Oper}{a:Act}{w:World}(hw:Region.wanted o (yielded ops a.tmps)=false)(h:wpList P ops Q rest (a.put o.dst undef) w):wpList P ops Q (o::rest) a w:=by
 unfold wpList;rw[if_neg (by simp[hw])];exact h
def Im{ops:Array Oper}{C:World->Prop}{R:Act->Prop}{o:Oper}{rest:List Oper}{a:Act}{u:Value}(hw:Region.wanted o (yielded ops a.tmps)=true)(hr:∀w,C w->(execOp a.eval o).run P w=.ok (.value u) w)(h:wpQuiet P ops C R rest (a.put o.dst u)):wpQuiet P ops C R (o::rest) a:=by
 unfold wpQuiet;rw[if_pos hw];refine⟨u,λw hC=>?_,h⟩;unfold Oper.quietAt;rw[hr w hC];exact⟨rfl,rfl⟩
def HU{ops:Array Oper}{C:World->Prop}{R:Act->Prop}{o:Oper}{rest:List Oper}{a:Act}(hw:Region.wanted o (yielded ops a.tmps)=false)(h:wpQuiet P ops C R rest (a.put o.dst undef)):wpQuiet P ops C R (o::rest) a:=by
 unfold wpQuiet;rw[if_neg (by simp[hw])];exact h
end
section
variable {cx:Cx}{T:jz}
def JK.Og {all:List Oper} {o:Oper} {rest:List Oper} {k:List It} {H':Hid} {a:Act} {w w':World} {s':St} {u:Value} {g:GV} {ρ:Env} {K:Env->Prop}
  (hg:iX cx.pg H') (ha:kr cx H' ρ a) (hw:Region.wanted o (yielded all.toArray a.tmps)=true) (hr:(execOp a.eval o).run cx.pg.P w=.ok (.value u) w'\/(execOp a.eval o).run cx.pg.P w=.ok .skip w'/\u=undef) (hi:Is H' g u) (hd:iO cx.N ρ o.dst g K)
  (hs:∀ρ',K ρ'->iQ cx H' {s' with ρ:=ρ'} w'/\JK cx T (.ops false all rest::k) {s' with ρ:=ρ'}):
  cont cx.pg.P (post cx T) (.ops false all (o::rest)::k) .normal a w:=by
 obtain⟨ρ',ha',hk⟩:=ha.iO hi hd;obtain⟨hs',hJ⟩:=hs ρ' hk;have:=hJ H' (a.put o.dst u) w' hg hs' ha';rcases hr with hr|⟨hr,rfl⟩
 ·exact lC hw hr this
 exact DP hw hr this
def iX.re{p:Pg}{H H':Hid}(h:iX p H)(e:H'.ro=H.ro:=by rfl):iX p H':=⟨λg gv hl=>by rw[e];exact h.gl g gv hl,λg cs hl=>by rw[e];exact h.ex g cs hl⟩
def iX.up{p:Pg}{H H':Hid}(h:iX p H)(hro:∀b o,H.ro b=some o->H'.ro b=some o):iX p H':=⟨λg gv hgv=>(h g gv hgv).mono hro,λg cs hg=>by
 obtain⟨c,ty,fz,e,hs⟩:=h.ex g cs hg;exact⟨c,ty,fz,hro _ _ e,hs⟩⟩
def iX.mono{p:Pg}{H H':Hid}(h:iX p H)(hl:H.le H'):iX p H':=⟨λg gv hgv=>(h g gv hgv).mono hl.ro,λg cs hg=>by
 obtain⟨c,ty,fz,e,hs⟩:=h.ex g cs hg;exact⟨c,ty,fz,hl.ro _ _ e,hs⟩⟩
def Bx{H:Hid}(l:List Value):Cells H (l.map .v) l.toArray:=by
 refine⟨aA,λj g hj=>?_⟩;simp only[bg,cu]at hj;obtain⟨v,hv,rfl⟩:=hj;have:l.toArray.getD j undef=v:=by simp[hv]
 rw[this];exact .ro (.v v)
def Cu{p:Pg}{H:Hid}(hg:iX p H){ρ:Env}{a:Act}(h:jH H ρ a):∀{xs:List (Nat×Operand)} {gs:List (Nat×GV)},Jd p ρ xs=some gs->gs.length=xs.length/\∀(j i:Nat) (g:GV),gs[j]? =some (i,g)->∃v,(xs.map λx=>(x.1,a.eval x.2))[j]? =some (i,v)/\Is H g v
 | [],gs,he=>by simp only[Jd,aV]at he;subst he;simp
 | (i0,x)::r,gs,he=>by
  unfold Jd at he;split at he
  ·rename_i g gs' h1 h2
   simp only[aV]at he;subst he;obtain⟨hl,hi⟩:=Cu hg h h2;refine⟨by simp[hl],λj i g' hj=>?_⟩;cases j with
   |zero=>simp at hj;obtain⟨rfl,rfl⟩:=hj;exact⟨a.eval x,rfl,iE hg h h1⟩
   |succ j=>obtain⟨v,hv,hi'⟩:=hi j i g' (by simpa using hj);exact⟨v,by simpa using hv,hi'⟩
  cases he
def HP {p:Pg} {H:Hid} {t:Nat} {ti:TI} (hti:pk p.P t ti) {fs:List (Nat×Nat×Bool)} (hd:ti.d=.struct fs) {gs:List (Nat×GV)} {vs:Array (Nat×Value)} {cs:List GV} (hl:gs.length=vs.size)
  (hi:∀(j:Nat) i g,gs[j]? =some (i,g)->∃v,vs.toList[j]? =some (i,v)/\Is H g v) (hf:wo fs gs (ti.zero.map .v)=some cs) (w:World):∃us,(Instr.build t vs).run p.P w=.ok (.agg us) w/\Cells H cs us:=by
 have hd':=hti.d;rw[hd]at hd';obtain⟨fields,hu,hfs,hin⟩:=hd';obtain⟨it,z,hit,hsz,_,hz,hzc,hzl⟩:=hti.info;have hzcell:Cells H (ti.zero.map .v) z.cells:=by
  have:=Bx (H:=H) ti.zero;rw[<-hzc]at this;simpa[<-hzc]using this
 have hplaces:∃places,fields.toList.mapM (λf=>(p.P.info? f.type).map λi=>(f.offset,i.size))=some places/\∀(i off sz:Nat) (ag:Bool),fs[i]? =some (off,sz,ag)->places[i]? =some (off,sz):=by
  have key:∀(l:List Field),(∀f∈l,(p.P.info? f.type).isSome=true/\(p.P.underlying f.type).isSome=true)->l.mapM (λf=>(p.P.info? f.type).map λi=>(f.offset,i.size))=some (l.map λf=>(f.offset,p.P.cellsOf f.type)):=by
   intro l;induction l with
   |nil=>intro _;rfl
   |cons f l ih=>
    intro h;obtain⟨i,hi⟩:=cL.1 (h f bf).1;have:=ih (λg hg=>h g (aK _ hg));simp[List.mapM_cons,hi,this,Program.cellsOf]
  refine⟨_,key _ hin,λi off sz ag hfi=>?_⟩;have:=hfs i;rw[hfi]at this;simp only[bg];rw[dq];cases hff:fields[i]? with
  |none=>rw[hff]at this;cases this
  |some f=>
   rw[hff]at this;simp only[cC,aV,bK]at this|-;exact⟨this.1.symm,this.2.1.symm⟩
 obtain⟨places,hpl,hpp⟩:=hplaces;obtain⟨us,hus,hc⟩:=DW (place:=(places.toArray[·]?)) (places:=fs) (by simpa using hpp) (gs:=gs) (vs:=vs.toList) (by simpa using hl) hi hzcell hf;refine⟨us,run_build w t vs us ?_,hc⟩;unfold Program.built;simp only[hit,hu,hz,hpl];exact hus
def EY:∀(n sz off i:Nat),(wq n sz off)[i]? =if i<n then some (off+i*sz,sz,false) else none
 |0,sz,off,i=>by simp[wq]
 |n+1,sz,off,0=>by simp[wq]
 |n+1,sz,off,i+1=>by
  simp only[wq,gI,EY n sz (off+sz) i,Nat.succ_lt_succ_iff,cg,fT];split
  ·congr 2;omega
  rfl
def Fv {p:Pg} {H:Hid} {t e n:Nat} {ti te:TI} (hti:pk p.P t ti) (hd:ti.d=.array n e) (hte:pk p.P e te) {gs:List (Nat×GV)} {vs:Array (Nat×Value)} {cs:List GV} (hl:gs.length=vs.size)
  (hi:∀(j:Nat) i g,gs[j]? =some (i,g)->∃v,vs.toList[j]? =some (i,v)/\Is H g v) (hf:wo (wq n te.sz 0) gs (ti.zero.map .v)=some cs) (w:World):∃us,(Instr.build t vs).run p.P w=.ok (.agg us) w/\Cells H cs us:=by
 have hu:=hti.d;rw[hd]at hu;obtain⟨it,z,hit,hsz,_,hz,hzc,hzl⟩:=hti.info;have hzcell:Cells H (ti.zero.map .v) z.cells:=by
  have:=Bx (H:=H) ti.zero;rw[<-hzc]at this;simpa[<-hzc]using this
 obtain⟨us,hus,hc⟩:=DW (place:=λi=>some (i*te.sz,te.sz)) (places:=wq n te.sz 0) (by
  intro i off sz ag hx;rw[EY]at hx;split at hx
  ·simp only[aV,bK]at hx;obtain⟨rfl,rfl,_⟩:=hx;simp
  cases hx) (gs:=gs) (vs:=vs.toList) (by simpa using hl) hi hzcell hf
 refine⟨us,run_build w t vs us ?_,hc⟩;unfold Program.built;obtain⟨ie,ze,hie,hse,_⟩:=hte.info;simp only[hit,hu,hz,hie,hse];exact hus
def wF{o:Oper}{y:Nat->Option Bool}(h:o.guard=none):Region.wanted o y=true:=by simp[Region.wanted,h]
def pD{all:List Oper}{o oj:Oper}{j d:Nat}{want t:Bool}{a:Act}(hgd:o.guard=some (j,want))(hj:all[j]? =some oj)(hd:oj.dst=some d)(hv:a.tmps.getD d undef=.bool t):Region.wanted o (yielded all.toArray a.tmps)=(t==want):=by
 have hd':a.tmps[d]? =some (.bool t):=by
  rw[bn]at hv;cases h:a.tmps[d]? with
  |none=>rw[h]at hv;simp[undef]at hv
  |some v=>rw[h]at hv;simp at hv;rw[hv]
 simp[Region.wanted,hgd,yielded,hj,hd,hd']
def yn{all:List Oper}{o oj:Oper}{j d:Nat}{want:Bool}{vs:Array Value}{a:Act}(hgd:o.guard=some (j,want))(hj:all[j]? =some oj)(hd:oj.dst=some d)(hv:a.tmps.getD d undef=.tuple vs):Region.wanted o (yielded all.toArray a.tmps)=false:=by
 simp[Region.wanted,hgd,yielded,hj,hd];rw[bn]at hv;cases h:a.tmps[d]? with
 |none=>simp
 |some v=>rw[h]at hv;simp at hv;simp[hv]
def Kw{p:Pg}{ρ:Env}{o:Op}(h:oG o=false):Ke p ρ o=false:=by
 cases o
 case call c=>
  rcases c with ⟨callee⟩;cases callee<;>first|rfl| (simp[oG]at h;done)
 all_goals first|rfl| (simp[oG]at h;done)
def HA(hp:cx.pg.Ok){s:St}{o:Oper}{next:St->Prop}{leaf:Env->Prop}{H:Hid}{a:Act}{w:World}(hg:iX cx.pg H)(hs:iQ cx H s w){ρ:Env}(ha:kr cx H ρ a)(hpu:oG o.op=false)(h:ub cx false s o next leaf ρ):
  leaf ρ\/∃(H':Hid) (u:Value) (g:GV) (w':World) (s0:St),H.le H'/\((execOp a.eval o).run cx.pg.P w=.ok (.value u) w'\/(execOp a.eval o).run cx.pg.P w=.ok .skip w'/\u=undef)/\Is H' g u/\
   iO cx.N ρ o.dst g (λρ'=>next {s0 with ρ:=ρ'})/\∀ρ',iQ cx H' {s0 with ρ:=ρ'} w':=by
 obtain⟨ρs,σ,m⟩:=s;unfold ub at h;rw[Kw hpu,hpu]at h;simp only[cond_false,zd,j9,jy]at h;split at h
 ·rename_i t ho
  split at h
  ·rename_i ti hti
   obtain⟨i,z,hi,hsz,_,hz,hzc,hzl⟩:=(hp.tt _ _ hti).info;have hc:Cells H (ti.zero.map .v) z.cells:=by
    have:=Bx (H:=H) ti.zero;rw[<-hzc]at this;simpa[<-hzc]using this
   obtain⟨h1,h2⟩:=hs.alloc hc t ρs;refine .inr ⟨H.more w.heap.size undef,_,_,_,{ρ:=ρs,σ:=(m,.hZ t (ti.zero.map .v))::σ,n:=m+1},H.km _ _,.inl ?_,h2,h,λρ'=>h1.ρ ρ'⟩;simp[execOp,ho,Instr.alloc,zeroValue,tQ hi,hz,newVar,newRow]
  exact h.elim
 ·rename_i t x ho
  obtain⟨g,hx,h⟩:=qw h;have his:=iE hg ha.env hx;obtain⟨h1,h2⟩:=hs.alloc (rC his) t ρs;refine .inr ⟨H.more w.heap.size undef,_,_,_,{ρ:=ρs,σ:=(m,.hZ t (cellsOf g))::σ,n:=m+1},H.km _ _,.inl ?_,h2,h,λρ'=>h1.ρ ρ'⟩;simp[execOp,ho,Instr.box,newVar,newRow]
 ·rename_i t x y ho
  split at h
  ·rename_i ti id off g hti hx hy
   obtain⟨hv,hid⟩:=(iE hg ha.env hx).qf;have hyi:=iE hg ha.env hy;split at h
   ·rename_i ty cs hl
    cases hb1:pS (cellsOf g) with
    |false=>rw[hb1]at h;exact h.elim
    |true=>
     cases hb2:Nat.beq (cellsOf g).length ti.sz with
     |false=>rw[hb1,hb2]at h;exact h.elim
     |true=>
      cases hb3:Nat.ble (off+ti.sz) cs.length with
      |false=>rw[hb1,hb2,hb3]at h;exact h.elim
      |true=>
       rw[hb1,hb2,hb3]at h;simp only[dI,cond_true]at h;have e2:=beq_eq hb2;have e3:=bA hb3;have hc:=rC hyi;rw[<-e2]at h e3;obtain⟨w',hr,hs'⟩:=hs.store hl hc e3 hb1 ρs;refine .inr ⟨H,undef,_,_,{ρ:=ρs,n:=m,σ:=jh σ id (.hZ ty (cs.take off++cellsOf g++cs.drop (off+(cellsOf g).length)))},Hid.le.refl H,.inr ⟨?_,rfl⟩,.ro (.v undef),h,λρ'=>hs'.ρ ρ'⟩;have hsz:(a.eval y).cells.size=ti.sz:=by rw[<-hc.1,e2]
       simp only[execOp,ho,Instr.storeAt,Instr.sureAddr,hv,Sem.run_bind,Sem.run_pure,Result.andThen_ok,storeVar,(hp.tt _ _ hti).size];rw[if_neg (by simp[hsz]),hr];rfl
   exact h.elim
  ·rename_i ti id sz i off g hti hx hy
   obtain⟨b,n,c,hv,hsv,hid⟩:=(iE hg ha.env hx).AE;have hyi:=iE hg ha.env hy;split at h
   ·rename_i ty z rows hl
    cases hb0:Nat.beq z sz with
    |false=>rw[hb0]at h;exact h.elim
    |true=>
     cases hb1:pS (cellsOf g) with
     |false=>rw[hb0,hb1]at h;exact h.elim
     |true=>
      cases hb4:im 0 (cellsOf g) with
      |false=>rw[hb0,hb1,hb4]at h;exact h.elim
      |true=>
       cases hb2:Nat.beq (cellsOf g).length ti.sz with
       |false=>rw[hb0,hb1,hb4,hb2]at h;exact h.elim
       |true=>
        cases hb3:Nat.ble (off+ti.sz) sz with
        |false=>rw[hb0,hb1,hb4,hb2,hb3]at h;exact h.elim
        |true=>
         rw[hb0,hb1,hb4,hb2,hb3]at h;simp only[dI,cond_true]at h;obtain⟨row,hrow,h⟩:=h;have e0:=beq_eq hb0;subst e0;have e2:=beq_eq hb2;have e3:=bA hb3;have hc:=rC hyi;rw[<-e2]at h e3;obtain⟨w',hr,hs'⟩:=hs.Oa hl hsv hrow hc e3 hb1 hb4 ρs;refine .inr ⟨H,undef,_,_,{ρ:=ρs,n:=m,σ:=jh σ id (.row ty z (rows.set i (row.take off++cellsOf g++row.drop (off+(cellsOf g).length))))},Hid.le.refl H,.inr ⟨?_,rfl⟩,.ro (.v undef),h,λρ'=>hs'.ρ ρ'⟩;have hsz:(a.eval y).cells.size=ti.sz:=by rw[<-hc.1,e2]
         simp only[execOp,ho,Instr.storeAt,Instr.sureAddr,hv,Sem.run_bind,Sem.run_pure,Result.andThen_ok,storeVar,(hp.tt _ _ hti).size];rw[if_neg (by simp[hsz]),hr];rfl
   exact h.elim
  exact h.elim
 ·rename_i t len parts ho
  split at h
  ·rename_i sz by_ ag z e _q gs hti hx
   obtain⟨hl,hi⟩:=Cu hg ha.env hx;split at h
   ·rename_i ti hte
    cases hb1:DD ti.sz 0 gs with
    |false=>rw[hb1]at h;exact h.elim
    |true=>
     cases hb2:Nat.beq gs.length len with
     |false=>rw[hb1,hb2]at h;exact h.elim
     |true=>
      cases hb3:Nat.ble (len*ti.sz) 16777216 with
      |false=>rw[hb1,hb2,hb3]at h;exact h.elim
      |true=>
       cases hb4:Nat.blt 0 ti.sz with
       |false=>rw[hb1,hb2,hb3,hb4]at h;exact h.elim
       |true=>
        rw[hb1,hb2,hb3,hb4]at h;simp only[dI,cond_true]at h;have e2:=beq_eq hb2;have e3:=bA hb3;have e4:0<ti.sz:=by rw[dx]at hb4;exact hb4
        obtain⟨us,hr,hrow⟩:=AU (w:=w) (hp.tt _ _ hti).d (hp.tt _ _ hte) (vs:=parts.map λx=>(x.1,a.eval x.2)) (by simpa using hl) (by simpa using hi) hb1 e2 e3 e4;have hlen:(gs.map λx=>cellsOf x.2).length=len:=by simp[e2]
        have hsz:len<=maxLen:=by
         have:len<=len*ti.sz:=gF _ e4;simp only[maxLen];omega
        obtain⟨h1,h2⟩:=hs.newRow (ty:=e) hrow (by rw[hlen];exact hsz) ρs;rw[hlen]at h1 h2;refine .inr ⟨_,_,_,_,{ρ:=ρs,σ:=(m,.row e ti.sz (gs.map λx=>cellsOf x.2))::σ,n:=m+1},H.km _ _,.inl ?_,h2,h,λρ'=>h1.ρ ρ'⟩;simp only[execOp,ho,Sem.run_bind,hr,Result.andThen_ok];rfl
   exact h.elim
  exact h.elim
 ·rename_i args ts ho
  split at h
  ·rename_i sz by_ ag z e _q gd gx hti hx
   obtain⟨x,y,hxy,hi,hj⟩:=AL hg ha.env hx;obtain⟨t,ht,hok⟩:∃t,ts=#[t,t]/\pk cx.pg.P t ⟨sz,by_,ag,z,.slice e,_q⟩:=by
    obtain⟨l⟩:=ts
    match l,hti with
    | [t,t'],hti=>
     simp only at hti;cases hb:Nat.beq t t' with
     |false=>rw[hb]at hti;cases hti
     |true=>
      rw[hb]at hti;have:=beq_eq hb;subst this;exact⟨t,rfl,hp.tt _ _ hti⟩
   split at h
   ·rename_i ti hte
    cases hb1:Nat.blt 0 ti.sz with
    |false=>rw[hb1]at h;exact h.elim
    |true=>
     cases hb2:Nat.blt 0 ti.by_ with
     |false=>rw[hb1,hb2]at h;exact h.elim
     |true=>
      rw[hb1,hb2]at h;simp only[dI,cond_true]at h;split at h
      ·rename_i rows σ' news hdr hxr
       obtain⟨H',u,w',hle,hr,hiu,hsim⟩:=hs.append hok.d (hp.tt _ _ hte) (by rw[dx]at hb1;exact hb1) (by rw[dx]at hb2;exact hb2) hi hj hdr hxr h.1 ρs;refine .inr ⟨H',u,_,w',{ρ:=ρs,σ:=(m,.row e ti.sz (rows++news))::σ',n:=m+1},hle,.inl ?_,hiu,h.2,λρ'=>hsim.ρ ρ'⟩;obtain⟨q,hq⟩:=nh (p:=cx.pg) (a:=a) rfl o ho w;rw[hq];subst hxy;subst ht;have e1:(Builtin.append_ #[t,t] o.type #[a.eval x,a.eval y]).run cx.pg.P w=.ok u w':=hr;simp[builtin,e1]
      exact h.elim
   exact h.elim
  exact h.elim
 ·rename_i t parts ho
  split at h
  ·rename_i sz by_ ag z fs _q gs hti hx
   obtain⟨hl,hi⟩:=Cu hg ha.env hx;split at h
   ·rename_i cs hf
    obtain⟨us,hr,hc⟩:=HP (hp.tt _ _ hti) rfl (vs:=parts.map λx=>(x.1,a.eval x.2)) (by simpa using hl) (by simpa using hi) hf w;refine .inr ⟨H,_,_,w,⟨ρs,σ,m⟩,Hid.le.refl H,.inl ?_,.agg hc.1 hc.2,h,λρ'=>hs.ρ ρ'⟩;simp only[execOp,ho,Sem.run_bind,hr,Result.andThen_ok];rfl
   exact h.elim
  ·rename_i sz by_ ag z len e _q gs hti hx
   obtain⟨hl,hi⟩:=Cu hg ha.env hx;split at h
   ·rename_i te hte
    split at h
    ·rename_i cs hf
     obtain⟨us,hr,hc⟩:=Fv (hp.tt _ _ hti) rfl (hp.tt _ _ hte) (vs:=parts.map λx=>(x.1,a.eval x.2)) (by simpa using hl) (by simpa using hi) hf w;refine .inr ⟨H,_,_,w,⟨ρs,σ,m⟩,Hid.le.refl H,.inl ?_,.agg hc.1 hc.2,h,λρ'=>hs.ρ ρ'⟩;simp only[execOp,ho,Sem.run_bind,hr,Result.andThen_ok];rfl
    exact h.elim
   exact h.elim
  exact h.elim
 ·rename_i t ho
  split at h
  ·rename_i kt et _q hti
   split at h
   ·rename_i kti hkt
    split at h
    ·rename_i kd hkd
     obtain⟨h1,h2⟩:=hs.T8 kd ρs;refine .inr ⟨_,_,_,_,{ρ:=ρs,σ:=(m,.mp kd [])::σ,n:=m+1},H.km _ _,.inl ?_,h2,h,λρ'=>h1.ρ ρ'⟩;simp only[execOp,ho,Sem.run_bind];rfl
    exact h.elim
   exact h.elim
  exact h.elim
 ·rename_i t x k v ho
  split at h
  ·rename_i kt et _q hti
   split at h
   ·rename_i kti hkt
    split at h
    ·rename_i kd id kv g hkd hx hk hv
     cases hsb:iq kd kv with
     |false=>rw[hsb]at h;exact h.elim
     |true=>
     rw[hsb]at h;simp only[cond_true]at h;have hu:=(hp.tt _ _ hti).d;have hku:=tD (hp.tt _ _ hkt) hkd;obtain⟨hxv,hid⟩:=(iE hg ha.env hx).mh;have hkv:=(iE hg ha.env hk).iH;have hvi:=iE hg ha.env hv;split at h
     ·rename_i kd' es hl
      cases hkk:qT kd kd' with
      |false=>rw[hkk]at h;exact h.elim
      |true=>
       rw[hkk]at h;have:=sL hkk;subst this;obtain⟨w',hr,hs'⟩:=hs.TP hl hsb hvi hu hku ρs;refine .inr ⟨H,undef,_,w',{ρ:=ρs,n:=m,σ:=jh σ id (.mp kd (jB kv g es))},Hid.le.refl H,.inr ⟨?_,rfl⟩,.ro (.v undef),h,λρ'=>hs'.ρ ρ'⟩;simp only[execOp,ho,hxv,hkv,Sem.run_bind,hr];rfl
     ·rename_i q hl
      split at h
      ·rename_i kd' es left cur hl2
       cases hkk:qT kd kd' with
       |false=>rw[hkk]at h;exact h.elim
       |true=>
        rw[hkk]at h;have:=sL hkk;subst this;obtain⟨_,he,_⟩:=hs.sat.holds _ (ib hl);obtain⟨w',hr,hs'⟩:=hs.R5 hl2 hsb hvi h.1 hu hku ρs;refine .inr ⟨H,undef,_,w',{ρ:=ρs,n:=m,σ:=jh σ q (.mr kd (jB kv g es) left cur)},Hid.le.refl H,.inr ⟨?_,rfl⟩,.ro (.v undef),h.2,λρ'=>hs'.ρ ρ'⟩;rw[<-he]at hr;simp only[execOp,ho,hxv,hkv,Sem.run_bind,hr];rfl
      exact h.elim
     exact h.elim
    exact h.elim
   exact h.elim
  exact h.elim
 ·rename_i t x k ho
  split at h
  ·rename_i kt et _q hti
   split at h
   ·rename_i kti eti hkt het
    split at h
    ·rename_i kd z id kv hkd hz hx hk
     cases hsb:iq kd kv with
     |false=>rw[hsb]at h;exact h.elim
     |true=>
     rw[hsb]at h;simp only[cond_true]at h;have hu:=(hp.tt _ _ hti).d;have hku:=tD (hp.tt _ _ hkt) hkd;obtain⟨hxv,hid⟩:=(iE hg ha.env hx).mh;have hkv:=(iE hg ha.env hk).iH;obtain⟨zv,hzv,hzi⟩:=BJ (hp.tt _ _ het) hz;split at h
     ·rename_i kd' es hl
      cases hkk:qT kd kd' with
      |false=>rw[hkk]at h;exact h.elim
      |true=>
       rw[hkk]at h;have:=sL hkk;subst this;obtain⟨m1,m2⟩:=hs.mapEntry hl hsb hu hku hzv hzi ρs;simp only[cond_true]at h;cases hf:jl kv es with
       |some g=>
        obtain⟨v,st,w',hr,hi,hs'⟩:=m1 g hf;refine .inr ⟨_,_,_,w',{ρ:=ρs,σ:=jh σ id (.me kd (jB kv g es) kv m),n:=m+1},H.km _ _,.inl ?_,hi,h.1 g hf,λρ'=>hs'.ρ ρ'⟩;simp only[execOp,ho,hxv,hkv,Sem.run_bind,hr];rfl
       |none=>
        obtain⟨v,st,w',hr,hi,hs'⟩:=m2 hf;refine .inr ⟨_,_,_,w',{ρ:=ρs,σ:=jh σ id (.me kd (jB kv z es) kv m),n:=m+1},H.km _ _,.inl ?_,hi,h.2 hf,λρ'=>hs'.ρ ρ'⟩;simp only[execOp,ho,hxv,hkv,Sem.run_bind,hr];rfl
     ·rename_i it hl0
      split at h
      ·rename_i kd' es left cur hl
       cases hkk:qT kd kd' with
       |false=>rw[hkk]at h;exact h.elim
       |true=>
        rw[hkk]at h;have:=sL hkk;subst this;simp only[cond_true]at h;obtain⟨g,hg0,h⟩:=h;have hsame:=(hs.sat.holds _ (ib hl0)).2.1;obtain⟨v,st,w',hr,hi,hs'⟩:=hs.LJ hl hsb hu hku hzv hg0 ρs;refine .inr ⟨_,_,_,w',{ρ:=ρs,σ:=jh σ it (.mre kd (jB kv g es) left cur kv m),n:=m+1},H.km _ _,.inl ?_,hi,h,λρ'=>hs'.ρ ρ'⟩;rw[<-hsame]at hr;simp only[execOp,ho,hxv,hkv,Sem.run_bind,hr];rfl
      exact h.elim
     exact h.elim
    exact h.elim
   exact h.elim
  exact h.elim
 ·rename_i t x st v ho
  split at h
  ·rename_i id q g hx hst hv
   obtain⟨hxv,hid⟩:=(iE hg ha.env hx).mh;obtain⟨hsv,_⟩:=(iE hg ha.env hst).mh;have hvi:=iE hg ha.env hv;split at h
   ·rename_i kd es kv q' hl
    cases hqq:Nat.beq q q' with
    |false=>rw[hqq]at h;exact h.elim
    |true=>
     rw[hqq]at h;have:=beq_eq hqq;subst this;obtain⟨w',hr,hs'⟩:=hs.entryStore (P:=cx.pg.P) (t:=t) hl hvi ρs;refine .inr ⟨H,undef,_,w',{ρ:=ρs,n:=m,σ:=jh σ id (.mp kd (jB kv g es))},Hid.le.refl H,.inr ⟨?_,rfl⟩,.ro (.v undef),h,λρ'=>hs'.ρ ρ'⟩;simp only[execOp,ho,hxv,hsv,Sem.run_bind,hr];rfl
   ·rename_i it hl0
    split at h
    ·rename_i kd es left cur kv q' hl
     cases hqq:Nat.beq q q' with
     |false=>rw[hqq]at h;exact h.elim
     |true=>
      rw[hqq]at h;have:=beq_eq hqq;subst this;have hsame:=(hs.sat.holds _ (ib hl0)).2.1;obtain⟨w',hr,hs'⟩:=hs.Ib (P:=cx.pg.P) (t:=t) hl hvi ρs;refine .inr ⟨H,undef,_,w',{ρ:=ρs,n:=m,σ:=jh σ it (.mr kd (jB kv g es) left cur)},Hid.le.refl H,.inr ⟨?_,rfl⟩,.ro (.v undef),h,λρ'=>hs'.ρ ρ'⟩;rw[<-hsame]at hr;simp only[execOp,ho,hxv,hsv,Sem.run_bind,hr];rfl
    exact h.elim
   exact h.elim
  exact h.elim
 ·rename_i args ts ho
  split at h
  ·rename_i kt et _q id kv hti hx
   obtain⟨x,y,hxy,hi,hj⟩:=AL hg ha.env hx;obtain⟨t,ht,hok⟩:∃t,ts[0]? =some t/\pk cx.pg.P t _:=by
    obtain⟨l⟩:=ts
    match l,hti with
    |t::_,hti=>exact⟨t,rfl,hp.tt _ _ hti⟩
   split at h
   ·rename_i kti hkt
    split at h
    ·rename_i kd hkd
     cases hsb:iq kd kv with
     |false=>rw[hsb]at h;exact h.elim
     |true=>
     rw[hsb]at h;simp only[cond_true]at h;have hu:=hok.d;have hku:=tD (hp.tt _ _ hkt) hkd;obtain⟨hxv,hid⟩:=hi.mh;have hkv:=hj.iH;have fin:∀{w':World},(Builtin.delete_ ts o.type #[H.sv id,kv]).run cx.pg.P w=.ok (.tuple #[]) w'->(execOp a.eval o).run cx.pg.P w=.ok (.value (.tuple #[])) w':=λhr=>by
      obtain⟨q,hq⟩:=nh (p:=cx.pg) (a:=a) rfl o ho w;rw[hq];subst hxy;simp only[builtin,gz,bb,cN,hxv,hkv,Sem.run_bind,hr];rfl
     split at h
     ·rename_i kd' es hl
      cases hkk:qT kd kd' with
      |false=>rw[hkk]at h;exact h.elim
      |true=>
       rw[hkk]at h;have:=sL hkk;subst this;obtain⟨w',hr,hs'⟩:=hs.Tg (ty:=o.type) hl hsb ht hu hku ρs;exact .inr ⟨H,_,_,w',{ρ:=ρs,n:=m,σ:=jh σ id (.mp kd (nM kv es))},Hid.le.refl H,.inl (fin hr),.ro (.v _),h,λρ'=>hs'.ρ ρ'⟩
     ·rename_i q hl
      split at h
      ·rename_i kd' es left cur hl2
       cases hkk:qT kd kd' with
       |false=>rw[hkk]at h;exact h.elim
       |true=>
        rw[hkk]at h;have:=sL hkk;subst this;obtain⟨_,he,_⟩:=hs.sat.holds _ (ib hl);obtain⟨w',hr,hs'⟩:=hs.RE (ty:=o.type) hl2 hsb ht hu hku ρs;exact .inr ⟨H,_,_,w',{ρ:=ρs,n:=m,σ:=jh σ q (.mr kd (nM kv es) (sS kv left) cur)},Hid.le.refl H,.inl (fin (by rw[he];exact hr)),.ro (.v _),h,λρ'=>hs'.ρ ρ'⟩
      exact h.elim
     exact h.elim
    exact h.elim
   exact h.elim
  exact h.elim
 ·rename_i t x ho
  split at h
  ·rename_i kt et _q hti
   have hu:=(hp.tt _ _ hti).d;split at h
   ·rename_i id hx
    obtain⟨hxv,hid⟩:=(iE hg ha.env hx).mh;split at h
    ·rename_i kd es hl
     obtain⟨H',w',hle,hr,hi,hs'⟩:=hs.mapRange hl hu ρs;refine .inr ⟨H',_,_,w',{ρ:=ρs,σ:=(m,.mr kd es (es.map (·.1)) none)::jh σ id (.itr m),n:=m+1},hle,.inl ?_,hi,h,λρ'=>hs'.ρ ρ'⟩;simp only[execOp,ho,hxv,Sem.run_bind,hr];rfl
    exact h.elim
   ·rename_i hx
    have hxv:=(iE hg ha.env hx).iH;obtain⟨h1,h2⟩:=hs.NZ (.mapIter none 0 #[] 0) ρs;refine .inr ⟨_,_,_,_,{ρ:=ρs,σ:=(m,.ob (.mapIter none 0 #[] 0))::σ,n:=m+1},H.km _ _,.inl ?_,h2,h,λρ'=>h1.ρ ρ'⟩;simp only[execOp,ho,hxv,Sem.run_bind,Fz hu];rfl
   exact h.elim
  exact h.elim
 ·rename_i x ho
  split at h
  ·rename_i it hx
   obtain⟨hxv,hid⟩:=(iE hg ha.env hx).qf;have hfalse:Is H (.tup [.v (.bool false)]) (.tuple #[.bool false]):=.tup rfl (λj g hj=>by
    match j with
    |0=>simp at hj;subst hj;exact .ro (.v _)
    |j+1=>simp at hj)
   split at h
   ·rename_i since seen last hl
    have hw:=hs.sat.holds _ (ib hl);refine .inr ⟨H,_,_,w,⟨ρs,σ,m⟩,Hid.le.refl H,.inl ?_,hfalse,h,λρ'=>hs.ρ ρ'⟩;simp only[execOp,ho,hxv,Sem.run_bind,GG hw];rfl
   ·rename_i kd es left cur hl
    rcases hs.mapNext hl cx.pg.P o.type ρs with ⟨h0,hr⟩|⟨l1,k,l2,g,v,w',h0,hf,hi,hr,hs'⟩
    ·refine .inr ⟨H,_,_,w,⟨ρs,σ,m⟩,Hid.le.refl H,.inl ?_,hfalse,h.1 h0,λρ'=>hs.ρ ρ'⟩;simp only[execOp,ho,hxv,Sem.run_bind,hr];rfl
    refine .inr ⟨H,.tuple #[.bool true,k,v],_,w',{ρ:=ρs,n:=m,σ:=jh σ it (.mr kd es (l1++l2) (some k))},Hid.le.refl H,.inl ?_,.tup rfl (λj g' hj=>?_),h.2 l1 k l2 g h0 hf,λρ'=>hs'.ρ ρ'⟩
    ·simp only[execOp,ho,hxv,Sem.run_bind,hr];rfl
    match j with
    |0=>simp at hj;subst hj;exact .ro (.v _)
    |1=>simp at hj;subst hj;exact .ro (.v _)
    |2=>simp at hj;subst hj;exact hi
    |j+3=>simp at hj
   exact h.elim
  exact h.elim
 exact .inl h
def go_sound (hp:cx.pg.Ok) {q:Bool} {all:List Oper} {o:Oper} {rest:List Oper} {k:List It} {s:St} {next:St->Prop} {leaf:Env->Prop} (hnext:∀s',next s'->JK cx T (.ops q all rest::k) s') (hleaf:∀ρ,leaf ρ->JK cx T (.ops q all (o::rest)::k) {s with ρ:=ρ})
  {H:Hid} {a:Act} {w:World} (hg:iX cx.pg H) (hs:iQ cx H s w) {ρ:Env} (ha:kr cx H ρ a) (hw:Region.wanted o (yielded all.toArray a.tmps)=true) (h:ub cx q s o next leaf ρ):
  cont cx.pg.P (post cx T) (.ops q all (o::rest)::k) .normal a w:=by
 obtain⟨ρs,σ,m⟩:=s;unfold ub at h;cases hos:Ke cx.pg ρ o.op with
 |true=>
  rw[hos]at h;exact hleaf ρ h H a w hg (hs.ρ ρ) ha
 |false=>
 rw[hos]at h;simp only[cond_false]at h;cases hpu:oG o.op with
 |true=>
  rw[hpu]at h;obtain⟨u,g,hr,hi,hk⟩:=xI hp hg ha.env hs.sat h;obtain⟨ρ',ha',hn⟩:=ha.iO hi hk;have:=hnext _ hn H (a.put o.dst u) w hg (hs.ρ ρ') ha';cases q with
  |false=>exact lC hw (hr w (rU.refl hs.sat) o rfl) this
  |true=>exact Im hw (λw' hb=>hr w' (rU.below hs.sat hb) o rfl) this
 |false=>
  rw[hpu]at h;cases q with
  |true=>exact hleaf ρ h H a w hg (hs.ρ ρ) ha
  |false=>
   rcases HA hp hg hs ha hpu (by unfold ub;rw[hos,hpu];exact h) with hl|⟨H',u,g,w',s0,hle,hr,hi,hd,hsim⟩
   ·exact hleaf ρ hl H a w hg (hs.ρ ρ) ha
   exact JK.Og (s':=s0) (hg.mono hle) (ha.mono hle) hw hr hi hd (λρ' hk=>⟨hsim ρ',hnext _ hk⟩)
def ia(hp:cx.pg.Ok):∀(n:Nat) (k:List It) (s:St),vc cx T n k s->JK cx T k s
 |0,k,s,h=>by simpa[vc]using h
 |n+1,[],s,h=>λH a w _ hs ha=>⟨H,s,hs,ha,by simpa[vc]using h⟩
 |n+1,.hZ _::k,s,h=>λH a w hg hs ha=>by
  simp only[vc]at h;exact ia hp n k s h H a w hg hs ha
 |n+1,.ops q all [] ::k,s,h=>λH a w hg hs ha=>by
  simp only[vc]at h;cases q with
  |false=>exact ia hp n k s h H a w hg hs ha
  |true=>exact λw' hb=>ia hp n k s h H a w' hg (hs.below hb) ha
 |n+1,.code c::k,s,h=>by
  cases c<;>simp only[vc]at h<;> (try exact h)
  case skip=>exact λH a w hg hs ha=>wp_skip (ia hp n k s h H a w hg hs ha)
  case seq x y=>
   exact λH a w hg hs ha=>wp_seq (Code.wp_mono (λe a w hq=>by rw[L4]at hq;exact hq) (ia hp n _ s h H a w hg hs ha))
  case region i ops dr=>
   cases dr with
   |false=>
    simp only at h;exact λH a w hg hs ha=>wp_region_list (by simpa[cont]using ia hp n _ s h H a w hg hs ha)
   |true=>
    simp only at h;cases hpu:DS ops.toList with
    |false=>rw[hpu]at h;exact h
    |true=>
     rw[hpu]at h;obtain⟨hB,hv⟩:=h;intro H a w hg hs ha;have:=ia hp n _ s hv H a w.drew hg (hs.below (yw w)) ha;refine wp_region_quiet (C:=λw'=>Below w.drew.heap.size w.drew w') hp.mixed hB (Below.refl _ _) ?_;simpa[cont]using this
  case cond c x y=>
   split at h
   ·rename_i t hc
    intro H a w hg hs ha;have hcv:=(iE hg ha.env hc).iH;cases t with
    |true=>exact wp_cond_true hcv (ia hp n _ s h H a w hg hs ha)
    |false=>exact wp_cond_false hcv (ia hp n _ s h H a w hg hs ha)
   ·rename_i t hc
    intro H a w hg hs ha;have hcv:=(iE hg ha.env hc).nF;cases t with
    |true=>exact wp_cond_true hcv (ia hp n _ s (h.1 rfl) H a w hg hs ha)
    |false=>exact wp_cond_false hcv (ia hp n _ s (h.2 rfl) H a w hg hs ha)
   exact h.elim
  case block id c=>
   exact λH a w hg hs ha=>wp_block (Code.wp_mono (λe a w hq=>by rw[O6]at hq;exact hq) (ia hp n _ s h H a w hg hs ha))
  case exit id=>
   intro H a w hg hs ha;refine wp_exit ?_;show cont cx.pg.P (post cx T) k (.exit id) a w;rw[rY];cases hx:exitTo id k with
   |none=>rw[hx]at h;exact⟨H,s,hs,ha,h⟩
   |some k'=>rw[hx]at h;exact ia hp n k' s h H a w hg hs ha
  case ret=>
   intro H a w hg hs ha;refine wp_ret ?_;show cont cx.pg.P (post cx T) k .ret a w;rw[sP];exact⟨H,s,hs,ha,h⟩
 |n+1,.ops q all (o::rest)::k,s,h=>by
  intro H a w hg hs ha;obtain⟨ρs,σ,m⟩:=s;simp only[vc]at h;have hnext:∀s',vc cx T n (.ops q all rest::k) s'->JK cx T (.ops q all rest::k) s':=λs' h'=>ia hp n _ s' h';have hskip:∀ρ,kr cx H ρ a->Region.wanted o (yielded all.toArray a.tmps)=false->(iO cx.N ρ o.dst (.v undef) λρ'=>vc cx T n (.ops q all rest::k) ⟨ρ',σ,m⟩)->cont cx.pg.P (post cx T) (.ops q all (o::rest)::k) .normal a w:=by
   intro ρ ha' hw hd;obtain⟨ρ',ha'',hk⟩:=ha'.iO (u:=undef) (.ro (.v undef)) hd;have:=hnext _ hk H _ w hg (hs.ρ ρ') ha'';cases q with
   |false=>exact Ia hw this
   |true=>exact HU hw this
  have hgo:∀ρ,kr cx H ρ a->Region.wanted o (yielded all.toArray a.tmps)=true->ub cx q ⟨ρs,σ,m⟩ o (λs'=>vc cx T n (.ops q all rest::k) s') (λρ=>JK cx T (.ops q all (o::rest)::k) ⟨ρ,σ,m⟩) ρ->cont cx.pg.P (post cx T) (.ops q all (o::rest)::k) .normal a w:=
   λρ ha' hw hd=>go_sound hp hnext (λ_ hl=>hl) hg hs ha' hw hd
  unfold wZ at h;split at h
  ·rename_i hgd
   exact hgo ρs ha (wF hgd) h
  rename_i j want hgd
  split at h
  ·rename_i oj hj
   split at h
   ·rename_i d hd
    split at h
    ·rename_i t hl
     have hv:=(ha.env d _ hl).iH;have hw:=pD hgd hj hd hv;cases hb:(t==want) with
     |true=>rw[hb]at h hw;exact hgo ρs ha hw h
     |false=>rw[hb]at h hw;exact hskip ρs ha hw h
    ·rename_i t hl
     have hv:=(ha.env d _ hl).nF;have hw:=pD hgd hj hd hv;have hput:∀c,t=c->kr cx H ((d,.v (.bool c))::ρs) a:=by
      intro c hc;refine⟨λx g hx=>?_,ha.size,ha.defers⟩;unfold look at hx;cases hb:Nat.beq d x with
      |true=>
       rw[hb]at hx;simp at hx;subst hx;rw[<-beq_eq hb,hv,hc];exact .ro (.v _)
      |false=>rw[hb]at hx;exact ha.env x g (by simpa using hx)
     by_cases e:t=want
     ·rw[e]at hw;exact hgo _ (hput want e) (by simpa using hw) (h.1 e)
     have e':t= !want:=by cases t<;>cases want<;>simp_all
     rw[e']at hw;exact hskip _ (hput _ e') (by simpa using hw) (h.2 e')
    ·rename_i vs hl
     exact hskip ρs ha (yn hgd hj hd (ha.env d _ hl).iH) h
    exact h.elim
   exact h.elim
  exact h.elim
end
end Go.GK
namespace Go.GK
open Go Go.RowKit IntKind
def O_{a b c d e:Bool}(h:(a&&b&&c&&d&&e)=true):a=true/\b=true/\c=true/\d=true/\e=true:=by
 cases a<;>cases b<;>cases c<;>cases d<;>cases e<;>simp_all
def qq{a b:Nat}(h:Nat.blt a b=true):a<b:=by rw[dx]at h;exact h
def Hid.via(H:Hid)(f:Nat->Nat)(n:Nat):Hid:={ro:=H.ro,bl:=λi=>H.bl (f i),sv:=λi=>H.sv (f i),n:=n}
def Cd(f:Nat->Nat):∀(l:List GV) (j:Nat),(j4 f l)[j]? =(l[j]?).map (jW f)
 | [],j=>by simp[j4]
 |g::r,0=>by simp[j4]
 |g::r,j+1=>by simp[j4,Cd f r j]
def lE(f:Nat->Nat):∀(l:List GV),(j4 f l).length=l.length
 | []=>rfl
 |_::r=>by simp[j4,lE f r]
mutual
def ql{H:Hid}{f:Nat->Nat}{n:Nat}:∀{g:GV} {u:Value},Is H (jW f g) u->iy n g=true->Is (H.via f n) g u
 | .v x,u,h,_=>by have:=h.iH;subst this;exact .ro (.v _)
 | .b c,u,h,_=>by have:=h.nF;subst this;exact .ro (.b _)
 | .p id off,u,h,hb=>by
  obtain⟨rfl,_⟩:=h.qf;simp only[iy]at hb;exact Is.p (H:=H.via f n) (qq hb)
 | .e id sz i off,u,h,hb=>by
  obtain⟨g,n',c,rfl,hs,_⟩:=h.AE;simp only[iy]at hb;exact Is.e (H:=H.via f n) (qq hb) hs
 | .o id,u,h,hb=>by
  simp only[jW]at h;cases h with
  |ro h=>cases h
  |o hid hs h1=>simp only[iy]at hb;exact Is.o (H:=H.via f n) (qq hb) hs h1
 | .r cs,u,h,_=>by simp only[jW]at h;cases h with|ro h=>exact .ro h
 | .sl sz rows,u,h,_=>by simp only[jW]at h;cases h with|ro h=>exact .ro h
 | .agg cs,u,h,hb=>by
  simp only[jW]at h;simp only[iy]at hb;obtain⟨us,rfl,hl,hi⟩:=h.rN;exact .agg (by rw[<-hl,lE]) (qk cs (λj g hj=>hi j g hj) hb)
 | .tup cs,u,h,hb=>by
  simp only[jW]at h;simp only[iy]at hb;obtain⟨us,rfl,hl,hi⟩:=h.uW;exact .tup (by rw[<-hl,lE]) (qk cs (λj g hj=>hi j g hj) hb)
 | .fn fv aas cs,u,h,hb=>by
  simp only[jW]at h;simp only[iy,aG]at hb;obtain⟨us,vs,rfl,hl,hi,hl',hi'⟩:=h.w_;exact .fn (by rw[<-hl,lE]) (qk aas (λj g hj=>hi j g hj) hb.1) (by rw[<-hl',lE]) (qk cs (λj g hj=>hi' j g hj) hb.2)
 | .ifc t x,u,h,hb=>by
  simp only[jW]at h;simp only[iy]at hb;obtain⟨v,rfl,hi⟩:=h.rQ;exact .ifc (ql hi hb)
def qk{H:Hid}{f:Nat->Nat}{n:Nat}{F:Nat->Value}:∀(l:List GV),(∀(j:Nat) (g:GV),(j4 f l)[j]? =some g->Is H g (F j))->im n l=true->∀(j:Nat) (g:GV),l[j]? =some g->Is (H.via f n) g (F j)
 | [],_,_,j,g,hj=>by simp at hj
 |x::r,h,hb,0,g,hj=>by
  simp[im]at hb;simp at hj;subst hj;exact ql (h 0 _ (by simp[j4])) hb.1
 |x::r,h,hb,j+1,g,hj=>by
  simp[im]at hb;exact qk (F:=λj=>F (j+1)) r (λj g hj=>h (j+1) g (by simpa[j4]using hj)) hb.2 j g (by simpa using hj)
end
def Is.jW{H H':Hid}{f:Nat->Nat}(hro:∀b o,H.ro b=some o->H'.ro b=some o)(hf:∀i,i<H.n->f i<H'.n/\H'.bl (f i)=H.bl i/\H'.sv (f i)=H.sv i){g:GV}{u:Value}(h:Is H g u):Is H' (GK.jW f g) u:=by
 have hL:∀{cs:List GV} {us:Array Value},(∀(j:Nat) (g:GV),cs[j]? =some g->Is H' (GK.jW f g) (us.getD j undef))->∀(j:Nat) (g:GV),(j4 f cs)[j]? =some g->Is H' g (us.getD j undef):=by
  intro cs us hh j g hj;rw[Cd]at hj;cases hc:cs[j]? with
  |none=>rw[hc]at hj;cases hj
  |some x=>rw[hc]at hj;simp at hj;subst hj;exact hh j x hc
 induction h with
 |ro hr=>
  have hR:∀{g:GV} {u:Value},jM H.ro g u->Is H' (GK.jW f g) u:=by
   intro g u hr;induction hr with
   |v x=>exact .ro (.v x)
   |b c=>exact .ro (.b c)
   |r us h1 h2 _=>exact .ro ((jM.r us h1 h2).mono hro)
   |slnil=>exact .ro .slnil
   |sl us h0 hc hm h1 h2 h3 _=>exact .ro ((jM.sl us h0 hc hm h1 h2 h3).mono hro)
   |agg hl _ ih=>exact .agg (by rw[lE];exact hl) (hL ih)
   |tup hl _ ih=>exact .tup (by rw[lE];exact hl) (hL ih)
   |fn hl _ hl' _ ih ih'=>exact .fn (by rw[lE];exact hl) (hL ih) (by rw[lE];exact hl') (hL ih')
   |ifc _ ih=>exact .ifc ih
  exact hR hr
 |p hid=>
  obtain⟨h1,h2,_⟩:=hf _ hid;rw[<-h2];exact .p h1
 |e hid hs=>
  obtain⟨h1,_,h3⟩:=hf _ hid;exact .e h1 (h3.trans hs)
 |o hid hs how=>
  obtain⟨h1,_,h3⟩:=hf _ hid;exact .o h1 (h3.trans hs) how
 |agg hl _ ih=>exact .agg (by rw[lE];exact hl) (hL ih)
 |tup hl _ ih=>exact .tup (by rw[lE];exact hl) (hL ih)
 |fn hl _ hl' _ ih ih'=>exact .fn (by rw[lE];exact hl) (hL ih) (by rw[lE];exact hl') (hL ih')
 |ifc _ ih=>exact .ifc ih
def xM{x:Nat}:∀{l:List Nat},je x l=true↔x∈l
 | []=>by simp[je]
 |y::r=>by
  simp only[je,Bool.or_eq_true,aF,xM (l:=r)];constructor
  ·rintro (h|h)
   ·exact .inl (beq_eq h)
   exact .inr h
  rintro (h|h)
  ·subst h;exact .inl aA
  exact .inr h
def A5:∀{l:List Nat},iu l=true->l.Nodup
 | [],_=>fQ
 |x::r,h=>by
  simp only[iu,aG,bG]at h;refine bJ.2 ⟨λhm=>?_,A5 h.2⟩;rw[xM.2 hm]at h;cases h.1
def xV{f:Nat->Nat}:∀{n:Nat},jf f n=true->∀i,i<n->f i=i
 |0,_,i,hi=>az
 |n+1,h,i,hi=>by
  simp only[jf,aG]at h;rcases bX.1 hi with h1|h1
  ·exact xV h.2 i h1
  subst h1;exact beq_eq h.1
def ur{H:Hid}{σ:Heap}(hn:(g_ H σ).Nodup){x y:Nat×hY}(hx:x∈σ)(hy:y∈σ)(hne:x.1≠y.1):∀b∈blocks H x,b∉blocks H y:=by
 induction σ with
 |nil=>cases hx
 |cons z r ih=>
  rw[iD]at hn;have h1:=a8.1 hn;intro b hbx hby
  rcases aF.1 hx with rfl|hx'
  ·rcases aF.1 hy with rfl|hy'
   ·exact hne rfl
   exact h1.2.2 b hbx b (aX.2 ⟨y,hy',hby⟩) rfl
  rcases aF.1 hy with rfl|hy'
  ·exact h1.2.2 b hby b (aX.2 ⟨x,hx',hbx⟩) rfl
  exact ih h1.2.1 hx' hy' b hbx hby
def HK{H:Hid}{σ:Heap}(hn:(g_ H σ).Nodup){x:Nat×hY}(hx:x∈σ):(blocks H x).Nodup:=by
 induction σ with
 |nil=>cases hx
 |cons z r ih=>
  rw[iD]at hn;have h1:=a8.1 hn;rcases aF.1 hx with rfl|hx
  ·exact h1.1
  exact ih h1.2.1 hx
def Ej{H:Hid}{f:Nat->Nat}{n:Nat}:∀{es:List (Value×GV)} {l:List MapEntry},mT H (jS f es) l->mM n es=true->mT (H.via f n) es l
 | [],[],_,_=>trivial
 | (k,g)::r,e::s,h,hb=>by
  simp only[mM,aG]at hb;exact⟨h.1,ql h.2.1 hb.1,Ej (es:=r) h.2.2 hb.2⟩
 | [],_::_,h,_=>h.elim
 |_::_,[],h,_=>h.elim
def kB.back{H:Hid}{f:Nat->Nat}{n:Nat}{kd:Option IntKind}{es:List (Value×GV)}{arr:Array MapEntry}{clock:Nat}(h:kB H kd (jS f es) arr clock)(hb:mM n es=true):kB (H.via f n) kd es arr clock:=
 ⟨Ej h.is hb,h.sorts,h.st⟩
def Sat.part{H:Hid}{σ:Heap}{w:World}(h:Sat H σ w){f:Nat->Nat}{n:Nat}:∀{τ:Heap},o7 f τ σ->iL n τ=true->iu (iv f τ)=true->
  Sat (H.via f n) τ w/\(∀b∈g_ (H.via f n) τ,∃x∈σ,x.1∈iv f τ/\b∈blocks H x)
 | [],_,_,_=>⟨⟨h.ro,aA,by simp[g_],by simp[g_],aA⟩,by simp[g_]⟩
 | (id,x)::r,hl,hb,hd=>by
  simp only[o7]at hl;simp only[iL,aG]at hb;have hnd:=A5 hd;simp only[iv]at hnd hd;simp only[iu,aG]at hd;obtain⟨ih,ihb⟩:=Sat.part h hl.2 hb.2 hd.2;have hmem:=ib hl.1;have hh:=h.holds _ hmem;have hbl:blocks (H.via f n) (id,x)=blocks H (f id,B4 f x):=by cases x<;>rfl
  have hid:=qq hb.1.1;have hx:GK.holds (H.via f n) w (id,x):=by
   cases x with
   |hZ ty cs=>
    obtain⟨us,hw,hlen,hi⟩:=hh;exact⟨us,hw,by rw[<-hlen,lE],(qk cs hi (by simpa[jm]using hb.1.2))⟩
   |row ty sz rows=>exact hh
   |ob o=>exact hh
   |ln sz n=>exact hh
   |sub i sz lo n=>
    obtain⟨hi,r⟩:=hh;exact⟨qq hb.1.2,r⟩
   |mp kd es=>
    obtain⟨b,arr,clock,h1,h2,h3⟩:=hh;exact⟨b,arr,clock,h1,h2,h3.back hb.1.2⟩
   |mr kd es left cur=>
    obtain⟨b,arr,clock,seen,h1,h2,h3,h4,h5⟩:=hh;exact⟨b,arr,clock,seen,h1,h2,h3,h4.back hb.1.2,h5⟩
   |me kd es k st=>
    obtain⟨_,b,arr,clock,h1,h2,h3,h4⟩:=hh;have hb2:=hb.1.2;simp only[jm,aG]at hb2;exact⟨qq hb2.1,b,arr,clock,h1,h2,h3.back hb2.2,h4⟩
   |ab A=>exact hh
   |mre kd es left cur k st=>
    obtain⟨_,b,arr,clock,seen,h1,h2,h3,h4,h5⟩:=hh;have hb2:=hb.1.2;simp only[jm,aG]at hb2;exact⟨qq hb2.1,b,arr,clock,seen,h1,h2,h3,h4.back hb2.2,h5⟩
   |itr m=>
    obtain⟨_,h2,h3⟩:=hh;exact⟨qq hb.1.2,h2,h3⟩
  have hnotin:f id∉iv f r:=(bJ.1 hnd).1;refine⟨⟨h.ro,λy hy=>?_,?_,λb hbm=>?_,λy hy=>?_⟩,λb hbm=>?_⟩
  ·rcases aF.1 hy with rfl|hy
   ·exact hx
   exact ih.holds y hy
  ·rw[iD];refine a8.2 ⟨by rw[hbl];exact HK h.nodup hmem,ih.nodup,λb hb1 c hc e=>?_⟩;subst e;rw[hbl]at hb1;obtain⟨y,hy,hyi,hby⟩:=ihb b hc;exact ur h.nodup hmem hy (λe=>hnotin (by rw[show f id=y.1 from e];exact hyi)) b hb1 hby
  ·rw[iD]at hbm;rcases aE.1 hbm with h1|h1
   ·rw[hbl]at h1;exact h.free b (aX.2 ⟨_,hmem,h1⟩)
   exact ih.free b h1
  ·rcases aF.1 hy with rfl|hy
   ·exact hid
   exact ih.ids y hy
  rw[iD]at hbm;rcases aE.1 hbm with h1|h1
  ·rw[hbl]at h1;exact⟨_,hmem,by simp[iv],h1⟩
  obtain⟨y,hy,hyi,hby⟩:=ihb b h1;exact⟨y,hy,by simp[iv,hyi],hby⟩
def J2{H:Hid}{f:Nat->Nat}{n:Nat}{ρ:Env}{a:Act}(h:jH H ρ a):∀{ρI:Env},Qy f ρI ρ->jt n ρI=true->jH (H.via f n) ρI a
 | [],_,_=>λt g hl=>by simp[look]at hl
 | (s,g)::r,hl,hb=>by
  simp only[Qy]at hl;simp only[jt,aG]at hb;have ih:=J2 h hl.2 hb.2;intro t g' hg';unfold look at hg';cases hbb:Nat.beq s t with
  |true=>
   rw[hbb]at hg';have:=beq_eq hbb;subst this;simp at hg';subst hg';exact ql (h s _ hl.1) hb.1
  |false=>rw[hbb]at hg';exact ih t g' (by simpa using hg')
section
variable {cx:Cx}{T:jz}
def weaken{H:Hid}{a:Act}{w:World}{f:Nat->Nat}{I s:St}(hg:iX cx.pg H)(hs:iQ cx H s w)(ha:kr cx H s.ρ a)(hl:Le cx.n0 f I s):∃H',iX cx.pg H'/\iQ cx H' I w/\kr cx H' I.ρ a:=by
 obtain⟨h1,h2,h3,h4,h5⟩:=O_ hl.chk;obtain⟨hsat,hbl⟩:=hs.sat.part hl.σ h2 h3;have hfix:=xV h4;have hn:=bA h5;refine⟨H.via f I.n,⟨hg.gl,hg.ex⟩,⟨rfl,hsat,?_⟩,⟨J2 ha.env hl.ρ h1,ha.size,ha.defers⟩⟩;have hfr:=hs.fr;refine⟨hfr.os,hfr.tape,hfr.output,hfr.size,hfr.keep,λb hb=>?_,hfr.fro,⟨by rw[cx.h0];exact hn,hfr.le.ro,λi hi=>?_,λi hi=>?_⟩⟩
 ·obtain⟨x,hx,_,hbx⟩:=hbl b hb;exact hfr.own b (aX.2 ⟨x,hx,hbx⟩)
 ·show H.bl (f i)=_;rw[hfix i (by rw[<-cx.h0];exact hi)];exact hfr.le.bl i hi
 show H.sv (f i)=_;rw[hfix i (by rw[<-cx.h0];exact hi)];exact hfr.le.sv i hi
def JK.weaken{k:List It}{s:St}(f:Nat->Nat)(I:St)(hl:Le cx.n0 f I s)(h:JK cx T k I):JK cx T k s:=λH a w hg hs ha=>by
 obtain⟨H',hg',hs',ha'⟩:=GK.weaken hg hs ha hl;exact h H' a w hg' hs' ha'
def D1(cx:Cx)(T:jz)(k:List It)(e:Exit)(s:St):Prop:=
 match e with
 | .normal=>False
 | .exit id=>(match exitTo id k with|some k'=>JK cx T k' s|none=>T (.exit id) s)
 |e=>T e s
def l6{k:List It}{e:Exit}{H:Hid}{s:St}{a:Act}{w:World}(hg:iX cx.pg H)(hs:iQ cx H s w)(ha:kr cx H s.ρ a)(h:D1 cx T k e s):cont cx.pg.P (post cx T) k e a w:=by
 cases e with
 |normal=>exact h.elim
 |exit id=>
  rw[rY];simp only[D1]at h;cases hx:exitTo id k with
  |none=>rw[hx]at h;exact⟨H,s,hs,ha,h⟩
  |some k'=>rw[hx]at h;exact h H a w hg hs ha
 |ret=>rw[sP];exact⟨H,s,hs,ha,h⟩
 |panic ch=>rw[oJ];exact⟨H,s,hs,ha,h⟩
 |goto l=>
  have:∀(k:List It),cont cx.pg.P (post cx T) k (.goto l) a w=post cx T (.goto l) a w:=by
   intro k;induction k with
   |nil=>rfl
   |cons x r ih=>cases x with
    |code c=>exact ih
    |hZ i=>exact ih
    |ops q all rest=>cases q<;>exact ih
  rw[this];exact⟨H,s,hs,ha,h⟩
 |outgrown=>
  have:∀(k:List It),cont cx.pg.P (post cx T) k .outgrown a w=post cx T .outgrown a w:=by
   intro k;induction k with
   |nil=>rfl
   |cons x r ih=>cases x with
    |code c=>exact ih
    |hZ i=>exact ih
    |ops q all rest=>cases q<;>exact ih
  rw[this];exact⟨H,s,hs,ha,h⟩
def TA{α:Type}(cx:Cx)(T:jz)(k:List It)(I:α->St)(pre:α->Prop)(m:α->Nat)(x:α):jz:=λe s=>
 match e with
 | .normal=>∃(y:α) (f:Nat->Nat),Le cx.n0 f (I y) s/\pre y/\m y<m x
 |e=>D1 cx T k e s
def JK.loop {α:Type} {c:Code} {k:List It} {s:St} (I:α->St) (pre:α->Prop) (m:α->Nat) (x0:α) (f0:Nat->Nat) (h0:Le cx.n0 f0 (I x0) s) (hp:pre x0)
  (body:∀x,pre x->JK cx (TA cx T k I pre m x) [.code c] (I x)):JK cx T (.code (.loop c)::k) s:=by
 intro H a w hg hs ha;obtain⟨H1,hg1,hs1,ha1⟩:=GK.weaken hg hs ha h0;refine wp_loop_ghost (λn a w=>∃H x,iX cx.pg H/\iQ cx H (I x) w/\kr cx H (I x).ρ a/\pre x/\m x=n) (m x0) ⟨H1,x0,hg1,hs1,ha1,hp,rfl⟩ ?_;rintro n a w ⟨H,x,hg,hs,ha,hpx,rfl⟩;have hb:=body x hpx H a w hg hs ha;have hgx:∀{H':Hid},Hid.le cx.H0 H'->iX cx.pg H':=λhle=>cx.g0.mono hle;refine Code.wp_mono (λe a' w' hq=>?_) hb;obtain⟨H',s',hs',ha',hT⟩:=hq;cases e with
 |normal=>
  obtain⟨y,f,hl,hpy,hm⟩:=hT;obtain⟨H2,hg2,hs2,ha2⟩:=GK.weaken (hgx hs'.fr.le) hs' ha' hl;exact⟨m y,hm,H2,y,hg2,hs2,ha2,hpy,rfl⟩
 |exit id=>exact l6 (hgx hs'.fr.le) hs' ha' hT
 |goto l=>exact l6 (hgx hs'.fr.le) hs' ha' hT
 |ret=>exact l6 (hgx hs'.fr.le) hs' ha' hT
 |panic ch=>exact l6 (hgx hs'.fr.le) hs' ha' hT
 |outgrown=>exact l6 (hgx hs'.fr.le) hs' ha' hT
end
end Go.GK
namespace Go.GK
open Go Go.RowKit IntKind
def zf{a:Array Value}{i:Nat}{v:Value}(h:a[i]? =some v):a.getD i undef=v:=by
 rw[bn,h];rfl
section
variable {p:Pg}{H:Hid}{a:Act}{w:World}{s:St}
def K0(hp:p.Ok)(hs:Sat H s.σ w)(ha:jH H s.ρ a){x:ResultVar}{g:GV}(h:Hw p s x=some g):
  ∃u,(match x with| .tmp t=>pure (a.tmps.getD t undef)| .cell c t=>do loadVar t (<-asAddr (a.tmps.getD c undef)):Sem Value).run p.P w=.ok u w/\Is H g u:=by
 cases x with
 |tmp t=>exact⟨_,rfl,ha t g h⟩
 |cell c t=>
  simp only[Hw]at h;split at h
  ·rename_i id off ti hx hti
   obtain⟨hv,hid⟩:=(ha c _ hx).qf;split at h
   ·rename_i ty cs hl
    obtain⟨us,hw,hlen,his⟩:=hs.holds _ (ib hl);have e:∀j g,(cs.drop off)[j]? =some g->cs[off+j]? =some g:=λj g hj=>by rwa [bo]at hj
    have hg:=uM (p:=p) (H:=H) (σ:=s.σ) (a:=a) (w:=w) (x:=.tmp c) (cs:=cs.drop off) (us:=λj=>us.getD (off+j) undef) (K:=λg'=>g'=g) (hp.tt _ _ hti) hv
     (λw' hb j g hj=>by have hlt:=(aO.1 (e j g hj)).1;exact Hs ((hb.hZ hl).trans hw) az) (λj g hj=>his _ _ (e j g hj)) (by
      cases hag:ti.ag with
      |true=>
       rw[hag]at h;simp only[cond_true]at h;cases hb:Nat.ble (off+ti.sz) cs.length with
       |false=>rw[hb]at h;cases h
       |true=>
        rw[hb]at h;have:=bA hb;simp only[cond_true,aV]at h;exact⟨aq,h⟩
      |false=>
       rw[hag]at h;simp only[cond_false]at h|-;rw[bo,b8,h];rfl)
    obtain⟨u,g',hr,hi,rfl⟩:=hg;refine⟨u,?_,hi⟩;have h1:=hr w (rU.refl hs) {dst:=none,op:=.load t (.tmp c),type:=0,pos:= "",after:=#[],guard:=none} rfl;have hv':a.tmps.getD c undef=.pointer (some ⟨H.bl id,off,none⟩):=hv;simp only[execOp,Instr.loadAt,Act.eval,hv',Instr.sureAddr,Sem.run_bind,Sem.run_pure,Result.andThen_ok]at h1;simp only[hv',asAddr,Sem.run_bind,Sem.run_pure,Result.andThen_ok];cases hl':(loadVar t {block:=H.bl id,off:=off}).run p.P w with
    |ok v w'=>rw[hl']at h1;simp at h1;rw[h1.1,h1.2]
    |halt hh w'=>rw[hl']at h1;simp at h1
   cases h
  cases h
def xY(hp:p.Ok)(hs:Sat H s.σ w)(ha:jH H s.ρ a):∀{rs:List ResultVar} {gs:List GV},q8 p s rs=some gs->
  ∃us:List Value,(rs.mapM (fun| .tmp t=>pure (a.tmps.getD t undef)| .cell c t=>do loadVar t (<-asAddr (a.tmps.getD c undef)):ResultVar->Sem Value)).run p.P w=.ok us w/\Cells H gs us.toArray
 | [],gs,h=>by simp only[q8,aV]at h;subst h;exact⟨[],rfl,rfl,aA⟩
 |x::r,gs,h=>by
  simp only[q8]at h;split at h
  ·rename_i g gs' h1 h2
   simp only[aV]at h;subst h;obtain⟨u,hu,hi⟩:=K0 hp hs ha h1;obtain⟨us,hus,hl,hc⟩:=xY hp hs ha h2;refine⟨u::us,?_,by simp at hl|-;exact hl,λj g' hj=>?_⟩
   ·rw[List.mapM_cons];simp only[Sem.run_bind];have hu':=hu;cases x<;>simp only[]at hu'|- <;>rw[hu'] <;>simp only[Result.andThen_ok,hus,Sem.run_pure]
   cases j with
   |zero=>simp at hj;subst hj;simpa using hi
   |succ j=>have:=hc j g' (by simpa using hj);simpa using this
  cases h
def wz{us:Array Value}:∀{args:List GV} {i:Nat},(∀(j:Nat) (g:GV),args[j]? =some g->Is H g (us.getD (i+j) undef))->∀t g,look (qp i args) t=some g->Is H g (us.getD t undef)/\t<i+args.length
 | [],i,_,t,g,h=>by simp[qp,look]at h
 |x::r,i,hh,t,g,h=>by
  simp only[qp,look]at h;cases hb:Nat.beq i t with
  |true=>
   rw[hb]at h;have:=beq_eq hb;subst this;simp at h;subst h;exact⟨hh 0 x rfl,by simp⟩
  |false=>
   rw[hb]at h;have:=wz (args:=r) (i:=i+1) (λj g hj=>by have:=hh (j+1) g (by simpa using hj);rwa [show i+(j+1)=i+1+j by omega]at this) t g (by simpa using h);exact⟨this.1,by have:=this.2;simp;omega⟩
def Fr.refl(H:Hid)(S:List Nat)(w:World):Fr H S w H S w:=
 ⟨rfl,rfl,rfl,aL _,λ_ _ _=>rfl,λ_ hb=>.inl hb,λ_ h h'=>(h' h).elim,Hid.le.refl H⟩
def Ct.j7 {f:FuncId} {fn:Func} {c:Code} {n0 N:Nat} {args:List GV} {σ:Heap} {Q:GV->Heap->Nat->Prop} (hp:p.Ok) (hf:p.P.funcs[f]? =some fn) (hb:fn.body=some c) (hN:fn.ntmps=N) (hl:Nat.ble args.length N=true) {rs:Array ResultVar} (hr:fn.results=rs)
  (h:∀(H0:Hid) (S0:List Nat) (w0:World) (h0:H0.n=n0) (g0:iX p H0),JK ⟨p,N,n0,H0,S0,w0,h0,g0⟩ (DC p rs.toList Q) [.code c] ⟨qp 0 args,σ,n0⟩):Ct p f n0 args σ Q:=by
 intro H us w hn hg hc hs;have hl':=bA hl;have hus:us.size=args.length:=hc.1.symm;refine calls_of_wp hf hb ?_;have hJ:=h H (g_ H σ) w hn hg H {tmps:=us++Array.replicate (fn.ntmps-us.size) undef,defers:=[]} w hg ⟨hn,hs,Fr.refl _ _ _⟩ ⟨λt g hlk=>?_,by simp[hN,hus];omega,rfl⟩
 ·refine Code.wp_mono (λe a w' hq=>?_) hJ;obtain⟨H',s',hs',ha',hT⟩:=hq;have key:(match q8 p s' rs.toList with|some gs=>Q (wG gs) s'.σ s'.n|none=>False)->a.defers=[]/\∃v,(results fn a.tmps).run p.P w'=.ok v w'/\∃u g H' σ',Ending.returned v=.returned u/\Is H' g u/\Sat H' σ' w'/\Fr H (g_ H σ) w H' (g_ H' σ') w'/\Q g σ' H'.n:=by
   intro hk;cases hra:q8 p s' rs.toList with
   |none=>rw[hra]at hk;exact hk.elim
   |some gs=>
    rw[hra]at hk;obtain⟨vs,hvs,hcv⟩:=xY hp hs'.sat ha'.env hra;refine⟨ha'.defers,_,?_,(if h:vs.toArray.size=1 then vs.toArray[0] else .tuple vs.toArray),wG gs,H',s'.σ,rfl,?_,hs'.sat,hs'.fr,by rw[hs'.n];exact hk⟩
    ·have:(fn.results.mapM (fun| .tmp t=>pure (a.tmps.getD t undef)| .cell c t=>do loadVar t (<-asAddr (a.tmps.getD c undef)):ResultVar->Sem Value)).run p.P w'=.ok vs.toArray w':=by
      rw[hr,gp,Sem.run_map,hvs];rfl
     have e:results fn a.tmps=(fn.results.mapM (fun| .tmp t=>pure (a.tmps.getD t undef)| .cell c t=>do loadVar t (<-asAddr (a.tmps.getD c undef)):ResultVar->Sem Value) >>=λvs=>pure (if h:vs.size=1 then vs[0] else .tuple vs)):=rfl;rw[e,Sem.run_bind,this];rfl
    have hlen:=hcv.1;simp at hlen;by_cases h1:vs.toArray.size=1
    ·rw[dif_pos h1]
     match gs,hcv,hlen with
     | [g],hcv,_=>
      have:=hcv.2 0 g rfl;simp at h1
      match vs,h1 with
      | [v],_=>simpa[wG]using this
     | [],_,hlen=>simp at h1 hlen;omega
     |_::_::_,_,hlen=>simp at h1 hlen;omega
    rw[dif_neg h1]
    match gs,hcv,hlen with
    | [g],hcv,hlen=>simp at h1 hlen;omega
    | [],hcv,_=>exact .tup hcv.1 hcv.2
    |_::_::_,hcv,_=>exact .tup hcv.1 hcv.2
  cases e with
  |normal=>exact key hT
  |ret=>exact key hT
  |exit id=>exact hT.elim
  |goto l=>exact hT.elim
  |panic ch=>exact hT.elim
  |outgrown=>exact hT.elim
 obtain⟨h1,h2⟩:=wz (H:=H) (us:=us) (args:=args) (i:=0) (λj g hj=>by simpa using hc.2 j g hj) t g hlk;have:(us++Array.replicate (fn.ntmps-us.size) undef).getD t undef=us.getD t undef:=by
  have hlt:t<us.size:=az
  simp only[bn];rw[eQ hlt]
 rw[this];exact h1
end
end Go.GK
namespace Go.GK
open Go Go.RowKit IntKind
mutual
def mR:∀g:GV,jW id g=g
 | .v _| .b _| .p _ _| .e _ _ _ _| .o _| .r _| .sl _ _=>rfl
 | .agg cs=>by simp only[jW,nE cs]
 | .tup cs=>by simp only[jW,nE cs]
 | .fn f aas cs=>by simp only[jW,nE aas,nE cs]
 | .ifc t x=>by simp only[jW,mR x]
def nE:∀l:List GV,j4 id l=l
 | []=>rfl
 |g::r=>by simp only[j4,mR g,nE r]
end
def j_{H:Hid}{all:List Oper}{ρ:Env}{o:Oper}{a:Act}(ha:jH H ρ a)(h:mS all ρ o.guard=true):Region.wanted o (yielded all.toArray a.tmps)=true:=by
 unfold mS at h;split at h
 ·rename_i hg;exact wF hg
 rename_i j want hg
 split at h
 ·rename_i oj hj
  split at h
  ·rename_i d hd
   split at h
   ·rename_i t hl
    rw[pD hg hj hd (ha d _ hl).iH];exact h
   ·rename_i t hl
    rw[pD hg hj hd (ha d _ hl).nF];exact h
   cases h
  cases h
 cases h
def HY{H:Hid}{all:List Oper}{ρ:Env}{o:Oper}{a:Act}(ha:jH H ρ a)(h:B8 all ρ o.guard=true):Region.wanted o (yielded all.toArray a.tmps)=false:=by
 unfold B8 at h;split at h
 ·cases h
 rename_i j want hg
 split at h
 ·rename_i oj hj
  split at h
  ·rename_i d hd
   split at h
   ·rename_i t hl
    rw[pD hg hj hd (ha d _ hl).iH]
    revert h;cases t<;>cases want<;>simp
   ·rename_i t hl
    rw[pD hg hj hd (ha d _ hl).nF]
    revert h;cases t<;>cases want<;>simp
   ·rename_i vs hl
    exact yn hg hj hd (ha d _ hl).iH
   cases h
  cases h
 cases h
def lK{is:List Nat}:∀{σ:Heap} {x:Nat×hY},x∈jr is σ->x∈σ/\x.1∉is
 | [],x,h=>by simp[jr]at h
 | (id,y)::r,x,h=>by
  unfold jr at h;cases hb:je id is with
  |true=>rw[hb]at h;have:=lK (σ:=r) (by simpa using h);exact⟨aK _ this.1,this.2⟩
  |false=>
   rw[hb]at h;rcases aF.1 (by simpa using h) with rfl|h
   ·exact⟨bf,λhm=>by rw[xM.2 hm]at hb;cases hb⟩
   have:=lK h;exact⟨aK _ this.1,this.2⟩
def rf{H:Hid}{is:List Nat}:∀{σ:Heap},(g_ H σ).Nodup->(g_ H (jr is σ)).Nodup
 | [],_=>by simp[jr,g_]
 | (id,y)::r,h=>by
  rw[iD]at h;have h1:=a8.1 h;unfold jr;cases hb:je id is with
  |true=>exact rf h1.2.1
  |false=>
   simp only[cond_false];rw[iD];refine a8.2 ⟨h1.1,rf h1.2.1,λb hb1 c hc e=>?_⟩;obtain⟨x,hx,hbx⟩:=aX.1 hc;exact h1.2.2 b hb1 c (aX.2 ⟨x,(lK hx).1,hbx⟩) e
def E3{H:Hid}{cs gs:List GV}{us vs:Array Value}(h:Cells H cs us)(k:Cells H gs vs):Cells H (cs++gs) (us++vs):=by
 refine⟨by simp[h.1,k.1],λj g hj=>?_⟩;simp only[bn];by_cases hlt:j<cs.length
 ·rw[bc hlt]at hj;rw[eQ (by rw[<-h.1];exact hlt)];have:=h.2 j g hj
  rwa [bn]at this
 rw[aU az]at hj;rw[Array.getElem?_append_right (by rw[<-h.1];omega)];have:=k.2 _ g hj
 rwa [bn,h.1]at this
def LU{p:Pg}{H:Hid}(hg:iX p H){ρ:Env}{a:Act}(h:jH H ρ a){xs:Array Operand}{gs:List GV}(he:qR p ρ xs.toList=some gs):Cells H gs (xs.map a.eval):=by
 obtain⟨hl,hi⟩:=xh hg h he;refine⟨by simpa using hl,λj g hj=>?_⟩;obtain⟨x,hx,his⟩:=hi j g hj;have:(xs.map a.eval).getD j undef=a.eval x:=by
  have hx':xs[j]? =some x:=by simpa using hx
  rw[bn,fV,hx'];rfl
 rw[this];exact his
def Cm{H:Hid}{f:Nat->Nat}{n:Nat}{cs:List GV}{us:Array Value}(h:Cells H (j4 f cs) us)(hb:im n cs=true):Cells (H.via f n) cs us:=
 ⟨by rw[<-h.1,lE],qk cs h.2 hb⟩
def vB{f:Nat->Nat}:∀{σ:Heap} {x:Nat×hY},x∈mm f σ->∃y∈σ,x=(f y.1,B4 f y.2)
 | [],x,h=>by simp[mm]at h
 | (id,r)::t,x,h=>by
  simp only[mm,aF]at h;rcases h with rfl|h
  ·exact⟨_,bf,rfl⟩
  obtain⟨y,hy,e⟩:=vB h;exact⟨y,aK _ hy,e⟩
def zz{H H':Hid}{f:Nat->Nat}(hbl:∀i,i<H.n->H'.bl (f i)=H.bl i/\H'.sv (f i)=H.sv i):∀{σ:Heap},(∀x∈σ,x.1<H.n)->g_ H' (mm f σ)=g_ H σ
 | [],_=>rfl
 | (id,r)::t,h=>by
  simp only[mm];rw[iD,iD,zz hbl (λx hx=>h x (aK _ hx))];have:=hbl id (h _ bf)
  congr 1
  cases r<;>simp[blocks,B4,this.1,this.2]
def Hk{H H':Hid}{f:Nat->Nat}(hro:∀b o,H.ro b=some o->H'.ro b=some o)(hf:∀i,i<H.n->f i<H'.n/\H'.bl (f i)=H.bl i/\H'.sv (f i)=H.sv i):∀{es:List (Value×GV)} {l:List MapEntry},mT H es l->mT H' (jS f es) l
 | [],[],_=>trivial
 | (_,_)::r,_::_,h=>⟨h.1,h.2.1.jW hro hf,Hk hro hf (es:=r) h.2.2⟩
 | [],_::_,h=>h.elim
 |_::_,[],h=>h.elim
def kB.jW{H H':Hid}{f:Nat->Nat}(hro:∀b o,H.ro b=some o->H'.ro b=some o)(hf:∀i,i<H.n->f i<H'.n/\H'.bl (f i)=H.bl i/\H'.sv (f i)=H.sv i){kd:Option IntKind}{es:List (Value×GV)}{arr:Array MapEntry}{clock:Nat}(h:kB H kd es arr clock):kB H' kd (jS f es) arr clock:=
 ⟨Hk hro hf h.is,h.sorts,h.st⟩
def Fp{H H':Hid}{w:World}{f:Nat->Nat}(hro:∀b o,H.ro b=some o->H'.ro b=some o)(hf:∀i,i<H.n->f i<H'.n/\H'.bl (f i)=H.bl i/\H'.sv (f i)=H.sv i){x:Nat×hY}(hx:x.1<H.n)(h:holds H w x):holds H' w (f x.1,B4 f x.2):=by
 obtain⟨id,r⟩:=x;obtain⟨_,h2,h3⟩:=hf id hx;cases r with
 |hZ ty cs=>
  obtain⟨us,hw,hl,hi⟩:=h;refine⟨us,by simp only;rw[h2];exact hw,by rw[lE];exact hl,λj g hj=>?_⟩;rw[Cd]at hj;cases hc:cs[j]? with
  |none=>rw[hc]at hj;cases hj
  |some y=>rw[hc]at hj;simp at hj;subst hj;exact (hi j y hc).jW hro hf
 |row ty sz rows=>
  obtain⟨xs,h4,h5⟩:=h;exact⟨xs,by simp only;rw[h3];exact h4,h5.mono hro⟩
 |ob o=>exact (by show w.heap[H'.bl (f id)]? =some o;rw[h2];exact h)
 |ln sz n=>obtain⟨A,c,h4,h5⟩:=h;exact⟨A,c,by simp only;rw[h3];exact h4,h5⟩
 |mp kd es=>
  obtain⟨b,arr,clock,h4,h5,h6⟩:=h;exact⟨b,arr,clock,by simp only;rw[h3];exact h4,h5,kB.jW hro hf h6⟩
 |mr kd es left cur=>
  obtain⟨b,arr,clock,seen,h4,hne,h5,h6,h7,h8⟩:=h;exact⟨b,arr,clock,seen,by simp only;rw[h3];exact h4,by simp only;rw[h2];exact hne,h5,kB.jW hro hf h6,by simp only;rw[h2];exact h7,h8⟩
 |me kd es k st=>
  obtain⟨hi,b,arr,clock,h4,h5,h6,h7,e,he,h8,h9⟩:=h;obtain⟨g1,_,g3⟩:=hf st hi;exact⟨g1,b,arr,clock,by simp only;rw[h3];exact h4,h5,kB.jW hro hf h6,h7,e,he,h8,by rw[g3];exact h9⟩
 |ab A=>
  show A.P _ (H'.bl (f id)) (H'.sv (f id)) w;rw[h2,h3];exact A.mono _ _ _ _ _ hro h
 |mre kd es left cur k st=>
  obtain⟨hi,b,arr,clock,seen,h4,hne,h5,h6,h7,h8,h9,h10,e,he,h11,h12⟩:=h;obtain⟨g1,_,g3⟩:=hf st hi;exact⟨g1,b,arr,clock,seen,by simp only;rw[h3];exact h4,by simp only;rw[h2];exact hne,h5,kB.jW hro hf h6,by simp only;rw[h2];exact h7,h8,h9,h10,e,he,h11,by rw[g3];exact h12⟩
 |itr m=>
  obtain⟨hi,h4,h5⟩:=h;obtain⟨g1,_,g3⟩:=hf m hi;exact⟨g1,by simp only;rw[h3,g3];exact h4,by rw[g3];exact h5⟩
 |sub i sz lo n=>
  obtain⟨hi,A,c,h4,h5,h6,hz,h7⟩:=h;obtain⟨g1,_,g3⟩:=hf i hi;refine⟨g1,A,c,by simp only;rw[h3];exact h4,h5,h6,hz,λh0=>?_⟩;obtain⟨g,l',c',h8,h9⟩:=h7 h0;exact⟨g,l',c',by rw[g3];exact h8,h9⟩
section
variable {cx:Cx}{T:jz}
def iQ.call {s:St} {H:Hid} {w w':World} (hs:iQ cx H s w) {r:Nat->Nat} {n0:Nat} {σc σ':Heap} {H':Hid} (hσ:o7 r σc s.σ) (hbH:iL n0 σc=true) (hd:iu (iv r σc)=true) (hr:∀i,i<n0->r i<s.n)
  (hs':Sat H' σ' w') (hfr:Fr (H.via r n0) (g_ (H.via r n0) σc) w H' (g_ H' σ') w') (ρ:Env):
  ∃H'',H.le H''/\(∀g u,Is H' g u->Is H'' (jW (sh r n0 s.n) g) u)/\iQ cx H'' ⟨ρ,mm (sh r n0 s.n) σ'++jr (iv r σc) s.σ,s.n+(H'.n-n0)⟩ w':=by
 obtain⟨hpart,hpb⟩:=hs.sat.part hσ hbH hd;have hle:=hfr.le;have hn0:n0<=H'.n:=hle.n;have hHn:=hs.n
 let H'':Hid:={ro:=H'.ro,bl:=λi=>if i<s.n then H.bl i else H'.bl (n0+(i-s.n)),sv:=λi=>if i<s.n then H.sv i else H'.sv (n0+(i-s.n)),n:=s.n+(H'.n-n0)}
 have hleH:H.le H'':=⟨by show H.n<=s.n+_;omega,λb o h=>hle.ro b o h,λi hi=>by show (if i<s.n then _ else _)=_;rw[if_pos az],λi hi=>by show (if i<s.n then _ else _)=_;rw[if_pos az]⟩;have hf:∀i,i<H'.n->sh r n0 s.n i<H''.n/\H''.bl (sh r n0 s.n i)=H'.bl i/\H''.sv (sh r n0 s.n i)=H'.sv i:=by
  intro i hi;unfold sh;cases hb:Nat.blt i n0 with
  |true=>
   have hlt:=qq hb;have h1:=hr i hlt;simp only[cond_true];refine⟨by show r i<s.n+_;omega,?_,?_⟩
   ·show (if r i<s.n then H.bl (r i) else _)=_;rw[if_pos h1];exact (hle.bl i hlt).symm
   show (if r i<s.n then H.sv (r i) else _)=_;rw[if_pos h1];exact (hle.sv i hlt).symm
  |false=>
   have hge:n0<=i:=by
    rcases Nat.lt_or_ge i n0 with h|h
    ·rw[<-dx]at h;rw[h]at hb;cases hb
    exact h
   simp only[cond_false];refine⟨by show s.n+(i-n0)<s.n+_;omega,?_,?_⟩
   ·show (if s.n+(i-n0)<s.n then _ else H'.bl (n0+(s.n+(i-n0) -s.n)))=_;rw[if_neg az,show n0+(s.n+(i-n0) -s.n)=i by omega]
   show (if s.n+(i-n0)<s.n then _ else H'.sv (n0+(s.n+(i-n0) -s.n)))=_;rw[if_neg az,show n0+(s.n+(i-n0) -s.n)=i by omega]
 have hro:∀b o,H'.ro b=some o->H''.ro b=some o:=λ_ _ h=>h;have hblσ:g_ H'' (mm (sh r n0 s.n) σ')=g_ H' σ':=zz (λi hi=>(hf i hi).2) hs'.ids;have hblr:g_ H'' (jr (iv r σc) s.σ)=g_ H (jr (iv r σc) s.σ):=nD hleH (λx hx=>hs.sat.ids x (lK hx).1);have hapart:∀b∈g_ H (jr (iv r σc) s.σ),b<w.heap.size/\b∉g_ (H.via r n0) σc/\b∈g_ H s.σ:=by
  intro b hb;obtain⟨x,hx,hbx⟩:=aX.1 hb;obtain⟨hxσ,hxi⟩:=lK hx;have hmem:b∈g_ H s.σ:=aX.2 ⟨x,hxσ,hbx⟩;refine⟨hs.sat.lt b hmem,λhc=>?_,hmem⟩;obtain⟨y,hy,hyi,hby⟩:=hpb b hc;exact ur hs.sat.nodup hxσ hy (λe=>hxi (by rw[e];exact hyi)) b hbx hby
 have hsub:∀b∈g_ (H.via r n0) σc,b∈g_ H s.σ:=λb hb=>by
  obtain⟨y,hy,_,hby⟩:=hpb b hb;exact aX.2 ⟨y,hy,hby⟩
 have hcfr:=hs.fr;refine⟨H'',hleH,λg u h=>h.jW hro hf,rfl,⟨hs'.ro,λx hx=>?_,?_,λb hb=>?_,λx hx=>?_⟩,?_⟩
 ·rcases aE.1 hx with hx|hx
  ·obtain⟨y,hy,rfl⟩:=vB hx;exact Fp hro hf (hs'.ids y hy) (hs'.holds y hy)
  obtain⟨hxσ,_⟩:=lK hx;refine lu (w:=w) (λb hb=>?_) (nO hleH (hs.sat.ids x hxσ) (hs.sat.holds x hxσ));rw[pF hleH (hs.sat.ids x hxσ)]at hb;obtain⟨h1,h2,_⟩:=hapart b (aX.2 ⟨x,hx,hb⟩);exact hfr.keep b h1 h2
 ·rw[il,hblσ,hblr];refine a8.2 ⟨hs'.nodup,rf hs.sat.nodup,λb hb c hc e=>?_⟩;subst e;obtain⟨h1,h2,_⟩:=hapart b hc;rcases hfr.own b hb with h|h
  ·exact h2 h
  omega
 ·rw[il,hblσ,hblr]at hb;rcases aE.1 hb with hb|hb
  ·exact hs'.free b hb
  obtain⟨h1,h2,h3⟩:=hapart b hb;show H'.ro b=none;cases hrb:H'.ro b with
  |none=>rfl
  |some o=>
   rcases hfr.fro b (hs.sat.free b h3) (by rw[hrb];simp) with h|h
   ·exact (h2 h).elim
   omega
 ·rcases aE.1 hx with hx|hx
  ·obtain⟨y,hy,rfl⟩:=vB hx;exact (hf _ (hs'.ids y hy)).1
  have:=hs.sat.ids x (lK hx).1;show x.1<s.n+_;omega
 refine⟨hfr.os.trans hcfr.os,hfr.tape.trans hcfr.tape,hfr.output.trans hcfr.output,bE hcfr.size hfr.size,λb h1 h2=>?_,λb hb=>?_,λb h1 h2=>?_,hcfr.le.trans hleH⟩
 ·rw[hfr.keep b (a_ h1 hcfr.size) (λhb=>?_)]
  ·exact hcfr.keep b h1 h2
  rcases hcfr.own b (hsub b hb) with h|h
  ·exact h2 h
  omega
 ·simp only at hb;rw[il,hblσ,hblr]at hb;rcases aE.1 hb with hb|hb
  ·rcases hfr.own b hb with h|h
   ·exact hcfr.own b (hsub b h)
   exact .inr (bE hcfr.size h)
  exact hcfr.own b (hapart b hb).2.2
 by_cases h3:H.ro b=none
 ·rcases hfr.fro b h3 h2 with h|h
  ·exact hcfr.own b (hsub b h)
  exact .inr (bE hcfr.size h)
 exact hcfr.fro b h1 h3
def tx {p:Pg} {H:Hid} (hg:iX p H) {ρ:Env} {a:Act} (ha:jH H ρ a) {fo:Operand} {args:Array Operand} {ts:Array TypeId} {f:FuncId} {first caps gs:List GV} (hf:ev p ρ fo=some (.fn (.func f) first caps)) (he:qR p ρ args.toList=some gs)
  (hcall:∀aas w,(callFunc f aas).run p.P w=.ok (.enter f aas) w):∃us,Cells H (first++gs++caps) us/\∀(o:Oper),o.op=.call {callee:=.value fo,args:=args,argTypes:=ts}->∀w,(execOp a.eval o).run p.P w=.ok (.enter f us) w:=by
 obtain⟨fs,cs,hv,hl,hi,hl',hi'⟩:=(iE hg ha hf).w_;refine⟨fs++args.map a.eval++cs,E3 (E3 ⟨hl,hi⟩ (LU hg ha he)) ⟨hl',hi'⟩,λo ho w=>?_⟩;simp only[execOp,ho,resolve,hv,Deferred.ofValue,Sem.run_bind,Sem.run_pure,Result.andThen_ok,invoke,hcall]
def xm {o:Oper} {s:St} {fo:Operand} {args:Array Operand} {ts:Array TypeId} {f:FuncId} {first caps gs:List GV} {n0:Nat} {cargs:List GV} {σc:Heap} {Q:GV->Heap->Nat->Prop}
  (hct:Ct cx.pg f n0 cargs σc Q) (hcall:∀aas w,(callFunc f aas).run cx.pg.P w=.ok (.enter f aas) w) (r:Nat->Nat)
  (ho:o.op=.call {callee:=.value fo,args:=args,argTypes:=ts}) {ρ:Env} (hf:ev cx.pg ρ fo=some (.fn (.func f) first caps)) (he:qR cx.pg ρ args.toList=some gs)
  (hargs:first++gs++caps=j4 r cargs) (hσ:o7 r σc s.σ) (chk:(im n0 cargs&&iL n0 σc&&iu (iv r σc))=true) (hr:∀i,i<n0->r i<s.n)
  {H:Hid} {a:Act} {w:World} (hg:iX cx.pg H) (hs:iQ cx H s w) (ha:jH H ρ a) {K:Act->World->Prop} {Q':Exit->Act->World->Prop}
  (hK:∀(H'':Hid) (u:Value) (g:GV) (σ':Heap) (n':Nat) (w':World),H.le H''->Is H'' (jW (sh r n0 s.n) g) u->Q g σ' n'->(∀ρ,iQ cx H'' ⟨ρ,mm (sh r n0 s.n) σ'++jr (iv r σc) s.σ,s.n+(n'-n0)⟩ w')->K (a.put o.dst u) w'):
  o.wp cx.pg.P a w K Q':=by
 simp only[aG]at chk;obtain⟨⟨h1,h2⟩,h3⟩:=chk;obtain⟨us,hc,hex⟩:=tx (ts:=ts) hg ha hf he hcall;rw[hargs]at hc;have hpart:=(hs.sat.part hσ h2 h3).1;have hC:=hct (H.via r n0) us w rfl hg.re (Cm hc h1) hpart;unfold Oper.wp;rw[hex o ho w,Oper.upon_enter];refine hC.mono ?_;rintro e w' ⟨u,g,H',σ',rfl,hi,hs',hfr,hQ⟩;obtain⟨H'',hle,hren,hsim⟩:=hs.call hσ h2 h3 hr hs' hfr s.ρ;exact hK H'' u g σ' H'.n w' hle (hren g u hi) hQ (λρ=>hsim.ρ ρ)
def JK.call {all:List Oper} {o:Oper} {rest:List Oper} {k:List It} {s:St} {fo:Operand} {args:Array Operand} {ts:Array TypeId} {f:FuncId} {first caps gs:List GV} {n0:Nat} {cargs:List GV} {σc:Heap} {Q:GV->Heap->Nat->Prop}
  (hct:Ct cx.pg f n0 cargs σc Q) (hcall:∀aas w,(callFunc f aas).run cx.pg.P w=.ok (.enter f aas) w) (r:Nat->Nat)
  (ho:o.op=.call {callee:=.value fo,args:=args,argTypes:=ts}) (hgd:mS all s.ρ o.guard=true) (hf:ev cx.pg s.ρ fo=some (.fn (.func f) first caps)) (he:qR cx.pg s.ρ args.toList=some gs)
  (hargs:first++gs++caps=j4 r cargs) (hσ:o7 r σc s.σ) (chk:(im n0 cargs&&iL n0 σc&&iu (iv r σc))=true) (hr:∀i,i<n0->r i<s.n)
  (h:∀g σ' n',Q g σ' n'->nf (jW (sh r n0 s.n) g) λg=>kG (mm (sh r n0 s.n) σ'++jr (iv r σc) s.σ) λσ=>kW (s.n+(n'-n0)) λn=>iO cx.N s.ρ o.dst g λρ'=>JK cx T (.ops false all rest::k) ⟨ρ',σ,n⟩):
  JK cx T (.ops false all (o::rest)::k) s:=by
 intro H a w hg hs ha;have hw:=j_ (o:=o) ha.env hgd;show wpList _ _ _ _ _ _;unfold wpList;rw[if_pos hw];refine .inl (xm hct hcall r ho hf he hargs hσ chk hr hg hs ha.env λH'' u g σ' n' w' hle hi hQ hsim=>?_);have hd:=h g σ' n' hQ;rw[nc,jy,j9]at hd;obtain⟨ρ',ha',hJ⟩:=(ha.mono hle).iO hi hd;exact hJ H'' (a.put o.dst u) w' (hg.mono hle) (hsim ρ') ha'
end
end Go.GK
namespace Go.GK
open Go Go.RowKit IntKind
mutual
def mq:GV->Bool
 | .r _=>false
 | .sl _ _=>false
 | .agg cs=>rK cs
 | .tup cs=>rK cs
 | .fn _ aas cs=>rK aas&&rK cs
 | .ifc _ x=>mq x
 | .v _=>true
 | .b _=>true
 | .p _ _=>true
 | .e _ _ _ _=>true
 | .o _=>true
def rK:List GV->Bool
 | []=>true
 |g::r=>mq g&&rK r
end
def Hid.at (H:Hid)(ro:Nat->Option Obj):Hid:={H with ro:=ro}
mutual
def vJ{H:Hid}{ro:Nat->Option Obj}:∀{g:GV} {u:Value},Is H g u->mq g=true->Is (H.at ro) g u
 | .v x,u,h,_=>by have:=h.iH;subst this;exact .ro (.v _)
 | .b c,u,h,_=>by have:=h.nF;subst this;exact .ro (.b _)
 | .p id off,u,h,_=>by obtain⟨rfl,hid⟩:=h.qf;exact Is.p (H:=H.at ro) hid
 | .e id sz i off,u,h,_=>by obtain⟨g,n,c,rfl,hs,hid⟩:=h.AE;exact Is.e (H:=H.at ro) hid hs
 | .o id,u,h,_=>by
  cases h with
  |ro h=>cases h
  |o hid hs h1=>exact Is.o (H:=H.at ro) hid hs h1
 | .r cs,u,_,hb=>by simp[mq]at hb
 | .sl sz rows,u,_,hb=>by simp[mq]at hb
 | .agg cs,u,h,hb=>by
  simp only[mq]at hb;obtain⟨us,rfl,hl,hi⟩:=h.rN;exact .agg hl (r5 cs hi hb)
 | .tup cs,u,h,hb=>by
  simp only[mq]at hb;obtain⟨us,rfl,hl,hi⟩:=h.uW;exact .tup hl (r5 cs hi hb)
 | .fn f aas cs,u,h,hb=>by
  simp only[mq,aG]at hb;obtain⟨us,vs,rfl,hl,hi,hl',hi'⟩:=h.w_;exact .fn hl (r5 aas hi hb.1) hl' (r5 cs hi' hb.2)
 | .ifc t x,u,h,hb=>by
  simp only[mq]at hb;obtain⟨v,rfl,hi⟩:=h.rQ;exact .ifc (vJ hi hb)
def r5{H:Hid}{ro:Nat->Option Obj}{F:Nat->Value}:∀(l:List GV),(∀(j:Nat) (g:GV),l[j]? =some g->Is H g (F j))->rK l=true->∀(j:Nat) (g:GV),l[j]? =some g->Is (H.at ro) g (F j)
 | [],_,_,j,g,hj=>by simp at hj
 |x::r,h,hb,0,g,hj=>by
  simp[rK]at hb;simp at hj;subst hj;exact vJ (h 0 _ rfl) hb.1
 |x::r,h,hb,j+1,g,hj=>by
  simp[rK]at hb;exact r5 (F:=λj=>F (j+1)) r (λj g hj=>h (j+1) g (by simpa using hj)) hb.2 j g (by simpa using hj)
end
def DR(d:Nat):Env->Env
 | []=>[]
 | (s,g)::r=>bif Nat.beq s d then DR d r else (s,g)::DR d r
def y6{d t:Nat}{g:GV}:∀{ρ:Env},look (DR d ρ) t=some g->look ρ t=some g/\d≠t
 | [],h=>by simp[DR,look]at h
 | (s,x)::r,h=>by
  unfold DR at h;unfold look;cases hb:Nat.beq s d with
  |true=>
   rw[hb]at h;obtain⟨h1,h2⟩:=y6 (ρ:=r) (by simpa using h);have:=beq_eq hb;subst this;have hst:Nat.beq s t=false:=by
    cases hst:Nat.beq s t with
    |false=>rfl
    |true=>exact absurd (beq_eq hst) h2
   rw[hst];exact⟨h1,h2⟩
  |false=>
   rw[hb]at h;simp only[cond_false]at h;unfold look at h;cases hst:Nat.beq s t with
   |true=>
    rw[hst]at h;refine⟨h,λe=>?_⟩;have h1:=beq_eq hst;have h2:=jD hb;omega
   |false=>rw[hst]at h;exact y6 (by simpa using h)
def oS(ρq:Env)(dst:Option Nat)(g:GV):Env:=
 match dst with
 |some d=>bif mq g then (d,g)::ρq else DR d ρq
 |none=>ρq
section
variable {cx:Cx}{T:jz}
def rH(S0:List Nat)(w0 w:World):Prop:=∀b,b<w0.heap.size->b∉S0->w.heap[b]? =w0.heap[b]?
def RA(cx:Cx)(T:jz)(ops:List Oper)(k:List It)(σs:Heap)(ρq:Env)(fuel:Nat)(listed:List Bool)(s:St):Prop:=
 ∀(n0:Nat) (H0:Hid) (S0:List Nat) (w0:World) (h0:H0.n=n0) (g0:iX cx.pg H0),Sat H0 σs w0->(∀b∈g_ H0 σs,b∉S0)->(∀b∈S0,H0.ro b=none)->
  (∀H s' w',iQ ⟨cx.pg,cx.N,n0,H0,S0,w0,h0,g0⟩ H s' w'->iQ cx H ⟨s'.ρ,s'.σ++σs,s'.n⟩ w')->
  ∀H a w,iQ ⟨cx.pg,cx.N,n0,H0,S0,w0,h0,g0⟩ H s w->kr cx H s.ρ a->jH (H.at H0.ro) ρq a->
   wpAnyH cx.pg.P .any ops.toArray (cont cx.pg.P (post cx T) k) (rH S0 w0) fuel listed.toArray a w
def iQ.keeps{n0 N:Nat}{pg:Pg}{H0:Hid}{S0:List Nat}{w0:World}{h0:H0.n=n0}{g0:iX pg H0}{H:Hid}{s:St}{w:World}(h:iQ ⟨pg,N,n0,H0,S0,w0,h0,g0⟩ H s w):rH S0 w0 w:=h.fr.keep
def RA.done{ops:List Oper}{k:List It}{σs:Heap}{ρq:Env}{fuel:Nat}{listed:List Bool}{s:St}(hr:Region.ready .any ops.toArray listed.toArray=[])(h:JK cx T k ⟨s.ρ,s.σ++σs,s.n⟩):RA cx T ops k σs ρq fuel listed s:=
 λ_ _ _ _ _ _ _ _ _ hlink H a w hs ha _=>wpAnyH_done hr (h H a w (cx.g0.mono (hlink H s w hs).fr.le) (hlink H s w hs) ha) fuel
def sN(l:List Bool)(i:Nat):l.toArray.setIfInBounds i true=(l.set i true).toArray:=aA
def jH.Hp{H H':Hid}{ro:Nat->Option Obj}{ρq:Env}{a:Act}(h:jH (H.at ro) ρq a)(hle:H.le H'){dst:Option Nat}{g:GV}{u:Value}(hd:∀d,dst=some d->d<a.tmps.size)(hi:Is H' g u):jH (H'.at ro) (oS ρq dst g) (a.put dst u):=by
 have h1:jH (H'.at ro) ρq a:=λt g hl=>(h t g hl).mono (show (H.at ro).le (H'.at ro) from⟨hle.n,λ_ _ h=>h,hle.bl,hle.sv⟩);cases dst with
 |none=>exact h1
 |some d=>
  unfold oS;simp only;cases hb:mq g with
  |true=>exact h1.put (hd d rfl) (vJ hi hb)
  |false=>
   simp only[cond_false];intro t g' hl;obtain⟨hl',hne⟩:=y6 hl;have:=h1 t g' hl';simp only[Act.put,bn]at this|-;rw[dS hne];exact this
def vp(ρq:Env)(dst:Option Nat)(g:GV):Env:=
 match dst with
 |some d=>(d,g)::ρq
 |none=>ρq
def jH.Dt{H:Hid}{ro:Nat->Option Obj}{ρq:Env}{a:Act}(h:jH (H.at ro) ρq a){dst:Option Nat}{g:GV}{u:Value}(hd:∀d,dst=some d->d<a.tmps.size)(hi:Is (H.at ro) g u):jH (H.at ro) (vp ρq dst g) (a.put dst u):=by
 cases dst with
 |none=>exact h
 |some d=>exact h.put (hd d rfl) hi
def pc{N:Nat}{ρ:Env}{dst:Option Nat}{g:GV}{K:Env->Prop}(h:iO N ρ dst g K):∀d,dst=some d->d<N:=by
 intro d hd;subst hd;simp only[iO]at h;cases hb:Nat.blt d N with
 |false=>rw[hb]at h;exact h.elim
 |true=>rw[dx]at hb;exact hb
def Sy {n0 N:Nat} {pg:Pg} {H0:Hid} {S0:List Nat} {w0:World} {h0:H0.n=n0} {g0:iX pg H0} {σs:Heap} {H:Hid} {s:St} {w:World} (hσ:Sat H0 σs w0) (hap:∀b∈g_ H0 σs,b∉S0) (hfree:∀b∈S0,H0.ro b=none)
  (hs:iQ ⟨pg,N,n0,H0,S0,w0,h0,g0⟩ H s w):Sat (H.at H0.ro) σs w/\∀w',rH S0 w0 w'->rU (H.at H0.ro) σs w w':=by
 have hle:H0.le (H.at H0.ro):=⟨hs.fr.le.n,λ_ _ h=>h,hs.fr.le.bl,hs.fr.le.sv⟩;have hbl:g_ (H.at H0.ro) σs=g_ H0 σs:=nD hle hσ.ids;have hro:∀w',rH S0 w0 w'->∀b o,H0.ro b=some o->w'.heap[b]? =some o:=λw' hh b o ho=>by
  have h1:=hσ.ro b o ho;rw[hh b (aW.1 h1).1 (λhc=>by rw[hfree b hc]at ho;cases ho)];exact h1
 have hown:∀w',rH S0 w0 w'->∀b∈g_ H0 σs,w'.heap[b]? =w0.heap[b]? :=λw' hh b hb=>hh b (hσ.lt b hb) (hap b hb);have hk:=hs.keeps;refine⟨⟨hro w hk,λx hx=>?_,by rw[hbl];exact hσ.nodup,λb hb=>hσ.free b (by rwa [hbl]at hb),λx hx=>a_ (hσ.ids x hx) hle.n⟩,λw' hh=>⟨hro w' hh,λb hb=>?_⟩⟩
 ·refine lu (w:=w0) (λb hb=>?_) (nO hle (hσ.ids x hx) (hσ.holds x hx));rw[pF hle (hσ.ids x hx)]at hb;exact hown w hk b (aX.2 ⟨x,hx,hb⟩)
 rw[hbl]at hb;rw[hown w' hh b hb,hown w hk b hb]
def iX.at {pg:Pg}{H0 H:Hid}(h:iX pg H0):iX pg (H.at H0.ro):=⟨h.gl,h.ex⟩
def RA.take {ops:List Oper} {k:List It} {σs:Heap} {ρq:Env} {fuel:Nat} {listed:List Bool} {s:St} (i:Nat) {o:Oper} (hp:cx.pg.Ok) (hi:ops[i]? =some o) (kM:Region.noSelect ops.toArray=true) (hf:Region.free .any ops.toArray listed.toArray i=true)
  (hr:(Region.ready .any ops.toArray listed.toArray).contains i=true) (hT:∀ch s,¬T (.panic ch) s)
  {N:Env->St->Prop} (hN:∀ρq s',N ρq s'->RA cx T ops k σs ρq fuel (listed.set i true) s')
  (h:wZ ops ρq o.guard (λρq'=>pv cx.pg ρq' σs o.op λg=>iO cx.N s.ρ o.dst g λρ'=>N (vp ρq' o.dst g) {s with ρ:=ρ'})
   (λρq'=>iO cx.N s.ρ o.dst (.v undef) λρ'=>N (vp ρq' o.dst (.v undef)) {s with ρ:=ρ'})):RA cx T ops k σs ρq (fuel+1) listed s:=by
 intro n0 H0 S0 w0 h0 g0 hσ hap hfree hlink H a w hs ha hq;obtain⟨hrs,hagr⟩:=Sy hσ hap hfree hs;have hpan:∀c a w v,cont cx.pg.P (post cx T) k (.panic c) (a.put o.dst v) w->cont cx.pg.P (post cx T) k (.panic c) a w:=λc a w v hc=>by
  rw[oJ]at hc;obtain⟨_,s',_,_,ht⟩:=hc;exact (hT c s' ht).elim
 have hgo:∀ρq',jH (H.at H0.ro) ρq' a->Region.wanted o (yielded ops.toArray a.tmps)=true->(pv cx.pg ρq' σs o.op λg=>iO cx.N s.ρ o.dst g λρ'=>N (vp ρq' o.dst g) {s with ρ:=ρ'})->
   wpAnyH cx.pg.P .any ops.toArray (cont cx.pg.P (post cx T) k) (rH S0 w0) (fuel+1) listed.toArray a w:=by
  intro ρq' hq' hw hpv;obtain⟨u,g,hrun,hiu,hk⟩:=xI hp (iX.at g0) hq' hrs hpv;have hiu':Is H g u:=hiu.mono (show (H.at H0.ro).le H from⟨aL _,λb o ho=>hs.fr.le.ro b o ho,λ_ _=>rfl,λ_ _=>rfl⟩);have hlt:=pc hk;obtain⟨ρ',ha',hra⟩:=ha.iO hiu' hk;refine wpAnyH_take (by simpa using hi) kM hf hr (λc a w=>hpan c a w u) (.inl ⟨hw,λw' hh=>hrun w' (hagr w' hh) o rfl⟩) hs.keeps ?_;rw[sN];exact hN _ _ hra n0 H0 S0 w0 h0 g0 hσ hap hfree hlink H (a.put o.dst u) w (hs.ρ ρ') ha' (jH.Dt hq' (λd hd=>by rw[ha.size];exact hlt d hd) hiu)
 have hskip:∀ρq',jH (H.at H0.ro) ρq' a->Region.wanted o (yielded ops.toArray a.tmps)=false->(iO cx.N s.ρ o.dst (.v undef) λρ'=>N (vp ρq' o.dst (.v undef)) {s with ρ:=ρ'})->
   wpAnyH cx.pg.P .any ops.toArray (cont cx.pg.P (post cx T) k) (rH S0 w0) (fuel+1) listed.toArray a w:=by
  intro ρq' hq' hw hk;have hlt:=pc hk;obtain⟨ρ',ha',hra⟩:=ha.iO (u:=undef) (.ro (.v undef)) hk;refine wpAnyH_take (by simpa using hi) kM hf hr (λc a w=>hpan c a w undef) (.inr ⟨hw,rfl⟩) hs.keeps ?_;rw[sN];exact hN _ _ hra n0 H0 S0 w0 h0 g0 hσ hap hfree hlink H (a.put o.dst undef) w (hs.ρ ρ') ha' (jH.Dt hq' (λd hd=>by rw[ha.size];exact hlt d hd) (.ro (.v undef)))
 unfold wZ at h;split at h
 ·rename_i hgd
  exact hgo ρq hq (wF hgd) h
 rename_i j want hgd
 split at h
 ·rename_i oj hj
  split at h
  ·rename_i d hd
   split at h
   ·rename_i t hl
    have hv:=(hq d _ hl).iH;have hw:=pD hgd hj hd hv;cases hb:(t==want) with
    |true=>rw[hb]at h hw;exact hgo ρq hq hw h
    |false=>rw[hb]at h hw;exact hskip ρq hq hw h
   ·rename_i t hl
    have hv:=(hq d _ hl).nF;have hw:=pD hgd hj hd hv;have hput:∀c,t=c->jH (H.at H0.ro) ((d,.v (.bool c))::ρq) a:=by
     intro c hc x g hx;unfold look at hx;cases hb:Nat.beq d x with
     |true=>
      rw[hb]at hx;simp at hx;subst hx;rw[<-beq_eq hb,hv,hc];exact .ro (.v _)
     |false=>rw[hb]at hx;exact hq x g (by simpa using hx)
    by_cases e:t=want
    ·rw[e]at hw;exact hgo _ (hput want e) (by simpa using hw) (h.1 e)
    have e':t= !want:=by cases t<;>cases want<;>simp_all
    rw[e']at hw;exact hskip _ (hput _ e') (by simpa using hw) (h.2 e')
   ·rename_i vs hl
    exact hskip ρq hq (yn hgd hj hd (hq d _ hl).iH) h
   exact h.elim
  exact h.elim
 exact h.elim
def RA.AB {ops:List Oper} {k:List It} {σs:Heap} {ρq:Env} {fuel:Nat} {listed:List Bool} {s:St} (i:Nat) {o:Oper} (hi:ops[i]? =some o) (hr:Region.ready .any ops.toArray listed.toArray=[i]) (hgd:mS ops s.ρ o.guard=true)
  (h:∀(n0:Nat) (H0:Hid) (S0:List Nat) (w0:World) (h0:H0.n=n0) (g0:iX cx.pg H0) (H:Hid) (a:Act) (w:World) (K:Act->World->Prop) (Q':Exit->Act->World->Prop),iX cx.pg H->iQ ⟨cx.pg,cx.N,n0,H0,S0,w0,h0,g0⟩ H s w->kr cx H s.ρ a->Sat H (s.σ++σs) w->
   (∀(H':Hid) (u:Value) (g:GV) (w':World) (s':St) (ρ':Env),H.le H'->Is H' g u->iQ ⟨cx.pg,cx.N,n0,H0,S0,w0,h0,g0⟩ H' {s' with ρ:=ρ'} w'->kr cx H' ρ' (a.put o.dst u)->(∀d,o.dst=some d->d<cx.N)->RA cx T ops k σs (oS ρq o.dst g) fuel (listed.set i true) {s' with ρ:=ρ'}->K (a.put o.dst u) w')->
   o.wp cx.pg.P a w K Q'):RA cx T ops k σs ρq (fuel+1) listed s:=by
 intro n0 H0 S0 w0 h0 g0 hσ hap hfree hlink H a w hs ha hq;refine wpAnyH_all hr aA (λj hj=>?_);have hji:j=i:=by simpa using hj
 subst hji;unfold wpOp;have hi':ops.toArray[j]? =some o:=by simpa using hi
 rw[hi'];simp only;have hw:=j_ (o:=o) ha.env hgd;rw[if_pos hw];refine .inl (h n0 H0 S0 w0 h0 g0 H a w _ _ (g0.mono hs.fr.le) hs ha (hlink H s w hs).sat λH' u g w' s' ρ' hle hi hs' ha' hd hra=>?_);rw[sN];exact⟨hs'.keeps,hra n0 H0 S0 w0 h0 g0 hσ hap hfree hlink H' (a.put o.dst u) w' hs' ha' (jH.Hp (H:=H) hq hle (λd hdd=>by rw[ha.size];exact hd d hdd) hi)⟩
def rj{P:Program}{o:Oper}{a:Act}{w w':World}{u:Value}{K:Act->World->Prop}{Q':Exit->Act->World->Prop}(hr:(execOp a.eval o).run P w=.ok (.value u) w'\/(execOp a.eval o).run P w=.ok .skip w'/\u=undef)(h:K (a.put o.dst u) w'):o.wp P a w K Q':=by
 unfold Oper.wp;rcases hr with hr|⟨hr,rfl⟩
 ·rw[hr];exact h
 rw[hr];exact h
def RA.mem {ops:List Oper} {k:List It} {σs:Heap} {ρq:Env} {fuel:Nat} {listed:List Bool} {s:St} (i:Nat) {o:Oper} (hp:cx.pg.Ok) (hi:ops[i]? =some o) (hr:Region.ready .any ops.toArray listed.toArray=[i]) (hgd:mS ops s.ρ o.guard=true) (hpu:oG o.op=false)
  {N:Env->St->Prop} (hN:∀ρq s',N ρq s'->RA cx T ops k σs ρq fuel (listed.set i true) s')
  (h:ub cx false s o (λs'=>N (oS ρq o.dst (match s'.ρ with| (_,g)::_=>g| []=>.v undef)) s') (λ_=>False) s.ρ):RA cx T ops k σs ρq (fuel+1) listed s:=by
 refine RA.AB i hi hr hgd λn0 H0 S0 w0 h0 g0 H a w K Q' hg hs ha _ hK=>?_;have ha':kr ⟨cx.pg,cx.N,n0,H0,S0,w0,h0,g0⟩ H s.ρ a:=⟨ha.env,ha.size,ha.defers⟩;have h':ub ⟨cx.pg,cx.N,n0,H0,S0,w0,h0,g0⟩ false s o (λs'=>N (oS ρq o.dst (match s'.ρ with| (_,g)::_=>g| []=>.v undef)) s') (λ_=>False) s.ρ:=h;rcases HA (cx:=⟨cx.pg,cx.N,n0,H0,S0,w0,h0,g0⟩) hp hg hs ha' hpu h' with hl|⟨H',u,g,w',s0,hle,hrun,hi,hd,hsim⟩
 ·exact hl.elim
 refine rj hrun ?_;have hlt:=pc hd;cases hdst:o.dst with
 |none=>
  rw[hdst]at hd;have h1:=hK H' u g w' s0 s.ρ hle hi (hsim s.ρ) (by rw[hdst];exact ha.mono hle) hlt (by rw[hdst];exact hN _ _ hd);rw[hdst]at h1;exact h1
 |some d=>
  rw[hdst]at hd;simp only[iO,nc]at hd;have hdl:=hlt d hdst;have hb:Nat.blt d cx.N=true:=by rw[dx];exact hdl
  rw[hb]at hd;have hput:kr cx H' ((d,g)::s.ρ) (a.put (some d) u):=⟨(ha.mono hle).env.put (by rw[ha.size];exact hdl) hi,by simp[Act.put,ha.size],by simp[Act.put,ha.defers]⟩;have h1:=hK H' u g w' s0 ((d,g)::s.ρ) hle hi (hsim _) (by rw[hdst];exact hput) hlt (by rw[hdst];exact hN _ _ hd);rw[hdst]at h1;exact h1
def RA.read {ops:List Oper} {k:List It} {σs:Heap} {ρq:Env} {fuel:Nat} {listed:List Bool} {s:St} (i:Nat) {o:Oper} (hp:cx.pg.Ok) (hi:ops[i]? =some o) (hr:Region.ready .any ops.toArray listed.toArray=[i]) (hgd:mS ops s.ρ o.guard=true)
  {N:Env->St->Prop} (hN:∀ρq s',N ρq s'->RA cx T ops k σs ρq fuel (listed.set i true) s')
  (h:pv cx.pg s.ρ (s.σ++σs) o.op λg=>iO cx.N s.ρ o.dst g λρ'=>N (oS ρq o.dst g) {s with ρ:=ρ'}):RA cx T ops k σs ρq (fuel+1) listed s:=by
 refine RA.AB i hi hr hgd λn0 H0 S0 w0 h0 g0 H a w K Q' hg hs ha hsat hK=>?_;obtain⟨u,g,hrun,hiu,hk⟩:=xI hp hg ha.env hsat h;have hlt:=pc hk;refine rj (u:=u) (.inl (hrun w (rU.refl hsat) o rfl)) ?_;obtain⟨ρ',ha',hra⟩:=ha.iO hiu hk;exact hK H u g w s ρ' (Hid.le.refl H) hiu (hs.ρ _) ha' hlt (hN _ _ hra)
def RA.call {ops:List Oper} {k:List It} {σs:Heap} {ρq:Env} {fuel:Nat} {listed:List Bool} {s:St} (i:Nat) {o:Oper} {fo:Operand} {args:Array Operand} {ts:Array TypeId} {f:FuncId} {first caps gs:List GV} {n0:Nat} {cargs:List GV} {σc:Heap} {Q:GV->Heap->Nat->Prop}
  (hct:Ct cx.pg f n0 cargs σc Q) (hcall:∀aas w,(callFunc f aas).run cx.pg.P w=.ok (.enter f aas) w) (r:Nat->Nat)
  (hi:ops[i]? =some o) (hr:Region.ready .any ops.toArray listed.toArray=[i]) (hgd:mS ops s.ρ o.guard=true)
  (ho:o.op=.call {callee:=.value fo,args:=args,argTypes:=ts}) (hf:ev cx.pg s.ρ fo=some (.fn (.func f) first caps)) (he:qR cx.pg s.ρ args.toList=some gs)
  (hargs:first++gs++caps=j4 r cargs) (hσ:o7 r σc s.σ) (chk:(im n0 cargs&&iL n0 σc&&iu (iv r σc))=true) (hrn:∀i,i<n0->r i<s.n)
  (h:∀g σ' n',Q g σ' n'->nf (jW (sh r n0 s.n) g) λg=>kG (mm (sh r n0 s.n) σ'++jr (iv r σc) s.σ) λσ=>kW (s.n+(n'-n0)) λn=>p9 (oS ρq o.dst g) λρq=>iO cx.N s.ρ o.dst g λρ'=>RA cx T ops k σs ρq fuel (listed.set i true) ⟨ρ',σ,n⟩):
  RA cx T ops k σs ρq (fuel+1) listed s:=by
 refine RA.AB i hi hr hgd λm0 H0 S0 w0 h0 g0 H a w K Q' hg hs ha _ hK=>?_;refine xm (cx:=⟨cx.pg,cx.N,m0,H0,S0,w0,h0,g0⟩) hct hcall r ho hf he hargs hσ chk hrn hg hs ha.env λH'' u g σ' n' w' hle hiu hQ hsim=>?_;have hd:=h g σ' n' hQ;rw[nc,jy,j9,oE]at hd;have hlt:=pc hd;obtain⟨ρ',ha',hra⟩:=(ha.mono hle).iO hiu hd;exact hK H'' u _ w' ⟨ρ',_,_⟩ ρ' hle hiu (hsim ρ') ha' hlt hra
def kM(is:List Nat):Heap->Heap
 | []=>[]
 | (id,x)::r=>bif je id is then (id,x)::kM is r else kM is r
def vl{is:List Nat}:∀{σ:Heap} {x:Nat×hY},x∈kM is σ->x∈σ/\x.1∈is
 | [],x,h=>by simp[kM]at h
 | (id,y)::r,x,h=>by
  unfold kM at h;cases hb:je id is with
  |false=>rw[hb]at h;have:=vl (σ:=r) (by simpa using h);exact⟨aK _ this.1,this.2⟩
  |true=>
   rw[hb]at h;rcases aF.1 (by simpa using h) with rfl|h
   ·exact⟨bf,xM.1 hb⟩
   have:=vl h;exact⟨aK _ this.1,this.2⟩
def xB{H:Hid}{is:List Nat}:∀{σ:Heap},(g_ H σ).Nodup->(g_ H (kM is σ)).Nodup
 | [],_=>by simp[kM,g_]
 | (id,y)::r,h=>by
  rw[iD]at h;have h1:=a8.1 h;unfold kM;cases hb:je id is with
  |false=>exact xB h1.2.1
  |true=>
   simp only[cond_true];rw[iD];refine a8.2 ⟨h1.1,xB h1.2.1,λb hb1 c hc e=>?_⟩;obtain⟨x,hx,hbx⟩:=aX.1 hc;exact h1.2.2 b hb1 c (aX.2 ⟨x,(vl hx).1,hbx⟩) e
def Sat.sub{H:Hid}{σ τ:Heap}{w:World}(h:Sat H σ w)(hm:∀x∈τ,x∈σ)(hn:(g_ H τ).Nodup):Sat H τ w:=by
 refine⟨h.ro,λx hx=>h.holds x (hm x hx),hn,λb hb=>?_,λx hx=>h.ids x (hm x hx)⟩;obtain⟨x,hx,hbx⟩:=aX.1 hb;exact h.free b (aX.2 ⟨x,hm x hx,hbx⟩)
def mF:Heap->Heap
 | []=>[]
 | (id,.row _ sz rows)::r=>(id,.ln sz rows.length)::mF r
 |_::r=>mF r
def lX(H:Hid):∀σ:Heap,g_ H (mF σ)=[]
 | []=>rfl
 | (id,.row _ sz rows)::r=>by simp only[mF];rw[iD,lX H r];rfl
 | (id,.hZ _ _)::r=>by simp only[mF];exact lX H r
 | (id,.ob _)::r=>by simp only[mF];exact lX H r
 | (id,.ln _ _)::r=>by simp only[mF];exact lX H r
 | (id,.sub _ _ _ _)::r=>by simp only[mF];exact lX H r
 | (id,.mp _ _)::r=>by simp only[mF];exact lX H r
 | (id,.mr _ _ _ _)::r=>by simp only[mF];exact lX H r
 | (id,.itr _)::r=>by simp only[mF];exact lX H r
 | (id,.me _ _ _ _)::r=>by simp only[mF];exact lX H r
 | (id,.mre _ _ _ _ _ _)::r=>by simp only[mF];exact lX H r
 | (id,.ab _)::r=>by simp only[mF];exact lX H r
def mG{H:Hid}{w:World}:∀{σ:Heap},(∀x∈σ,holds H w x)->(∀x∈σ,x.1<H.n)->∀x∈mF σ,holds H w x/\x.1<H.n
 | [],_,_,x,hx=>by simp[mF]at hx
 | (id,.row ty sz rows)::r,h,hi,x,hx=>by
  simp only[mF,aF]at hx;rcases hx with rfl|hx
  ·obtain⟨xs,hown,_⟩:=h _ bf;refine⟨?_,hi (id,.row ty sz rows) bf⟩;rcases hown.2 with ⟨he,hn⟩|⟨g,cap,cur,he,_⟩
   ·exact⟨none,0,by rw[he,hn],λhlt=>az⟩
   exact⟨_,cap,he,λ_=>⟨g,rfl⟩⟩
  exact mG (λx hx=>h x (aK _ hx)) (λx hx=>hi x (aK _ hx)) x hx
 | (id,.hZ _ _)::r,h,hi,x,hx=>mG (λx hx=>h x (aK _ hx)) (λx hx=>hi x (aK _ hx)) x (by simpa only[mF]using hx)
 | (id,.ob _)::r,h,hi,x,hx=>mG (λx hx=>h x (aK _ hx)) (λx hx=>hi x (aK _ hx)) x (by simpa only[mF]using hx)
 | (id,.sub _ _ _ _)::r,h,hi,x,hx=>mG (λx hx=>h x (aK _ hx)) (λx hx=>hi x (aK _ hx)) x (by simpa only[mF]using hx)
 | (id,.mp _ _)::r,h,hi,x,hx=>mG (λx hx=>h x (aK _ hx)) (λx hx=>hi x (aK _ hx)) x (by simpa only[mF]using hx)
 | (id,.mr _ _ _ _)::r,h,hi,x,hx=>mG (λx hx=>h x (aK _ hx)) (λx hx=>hi x (aK _ hx)) x (by simpa only[mF]using hx)
 | (id,.me _ _ _ _)::r,h,hi,x,hx=>mG (λx hx=>h x (aK _ hx)) (λx hx=>hi x (aK _ hx)) x (by simpa only[mF]using hx)
 | (id,.mre _ _ _ _ _ _)::r,h,hi,x,hx=>mG (λx hx=>h x (aK _ hx)) (λx hx=>hi x (aK _ hx)) x (by simpa only[mF]using hx)
 | (id,.ab _)::r,h,hi,x,hx=>mG (λx hx=>h x (aK _ hx)) (λx hx=>hi x (aK _ hx)) x (by simpa only[mF]using hx)
 | (id,.itr _)::r,h,hi,x,hx=>mG (λx hx=>h x (aK _ hx)) (λx hx=>hi x (aK _ hx)) x (by simpa only[mF]using hx)
 | (id,.ln _ _)::r,h,hi,x,hx=>mG (λx hx=>h x (aK _ hx)) (λx hx=>hi x (aK _ hx)) x (by simpa only[mF]using hx)
def Tq{H H':Hid}(hl:H.le H'){w w':World}{σ:Heap}(h:∀x∈mF σ,holds H w x/\x.1<H.n):∀x∈mF σ,holds H' w' x/\x.1<H'.n:=by
 intro x hx;obtain⟨h1,h2⟩:=h x hx;refine⟨(lu (w:=w) (λb hb=>?_) (nO hl h2 h1)),a_ h2 hl.n⟩;have:g_ H' (mF σ)=[]:=lX H' σ;have hm:b∈g_ H' (mF σ):=aX.2 ⟨x,hx,hb⟩;rw[this]at hm;cases hm
def Sat.QD{H:Hid}{τ σ:Heap}{w:World}(h:Sat H τ w)(hx:∀x∈mF σ,GK.holds H w x/\x.1<H.n):Sat H (τ++mF σ) w:=by
 have e:g_ H (τ++mF σ)=g_ H τ:=by rw[il,lX,aZ]
 refine⟨h.ro,λx hm=>?_,by rw[e];exact h.nodup,λb hb=>h.free b (by rwa [e]at hb),λx hm=>?_⟩
 ·rcases aE.1 hm with hm|hm
  ·exact h.holds x hm
  exact (hx x hm).1
 rcases aE.1 hm with hm|hm
 ·exact h.ids x hm
 exact (hx x hm).2
def JK.draw{id:Nat}{ops:Array Oper}{k:List It}{s:St}(M:List Nat)(hp:cx.pg.Ok)(h:RA cx T ops.toList k (jr M s.σ++mF (kM M s.σ)) s.ρ ops.toList.length (List.replicate ops.toList.length false) ⟨s.ρ,kM M s.σ,s.n⟩):JK cx T (.code (.region id ops true)::k) s:=by
 intro H a w hg hs0 ha;have hs:=hs0.below (yw w);refine wp_region_held (S:=rH (g_ H (kM M s.σ)) w.drew) hp.mixed ?_;have hsub1:∀x∈kM M s.σ,x∈s.σ:=λx hx=>(vl hx).1;have hsub2:∀x∈jr M s.σ,x∈s.σ:=λx hx=>(lK hx).1;have hsatM:=hs.sat.sub hsub1 (xB hs.sat.nodup);have hsatR:=hs.sat.sub hsub2 (rf hs.sat.nodup);have hap:∀b∈g_ H (jr M s.σ),b∉g_ H (kM M s.σ):=by
  intro b hb hc;obtain⟨x,hx,hbx⟩:=aX.1 hb;obtain⟨y,hy,hby⟩:=aX.1 hc;exact ur hs.sat.nodup (hsub2 x hx) (hsub1 y hy) (λe=>(lK hx).2 (by rw[e];exact (vl hy).2)) b hbx hby
 have hmono:∀{τ:Heap},(∀x∈τ,x∈s.σ)->∀b∈g_ H τ,b∈g_ H s.σ:=λhm b hb=>by
  obtain⟨x,hx,hbx⟩:=aX.1 hb;exact aX.2 ⟨x,hm x hx,hbx⟩
 have hcfr:=hs.fr;have hlnx:=mG (σ:=kM M s.σ) (λx hx=>hs.sat.holds x (hsub1 x hx)) (λx hx=>hs.sat.ids x (hsub1 x hx));have hsatL:=hsatR.QD hlnx;have eL:g_ H (jr M s.σ++mF (kM M s.σ))=g_ H (jr M s.σ):=by rw[il,lX,aZ]
 have:=h s.n H (g_ H (kM M s.σ)) w.drew hs.n hg hsatL (by rw[eL];exact hap) (λb hb=>hs.sat.free b (hmono hsub1 b hb)) (λH' s' w' hs'=>?_) H a w.drew ⟨hs.n,hsatM,Fr.refl _ _ _⟩ ha (λt g hl=>ha.env t g hl)
 ·simpa using this
 suffices hmain:iQ cx H' ⟨s'.ρ,s'.σ++jr M s.σ,s'.n⟩ w' by
  have hl2:=Tq (w':=w') hs'.fr.le hlnx;have e2:g_ H' ((s'.σ++jr M s.σ)++mF (kM M s.σ))=g_ H' (s'.σ++jr M s.σ):=by rw[il,lX,aZ]
  rw[<-aS];exact⟨hmain.n,hmain.sat.QD hl2,by simp only;rw[e2];exact hmain.fr⟩
 have hfr:Fr H (g_ H (kM M s.σ)) w.drew H' (g_ H' s'.σ) w':=hs'.fr;have hle:=hfr.le;have hblr:g_ H' (jr M s.σ)=g_ H (jr M s.σ):=nD hle (λx hx=>hs.sat.ids x (hsub2 x hx));refine⟨hs'.n,⟨hs'.sat.ro,λx hx=>?_,?_,λb hb=>?_,λx hx=>?_⟩,?_⟩
 ·rcases aE.1 hx with hx|hx
  ·exact hs'.sat.holds x hx
  refine lu (w:=w.drew) (λb hb=>?_) (nO hle (hs.sat.ids x (hsub2 x hx)) (hs.sat.holds x (hsub2 x hx)));rw[pF hle (hs.sat.ids x (hsub2 x hx))]at hb;have hbm:b∈g_ H (jr M s.σ):=aX.2 ⟨x,hx,hb⟩;exact hfr.keep b (hs.sat.lt b (hmono hsub2 b hbm)) (hap b hbm)
 ·simp only;rw[il,hblr];refine a8.2 ⟨hs'.sat.nodup,hsatR.nodup,λb hb c hc e=>?_⟩;subst e;rcases hfr.own b hb with h1|h1
  ·exact hap b hc h1
  have:=hs.sat.lt b (hmono hsub2 b hc);omega
 ·simp only at hb;rw[il,hblr]at hb;rcases aE.1 hb with hb|hb
  ·exact hs'.sat.free b hb
  cases hrb:H'.ro b with
  |none=>rfl
  |some o=>
   rcases hfr.fro b (hsatR.free b hb) (by rw[hrb];simp) with h1|h1
   ·exact (hap b hb h1).elim
   have:=hs.sat.lt b (hmono hsub2 b hb);omega
 ·simp only at hx;rcases aE.1 hx with hx|hx
  ·exact hs'.sat.ids x hx
  exact a_ (hs.sat.ids x (hsub2 x hx)) hle.n
 refine⟨hfr.os.trans hcfr.os,hfr.tape.trans hcfr.tape,hfr.output.trans hcfr.output,bE hcfr.size hfr.size,λb h1 h2=>?_,λb hb=>?_,λb h1 h2=>?_,hcfr.le.trans hle⟩
 ·rw[hfr.keep b (a_ h1 hcfr.size) (λhb=>?_)]
  ·exact hcfr.keep b h1 h2
  rcases hcfr.own b (hmono hsub1 b hb) with h3|h3
  ·exact h2 h3
  omega
 ·simp only at hb;rw[il,hblr]at hb;rcases aE.1 hb with hb|hb
  ·rcases hfr.own b hb with h3|h3
   ·exact hcfr.own b (hmono hsub1 b h3)
   exact .inr (bE hcfr.size h3)
  exact hcfr.own b (hmono hsub2 b hb)
 by_cases h3:H.ro b=none
 ·rcases hfr.fro b h3 h2 with h4|h4
  ·exact hcfr.own b (hmono hsub1 b h4)
  exact .inr (bE hcfr.size h4)
 exact hcfr.fro b h1 h3
end
def vC:List Nat->List Nat->Bool
 | [],[]=>true
 |x::xs,y::ys=>Nat.beq x y&&vC xs ys
 |_,_=>false
def iV:∀{xs ys:List Nat},vC xs ys=true->xs=ys
 | [],[],_=>rfl
 |x::xs,y::ys,h=>by
  simp only[vC,aG]at h;rw[beq_eq h.1,iV h.2]
 | [],_::_,h=>by simp[vC]at h
 |_::_,[],h=>by simp[vC]at h
def sW(ops:List Oper)(e:Bool):List (Nat×Bool)->List Bool->Bool
 | [],listed=>bif e then (Region.ready .any ops.toArray listed.toArray).isEmpty else true
 | (i,l)::r,listed=>match ops[i]? with
  |some o=>(bif oG o.op&& !l then (Region.ready .any ops.toArray listed.toArray).contains i&&Region.free .any ops.toArray listed.toArray i else vC (Region.ready .any ops.toArray listed.toArray) [i])&&sW ops e r (listed.set i true)
  |none=>false
def r4(cx:Cx)(T:jz)(ops:List Oper)(k:List It)(σs:Heap)(e:Bool):List (Nat×Bool)->Nat->List Bool->Env->St->Prop
 | [],fuel,listed,ρq,s=>bif e then (match s with|⟨ρ,σ,m⟩=>kG (σ++σs) λσ=>JK cx T k ⟨ρ,σ,m⟩) else RA cx T ops k σs ρq fuel listed s
 |_::_,0,_,_,_=>False
 | (i,l)::r,fuel+1,listed,ρq,s=>match s with
  |⟨ρ,σ,m⟩=>match ops[i]? with
   |some o=>bif oG o.op&& !l then
     wZ ops ρq o.guard (λρq'=>pv cx.pg ρq' σs o.op λg=>nf g λg=>iO cx.N ρ o.dst g λρ'=>p9 (vp ρq' o.dst g) λρq=>r4 cx T ops k σs e r fuel (listed.set i true) ρq ⟨ρ',σ,m⟩)
      (λρq'=>iO cx.N ρ o.dst (.v undef) λρ'=>p9 (vp ρq' o.dst (.v undef)) λρq=>r4 cx T ops k σs e r fuel (listed.set i true) ρq ⟨ρ',σ,m⟩)
    else bif mS ops ρ o.guard then bif oG o.op then
     pv cx.pg ρ (σ++σs) o.op λg=>nf g λg=>iO cx.N ρ o.dst g λρ'=>p9 (oS ρq o.dst g) λρq=>r4 cx T ops k σs e r fuel (listed.set i true) ρq ⟨ρ',σ,m⟩
     else
     ub cx false ⟨ρ,σ,m⟩ o (λs'=>p9 (oS ρq o.dst (match s'.ρ with| (_,g)::_=>g| []=>.v undef)) λρq=>r4 cx T ops k σs e r fuel (listed.set i true) ρq s') (λ_=>False) ρ
    else bif B8 ops ρ o.guard then iO cx.N ρ o.dst (.v undef) λρ'=>p9 (vp ρq o.dst (.v undef)) λρq=>r4 cx T ops k σs e r fuel (listed.set i true) ρq ⟨ρ',σ,m⟩
    else False
   |none=>False
section
variable {cx:Cx}{T:jz}
def RA.skip {ops:List Oper} {k:List It} {σs:Heap} {ρq:Env} {fuel:Nat} {listed:List Bool} {s:St} (i:Nat) {o:Oper} (hi:ops[i]? =some o) (hr:Region.ready .any ops.toArray listed.toArray=[i]) (hgd:B8 ops s.ρ o.guard=true)
  (h:iO cx.N s.ρ o.dst (.v undef) λρ'=>RA cx T ops k σs (vp ρq o.dst (.v undef)) fuel (listed.set i true) {s with ρ:=ρ'}):RA cx T ops k σs ρq (fuel+1) listed s:=by
 intro n0 H0 S0 w0 h0 g0 hσ hap hfree hlink H a w hs ha hq;refine wpAnyH_all hr aA (λj hj=>?_);have hji:j=i:=by simpa using hj
 subst hji;unfold wpOp;have hi':ops.toArray[j]? =some o:=by simpa using hi
 rw[hi'];simp only;have hw:=HY (o:=o) ha.env hgd;rw[if_neg (by simp[hw])];have hlt:=pc h;obtain⟨ρ',ha',hra⟩:=ha.iO (u:=undef) (.ro (.v undef)) h;rw[sN];exact⟨hs.keeps,hra n0 H0 S0 w0 h0 g0 hσ hap hfree hlink H (a.put o.dst undef) w (hs.ρ ρ') ha' (jH.Dt hq (λd hd=>by rw[ha.size];exact hlt d hd) (.ro (.v undef)))⟩
def RA.run{ops:List Oper}{k:List It}{σs:Heap}{e:Bool}(hp:cx.pg.Ok)(kM:Region.noSelect ops.toArray=true)(hT:∀ch s,¬T (.panic ch) s):∀(order:List (Nat×Bool)) {fuel:Nat} {listed:List Bool} {ρq:Env} {s:St},sW ops e order listed=true->r4 cx T ops k σs e order fuel listed ρq s->RA cx T ops k σs ρq fuel listed s
 | [],fuel,listed,ρq,s,hB,h=>by
  simp only[r4]at h;cases e with
  |true=>
   simp only[sW,cond_true,List.isEmpty_iff]at hB;simp only[cond_true,jy]at h;exact RA.done hB h
  |false=>exact h
 | (i,l)::r,0,_,_,_,_,h=>by simp only[r4]at h
 | (i,l)::r,fuel+1,listed,ρq,s,hB,h=>by
  obtain⟨ρ,σ,m⟩:=s;simp only[r4,oE,nc]at h;simp only[sW]at hB;cases hi:ops[i]? with
  |none=>rw[hi]at h;exact h.elim
  |some o=>
   rw[hi]at h hB;simp only[aG]at hB h;obtain⟨hB1,hB2⟩:=hB;have ih:∀ρq' s',r4 cx T ops k σs e r fuel (listed.set i true) ρq' s'->RA cx T ops k σs ρq' fuel (listed.set i true) s':=λρq' s' h'=>RA.run hp kM hT r hB2 h';cases hpu:(oG o.op&& !l) with
   |true=>
    rw[hpu]at h hB1;simp only[cond_true,aG]at h hB1;exact RA.take i hp hi kM hB1.2 hB1.1 hT ih h
   |false=>
    rw[hpu]at h hB1;simp only[cond_false]at h hB1;cases hgd:mS ops ρ o.guard with
    |false=>
     rw[hgd]at h;cases hgn:B8 ops ρ o.guard with
     |false=>rw[hgn]at h;exact h.elim
     |true=>
      rw[hgn]at h;refine RA.skip i hi (iV hB1) hgn ?_
      revert h
      cases o.dst with
      |none=>exact λh=>ih _ _ h
      |some d=>
       simp only[iO,cond_true,cond_false];cases Nat.blt d cx.N with
       |false=>exact λh=>h
       |true=>simp only[cond_true,nc];exact λh=>ih _ _ h
    |true=>
     rw[hgd]at h;cases hpp:oG o.op with
     |true=>
      rw[hpp]at h;exact RA.read i hp hi (iV hB1) hgd ih h
     |false=>
      rw[hpp]at h;exact RA.mem i hp hi (iV hB1) hgd hpp ih h
end
abbrev tk(l:List Nat):List (Nat×Bool):=l.map (·,false)
abbrev al(l:List Nat):List (Nat×Bool):=l.map (·,true)
section
variable {p:Pg}
def Ct.jK {f:FuncId} {n0:Nat} {args:List GV} {σ:Heap} {Q Q':GV->Heap->Nat->Prop} (h:Ct p f n0 args σ Q)
  (hQ:∀g σ' n',Q g σ' n'->∃(r:Nat->Nat) (g0:GV) (τ:Heap) (m:Nat),Q' g0 τ m/\g=jW r g0/\o7 r τ σ'/\(iy m g0&&iL m τ&&iu (iv r τ)&&jf r n0&&Nat.ble n0 m)=true):Ct p f n0 args σ Q':=by
 intro H us w hn hg hc hs;refine Calls.mono (h H us w hn hg hc hs) (λe w' he=>?_);obtain⟨u,g,H',σ',rfl,hi,hs',hfr,hq⟩:=he;obtain⟨r,g0,τ,m,hq',rfl,hl,hchk⟩:=hQ g σ' _ hq;obtain⟨h1,h2,h3,h4,h5⟩:=O_ hchk;obtain⟨hsat,hbl⟩:=hs'.part hl h2 h3;have hfix:=xV h4;have hm:=bA h5;refine⟨u,g0,H'.via r m,τ,rfl,ql hi h1,hsat,⟨hfr.os,hfr.tape,hfr.output,hfr.size,hfr.keep,λb hb=>?_,hfr.fro,⟨by rw[hn];exact hm,hfr.le.ro,λi hi=>?_,λi hi=>?_⟩⟩,hq'⟩
 ·obtain⟨x,hx,_,hbx⟩:=hbl b hb;exact hfr.own b (aX.2 ⟨x,hx,hbx⟩)
 ·show H'.bl (r i)=_;rw[hfix i az];exact hfr.le.bl i hi
 show H'.sv (r i)=_;rw[hfix i az];exact hfr.le.sv i hi
def uj(x:GV->Prop)(g:GV)(σ:Heap)(n:Nat):Prop:=x g/\σ=[]/\n=0
def Ct.val{f:FuncId}{args:List GV}{σ:Heap}{x:GV->Prop}(h:Ct p f 0 args σ λg _ _=>x g/\iy 0 g=true):Ct p f 0 args σ (uj x):=
 h.jK λg σ' n' hq=>⟨id,g,[],0,⟨hq.1,rfl,rfl⟩,(mR g).symm,trivial,by simp[hq.2,iL,iv,iu,jf]⟩
end
end Go.GK
namespace Go.GK
open Go Go.RowKit IntKind
mutual
def lJ(id sz:Nat)(rows:List (List GV)):GV->GV
 | .o j=>bif Nat.beq j id then .sl sz rows else .o j
 | .agg cs=>.agg (pd id sz rows cs)
 | .tup cs=>.tup (pd id sz rows cs)
 | .fn f aas cs=>.fn f (pd id sz rows aas) (pd id sz rows cs)
 | .ifc t x=>.ifc t (lJ id sz rows x)
 | .v x=>.v x
 | .b c=>.b c
 | .p j off=>.p j off
 | .e j z i off=>.e j z i off
 | .r cs=>.r cs
 | .sl z r=>.sl z r
def pd(id sz:Nat)(rows:List (List GV)):List GV->List GV
 | []=>[]
 |g::r=>lJ id sz rows g::pd id sz rows r
end
def zJ(id sz:Nat)(rows:List (List GV)):Env->Env
 | []=>[]
 | (t,g)::r=>(t,lJ id sz rows g)::zJ id sz rows r
def Of(id sz:Nat)(rows:List (List GV)):hY->hY
 | .hZ ty cs=>.hZ ty (pd id sz rows cs)
 | .row ty z rs=>.row ty z rs
 | .ob o=>.ob o
 | .ln sz n=>.ln sz n
 | .sub i z lo n=>.sub i z lo n
 | .mp kd es=>.mp kd (es.map λx=>(x.1,lJ id sz rows x.2))
 | .mr kd es left cur=>.mr kd (es.map λx=>(x.1,lJ id sz rows x.2)) left cur
 | .itr m=>.itr m
 | .me kd es k st=>.me kd (es.map λx=>(x.1,lJ id sz rows x.2)) k st
 | .mre kd es left cur k st=>.mre kd (es.map λx=>(x.1,lJ id sz rows x.2)) left cur k st
 | .ab A=>.ab A
def tY(id sz:Nat)(rows:List (List GV)):Heap->Heap
 | []=>[]
 | (j,x)::r=>(j,Of id sz rows x)::tY id sz rows r
def yj(id sz:Nat)(rows:List (List GV)):∀(l:List GV) (j:Nat),(pd id sz rows l)[j]? =(l[j]?).map (lJ id sz rows)
 | [],j=>by simp[pd]
 |g::r,0=>by simp[pd]
 |g::r,j+1=>by simp[pd,yj id sz rows r j]
def og(id sz:Nat)(rows:List (List GV)):∀(l:List GV),(pd id sz rows l).length=l.length
 | []=>rfl
 |_::r=>by simp[pd,og id sz rows r]
def zH(id sz:Nat)(rows:List (List GV)):∀(ρ:Env) (t:Nat),look (zJ id sz rows ρ) t=(look ρ t).map (lJ id sz rows)
 | [],t=>rfl
 | (s,g)::r,t=>by
  simp only[zJ,look];cases Nat.beq s t with
  |true=>rfl
  |false=>exact zH id sz rows r t
def ve{id sz:Nat}{rows:List (List GV)}:∀{σ:Heap} {x:Nat×hY},x∈tY id sz rows σ->∃y∈σ,x=(y.1,Of id sz rows y.2)
 | [],_,h=>by simp[tY]at h
 | (j,y)::r,x,h=>by
  simp only[tY,aF]at h;rcases h with rfl|h
  ·exact⟨_,bf,rfl⟩
  obtain⟨z,hz,e⟩:=ve h;exact⟨z,aK _ hz,e⟩
def zK{H H':Hid}(e1:H'.bl=H.bl)(e2:H'.sv=H.sv){id sz:Nat}{rows:List (List GV)}:∀(σ:Heap),g_ H' (tY id sz rows σ)=g_ H σ
 | []=>rfl
 | (j,y)::r=>by
  simp only[tY,iD,zK e1 e2 r]
  congr 1
  cases y<;>simp[Of,blocks,e1,e2]
def Is.lJ{H H':Hid}(hro:∀b o,H.ro b=some o->H'.ro b=some o)(e1:H'.bl=H.bl)(e2:H'.sv=H.sv)(e3:H'.n=H.n){id sz:Nat}{rows:List (List GV)}(hs:jM H'.ro (.sl sz rows) (H.sv id)){g:GV}{u:Value}(h:Is H g u):Is H' (GK.lJ id sz rows g) u:=by
 have hle:H.le H':=⟨cM e3.symm,hro,λi _=>by rw[e1],λi _=>by rw[e2]⟩;have hL:∀{cs:List GV} {us:Array Value},(∀(j:Nat) (g:GV),cs[j]? =some g->Is H' (GK.lJ id sz rows g) (us.getD j undef))->∀(j:Nat) (g:GV),(pd id sz rows cs)[j]? =some g->Is H' g (us.getD j undef):=by
  intro cs us hh j g hj;rw[yj]at hj;cases hc:cs[j]? with
  |none=>rw[hc]at hj;cases hj
  |some x=>rw[hc]at hj;simp at hj;subst hj;exact hh j x hc
 induction h with
 |ro hr=>
  have hR:∀{g:GV} {u:Value},jM H.ro g u->Is H' (GK.lJ id sz rows g) u:=by
   intro g u hr;induction hr with
   |v x=>exact .ro (.v x)
   |b c=>exact .ro (.b c)
   |r us h1 h2 _=>exact .ro ((jM.r us h1 h2).mono hro)
   |slnil=>exact .ro .slnil
   |sl us h0 hc hm h1 h2 h3 _=>exact .ro ((jM.sl us h0 hc hm h1 h2 h3).mono hro)
   |agg hl _ ih=>exact .agg (by rw[og];exact hl) (hL ih)
   |tup hl _ ih=>exact .tup (by rw[og];exact hl) (hL ih)
   |fn hl _ hl' _ ih ih'=>exact .fn (by rw[og];exact hl) (hL ih) (by rw[og];exact hl') (hL ih')
   |ifc _ ih=>exact .ifc ih
  exact hR hr
 |p hid=>exact (Is.p hid).mono hle
 |e hid hs=>exact (Is.e hid hs).mono hle
 | @o j u hid hsj how=>
  simp only[GK.lJ];cases hb:Nat.beq j id with
  |true=>
   have:=beq_eq hb;subst this;rw[hsj]at hs;exact .ro hs
  |false=>exact (Is.o hid hsj how).mono hle
 |agg hl _ ih=>exact .agg (by rw[og];exact hl) (hL ih)
 |tup hl _ ih=>exact .tup (by rw[og];exact hl) (hL ih)
 |fn hl _ hl' _ ih ih'=>exact .fn (by rw[og];exact hl) (hL ih) (by rw[og];exact hl') (hL ih')
 |ifc _ ih=>exact .ifc ih
def Hr{H H':Hid}{id sz:Nat}{rows:List (List GV)}(hf:∀{g:GV} {u:Value},Is H g u->Is H' (GK.lJ id sz rows g) u):∀{es:List (Value×GV)} {l:List MapEntry},mT H es l->mT H' (es.map λx=>(x.1,GK.lJ id sz rows x.2)) l
 | [],[],_=>trivial
 | (_,_)::r,_::_,h=>⟨h.1,hf h.2.1,Hr hf (es:=r) h.2.2⟩
 | [],_::_,h=>h.elim
 |_::_,[],h=>h.elim
def kB.lJ{H H':Hid}{id sz:Nat}{rows:List (List GV)}(hf:∀{g:GV} {u:Value},Is H g u->Is H' (GK.lJ id sz rows g) u){kd:Option IntKind}{es:List (Value×GV)}{arr:Array MapEntry}{clock:Nat}(h:kB H kd es arr clock):kB H' kd (es.map λx=>(x.1,GK.lJ id sz rows x.2)) arr clock:=
 ⟨Hr hf h.is,h.sorts,h.st⟩
def kJ.sl{ro ro':Nat->Option Obj}(hro:∀b o,ro b=some o->ro' b=some o){w:World}{ty sz:Nat}{rows:List (List GV)}{xs:List Value}{v:Value}(hr:kJ ro sz rows xs)(ho:w.ownsRow 0 ty sz v rows.length xs)(hb:∀b,v.ownBlock=some b->ro' b=w.heap[b]?):jM ro' (.sl sz rows) v:=by
 obtain⟨hxl,hor⟩:=ho;rcases hor with ⟨rfl,hn⟩|⟨g,cap,cur,rfl,_,hw,hcap,hmax,hcs,htk⟩
 ·have:rows=[]:=ca.1 hn;subst this;exact .slnil
 have hbg:=hb g rfl;rw[hw]at hbg;have hlk:∀(i:Nat) (row:List GV),rows[i]? =some row->∀(j:Nat) (x:GV),row[j]? =some x->i*sz+j<rows.length*sz:=by
  intro i row hi j x hj;have h1:=(aO.1 hi).1;have h2:=(aO.1 hj).1;rw[hr.each row (bp hi)]at h2;have:(i+1)*sz<=rows.length*sz:=bH _ h1;rw[cg,fT]at this;omega
 refine .sl (λi j=>(xs[i*sz+j]?).getD (.int .i64 0)) hr.each hcap hmax (λi row hi j x hj=>?_) (λi row hi j x hj=>?_) λi j=>?_
 ·obtain⟨u,hu,_⟩:=hr.is i row hi j x hj;have hlt:=hlk i row hi j x hj;have hc:cur[i*sz+j]? =some u:=by
   rw[<-htk,bD,if_pos hlt]at hu;simpa using hu
  have hbk:∀(n:Nat),cur[n]? =some u->pn ro' ⟨g,n,none⟩=some u:=λn hn=>by simp[pn,hbg,hn]
  have hu':(xs[i*sz+j]?).getD (.int .i64 0)=u:=by rw[hu];rfl
  rw[hu'];unfold Addr.add;split
  ·rename_i h0;exact hbk 0 (by rw[show i*sz+j=0 by simpa using h0]at hc;exact hc)
  simpa using hbk _ hc
 ·obtain⟨u,hu,hi'⟩:=hr.is i row hi j x hj;simp only[hu,dP];exact hi'.mono hro
 cases hx:xs[i*sz+j]? with
 |none=>rfl
 |some u=>exact hr.one u (bp hx)
section
variable {cx:Cx}{T:jz}
def JK.CL{k:List It}{s:St}(s':St)(h:∀H a w,iX cx.pg H->iQ cx H s w->kr cx H s.ρ a->∃H',iX cx.pg H'/\iQ cx H' s' w/\kr cx H' s'.ρ a)(hk:JK cx T k s'):JK cx T k s:=λH a w hg hs ha=>by
 obtain⟨H',hg',hs',ha'⟩:=h H a w hg hs ha;exact hk H' a w hg' hs' ha'
def JK.freeze{k:List It}{s:St}(id:Nat){ty sz:Nat}{rows:List (List GV)}(hl:gW s.σ id=some (.row ty sz rows))(h:kG (tY id sz rows (jQ s.σ id)) λσ=>JK cx T k ⟨zJ id sz rows s.ρ,σ,s.n⟩):JK cx T k s:=by
 rw[jy]at h;refine JK.CL _ (λH a w hg hs ha=>?_) h;obtain⟨l1,l2,e1,e2,_⟩:=kU hl;have hmem:=ib hl;obtain⟨xs,hown,hrow⟩:=hs.sat.holds _ hmem
 let ro':Nat->Option Obj:=λb=>if (H.sv id).ownBlock=some b then w.heap[b]? else H.ro b
 have hfree:∀b,(H.sv id).ownBlock=some b->H.ro b=none:=λb hb=>hs.sat.free b (aX.2 ⟨_,hmem,by simp[blocks,hb]⟩);have hro:∀b o,H.ro b=some o->ro' b=some o:=by
  intro b o ho;show (if _ then _ else _)=_;rw[if_neg (λhb=>by rw[hfree b hb]at ho;cases ho)];exact ho
 let H':Hid:={H with ro:=ro'}
 have hle:H.le H':=⟨aL _,hro,λ_ _=>rfl,λ_ _=>rfl⟩;have hsl:jM ro' (.sl sz rows) (H.sv id):=hrow.sl hro hown (λb hb=>by show (if _ then _ else _)=_;rw[if_pos hb]);have hfz:∀{g:GV} {u:Value},Is H g u->Is H' (lJ id sz rows g) u:=λhi=>Is.lJ (H':=H') hro rfl rfl rfl hsl hi;have hfr:=hs.fr;have hnd:=hs.sat.nodup;have hbl:g_ H' (tY id sz rows (jQ s.σ id))=g_ H (l1++l2):=by rw[e2];exact zK rfl rfl _
 rw[e1,il,iD]at hnd;have n1:=a8.1 hnd;have n2:=a8.1 n1.2.1;have hin:∀b∈g_ H (l1++l2),b∈g_ H s.σ:=λb hb=>by
  rw[e1,il,iD];rw[il]at hb;rcases aE.1 hb with h1|h1<;>simp[h1]
 have hnin:∀b∈g_ H (l1++l2),(H.sv id).ownBlock≠some b:=λb hb hc=>by
  have hc':b∈blocks H (id,.row ty sz rows):=by simp[blocks,hc]
  rw[il]at hb;rcases aE.1 hb with h1|h1
  ·exact n1.2.2 b h1 b (by simp[hc']) rfl
  exact n2.2.2 b hc' b h1 rfl
 refine⟨H',hg.up hro,⟨hs.n,⟨λb o ho=>?_,λx hx=>?_,?_,λb hb=>?_,λx hx=>?_⟩,?_⟩,⟨λt g hlk=>?_,ha.size,ha.defers⟩⟩
 ·have ho':(if (H.sv id).ownBlock=some b then w.heap[b]? else H.ro b)=some o:=ho;split at ho'
  ·exact ho'
  exact hs.sat.ro b o ho'
 ·obtain⟨y,hy,rfl⟩:=ve hx;rw[e2]at hy;have hy':y∈s.σ:=by
   rw[e1];rcases aE.1 hy with h1|h1<;>simp[h1]
  have hh:=hs.sat.holds y hy';obtain⟨j,r⟩:=y;cases r with
  |hZ ty cs=>
   obtain⟨us,hw,hlen,hi⟩:=hh;refine⟨us,hw,by rw[og];exact hlen,λj g hj=>?_⟩;rw[yj]at hj;cases hc:cs[j]? with
   |none=>rw[hc]at hj;cases hj
   |some x=>rw[hc]at hj;simp at hj;subst hj;exact hfz (hi j x hc)
  |row ty z rs=>obtain⟨ys,h1,h2⟩:=hh;exact⟨ys,h1,h2.mono hro⟩
  |ob o=>exact hh
  |ln z n=>exact hh
  |sub i z lo n=>exact hh
  |mp kd es=>
   obtain⟨b,arr,clock,h1,h2,h3⟩:=hh;exact⟨b,arr,clock,h1,h2,h3.lJ hfz⟩
  |mr kd es left cur=>
   obtain⟨b,arr,clock,seen,h1,h2,h3,h4,h5⟩:=hh;exact⟨b,arr,clock,seen,h1,h2,h3,h4.lJ hfz,h5⟩
  |itr m=>exact hh
  |me kd es k st=>
   obtain⟨h0,b,arr,clock,h1,h2,h3,h4⟩:=hh;exact⟨h0,b,arr,clock,h1,h2,h3.lJ hfz,h4⟩
  |ab A=>exact A.mono _ _ _ _ _ hro hh
  |mre kd es left cur k st=>
   obtain⟨h0,b,arr,clock,seen,h1,h2,h3,h4,h5⟩:=hh;exact⟨h0,b,arr,clock,seen,h1,h2,h3,h4.lJ hfz,h5⟩
 ·rw[hbl,il];exact a8.2 ⟨n1.1,n2.2.1,λb hb c hc e=>n1.2.2 b hb c (by simp[hc]) e⟩
 ·rw[hbl]at hb;show (if _ then _ else _)=_;rw[if_neg (hnin b hb)];exact hs.sat.free b (hin b hb)
 ·obtain⟨y,hy,rfl⟩:=ve hx;rw[e2]at hy;refine hs.sat.ids y ?_;rw[e1];rcases aE.1 hy with h1|h1<;>simp[h1]
 ·refine⟨hfr.os,hfr.tape,hfr.output,hfr.size,hfr.keep,λb hb=>?_,λb h1 h2=>?_,hfr.le.trans hle⟩
  ·rw[hbl]at hb;exact hfr.own b (hin b hb)
  have h2':(if (H.sv id).ownBlock=some b then w.heap[b]? else H.ro b)≠none:=h2;split at h2'
  ·rename_i hb
   exact hfr.own b (aX.2 ⟨_,hmem,by simp[blocks,hb]⟩)
  exact hfr.fro b h1 h2'
 rw[zH]at hlk;cases hc:look s.ρ t with
 |none=>rw[hc]at hlk;cases hlk
 |some x=>rw[hc]at hlk;simp at hlk;subst hlk;exact hfz (ha.env t x hc)
end
end Go.GK
namespace Go.GK
open Go Go.RowKit IntKind
section
variable {cx:Cx}{T:jz}
def jH.cons{H:Hid}{ρ:Env}{a:Act}(h:jH H ρ a){t:Nat}{g:GV}(hg:Is H g (a.tmps.getD t undef)):jH H ((t,g)::ρ) a:=by
 intro x g' hx;unfold look at hx;cases hb:Nat.beq t x with
 |true=>rw[hb]at hx;have:=beq_eq hb;subst this;simp at hx;subst hx;exact hg
 |false=>rw[hb]at hx;exact h x g' (by simpa using hx)
def JK.kx{k:List It}{s:St}(t ty sz:Nat)(hl:look s.ρ t=some (.v (.slice none 0 0)))(h:kW (s.n+1) λm=>JK cx T k ⟨(t,.o s.n)::s.ρ,(s.n,.row ty sz [])::s.σ,m⟩):JK cx T k s:=by
 rw[j9]at h;refine JK.CL _ (λH a w hg hs ha=>?_) h;have hle:=H.km 0 (.slice none 0 0);have hv:a.tmps.getD t undef=.slice none 0 0:=(ha.env t _ hl).iH;have e:(H.more 0 (.slice none 0 0)).sv s.n=.slice none 0 0:=by simp[Hid.more,hs.n]
 refine⟨H.more 0 (.slice none 0 0),hg.mono hle,hs.grow hle rfl (by simp[Hid.more,hs.n]) (Below.refl _ _) ?_ (by simp[blocks,e,Value.ownBlock]) (by simp[blocks,e,Value.ownBlock]) _,⟨((ha.mono hle).env).cons ?_,ha.size,ha.defers⟩⟩
 ·exact⟨[],⟨aA,.inl ⟨e,rfl⟩⟩,⟨aA,aA,aA,aA⟩⟩
 rw[hv];exact .o (by simp[Hid.more,hs.n]) e rfl
def JK.Km{k:List It}{s:St}(t sz:Nat)(hl:look s.ρ t=some (.v (.slice none 0 0)))(h:JK cx T k ⟨(t,.sl sz [])::s.ρ,s.σ,s.n⟩):JK cx T k s:=by
 refine JK.CL _ (λH a w hg hs ha=>⟨H,hg,hs.ρ _,⟨ha.env.cons ?_,ha.size,ha.defers⟩⟩) h;rw[(ha.env t _ hl).iH];exact .ro .slnil
def jM.Dc{ro:Nat->Option Obj}{sz:Nat}{rows:List (List GV)}{u:Value}(h:jM ro (.sl sz rows) u):rows.length<=maxLen/\∀row∈rows,row.length=sz:=by
 cases h with
 |slnil=>simp
 |sl us h0 hc hm h1 h2 h3=>exact⟨bE hc hm,h0⟩
def JK.len{k:List It}{s:St}(t:Nat){sz:Nat}{rows:List (List GV)}(hl:look s.ρ t=some (.sl sz rows))(h:rows.length<=maxLen->(∀row∈rows,row.length=sz)->JK cx T k s):JK cx T k s:=λH a w hg hs ha=>by
 have:=ha.env t _ hl;cases this with
 |ro hr=>exact h hr.Dc.1 hr.Dc.2 H a w hg hs ha
def Ct.len{p:Pg}{f:FuncId}{n0:Nat}{args:List GV}{σ:Heap}{Q:GV->Heap->Nat->Prop}(j:Nat){sz:Nat}{rows:List (List GV)}(hj:args[j]? =some (.sl sz rows))(h:rows.length<=maxLen->(∀row∈rows,row.length=sz)->Ct p f n0 args σ Q):Ct p f n0 args σ Q:=λH us w hn hg hc hs=>by
 have:=hc.2 j _ hj;cases this with
 |ro hr=>exact h hr.Dc.1 hr.Dc.2 H us w hn hg hc hs
def Ct.bool{p:Pg}{f:FuncId}{args:List GV}{σ:Heap}{c:Bool}(h:Ct p f 0 args σ λg _ _=>g=.v (.bool c)\/g=.b c):Ct p f 0 args σ (uj λg=>g=.b c):=λH us w hn hg hc hs=>by
 refine Calls.mono (h H us w hn hg hc hs) (λe w' he=>?_);obtain⟨u,g,H',σ',rfl,hi,hs',hfr,hq⟩:=he;have hu:u=.bool c:=by
  rcases hq with rfl|rfl
  ·exact hi.iH
  exact hi.nF
 subst hu;have hpart:=hs'.part (f:=id) (n:=0) (τ:=[]) trivial rfl rfl;refine⟨_,.b c,H'.via id 0,[],rfl,.ro (.b c),hpart.1,⟨hfr.os,hfr.tape,hfr.output,hfr.size,hfr.keep,by simp[g_],hfr.fro,⟨by rw[hn];exact aL _,hfr.le.ro,λi hi=>az,λi hi=>az⟩⟩,rfl,rfl,rfl⟩
end
end Go.GK
namespace Go.GK
open Go.RowKit Go.ChangeShapes Go.WideShapes
open IntKind
inductive Sh where
 |int (k:IntKind)|bool|str
 |slice (cs:List Sh)
mutual
def fits:Sh->GV->Prop
 | .int k,g=>∃n,g=.v (.int k n)/\(Lit.int k n).wf=true
 | .bool,g=>∃b,g=.b b
 | .str,g=>∃s:ByteArray,g=.v (.string s)/\s.size<=maxLen
 | .slice cs,g=>∃rows,g=.sl cs.length rows/\∀row∈rows,k8 cs row
def k8:List Sh->List GV->Prop
 | [],gs=>gs=[]
 |s::ss,gs=>∃g r,gs=g::r/\fits s g/\k8 ss r
end
def HQ(P:Program)(r:TypeId->Option (List Sh)):Nat->List Field->Option (List Sh)
 |_,[]=>some []
 |o,f::fs=>match r f.type with
  |some a=>bif Nat.beq f.offset o&&Nat.beq (P.cellsOf f.type) a.length then (match HQ P r (o+a.length) fs with|some b=>some (a++b)|none=>none) else none
  |none=>none
def yO(P:Program):Nat->TypeId->Option (List Sh)
 |0,_=>none
 |n+1,t=>match P.underlying t with
  |some (.int k)=>some [.int k]
  |some .bool=>some [.bool]
  |some .string=>some [.str]
  |some (.slice e)=>(match yO P n e with
   |some cs=>bif Nat.beq (P.cellsOf e) cs.length then some [.slice cs] else none
   |none=>none)
  |some (.struct fs)=>(match HQ P (yO P n) 0 fs.toList with
   |some cs=>bif Nat.beq (P.cellsOf t) cs.length then some cs else none
   |none=>none)
  |_=>none
def tS:∀{ss:List Sh} {gs:List GV},k8 ss gs->gs.length=ss.length
 | [],gs,h=>by simp only[k8]at h;subst h;rfl
 |s::ss,gs,h=>by
  simp only[k8]at h;obtain⟨g,r,rfl,_,h⟩:=h;simp[tS h]
def Ez:∀{ss tt:List Sh} {gs hs:List GV},k8 ss gs->k8 tt hs->k8 (ss++tt) (gs++hs)
 | [],tt,gs,hs,h,k=>by simp only[k8]at h;subst h;exact k
 |s::ss,tt,gs,hs,h,k=>by
  simp only[k8]at h;obtain⟨g,r,rfl,h1,h⟩:=h;show k8 (s::(ss++tt)) _;simp only[k8];exact⟨g,r++hs,rfl,h1,Ez h k⟩
def sf(w:World):Nat->Option Obj:=λb=>w.heap[b]?
section
variable {Hh:Type}{enc:TypeId×Value->Hh}{P:Program}{w:World}{base:Nat}{spare:Nat->Bool}{held:Bool}
def yI(ro:Nat->Option Obj)(gs:List GV)(cs:List Value):Prop:=gs.length=cs.length/\∀(j:Nat) (g:GV),gs[j]? =some g->∃u,cs[j]? =some u/\jM ro g u/\u.oneCell'=true
def yI.app{ro:Nat->Option Obj}{gs hs:List GV}{cs ds:List Value}(h:yI ro gs cs)(k:yI ro hs ds):yI ro (gs++hs) (cs++ds):=by
 refine⟨by simp[h.1,k.1],λj g hj=>?_⟩;by_cases hlt:j<gs.length
 ·rw[bc hlt]at hj;obtain⟨u,hu,h2⟩:=h.2 j g hj;exact⟨u,by rw[bc (by rw[<-h.1];exact hlt)];exact hu,h2⟩
 rw[aU az]at hj;obtain⟨u,hu,h2⟩:=k.2 _ g hj;exact⟨u,by rw[aU (by rw[<-h.1];omega),<-h.1];exact hu,h2⟩
def yI.one{ro:Nat->Option Obj}{g:GV}{u:Value}(h:jM ro g u)(h1:u.oneCell'=true):yI ro [g] [u]:=by
 refine⟨rfl,λj g' hj=>?_⟩;cases j with
 |zero=>simp at hj;subst hj;exact⟨u,rfl,h,h1⟩
 |succ j=>simp at hj
def A_(r:TypeId->Option (List Sh))(fuel:Nat)(hr:∀t cs shs x,DataW.trod enc P w base spare held fuel t cs=some x->r t=some shs->∃gs,k8 shs gs/\yI (sf w) gs cs)(cs:List Value):
  ∀(o:Nat) (fs:List Field) (shs:List Sh),HQ P r o fs=some shs->(∀f∈fs,∃x,DataW.trod enc P w base spare held fuel f.type ((cs.drop f.offset).take (P.cellsOf f.type))=some x)->
   ∃gs,k8 shs gs/\yI (sf w) gs ((cs.drop o).take shs.length)/\(shs.length=((cs.drop o).take shs.length).length)
 |o,[],shs,h,_=>by
  simp only[HQ,aV]at h;subst h;exact⟨[],rfl,⟨rfl,aA⟩,rfl⟩
 |o,f::fs,shs,h,hf=>by
  simp only[HQ]at h;cases ha:r f.type with
  |none=>rw[ha]at h;cases h
  |some a=>
   rw[ha]at h;simp only[]at h;cases hb:(Nat.beq f.offset o&&Nat.beq (P.cellsOf f.type) a.length) with
   |false=>rw[hb]at h;cases h
   |true=>
    rw[hb]at h;simp only[cond_true]at h;simp only[aG]at hb;have e1:=beq_eq hb.1;have e2:=beq_eq hb.2;cases hs:HQ P r (o+a.length) fs with
    |none=>rw[hs]at h;cases h
    |some b=>
     rw[hs]at h;simp only[aV]at h;subst h;obtain⟨gs,h1,h2,h3⟩:=A_ r fuel hr cs (o+a.length) fs b hs (λg hg=>hf g (aK _ hg));obtain⟨x,hx⟩:=hf f aA;rw[e1,e2]at hx;obtain⟨gs',k1,k2⟩:=hr _ _ _ _ hx ha;have hl:a.length=((cs.drop o).take a.length).length:=by rw[<-k2.1,tS k1]
     have e:(cs.drop o).take (a++b).length=(cs.drop o).take a.length++(cs.drop (o+a.length)).take b.length:=by
      rw[aI,List.take_add,dO]
     refine⟨gs'++gs,Ez k1 h1,?_,?_⟩
     ·rw[e];exact k2.app h2
     rw[e,aI,aI,<-hl,<-h3]
def DO:∀(n fuel:Nat) (t:TypeId) (cs:List Value) (shs:List Sh) (x:DataW Hh×List MemPlace),DataW.trod enc P w base spare held fuel t cs=some x->yO P n t=some shs->∃gs,k8 shs gs/\yI (sf w) gs cs
 |0,_,_,_,_,_,_,h=>by simp[yO]at h
 |n+1,fuel,t,cs,shs,x,hd,hs=>by
  unfold yO at hs;cases hu:P.underlying t with
  |none=>rw[hu]at hs;cases hs
  |some d=>
   rw[hu]at hs;cases d<;>simp only[aV]at hs<;> (try (cases hs;done))
   case int k=>
    subst hs;obtain⟨m,rfl,_,hw⟩:=DataW.trod_int hu hd;exact⟨[.v (.int k m)],⟨_,_,rfl,⟨m,rfl,hw⟩,rfl⟩,.one (.v _) rfl⟩
   case bool=>
    subst hs;obtain⟨b,rfl,_⟩:=DataW.trod_bool hu hd;exact⟨[.b b],⟨_,_,rfl,⟨b,rfl⟩,rfl⟩,.one (.b _) rfl⟩
   case string=>
    subst hs;obtain⟨s,rfl,_,hw⟩:=DataW.trod_string hu hd;exact⟨[.v (.string s)],⟨_,_,rfl,⟨s,rfl,hw⟩,rfl⟩,.one (.v _) rfl⟩
   case slice e=>
    cases he:yO P n e with
    |none=>rw[he]at hs;cases hs
    |some es=>
     rw[he]at hs;simp only[]at hs;cases hb:Nat.beq (P.cellsOf e) es.length with
     |false=>rw[hb]at hs;cases hs
     |true=>
      rw[hb]at hs;simp only[cond_true,aV]at hs;subst hs;have hc:=beq_eq hb;rcases Go.Deep.open_slice hu hd with ⟨rfl,_⟩|⟨a,len,cap,m,n',D,Pl,rfl,hba,hl,hmax,hm,_,hi⟩
      ·exact⟨[.sl es.length []],⟨_,_,rfl,⟨[],rfl,aA⟩,rfl⟩,.one .slnil rfl⟩
      have hlm:len<=m:=by rw[hm];split<;>omega
      have hex:∀i,i<len->∃y:List GV×List Value,k8 es y.1/\yI (sf w) y.1 y.2/\w.cells? base (a.add (i*es.length)) es.length=some y.2:=λi hi'=>by
       obtain⟨cs',h1,h2⟩:=hi i az;obtain⟨gs,h3,h4⟩:=DO n n' e cs' es _ h2 he;exact⟨(gs,cs'),h3,h4,by rw[<-hc];exact h1⟩
      obtain⟨f,hf⟩:=Go.Deep.choose_lt hex;refine⟨[.sl es.length ((List.range len).map λi=>(f i).1)],⟨_,_,rfl,⟨_,rfl,λrow hrow=>?_⟩,rfl⟩,.one ?_ rfl⟩
      ·obtain⟨i,hi1,rfl⟩:=ba.1 hrow;exact (hf i (eE.1 hi1)).1
      have hlen:len=((List.range len).map λi=>(f i).1).length:=aA
      have hget:∀(i:Nat) (row:List GV),((List.range len).map λi=>(f i).1)[i]? =some row->i<len/\row=(f i).1:=λi row hr=>by
       have hi1:i<len:=by have:=(aO.1 hr).1;simpa using this
       rw[bg,fO hi1]at hr;simp at hr;exact⟨hi1,hr.symm⟩
      have key:=jM.sl (ro:=sf w) (ad:=a) (sz:=es.length) (rows:=(List.range len).map λi=>(f i).1) (c:=cap) (λi j=>if i<len then (if ((f i).2[j]?.getD (.bool false)).oneCell' then (f i).2[j]?.getD (.bool false) else .bool false) else .bool false) (λrow hrow=>?_) (by simpa using hl) hmax ?_ ?_ ?_
      ·rw[<-hlen]at key;exact key
      ·obtain⟨i,hi1,rfl⟩:=ba.1 hrow;exact tS (hf i (eE.1 hi1)).1
      ·intro i row hr j g hj;obtain⟨hi1,rfl⟩:=hget i row hr;obtain⟨h1,h2,h3⟩:=hf i hi1;obtain⟨u,hu1,hu2,hu3⟩:=h2.2 j g hj;obtain⟨_,hcl,hcc⟩:=World.cells?_some h3;have hj1:j<es.length:=by have:=(aO.1 hj).1;rw[tS h1]at this;exact this
       have:=hcc j hj1;rw[hu1,Go.Deep.add_add]at this;simp only[hi1,if_true,hu1,dP,hu3];exact this
      ·intro i row hr j g hj;obtain⟨hi1,rfl⟩:=hget i row hr;obtain⟨h1,h2,h3⟩:=hf i hi1;obtain⟨u,hu1,hu2,hu3⟩:=h2.2 j g hj;simp only[hi1,if_true,hu1,dP,hu3];exact hu2
      intro i j;show Value.oneCell' (if i<len then _ else _)=true;split
      ·split
       ·assumption
       rfl
      rfl
   case struct fs=>
    cases he:HQ P (yO P n) 0 fs.toList with
    |none=>rw[he]at hs;cases hs
    |some ss=>
     rw[he]at hs;simp only[]at hs;cases hb:Nat.beq (P.cellsOf t) ss.length with
     |false=>rw[hb]at hs;cases hs
     |true=>
      rw[hb]at hs;simp only[cond_true,aV]at hs;subst hs;obtain⟨xs,n',_,_,hcl,hxl,hf⟩:=DataW.trod_struct hu hd;obtain⟨gs,h1,h2,h3⟩:=A_ (yO P n) n' (λt cs shs x h h'=>DO n n' t cs shs x h h') cs 0 fs.toList ss he (λf hfm=>by
       obtain⟨i,hi,e⟩:=bz hfm;have hi':i<fs.size:=by simpa using hi
       have e':fs[i]? =some f:=by rw[dw hi'];rw[<-e];simp
       have hh:=hf i f e';have hix:i<xs.length:=az
       rw[aC hix]at hh;exact⟨_,hh⟩)
      refine⟨gs,h1,?_⟩;have e:(cs.drop 0).take ss.length=cs:=by rw[List.drop_zero,<-beq_eq hb,<-hcl,aT]
      rw[e]at h2;exact h2
end
def B_ {Hh:Type} {enc:TypeId×Value->Hh} {P:Program} {w:World} {base:Nat} {spare:Nat->Bool} {held:Bool} {t:TypeId} {ts:List TypeId} {v:Value} {vs:List Value} {d:DataW Hh} {ds:List (DataW Hh)} {p q:List MemPlace}
  (h:DataW.Trod enc P w base spare held t v d p) (k:DataW.TrodAll enc P w base spare held ts vs ds q):DataW.TrodAll enc P w base spare held (t::ts) (v::vs) (d::ds) (p++q):=⟨p,q,h,k,rfl⟩
theorem yR{Hh:Type}{enc:TypeId×Value→Hh}{P:Program}(hl:laidOutB P=true){W W':World}(hb:Below W.heap.size W W'){sp:Nat→Bool}:∀{ts:List TypeId} {vs:List Value} {ds:List (DataW Hh)} {ps:List MemPlace},
  (∀t∈ts,P.readableRec t=true∧t<P.types.size)→DataW.TrodAll enc P W 0 (fun _=>true) true ts vs ds ps→(∀p∈ps,p.block<W.heap.size∧sp p.block=true)→DataW.TrodAll enc P W' 0 sp true ts vs ds ps
 | [],vs,ds,ps,_,h,_=>by
  obtain⟨rfl,rfl,rfl⟩:=trodAll_nil h;exact trodAll_mk0
 |t::ts,vs,ds,ps,hr,h,hp=>by
  obtain⟨v,vs',d,ds',p,q,rfl,rfl,rfl,h1,h2⟩:=trodAll_cons h;obtain⟨r1,r2⟩:=hr t aA;exact B_ (WideElems.Trod_stays hl r1 r2 h1 (fun x hx=>hb.same (hp x (by simp[hx])).1) (fun x hx=>(hp x (by simp[hx])).2)) (yR hl hb (fun t ht=>hr t (by simp[ht])) h2 (fun x hx=>hp x (by simp[hx])))
def Hj{P:Program}{w:World}{r:Reach}{b0:Nat}{t:TypeId}{s:Sh}{n:Nat}{v:Value}(hs:yO P n t=some [s])(hv:Value.okWide P w r b0 t v)(hst:∀fs,P.underlying t≠some (.struct fs)):v.cells=#[v]:=by
 cases n with
 |zero=>simp[yO]at hs
 |succ n=>
  unfold yO at hs;cases hu:P.underlying t with
  |none=>rw[hu]at hs;cases hs
  |some d=>
   rw[hu]at hs;cases d<;>simp only[aV]at hs<;> (try (cases hs;done))
   case int k=>obtain⟨m,rfl⟩:=okWide_int hu hv;rfl
   case bool=>obtain⟨m,rfl⟩:=okWide_bool hu hv;rfl
   case string=>obtain⟨m,rfl⟩:=okWide_string hu hv;rfl
   case slice e=>obtain⟨a,l,c,rfl⟩:=okWide_slice hu hv;rfl
   case struct fs=>exact (hst fs hu).elim
def Qa {Hh:Type} {enc:TypeId×Value->Hh} {P:Program} {w:World} {base:Nat} {spare:Nat->Bool} {held:Bool} {n:Nat} {t e:TypeId} {k:IntKind} (ht:P.underlying t=some (.array n e)) (he:P.underlying e=some (.int k)) (hc:P.cellsOf e=1) {zs:List Int} (hz:zs.length=n) (hct:P.cellsOf t=n) {fuel:Nat} {cs:List Value} {ps:List MemPlace}
  (h:DataW.trod enc P w base spare held fuel t cs=some (.agg (zs.map λz=>.lit (.int k z)),ps)):cs=zs.map (Value.int k):=by
 obtain⟨xs,m1,_,hx,hlen,hn,hel⟩:=DataW.trod_array ht h;simp only[bK,DataW.agg.injEq]at hx;rw[hct]at hlen;refine List.ext_getElem aq λi h1 h2=>?_;have hi:i<xs.length:=az
 have:=hel i az;rw[hc,cX,aC hi]at this;obtain⟨m,e1,e2,_⟩:=DataW.trod_int he this;have e3:(cs.drop i).take 1=[cs[i]]:=by rw[cn h1];rfl
 rw[e3]at e1;have e4:(zs.map λz=>DataW.lit (H:=Hh) (.int k z))[i]? =(xs.map (·.1))[i]? :=by rw[hx.1]
 rw[bg,bg,aC hi,aC az,e2]at e4;simp only[cC,aV,DataW.lit.injEq,Lit.int.injEq,true_and]at e4;rw[gA,e4];simpa using e1
def Bc{Hh:Type}{enc:TypeId×Value->Hh}{P:Program}{w:World}{base:Nat}{spare:Nat->Bool}{held:Bool}:∀{ts:List TypeId} {vs:List Value} {ds:List (DataW Hh)} {ps:List MemPlace},DataW.TrodAll enc P w base spare held ts vs ds ps->ds.length=ts.length
 | [],vs,ds,ps,h=>by obtain⟨_,rfl,_⟩:=trodAll_nil h;rfl
 |t::ts,vs,ds,ps,h=>by
  obtain⟨v,vs',d,ds',p',q',rfl,rfl,rfl,_,h2⟩:=trodAll_cons h;simp[Bc h2]
section
variable {Hh:Type}{enc:TypeId×Value->Hh}{pg:Pg}
end
end Go.GK
