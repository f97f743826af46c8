/- A part of the proof of StoreGoesCardSaid. -/
import Derived.Test.YtadildidlcbbkaaGreatDoorK07
import Derived.Shelf.LaysM
import Derived.Shelf.LaysC
import Derived.Shelf.Sort.Plain
import Derived.Shelf.Slices.CompactI
import Derived.Shelf.Slices.SearchI
import Derived.Shelf.Slices.In.SortNone
import Derived.Shelf.Slices.Empties
import Derived.Test.YtadildidlcbbkaaGreatDoorProg
import Derived.Sort.OwnSortedInts
set_option linter.all false
namespace Go.Proofs.YtadildidlcbbkaaGreatDoor
open Go.GK Go.PL Go.RowKit Go.Maps
open IntKind Go.Proofs.Tryz
set_option maxRecDepth 100000
def DG:Value->ByteArray
 | .string s=>s
 |_=>ByteArray.empty
def iq(l:List ByteArray):List ByteArray:=((l.map λs=>s.data.toList).mergeSort λx y=>decide (x<=y)).map λx=>⟨x.toArray⟩
def N8{l:List ByteArray}{ss:List (List UInt8)}(h:ss.Perm (l.map λs=>s.data.toList)):((ss.mergeSort λx y=>decide (x<=y)).map λx=>(⟨x.toArray⟩:ByteArray))=iq l:=by
 unfold iq;exact congrArg (List.map _) (mergeSort_of_perm h)
def CH(m:Nat):AnyZ.SortsIn prog Tryz.Bi Fence.wide m:=
 ⟨λhZ off cap ss W hH hblk hsz=>callsIn_wide.2 (Tryz.slices_Sort_string hZ off cap ss W hH hblk hsz),λp cap W=>callsIn_wide.2 (Tryz.slices_Sort_string_none p cap W)⟩
abbrev kR:Value->Option (DataW Unit×List MemPlace):=λ_=>some (.lit (.bool true),[])
def BR(Bm b:Nat)(arr:Array MapEntry)(clock:Nat)(w:World)(hBm:Bm<w.heap.size)(hm:w.cell? ⟨Bm,0,none⟩=some (.map (some b)))(hb:w.heap[b]? =some (.map arr clock))(L:List ByteArray)(hL:arr.toList.map (·.key)=L.map ks)(h60:∀s∈L,s.size<=1000)(hst:MapKept.Stamped arr clock)(hsz:L.length<=1000000):
  Calls prog 144 #[.func (.func 196) #[] #[.pointer (some ⟨Bm,0,none⟩)]] w λe w'=>∃(v:Value) (ss:List (List UInt8)),e=.returned v/\ss.Perm (L.map λs=>s.data.toList)/\
   w'.ownsRow w.heap.size 9 1 v ss.length ((ss.mergeSort λx y=>decide (x<=y)).map encStr)/\Below w.heap.size w w':=by
 have hlen:arr.size=L.length:=by
  have:=congrArg List.length hL;simpa using this
 have hrd:∀x∈arr.toList,∃s∈L,x.key=.string s/\WideElems.rd (H:=Unit) prog 9 kR x=some (.string s.data.toList,.lit (.bool true)):=λx hx=>by
  have h1:x.key∈L.map ks:=by rw[<-hL];exact cc (f:=λe:MapEntry=>e.key) hx
  obtain⟨s,hs,e⟩:=ba.1 h1;refine⟨s,hs,e.symm,?_⟩;obtain⟨key,val,born⟩:=x;simp only at e;subst e;have hle:s.size<=maxLen:=by have:=h60 s hs;unfold maxLen;omega
  have hkk:keyOf prog 9 (.string s)=some (.string s.data.toList):=WideMaps.keyOf_string_mk (s:=s) underlying9 hle;exact WideElems.rd_mk (R:=kR) (yv:=(.lit (.bool true),[])) hkk rfl
 have hF:WideElems.Fit prog 9 kR arr clock:=⟨by rw[hlen];unfold maxLen;omega,hst,λx hx=>by obtain⟨s,_,_,h⟩:=hrd x hx;exact⟨_,h⟩⟩
 let D0:DataW Unit:=.map ((arr.toList.map (WideElems.rg prog 9 kR)).foldr DataW.insert [])
 have hown:w.ownsMap prog 9 kR b arr.size D0:=⟨arr,clock,hb,hF,aL _,rfl⟩;have hD:(strKeys D0).Perm (L.map λs=>s.data.toList):=by
  show (((arr.toList.map (WideElems.rg prog 9 kR)).foldr DataW.insert []).map λp=>strOf p.1).Perm _;refine ((WideShapes.sorted_perm _).map _).trans ?_;rw[bR];have e:arr.toList.map ((λp:Lit×DataW Unit=>strOf p.1) ∘WideElems.rg prog 9 kR)=(arr.toList.map (·.key)).map λk=>(DG k).data.toList:=by
   rw[bR];refine cd λx hx=>?_;obtain⟨s,_,hk,h⟩:=hrd x hx;show strOf (WideElems.rg prog 9 kR x).1=(DG x.key).data.toList;rw[WideElems.rg_of h,hk];rfl
  rw[e,hL,bR];exact fR _
 have hms:Maps.size D0=arr.size:=by
  show ((arr.toList.map (WideElems.rg prog 9 kR)).foldr DataW.insert []).length=_;rw[(WideShapes.sorted_perm _).length_eq];simp
 have hseq:SeqGives Fence.wide 2 prog 196 #[.pointer (some ⟨Bm,0,none⟩)] encStr (λss=>ss.Perm (strKeys D0)) (Maps.size D0) w:=
  AnyZ.keys_gives (ρ:=Tryz.z_) {Tryz.ji with} Fence.wide _ trivial rfl az Bm b arr.size D0 w hBm hm hown
 have cS:=AnyZ.sorted_in Tryz.Jv Fence.wide 5 trivial trivial trivial trivial rfl az (CH _) (enters_of func195 au rfl) 196 #[.pointer (some ⟨Bm,0,none⟩)] trivial (enters_of func196 au rfl) _ _ (by rw[hms,hlen];unfold maxLen;omega) (by rw[hms,hlen];omega) w hseq;refine (callsIn_wide.1 cS).mono ?_;rintro e w' ⟨v,ss,rfl,hS,hrow,_,hbl⟩;exact⟨v,ss,rfl,hS.trans hD,hrow,hbl⟩
def Cf(Bm:Nat)(w:World)(hBm:Bm<w.heap.size)(hm:w.cell? ⟨Bm,0,none⟩=some (.map none)):
  Calls prog 144 #[.func (.func 196) #[] #[.pointer (some ⟨Bm,0,none⟩)]] w λe w'=>∃(v:Value) (ss:List (List UInt8)),e=.returned v/\ss=[]/\
   w'.ownsRow w.heap.size 9 1 v ss.length ((ss.mergeSort λx y=>decide (x<=y)).map encStr)/\Below w.heap.size w w':=by
 have hseq:SeqGives Fence.wide 2 prog 196 #[.pointer (some ⟨Bm,0,none⟩)] encStr (λss:List (List UInt8)=>ss=[]) 0 w:=
  AnyZ.keys_gives_nil (ρ:=Tryz.z_) {Tryz.ji with} Fence.wide _ trivial rfl Bm w hBm hm
 have cS:=AnyZ.sorted_in Tryz.Jv Fence.wide 5 trivial trivial trivial trivial rfl az (CH _) (enters_of func195 au rfl) 196 #[.pointer (some ⟨Bm,0,none⟩)] trivial (enters_of func196 au rfl) _ _ (by unfold maxLen;omega) az w hseq;refine (callsIn_wide.1 cS).mono ?_;rintro e w' ⟨v,ss,rfl,hS,hrow,_,hbl⟩;exact⟨v,ss,rfl,hS,hrow,hbl⟩
def Ct.texts {f:FuncId} {n0:Nat} {args:List GV} {σ:Heap} (L:List ByteArray)
  (h:∀(H:Hid) (us:Array Value) (w:World),H.n=n0->Cells H args us->Sat H σ w->Calls pg.P f us w λe w'=>∃(v:Value) (ss:List (List UInt8)),e=.returned v/\ss.Perm (L.map λs=>s.data.toList)/\w'.ownsRow w.heap.size 9 1 v ss.length ((ss.mergeSort λx y=>decide (x<=y)).map encStr)/\Below w.heap.size w w'):
  Ct pg f n0 args σ (λg σ' n'=>g=.o n0/\σ'=(n0,.row 9 1 ((iq L).map λx=>[gs x]))::σ/\n'=n0+1):=by
 intro H us w hn hg hcs hs;refine Calls.mono (h H us w hn hcs hs) (λe w' he=>?_);obtain⟨v,ss,rfl,hp,hrow,hbl⟩:=he;have hlen:ss.length=(iq L).length:=by
  unfold iq;rw[aD,List.length_mergeSort,hp.length_eq]
 have hrows:((ss.mergeSort λx y=>decide (x<=y)).map encStr)=(iq L).map λx=>Value.string x:=by
  rw[<-N8 hp,bR];rfl
 rw[hrows,hlen]at hrow;have how:ow v=true:=by
  rcases hrow.2 with ⟨h,_⟩|⟨_,_,_,h,_⟩<;>rw[h] <;>rfl
 subst hn
 let cx:Cx:=⟨pg,0,H.n,H,g_ H σ,w,rfl,hg⟩
 have hsim:iQ cx H ⟨[],σ,H.n⟩ w:=⟨rfl,hs,Fr.refl _ _ _⟩;have hle:=H.km w.heap.size v;have esv:(H.more w.heap.size v).sv H.n=v:=by simp[Hid.more]
 have hs1:=hsim.grow (r:=.row 9 1 ((iq L).map λx=>[gs x])) (w':=w') hle rfl (by simp[Hid.more]) hbl (by
  refine⟨(iq L).map λx=>Value.string x,?_,?_,λrow hr=>?_,λi row hr j g hj=>?_,λu hu=>?_⟩
  ·show w'.ownsRow 0 _ _ ((H.more w.heap.size v).sv H.n) _ _;rw[esv,aD];refine⟨hrow.1,?_⟩;rcases hrow.2 with h|⟨g,cap,cur,h1,h2,h3⟩
   ·exact .inl h
   exact .inr ⟨g,cap,cur,h1,aQ _,h3⟩
  ·simp
  ·obtain⟨x,_,rfl⟩:=ba.1 hr;rfl
  ·rw[bg]at hr;cases hx:(iq L)[i]? with
   |none=>rw[hx]at hr;cases hr
   |some x=>
    rw[hx]at hr;cases hr;cases j with
    |zero=>simp at hj;subst hj;exact⟨.string x,by simp[hx],.v _⟩
    |succ j=>simp at hj
  obtain⟨x,_,rfl⟩:=ba.1 hu;rfl) (by
   show ((H.more w.heap.size v).sv H.n).ownBlock.toList.Nodup;rw[esv];cases v.ownBlock<;>simp) (λb hb=>by
   have hb':b∈((H.more w.heap.size v).sv H.n).ownBlock.toList:=hb;rw[esv]at hb';exact (hrow.lt b (by simpa using hb')).1) []
 exact⟨v,.o H.n,H.more w.heap.size v,_,rfl,.o (by simp[Hid.more]) esv how,hs1.sat,hs1.fr,rfl,rfl,by simp[Hid.more]⟩
def MJ{H:Hid}{us:Array Value}{id:Nat}(h:Cells H [.fn (.func 196) [] [.p id 0]] us):us=#[.func (.func 196) #[] #[.pointer (some ⟨H.bl id,0,none⟩)]]:=by
 obtain⟨hl,hi⟩:=h;obtain⟨fs,cs,hv,hl1,hi1,hl2,hi2⟩:=(hi 0 _ rfl).w_;have h2:=(hi2 0 (.p id 0) rfl).qf;have e1:fs=#[]:=dV (by simpa using hl1.symm);have e2:cs=#[.pointer (some ⟨H.bl id,0,none⟩)]:=by
  refine dW (by simpa using hl2.symm) (λi h3 h4=>?_);have h5:i=0:=by
    have:i<1:=by simpa using h4
    omega
  subst h5;have:=h2.1;rw[Array.getD,dif_pos h3]at this;simpa using this
 refine dW (by simpa using hl.symm) (λi h3 h4=>?_);have h5:i=0:=by
   have:i<1:=by simpa using h4
   omega
 subst h5;rw[Array.getD,dif_pos h3]at hv;rw[e1,e2]at hv;simpa using hv
def ND(es:List (Value×GV))(L:List ByteArray)(hL:es.map (·.1)=L.map ks)(h60:∀s∈L,s.size<=1000)(hsz:L.length<=1000000):
  Hf pg 144 2 [.fn (.func 196) [] [.p 1 0]] [(0,.mp none es),(1,.hZ 30 [.o 0])] (λg σ' n'=>g=.o 2/\σ'=[(2,.row 9 1 ((iq L).map λx=>[gs x])),(0,.mp none es),(1,.hZ 30 [.o 0])]/\n'=3):=by
 refine⟨call144,Ct.texts L λH us w hn hcs hs=>?_⟩;rw[MJ hcs];obtain⟨b,arr,clock,hsv,hw,hok⟩:=hs.holds (0,.mp none es) aA;obtain⟨cs,hwb,hlc,hic⟩:=hs.holds (1,.hZ 30 [.o 0]) aA;have hc0:=(hic 0 (.o 0) rfl).mh;have hcs':cs=#[.map (some b)]:=by
  refine dW (by simpa using hlc.symm) (λi h3 h4=>?_);have h5:i=0:=by
    have:i<1:=by simpa using h4
    omega
  subst h5;have:=hc0.1;rw[Array.getD,dif_pos h3]at this;rw[hsv]at this;simpa using this
 subst hcs';exact BR (H.bl 1) b arr clock w (aW.1 hwb).1 (by unfold World.cell?;rw[hwb];rfl) hw L (by rw[Aa hok.is,hL]) h60 hok.st hsz
def HS:Hf pg 144 1 [.fn (.func 196) [] [.p 0 0]] [(0,.hZ 30 [.v (.map none)])] (λg σ' n'=>g=.o 1/\σ'=[(1,.row 9 1 ((iq []).map λx=>[gs x])),(0,.hZ 30 [.v (.map none)])]/\n'=2):=by
 refine⟨call144,Ct.texts [] λH us w hn hcs hs=>?_⟩;rw[MJ hcs];obtain⟨cs,hwb,hlc,hic⟩:=hs.holds (0,.hZ 30 [.v (.map none)]) aA;have hcs':=uq (vs:=[.map none]) (us:=cs) ⟨hlc,hic⟩;subst hcs';refine (Cf (H.bl 0) w (aW.1 hwb).1 (by unfold World.cell?;rw[hwb];rfl)).mono ?_;rintro e w' ⟨v,ss,rfl,rfl,h⟩;exact⟨v,[],rfl,fR _,h⟩
def Rr(es:List (Value×GV)):Hf pg 145 1 [.o 0] [(0,.mp none es)] (λg σ' n'=>g=.fn (.func 196) [] [.p 1 0]/\σ'=[(1,.hZ 30 [.o 0]),(0,.mp none es)]/\n'=2):=by
 refine Hf.of gV func145 rfl ntmps145 rfl results145 call145 λH0 S0 w0 h0 g0=>?_;exact A0z
def Kp:Hf pg 145 0 [.v (.map none)] [] (λg σ' n'=>g=.fn (.func 196) [] [.p 0 0]/\σ'=[(0,.hZ 30 [.v (.map none)])]/\n'=1):=by
 refine Hf.of gV func145 rfl ntmps145 rfl results145 call145 λH0 S0 w0 h0 g0=>?_;exact A0z
def IH(enc:Fl->GV){id sz:Nat}{rows:List (List GV)}(h:∀x,lJ id sz rows (enc x)=enc x)(L:List (Value×Fl)):(iG enc L).map (λx=>(x.1,lJ id sz rows x.2))=iG enc L:=by
 unfold iG;rw[bR];exact cd λx _=>by show (x.1,lJ id sz rows (enc x.2))=_;rw[h]
def names(d:Dk):List ByteArray:=iq (d.L.map λy=>DG y.1)
theorem SN(d:Dk)(fp:List Nat)(B:Nat)(hok:d.ok B)(h60:∀y∈d.L,(DG y.1).size≤1000)(hsz:d.L.length≤1000000):Hf pg 81 1 [.p 0 0] [(0,.ab (dk d fp))] (mH (.sl 1 ((names d).map fun x=>[gs x])) d):=by
 refine mH.of rfl ⟨call81,Ct.j7 gV func81 rfl ntmps81 rfl results81 fun H0 S0 w0 h0 g0=>?_⟩;rcases tf d.nil with hd|hd
 ·have hn:names d=iq []:=by unfold names;rw[hok.nl hd];rfl
  rw[hn];refine yo 0 d hd rfl (ig Kp id rfl rfl trivial rfl aA ?_);rintro _ _ _ ⟨rfl,rfl,rfl⟩;refine sw HS (fun _=>4) rfl rfl ⟨rfl,trivial⟩ rfl aA ?_;rintro _ _ _ ⟨rfl,rfl,rfl⟩;exact JK.freeze 5 rfl (V ⟨rfl,.inl (kP.none hd rfl rfl)⟩)
 ·have hL:(iG ef d.L).map (·.1)=(d.L.map fun y=>DG y.1).map ks:=by
   rw[bR,bR];refine cd fun y hy=>?_;have:=hok.keys y hy;obtain⟨q,x⟩:=y;cases q with
   |string f=>rfl
   |_=>cases this
  refine qU 0 d hd rfl (ig (Rr (iG ef d.L)) (fun _=>2) rfl rfl ⟨congrArg (fun l=>some (hY.mp none l)) (qm _ _).symm,trivial⟩ (by simp[im,iy,iL,jm,wv,iv,iu,je]) aA ?_);rintro _ _ _ ⟨rfl,rfl,rfl⟩;refine sw (ND (iG ef d.L) (d.L.map fun y=>DG y.1) hL (fun s hs=>by obtain⟨y,hy,rfl⟩:=ba.1 hs;exact h60 y hy) (by simpa using hsz)) (fun i=>bif Nat.beq i 0 then 2 else 4) rfl rfl ⟨congrArg (fun l=>some (hY.mp none l)) (by rw[qm,qm]),rfl,trivial⟩ (by simp[im,iy,iL,jm,wv,iv,iu,je];rfl) (fun i _=>by show (bif Nat.beq i 0 then 2 else 4)<5;cases Nat.beq i 0<;>decide) ?_;rintro _ _ _ ⟨rfl,rfl,rfl⟩;refine JK.freeze 5 rfl (V ⟨rfl,.inl (kP.own 2 3 hd rfl ?_ ?_ rfl rfl)⟩)
  ·refine congrArg (fun l=>some (hY.mp none l)) ?_;rw[qm];exact IH ef (fun _=>rfl) d.L
  ·exact congrArg (fun l=>some (hY.mp none l)) (IH en (fun _=>rfl) d.L)
end Go.Proofs.YtadildidlcbbkaaGreatDoor
namespace Go.Proofs.YtadildidlcbbkaaGreatDoor
open Go Go.GK Go.PL Go.RowKit IntKind Go.Proofs.Tryz
set_option maxRecDepth 100000
def Ev{d:Dk}{B:Nat}(hok:d.ok B)(f:ByteArray):f∈names d↔(jg f d).isSome=true:=by
 have hsb:∀{f:ByteArray} {l:List ByteArray},f∈iq l↔f∈l:=λ{f l}=>by
  unfold iq;constructor
  ·intro h;obtain⟨y,hy,rfl⟩:=ba.1 h;rw[fX]at hy;obtain⟨z,hz,rfl⟩:=ba.1 hy;exact hz
  intro h;exact ba.2 ⟨f.data.toList,fX.2 (ba.2 ⟨f,h,rfl⟩),rfl⟩
 unfold names;rw[hsb];constructor
 ·intro h;obtain⟨⟨q,x⟩,hy,rfl⟩:=ba.1 h;have hq:=hok.keys _ hy;cases q with
  |string f=>
   have:jg f d=some x:=(kF rfl hok.keys hok.nd).2 hy;show (jg f d).isSome=true;rw[this];rfl
  |_=>cases hq
 intro h;obtain⟨x,hx⟩:=cL.1 h;exact ba.2 ⟨(ks f,x),w9 hok hx,rfl⟩
def Ts{to_ iN:Int}{l:List gY}(h2:kp iN)(hl:∀x∈l,qe x)(hn:l.length<9223372036854775808)(hR:lZ to_ iN l=true):bW (mw to_ iN l)=some (to_,iN,l):=by
 unfold bW;rw[RM (kp.Ud hR) h2 hl hn];simp only;rw[if_pos (m6),if_pos hR]
def L0{to_ iN:Int}{l:List gY}(h2:kp iN)(hl:∀x∈l,qe x)(hz:(mw to_ iN l).size<=1000000)(hn:l.length<9223372036854775808)(hR:lZ to_ iN l=true):Rt pg 84 [gs (mw to_ iN l)] (.tup [F1 to_ iN l,.v .nilIface]):=by
 have h:=Pp (mw to_ iN l) hz;rw[Ts h2 hl hn hR]at h;exact h
abbrev sj:ByteArray:=⟨#[98,108,111,99,107,47]⟩
def BY(n:Int):jk n=sj++bS (Lib.itoa n):=by
 unfold jk;rw[pz];rfl
def PB(n:Int):(jk n).extract sj.size (jk n).size=bS (Lib.itoa n):=by
 rw[BY];apply cE;rw[cw,aJ,bQ];have h1:sj.size=sj.data.size:=rfl;have h2:(bS (Lib.itoa n)).size=(bS (Lib.itoa n)).data.size:=rfl;rw[h2,h1];simp
def Mb(n:Int):nI (jk n) sj=true:=by
 unfold nI;have h:(jk n).extract 0 sj.size=sj:=by
  rw[BY];apply cE;rw[cw,bQ];have h1:sj.size=sj.data.size:=rfl;rw[h1];simp
 rw[h,aG];refine⟨decide_eq_true ?_,l_.2 rfl⟩;rw[BY,aJ];omega
def RJ:nI nN sj=false:=m7
theorem Sg{W K:Nat}{s:iz}{d:Dk}(h:iM W K s d)(hK:K≤60)(x0:iz)(fp:List Nat):
  Hf pg 32 7 [.p 0 0] [sB x0 3 5,(1,.ab (dk d fp)),(4,.mp (some .i64) (iG eb ([]:List (Value×Bl))))] (fun g σ n=>g=.v .nilIface∧(∃fp,σ=[sB x0 3 5,(1,.ab (dk d fp)),(4,.mp (some .i64) (iG eb (oI s.B (jI (names d)))))])∧n=7):=by
 obtain⟨ns,hd,_⟩:=h.disk;have hB:=h.sto.bls;have hB30:=h.sto.len;have hfl:=hd.files hB;have hnx:=h.nx;have hnm:∀f,f∈names d↔(jg f d).isSome=true:=Ev hd.ok;obtain⟨hlb,hls⟩:=Fs hd hB hnm;have hla:=(He hd hB hnm).1;have hlist:=fun fp=>SN d fp W hd.ok (fun y hy=>by
  obtain⟨q,x⟩:=y;have hq:=hd.ok.keys _ hy;cases q with
  |string f=>
   have hf:jg f d=some x:=(kF rfl hd.ok.keys hd.ok.nd).2 hy;rcases hd.kind hB (f:=f) (by rw[hf];rfl) with rfl|⟨n,_,n0,n1,rfl⟩
   ·exact (by decide:nN.size≤1000)
   ·exact bE (um n0 n1).1 ax
  |_=>cases hq) az
 have hnl:(names d).length≤1000000:=by
  unfold names iq;rw[aD,List.length_mergeSort,aD,aD];omega
 have hfile:∀n:Int,n∈gZ s.B→0≤n→n<1000000000000000000→(jg (jk n) d).isSome=true→∃x b,jg (jk n) d=some x∧iC (kn n) s.B=some b∧x.1=mw b.to_ b.iN b.L∧Rt pg 84 [gs x.1] (.tup [F1 b.to_ b.iN b.L,.v .nilIface]):=fun n hn n0 n1 hs=>by
  obtain⟨x,b,e1,e2,e3⟩:=ya hd n0 hs;refine⟨x,b,e1,e2,e3,?_⟩;have hmem:(kn n,b)∈s.B:=(kF (kd:=some .i64) rfl hB.sort hB.nd).1 e2;have hR:=(h.sto.hZ _ hmem).1;have hz:=JR h.sto h.size az _ hmem;have hv:=h.sto.k_.2 _ hmem;have ho:b.iN<s.nx:=h.S_ _ hmem;rw[e3];refine L0 ⟨?_,?_⟩ (fun x hx=>⟨(nQ hR x hx).1,(nQ hR x hx).2,hv x hx⟩) (by have hz':(mw b.to_ b.iN b.L).size≤900000:=hz;omega) ?_ hR
  ·have h9: -1≤b.iN:=(zP hR).2.2.2;omega
  ·omega
  ·have h9:b.L.length≤ir b.L:=w6 fun x hx=>((th hR).2 x hx).2;have h6:ir b.L≤l7 s.B:=by
    unfold l7;exact xn (ba.2 ⟨(kn n,b),hmem,rfl⟩)
   have:=h.size.ir;omega
 have hnms:((names d).map fun x=>[gs x]).length=(names d).length:=aA
 have hkind:∀f∈names d,f=nN∨∃n:Int,n∈gZ s.B∧0≤n∧n<1000000000000000000∧f=jk n:=fun f hf=>hd.kind hB ((hnm f).1 hf);have hsome:∀f∈names d,(jg f d).isSome=true:=fun f hf=>(hnm f).1 hf;have hold:∀n∈gZ (oI s.B (jI (names d))),su s.B (jI (names d))<n:=fun n hn=>by
  have hn':n∈gZ s.B:=by
   rw[mV hB,←hls n];exact (mV hlb).1 hn
  exact SZ hB h.iN hla hn'
 have hllen:(oI s.B (jI (names d))).length<50:=by
  have:=HL hB hlb hls;omega
 refine Hf.jK (Q:=fun g σ _=>g=.v .nilIface∧gW σ 0=some (sB x0 3 5).2∧(∃fp,gW σ 1=some (.ab (dk d fp)))∧gW σ 4=some (.mp (some .i64) (iG eb (oI s.B (jI (names d)))))) (Hf.of gV func32 rfl ntmps32 rfl results32 call32 fun H0 S0 w0 h0 g0=>(ig (hlist fp) (fun _=>1) rfl rfl ⟨rfl,trivial⟩ rfl aA ?_)) (fun G σ n ⟨hG,e0,⟨fp,e1⟩,e4⟩=>⟨id,.v .nilIface,[sB x0 3 5,(1,.ab (dk d fp)),(4,.mp (some .i64) (iG eb (oI s.B (jI (names d)))))],7,⟨rfl,⟨fp,rfl⟩,rfl⟩,by rw[hG];rfl,⟨e0,e1,e4.trans (iI id _),trivial⟩,by simp[jt,iy,im,iL,jm,iv,iu,je,nb];decide⟩);rintro _ _ _ ⟨rfl,⟨fp1,rfl⟩,rfl⟩;generalize hL:names d=L at*;refine JK.iT (α:=Nat×List Nat) (β:=List Nat) (fun z=>⟨[(0,.p 0 0),(3,gi (su s.B (jI (L.take z.1)))),(21,.sl 1 (L.map fun x=>[gs x])),(22,gi (L.map fun x=>[gs x]).length),(23,gi (z.1:Nat))],[sB x0 3 5,(1,.ab (dk d z.2)),(4,.mp (some .i64) (iG eb (oI s.B (jI (L.take z.1)))))],7⟩) (fun z=>z.1≤L.length) (fun z=>L.length-z.1)
  (fun f=>⟨[(0,.p 0 0),(3,gi (su s.B (jI L)))],[sB x0 3 5,(1,.ab (dk d f)),(4,.mp (some .i64) (iG eb (oI s.B (jI L))))],7⟩) (fun _=>True) (0,fp1) id ?_ (aQ _) ?_ ?_
 ·exact⟨⟨rfl,rfl,rfl,rfl,rfl,trivial⟩,⟨rfl,rfl,iI id _,trivial⟩,aa⟩
 ·rintro⟨i,f⟩ hi;replace hi:i≤L.length:=hi;refine V ?_;by_cases hlt:i<L.length
  ·have hmi:=aR hlt;have htk:L.take (i+1)=L.take i++[L[i]]:=by rw[bx,aC hlt];rfl
   refine p1 (ix (h:=?_)) (decide_eq_true an);rcases hkind L[i] hmi with e|⟨n,hn,n0,n1,e⟩
   ·refine GO (LN L[i] sj (by rw[e];exact RJ)) rfl ?_
    repeat (first|refine p1 ?_|refine p2 ?_|refine p3 ?_|refine p4 ?_)
    have e2:jI (L.take (i+1))=jI (L.take i):=by rw[htk,e,N5]
    exact⟨(i+1,f),id,⟨⟨rfl,congrArg (fun x=>some (gi (su s.B x))) e2.symm,rfl,rfl,h_ az,trivial⟩,⟨rfl,rfl,(iI id _).trans (congrArg (fun x=>some (hY.mp (some IntKind.i64) (jS id (iG eb (oI s.B x))))) e2.symm),trivial⟩,aa⟩,hlt,an⟩
   ·have hfs:=(um n0 n1);have hext:L[i].extract sj.size L[i].size=bS (Lib.itoa n):=by rw[e];exact PB n
    have hbs:(bS (Lib.itoa n)).data.toList=Lib.itoa n:=vW _;obtain⟨x,b,b1,b2,b3,b4⟩:=hfile n hn n0 n1 (by rw[←e];exact hsome _ hmi);have hrd:∀fp,Hf pg 78 1 [.p 0 0,gs L[i]] [(0,.ab (dk d fp))] (mH (.tup [gs x.1,.v .nilIface]) d):=fun fp=>by
     have:=xe d fp W hd.ok L[i];rw[show jg L[i] d=some x by rw[e];exact b1]at this;exact this
    have e2:jI (L.take (i+1))=jI (L.take i)++[n]:=by rw[htk,e,KW _ n0]
    refine GO (KU L[i] sj (by rw[e];exact Mb n) (by rw[e];exact hfs.2)) rfl ?_
    repeat (first|refine p1 ?_|refine p2 ?_|refine p3 ?_|refine p4 ?_)
    refine US (Il (L[i].extract sj.size L[i].size) (by rw[hext,s9];have:=BN n0 (k:=18) ax (by simpa using n1);omega) (v:=n) (by rw[hext,hbs];exact KZ n0 n1)) rfl ?_;rintro _ rfl;refine ig (hrd _) (fun _=>1) rfl rfl ⟨rfl,trivial⟩ rfl aA ?_;rintro _ _ _ ⟨rfl,⟨fp2,rfl⟩,rfl⟩;refine GO b4 rfl ?_
    repeat (first|refine p1 ?_|refine p2 ?_|refine p3 ?_|refine p4 ?_)
    refine iU [4] true (tk [0,1,2,3,4,5]++al [6]) au (V ⟨(i+1,fp2),id,⟨⟨rfl,?_,rfl,rfl,h_ az,trivial⟩,⟨rfl,rfl,?_,trivial⟩,aa⟩,hlt,an⟩)
    ·refine congrArg (fun x=>some (gi x)) ?_;show (if su s.B (jI (L.take i))<b.iN then b.iN else su s.B (jI (L.take i)))=su s.B (jI (L.take (i+1)));rw[e2,LV _ b2,Ac]
    ·show some (hY.mp (some IntKind.i64) (jB (kn n) (eb b) (iG eb (oI s.B (jI (L.take i))))))=some (hY.mp (some IntKind.i64) (jS id (iG eb (oI s.B (jI (L.take (i+1)))))));rw[np,e2,OG _ b2,nP]
  ·refine p2 ?_ (decide_eq_false an);obtain rfl:i=L.length:=az
   exact⟨f,id,⟨⟨rfl,congrArg (fun x=>some (gi (su s.B (jI x)))) (aT (l:=L)),trivial⟩,⟨rfl,rfl,(iI id _).trans (congrArg (fun x=>some (hY.mp (some IntKind.i64) (jS id (iG eb (oI s.B (jI x)))))) (aT (l:=L))),trivial⟩,aa⟩,trivial⟩
 ·rintro f _;refine V (ig (qO {x0 with B:=oI s.B (jI L)} hlb hllen) id rfl rfl ⟨rfl,iI id _,trivial⟩ af ay ?_);rintro _ _ _ ⟨rfl,rfl,rfl⟩;have hMl:(gZ (oI s.B (jI L))).length=(oI s.B (jI L)).length:=by
   show (p6 _).length=_;rw[(ku _).length_eq,aD]
  generalize gZ (oI s.B (jI L))=M at hold hMl⊢;have hml:(M.map fun n=>[gi n]).length=M.length:=aA
  refine JK.iT (α:=Nat) (β:=Unit) (fun i=>⟨[(3,gi (su s.B (jI L))),(71,qW M),(72,gi (M.map fun n=>[gi n]).length),(73,gi (i:Nat))],[sB x0 3 5,(1,.ab (dk d f)),(4,.mp (some .i64) (iG eb (oI s.B (jI L))))],7⟩) (fun i=>i≤M.length) (fun i=>M.length-i)
   (fun _=>⟨[],[sB x0 3 5,(1,.ab (dk d f)),(4,.mp (some .i64) (iG eb (oI s.B (jI L))))],7⟩) (fun _=>True) 0 id ?_ (aQ _) ?_ ?_
  ·exact⟨⟨rfl,rfl,rfl,rfl,trivial⟩,⟨rfl,rfl,j6 _ id _,trivial⟩,aa⟩
  ·rintro i hi;replace hi:i≤M.length:=hi;refine V ?_;by_cases hlt:i<M.length
   ·have ho:=hold M[i] (aR hlt);exact p1 (ix (h:=(p1 ⟨i+1,id,⟨⟨rfl,rfl,rfl,h_ az,trivial⟩,⟨rfl,rfl,iI id _,trivial⟩,aa⟩,hlt,m8⟩ aj))) aj
   ·exact p2 ⟨(),id,⟨trivial,⟨rfl,rfl,iI id _,trivial⟩,aa⟩,trivial⟩ ai
  ·rintro _ _;exact V ⟨rfl,rfl,⟨f,rfl⟩,rfl⟩
def Mi{W K:Nat}{s:iz}{d:Dk}(h:iM W K s d):Qz s:=by
 have hgl:=h.gl;have hsl:s.S.length<=60:=h.sto.mem.head.len;have hS:∀x∈s.S,iS x.labels=true/\ke x.samples=true/\x.samples.length<=2000/\lV x.samples:=λx hx=>by
  obtain⟨a,b,_⟩:=h.sto.mem.head.each x hx;exact⟨a,b,((ja _).1 b).2,h.sto.k_.1 x hx⟩
 refine⟨az,az,λx hx=>⟨(h.gok x hx).2.2.2,?_⟩,λx hx=>?_,λx hx=>⟨?_,?_,?_⟩⟩
 ·have h1:=vg (h.gok x hx).2.2.2;have h3:(jN x.2.mt).size=(jC (zk x.2.mt)).length:=by rw[jN,s9]
  omega
 ·obtain⟨a,b,c,_⟩:=hS x hx;have:=rR a;omega
 ·obtain⟨a,b,c,v⟩:=hS x hx;exact Ep λy hy=>by rw[aH.1 hy];exact⟨a,b,v⟩
 ·obtain⟨a,b,c,v⟩:=hS x hx;have:=xw (l:=[x]) (λy hy=>by rw[aH.1 hy];exact a);have h2:ir [x]=x.samples.length:=by simp[ir]
  rw[h2]at this;simp only[aB,aM]at this;omega
 obtain⟨a,_⟩:=hS x hx;intro y hy;have:=((lS a).2 y hy).2;omega
def Ad:∀i,i<7->r1 6 7 i<8:=ax
def E6{W K:Nat}{s:iz}{d:Dk}(h:iM W K s d)(hK:K<=1000000):(jc ((kK s.mem).map iR)).size<=60002*261:=by
 have h1:=HG (l:=(kK s.mem).map iR) λx hx=>by
  obtain⟨n,hn,rfl⟩:=ba.1 hx;exact mU (Ph h hK n hn)
 rw[aD,we]at h1;have h2:s.G.length<=200:=h.gl;have h3:s.S.length<=60:=h.sto.mem.head.len;have h4:60002*(1+s.mem.G.length+s.mem.S.length)<=60002*261:=Nat.mul_le_mul_left _ (by show 1+s.G.length+s.S.length<=261;omega);omega
theorem RN{W K:Nat}{s:iz}{d:Dk}(h:iM W K s d)(hK:K<60)(hW:W≤100000000000){t:Int}(ht: -1099511627776≤t∧t≤1099511627776)(hl:s.B.length<30)(hc:kb t s=[]):
  ∃d',iM (W+60002) (K+1) (k9 t s) d'∧∀fp,Hf pg 26 7 [.p 0 0,gi t] (SH s d fp 3 5 6) (lq (.v .nilIface) (k9 t s) d'):=by
 obtain⟨d',e1,st⟩:=Sf h az ht hl hc;have e:k9 t s={s with mark:=max s.mark t,S:=gX (jO t) s.S}:=by unfold k9;rw[if_pos hc]
 rw[e]at e1 st⊢;obtain⟨ns,hd,_⟩:=h.disk;have hadd:∀fp,Hf pg 41 2 [.p 1 0,gs (iR (.mark (max s.mark t) s.nx))] [(0,.ab (dk d fp)),wl 1 0 false] (oC (qi none) false d'):=fun fp=>by
  have:=Cz d fp W hd.ok az (iR (.mark (max s.mark t) s.nx)) false;rw[e1]at this;exact this
 have hS1:s.S.length≤60:=h.sto.mem.head.len;have hS2:∀x∈s.S,x.samples.length≤2000:=fun x hx=>((ja _).1 (h.sto.mem.head.each x hx).2.1).2;have hbl:(iG eb s.B).length=s.B.length:=aA
 refine⟨d',st,fun fp=>lq.of rfl (Hf.of gV func26 rfl ntmps26 rfl results26 call26 fun H0 S0 w0 hn0 g0=>(ig (o0 s d fp) id rfl rfl ⟨rfl,rfl,rfl,trivial⟩ rfl ay ?_))⟩;rintro _ _ _ ⟨rfl,⟨fp1,rfl⟩,rfl⟩;refine p2 (p4 (p2 (p2 (ig (Ao s.mark t s.S az (fun x hx=>by have:=hS2 x hx;omega)) (rr 3 6) rfl rfl ⟨rfl,rfl,trivial⟩ rfl av ?_) ai) ai) ai);rintro _ _ _ ⟨rfl,rfl,rfl⟩;have hz:gX (mN (jO t)) s.S=[]:=hc;rw[hz];refine p1 (iU [1,2,3,7] false (tk [0,1,2,3,4,5,6,7,9,10,11,12]) au (ka 8 false (tk []) (oW (max s.mark t) (gX (jO t) s.S)) (rr 3 7) rfl rfl rfl ⟨rfl,rfl,trivial⟩ rfl av au ?_));rintro _ _ _ ⟨rfl,rfl,rfl⟩;refine kE 13 false (tk []) (wK (max s.mark t) s.nx) rfl rfl au (ka 14 true (tk [15]) (hadd _) (rr 1 2) rfl rfl rfl ⟨rfl,rfl,trivial⟩ rfl av au ?_);rintro _ _ _ ⟨rfl,⟨fp4,rfl⟩,rfl⟩;exact V ⟨rfl,3,5,7,rfl,⟨_,.v (.bool false),rfl,rfl,rfl⟩,⟨fp4,rfl⟩,rfl,rfl,rfl,rfl,rfl⟩
theorem JL{W K:Nat}{s:iz}{d:Dk}(h:iM W K s d)(hK:K<60)(hW:W≤100000000000){t:Int}(ht: -1099511627776≤t∧t≤1099511627776)(hl:s.B.length<30)(hc:kb t s≠ []):
  ∃d',iM (W+50000000) (K+1) (k9 t s) d'∧∀fp,Hf pg 26 7 [.p 0 0,gi t] (SH s d fp 3 5 6) (lq (.v .nilIface) (k9 t s) d'):=by
 obtain⟨d1,d',e1,e2,st⟩:=Tt h az ht hl hc;have e:k9 t s=vZ {s with mark:=max s.mark t,S:=gX (jO t) s.S} ⟨max s.mark t, -1,kb t s⟩:=by unfold k9;rw[if_neg hc]
 have hfr:=E6 st az;have hnt:=Mi st;rw[e]at e2 st hfr hnt⊢;obtain⟨ns,hd,_⟩:=h.disk;have h0:0≤s.nx:=h.sto.mem.nlo;have hnx:=h.nx;have htt:=h.size.ir;have hS1:s.S.length≤60:=h.sto.mem.head.len;have hS2:∀x∈s.S,x.samples.length≤2000:=fun x hx=>((ja _).1 (h.sto.mem.head.each x hx).2.1).2;have hbl:(iG eb s.B).length=s.B.length:=aA
 have hR:lZ (max s.mark t) (-1) (kb t s)=true:=by
  rcases xQ h.sto t with h1|h1
  ·exact h1
  ·omega
 have hne:=fun x hx=>((th hR).2 x hx).2;have htl:ir (kb t s)≤ir s.S:=oT _ _;have hll:(kb t s).length≤s.S.length:=pW _ _;obtain⟨d1',e3,CJ⟩:=Hn h.sto.bls h0 az hd (b:=⟨max s.mark t, -1,kb t s⟩) hR hne (by show ir (kb t s)≤40000;omega);obtain rfl:d1=d1':=(fU (e1.symm.trans e3)).2;have hwz:=xw (l:=kb t s) fun x hx=>(nQ hR x hx).1;have hwb:(mw (max s.mark t) (-1) (kb t s)).size=16+(lT (kb t s)).size:=by
  unfold mw;rw[aJ,aJ,jw,jw]
 have hsh:∀x∈kb t s,tN x:=fun x hx=>by
  obtain⟨a,b⟩:=nQ hR x hx;have h8:=(lS a).1;have h9:=((ja _).1 b).2;exact⟨az,az,fun y hy=>by have:=(lS a).2 y hy;omega⟩
 have hke:=fun fp=>OQ {s with mark:=max s.mark t,S:=gX (jO t) s.S} d fp W hd.ok ⟨max s.mark t, -1,kb t s⟩ h0 (by show s.nx<_;omega) hsh (by show (lT (kb t s)).size≤1000000;omega) hR (by show W+(mw (max s.mark t) (-1) (kb t s)).size≤4611686018427387904;omega) e1 hnt CJ.ok az e2;refine⟨d',st,fun fp=>lq.of rfl (Hf.of gV func26 rfl ntmps26 rfl results26 call26 fun H0 S0 w0 hn0 g0=>(ig (o0 s d fp) id rfl rfl ⟨rfl,rfl,rfl,trivial⟩ rfl ay ?_))⟩;rintro _ _ _ ⟨rfl,⟨fp1,rfl⟩,rfl⟩;refine p2 (p4 (p2 (p2 (ig (Ao s.mark t s.S az (fun x hx=>by have:=hS2 x hx;omega)) (rr 3 6) rfl rfl ⟨rfl,rfl,trivial⟩ rfl av ?_) ai) ai) ai);rintro _ _ _ ⟨rfl,rfl,rfl⟩;have hcl:0<(kb t s).length:=cm.2 hc;refine p2 (iU [0,1,2,3,4,5,7] false (tk [0,1,2,3,5,6,7,10]) au (RA.both 4 8 (iV au) (iY.read 4 gV rfl rfl ?_) (iY.read 8 gV rfl rfl ?_))) (decide_eq_false (by show¬(((kb t s).map se).length:Int)=0;rw[aD];omega))
 ·refine RA.run (e:=false) gV au (fun _ _ h=>h) (al [8]) au (ka 9 false (al [11]) (oW (max s.mark t) (gX (jO t) s.S)) (rr 3 7) rfl rfl rfl ⟨rfl,rfl,trivial⟩ rfl av au ?_);rintro _ _ _ ⟨rfl,rfl,rfl⟩;refine ka 12 true (tk [13]) (hke _) (r1 6 7) rfl rfl rfl ⟨rfl,rfl,rfl,rfl,iI _ s.B,rfl,rfl,trivial⟩ af Ad au ?_;rintro _ _ _ ⟨rfl,⟨fp4,rfl⟩,rfl⟩;exact V ⟨rfl,8,9,10,rfl,⟨_,.v (.bool false),rfl,rfl,rfl⟩,⟨fp4,rfl⟩,rfl,rfl,(iI _ _).symm,rfl,rfl⟩
 ·refine RA.both 4 9 (iV au) (iY.read 4 gV rfl rfl ?_) (iY.hf 9 (oW (max s.mark t) (gX (jO t) s.S)) (rr 3 7) rfl rfl rfl ⟨rfl,rfl,trivial⟩ rfl av ?_)
  ·refine ka 9 false (al [11]) (oW (max s.mark t) (gX (jO t) s.S)) (rr 3 7) rfl rfl rfl ⟨rfl,rfl,trivial⟩ rfl av au ?_;rintro _ _ _ ⟨rfl,rfl,rfl⟩;refine ka 12 true (tk [13]) (hke _) (r1 6 7) rfl rfl rfl ⟨rfl,rfl,rfl,rfl,iI _ s.B,rfl,rfl,trivial⟩ af Ad au ?_;rintro _ _ _ ⟨rfl,⟨fp4,rfl⟩,rfl⟩;exact V ⟨rfl,8,9,10,rfl,⟨_,.v (.bool false),rfl,rfl,rfl⟩,⟨fp4,rfl⟩,rfl,rfl,(iI _ _).symm,rfl,rfl⟩
  ·rintro _ _ _ ⟨rfl,rfl,rfl⟩;refine RA.both 4 11 (iV au) (iY.read 4 gV rfl rfl ?_) (iY.mem 11 gV rfl rfl rfl ?_)
   ·refine RA.run (e:=false) gV au (fun _ _ h=>h) (al [11]) au (ka 12 true (tk [13]) (hke _) (r1 6 7) rfl rfl rfl ⟨rfl,rfl,rfl,rfl,iI _ s.B,rfl,rfl,trivial⟩ af Ad au ?_);rintro _ _ _ ⟨rfl,⟨fp4,rfl⟩,rfl⟩;exact V ⟨rfl,8,9,10,rfl,⟨_,.v (.bool false),rfl,rfl,rfl⟩,⟨fp4,rfl⟩,rfl,rfl,(iI _ _).symm,rfl,rfl⟩
   ·refine RA.run (e:=false) gV au (fun _ _ h=>h) (al [4]) au (ka 12 true (tk [13]) (hke _) (r1 6 7) rfl rfl rfl ⟨rfl,rfl,rfl,rfl,iI _ s.B,rfl,rfl,trivial⟩ af Ad au ?_);rintro _ _ _ ⟨rfl,⟨fp4,rfl⟩,rfl⟩;exact V ⟨rfl,8,9,10,rfl,⟨_,.v (.bool false),rfl,rfl,rfl⟩,⟨fp4,rfl⟩,rfl,rfl,(iI _ _).symm,rfl,rfl⟩
def KJ(l:List Mt)(hl:l.length<=1000000):Rt pg 39 [.sl 3 (l.map mt)] (.sl 3 (l.map mt)):=by
 refine Rt.q9 gV func39 rfl ntmps39 rfl results39 call39 λH0 S0 w0 h0 g0=>?_;refine VM 8 (JK.FC gV rfl rfl rfl rfl rfl (λhn=>?_) ?_)
 ·have hn':l.map mt=[]:=hn;refine VM 6 (JK.Km 2 3 rfl (V ?_));rw[hn'];exact⟨rfl,rfl⟩
 exact VM 10 ⟨by simp only[aD,aM];omega,(ot 1 rfl ⟨rfl,rfl⟩)⟩
theorem GC{W K:Nat}{s:iz}{d:Dk}(h:iM W K s d)(hK:K<60)(hW:W≤100000000000){g:Gn}(hg:l8 g.mt=true)(hv:∀x∈g.mt,x.value.size<4611686018427387904)(hm:g.mt.length≤1000000)(h1:kp g.lo)(h2:kp g.hi)(hl:s.G.length<200):
  ∃d',iM (W+60002) (K+1) (tz g s) d'∧∀fp,Hf pg 11 7 [.p 0 0,.agg (gn g)] (SH s d fp 3 5 6) (lq (.v .nilIface) (tz g s) d'):=by
 obtain⟨d',e1,st⟩:=Sj h az hg h1 h2 hl;obtain⟨ns,hd,_⟩:=h.disk;have hnx:=h.nx;have h0:0≤s.nx:=h.sto.mem.nlo;have hadd:∀fp,Hf pg 41 2 [.p 1 0,gs (iR (.went (s.nx-1) g))] [(0,.ab (dk d fp)),wl 1 0 false] (oC (qi none) false d'):=fun fp=>by
  have:=Cz d fp W hd.ok az (iR (.went (s.nx-1) g)) false;rw[e1]at this;exact this
 have hS1:s.S.length≤60:=h.sto.mem.head.len;have hS2:∀x∈s.S,x.samples.length≤2000:=fun x hx=>((ja _).1 (h.sto.mem.head.each x hx).2.1).2;have hgl:(s.G.map gr).length=s.G.length:=aA
 have hwn:i64.wrap (s.nx-1)=s.nx-1:=ic az az;have hms:sd g.mt:=BI hg;have hpz:(jN g.mt).size≤1000000:=by
  have h1:=vg hms;rw[jN,s9];omega
 have hcl:=KJ g.mt hm;have ecell:some (hY.hZ 97 (gi (i64.wrap (s.nx-1))::gn g))=some (hY.hZ 97 (gr (s.nx-1,g))):=congrArg (fun i=>some (hY.hZ 97 (gi i::gn g))) hwn;refine⟨d',st,fun fp=>lq.of rfl (Hf.of gV func11 rfl ntmps11 rfl results11 call11 fun H0 S0 w0 hn0 g0=>(ig (o0 s d fp) id rfl rfl ⟨rfl,rfl,rfl,trivial⟩ rfl ay ?_))⟩;rintro _ _ _ ⟨rfl,⟨fp1,rfl⟩,rfl⟩;refine p2 (GO ((qt g.mt hv).bt hg) rfl (p2 (JK.pb [] ⟨[(0,.p 0 0),(5,.p 8 0)],SH s d fp1 3 5 6++[(8,.hZ 97 (gr (s.nx-1,g)))],9⟩ gV ?_ (fun hk=>?_)) ai))
 ·refine V ?_;have eapp:some (hY.row 97 4 (s.G.map gr++[gr (s.nx-1,g)]))=some (hY.row 97 4 ((s.G++[(s.nx-1,g)]).map gr)):=congrArg (fun x=>some (hY.row 97 4 x)) (aP (f:=gr) (l₁:=s.G) (l₂:=[(s.nx-1,g)])).symm;refine JK.pb [0,5] ⟨[(0,.p 0 0),(5,.p 8 0)],[sB s 3 10,(1,.ab (dk d fp1)),wl 2 1 false,nC s 3 6,sM s,(10,.row 97 4 ((s.G++[(s.nx-1,g)]).map gr)),sR s 6,(8,.hZ 97 (gr (s.nx-1,g)))],11⟩ gV ?_ (fun hk=>?_)
  ·refine V (iU [3,6] false (tk [0,1,2,3,4,5]) au (ka 6 true (tk []) (FQ s.mark s.S g az (fun x hx=>by have:=hS2 x hx;omega) az) (rr 3 6) rfl rfl rfl ⟨rfl,rfl,trivial⟩ rfl av au ?_));rintro _ _ _ ⟨rfl,rfl,rfl⟩;refine V (iU [1,2] false (tk [0,1,2,3,4]) au (kE 5 false (tk []) (A6 (s.nx-1,g) hms hpz) rfl rfl au (ka 6 true (tk [7]) (hadd _) (rr 1 2) rfl rfl rfl ⟨rfl,rfl,trivial⟩ rfl av au ?_)));rintro _ _ _ ⟨rfl,⟨fp4,rfl⟩,rfl⟩;exact V ⟨rfl,3,10,11,rfl,⟨_,.v (.bool false),rfl,rfl,rfl⟩,⟨fp4,rfl⟩,rfl,rfl,rfl,rfl,rfl⟩
  ·refine RA.run (cx:=⟨pg,_,_,_,_,_,_,_⟩) gV au ak (tk [0,1,2,3,5]) (e:=false) au (RA.both 4 6 (iV au) (iY.read 4 gV rfl rfl ?_) (iY.mem 6 gV rfl rfl rfl ?_))
   ·exact RA.run (cx:=⟨pg,_,_,_,_,_,_,_⟩) gV au ak (al [6,7]++tk [8,9]++al [10]) (e:=false) au ⟨by simp only[aD,aB,aM];omega,(RA.kD id au hk ⟨⟨rfl,rfl,trivial⟩,⟨rfl,rfl,rfl,rfl,iI id s.B,eapp,rfl,rfl,trivial⟩,aa⟩)⟩
   ·exact RA.run (cx:=⟨pg,_,_,_,_,_,_,_⟩) gV au ak (al [4,7]++tk [8,9]++al [10]) (e:=false) au ⟨by simp only[aD,aB,aM];omega,(RA.kD id au hk ⟨⟨rfl,rfl,trivial⟩,⟨rfl,rfl,rfl,rfl,iI id s.B,eapp,rfl,rfl,trivial⟩,aa⟩)⟩
 ·refine RA.run (cx:=⟨pg,_,_,_,_,_,_,_⟩) gV au ak (tk [0,1,2,3,4,5,6,8,9,10,11]) (e:=false) au (RA.both 7 14 (iV au) (iY.rt 7 hcl rfl rfl rfl ?_) (iY.mem 14 gV rfl rfl rfl ?_))
  ·refine RA.both 12 14 (iV au) (iY.mem 12 gV rfl rfl rfl ?_) (iY.mem 14 gV rfl rfl rfl ?_)
   ·refine RA.both 13 14 (iV au) (iY.mem 13 gV rfl rfl rfl ?_) (iY.mem 14 gV rfl rfl rfl ?_)
    ·exact RA.run (cx:=⟨pg,_,_,_,_,_,_,_⟩) gV au ak (al [14,15]) (e:=false) au (RA.kD id au hk ⟨⟨rfl,rfl,trivial⟩,⟨rfl,rfl,rfl,rfl,iI id s.B,rfl,rfl,ecell,trivial⟩,aa⟩)
    ·exact RA.run (cx:=⟨pg,_,_,_,_,_,_,_⟩) gV au ak (al [13,15]) (e:=false) au (RA.kD id au hk ⟨⟨rfl,rfl,trivial⟩,⟨rfl,rfl,rfl,rfl,iI id s.B,rfl,rfl,ecell,trivial⟩,aa⟩)
   ·exact RA.run (cx:=⟨pg,_,_,_,_,_,_,_⟩) gV au ak (al [12,13,15]) (e:=false) au (RA.kD id au hk ⟨⟨rfl,rfl,trivial⟩,⟨rfl,rfl,rfl,rfl,iI id s.B,rfl,rfl,ecell,trivial⟩,aa⟩)
  ·exact kE 7 false (al [12,13,15]) hcl rfl rfl au (RA.kD id au hk ⟨⟨rfl,rfl,trivial⟩,⟨rfl,rfl,rfl,rfl,iI id s.B,rfl,rfl,ecell,trivial⟩,aa⟩)
def My(mk:Int)(S l:List gY){i:Nat}(h:i<l.length):nY mk S (l.take (i+1))=oF mk (nY mk S (l.take i)) l[i].labels l[i].samples:=by
 unfold nY;rw[bx,aC h,bN];rfl
def O9{α:Type}(l:List α):l.drop (min l.length 40)=l.drop 40:=by
 by_cases h:l.length<=40
 ·rw[cq h,dF,fw h]
 rw[fF az]
def OT{α:Type}(l:List α):l.take (min l.length 40)=l.take 40:=by
 by_cases h:l.length<=40
 ·rw[cq h,aT,cv h]
 rw[fF az]
abbrev FH(s:iz)(S:List gY)(r:Nat):Heap:=[sB s 3 5,(3,.hZ 159 [gi s.mark,.o r]),(r,.row 105 2 (S.map se))]
def tP(e:Int×Int):(e.1=0/\Ae e=.v .nilIface)\/(e.1≠0/\Ae e=.ifc 54 (gi e.1))\/(e.1≠0/\Ae e=.ifc 137 (.r [gi e.1,gi e.2])):=by
 unfold Ae;by_cases h:e.1=0
 ·exact .inl ⟨h,by rw[if_pos h]⟩
 rw[if_neg h];by_cases h2:e.2<0
 ·exact .inr (.inl ⟨h,by rw[if_pos h2]⟩)
 exact .inr (.inr ⟨h,by rw[if_neg h2]⟩)
theorem IE(s:iz)(l:List gY)(hS:lI s.S)(hl:l.length≤100000)(hx:∀x∈l,Sh x.labels∧x.samples.length≤100000∧x.labels.length≤100000):
  Hf pg 69 7 [.p 0 0,jn l] (FH s s.S 6) (fun g σ n=>g=.tup []∧σ=FH s (nY s.mark s.S l) 7∧n=8∧lI (nY s.mark s.S l)):=by
 have hll:(l.map se).length=l.length:=by simp
 refine Hf.jK (Q:=fun g σ _=>g=.tup []∧lI (nY s.mark s.S l)∧gW σ 0=some (sB s 3 5).2∧gW σ 3=some (.hZ 159 [gi s.mark,.o 7])∧gW σ 7=some (.row 105 2 ((nY s.mark s.S l).map se))) (Hf.of gV func69 rfl ntmps69 rfl results69 call69 fun H0 S0 w0 h0 g0=>?_) (fun g σ n ⟨hg,hk,e0,e3,e6⟩=>⟨id,.tup [],FH s (nY s.mark s.S l) 7,8,⟨rfl,rfl,rfl,hk⟩,by rw[hg];rfl,⟨e0,e3,e6,trivial⟩,rfl⟩);refine JK.loop (α:=Nat×List gY) (fun z=>⟨[(0,.p 0 0),(7,jn l),(8,gi (l.map se).length),(9,gi (z.1:Nat))],FH s z.2 7,8⟩) (fun z=>z.1≤l.length∧z.2=nY s.mark s.S (l.take z.1)∧lI z.2) (fun z=>l.length-z.1) (0,s.S) (r1 7 6) ?_ ⟨aQ _,rfl,hS⟩ ?_
 ·exact⟨⟨rfl,rfl,rfl,rfl,trivial⟩,⟨rfl,rfl,rfl,trivial⟩,rfl⟩
 ·rintro⟨i,S⟩ ⟨hi,hf,hk⟩;simp only at hi hf hk;refine V ?_;by_cases hlt:i<l.length
  ·obtain⟨x1,x2,x3⟩:=hx l[i] (aR hlt);refine p1 ?_ (decide_eq_true an);refine ix (h:=?_);refine JK.iT (α:=List gY×List Sm) (β:=List gY) (fun z=>⟨[(0,.p 0 0),(7,jn l),(8,gi (l.map se).length),(9,gi (i:Nat)),(5,.p 8 0)],FH s z.1 7++[(8,.hZ 105 [om l[i].labels,rL z.2])],9⟩)
    (fun z=>oF s.mark z.1 l[i].labels z.2=oF s.mark S l[i].labels l[i].samples∧lI z.1∧z.2.length≤100000) (fun z=>z.2.length)
    (fun S=>⟨[(0,.p 0 0),(7,jn l),(8,gi (l.map se).length),(9,gi (i:Nat))],FH s S 7,8⟩) (fun S'=>S'=oF s.mark S l[i].labels l[i].samples∧lI S') (S,l[i].samples) id ?_ ⟨rfl,hk,x2⟩ ?_ ?_
   ·exact⟨⟨rfl,rfl,rfl,rfl,rfl,trivial⟩,⟨rfl,rfl,rfl,rfl,trivial⟩,rfl⟩
   ·rintro⟨S1,r⟩ ⟨y1,y2,y3⟩;simp only at y1 y2 y3;have hrl:(r.map sm).length=r.length:=by simp
    refine V ?_;by_cases hr:0<r.length
    ·refine p1 ?_ (decide_eq_true an);have hmin:(if (40:Int)<((r.map sm).length:Int) then (40:Int) else ((r.map sm).length:Int))=((min r.length 40:Nat):Int):=by
      split<;>omega
     have etk:GV.sl 2 (((r.map sm).take (if (40:Int)<((r.map sm).length:Int) then (40:Int) else ((r.map sm).length:Int)).toNat).drop (0:Int).toNat)=rL (r.take 40):=by
      rw[hmin,bj,←fZ,OT];rfl
     have edr:((r.map sm).take (((r.map sm).length:Int)).toNat).drop (if (40:Int)<((r.map sm).length:Int) then (40:Int) else ((r.map sm).length:Int)).toNat=(r.drop 40).map sm:=by
      rw[hmin,bj,bj,aT,←gU,O9]
     have hne:r≠ []:=fun e=>by subst e;simp at hr
     refine iU [3,7] false (tk [0,1,2,3,4,5,6,7,8,9]++al [10,11]) au ?_;refine⟨bY _,by simp only;split<;>omega,by simp only;split<;>omega,?_⟩;refine RA.freeze 9 rfl ?_;refine ka 12 true (tk []) (CA s.mark S1 [⟨l[i].labels,r.take 40⟩] y2 aA (fun x hx=>by
      rw[aH.1 hx];exact⟨x1,by show (r.take 40).length≤100000;rw[aY];omega,x3⟩)) (rr 3 7) rfl rfl (congrArg (fun x=>[GV.p 3 0,GV.sl 2 [[om l[i].labels,x]]]) etk) ⟨rfl,rfl,trivial⟩ rfl av au ?_
     rintro g _ _ ⟨hg,rfl,rfl⟩;rcases tP (jb s.mark S1 [⟨l[i].labels,r.take 40⟩]).1 with ⟨_,h⟩|⟨_,h⟩|⟨_,h⟩<;>
     ·rw[h]at hg;subst hg;refine V ?_;refine⟨by simp only;split<;>omega,by simp only;split<;>omega,by omega,?_⟩;refine⟨((jb s.mark S1 [⟨l[i].labels,r.take 40⟩]).2,r.drop 40),r1 7 10,⟨⟨rfl,rfl,rfl,rfl,rfl,trivial⟩,⟨rfl,rfl,rfl,congrArg (fun x=>some (hY.hZ 105 [om l[i].labels,GV.sl 2 x])) edr,trivial⟩,rfl⟩,⟨by rw[←y1];exact (si hne).symm,sZ _ y2,by simp only[bw];omega⟩,by simp only[bw];omega⟩
    ·refine p2 ?_ (decide_eq_false an);have hr0:r=[]:=ca.1 az;subst hr0;rw[tF]at y1;exact⟨S1,id,⟨⟨rfl,rfl,rfl,rfl,trivial⟩,⟨rfl,rfl,rfl,trivial⟩,rfl⟩,y1,y2⟩
   ·rintro S2 ⟨y1,y2⟩;refine V ?_;exact⟨(i+1,S2),id,⟨⟨rfl,rfl,rfl,h_ az,trivial⟩,⟨rfl,rfl,rfl,trivial⟩,rfl⟩,⟨hlt,by rw[y1,hf];exact (My s.mark s.S l hlt).symm,y2⟩,by simp only;omega⟩
  ·refine p2 ?_ (decide_eq_false an);obtain rfl:i=l.length:=by omega
   rw[aT]at hf;subst hf;refine V ?_;exact⟨rfl,hk,rfl,rfl,rfl⟩
noncomputable def CZ(s:ByteArray):Option (List gY):=match lO s with
 |some (l,r)=>if r.size=0 then some l else none
 |none=>none
theorem Ua{s:ByteArray}{l:List gY}(hs:s.size≤1000000)(h:CZ s=some l):Rt pg 88 [gs s] (.tup [jn l,.v .nilIface]):=by
 unfold CZ at h;cases hP:lO s with
 |none=>rw[hP]at h;cases h
 |some x=>
  obtain⟨m,r⟩:=x;rw[hP]at h;simp only at h;split at h
  ·rename_i hr
   cases h;refine Rt.of gV func88 rfl ntmps88 rfl results88 call88 fun H0 S0 w0 h0 g0=>?_;refine ig (xk s) id rfl rfl trivial rfl ay ?_;rintro _ _ _ ⟨rfl,rfl,rfl⟩;refine ig (ui (Cp s false fun _=>hs) hP) id rfl rfl ⟨rfl,trivial⟩ rfl ay ?_;rintro _ _ _ ⟨rfl,rfl,rfl⟩;have hd:=AA r false;rw[show zy r=true from decide_eq_true hr]at hd;refine ig hd id rfl rfl ⟨rfl,trivial⟩ rfl ay ?_;rintro _ _ _ ⟨rfl,rfl,rfl⟩;exact p2 ⟨⟨rfl,rfl,trivial⟩,rfl⟩
  ·cases h
def L6{l:List gY}(hl:∀x∈l,qe x)(hn:l.length<9223372036854775808):CZ (lT l)=some l:=by
 have h:=Cv hl hn ByteArray.empty;rw[uT]at h;unfold CZ;rw[h];rfl
noncomputable abbrev FK(n:Nt)(s:iz):iz:={s with mark:=(k6 s.mem n).mark,S:=(k6 s.mem n).S,G:=(k6 s.mem n).G,nx:=(k6 s.mem n).nx}
abbrev NH(s:iz)(g r:Nat):Heap:=[sB s 3 g,nC s 3 r,sG s g,sR s r]
def BO{f:FuncId}{args:List GV}{σ:Heap}{s:iz}(h:Hf pg f 7 args σ λg σ' _=>g=.tup []/\∃i j:Nat,iu [0,3,i,j]=true/\gW σ' 0=some (sB s 3 i).2/\gW σ' 3=some (nC s 3 j).2/\gW σ' i=some (sG s i).2/\gW σ' j=some (sR s j).2):Hf pg f 7 args σ (λg σ n=>g=.tup []/\σ=NH s 7 8/\n=9):=by
 refine h.jK λg σ n ⟨hg,i,j,hd,h0,h3,hi,hj⟩=>⟨λk=>bif Nat.beq k 7 then i else bif Nat.beq k 8 then j else k,.tup [],NH s 7 8,9,A0z,by rw[hg];rfl,⟨h0,h3,hi,hj,trivial⟩,?_⟩;simp only[aG];exact⟨⟨⟨⟨rfl,rfl⟩,hd⟩,rfl⟩,rfl⟩
def AH(X:ByteArray):X++(⟨#[]⟩:ByteArray)=X:=by
 apply cE;rw[bQ];simp
def EK(X Y Z:ByteArray):X++Y++Z=X++(Y++Z):=by
 apply cE;simp[bQ]
def uR(k:UInt8)(X:ByteArray)(h:0<((⟨#[k]⟩:ByteArray)++X).size)(j:Int):((((⟨#[k]⟩:ByteArray)++X)[0].toNat:Int)==j)=((k.toNat:Int)==j):=by rw[T6]
theorem LK(s:iz)(l:List gY)(hS:lI s.S)(hg:∀x∈l,qe x)(hl:l.length≤40)(hz:(lT l).size≤60000):
  Hf pg 33 7 [.p 0 0,gs (iR (.came l))] (NH s 5 6) (fun g σ n=>g=.tup []∧σ=NH (FK (.came l) s) 7 8∧n=9):=by
 have hN:(iR (.came l)).size=1+(lT l).size:=nA 1 (lT l);have hx:(iR (.came l)).extract 1 (iR (.came l)).size=lT l:=by rw[hN];exact BL 1 (lT l)
 have hfi:=IE s l hS az (fun x hx=>by
  obtain⟨a,b,_⟩:=hg x hx;have h8:=lS a;exact⟨fun y hy=>by have:=(h8.2 y hy).2;omega,by have:=((ja _).1 b).2;omega,by have:=h8.1;omega⟩)
 refine BO (Hf.of gV func33 rfl ntmps33 rfl results33 call33 fun H0 S0 w0 h0 g0=>(p2 ⟨ax,az,bY _,(ig (xk _) id rfl rfl trivial rfl (fun _ hh=>absurd hh (cf _)) ?_)⟩ (DM 1 (lT l))));rintro _ _ _ ⟨rfl,rfl,rfl⟩;refine sx (i:=0) (hk:=az) (h:=(p1 ⟨ax,az,bY _,(GO (Ua (s:=(iR (.came l)).extract 1 (iR (.came l)).size) (by rw[hx];omega) (by rw[hx];exact L6 hg az)) rfl ?_)⟩ (uR 1 (lT l) (by rw[nA];omega) 1)))
 repeat (first|refine p1 ?_|refine p2 ?_|refine p3 ?_|refine p4 ?_)
 refine ig hfi id rfl rfl ⟨rfl,rfl,rfl,trivial⟩ rfl ae ?_;rintro _ _ _ ⟨rfl,rfl,rfl,_⟩;exact⟨rfl,5,8,rfl,rfl,rfl,rfl,rfl⟩
theorem Mj(s:iz)(k m:Int)(hS:lI s.S)(hk:kp k)(hm:kp m):
  Hf pg 33 7 [.p 0 0,gs (iR (.mark k m))] (NH s 5 6) (fun g σ n=>g=.tup []∧σ=NH (FK (.mark k m) s) 7 8∧n=9):=by
 have hN:(iR (.mark k m)).size=1+(jJ k++jJ m).size:=nA 3 (jJ k++jJ m);have hx:(iR (.mark k m)).extract 1 (iR (.mark k m)).size=jJ k++jJ m:=by rw[hN];exact BL 3 (jJ k++jJ m)
 have hS1:s.S.length≤60:=hS.len;have hS2:∀x∈s.S,x.samples.length≤2000:=fun x hx=>((ja _).1 (hS.each x hx).2.1).2;have hP1:mj false (kf ((iR (.mark k m)).extract 1 (iR (.mark k m)).size))=some (k,jJ m):=by
  rw[hx,pV hk];rfl
 have hP2:mj false (kf (jJ m))=some (m,⟨#[]⟩):=by
  have:=pV hm ⟨#[]⟩;rw[AH]at this;rw[this];rfl
 have hn1:=ui (ta ((iR (.mark k m)).extract 1 (iR (.mark k m)).size) false) hP1;have hn2:=ui (ta (jJ m) false) hP2;have emx:some (hY.hZ 87 [.p 1 0,.p 2 0,.p 3 0,.o 4,.o 5,gi (if s.nx<m then m else s.nx),.v (.bool false)])=some (hY.hZ 87 [.p 1 0,.p 2 0,.p 3 0,.o 4,.o 5,gi (max s.nx m),.v (.bool false)]):=congrArg (fun i=>some (hY.hZ 87 [.p 1 0,.p 2 0,.p 3 0,.o 4,.o 5,gi i,.v (.bool false)])) (Ac s.nx m);refine BO (Hf.of gV func33 rfl ntmps33 rfl results33 call33 fun H0 S0 w0 h0 g0=>(p2 ⟨ax,az,bY _,(ig (xk _) id rfl rfl trivial rfl (fun _ hh=>absurd hh (cf _)) ?_)⟩ (DM 3 (jJ k++jJ m))));rintro _ _ _ ⟨rfl,rfl,rfl⟩;refine sx (i:=0) (hk:=az) (h:=(p2 (p2 (p1 (ig hn1 (fun _=>7) rfl rfl ⟨rfl,trivial⟩ rfl aA ?_) (uR 3 (jJ k++jJ m) (by rw[nA];omega) 3)) (uR 3 (jJ k++jJ m) (by rw[nA];omega) 2)) (uR 3 (jJ k++jJ m) (by rw[nA];omega) 1)));rintro _ _ _ ⟨rfl,rfl,rfl⟩;refine ig (Ao s.mark k s.S az (fun x hx=>by have:=hS2 x hx;omega)) (rr 3 6) rfl rfl ⟨rfl,rfl,trivial⟩ rfl av ?_;rintro _ _ _ ⟨rfl,rfl,rfl⟩;refine iU [0,7] false (tk [0,1,2,3,5]) au (RA.both 4 6 (iV au) (iY.read 4 gV rfl rfl ?_) (iY.hf 6 hn2 (fun _=>7) rfl rfl rfl ⟨rfl,trivial⟩ rfl aA ?_))
 ·refine ka 6 true (tk [7,8,9]++al [10]) hn2 (fun _=>7) rfl rfl rfl ⟨rfl,trivial⟩ rfl aA au ?_;rintro _ _ _ ⟨rfl,rfl,rfl⟩;exact V ⟨rfl,5,8,rfl,emx,rfl,rfl,rfl⟩
 ·rintro _ _ _ ⟨rfl,rfl,rfl⟩;exact RA.run (e:=true) gV au (fun _ _ h=>h) (al [4]++tk [7,8,9]++al [10]) au (V ⟨rfl,5,8,rfl,emx,rfl,rfl,rfl⟩)
theorem MP(s:iz)(u:Int)(g:Gn)(hS:lI s.S)(hu:kp u)(h1:kp g.lo)(h2:kp g.hi)(hm:sd g.mt)(hG:s.G.length≤1000000000000):
  Hf pg 33 7 [.p 0 0,gs (iR (.went u g))] (NH s 5 6) (fun G σ n=>G=.tup []∧σ=NH (FK (.went u g) s) 7 8∧n=9):=by
 have hN:(iR (.went u g)).size=1+(jJ u++jJ g.lo++jJ g.hi++kX (jN g.mt)).size:=nA 2 _;have hx:(iR (.went u g)).extract 1 (iR (.went u g)).size=jJ u++(jJ g.lo++(jJ g.hi++kX (jN g.mt))):=by
  rw[hN];refine (BL 2 _).trans ?_;rw[EK,EK]
 have hS1:s.S.length≤60:=hS.len;have hS2:∀x∈s.S,x.samples.length≤2000:=fun x hx=>((ja _).1 (hS.each x hx).2.1).2;have hms:=vg hm;have hpz:(jN g.mt).size≤500:=by rw[jN,s9];exact hms
 have hP1:mj false (kf ((iR (.went u g)).extract 1 (iR (.went u g)).size))=some (u,jJ g.lo++(jJ g.hi++kX (jN g.mt))):=by rw[hx,pV hu];rfl
 have hP2:mj false (kf (jJ g.lo++(jJ g.hi++kX (jN g.mt))))=some (g.lo,jJ g.hi++kX (jN g.mt)):=by rw[pV h1];rfl
 have hP3:mj false (kf (jJ g.hi++kX (jN g.mt)))=some (g.hi,kX (jN g.mt)):=by rw[pV h2];rfl
 have hP4:mj false (lz (kX (jN g.mt)))=some (jN g.mt,⟨#[]⟩):=by
  have:=xT (t:=jN g.mt) az ⟨#[]⟩;rw[AH]at this;rw[this];rfl
 have hn1:=ui (ta ((iR (.went u g)).extract 1 (iR (.went u g)).size) false) hP1;have hn2:=ui (ta (jJ g.lo++(jJ g.hi++kX (jN g.mt))) false) hP2;have hn3:=ui (ta (jJ g.hi++kX (jN g.mt)) false) hP3;have hn4:=ui (s6 (kX (jN g.mt)) false) hP4;have hmt:=Om (jN g.mt) az;have hmm:tE (jN g.mt).data.toList=.ok g.mt:=by
  have e:(jN g.mt).data.toList=jC (zk g.mt):=by rw[jN];simp[bS]
  rw[e];exact Pw hm
 rw[hmm]at hmt;have hgl:(s.G.map gr).length=s.G.length:=aA
 have eapp:some (hY.row 97 4 (s.G.map gr++[gr (u,g)]))=some (hY.row 97 4 ((s.G++[(u,g)]).map gr)):=congrArg (fun x=>some (hY.row 97 4 x)) (aP (f:=gr) (l₁:=s.G) (l₂:=[(u,g)])).symm;refine BO (Hf.of gV func33 rfl ntmps33 rfl results33 call33 fun H0 S0 w0 h0 g0=>(p2 ⟨ax,az,bY _,(ig (xk _) id rfl rfl trivial rfl (fun _ hh=>absurd hh (cf _)) ?_)⟩ (DM 2 _)));rintro _ _ _ ⟨rfl,rfl,rfl⟩;refine sx (i:=0) (hk:=az) (h:=(p2 (p1 (ig hn1 (fun _=>7) rfl rfl ⟨rfl,trivial⟩ rfl aA ?_) (uR 2 _ (by rw[nA];omega) 2)) (uR 2 _ (by rw[nA];omega) 1)));rintro _ _ _ ⟨rfl,rfl,rfl⟩;refine ig hn2 (fun _=>7) rfl rfl ⟨rfl,trivial⟩ rfl aA ?_;rintro _ _ _ ⟨rfl,rfl,rfl⟩;refine ig hn3 (fun _=>7) rfl rfl ⟨rfl,trivial⟩ rfl aA ?_;rintro _ _ _ ⟨rfl,rfl,rfl⟩;refine ig hn4 (fun _=>7) rfl rfl ⟨rfl,trivial⟩ rfl aA ?_;rintro _ _ _ ⟨rfl,rfl,rfl⟩;refine GO hmt rfl ?_
 repeat (first|refine p1 ?_|refine p2 ?_|refine p3 ?_|refine p4 ?_)
 refine ig (AA ⟨#[]⟩ false) (fun _=>7) rfl rfl ⟨rfl,trivial⟩ rfl aA ?_;rintro _ _ _ ⟨rfl,rfl,rfl⟩;refine p1 (JK.pb [0,5] ⟨[(0,.p 0 0),(7,.p 8 0)],[sB s 3 10,nC s 3 6,(10,.row 97 4 ((s.G++[(u,g)]).map gr)),sR s 6,(8,.hZ 97 (gr (u,g)))],11⟩ gV ?_ (fun hk=>?_))
 ·refine V (iU [3,6] false (tk [0,1,2,3,4,5]) au (ka 6 true (tk []) (FQ s.mark s.S g az (fun x hx=>by have:=hS2 x hx;omega) (by have:=hm.2;omega)) (rr 3 6) rfl rfl rfl ⟨rfl,rfl,trivial⟩ rfl av au ?_));rintro _ _ _ ⟨rfl,rfl,rfl⟩;exact V ⟨rfl,10,11,rfl,rfl,rfl,rfl,rfl⟩
 ·refine RA.run (cx:=⟨pg,_,_,_,_,_,_,_⟩) gV au ak (tk [0,1,2,3,5]) (e:=false) au (RA.both 4 6 (iV au) (iY.read 4 gV rfl rfl ?_) (iY.mem 6 gV rfl rfl rfl ?_))
  ·exact RA.run (cx:=⟨pg,_,_,_,_,_,_,_⟩) gV au ak (al [6,7]++tk [8,9]++al [10]) (e:=false) au ⟨by simp only[aD,aB,aM];omega,(RA.kD id au hk ⟨⟨rfl,rfl,trivial⟩,⟨rfl,rfl,eapp,rfl,rfl,trivial⟩,rfl⟩)⟩
  ·exact RA.run (cx:=⟨pg,_,_,_,_,_,_,_⟩) gV au ak (al [4,7]++tk [8,9]++al [10]) (e:=false) au ⟨by simp only[aD,aB,aM];omega,(RA.kD id au hk ⟨⟨rfl,rfl,trivial⟩,⟨rfl,rfl,eapp,rfl,rfl,trivial⟩,rfl⟩)⟩
def rO:Nat->Nat:=λi=>bif Nat.beq i 0 then 5 else bif Nat.beq i 1 then 0 else bif Nat.beq i 2 then 1 else bif Nat.beq i 3 then 2 else bif Nat.beq i 5 then 6 else bif Nat.beq i 6 then 3 else i
def QG:∀i,i<7->rO i<7:=ax
abbrev OH(s:iz)(d:Dk)(fp:List Nat):Heap:=[(0,.ab (dk d fp)),(1,.hZ 87 [.p 0 0,.p 2 0,.p 3 0,.o 4,.o 5,gi s.nx,.v (.bool false)]),wl 2 0 false,nC s 3 6,sM s,sG s 5,sR s 6]
def RO(s:iz)(n:Nt)(hS:lI s.S)(hn:wC n)(hG:s.G.length<=1000000000000):
  Hf pg 33 7 [.p 0 0,gs (iR n)] (NH s 5 6) (λg σ k=>g=.tup []/\σ=NH (FK n s) 7 8/\k=9):=by
 cases n with
 |came l=>
  have hz:=mU hn;rw[show iR (.came l)=(⟨#[1]⟩:ByteArray)++lT l from rfl,nA]at hz;exact LK s l hS hn.1 hn.2.2 az
 |went u g=>exact MP s u g hS hn.1 hn.2.1 hn.2.2.1 hn.2.2.2 hG
 |mark k m=>exact Mj s k m hS hn.1 hn.2
abbrev SI(B:List (Value×Bl))(m:Mem):iz:=⟨m.mark,m.S,B,m.G,m.nx,false,false⟩
abbrev opened(s:iz)(d:Dk):iz:={s with B:=oI s.B (jI (names d))}
def yF{W K:Nat}{s:iz}{d:Dk}(h:iM W K s d):iM W K (opened s d) d/\iw (opened s d)=iw s:=by
 obtain⟨ns,hd,_⟩:=h.disk;obtain⟨h1,h2⟩:=Fs hd h.sto.bls (Ev hd.ok);exact⟨Sn h h1 h2,Gk h.sto h1 h2⟩
theorem Bv{W K:Nat}{s:iz}{d:Dk}(h:iM W K s d)(hK:K≤60)(hW:W≤100000000000)(fp:List Nat):
  Hf pg 8 1 [.p 0 0] [(0,.ab (dk d fp))] (fun g σ n=>g=.tup [.p 1 0,.v .nilIface]∧(∃fp,σ=OH (opened s d) d fp)∧n=7):=by
 obtain⟨ns,hd,hag,hno⟩:=h.disk;obtain⟨hst,_⟩:=yF h;have hbls:iP (oI s.B (jI (names d))) s.nx:=hst.sto.bls;have hbto:∀y∈oI s.B (jI (names d)),y.2.to_≤s.mark:=Uv hst.sto;have hbnx:∀y∈oI s.B (jI (names d)),max s.nx (oO y.1+1)=s.nx:=UD hst.sto;have hnx:=h.nx;have hcz:(jc (ns.map iR)).size≤W:=by
  rw[←hd.notes];unfold PL.cont;cases hf:jg nN d with
  |none=>exact aQ _
  |some x=>exact (zn hd.ok hf).1
 have hnl:ns.length≤W:=by
  have:=AS (ns.map iR);rw[aD]at this;omega
 have hop:=fun fp=>Rw d fp W hd.ok (ns.map iR) ByteArray.empty (by rw[hd.notes];exact (AH _).symm) Kk (fun x hx=>by
  obtain⟨n,hn,rfl⟩:=ba.1 hx;exact mU (hno n hn)) az (by rw[show jc (ns.map iR)++ByteArray.empty=jc (ns.map iR) from AH _];exact hcz) (fun hh=>absurd rfl hh)
 have hod:AQ (ns.map iR) ByteArray.empty d=d:=if_pos rfl;rw[hod]at hop;have hld:=Sg h hK ⟨-1099511627777,[],[],[],0,false,false⟩;have hnml:(((ns.map iR).map fun x=>[gs x]):List (List GV)).length=ns.length:=by simp
 refine Hf.jK (Q:=fun g σ _=>g=.tup [.p 5 0,.v .nilIface]∧∃r fp:_,gW σ 0=some (.ab (dk d fp))∧gW σ 1=some (wl 1 0 false).2∧gW σ 2=some (.hZ 159 [gi s.mark,.o r])∧gW σ r=some (.row 105 2 (s.S.map se))∧gW σ 4=some (.mp (some .i64) (iG eb (oI s.B (jI (names d)))))∧gW σ 5=some (.hZ 87 [.p 0 0,.p 1 0,.p 2 0,.o 4,.o 6,gi s.nx,.v (.bool false)])∧gW σ 6=some (.row 97 4 (s.G.map gr))∧r=3) (Hf.of gV func8 rfl ntmps8 rfl results8 call8 fun H0 S0 w0 h0 g0=>?_) ?_
 ·refine ig (hop fp) id rfl rfl ⟨rfl,trivial⟩ rfl ay ?_;rintro _ _ _ ⟨rfl,⟨fp1,rfl⟩,rfl⟩
  repeat (first|refine p1 ?_|refine p2 ?_|refine p3 ?_|refine p4 ?_)
  refine ig (Jx (-1099511627777)) id rfl rfl trivial rfl (fun _ hh=>absurd hh (cf _)) ?_;rintro _ _ _ ⟨rfl,rfl,rfl⟩;refine JK.rX 5 4 97 4 rfl rfl ?_;refine ig (hld _) rO rfl rfl ⟨rfl,rfl,rfl,trivial⟩ rfl QG ?_;rintro _ _ _ ⟨rfl,⟨fp2,rfl⟩,rfl⟩
  repeat (first|refine p1 ?_|refine p2 ?_|refine p3 ?_|refine p4 ?_)
  clear hst hld;generalize oI s.B (jI (names d))=B' at*;refine JK.iT (α:=Nat) (β:=Unit) (fun i=>⟨[(7,.p 5 0),(33,.sl 1 ((ns.map iR).map fun x=>[gs x])),(34,gi ((ns.map iR).map fun x=>[gs x]).length),(35,gi (i:Nat))],[(0,.ab (dk d fp2)),wl 1 0 false,(2,.hZ 159 [gi (SI B' (kZ (ns.take i))).mark,.o 3]),(3,.row 105 2 ((SI B' (kZ (ns.take i))).S.map se)),(4,.mp (some .i64) (iG eb B')),(5,.hZ 87 [.p 0 0,.p 1 0,.p 2 0,.o 4,.o 6,gi (SI B' (kZ (ns.take i))).nx,.v (.bool false)]),(6,.row 97 4 ((SI B' (kZ (ns.take i))).G.map gr))],7⟩) (fun i=>i≤ns.length) (fun i=>ns.length-i)
   (fun _=>⟨[(7,.p 5 0)],[(0,.ab (dk d fp2)),wl 1 0 false,(2,.hZ 159 [gi (SI B' (kZ ns)).mark,.o 3]),(3,.row 105 2 ((SI B' (kZ ns)).S.map se)),(4,.mp (some .i64) (iG eb B')),(5,.hZ 87 [.p 0 0,.p 1 0,.p 2 0,.o 4,.o 6,gi (SI B' (kZ ns)).nx,.v (.bool false)]),(6,.row 97 4 ((SI B' (kZ ns)).G.map gr))],7⟩) (fun _=>True) 0 id ?_ (aQ _) ?_ ?_
  ·exact⟨⟨rfl,rfl,rfl,rfl,trivial⟩,⟨rfl,rfl,rfl,rfl,j6 _ id _,rfl,rfl,trivial⟩,aa⟩
  ·rintro i hi;replace hi:i≤ns.length:=hi;refine V ?_;by_cases hlt:i<ns.length
   ·have hgl:=H8 (ns.take i);rw[aY]at hgl;have hnt:=RO (SI B' (kZ (ns.take i))) ns[i] (Kg _) (hno _ (aR hlt)) (by show (kZ (ns.take i)).G.length≤_;omega);have hag2:=Kz ns hlt;refine p1 ?_ aj;refine⟨[gs (iR ns[i])],aN i,by show ((ns.map iR).map fun x=>[gs x])[i]? =_;rw[bg,bg,aC hlt];rfl,?_⟩;refine ig hnt rO rfl rfl ⟨rfl,rfl,rfl,rfl,trivial⟩ rfl QG ?_;rintro _ _ _ ⟨rfl,rfl,rfl⟩;refine⟨i+1,fun k=>bif Nat.beq k 6 then 7 else bif Nat.beq k 3 then 8 else k,⟨⟨rfl,rfl,rfl,h_ az,trivial⟩,⟨rfl,rfl,?_,?_,iI _ _,?_,?_,trivial⟩,aa⟩,hlt,by show ns.length- (i+1)<ns.length-i;omega⟩
    ·exact congrArg (fun m:Mem=>some (hY.hZ 159 [gi m.mark,.o 8])) hag2.symm
    ·exact congrArg (fun m:Mem=>some (hY.row 105 2 (m.S.map se))) hag2.symm
    ·exact congrArg (fun m:Mem=>some (hY.hZ 87 [.p 0 0,.p 1 0,.p 2 0,.o 4,.o 7,gi m.nx,.v (.bool false)])) hag2.symm
    ·exact congrArg (fun m:Mem=>some (hY.row 97 4 (m.G.map gr))) hag2.symm
   ·refine p2 ?_ ai;obtain rfl:i=ns.length:=by omega
    rw[aT];exact⟨(),id,⟨⟨rfl,trivial⟩,⟨rfl,rfl,rfl,rfl,iI id _,rfl,rfl,trivial⟩,aa⟩,trivial⟩
  ·rintro _ _;rw[show SI B' (kZ ns)=SI B' s.mem from by rw[hag]];have hS1:s.S.length≤60:=h.sto.mem.head.len;have hS2:∀x∈s.S,x.samples.length≤2000:=fun x hx=>((ja _).1 (h.sto.mem.head.each x hx).2.1).2;refine V ?_;refine JK.iT (α:=List Value×Option Value) (β:=Option Value) (fun a=>⟨[(7,.p 5 0),(47,.p 7 0)],[(0,.ab (dk d fp2)),wl 1 0 false,(2,.hZ 159 [gi s.mark,.o 3]),(3,.row 105 2 (s.S.map se)),(4,.itr 7),(5,.hZ 87 [.p 0 0,.p 1 0,.p 2 0,.o 4,.o 6,gi s.nx,.v (.bool false)]),(6,.row 97 4 (s.G.map gr))]++[(7,.mr (some .i64) (iG eb B') a.1 a.2)],8⟩) (fun a=>∀k∈a.1,k∈B'.map (·.1)) (fun a=>a.1.length)
    (fun c=>⟨[(7,.p 5 0)],[(0,.ab (dk d fp2)),wl 1 0 false,(2,.hZ 159 [gi s.mark,.o 3]),(3,.row 105 2 (s.S.map se)),(4,.itr 7),(5,.hZ 87 [.p 0 0,.p 1 0,.p 2 0,.o 4,.o 6,gi s.nx,.v (.bool false)]),(6,.row 97 4 (s.G.map gr))]++[(7,.mr (some .i64) (iG eb B') [] c)],8⟩) (fun _=>True) (B'.map (·.1),none) id ?_ (fun k hk=>hk) ?_ ?_
   ·refine⟨⟨rfl,rfl,trivial⟩,⟨rfl,rfl,rfl,rfl,rfl,rfl,rfl,?_,trivial⟩,aa⟩;exact congr (congrArg (fun x y=>some (hY.mr (some IntKind.i64) x y none)) (np _ _).symm) (JJ B')
   ·rintro⟨lf,cur⟩ hp;replace hp:∀k∈lf,k∈B'.map (·.1):=hp;refine V ?_;refine⟨fun e=>?_,fun kl1 k kl2 g hlk hg=>?_⟩
    ·obtain rfl:lf=[]:=e;exact⟨cur,id,⟨⟨rfl,trivial⟩,⟨rfl,rfl,rfl,rfl,rfl,rfl,rfl,congrArg (fun x=>some (hY.mr (some IntKind.i64) x [] cur)) (np _ _).symm,trivial⟩,aa⟩,trivial⟩
    ·obtain rfl:lf=kl1++k::kl2:=hlk;obtain⟨y,hy,rfl⟩:=ba.1 (hp k aA);obtain⟨n,en,n0,n1⟩:=hbls.keys y hy;obtain⟨q,b⟩:=y;simp only at en;subst en;simp only at hp hg⊢;have hfind:jl (kn n) (iG eb B')=some (eb b):=by
      rw[pC,(kF (kd:=some .i64) rfl hbls.sort hbls.nd).2 hy];rfl
     obtain rfl:g=eb b:=br (hg.symm.trans hfind);have hto:=hbto _ hy;have hmx:=hbnx _ hy;obtain⟨cs1,cs2⟩:=OC h.sto (t:=b.to_) hto;have hwn:i64.wrap (n+1)=n+1:=ic az az;have hmx':(if s.nx<i64.wrap (n+1) then i64.wrap (n+1) else s.nx)=s.nx:=by
      rw[hwn,Ac];exact hmx
     refine⟨_,hg,?_⟩;refine iU [2,3] false (tk [0,1,2,3,4,5]) au ?_;refine ka 6 true (tk []) (Ao s.mark b.to_ s.S az (fun x hx=>by have:=hS2 x hx;omega)) (rr 2 3) rfl rfl rfl ⟨rfl,rfl,trivial⟩ rfl av au ?_;rintro _ _ _ ⟨rfl,rfl,rfl⟩;refine V ?_;refine⟨(kl1++kl2,some (kn n)),fun k=>bif Nat.beq k 3 then 9 else k,⟨⟨rfl,rfl,trivial⟩,⟨rfl,rfl,congrArg (fun i=>some (hY.hZ 159 [gi i,.o 9])) cs1,congrArg (fun S:List gY=>some (hY.row 105 2 (S.map se))) cs2,rfl,congrArg (fun i=>some (hY.hZ 87 [.p 0 0,.p 1 0,.p 2 0,.o 4,.o 6,gi i,.v (.bool false)])) hmx',rfl,congrArg (fun x=>some (hY.mr (some IntKind.i64) x (kl1++kl2) (some (kn n)))) (np _ _).symm,trivial⟩,aa⟩,fun k hk=>hp k (by rcases aE.1 hk with h1|h1<;>simp[h1]),by show (kl1++kl2).length<(kl1++kn n::kl2).length;simp⟩
   ·rintro c _;refine JK.Ar 4 7 rfl rfl rfl ?_;refine V ?_;exact⟨rfl,3,fp2,rfl,rfl,rfl,rfl,rfl,rfl,rfl,rfl⟩
 ·rintro g σ n ⟨rfl,r,fp,e0,e1,e2,e3,e4,e5,e6,rfl⟩;refine⟨fun k=>bif Nat.beq k 1 then 5 else bif Nat.beq k 2 then 1 else bif Nat.beq k 3 then 2 else bif Nat.beq k 5 then 6 else bif Nat.beq k 6 then 3 else k,.tup [.p 1 0,.v .nilIface],OH (opened s d) d fp,7,⟨rfl,⟨fp,rfl⟩,rfl⟩,rfl,⟨e0,e5,e1,e2,e4.trans (iI _ _),e6,e3,trivial⟩,aa⟩
def MG{n:Nat}(h:Nat.ble 8 n=true):∀i,i<7->r1 6 7 i<n:=λi hi=>a_ (Ad i hi) (bA h)
def Ul{id:Nat}{cs:List GV}(g:Nat->Nat)(B:List (Value×Bl)):some (hY.mp (some .i64) ((jS g (iG eb B)).map λx=>(x.1,pB id cs x.2)))=some (hY.mp (some .i64) (iG eb B)):=by
 rw[np,bR];exact congrArg (λx=>some (hY.mp (some IntKind.i64) x)) (cd λx _=>rfl)
def UM:Nat->Nat:=λi=>bif Nat.beq i 3 then 9 else bif Nat.beq i 6 then 10 else i
def T5:∀i,i<7->UM i<11:=ax
theorem Ch{W K:Nat}{s:iz}{d:Dk}(h:iM W K s d)(hK:K<60)(hW:W≤100000000000)(l:List gY)(hl:l.length≤1000)(hx:∀x∈l,Sh x.labels∧x.samples.length≤100000∧x.labels.length≤100000)(hv:∀x∈l,lV x.samples):
  ∃d' W',W'≤W+60002∧iM W' (K+1) (j8 l s).2 d'∧∀fp,Hf pg 24 7 [.p 0 0,jn l] (SH s d fp 3 5 6) (lq (Ae (j8 l s).1) (j8 l s).2 d'):=by
 have hll:(l.map se).length=l.length:=aA
 have hS1:s.S.length≤60:=h.sto.mem.head.len;have hS2:∀x∈s.S,Sh x.labels∧x.samples.length≤2000∧x.labels.length≤8:=fun x hx=>by
  obtain⟨a,b,_⟩:=h.sto.mem.head.each x hx;have h8:=lS a;exact⟨fun y hy=>by have:=(h8.2 y hy).2;omega,((ja _).1 b).2,h8.1⟩
 have hse:=uB s.mark s.S az (fun x hx=>⟨by have:=(hS2 x hx).2.1;omega,by have:=(hS2 x hx).2.2;omega⟩);have hap:=CA s.mark s.S l h.sto.mem.head az hx;by_cases he:(jb s.mark s.S l).1.1=0
 ·obtain⟨haw,hA,hL⟩:=RI h hK l he;have hmk:∀ls,Hf pg 68 7 [.p 0 0,om ls] (RH (mO s l)) (fun g σ n=>g=gi (nH ls (iw (mO s l)):Nat)∧σ=RH (mO s l)∧n=7):=fun ls=>SL (mO s l) ls haw hA hL;have h00:Ae (jb s.mark s.S l).1=.v .nilIface:=by
   rcases tP (jb s.mark s.S l).1 with ⟨_,h0⟩|⟨h1,_⟩|⟨h1,_⟩
   ·exact h0
   ·exact absurd he h1
   ·exact absurd he h1
  cases hF:qa (iw (mO s l)) l with
  |none=>
   have hno:∀j (hj:j<l.length),¬2000<nH l[j].labels (iw (mO s l)):=fun j hj=>by
    have:=(dN.1 hF) l[j] (aR hj);simpa using this
   obtain⟨d',e1,st⟩:=OB h hv (by rw[sE he hF]);rw[sE he hF]at st⊢;obtain⟨g1,g2,_⟩:=pK he;have hgd:=B6 g2;have hlen:l.length≤40:=by have:=w6 (l:=l) fun x hx=>(hgd x hx).2.2;omega
   have hbad:rB l=none:=Ep fun x hx=>⟨(hgd x hx).1,(hgd x hx).2.1,hv x hx⟩;have hwz:(lT l).size≤10000000:=by have:=xw (l:=l) fun x hx=>(hgd x hx).1;omega
   obtain⟨ns,hd,_⟩:=h.disk;have hadd:∀fp,Hf pg 41 2 [.p 1 0,gs (iR (.came l))] [(0,.ab (dk d fp)),wl 1 0 false] (oC (qi none) false d'):=fun fp=>by
    have:=Cz d fp W hd.ok az (iR (.came l)) false;rw[e1]at this;exact this
   refine⟨d',W+60002,aL _,st,fun fp=>lq.of (AG _) (Hf.of gV func24 rfl ntmps24 rfl results24 call24 fun H0 S0 w0 hn0 g0=>(ig (vy s d fp) id rfl rfl ⟨rfl,rfl,rfl,trivial⟩ rfl ay ?_))⟩;rintro _ _ _ ⟨rfl,⟨fp1,rfl⟩,rfl⟩
   repeat (first|refine p1 ?_|refine p2 ?_|refine p3 ?_|refine p4 ?_)
   refine ig hse (rr 3 6) rfl rfl ⟨rfl,rfl,trivial⟩ rfl av ?_;rintro _ _ _ ⟨rfl,rfl,rfl⟩;refine ig (oW s.mark s.S) (rr 3 6) rfl rfl ⟨rfl,rfl,trivial⟩ rfl av ?_;rintro _ _ _ ⟨rfl,rfl,rfl⟩;refine ig hap (rr 3 6) rfl rfl ⟨rfl,rfl,trivial⟩ rfl av ?_;rintro g _ _ ⟨hg,rfl,rfl⟩;rw[h00]at hg;subst hg
   repeat (first|refine p1 ?_|refine p2 ?_|refine p3 ?_|refine p4 ?_)
   refine JK.iT (α:=Nat) (β:=Unit) (fun i=>⟨[(0,.p 0 0),(1,jn l),(35,jn l),(36,gi (l.map se).length),(37,gi i)],SH (mO s l) d fp1 3 5 7,8⟩) (fun i=>i≤l.length) (fun i=>l.length-i)
    (fun _=>⟨[(0,.p 0 0),(1,jn l)],SH (mO s l) d fp1 3 5 7,8⟩) (fun _=>True) 0 id ?_ (aQ _) ?_ ?_
   ·exact⟨⟨rfl,rfl,rfl,rfl,rfl,trivial⟩,⟨rfl,rfl,rfl,rfl,iI id s.B,rfl,rfl,trivial⟩,aa⟩
   ·rintro i hi;replace hi:i≤l.length:=hi;refine V ?_;by_cases hlt:i<l.length
    ·have hni:=hno i hlt;refine p1 (ix (h:=(ig (hmk l[i].labels) (r1 6 7) rfl rfl ⟨rfl,rfl,iI _ s.B,rfl,rfl,trivial⟩ af (MG rfl) ?_))) aj;rintro _ _ _ ⟨rfl,rfl,rfl⟩;exact p2 ⟨i+1,id,⟨⟨rfl,rfl,rfl,rfl,h_ az,trivial⟩,⟨rfl,rfl,rfl,rfl,j6 _ id s.B,rfl,rfl,trivial⟩,aa⟩,hlt,m8⟩ ai
    ·exact p2 ⟨(),id,⟨⟨rfl,rfl,trivial⟩,⟨rfl,rfl,rfl,rfl,iI id s.B,rfl,rfl,trivial⟩,aa⟩,trivial⟩ ai
   ·rintro _ _;refine V (iU [1,2] false (tk [0,1,2,3,4]) au (kE 5 false (tk []) (AX l hbad hwz (fun x hx'=>(hx x hx').1)) rfl rfl au (ka 6 true (tk [7]) (hadd _) (rr 1 2) rfl rfl rfl ⟨rfl,rfl,trivial⟩ rfl av au ?_)));rintro _ _ _ ⟨rfl,⟨fp4,rfl⟩,rfl⟩;exact V ⟨rfl,3,5,7,rfl,⟨_,.v (.bool false),rfl,rfl,rfl⟩,⟨fp4,rfl⟩,rfl,rfl,rfl,rfl,rfl⟩
  |some i0=>
   obtain⟨hi0,hi1,hi2⟩:=ck.1 hF;have hi1:2000<nH l[i0].labels (iw (mO s l)):=of_decide_eq_true hi1;rw[uL he hF];have hfs:=EI h.sto.mem.head h.sto.mem.above;have hfi:=IE {s with S:=[]} s.S lI.nil az (fun x hx=>⟨(hS2 x hx).1,by have:=(hS2 x hx).2.1;omega,by have:=(hS2 x hx).2.2;omega⟩);refine⟨d,W,az,⟨h.sto,h.few,h.iN,h.up,by have:=h.nx;show s.nx≤((K+1:Nat):Int);omega,h.gl,h.gok,h.size.mono az,h.disk⟩,fun fp=>lq.of (AG _) (Hf.of gV func24 rfl ntmps24 rfl results24 call24 fun H0 S0 w0 hn0 g0=>(ig (vy s d fp) id rfl rfl ⟨rfl,rfl,rfl,trivial⟩ rfl ay ?_))⟩;rintro _ _ _ ⟨rfl,⟨fp1,rfl⟩,rfl⟩
   repeat (first|refine p1 ?_|refine p2 ?_|refine p3 ?_|refine p4 ?_)
   refine ig hse (rr 3 6) rfl rfl ⟨rfl,rfl,trivial⟩ rfl av ?_;rintro _ _ _ ⟨rfl,rfl,rfl⟩;refine ig (oW s.mark s.S) (rr 3 6) rfl rfl ⟨rfl,rfl,trivial⟩ rfl av ?_;rintro _ _ _ ⟨rfl,rfl,rfl⟩;refine ig hap (rr 3 6) rfl rfl ⟨rfl,rfl,trivial⟩ rfl av ?_;rintro g _ _ ⟨hg,rfl,rfl⟩;rw[h00]at hg;subst hg
   repeat (first|refine p1 ?_|refine p2 ?_|refine p3 ?_|refine p4 ?_)
   refine JK.iT (α:=Nat) (β:=Unit) (fun i=>⟨[(0,.p 0 0),(1,jn l),(6,jn s.S),(7,gi s.mark),(35,jn l),(36,gi (l.map se).length),(37,gi i)],SH (mO s l) d fp1 3 5 7,8⟩) (fun i=>i≤i0) (fun i=>l.length-i)
    (fun _=>⟨[(0,.p 0 0),(1,jn l)],SH (mO s l) d fp1 3 5 7,8⟩) (fun _=>False) 0 id ?_ (aQ _) ?_ ?_
   ·exact⟨⟨rfl,rfl,rfl,rfl,rfl,rfl,rfl,trivial⟩,⟨rfl,rfl,rfl,rfl,iI id s.B,rfl,rfl,trivial⟩,aa⟩
   ·rintro i hi;replace hi:i≤i0:=hi;have hlt:i<l.length:=az
    refine V (p1 (ix (h:=(ig (hmk l[i].labels) (r1 6 7) rfl rfl ⟨rfl,rfl,iI _ s.B,rfl,rfl,trivial⟩ af (MG rfl) ?_))) aj);rintro _ _ _ ⟨rfl,rfl,rfl⟩;by_cases hii:i=i0
    ·subst hii;refine p1 (ig (Jx s.mark) id rfl rfl trivial rfl (fun i hi=>absurd hi (cf i)) ?_) aj;rintro _ _ _ ⟨rfl,rfl,rfl⟩;refine sw hfi UM rfl rfl ⟨rfl,rfl,rfl,trivial⟩ rfl T5 ?_;rintro _ _ _ ⟨rfl,rfl,rfl,_⟩;refine VM 9 (sI 12 rfl rfl ⟨?_,9,5,11,rfl,⟨_,.v (.bool false),rfl,rfl,rfl⟩,⟨fp1,rfl⟩,rfl,rfl,?_,rfl,?_⟩)
     ·rcases tP ((12:Int),(i:Int)) with ⟨h1,_⟩|⟨_,h1⟩|⟨_,h1⟩
      ·exact absurd h1 aA
      ·exfalso;unfold Ae at h1;rw[if_neg aA,if_neg an]at h1;cases h1
      ·rw[h1];rfl
     ·exact Ul _ s.B
     ·exact congrArg (fun S:List gY=>some (hY.row 105 2 (S.map se))) hfs
    ·have hni:=hi2 i az;have hni:¬2000<nH l[i].labels (iw (mO s l)):=by simpa using hni
     exact p2 ⟨i+1,id,⟨⟨rfl,rfl,rfl,rfl,rfl,rfl,h_ az,trivial⟩,⟨rfl,rfl,rfl,rfl,j6 _ id s.B,rfl,rfl,trivial⟩,aa⟩,by show i+1≤i0;omega,m8⟩ ai
   ·rintro _ hf;exact hf.elim
 ·rw[vO he];refine⟨d,W,az,⟨h.sto,h.few,h.iN,h.up,by have:=h.nx;show s.nx≤((K+1:Nat):Int);omega,h.gl,h.gok,h.size.mono az,h.disk⟩,fun fp=>lq.of (AG _) (Hf.of gV func24 rfl ntmps24 rfl results24 call24 fun H0 S0 w0 hn0 g0=>(ig (vy s d fp) id rfl rfl ⟨rfl,rfl,rfl,trivial⟩ rfl ay ?_))⟩;rintro _ _ _ ⟨rfl,⟨fp1,rfl⟩,rfl⟩
  repeat (first|refine p1 ?_|refine p2 ?_|refine p3 ?_|refine p4 ?_)
  refine ig hse (rr 3 6) rfl rfl ⟨rfl,rfl,trivial⟩ rfl av ?_;rintro _ _ _ ⟨rfl,rfl,rfl⟩;refine ig (oW s.mark s.S) (rr 3 6) rfl rfl ⟨rfl,rfl,trivial⟩ rfl av ?_;rintro _ _ _ ⟨rfl,rfl,rfl⟩;refine ig hap (rr 3 6) rfl rfl ⟨rfl,rfl,trivial⟩ rfl av ?_;rintro g _ _ ⟨hg,rfl,rfl⟩;rcases tP (jb s.mark s.S l).1 with ⟨h0,_⟩|⟨_,h0⟩|⟨_,h0⟩
  ·exact absurd h0 he
  ·rw[h0]at hg⊢;subst hg
   repeat (first|refine p1 ?_|refine p2 ?_|refine p3 ?_|refine p4 ?_)
   exact⟨rfl,3,5,7,rfl,⟨_,.v (.bool false),rfl,rfl,rfl⟩,⟨fp1,rfl⟩,rfl,rfl,rfl,rfl,congrArg (fun S:List gY=>some (hY.row 105 2 (S.map se))) (EL he)⟩
  ·rw[h0]at hg⊢;subst hg
   repeat (first|refine p1 ?_|refine p2 ?_|refine p3 ?_|refine p4 ?_)
   exact⟨rfl,3,5,7,rfl,⟨_,.v (.bool false),rfl,rfl,rfl⟩,⟨fp1,rfl⟩,rfl,rfl,rfl,rfl,congrArg (fun S:List gY=>some (hY.row 105 2 (S.map se))) (EL he)⟩
def Ut{id sz:Nat}{rows:List (List GV)}(B:List (Value×Bl)):some (hY.mp (some .i64) ((iG eb B).map λx=>(x.1,lJ id sz rows x.2)))=some (hY.mp (some .i64) (iG eb B)):=by rw[xu]
def NS(g:Nat->Nat)(n:Int)(B:List (Value×Bl)):some (hY.mp (some .i64) (nM (kn n) (iG eb B)))=some (hY.mp (some .i64) (jS g (iG eb (kA (kn n) B)))):=by rw[np,oV]
theorem Kh{W K:Nat}{s:iz}{d:Dk}(h:iM W K s d)(t:Int)(hg:kN t s=[])(fp:List Nat):
  Hf pg 36 7 [.p 0 0,gi t] (SH s d fp 3 5 6) (lq (.tup [gi 0,.v .nilIface]) s d):=by
 have hB30:=h.sto.len;have hnl:((gZ s.B).map fun n=>[gi n]).length=(gZ s.B).length:=by simp
 have hnum:(gZ s.B).length=s.B.length:=by
  show (p6 _).length=_;rw[(ku _).length_eq,aD]
 refine lq.of rfl (Hf.of gV func36 rfl ntmps36 rfl results36 call36 fun H0 S0 w0 hn0 g0=>?_);refine ig (vy s d fp) id rfl rfl ⟨rfl,rfl,rfl,trivial⟩ rfl ay ?_;rintro _ _ _ ⟨rfl,⟨fp1,rfl⟩,rfl⟩
 repeat (first|refine p1 ?_|refine p2 ?_|refine p3 ?_|refine p4 ?_)
 refine ig (qO s h.sto.bls az) id rfl rfl ⟨rfl,iI id s.B,trivial⟩ af ay ?_;rintro _ _ _ ⟨rfl,rfl,rfl⟩;refine JK.kx 7 2 1 rfl ?_;refine JK.iT (α:=Nat) (β:=Unit) (fun i=>⟨[(0,.p 0 0),(1,gi t),(7,.o 7),(20,qW (gZ s.B)),(21,gi ((gZ s.B).map fun n=>[gi n]).length),(22,gi i)],[sB s 3 5,(1,.ab (dk d fp1)),wl 2 1 false,nC s 3 6,(4,.mp (some .i64) (iG eb s.B)),sG s 5,sR s 6]++[(7,.row 2 1 ((((gZ s.B).take i).filter fun n=>decide ((js s.B n).to_≤t)).map fun n=>[gi n]))],8⟩) (fun i=>i≤(gZ s.B).length) (fun i=>(gZ s.B).length-i)
  (fun _=>⟨[(0,.p 0 0),(1,gi t),(7,.o 7)],[sB s 3 5,(1,.ab (dk d fp1)),wl 2 1 false,nC s 3 6,(4,.mp (some .i64) (iG eb s.B)),sG s 5,sR s 6]++[(7,.row 2 1 ((kN t s).map fun n=>[gi n]))],8⟩) (fun _=>True) 0 id ?_ (aQ _) ?_ ?_
 ·exact⟨⟨rfl,rfl,rfl,rfl,rfl,rfl,trivial⟩,⟨rfl,rfl,rfl,rfl,j6 _ id s.B,rfl,rfl,rfl,trivial⟩,aa⟩
 ·rintro i hi;replace hi:i≤(gZ s.B).length:=hi;refine V ?_;by_cases hlt:i<(gZ s.B).length
  ·have hn:=aR hlt;have hst:=A7 (fun n=>decide ((js s.B n).to_≤t)) (gZ s.B) hlt;have hfl:=bZ (fun n=>decide ((js s.B n).to_≤t)) ((gZ s.B).take i);rw[aY]at hfl;refine p1 ?_ aj;refine ix (h:=?_);refine oK (wR h.sto.bls hn) ?_;by_cases hc:(js s.B (gZ s.B)[i]).to_≤t
   ·refine p1 ?_ (decide_eq_true hc);rw[if_pos (decide_eq_true hc)]at hst;refine⟨by simp only[aD,aB,aM];omega,?_⟩;refine⟨i+1,r1 7 9,⟨⟨rfl,rfl,rfl,rfl,rfl,h_ az,trivial⟩,⟨rfl,rfl,rfl,rfl,iI _ s.B,rfl,rfl,?_,trivial⟩,aa⟩,hlt,by show (gZ s.B).length- (i+1)<(gZ s.B).length-i;omega⟩;exact congrArg (fun x=>some (hY.row 2 1 x)) (by rw[hst,aP];rfl)
   ·refine p2 ?_ (decide_eq_false hc);rw[if_neg (by rw[decide_eq_false hc];exact bM),aZ]at hst;refine⟨i+1,id,⟨⟨rfl,rfl,rfl,rfl,rfl,h_ az,trivial⟩,⟨rfl,rfl,rfl,rfl,iI _ s.B,rfl,rfl,?_,trivial⟩,aa⟩,hlt,by show (gZ s.B).length- (i+1)<(gZ s.B).length-i;omega⟩;exact congrArg (fun x:List Int=>some (hY.row 2 1 (x.map fun n=>[gi n]))) hst.symm
  ·refine p2 ?_ ai;obtain rfl:i=(gZ s.B).length:=by omega
   refine⟨(),id,⟨⟨rfl,rfl,rfl,trivial⟩,⟨rfl,rfl,rfl,rfl,iI _ s.B,rfl,rfl,?_,trivial⟩,aa⟩,trivial⟩;exact congrArg (fun x:List Int=>some (hY.row 2 1 ((x.filter fun n=>decide ((js s.B n).to_≤t)).map fun n=>[gi n]))) (aT (l:=gZ s.B))
 ·rintro _ _;refine ot 7 rfl ?_;rw[hg];refine p1 ?_;exact⟨⟨rfl,rfl,trivial⟩,3,5,6,rfl,⟨_,.v (.bool false),rfl,rfl,rfl⟩,⟨fp1,rfl⟩,rfl,rfl,Ut s.B,rfl,rfl⟩
theorem Mz{W K:Nat}{s:iz}{d:Dk}(h:iM W K s d)(hK:K<60)(hW:W≤100000000000)(t:Int)(hg:kN t s≠ []):
  ∃d',iM (W+60002) (K+1) (y7 t s) d'∧∀fp,Hf pg 36 7 [.p 0 0,gi t] (SH s d fp 3 5 6) (lq (.tup [gi ((kN t s).length:Nat),.v .nilIface]) (y7 t s) d'):=by
 have hB30:=h.sto.len;have hnl:((gZ s.B).map fun n=>[gi n]).length=(gZ s.B).length:=by simp
 have hnum:(gZ s.B).length=s.B.length:=by
  show (p6 _).length=_;rw[(ku _).length_eq,aD]
 have hnx:=h.nx;obtain⟨d0,e1,st⟩:=RZ h az;obtain⟨ns0,CR,_⟩:=h.disk;obtain⟨ns,hd,hag,hno⟩:=st.disk;have hadd:∀fp,Hf pg 41 2 [.p 1 0,gs (iR (.mark s.mark s.nx))] [(0,.ab (dk d fp)),wl 1 0 false] (oC (qi none) false d0):=fun fp=>by
  have:=Cz d fp W CR.ok az (iR (.mark s.mark s.nx)) false;rw[e1]at this;exact this
 have hsub:=Rj t s;have hnd:=LQ (t:=t) h.sto.bls;have hok:=Ak h.sto.bls hsub hnd hd;have hrm:=fun {i:Nat} (hi:i<(kN t s).length)=>Jq h.sto.bls hsub hnd hd hi;have hgl:(kN t s).length≤(gZ s.B).length:=bZ _ _;have hg0:0<(kN t s).length:=cm.2 hg;have hgm:((kN t s).map fun n=>[gi n]).length=(kN t s).length:=by simp
 have hfin:=hok (kN t s).length (aL _);rw[aT]at hfin;refine⟨ng (kN t s) d0,TC st t hfin hag hno,fun fp=>lq.of rfl (Hf.of gV func36 rfl ntmps36 rfl results36 call36 fun H0 S0 w0 hn0 g0=>?_)⟩;refine ig (vy s d fp) id rfl rfl ⟨rfl,rfl,rfl,trivial⟩ rfl ay ?_;rintro _ _ _ ⟨rfl,⟨fp1,rfl⟩,rfl⟩
 repeat (first|refine p1 ?_|refine p2 ?_|refine p3 ?_|refine p4 ?_)
 refine ig (qO s h.sto.bls az) id rfl rfl ⟨rfl,iI id s.B,trivial⟩ af ay ?_;rintro _ _ _ ⟨rfl,rfl,rfl⟩;refine JK.kx 7 2 1 rfl ?_;refine JK.iT (α:=Nat) (β:=Unit) (fun i=>⟨[(0,.p 0 0),(1,gi t),(7,.o 7),(20,qW (gZ s.B)),(21,gi ((gZ s.B).map fun n=>[gi n]).length),(22,gi i)],[sB s 3 5,(1,.ab (dk d fp1)),wl 2 1 false,nC s 3 6,(4,.mp (some .i64) (iG eb s.B)),sG s 5,sR s 6]++[(7,.row 2 1 ((((gZ s.B).take i).filter fun n=>decide ((js s.B n).to_≤t)).map fun n=>[gi n]))],8⟩) (fun i=>i≤(gZ s.B).length) (fun i=>(gZ s.B).length-i)
  (fun _=>⟨[(0,.p 0 0),(1,gi t),(7,.o 7)],[sB s 3 5,(1,.ab (dk d fp1)),wl 2 1 false,nC s 3 6,(4,.mp (some .i64) (iG eb s.B)),sG s 5,sR s 6]++[(7,.row 2 1 ((kN t s).map fun n=>[gi n]))],8⟩) (fun _=>True) 0 id ?_ (aQ _) ?_ ?_
 ·exact⟨⟨rfl,rfl,rfl,rfl,rfl,rfl,trivial⟩,⟨rfl,rfl,rfl,rfl,j6 _ id s.B,rfl,rfl,rfl,trivial⟩,aa⟩
 ·rintro i hi;replace hi:i≤(gZ s.B).length:=hi;refine V ?_;by_cases hlt:i<(gZ s.B).length
  ·have hn:=aR hlt;have hst:=A7 (fun n=>decide ((js s.B n).to_≤t)) (gZ s.B) hlt;have hfl:=bZ (fun n=>decide ((js s.B n).to_≤t)) ((gZ s.B).take i);rw[aY]at hfl;refine p1 ?_ aj;refine ix (h:=?_);refine oK (wR h.sto.bls hn) ?_;by_cases hc:(js s.B (gZ s.B)[i]).to_≤t
   ·refine p1 ?_ (decide_eq_true hc);rw[if_pos (decide_eq_true hc)]at hst;refine⟨by simp only[aD,aB,aM];omega,?_⟩;refine⟨i+1,r1 7 9,⟨⟨rfl,rfl,rfl,rfl,rfl,h_ az,trivial⟩,⟨rfl,rfl,rfl,rfl,iI _ s.B,rfl,rfl,?_,trivial⟩,aa⟩,hlt,by show (gZ s.B).length- (i+1)<(gZ s.B).length-i;omega⟩;exact congrArg (fun x=>some (hY.row 2 1 x)) (by rw[hst,aP];rfl)
   ·refine p2 ?_ (decide_eq_false hc);rw[if_neg (by rw[decide_eq_false hc];exact bM),aZ]at hst;refine⟨i+1,id,⟨⟨rfl,rfl,rfl,rfl,rfl,h_ az,trivial⟩,⟨rfl,rfl,rfl,rfl,iI _ s.B,rfl,rfl,?_,trivial⟩,aa⟩,hlt,by show (gZ s.B).length- (i+1)<(gZ s.B).length-i;omega⟩;exact congrArg (fun x:List Int=>some (hY.row 2 1 (x.map fun n=>[gi n]))) hst.symm
  ·refine p2 ?_ ai;obtain rfl:i=(gZ s.B).length:=by omega
   refine⟨(),id,⟨⟨rfl,rfl,rfl,trivial⟩,⟨rfl,rfl,rfl,rfl,iI _ s.B,rfl,rfl,?_,trivial⟩,aa⟩,trivial⟩;exact congrArg (fun x:List Int=>some (hY.row 2 1 ((x.filter fun n=>decide ((js s.B n).to_≤t)).map fun n=>[gi n]))) (aT (l:=gZ s.B))
 ·rintro _ _;refine ot 7 rfl ?_;refine p2 ?_ (decide_eq_false (by rw[hgm];omega));refine iU [1,2,3,6] false (tk [0,1,2,3,4,5,6,7,9,10,11,12]) au ?_;refine ka 8 false (tk []) (oW s.mark s.S) (rr 3 6) rfl rfl rfl ⟨rfl,rfl,trivial⟩ rfl av au ?_;rintro _ _ _ ⟨rfl,rfl,rfl⟩;refine kE 13 false (tk []) (wK s.mark s.nx) rfl rfl au ?_;refine ka 14 true (tk [15]) (hadd _) (rr 1 2) rfl rfl rfl ⟨rfl,rfl,trivial⟩ rfl av au ?_;rintro _ _ _ ⟨rfl,⟨fp2,rfl⟩,rfl⟩;refine V ?_
  repeat (first|refine p1 ?_|refine p2 ?_|refine p3 ?_|refine p4 ?_)
  refine JK.iT (α:=Nat×List Nat) (β:=List Nat) (fun z=>⟨[(0,.p 0 0),(7,qW (kN t s)),(61,qW (kN t s)),(62,gi ((kN t s).map fun n=>[gi n]).length),(63,gi (z.1:Nat))],[sB s 3 5,(1,.ab (dk (ng ((kN t s).take z.1) d0) z.2)),wl 2 1 false,nC s 3 6,(4,.mp (some .i64) (iG eb (jL s.B ((kN t s).take z.1)))),sG s 5,sR s 6],7⟩) (fun z=>z.1≤(kN t s).length) (fun z=>(kN t s).length-z.1)
   (fun f=>⟨[(0,.p 0 0),(7,qW (kN t s))],[sB s 3 5,(1,.ab (dk (ng (kN t s) d0) f)),wl 2 1 false,nC s 3 6,(4,.mp (some .i64) (iG eb (jL s.B (kN t s)))),sG s 5,sR s 6],7⟩) (fun _=>True) (0,fp2) id ?_ (aQ _) ?_ ?_
  ·exact⟨⟨rfl,rfl,rfl,rfl,rfl,trivial⟩,⟨rfl,rfl,rfl,rfl,FB id s.B,rfl,rfl,trivial⟩,aa⟩
  ·rintro⟨i,f⟩ hi;replace hi:i≤(kN t s).length:=hi;refine V ?_;by_cases hlt:i<(kN t s).length
   ·have hr:=I3 h.sto.bls (hsub _ (aR hlt));have hrem:∀fp,Hf pg 85 1 [.p 0 0,gs (jk (kN t s)[i])] [(0,.ab (dk (ng ((kN t s).take i) d0) fp))] (mH (qi none) (ng ((kN t s).take (i+1)) d0)):=fun fp=>by
     have:=vM (ng ((kN t s).take i) d0) fp _ (hok i hi).ok (jk (kN t s)[i]);rw[hrm hlt]at this;exact this
    refine p1 ?_ (decide_eq_true an);refine ix (h:=?_);refine iU [1] false (tk [0,1,2,3,4]) au ?_;refine kE 5 false (tk []) (Av (kN t s)[i] hr.1 az) rfl rfl au ?_;refine ka 6 true (tk [7]) (hrem _) (fun _=>1) rfl rfl rfl ⟨rfl,trivial⟩ rfl aA au ?_;rintro _ _ _ ⟨rfl,⟨fp3,rfl⟩,rfl⟩;refine V ?_
    repeat (first|refine p1 ?_|refine p2 ?_|refine p3 ?_|refine p4 ?_)
    have hds:jL s.B ((kN t s).take (i+1))=kA (kn (kN t s)[i]) (jL s.B ((kN t s).take i)):=by
     rw[bx,aC hlt];exact wD s.B _ _
    refine⟨(i+1,fp3),id,⟨⟨rfl,rfl,rfl,rfl,h_ an,trivial⟩,⟨rfl,rfl,rfl,rfl,?_,rfl,rfl,trivial⟩,aa⟩,hlt,by simp only;omega⟩;exact (NS id (kN t s)[i] (jL s.B ((kN t s).take i))).trans (congrArg (fun x=>some (hY.mp (some IntKind.i64) (jS id (iG eb x)))) hds.symm)
   ·refine p2 ?_ (decide_eq_false an);obtain rfl:i=(kN t s).length:=by omega
    exact⟨f,id,⟨⟨rfl,rfl,trivial⟩,⟨rfl,congrArg (fun x=>some (hY.ab (dk (ng x d0) f))) (aT (l:=kN t s)),rfl,rfl,(iI id _).trans (congrArg (fun x=>some (hY.mp (some IntKind.i64) (jS id (iG eb (jL s.B x))))) (aT (l:=kN t s))),rfl,rfl,trivial⟩,aa⟩,trivial⟩
  ·rintro f _;refine V ?_;refine⟨?_,3,5,6,rfl,⟨_,.v (.bool false),rfl,rfl,rfl⟩,⟨f,rfl⟩,rfl,rfl,rfl,rfl,rfl⟩;show lL (.tup [gi ((kN t s).length:Nat),.v .nilIface]) (.tup [gi (((kN t s).map fun n=>[gi n]).length:Nat),.v .nilIface]);rw[hgm];exact⟨rfl,rfl,trivial⟩
def MQ:∀i,i<7->r1 5 8 i<9:=ax
def H6{s:iz}{d:Dk}(hB:s.B=[])(fp:List Nat):
  Hf pg 35 7 [.p 0 0] (SH s d fp 3 5 6) (lq (.ifc 54 (gi 7)) s d):=by
 refine lq.of rfl (Hf.of gV func35 rfl ntmps35 rfl results35 call35 λH0 S0 w0 hn0 g0=>(ig (o0 s d fp) id rfl rfl A0z rfl ay ?_));rintro _ _ _ ⟨rfl,⟨fp1,rfl⟩,rfl⟩;exact p2 (p1 ⟨rfl,3,5,6,rfl,⟨_,.v (.bool false),rfl,rfl,rfl⟩,⟨fp1,rfl⟩,rfl,rfl,rfl,rfl,rfl⟩ (decide_eq_true (by rw[hB];rfl)))
theorem KO{W K:Nat}{s:iz}{d:Dk}(h:iM W K s d)(hK:K<60)(hW:W≤100000000000)(hB:s.B≠ []):
  ∃d',iM (W+50000000) (K+1) (l9 s) d'∧∀fp,Hf pg 35 7 [.p 0 0] (SH s d fp 3 5 6) (lq (.v .nilIface) (l9 s) d'):=by
 have hB30:=h.sto.len;have hB0:0<s.B.length:=cm.2 hB;have hbl:(iG eb s.B).length=s.B.length:=aA
 have hnl:((gZ s.B).map fun n=>[gi n]).length=(gZ s.B).length:=aA
 have hnum:(gZ s.B).length=s.B.length:=by
  show (p6 _).length=_;rw[(ku _).length_eq,aD]
 have hnx:=h.nx;have h0:0≤s.nx:=h.sto.mem.nlo;have haw:=h.aw az;obtain⟨ns0,CR,_⟩:=h.disk;obtain⟨ns,d1,e1,CJ⟩:=RP h az hB;have hB1:iP (jE (kn s.nx) (pa s) s.B) (s.nx+1):=h.sto.bls.put h0 (pa s);have hsub:=ON h.sto;have hnd:=Cr h.sto.bls;have hok:=Ak hB1 hsub hnd CJ;have hrm:=fun {i:Nat} (hi:i<(gZ s.B).length)=>Jq hB1 hsub hnd CJ hi;have hfin:=hok (gZ s.B).length (aL _);rw[aT]at hfin;obtain⟨d',e2,st⟩:=TK h az hB hfin;have hbk:=(st.sto.hZ (kn s.nx,pa s) (aH.2 rfl)).1;have hfl:=JR st.sto st.size az (kn s.nx,pa s) (aH.2 rfl);replace hbk:lZ (qS s.B) (s.nx-1) (iF s.B s.G)=true:=hbk;replace hfl:(mw (qS s.B) (s.nx-1) (iF s.B s.G)).size≤900000:=hfl;have hwb:(mw (qS s.B) (s.nx-1) (iF s.B s.G)).size=16+(lT (iF s.B s.G)).size:=by
  unfold mw;rw[aJ,aJ,jw,jw]
 have hsh:∀x∈iF s.B s.G,tN x:=fun x hx=>by
  obtain⟨a,b⟩:=nQ hbk x hx;have h8:=(lS a).1;have h9:=((ja _).1 b).2;exact⟨az,az,fun y hy=>by have:=(lS a).2 y hy;omega⟩
 have hwr:=fun fp=>EC s d fp W CR.ok s.nx (pa s) h0 az hsh (by show (lT (iF s.B s.G)).size≤1000000;omega) hbk (by show W+(mw (qS s.B) (s.nx-1) (iF s.B s.G)).size≤4611686018427387904;omega) e1;have hfr:=E6 st az;have hnt:=Mi st;have hse:∀fp,Hf pg 97 2 [.p 1 0,.sl 1 (vx (kK (l9 s).mem))] [(0,.ab (dk (ng (gZ s.B) d1) fp)),wl 1 0 false] (oC (qi none) false d'):=fun fp=>by
  have:=Fq (ng (gZ s.B) d1) fp _ hfin.ok ((kK (l9 s).mem).map iR) (by rw[aD,we];have h1:(l9 s).G.length≤1000:=hnt.gl;have h2:s.S.length≤1000:=hnt.sl;show 1+(l9 s).G.length+s.S.length≤_;omega) az false;rw[e2]at this;exact this
 have hno:=Hd (l9 s) hnt.gl hnt.sl hnt.g hnt.sz hnt.k;have hwn:i64.wrap (s.nx-1)=s.nx-1:=ic az az;have hwp:i64.wrap (s.nx+1)=s.nx+1:=ic az az;have ecell:some (hY.hZ 91 [gi (-1099511627776),gi (i64.wrap (s.nx-1)),jn (iF s.B s.G)])=some (hY.hZ 91 [gi (-1099511627776),gi (s.nx-1),jn (iF s.B s.G)]):=congrArg (fun i=>some (hY.hZ 91 [gi (-1099511627776),gi i,jn (iF s.B s.G)])) hwn;have st':iM (W+50000000) (K+1) (l9 s) d':=by
  have e:W+30000000+20000000=W+50000000:=az
  rw[←e];exact st
 refine⟨d',st',fun fp=>lq.of rfl (Hf.of gV func35 rfl ntmps35 rfl results35 call35 fun H0 S0 w0 hn0 g0=>(ig (o0 s d fp) id rfl rfl ⟨rfl,rfl,rfl,trivial⟩ rfl ay ?_))⟩;rintro _ _ _ ⟨rfl,⟨fp1,rfl⟩,rfl⟩;refine p2 (p2 (JK.pb [0,4,5] ⟨[(0,.p 0 0),(3,.p 7 0)],[sB s 3 5,(1,.ab (dk d fp1)),wl 2 1 false,nC s 3 6,(4,.mp (some .i64) (iG eb s.B)),sG s 5,sR s 6]++[(7,.hZ 91 [gi (-1099511627776),gi (s.nx-1),jn (iF s.B s.G)])],8⟩ gV ?_ (fun hk=>?_)) ai)
 ·refine V (ig (qO s h.sto.bls az) id rfl rfl ⟨rfl,iI id s.B,trivial⟩ af ay ?_);rintro _ _ _ ⟨rfl,rfl,rfl⟩;refine JK.iT (α:=Nat) (β:=Unit) (fun i=>⟨[(0,.p 0 0),(3,.p 7 0),(4,qW (gZ s.B)),(34,qW (gZ s.B)),(35,gi ((gZ s.B).map fun n=>[gi n]).length),(36,gi i)],[sB s 3 5,(1,.ab (dk d fp1)),wl 2 1 false,nC s 3 6,(4,.mp (some .i64) (iG eb s.B)),sG s 5,sR s 6]++[(7,.hZ 91 [gi (((gZ s.B).take i).foldl (fun m n=>max m (js s.B n).to_) (-1099511627776)),gi (s.nx-1),jn (iF s.B s.G)])],8⟩) (fun i=>i≤(gZ s.B).length) (fun i=>(gZ s.B).length-i)
   (fun _=>⟨[(0,.p 0 0),(3,.p 7 0),(4,qW (gZ s.B))],[sB s 3 5,(1,.ab (dk d fp1)),wl 2 1 false,nC s 3 6,(4,.mp (some .i64) (iG eb s.B)),sG s 5,sR s 6]++[(7,.hZ 91 [gi (qS s.B),gi (s.nx-1),jn (iF s.B s.G)])],8⟩) (fun _=>True) 0 id ?_ (aQ _) ?_ ?_
  ·exact⟨⟨rfl,rfl,rfl,rfl,rfl,rfl,trivial⟩,⟨rfl,rfl,rfl,rfl,j6 _ id s.B,rfl,rfl,rfl,trivial⟩,aa⟩
  ·rintro i hi;replace hi:i≤(gZ s.B).length:=hi;refine V ?_;by_cases hlt:i<(gZ s.B).length
   ·have hn:=aR hlt;refine p1 (ix (h:=(iU [7] true (tk [0,2,3,4,5,6,7,8]++al [1]++tk [9,10]++al [11]) au (oK (wR h.sto.bls hn) (V ⟨i+1,id,⟨⟨rfl,rfl,rfl,rfl,rfl,h_ az,trivial⟩,⟨rfl,rfl,rfl,rfl,iI _ s.B,rfl,rfl,(congrArg (fun i=>some (hY.hZ 91 [gi i,gi (s.nx-1),jn (iF s.B s.G)])) ?_),trivial⟩,aa⟩,hlt,m8⟩))))) aj;rw[OR s.B (gZ s.B) (-1099511627776) hlt,←Ac]
   ·refine p2 ?_ ai;obtain rfl:i=(gZ s.B).length:=az
    exact⟨(),id,⟨⟨rfl,rfl,rfl,trivial⟩,⟨rfl,rfl,rfl,rfl,iI _ s.B,rfl,rfl,congrArg (fun l:List Int=>some (hY.hZ 91 [gi (l.foldl (fun m n=>max m (js s.B n).to_) (-1099511627776)),gi (s.nx-1),jn (iF s.B s.G)])) (aT (l:=gZ s.B)),trivial⟩,aa⟩,trivial⟩
  ·rintro _ _;refine V (iU [0,1] false (tk [0,1,2,3,5]++al [4]) au (ka 6 true (tk [7]) (hwr _) id rfl rfl rfl ⟨rfl,rfl,trivial⟩ rfl ay au ?_));rintro _ _ _ ⟨rfl,⟨fp2,rfl⟩,rfl⟩;refine V ?_
   repeat (first|refine p1 ?_|refine p2 ?_|refine p3 ?_|refine p4 ?_)
   refine JK.iT (α:=Nat×List Nat) (β:=List Nat) (fun z=>⟨[(0,.p 0 0),(3,.p 7 0),(65,qW (gZ s.B)),(66,gi ((gZ s.B).map fun n=>[gi n]).length),(67,gi (z.1:Nat))],[sB s 3 5,(1,.ab (dk (ng ((gZ s.B).take z.1) d1) z.2)),wl 2 1 false,nC s 3 6,(4,.mp (some .i64) (iG eb (jL s.B ((gZ s.B).take z.1)))),sG s 5,sR s 6]++[(7,.hZ 91 [gi (qS s.B),gi (s.nx-1),jn (iF s.B s.G)])],8⟩) (fun z=>z.1≤(gZ s.B).length) (fun z=>(gZ s.B).length-z.1)
    (fun f=>⟨[(0,.p 0 0),(3,.p 7 0)],[sB s 3 5,(1,.ab (dk (ng (gZ s.B) d1) f)),wl 2 1 false,nC s 3 6,(4,.mp (some .i64) (iG eb ([]:List (Value×Bl)))),sG s 5,sR s 6]++[(7,.hZ 91 [gi (qS s.B),gi (s.nx-1),jn (iF s.B s.G)])],8⟩) (fun _=>True) (0,fp2) id ?_ (aQ _) ?_ ?_
   ·exact⟨⟨rfl,rfl,rfl,rfl,rfl,trivial⟩,⟨rfl,rfl,rfl,rfl,iI id s.B,rfl,rfl,rfl,trivial⟩,aa⟩
   ·rintro⟨i,f⟩ hi;replace hi:i≤(gZ s.B).length:=hi;refine V ?_;by_cases hlt:i<(gZ s.B).length
    ·have hr:=I3 h.sto.bls (aR hlt);have hrem:∀fp,Hf pg 85 1 [.p 0 0,gs (jk (gZ s.B)[i])] [(0,.ab (dk (ng ((gZ s.B).take i) d1) fp))] (mH (qi none) (ng ((gZ s.B).take (i+1)) d1)):=fun fp=>by
      have:=vM (ng ((gZ s.B).take i) d1) fp _ (hok i hi).ok (jk (gZ s.B)[i]);rw[hrm hlt]at this;exact this
     refine p1 (ix (h:=(iU [1] false (tk [0,1,2,3,4]) au (kE 5 false (tk []) (Av (gZ s.B)[i] hr.1 az) rfl rfl au (ka 6 true (tk [7]) (hrem _) (fun _=>1) rfl rfl rfl ⟨rfl,trivial⟩ rfl aA au ?_))))) (decide_eq_true an);rintro _ _ _ ⟨rfl,⟨fp3,rfl⟩,rfl⟩;refine V ?_
     repeat (first|refine p1 ?_|refine p2 ?_|refine p3 ?_|refine p4 ?_)
     have hds:jL s.B ((gZ s.B).take (i+1))=kA (kn (gZ s.B)[i]) (jL s.B ((gZ s.B).take i)):=by
      rw[bx,aC hlt];exact wD s.B _ _
     exact⟨(i+1,fp3),id,⟨⟨rfl,rfl,rfl,rfl,h_ an,trivial⟩,⟨rfl,rfl,rfl,rfl,((NS id (gZ s.B)[i] (jL s.B ((gZ s.B).take i))).trans (congrArg (fun x=>some (hY.mp (some IntKind.i64) (jS id (iG eb x)))) hds.symm)),rfl,rfl,rfl,trivial⟩,aa⟩,hlt,an⟩
    ·refine p2 ?_ (decide_eq_false an);obtain rfl:i=(gZ s.B).length:=az
     have hnil:jL s.B ((gZ s.B).take (gZ s.B).length)=[]:=by rw[aT];exact KS h.sto.bls
     exact⟨f,id,⟨⟨rfl,rfl,trivial⟩,⟨rfl,congrArg (fun x=>some (hY.ab (dk (ng x d1) f))) (aT (l:=gZ s.B)),rfl,rfl,(iI id _).trans (congrArg (fun x=>some (hY.mp (some IntKind.i64) (jS id (iG eb x)))) hnil),rfl,rfl,rfl,trivial⟩,aa⟩,trivial⟩
   ·rintro f _;refine V (iU [4] true (tk [0,1,2,3,4,5,6,7,8]++al [9]) au (V (JK.rX 0 4 97 4 rfl rfl ?_)));have hsb:some (hY.hZ 87 [.p 1 0,.p 2 0,.p 3 0,.o 4,.o 8,gi (i64.wrap (s.nx+1)),.v (.bool false)])=some (hY.hZ 87 [.p 1 0,.p 2 0,.p 3 0,.o 4,.o 8,gi (s.nx+1),.v (.bool false)]):=congrArg (fun i=>some (hY.hZ 87 [.p 1 0,.p 2 0,.p 3 0,.o 4,.o 8,gi i,.v (.bool false)])) hwp;refine iU [0,1,2,3,8,6] false (tk [0,1,2,4]) au (RA.both 3 5 (iV au) (iY.read 3 gV rfl rfl ?_) (iY.hf 5 hno (r1 5 8) rfl rfl rfl ⟨hsb,rfl,rfl,rfl,trivial⟩ rfl MQ ?_))
    ·refine ka 5 false (tk []) hno (r1 5 8) rfl rfl rfl ⟨hsb,rfl,rfl,rfl,trivial⟩ rfl MQ au ?_;rintro _ _ _ ⟨rfl,rfl,rfl⟩;refine ka 6 true (tk [7]) (hse _) (rr 1 2) rfl rfl rfl ⟨rfl,rfl,trivial⟩ rfl av au ?_;rintro _ _ _ ⟨rfl,⟨fp5,rfl⟩,rfl⟩;exact V ⟨rfl,3,8,6,rfl,⟨s.nx+1,.b false,rfl,rfl,rfl⟩,⟨fp5,rfl⟩,rfl,rfl,rfl,rfl,rfl⟩
    ·rintro _ _ _ ⟨rfl,rfl,rfl⟩;refine RA.run (e:=false) gV au (fun _ _ h=>h) (al [3]) au (ka 6 true (tk [7]) (hse _) (rr 1 2) rfl rfl rfl ⟨rfl,rfl,trivial⟩ rfl av au ?_);rintro _ _ _ ⟨rfl,⟨fp5,rfl⟩,rfl⟩;exact V ⟨rfl,3,8,6,rfl,⟨s.nx+1,.b false,rfl,rfl,rfl⟩,⟨fp5,rfl⟩,rfl,rfl,rfl,rfl,rfl⟩
 ·refine RA.run (cx:=⟨pg,_,_,_,_,_,_,_⟩) gV au ak (tk [0,1,2,5]) (e:=false) au (RA.three 3 6 8 (iV au) (iY.read 3 gV rfl rfl ?_) (iY.hf 6 (s5 s haw) id rfl rfl rfl ⟨rfl,iI id s.B,rfl,trivial⟩ af ay ?_) (iY.mem 8 gV rfl rfl rfl ?_))
  ·refine RA.run (cx:=⟨pg,_,_,_,_,_,_,_⟩) gV au ak (tk [4]) (e:=false) au (RA.both 6 8 (iV au) (iY.hf 6 (s5 s haw) id rfl rfl rfl ⟨rfl,iI id s.B,rfl,trivial⟩ af ay ?_) (iY.mem 8 gV rfl rfl rfl ?_))
   ·rintro _ _ _ ⟨rfl,rfl,rfl⟩;refine RA.both 7 8 (iV au) (iY.mem 7 gV rfl rfl rfl ?_) (iY.mem 8 gV rfl rfl rfl ?_)
    ·exact RA.run (cx:=⟨pg,_,_,_,_,_,_,_⟩) gV au ak (al [8,9]) (e:=false) au (RA.kD id au hk ⟨⟨rfl,rfl,trivial⟩,⟨rfl,rfl,rfl,rfl,j6 _ id s.B,rfl,rfl,ecell,trivial⟩,aa⟩)
    ·exact RA.run (cx:=⟨pg,_,_,_,_,_,_,_⟩) gV au ak (al [7,9]) (e:=false) au (RA.kD id au hk ⟨⟨rfl,rfl,trivial⟩,⟨rfl,rfl,rfl,rfl,j6 _ id s.B,rfl,rfl,ecell,trivial⟩,aa⟩)
   ·refine ka 6 false (tk []) (s5 s haw) id rfl rfl rfl ⟨rfl,iI id s.B,rfl,trivial⟩ af ay au ?_;rintro _ _ _ ⟨rfl,rfl,rfl⟩;exact RA.run (cx:=⟨pg,_,_,_,_,_,_,_⟩) gV au ak (al [7,9]) (e:=false) au (RA.kD id au hk ⟨⟨rfl,rfl,trivial⟩,⟨rfl,rfl,rfl,rfl,j6 _ id s.B,rfl,rfl,ecell,trivial⟩,aa⟩)
  ·rintro _ _ _ ⟨rfl,rfl,rfl⟩;refine RA.both 3 8 (iV au) (iY.read 3 gV rfl rfl ?_) (iY.mem 8 gV rfl rfl rfl ?_)
   ·refine RA.run (cx:=⟨pg,_,_,_,_,_,_,_⟩) gV au ak (tk [4]) (e:=false) au (RA.both 7 8 (iV au) (iY.mem 7 gV rfl rfl rfl ?_) (iY.mem 8 gV rfl rfl rfl ?_))
    ·exact RA.run (cx:=⟨pg,_,_,_,_,_,_,_⟩) gV au ak (al [8,9]) (e:=false) au (RA.kD id au hk ⟨⟨rfl,rfl,trivial⟩,⟨rfl,rfl,rfl,rfl,j6 _ id s.B,rfl,rfl,ecell,trivial⟩,aa⟩)
    ·exact RA.run (cx:=⟨pg,_,_,_,_,_,_,_⟩) gV au ak (al [7,9]) (e:=false) au (RA.kD id au hk ⟨⟨rfl,rfl,trivial⟩,⟨rfl,rfl,rfl,rfl,j6 _ id s.B,rfl,rfl,ecell,trivial⟩,aa⟩)
   ·exact RA.run (cx:=⟨pg,_,_,_,_,_,_,_⟩) gV au ak (al [3]++tk [4]++al [7,9]) (e:=false) au (RA.kD id au hk ⟨⟨rfl,rfl,trivial⟩,⟨rfl,rfl,rfl,rfl,j6 _ id s.B,rfl,rfl,ecell,trivial⟩,aa⟩)
  ·refine RA.both 3 6 (iV au) (iY.read 3 gV rfl rfl ?_) (iY.hf 6 (s5 s haw) id rfl rfl rfl ⟨rfl,iI id s.B,rfl,trivial⟩ af ay ?_)
   ·refine RA.run (cx:=⟨pg,_,_,_,_,_,_,_⟩) gV au ak (tk [4]) (e:=false) au (ka 6 false (tk []) (s5 s haw) id rfl rfl rfl ⟨rfl,iI id s.B,rfl,trivial⟩ af ay au ?_);rintro _ _ _ ⟨rfl,rfl,rfl⟩;exact RA.run (cx:=⟨pg,_,_,_,_,_,_,_⟩) gV au ak (al [7,9]) (e:=false) au (RA.kD id au hk ⟨⟨rfl,rfl,trivial⟩,⟨rfl,rfl,rfl,rfl,j6 _ id s.B,rfl,rfl,ecell,trivial⟩,aa⟩)
   ·rintro _ _ _ ⟨rfl,rfl,rfl⟩;exact RA.run (cx:=⟨pg,_,_,_,_,_,_,_⟩) gV au ak (al [3]++tk [4]++al [7,9]) (e:=false) au (RA.kD id au hk ⟨⟨rfl,rfl,trivial⟩,⟨rfl,rfl,rfl,rfl,j6 _ id s.B,rfl,rfl,ecell,trivial⟩,aa⟩)
abbrev oy(M:AY):List (Value×List Int):=M.map λy=>(Value.string y.1,y.2)
abbrev encI(L:Ix):List (Value×List (Value×List Int)):=L.map λx=>(Value.string x.1,oy x.2)
abbrev pj:qZ (List (Value×List Int)):=KB 3
abbrev lss(S:List (List Lb)):GV:=.sl 1 (S.map λs=>[.sl 2 (s.map lb)])
abbrev IX(S:List (List Lb))(f:List Nat):Heap:=[(0,.hZ 214 [gi S.length,.o 1]),(1,.ab (mapA sH none (encI (m_ S)) f))]
def tI{s:ByteArray}{M:AY}{m:List (Value×List Int×Value)}(hm:m.map er=oy M)(h:s∉ji M):v8 s m:=λx hx=>by
 have:er x∈oy M:=by rw[<-hm];exact cc hx
 obtain⟨y,hy,e⟩:=ba.1 this;refine⟨y.1,(congrArg Prod.fst e).symm,λe'=>h ?_⟩;rw[e'];exact cc hy
def px{s:ByteArray}{L:Ix}{m:List (Value×List (Value×List Int)×Value)}(hm:m.map er=encI L)(h:s∉ji L):v8 s m:=λx hx=>by
 have:er x∈encI L:=by rw[<-hm];exact cc hx
 obtain⟨y,hy,e⟩:=ba.1 this;refine⟨y.1,(congrArg Prod.fst e).symm,λe'=>h ?_⟩;rw[e'];exact cc hy
def vq(l1 l2:Ix)(n:ByteArray)(M:AY):encI (l1++(n,M)::l2)=encI l1++(Value.string n,oy M)::encI l2:=by simp[encI]
def F_(l1 l2:AY)(n:ByteArray)(r:List Int):oy (l1++(n,r)::l2)=oy l1++(Value.string n,r)::oy l2:=by simp[oy]
def Eu(r:List Int)(i:Nat):jA r++[[GV.v (.int .i64 (i:Int))]]=jA (r++[(i:Int)]):=by simp[jA]
def U4(S:List (List Lb))(g:GV)(σ:Heap)(n:Nat):Prop:=
 ((∀s∈S,iS s=true)/\∃f,g=.tup [.p 0 0,.v .nilIface]/\σ=IX S f/\n=2)\/
 (∃i,∃_:i<S.length,(∀j (h:j<S.length),j<i->iS S[j]=true)/\iS S[i]=false/\g=.tup [.v (.pointer none),.ifc 137 (.r [gi 1,gi i])]/\σ=[]/\n=0)
theorem Tv(S:List (List Lb))(hS:∀s∈S,Sh s∧s.length≤1000000)(hl:S.length≤1000000):Hf pg 75 0 [lss S] [] (U4 S):=by
 refine Hf.jK (Q:=fun g σ _=>((∀s∈S,iS s=true)∧∃f,g=.tup [.p 1 0,.v .nilIface]∧gW σ 1=some (.hZ 214 [gi S.length,.o 0])∧gW σ 0=some (.ab (mapA sH none (encI (m_ S)) f)))∨
  (∃i,∃_:i<S.length,(∀j (h:j<S.length),j<i→iS S[j]=true)∧iS S[i]=false∧g=.tup [.v (.pointer none),.ifc 137 (.r [gi 1,gi i])])) (Hf.q9 gV func75 rfl ntmps75 rfl results75 call75 fun H0 S0 w0 h0 g0=>?_) ?_
 ·have hll:(S.map fun s=>[GV.sl 2 (s.map lb)]).length=S.length:=by simp
  refine VM 14 ?_;refine JK.U6 pj 0 rfl fun f0=>?_;refine V ?_;refine JK.iT (α:=Nat×List Nat) (β:=List Nat) (fun z=>⟨[(4,.p 1 0),(14,lss S),(15,gi S.length),(16,gi z.1)],[(1,.hZ 214 [gi S.length,.o 0]),(0,.ab (mapA pj none (encI (m_ (S.take z.1))) z.2))],2⟩) (fun z=>z.1≤S.length∧∀j (h:j<S.length),j<z.1→iS S[j]=true) (fun z=>S.length-z.1)
   (fun f=>⟨[(4,.p 1 0)],[(1,.hZ 214 [gi S.length,.o 0]),(0,.ab (mapA pj none (encI (m_ S)) f))],2⟩) (fun _=>∀s∈S,iS s=true) (0,f0) id ?_ ⟨aQ _,fun j _ h=>absurd h (cf _)⟩ ?_ ?_
  ·exact⟨⟨rfl,rfl,congrArg (fun n:Nat=>some (gi n)) hll,rfl,trivial⟩,⟨by rw[←hll];rfl,rfl,trivial⟩,rfl⟩
  ·rintro⟨i,f⟩ ⟨hi,hok⟩;simp only at hi hok;refine V ?_;by_cases hlt:i<S.length
   ·obtain⟨hsh,hsl⟩:=hS S[i] (aR hlt);refine p1 ?_ (decide_eq_true (by dsimp only;omega));refine ix (h:=?_);rcases tf (iS S[i]) with hr|hr
    ·refine GO ((sV S[i] hsh).bt hr) rfl ?_;have hlj:(S[i].map lb).length=S[i].length:=by simp
     refine JK.iT (α:=Nat×List Nat) (β:=List Nat) (fun z=>⟨[(4,.p 1 0),(14,lss S),(15,gi S.length),(16,gi i),(5,gi i),(28,.sl 2 (S[i].map lb)),(29,gi S[i].length),(30,gi z.1)],[(1,.hZ 214 [gi S.length,.o 0]),(0,.ab (mapA pj none (encI ((S[i].take z.1).foldl (oY i) (m_ (S.take i)))) z.2))],2⟩) (fun z=>z.1≤S[i].length) (fun z=>S[i].length-z.1)
      (fun f=>⟨[(4,.p 1 0),(14,lss S),(15,gi S.length),(16,gi i)],[(1,.hZ 214 [gi S.length,.o 0]),(0,.ab (mapA pj none (encI (m_ (S.take (i+1)))) f))],2⟩) (fun _=>True) (0,f) id ?_ (aQ _) ?_ ?_
     ·exact⟨⟨rfl,rfl,rfl,rfl,rfl,rfl,congrArg (fun n:Nat=>some (gi n)) hlj,rfl,trivial⟩,⟨rfl,rfl,trivial⟩,rfl⟩
     ·rintro⟨j,f⟩ hj;replace hj:j≤S[i].length:=hj;refine VM 16 ?_;by_cases hjl:j<S[i].length
      ·refine p1 ?_ (decide_eq_true (by dsimp only;omega));refine ix (h:=?_);refine JK.qF 2 rfl rfl ?_;have hstep:(S[i].take (j+1)).foldl (oY i) (m_ (S.take i))=oY i ((S[i].take j).foldl (oY i) (m_ (S.take i))) S[i][j]:=by
        rw[a6 hjl,bN];rfl
       have hrows:qo 1000001000000 ((S[i].take j).foldl (oY i) (m_ (S.take i))):=fun x hx y hy=>by
        have h1:=P1 1000000 (S.take i) fun s hs=>(hS s (b9 hs)).2;have h2:=qo.fold (i:=i) (l:=S[i].take j) h1 x hx y hy;simp only[aY]at h2;have h3:min i S.length*1000000≤1000000*1000000:=bH _ az;omega
       generalize (S[i].take j).foldl (oY i) (m_ (S.take i))=L at hstep hrows;by_cases hn:S[i][j].name∈ji L
       ·obtain⟨l1,M,l2,hL,hn1⟩:=y8 hn;have hX:some (hY.ab (mapA pj none (encI L) f))=some (hY.ab (mapA pj none (encI l1++(Value.string S[i][j].name,oy M)::encI l2) f)):=by rw[hL,vq]
        by_cases hv:S[i][j].value∈ji M
        ·obtain⟨k1,r,k2,hM,hv1⟩:=y8 hv;refine JK.focus (F:=pj) (kd:=none) (l1:=encI l1) (l2:=encI l2) (key:=.string S[i][j].name) (x:=oy M) 0 hX fun m1 m2 f1 f2 hm1 hm2=>?_
         refine JK.focus (F:=tX 3) (kd:=none) (l1:=oy k1) (l2:=oy k2) (key:=.string S[i][j].value) (x:=r) (f:=f1) 3 (congrArg (fun q=>some (hY.ab (mapA (tX 3) none q f1))) (by rw[hM,F_])) fun q1 q2 g1 g2 hq1 hq2=>?_
         refine JK.unpack 5 (n:=1) (τ:=[(0,.row 3 1 (jA r))]) (fp:=g1) rfl ?_;refine V ?_;refine⟨by kernel_rfl,?_⟩;refine oK (oQ (px hm1 hn1)) ?_;refine p2 ?_;refine JK.pb [3,5] ⟨[(4,.p 1 0),(14,lss S),(15,gi S.length),(16,gi i),(5,gi i),(28,.sl 2 (S[i].map lb)),(29,gi S[i].length),(30,gi j)],[(1,.hZ 214 [gi S.length,.o 0]),(0,.mp none (mE m1++(Value.string S[i][j].name,.o 3)::mE m2)),(3,.mp none (mE q1++(Value.string S[i][j].value,.o 5)::mE q2)),(5,.row 3 1 (jA (r++[(i:Int)]))),(4,.ab (qc pj ((m1++m2).map (·.2)) f2)),(6,.ab (qc (tX 3) ((q1++q2).map (·.2)) g2))],7⟩ gV ?_ (fun hk=>?_)
         ·refine JK.pack (fun _=>5) 1 5 [(0,.row 3 1 (jA (r++[(i:Int)])))] ⟨rfl,trivial⟩ rfl fun g1=>?_;refine JK.s_ (F:=tX 3) (kd:=none) (m1:=q1) (m2:=q2) (x:=r++[(i:Int)]) (f1:=g1) (f2:=g2) 3 5 6 rfl rfl rfl fun f1=>?_;refine JK.s_ (F:=pj) (kd:=none) (m1:=m1) (m2:=m2) (x:=q1.map er++(Value.string S[i][j].value,r++[(i:Int)])::q2.map er) (f1:=f1) (f2:=f2) 0 3 4 rfl rfl rfl fun f'=>?_;refine V ?_;refine⟨(j+1,f'),id,⟨⟨rfl,rfl,rfl,rfl,rfl,rfl,rfl,h_ az,trivial⟩,⟨rfl,?_,trivial⟩,rfl⟩,hjl,by show S[i].length- (j+1)<S[i].length-j;omega⟩;refine congrArg (fun q=>some (hY.ab (mapA pj none q f'))) ?_;rw[hstep,hm1,hm2,hq1,hq2,←F_,←vq,hL,hM];unfold oY;rw[vG hn1,vG hv1]
         ·refine RA.run (cx:=⟨pg,_,_,_,_,_,_,_⟩) gV au ak (tk [0,1,2,3,4,5,6,7,8,9,10,11,12,13,14,15,16,17,19]) (e:=false) au ?_;refine oK (oQ (px hm1 hn1)) ?_;refine oK (oQ (px hm1 hn1)) ?_;have hrl:((jA r).length+1)*8≤140737488355328:=by
           have:=hrows (S[i][j].name,M) (by rw[hL];simp) (S[i][j].value,r) (by rw[hM];simp);simp only[jA,aD]at this⊢;omega
          refine RA.both 18 20 (iV au) (iY.read 18 gV rfl rfl ?_) (iY.mem 20 gV rfl rfl rfl ?_)
          ·refine oK (oQ (tI hq1 hv1)) ?_;refine RA.run (cx:=⟨pg,_,_,_,_,_,_,_⟩) gV au ak (al [20,21,22]) (e:=false) au ?_;refine⟨hrl,?_⟩;refine RA.kD (r1 5 9) au hk ⟨⟨rfl,rfl,rfl,rfl,rfl,rfl,rfl,rfl,trivial⟩,⟨rfl,congrArg (fun q=>some (hY.mp none q)) (kV (f:=r1 5 9) (Y:=3)).symm,congrArg (fun q=>some (hY.mp none q)) ((Jr (tI hq1 hv1)).trans (kV (f:=r1 5 9) (Y:=5)).symm),congrArg (fun q=>some (hY.row 3 1 q)) (Eu r i),rfl,rfl,trivial⟩,?_⟩;simp[jt,iy,im,iL,jm,iv,iu,jf,je,lP,uS];try decide
          ·refine RA.run (cx:=⟨pg,_,_,_,_,_,_,_⟩) gV au ak (al [18,21,22]) (e:=false) au ?_;refine oK (oQ (tI hq1 hv1)) ?_;refine⟨hrl,?_⟩;refine RA.kD (r1 5 9) au hk ⟨⟨rfl,rfl,rfl,rfl,rfl,rfl,rfl,rfl,trivial⟩,⟨rfl,congrArg (fun q=>some (hY.mp none q)) (kV (f:=r1 5 9) (Y:=3)).symm,congrArg (fun q=>some (hY.mp none q)) ((Jr (tI hq1 hv1)).trans (kV (f:=r1 5 9) (Y:=5)).symm),congrArg (fun q=>some (hY.row 3 1 q)) (Eu r i),rfl,rfl,trivial⟩,?_⟩;simp[jt,iy,im,iL,jm,iv,iu,jf,je,lP,uS];try decide
        ·refine JK.focus (F:=pj) (kd:=none) (l1:=encI l1) (l2:=encI l2) (key:=.string S[i][j].name) (x:=oy M) 0 hX fun m1 m2 f1 f2 hm1 hm2=>?_
         refine JK.KQ (F:=tX 3) (kd:=none) (l:=oy M) (f:=f1) 3 rfl fun q g2 hq=>?_;refine V ?_;refine⟨by kernel_rfl,?_⟩;refine oK (oQ (px hm1 hn1)) ?_;refine p2 ?_;refine JK.pb [3] ⟨[(4,.p 1 0),(14,lss S),(15,gi S.length),(16,gi i),(5,gi i),(28,.sl 2 (S[i].map lb)),(29,gi S[i].length),(30,gi j)],[(1,.hZ 214 [gi S.length,.o 0]),(0,.mp none (mE m1++(Value.string S[i][j].name,.o 3)::mE m2)),(3,.mp none (mE q++(Value.string S[i][j].value,.o 2)::mE ([]:List (Value×List Int×Value)))),(2,.row 3 1 (jA [(i:Int)])),(4,.ab (qc pj ((m1++m2).map (·.2)) f2)),(5,.ab (qc (tX 3) (q.map (·.2)) g2))],6⟩ gV ?_ (fun hk=>?_)
         ·refine JK.pack (fun _=>2) 1 2 [(0,.row 3 1 (jA [(i:Int)]))] ⟨rfl,trivial⟩ rfl fun g1=>?_;refine JK.s_ (F:=tX 3) (kd:=none) (m1:=q) (m2:=[]) (x:=[(i:Int)]) (f1:=g1) (f2:=g2) 3 2 5 rfl rfl (congrArg (fun q':List (Value×List Int×Value)=>some (hY.ab (qc (tX 3) (q'.map Prod.snd) g2))) (aZ q).symm) fun f1=>?_;refine JK.s_ (F:=pj) (kd:=none) (m1:=m1) (m2:=m2) (x:=q.map er++(Value.string S[i][j].value,[(i:Int)])::List.map er ([]:List (Value×List Int×Value))) (f1:=f1) (f2:=f2) 0 3 4 rfl rfl rfl fun f'=>?_;refine V ?_;refine⟨(j+1,f'),id,⟨⟨rfl,rfl,rfl,rfl,rfl,rfl,rfl,h_ az,trivial⟩,⟨rfl,?_,trivial⟩,rfl⟩,hjl,by show S[i].length- (j+1)<S[i].length-j;omega⟩;refine congrArg (fun q=>some (hY.ab (mapA pj none q f'))) ?_;have e:oy (M++[(S[i][j].value,[(i:Int)])])=oy M++(Value.string S[i][j].value,[(i:Int)])::List.map er ([]:List (Value×List Int×Value)):=by simp[oy]
          rw[hstep,hm1,hm2,hq,←e,←vq,hL];unfold oY;rw[vG hn1,yu hv];rfl
         ·refine RA.run (cx:=⟨pg,_,_,_,_,_,_,_⟩) gV au ak (tk [0,1,2,3,4,5,6,7,8,9,10,11,12,13,14,15,16,17,19]) (e:=false) au ?_;refine oK (oQ (px hm1 hn1)) ?_;refine oK (oQ (px hm1 hn1)) ?_;refine RA.both 18 20 (iV au) (iY.read 18 gV rfl rfl ?_) (iY.mem 20 gV rfl rfl rfl ?_)
          ·refine vm (wV (tI hq hv)) ?_;refine RA.run (cx:=⟨pg,_,_,_,_,_,_,_⟩) gV au ak (al [20,21,22]) (e:=false) au ?_;refine⟨by simp,?_⟩;refine RA.kD (r1 2 7) au hk ⟨⟨rfl,rfl,rfl,rfl,rfl,rfl,rfl,rfl,trivial⟩,⟨rfl,congrArg (fun q=>some (hY.mp none q)) (kV (f:=r1 2 7) (Y:=3)).symm,congrArg (fun q=>some (hY.mp none q)) ((zu (tI hq hv)).trans (kV (f:=r1 2 7) (Y:=2) (m2:=([]:List (Value×List Int×Value)))).symm),rfl,rfl,rfl,trivial⟩,?_⟩;simp[jt,iy,im,iL,jm,iv,iu,jf,je,lP,uS];try decide
          ·refine RA.run (cx:=⟨pg,_,_,_,_,_,_,_⟩) gV au ak (al [18,21,22]) (e:=false) au ?_;refine vm (wV (tI hq hv)) ?_;refine⟨by simp,?_⟩;refine RA.kD (r1 2 7) au hk ⟨⟨rfl,rfl,rfl,rfl,rfl,rfl,rfl,rfl,trivial⟩,⟨rfl,congrArg (fun q=>some (hY.mp none q)) (kV (f:=r1 2 7) (Y:=3)).symm,congrArg (fun q=>some (hY.mp none q)) ((zu (tI hq hv)).trans (kV (f:=r1 2 7) (Y:=2) (m2:=([]:List (Value×List Int×Value)))).symm),rfl,rfl,rfl,trivial⟩,?_⟩;simp[jt,iy,im,iL,jm,iv,iu,jf,je,lP,uS];try decide
       ·refine JK.KQ (F:=pj) (kd:=none) (l:=encI L) (f:=f) 0 rfl fun m f2 hm=>?_;refine V ?_;refine⟨by kernel_rfl,?_⟩;refine vm (wV (px hm hn)) ?_;refine p1 ?_;refine iU [0] true (tk [0,1,2,3,4,5]++al [6,7]) au ?_;have hfind:=(congrArg (jl (Value.string S[i][j].name)) (zu (px hm hn))).trans (oQ (g:=.o 4) (m2:=([]:List (Value×List (Value×List Int)×Value))) (px hm hn));refine JK.pb [4] ⟨[(4,.p 1 0),(14,lss S),(15,gi S.length),(16,gi i),(5,gi i),(28,.sl 2 (S[i].map lb)),(29,gi S[i].length),(30,gi j)],[(1,.hZ 214 [gi S.length,.o 0]),(0,.mp none (mE m++(Value.string S[i][j].name,.o 4)::mE ([]:List (Value×List (Value×List Int)×Value)))),(4,.mp none [(Value.string S[i][j].value,.o 2)]),(2,.row 3 1 (jA [(i:Int)])),(3,.ab (qc pj (m.map (·.2)) f2))],5⟩ gV ?_ (fun hk=>?_)
        ·refine JK.pack (fun _=>2) 1 2 [(0,.row 3 1 (jA [(i:Int)]))] ⟨rfl,trivial⟩ rfl fun g1=>?_;refine JK.U3 (tX 3) ?_;refine JK.s_ (F:=tX 3) (kd:=none) (m1:=[]) (m2:=[]) (x:=[(i:Int)]) (f1:=g1) (f2:=[]) 4 2 5 rfl rfl rfl fun f1=>?_;refine JK.s_ (F:=pj) (kd:=none) (m1:=m) (m2:=[]) (x:=[(Value.string S[i][j].value,[(i:Int)])]) (f1:=f1) (f2:=f2) 0 4 3 rfl rfl (congrArg (fun q':List (Value×List (Value×List Int)×Value)=>some (hY.ab (qc pj (q'.map Prod.snd) f2))) (aZ m).symm) fun f'=>?_;refine V ?_;refine⟨(j+1,f'),id,⟨⟨rfl,rfl,rfl,rfl,rfl,rfl,rfl,h_ az,trivial⟩,⟨rfl,?_,trivial⟩,rfl⟩,hjl,by show S[i].length- (j+1)<S[i].length-j;omega⟩;refine congrArg (fun q=>some (hY.ab (mapA pj none q f'))) ?_;have e:encI (L++[(S[i][j].name,[(S[i][j].value,[(i:Int)])])])=encI L++(Value.string S[i][j].name,[(Value.string S[i][j].value,[(i:Int)])])::List.map er ([]:List (Value×List (Value×List Int)×Value)):=by simp[encI,oy]
         rw[hstep,hm,←e];unfold oY;rw[yu hn];rfl
        ·refine RA.run (cx:=⟨pg,_,_,_,_,_,_,_⟩) gV au ak (tk [0,1,2,3,4,5,6,7,8,9,10,11,12,13,14,15,16,17,19]) (e:=false) au ?_;refine oK hfind ?_;refine oK hfind ?_;refine RA.both 18 20 (iV au) (iY.read 18 gV rfl rfl ?_) (iY.mem 20 gV rfl rfl rfl ?_)
         ·refine vm rfl ?_;refine RA.run (cx:=⟨pg,_,_,_,_,_,_,_⟩) gV au ak (al [20,21,22]) (e:=false) au ?_;refine⟨by simp,?_⟩;refine RA.kD (r1 2 6) au hk ⟨⟨rfl,rfl,rfl,rfl,rfl,rfl,rfl,rfl,trivial⟩,⟨rfl,congrArg (fun q=>some (hY.mp none q)) ((zu (px hm hn)).trans (kV (f:=r1 2 6) (Y:=4) (m2:=([]:List (Value×List (Value×List Int)×Value)))).symm),rfl,rfl,rfl,trivial⟩,?_⟩;simp[jt,iy,im,iL,jm,mM,iv,iu,jf,je,lP,uS];try decide
         ·refine RA.run (cx:=⟨pg,_,_,_,_,_,_,_⟩) gV au ak (al [18,21,22]) (e:=false) au ?_;refine vm rfl ?_;refine⟨by simp,?_⟩;refine RA.kD (r1 2 6) au hk ⟨⟨rfl,rfl,rfl,rfl,rfl,rfl,rfl,rfl,trivial⟩,⟨rfl,congrArg (fun q=>some (hY.mp none q)) ((zu (px hm hn)).trans (kV (f:=r1 2 6) (Y:=4) (m2:=([]:List (Value×List (Value×List Int)×Value)))).symm),rfl,rfl,rfl,trivial⟩,?_⟩;simp[jt,iy,im,iL,jm,mM,iv,iu,jf,je,lP,uS];try decide
      ·refine p2 ?_ (decide_eq_false (by dsimp only;omega));obtain rfl:j=S[i].length:=by omega
       refine⟨f,id,⟨⟨rfl,rfl,rfl,rfl,trivial⟩,⟨rfl,?_,trivial⟩,rfl⟩,trivial⟩;rw[Pj S i hlt];simp only[aT];rfl
     ·rintro f _;refine V ?_;refine⟨(i+1,f),id,⟨⟨rfl,rfl,rfl,h_ az,trivial⟩,⟨rfl,rfl,trivial⟩,rfl⟩,⟨hlt,fun j h h2=>?_⟩,by simp only;omega⟩;rcases bX.1 h2 with h3|rfl
      ·exact hok j h h3
      ·exact hr
    ·refine sw (Rq.hf ((sV S[i] hsh).bt hr)) id rfl rfl trivial rfl (fun _ h=>absurd h (cf _)) ?_;rintro _ _ _ ⟨rfl,rfl,rfl⟩;refine VM 8 ?_;refine sI 2 rfl rfl ?_;exact .inr ⟨i,hlt,hok,hr,rfl⟩
   ·refine p2 ?_ (decide_eq_false (by dsimp only;omega));obtain rfl:i=S.length:=by omega
    refine⟨f,id,⟨⟨rfl,trivial⟩,⟨rfl,?_,trivial⟩,rfl⟩,fun s hs=>?_⟩
    ·simp only[aT];rfl
    ·obtain⟨j,hj,rfl⟩:=bz hs;exact hok j hj hj
  ·rintro f hall;refine JK.Uk 0 rfl fun f'=>?_;refine V ?_;exact .inl ⟨hall,f',rfl,rfl,rfl⟩
 ·rintro g σ n (⟨hall,f,rfl,h1,h2⟩|⟨i,hi,h1,h2,rfl⟩)
  ·exact⟨fun i=>bif Nat.beq i 0 then 1 else 0,.tup [.p 0 0,.v .nilIface],IX S f,2,.inl ⟨hall,f,rfl,rfl,rfl⟩,rfl,⟨h1,h2,trivial⟩,rfl⟩
  ·exact⟨id,_,[],0,.inr ⟨i,hi,h1,h2,rfl,rfl,rfl⟩,rfl,trivial,rfl⟩
end Go.Proofs.YtadildidlcbbkaaGreatDoor
namespace Go.Proofs
open Go.Shelf
def Tryz.H_:Go.Shelf.Ren:=⟨fun|189=>249|125=>189|257=>294|128=>245|129=>246|294=>337|295=>338|296=>339|297=>340|298=>341|299=>342|216=>291|300=>343|301=>344|328=>361|329=>286|330=>287|331=>362|332=>363|215=>167|343=>367|n=>n,fun|28=>147|3=>3|46=>219|0=>0|51=>315|53=>233|4=>4|183=>308|182=>307|131=>206|5=>5|9=>9|218=>360|222=>364|228=>406|229=>407|n=>n,fun|n=>n⟩
def Tryz.JA:Go.Proofs.Lays.n189 Tryz.prog Tryz.H_:={
 mixed:=au
 f125:=Tryz.func189.trans ah
 f128:=Tryz.func245.trans ah
 f129:=Tryz.func246.trans ah
 f189:=Tryz.func249.trans ah
 f215:=Tryz.func167.trans ah
 f216:=Tryz.func291.trans ah
 f257:=Tryz.func294.trans ah
 f294:=Tryz.func337.trans ah
 f295:=Tryz.func338.trans ah
 f296:=Tryz.func339.trans ah
 f297:=Tryz.func340.trans ah
 f298:=Tryz.func341.trans ah
 f299:=Tryz.func342.trans ah
 f300:=Tryz.func343.trans ah
 f301:=Tryz.func344.trans ah
 f328:=Tryz.func361.trans ah
 f329:=Tryz.func286.trans ah
 f330:=Tryz.func287.trans ah
 f331:=Tryz.func362.trans ah
 f332:=Tryz.func363.trans ah
 f343:=Tryz.func367.trans ah
 t0:=Tryz.underlying0
 a0:=Tryz.isAgg0
 z0:=Tryz.sizeOf0
 v0:=Tryz.zeroValue0
 t3:=Tryz.underlying3
 a3:=Tryz.isAgg3
 z3:=Tryz.sizeOf3
 v3:=Tryz.zeroValue3
 t4:=Tryz.underlying4
 a4:=Tryz.isAgg4
 z4:=Tryz.sizeOf4
 v4:=Tryz.zeroValue4
 t5:=Tryz.underlying5
 a5:=Tryz.isAgg5
 z5:=Tryz.sizeOf5
 v5:=Tryz.zeroValue5
 t9:=Tryz.underlying9
 a9:=Tryz.isAgg9
 z9:=Tryz.sizeOf9
 v9:=Tryz.zeroValue9
 t28:=Tryz.underlying147
 a28:=Tryz.isAgg147
 z28:=Tryz.sizeOf147
 v28:=Tryz.zeroValue147
 t46:=Tryz.underlying219
 a46:=Tryz.isAgg219
 z46:=Tryz.sizeOf219
 v46:=Tryz.zeroValue219
 t51:=Tryz.underlying315
 a51:=Tryz.isAgg315
 z51:=Tryz.sizeOf315
 v51:=Tryz.zeroValue315
 t53:=Tryz.underlying233
 a53:=Tryz.isAgg233
 z53:=Tryz.sizeOf233
 v53:=Tryz.zeroValue233
 t131:=Tryz.underlying206
 a131:=Tryz.isAgg206
 z131:=Tryz.sizeOf206
 v131:=Tryz.zeroValue206
 t182:=Tryz.underlying307
 a182:=Tryz.isAgg307
 z182:=Tryz.sizeOf307
 v182:=Tryz.zeroValue307
 t183:=Tryz.underlying308
 a183:=Tryz.isAgg308
 z183:=Tryz.sizeOf308
 v183:=Tryz.zeroValue308
 t218:=Tryz.underlying360
 a218:=Tryz.isAgg360
 z218:=Tryz.sizeOf360
 v218:=Tryz.zeroValue360
 t222:=Tryz.underlying364
 a222:=Tryz.isAgg364
 z222:=Tryz.sizeOf364
 v222:=Tryz.zeroValue364
 t228:=Tryz.underlying406
 a228:=Tryz.isAgg406
 z228:=Tryz.sizeOf406
 v228:=Tryz.zeroValue406
 t229:=Tryz.underlying407
 a229:=Tryz.isAgg407
 z229:=Tryz.sizeOf407
 v229:=Tryz.zeroValue407}
open Go.Sort Go.RowKit in
def Tryz.slices_Sort_int(hZ off cap:Nat)(zs:List Int)(w:World)(hH:Holds (Value.int .i64) w hZ off zs.toArray)(hblk:hZ<w.heap.size)(hsz:zs.length<4611686018427387904):
  Calls Tryz.prog 249 #[.slice (some ⟨hZ,off,none⟩) zs.length cap] w λe w'=>
   e=.returned (.tuple #[])/\∃n os,w'=grow (putRow (Value.int .i64) (Sort.ahead w n) hZ off (zs.mergeSort λx y=>decide (x<=y)).toArray) os:=Any.slices_Sort_int Tryz.JA hZ off cap zs w hH hblk hsz
def Tryz.Fy:Go.Shelf.Ren:=⟨fun|20=>250|n=>n,fun|22=>147|3=>3|4=>4|0=>0|n=>n,fun|n=>n⟩
def Tryz.D_:Go.Proofs.Lays2.n20 Tryz.prog Tryz.Fy:={
 mixed:=au
 f20:=Tryz.func250.trans ah
 t0:=Tryz.underlying0
 a0:=Tryz.isAgg0
 z0:=Tryz.sizeOf0
 v0:=Tryz.zeroValue0
 t3:=Tryz.underlying3
 a3:=Tryz.isAgg3
 z3:=Tryz.sizeOf3
 v3:=Tryz.zeroValue3
 t4:=Tryz.underlying4
 a4:=Tryz.isAgg4
 z4:=Tryz.sizeOf4
 v4:=Tryz.zeroValue4
 t22:=Tryz.underlying147
 a22:=Tryz.isAgg147
 z22:=Tryz.sizeOf147
 v22:=Tryz.zeroValue147
 i3:=by kernel_rfl}
open Go.RowKit Go.Lib Go.Sort in
def Tryz.slices_Compact_int(hZ off cap:Nat)(zs:List Int)(w:World)(hH:Holds (Value.int .i64) w hZ off zs.toArray)(hsz:zs.length<=9223372036854775807)(hcap:zs.length<=cap):
  Calls Tryz.prog 250 #[.slice (some ⟨hZ,off,none⟩) zs.length cap] w λe w'=>e=.returned (.slice (some ⟨hZ,off,none⟩) (Lib.compact zs).length cap)/\∃q,w'=putRow (Value.int .i64) (Sort.ahead w q) hZ off (Lib.compact zs++List.replicate (zs.length- (Lib.compact zs).length) 0).toArray:=Any.slices_Compact_int Tryz.D_ hZ off cap zs w hH hsz hcap
open Go.RowKit Go.Lib Go.Sort in
def Tryz.slices_Compact_int_empty(a:Option Addr)(cap:Nat)(w:World):
  Calls Tryz.prog 250 #[.slice a 0 cap] w λe w'=>e=.returned (.slice a 0 cap)/\w'=w:=Any.slices_Compact_int_empty Tryz.D_ a cap w
def Tryz.Fw:Go.Shelf.Ren:=⟨fun|25=>247|31=>291|32=>292|37=>167|n=>n,fun|22=>147|3=>3|4=>4|40=>219|0=>0|n=>n,fun|n=>n⟩
def Tryz.Et:Go.Proofs.Lays2.n25 Tryz.prog Tryz.Fw:={
 mixed:=au
 f25:=Tryz.func247.trans ah
 f31:=Tryz.func291.trans ah
 f32:=Tryz.func292.trans ah
 f37:=Tryz.func167.trans ah
 t0:=Tryz.underlying0
 a0:=Tryz.isAgg0
 z0:=Tryz.sizeOf0
 v0:=Tryz.zeroValue0
 t3:=Tryz.underlying3
 a3:=Tryz.isAgg3
 z3:=Tryz.sizeOf3
 v3:=Tryz.zeroValue3
 t4:=Tryz.underlying4
 a4:=Tryz.isAgg4
 z4:=Tryz.sizeOf4
 v4:=Tryz.zeroValue4
 t22:=Tryz.underlying147
 a22:=Tryz.isAgg147
 z22:=Tryz.sizeOf147
 v22:=Tryz.zeroValue147
 t40:=Tryz.underlying219
 a40:=Tryz.isAgg219
 z40:=Tryz.sizeOf219
 v40:=Tryz.zeroValue219}
open Go.RowKit Go.Lib in
def Tryz.slices_BinarySearch_int(b off n c:Nat)(zs:List Int)(x:Int)(w:World)(hz:n<=zs.length)(hbig:n<4611686018427387904)(hc:∀j,j<zs.length->w.cell? ⟨b,off+j,none⟩=some (.int .i64 (zs.getD j 0)))(hs:(zs.take n).Pairwise (· <= ·)):
  Calls Tryz.prog 247 #[.slice (some ⟨b,off,none⟩) n c,.int .i64 x] w λe w'=>e=.returned (.tuple #[.int .i64 ((zs.take n).countP (· <x):Nat),.bool ((zs.take n).contains x)])/\∃q,w'=w.drewN q:=Any.slices_BinarySearch_int Tryz.Et b off n c zs x w hz hbig hc hs
open Go.RowKit Go.Sort in
def Tryz.slices_Sort_int_none(p:Option Addr)(cap:Nat)(w:World):
  Calls Tryz.prog 249 #[.slice p 0 cap] w λe w'=>e=.returned (.tuple #[])/\w'=w:=Any.slices_Sort_int_none Tryz.JA p cap w
open Go.RowKit Go.Lib in
def Tryz.slices_BinarySearch_int_empty(a:Option Addr)(c:Nat)(x:Int)(w:World):
  Calls Tryz.prog 247 #[.slice a 0 c,.int .i64 x] w λe w'=>e=.returned (.tuple #[.int .i64 0,.bool false])/\w'=w:=Any.slices_BinarySearch_int_empty Tryz.Et a c x w
end Go.Proofs
namespace Go.Proofs.YtadildidlcbbkaaGreatDoor
open Go.GK Go.PL Go.RowKit Go.Sort Go.Lib
open IntKind Go.Proofs.Tryz
set_option maxRecDepth 100000
abbrev j3(l:List Int):GV:=.sl 1 (jA l)
def sY(l:List Int):(jA l).length=l.length:=by simp[jA]
def Pc(n:Nat)(hn:n<=1000000):Hf pg 293 0 [.v (.slice none 0 0),gi n] [] (λg σ m=>g=.o 0/\σ=[(0,.row 3 1 [])]/\m=1):=by
 refine Hf.jK (Q:=λg σ _=>∃id:Nat,g=.o id/\gW σ id=some (.row 3 1 [])) (Hf.q9 gV func293 rfl ntmps293 rfl results293 call293 λH0 S0 w0 h0 g0=>?_) ?_
 ·refine VM 17 (p2 (JK.Ck gV rfl rfl rfl rfl rfl ?_) ai);have hw:i64.wrap ((n:Int) -i64.wrap (0- ((0:Nat):Int)))=(n:Int):=by
   rw[ic (x:=0- ((0:Nat):Int)) az az,ic az az];omega
  by_cases h0:n=0
  ·exact VM 14 (p2 (JK.kx 0 3 1 rfl (V ⟨_,rfl,rfl⟩)) (decide_eq_false (by rw[hw];omega)))
  exact VM 15 (p1 (JK.Ck gV rfl rfl rfl rfl rfl (VM 2 ⟨rfl,rfl,(JK.IF (n:=n) (sz:=1) (kn:=.i64) gV rfl rfl rfl rfl au rfl rfl az rfl rfl (by exact congrArg (λi=>some (gi i)) hw) az (m8) az (λzs hz=>(VM 2 (JK.Ov gV rfl rfl rfl rfl rfl rfl rfl rfl rfl rfl az az (V ⟨_,rfl,rfl⟩)))))⟩)) (decide_eq_true (by rw[hw];omega)))
 rintro G σ n ⟨id,rfl,h⟩;exact⟨r1 0 id,.o 0,[(0,.row 3 1 [])],1,A0z,rfl,⟨h,trivial⟩,rfl⟩
def Cw{α:Type}(L:List (List α))(i:Nat)(h:i<L.length):(L.take (i+1)).flatten=(L.take i).flatten++L[i]:=by
 rw[a6 h,eW];simp
def ET{α:Type}(L:List (List α))(i:Nat):(L.take i).flatten.length<=L.flatten.length:=by
 conv=>rhs;rw[<-cj i L,eW,aI]
 omega
theorem KK(L:List (List Int))(hl:L.length≤1000)(hs:L.flatten.length≤1000000):
  Hf pg 248 1 [.o 0] [(0,.row 147 1 (L.map fun s=>[j3 s]))] (fun g σ n=>g=.o 1∧σ=[(1,.row 3 1 (jA L.flatten)),(0,.row 147 1 (L.map fun s=>[j3 s]))]∧n=2):=by
 refine Hf.jK (Q:=fun g σ _=>g=.o 1∧gW σ 1=some (.row 3 1 (jA L.flatten))∧gW σ 0=some (.row 147 1 (L.map fun s=>[j3 s]))) (Hf.of gV func248 rfl ntmps248 rfl results248 call248 fun H0 S0 w0 h0 g0=>?_) ?_
 ·have hll:(L.map fun s=>[j3 s]).length=L.length:=aA
  refine JK.iT (α:=Nat) (β:=Unit) (fun i=>⟨[(0,.o 0),(3,gi (L.take i).flatten.length),(9,.o 0),(10,gi (L.map fun s=>[j3 s]).length),(11,gi i)],[(0,.row 147 1 (L.map fun s=>[j3 s]))],1⟩) (fun i=>i≤L.length) (fun i=>L.length-i)
   (fun _=>⟨[(0,.o 0),(3,gi L.flatten.length)],[(0,.row 147 1 (L.map fun s=>[j3 s]))],1⟩) (fun _=>True) 0 id ?_ (aQ _) ?_ ?_
  ·exact⟨⟨rfl,rfl,rfl,rfl,rfl,trivial⟩,⟨rfl,trivial⟩,rfl⟩
  ·rintro i hi;replace hi:i≤L.length:=hi;refine V ?_;by_cases hlt:i<L.length
   ·have hst:=Cw L i az;have hle:=ET L (i+1);rw[hst,aI]at hle;refine p1 ⟨az,az,⟨[j3 L[i]],by simp[hlt],?_⟩⟩ aj;have hsl:=sY L[i];exact p2 ⟨i+1,id,⟨⟨rfl,(congrArg (fun i=>some (gi i)) (by rw[ic az az,hst,aI,hsl];omega)),rfl,rfl,h_ az,trivial⟩,⟨rfl,trivial⟩,rfl⟩,hlt,m8⟩ (decide_eq_false (by rw[ic az az];omega))
   ·refine p2 ?_ ai;obtain rfl:i=L.length:=az
    rw[aT];exact⟨(),id,⟨⟨rfl,rfl,trivial⟩,⟨rfl,trivial⟩,rfl⟩,trivial⟩
  ·rintro _ _;refine V (ig (Pc L.flatten.length hs) id rfl rfl trivial rfl (fun _ h=>absurd h (cf _)) ?_);rintro _ _ _ ⟨rfl,rfl,rfl⟩;refine JK.iT (α:=Nat) (β:=Unit) (fun i=>⟨[(0,.o 0),(6,.o 1),(25,.o 0),(26,gi (L.map fun s=>[j3 s]).length),(27,gi i)],[(1,.row 3 1 (jA (L.take i).flatten)),(0,.row 147 1 (L.map fun s=>[j3 s]))],2⟩) (fun i=>i≤L.length) (fun i=>L.length-i)
    (fun _=>⟨[(6,.o 1)],[(1,.row 3 1 (jA L.flatten)),(0,.row 147 1 (L.map fun s=>[j3 s]))],2⟩) (fun _=>True) 0 id ?_ (aQ _) ?_ ?_
   ·exact⟨⟨rfl,rfl,rfl,rfl,rfl,trivial⟩,⟨rfl,rfl,trivial⟩,rfl⟩
   ·rintro i hi;replace hi:i≤L.length:=hi;refine V ?_;by_cases hlt:i<L.length
    ·have hst:=Cw L i az;have hle:=ET L (i+1);rw[hst,aI]at hle;have hsl:=sY L[i];have hsf:=sY (L.take i).flatten;refine p1 ⟨az,az,⟨[j3 L[i]],by simp[hlt],⟨m8,⟨i+1,r1 1 2,⟨⟨rfl,rfl,rfl,rfl,h_ az,trivial⟩,⟨(congrArg (fun r=>some (hY.row 3 1 r)) ?_),rfl,trivial⟩,rfl⟩,hlt,m8⟩⟩⟩⟩ aj;rw[hst];show _=jA (_++_);unfold jA;rw[aP]
    ·refine p2 ?_ ai;obtain rfl:i=L.length:=az
     rw[aT];exact⟨(),id,⟨⟨rfl,trivial⟩,⟨rfl,rfl,trivial⟩,rfl⟩,trivial⟩
   ·rintro _ _;exact V ⟨rfl,rfl,rfl⟩
 ·rintro g σ n ⟨rfl,h1,h2⟩;exact⟨id,_,[(1,.row 3 1 (jA L.flatten)),(0,.row 147 1 (L.map fun s=>[j3 s]))],2,⟨rfl,rfl,rfl⟩,(mR _).symm,⟨h1,h2,trivial⟩,rfl⟩
def HC{ro:Nat->Option Obj}{L:List Int}{xs:List Value}(h:kJ ro 1 (jA L) xs):xs=L.map (Value.int .i64):=by
 have hl:=h.len;simp only[jA,aD,cX]at hl;refine cT λi=>?_;by_cases hi:i<L.length
 ·obtain⟨u,h1,h2⟩:=h.is i [gi L[i]] (by simp[jA,hi]) 0 (gi L[i]) rfl;rw[cX,b8]at h1;cases h2;rw[h1];simp[hi]
 rw[bI az,bI aq]
def Db(ro:Nat->Option Obj)(L:List Int):kJ ro 1 (jA L) (L.map (Value.int .i64)):=by
 refine⟨by simp[jA],λrow hr=>?_,λi row hr j g hj=>?_,λu hu=>?_⟩
 ·obtain⟨x,_,rfl⟩:=ba.1 hr;rfl
 ·rw[bg]at hr;cases hx:L[i]? with
  |none=>rw[hx]at hr;cases hr
  |some x=>
   rw[hx]at hr;cases hr;cases j with
   |zero=>simp at hj;subst hj;exact⟨.int .i64 x,by simp[hx],.v _⟩
   |succ j=>simp at hj
 obtain⟨x,_,rfl⟩:=ba.1 hu;rfl
abbrev tu(L:List Int):List Int:=L.mergeSort λx y=>decide (x<=y)
def T0{H:Hid}{us:Array Value}(h:Cells H [.o 0] us):us=#[H.sv 0]:=by
 obtain⟨hul,hi⟩:=h;have hi0:=(hi 0 (.o 0) rfl).mh;refine dW (by simpa using hul.symm) (λi h3 h4=>?_);have h5:i=0:=by
   have:i<1:=by simpa using h4
   omega
 subst h5;have:=hi0.1;rw[Array.getD,dif_pos h3]at this;simpa using this
def QC {H:Hid} {L M:List Int} {w:World} (hs:Sat H [(0,.row 3 1 (jA L))] w) {gb cap n:Nat} {cur:Array Value} {os:Array Obj} {d:List Int} (hv:H.sv 0=.slice (some ⟨gb,0,none⟩) L.length cap) (hgb:w.heap[gb]? =some (.cells cur 3 (0,0)))
  (hnc:L.length<=cap) (hcm:cap<=maxLen) (hcz:cur.size=cap*1) (hd:d.length=L.length) (hM:M.length<=L.length) (hMd:d.take M.length=M) {H':Hid} (hle:H.le H') (hro:H'.ro=H.ro) (id:Nat) (hid:id<H'.n) (hsv:H'.sv id=.slice (some ⟨gb,0,none⟩) M.length cap):
  Sat H' [(id,.row 3 1 (jA M))] (grow (putRow (Value.int .i64) (Sort.ahead w n) gb 0 d.toArray) os)/\Fr H (g_ H [(0,.row 3 1 (jA L))]) w H' (g_ H' [(id,.row 3 1 (jA M))]) (grow (putRow (Value.int .i64) (Sort.ahead w n) gb 0 d.toArray) os):=by
 have hb0:g_ H [(0,.row 3 1 (jA L))]=[gb]:=by simp[g_,blocks,hv,Value.ownBlock]
 have hb1:g_ H' [(id,.row 3 1 (jA M))]=[gb]:=by simp[g_,blocks,hsv,Value.ownBlock]
 have hglt:gb<w.heap.size:=(aW.1 hgb).1;have hfree:=hs.free gb (by rw[hb0];simp);refine⟨⟨λb o hr=>?_,λx hx=>?_,by rw[hb1];simp,λb hb=>?_,λx hx=>?_⟩,?_⟩
 ·rw[hro]at hr;have hbo:=hs.ro b o hr;have hne:b≠gb:=λe=>by rw[<-e,hr]at hfree;cases hfree
  rw[<-hbo];exact (grownBy_sortedI (w:=w) (g:=gb) (n:=n) (os:=os) _).block b (aW.1 hbo).1 (λe=>hne (br e))
 ·rw[aH.1 hx];refine⟨M.map (Value.int .i64),?_,Db _ _⟩;show World.ownsRow _ _ _ _ (H'.sv id) _ _;rw[hsv,sY];refine⟨aA,.inr ⟨gb,cap,_,rfl,aQ _,heap_sortedI _ hgb,az,hcm,by simp[putCells,hcz],?_⟩⟩;have h1:=take_putCellsI cur d az;have h2:=congrArg (List.take M.length) h1;rw[fh,cq az,<-fZ,hMd]at h2;rw[cX];exact h2
 ·rw[hb1]at hb;rw[aH.1 hb,hro];exact hfree
 ·rw[aH.1 hx];exact hid
 rw[hb0,hb1];refine⟨rfl,rfl,rfl,?_,λb hb hnb=>?_,λb hb=>.inl hb,λb h1 h2=>absurd h1 (by rw[hro]at h2;exact h2),hle⟩
 ·rw[Go.Sort.size_grow,show (putRow (Value.int .i64) (Sort.ahead w n) gb 0 _).heap.size=w.heap.size from Go.Sort.size_putRow _ _ _ _ _];omega
 refine (grownBy_sortedI (w:=w) (g:=gb) (n:=n) (os:=os) _).block b hb λe=>hnb ?_;rw[br e];simp
def Oe(L:List Int)(hL:L.length<4611686018427387904):Hf pg 249 1 [.o 0] [(0,.row 3 1 (jA L))] λg σ' n'=>g=.tup []/\σ'=[(0,.row 3 1 (jA (tu L)))]/\n'=1:=by
 refine⟨call249,λH us w hn hg hcs hs=>?_⟩;rw[T0 hcs];obtain⟨xs,hown,hrow⟩:=hs.holds (0,.row 3 1 (jA L)) aA;have hxs:=HC hrow;obtain⟨hxl,hcase⟩:=hown;rcases hcase with ⟨hv,hn0⟩|⟨gb,cap,cur,hv,_,hgb,hnc,hcm,hcz,htk⟩
 ·have hL0:L=[]:=by
   have:(jA L).length=0:=hn0;simpa[jA]using this
  subst hL0;rw[hv];refine (Tryz.slices_Sort_int_none none 0 w).mono ?_;rintro _ w' ⟨rfl,hw⟩;have hw2:w'=w:=hw;rw[hw2,show tu []=[] by simp[tu]];exact⟨_,.tup [],H,_,rfl,.tup rfl (λj g h=>by simp at h),hs,Fr.refl _ _ _,rfl,rfl,hn⟩
 simp only[jA,aD,cX]at hxl hnc hcz htk hv;have hglt:gb<w.heap.size:=(aW.1 hgb).1;have hH:Holds (Value.int .i64) w gb 0 L.toArray:=holds_of_blockI hgb (by rw[htk,hxs]);rw[hv];refine (Tryz.slices_Sort_int gb 0 cap L w hH hglt hL).mono ?_;rintro _ w' ⟨rfl,n,os,rfl⟩;have ht:=QC hs (M:=tu L) (d:=tu L) (n:=n) (os:=os) hv hgb hnc hcm (by rw[cX];exact hcz) (by simp[tu]) (by simp[tu]) aT (Hid.le.refl H) rfl 0 az (by rw[hv];simp[tu]);exact⟨_,.tup [],H,_,rfl,.tup rfl (λj g h=>by simp at h),ht.1,ht.2,rfl,rfl,hn⟩
def H3(L:List Int)(hL:L.length<4611686018427387904):Hf pg 250 1 [.o 0] [(0,.row 3 1 (jA L))] λg σ' n'=>g=.o 1/\σ'=[(1,.row 3 1 (jA (compact L)))]/\n'=2:=by
 refine⟨call250,λH us w hn hg hcs hs=>?_⟩;rw[T0 hcs];obtain⟨xs,hown,hrow⟩:=hs.holds (0,.row 3 1 (jA L)) aA;have hxs:=HC hrow;obtain⟨hxl,hcase⟩:=hown;rcases hcase with ⟨hv,hn0⟩|⟨gb,cap,cur,hv,_,hgb,hnc,hcm,hcz,htk⟩
 ·have hL0:L=[]:=by
   have:(jA L).length=0:=hn0;simpa[jA]using this
  subst hL0;rw[hv];refine (Tryz.slices_Compact_int_empty none 0 w).mono ?_;rintro _ w' ⟨rfl,hw⟩;have hw2:w'=w:=hw;rw[hw2,show compact ([]:List Int)=[] from rfl];have hle:=H.uX 1 (λ_=>0) (λ_=>H.sv 0);have h1:(H.plus 1 (λ_=>0) (λ_=>H.sv 0)).sv 1=H.sv 0:=by rw[<-hn];exact H.DK _ _ _ 0
  have h2:(H.plus 1 (λ_=>0) (λ_=>H.sv 0)).n=2:=by show H.n+1=2;omega
  have h3:(H.plus 1 (λ_=>0) (λ_=>H.sv 0)).ro=H.ro:=rfl;generalize H.plus 1 (λ_=>0) (λ_=>H.sv 0)=H' at hle h1 h2 h3;have hb0:g_ H [(0,.row 3 1 (jA []))]=[]:=by simp[g_,blocks,hv,Value.ownBlock]
  have hb1:g_ H' [(1,.row 3 1 (jA []))]=[]:=by simp[g_,blocks,h1,hv,Value.ownBlock]
  refine⟨_,.o 1,H',_,rfl,.o az (by rw[h1,hv]) rfl,⟨by rw[h3];exact hs.ro,λx hx=>?_,by rw[hb1];simp,by rw[hb1];simp,λx hx=>?_⟩,?_,rfl,rfl,h2⟩
  ·rw[aH.1 hx];refine⟨[],?_,Db _ _⟩;show World.ownsRow _ _ _ _ (H'.sv 1) _ _;rw[h1,hv];exact⟨rfl,.inl ⟨rfl,rfl⟩⟩
  ·rw[aH.1 hx];show 1<H'.n;omega
  rw[hb0,hb1];exact⟨rfl,rfl,rfl,aL _,λ_ _ _=>rfl,λb hb=>.inl hb,λb h1 h2=>absurd h1 (by rw[h3]at h2;exact h2),hle⟩
 simp only[jA,aD,cX]at hxl hnc hcz htk hv;have hglt:gb<w.heap.size:=(aW.1 hgb).1;have hH:Holds (Value.int .i64) w gb 0 L.toArray:=holds_of_blockI hgb (by rw[htk,hxs]);rw[hv];refine (Tryz.slices_Compact_int gb 0 cap L w hH az hnc).mono ?_;rintro _ w' ⟨rfl,q,rfl⟩;have hle:=H.uX 1 (λ_=>0) (λ_=>.slice (some ⟨gb,0,none⟩) (compact L).length cap);have h1:(H.plus 1 (λ_=>0) (λ_=>.slice (some ⟨gb,0,none⟩) (compact L).length cap)).sv 1=.slice (some ⟨gb,0,none⟩) (compact L).length cap:=by rw[<-hn];exact H.DK _ _ _ 0
 have h2:(H.plus 1 (λ_=>0) (λ_=>.slice (some ⟨gb,0,none⟩) (compact L).length cap)).n=2:=by show H.n+1=2;omega
 have h3:(H.plus 1 (λ_=>0) (λ_=>.slice (some ⟨gb,0,none⟩) (compact L).length cap)).ro=H.ro:=rfl;generalize H.plus 1 (λ_=>0) (λ_=>.slice (some ⟨gb,0,none⟩) (compact L).length cap)=H' at hle h1 h2 h3;have hcl:=Ki L;have ht:=QC hs (M:=compact L) (d:=compact L++List.replicate (L.length- (compact L).length) 0) (n:=q) (os:=#[]) hv hgb hnc hcm (by rw[cX];exact hcz) aq hcl aA hle h3 1 az h1;rw[show∀W:World,grow W #[]=W from λW=>by simp[grow]]at ht;exact⟨_,.o 1,H',_,rfl,.o az h1 rfl,ht.1,ht.2,rfl,rfl,h2⟩
def Qe{w:World}{A:Option Addr}{c:Nat}{L:List Int}(h:F9 w A c (L.map (Value.int .i64))):L=[] \/∃b o,A=some ⟨b,o,none⟩/\∀j,j<L.length->w.cell? ⟨b,o+j,none⟩=some (.int .i64 (L.getD j 0)):=by
 rcases h.at_ with h|⟨b,o,h1,_,h2⟩
 ·exact .inl (by simpa using h)
 refine .inr ⟨b,o,h1,λj hj=>h2 j _ ?_⟩;simp[hj]
def S8(L:List Int):jA L=(L.map (Value.int .i64)).map λx=>[GV.v x]:=by simp[jA]
def F0(L:List Int)(x:Int)(hL:L.length<4611686018427387904)(hs:L.Pairwise (· <= ·)):Rt pg 247 [j3 L,gi x] (.tup [gi (L.countP (· <x):Nat),.v (.bool (L.contains x))]):=by
 refine Rq.mono (Rq.sub (Q':=λg=>g=.tup [gi (L.countP (· <x):Nat),.v (.bool (L.contains x))]) (Q:=λg=>g=.v (.tuple #[.int .i64 (L.countP (· <x):Nat),.bool (L.contains x)])) ?_ ?_) λ_ h=>h
 ·show Rq pg _ [.sl 1 (jA L),gi x] _;rw[S8];refine Rt.slice call247 (L.map (Value.int .i64)) [.int .i64 x] _ λA c w hat=>?_;have hln:(L.map (Value.int .i64)).length=L.length:=aA
  rw[hln];rcases Qe hat with rfl|⟨b,o,rfl,hc⟩
  ·refine (Tryz.slices_BinarySearch_int_empty A c x w).mono ?_;rintro _ w' ⟨rfl,hw⟩;have hw:w'=w:=hw;subst hw;exact⟨rfl,Below.refl _ _⟩
  refine (Tryz.slices_BinarySearch_int b o L.length c L x w (aL _) hL hc (by rw[aT];exact hs)).mono ?_;rintro _ w' ⟨rfl,q,rfl⟩;rw[aT];exact⟨rfl,Go.below_drewN (Below.refl _ _) q⟩
 rintro g rfl;refine⟨_,λ{H u} h=>?_,rfl,rfl⟩;rw[h.iH];refine .tup rfl λj g hj=>?_
 match j,hj with
 |0,hj=>cases hj;exact .ro (.v _)
 |1,hj=>cases hj;exact .ro (.v _)
 |j+2,hj=>simp at hj
end Go.Proofs.YtadildidlcbbkaaGreatDoor
namespace Go.Proofs.YtadildidlcbbkaaGreatDoor
open Go.GK Go.PL Go.RowKit Go.Lib
open IntKind Go.Proofs.Tryz
set_option maxRecDepth 100000
theorem MS(a b:List Int)(ha:a.length≤100000)(hb:b.length≤100000):Rt pg 191 [j3 a,j3 b] (j3 (M8 a b)):=by
 refine Rt.of gV func191 rfl ntmps191 rfl results191 call191 fun H0 S0 w0 h0 g0=>?_;have hc:=KK [a,b] aA aq;have e:[a,b].flatten=a++b:=aA
 rw[e]at hc;refine ig hc id rfl rfl ⟨rfl,trivial⟩ rfl ay ?_;rintro _ _ _ ⟨rfl,rfl,rfl⟩;refine ig (Oe (a++b) aq) (fun _=>1) rfl rfl ⟨rfl,trivial⟩ rfl (fun _ _=>bA rfl) ?_;rintro _ _ _ ⟨rfl,rfl,rfl⟩;refine sw (H3 (tu (a++b)) (by simp[tu];omega)) (fun _=>1) rfl rfl ⟨rfl,trivial⟩ rfl (fun _ _=>bA rfl) ?_;rintro _ _ _ ⟨rfl,rfl,rfl⟩;exact ot 2 rfl ⟨rfl,rfl⟩
theorem FM(a b:List Int)(c:Bool)(ha:a.length≤100000)(hb:b.length≤100000)(hs:wy b):Rt pg 190 [j3 a,j3 b,.v (.bool c)] (j3 (pJ a b c)):=by
 refine Rt.of gV func190 rfl ntmps190 rfl results190 call190 fun H0 S0 w0 h0 g0=>?_;have hla:=sY a;refine JK.kx 7 3 1 rfl ?_;refine JK.iT (α:=Nat) (β:=Unit) (fun i=>⟨[(1,j3 b),(2,.v (.bool c)),(7,.o 0),(12,j3 a),(13,gi (jA a).length),(14,gi i)],[(0,.row 3 1 (jA (pJ (a.take i) b c)))],1⟩) (fun i=>i≤a.length) (fun i=>a.length-i)
  (fun _=>⟨[(7,.o 0)],[(0,.row 3 1 (jA (pJ a b c)))],1⟩) (fun _=>True) 0 id ?_ (aQ _) ?_ ?_
 ·exact⟨⟨rfl,rfl,rfl,rfl,rfl,rfl,trivial⟩,⟨rfl,trivial⟩,rfl⟩
 ·rintro i hi;replace hi:i≤a.length:=hi;refine V ?_;by_cases hlt:i<a.length
  ·have hk:=Ec (a.take i) b c;rw[aY]at hk;have hst:pJ (a.take (i+1)) b c=pJ (a.take i) b c++if (decide (a[i] ∈b)==c)=true then [a[i]] else []:=by
    unfold pJ;rw[a6 hlt,cH,bV];rfl
   have hkl:=sY (pJ (a.take i) b c);refine p1 ?_ aj;refine ix (h:=?_);have hb:=F0 b a[i] az (hs.imp fun h=>Int.le_of_lt h);rw[List.contains_eq_mem]at hb;refine GO hb rfl ?_;rcases tf (decide (a[i] ∈b)==c) with hc|hc
   ·refine p1 ?_ hc;refine⟨by simp only[aD,aB,aM];omega,?_⟩;refine⟨i+1,fun _=>2,⟨⟨rfl,rfl,rfl,rfl,rfl,h_ az,trivial⟩,⟨?_,trivial⟩,rfl⟩,hlt,by show a.length- (i+1)<a.length-i;omega⟩;refine congrArg (fun r=>some (hY.row 3 1 r)) ?_;rw[hst,if_pos hc];exact (aP (l₁:=pJ (a.take i) b c) (l₂:=[a[i]])).symm
   ·refine p2 ?_ hc;refine⟨i+1,id,⟨⟨rfl,rfl,rfl,rfl,rfl,h_ az,trivial⟩,⟨?_,trivial⟩,rfl⟩,hlt,by show a.length- (i+1)<a.length-i;omega⟩;refine congrArg (fun r=>some (hY.row 3 1 r)) ?_;rw[hst,if_neg (by rw[hc];decide),aZ]
  ·refine p2 ?_ ai;obtain rfl:i=a.length:=by omega
   rw[aT];exact⟨(),id,⟨⟨rfl,trivial⟩,⟨rfl,trivial⟩,rfl⟩,trivial⟩
 ·rintro _ _;refine ot 0 rfl ?_;exact⟨rfl,rfl⟩
def Tc(a b:List Int)(ha:a.length<=100000)(hb:b.length<=100000)(hs:wy b):Rt pg 139 [j3 a,j3 b] (j3 (pJ a b true)):=by
 refine Rt.of gV func139 rfl ntmps139 rfl results139 call139 λH0 S0 w0 h0 g0=>?_;exact GO (FM a b true ha hb hs) rfl ⟨rfl,rfl⟩
def Nc(a b:List Int)(ha:a.length<=100000)(hb:b.length<=100000)(hs:wy b):Rt pg 192 [j3 a,j3 b] (j3 (pJ a b false)):=by
 refine Rt.of gV func192 rfl ntmps192 rfl results192 call192 λH0 S0 w0 h0 g0=>?_;exact GO (FM a b false ha hb hs) rfl ⟨rfl,rfl⟩
def Qr(S:List (List Lb))(G:GV)(g:GV)(σ:Heap)(n:Nat):Prop:=∃f,g=G/\σ=IX S f/\n=2
def GS{F:FuncId}{args:List GV}{σ:Heap}{S:List (List Lb)}{G:GV}(hG:iy 0 G=true)(h:Hf pg F 2 args σ (λg σ' _=>g=G/\∃f,gW σ' 0=some (.hZ 214 [gi S.length,.o 1])/\gW σ' 1=some (.ab (mapA sH none (encI (m_ S)) f)))):
  Hf pg F 2 args σ (Qr S G):=by
 refine h.jK ?_;rintro g σ' n ⟨rfl,f,h0,h1⟩;refine⟨id,g,IX S f,2,⟨f,rfl,rfl,rfl⟩,(o4 _ hG).symm,⟨h0,h1,trivial⟩,?_⟩;rw[r_ 2 hG];rfl
def TF(N:Nat):kj N (λ_=>true)=(List.range N).map Int.ofNat:=by
 unfold kj;rw[cD.2 aA]
theorem Da(S:List (List Lb))(f:List Nat)(hl:S.length≤100000):Hf pg 138 2 [.p 0 0] (IX S f) (Qr S (j3 (kj S.length fun _=>true))):=by
 refine GS rfl (Hf.of gV func138 rfl ntmps138 rfl results138 call138 fun H0 S0 w0 h0 g0=>?_);refine JK.kx 3 3 1 rfl ?_;refine JK.iT (α:=Nat) (β:=Unit) (fun i=>⟨[(3,.o 2),(8,gi S.length),(9,gi i)],(2,.row 3 1 (jA ((List.range i).map Int.ofNat)))::IX S f,3⟩) (fun i=>i≤S.length) (fun i=>S.length-i)
  (fun _=>⟨[(3,.o 2)],(2,.row 3 1 (jA ((List.range S.length).map Int.ofNat)))::IX S f,3⟩) (fun _=>True) 0 id ?_ (aQ _) ?_ ?_
 ·exact⟨⟨rfl,rfl,rfl,trivial⟩,⟨rfl,rfl,rfl,trivial⟩,rfl⟩
 ·rintro i hi;replace hi:i≤S.length:=hi;refine V ?_;by_cases hlt:i<S.length
  ·refine p1 ?_ aj;refine⟨by simp[jA];omega,?_⟩;refine⟨i+1,fun k=>bif Nat.beq k 2 then 4 else k,⟨⟨rfl,rfl,h_ az,trivial⟩,⟨?_,rfl,rfl,trivial⟩,rfl⟩,hlt,by show S.length- (i+1)<S.length-i;omega⟩;refine congrArg (fun r=>some (hY.row 3 1 r)) ?_;rw[fK,aP];exact (aP (l₁:=(List.range i).map Int.ofNat) (l₂:=[Int.ofNat i])).symm
  ·refine p2 ?_ ai;obtain rfl:i=S.length:=by omega
   exact⟨(),id,⟨⟨rfl,trivial⟩,⟨rfl,rfl,rfl,trivial⟩,rfl⟩,trivial⟩
 ·rintro _ _;refine ot 2 rfl ?_;rw[TF];exact⟨rfl,f,rfl,rfl⟩
def uk(M:AY):List (Value×GV):=iG j3 (oy M)
def El{v:ByteArray}:∀{M:AY},v∈ji M->jl (.string v) (uk M)=some (j3 (lA v [] M))
 | [],h=>by cases h
 | (q,r)::R,h=>by
  unfold lA;by_cases e:q=v
  ·rw[if_pos e];subst e;show jl _ ((Value.string q,j3 r)::uk R)=_;rw[jl,if_pos (xZ.2 rfl)]
  rw[if_neg e];show jl _ ((Value.string q,j3 r)::uk R)=_;rw[jl,if_neg (by rw[Jt λe'=>e e'.symm];decide)];refine El ?_;simp only[PL.ji,bb,aF]at h;rcases h with h|h
  ·exact absurd h.symm e
  exact h
def od(f:Nat->Nat)(M:AY):jS f (uk M)=uk M:=ym _ (λ_=>rfl) f _
def oD(n:Nat)(M:AY):mM n (uk M)=true:=vv _ n (λ_=>rfl) _
theorem TG(S:List (List Lb))(f:List Nat)(m:Mt)(hl:S.length≤50000)(hS:∀s∈S,iS s=true)(hop:0≤m.op∧m.op≤3):Hf pg 140 2 [.p 0 0,.agg (mt m)] (IX S f) (Qr S (j3 (kj S.length fun i=>o_ (S.getD i []) m))):=by
 have hrow:=TZ hS m.name;have hsome:=fun i (hi:i<S.length)=>SK hS hop hi;refine GS rfl (Hf.q9 gV func140 rfl ntmps140 rfl results140 call140 fun H0 S0 w0 h0 g0=>?_);refine VM 10 ?_;refine JK.qF 2 rfl rfl ?_;refine JK.sub 5 (j3 []) rfl (Sub.nil 1) ?_;refine JK.sub 6 (j3 []) rfl (Sub.nil 1) ?_;refine VM 1 ?_;refine JK.cut (α:=List Nat) (fun f'=>⟨[(0,.p 0 0),(3,.r (mt m)),(5,j3 (kj S.length fun i=>(qh (m_ S) m.name).any fun v=>kY m v&&kS S i m.name v)),(6,j3 (kj S.length fun i=>(qh (m_ S) m.name).any fun v=>true&&kS S i m.name v))],IX S f',3⟩) (fun _=>True) ?_ ?_
 ·by_cases hn:m.name∈ji (m_ S)
  ·obtain⟨l1,M,l2,hL,hn1⟩:=y8 hn;have hM:lA m.name [] (m_ S)=M:=by rw[hL,FT hn1]
   have hnd:(ji M).Nodup:=(GR S hS).nd2 (m.name,M) (by rw[hL];simp);have hr:∀v,lA v [] M=kj S.length fun i=>kS S i m.name v:=fun v=>by rw[←hrow v,xS,hM]
   rw[show qh (m_ S) m.name=ji M by rw[qh,hM]];refine JK.focus (F:=sH) (kd:=none) (l1:=encI l1) (l2:=encI l2) (key:=.string m.name) (x:=oy M) (f:=f) 1 (congrArg (fun q=>some (hY.ab (mapA sH none q f))) (by rw[hL,vq])) fun m1 m2 f1 f2 hm1 hm2=>?_
   refine JK.R9 (kd:=none) (es:=uk M) (fp:=f1) 3 rfl (fun g=>od g M) ?_;refine V ?_;refine iU [3] true (tk [0,1,2,3,4,5,6]++al [7]) au ?_;refine oK (oQ (px hm1 hn1)) ?_;refine V ?_;refine JK.iT (α:=List Value×Option Value×List ByteArray) (β:=Option Value×List ByteArray) (fun a=>⟨[(0,.p 0 0),(3,.r (mt m)),(5,j3 (kj S.length fun i=>a.2.2.any fun v=>kY m v&&kS S i m.name v)),(6,j3 (kj S.length fun i=>a.2.2.any fun v=>true&&kS S i m.name v)),(16,.p 6 0)],[(0,.hZ 214 [gi S.length,.o 1]),(1,.mp none (mE m1++(Value.string m.name,.o 3)::mE m2)),(3,.itr 6),(6,.mr none (uk M) a.1 a.2.1),(4,.ab (qc sH ((m1++m2).map (·.2)) f2))],7⟩)
    (fun a=>(a.1++a.2.2.map Value.string).Perm ((ji M).map Value.string)) (fun a=>a.1.length)
    (fun c=>⟨[(0,.p 0 0),(3,.r (mt m)),(5,j3 (kj S.length fun i=>c.2.any fun v=>kY m v&&kS S i m.name v)),(6,j3 (kj S.length fun i=>c.2.any fun v=>true&&kS S i m.name v))],[(0,.hZ 214 [gi S.length,.o 1]),(1,.mp none (mE m1++(Value.string m.name,.o 3)::mE m2)),(3,.itr 6),(6,.mr none (uk M) [] c.1),(4,.ab (qc sH ((m1++m2).map (·.2)) f2))],7⟩) (fun c=>(c.2.map Value.string).Perm ((ji M).map Value.string)) ((uk M).map (·.1),none,[]) id ?_ ?_ ?_ ?_
   ·exact⟨⟨rfl,rfl,congrArg (fun l=>some (j3 l)) (wi S.length).symm,congrArg (fun l=>some (j3 l)) (wi S.length).symm,rfl,trivial⟩,⟨rfl,congrArg (fun q=>some (hY.mp none q)) (kV (f:=id) (Y:=3)).symm,rfl,congrArg (fun q=>some (hY.mr none q ((uk M).map Prod.fst) none)) (od id M).symm,rfl,trivial⟩,by simp[jt,iy,im,iL,jm,iv,iu,jf,je,lP,oD];try decide⟩
   ·show ((uk M).map (·.1)++[].map Value.string).Perm _;rw[cN,aZ,show (uk M).map (·.1)=(ji M).map Value.string by simp[uk,iG,oy,PL.ji]]
   ·rintro⟨lf,cur,vis⟩ hp;replace hp:(lf++vis.map Value.string).Perm ((ji M).map Value.string):=hp;refine V ?_;refine⟨fun e=>?_,fun kl1 k kl2 g hlk hg=>?_⟩
    ·obtain rfl:lf=[]:=e;exact⟨(cur,vis),id,⟨⟨rfl,rfl,rfl,rfl,trivial⟩,⟨rfl,congrArg (fun q=>some (hY.mp none q)) (kV (f:=id) (Y:=3)).symm,rfl,congrArg (fun q=>some (hY.mr none q [] cur)) (od id M).symm,rfl,trivial⟩,by simp[jt,iy,im,iL,jm,iv,iu,jf,je,lP,oD];try decide⟩,hp⟩
    ·obtain rfl:lf=kl1++k::kl2:=hlk;obtain⟨v,hv,rfl⟩:∃v,v∈ji M∧Value.string v=k:=by
      have hm:k∈(ji M).map Value.string:=hp.mem_iff.1 aA;exact ba.1 hm
     have hf:=El hv;obtain rfl:j3 (lA v [] M)=g:=br (hf.symm.trans hg);refine⟨_,hf,?_⟩;have hor:∀q:ByteArray→Bool,q v=true→Rt pg 191 [j3 (kj S.length fun i=>vis.any fun v=>q v&&kS S i m.name v),j3 (lA v [] M)] (j3 (kj S.length fun i=>(vis++[v]).any fun v=>q v&&kS S i m.name v)):=fun q hq=>by
      have h:=MS (kj S.length fun i=>vis.any fun v=>q v&&kS S i m.name v) (lA v [] M) (by have:=uV S.length fun i=>vis.any fun v=>q v&&kS S i m.name v;omega) (by rw[hr v];have:=uV S.length fun i=>kS S i m.name v;omega);have e:M8 (kj S.length fun i=>vis.any fun v=>q v&&kS S i m.name v) (lA v [] M)=kj S.length fun i=>(vis++[v]).any fun v=>q v&&kS S i m.name v:=by
       rw[hr v,MM];refine n9 fun i _=>?_;simp[hq]
      rw[e]at h;exact h
     refine sw (Rq.hf (hor (fun _=>true) rfl)) id rfl rfl trivial rfl (fun _ h=>absurd h (cf _)) ?_;rintro _ _ _ ⟨rfl,rfl,rfl⟩;refine VM 2 ?_;refine JK.cut (α:=Unit) (fun _=>⟨[(0,.p 0 0),(3,.r (mt m)),(5,j3 (kj S.length fun i=>(vis++[v]).any fun v=>kY m v&&kS S i m.name v)),(6,j3 (kj S.length fun i=>(vis++[v]).any fun v=>true&&kS S i m.name v)),(16,.p 6 0)],[(0,.hZ 214 [gi S.length,.o 1]),(1,.mp none (mE m1++(Value.string m.name,.o 3)::mE m2)),(3,.itr 6),(6,.mr none (uk M) (kl1++kl2) (some (.string v))),(4,.ab (qc sH ((m1++m2).map (·.2)) f2))],7⟩) (fun _=>True) ?_ ?_
     ·have hsame:kY m v=false→some (j3 (kj S.length fun i=>vis.any fun v=>kY m v&&kS S i m.name v))=some (j3 (kj S.length fun i=>(vis++[v]).any fun v=>kY m v&&kS S i m.name v)):=fun hq=>by
       refine congrArg (fun l=>some (j3 l)) (n9 fun i _=>?_);simp[hq]
      refine V ?_;have h4:m.op=0∨m.op=1∨m.op=2∨m.op=3:=by omega
      rcases h4 with hm|hm|hm|hm
      ·have e0:(m.op==0)=true:=by simp[hm]
       have e1:(m.op==1)=false:=by simp[hm]
       have e2:(m.op==2)=false:=by simp[hm]
       have e3:(m.op==3)=false:=by simp[hm]
       have hy:kY m v=(mZ v m.value):=by simp[kY,hm]
       rcases tf (mZ v m.value) with hq|hq
       ·repeat (first|refine p1 ?_|refine p2 ?_|refine p3 ?_|refine p4 ?_)
        refine GO (hor (kY m) (hy.trans hq)) rfl ?_;exact⟨(),id,⟨⟨rfl,rfl,rfl,rfl,rfl,trivial⟩,⟨rfl,congrArg (fun q=>some (hY.mp none q)) (kV (f:=id) (Y:=3)).symm,rfl,congrArg (fun q=>some (hY.mr none q (kl1++kl2) (some (.string v)))) (od id M).symm,rfl,trivial⟩,by simp[jt,iy,im,iL,jm,iv,iu,jf,je,lP,oD];try decide⟩,trivial⟩
       ·repeat (first|refine p1 ?_|refine p2 ?_|refine p3 ?_|refine p4 ?_)
        exact⟨(),id,⟨⟨rfl,rfl,hsame (hy.trans hq),rfl,rfl,trivial⟩,⟨rfl,congrArg (fun q=>some (hY.mp none q)) (kV (f:=id) (Y:=3)).symm,rfl,congrArg (fun q=>some (hY.mr none q (kl1++kl2) (some (.string v)))) (od id M).symm,rfl,trivial⟩,by simp[jt,iy,im,iL,jm,iv,iu,jf,je,lP,oD];try decide⟩,trivial⟩
      ·have e0:(m.op==0)=false:=by simp[hm]
       have e1:(m.op==1)=true:=by simp[hm]
       have e2:(m.op==2)=false:=by simp[hm]
       have e3:(m.op==3)=false:=by simp[hm]
       have hy:kY m v=(mZ v m.value):=by simp[kY,hm]
       rcases tf (mZ v m.value) with hq|hq
       ·repeat (first|refine p1 ?_|refine p2 ?_|refine p3 ?_|refine p4 ?_)
        refine GO (hor (kY m) (hy.trans hq)) rfl ?_;exact⟨(),id,⟨⟨rfl,rfl,rfl,rfl,rfl,trivial⟩,⟨rfl,congrArg (fun q=>some (hY.mp none q)) (kV (f:=id) (Y:=3)).symm,rfl,congrArg (fun q=>some (hY.mr none q (kl1++kl2) (some (.string v)))) (od id M).symm,rfl,trivial⟩,by simp[jt,iy,im,iL,jm,iv,iu,jf,je,lP,oD];try decide⟩,trivial⟩
       ·repeat (first|refine p1 ?_|refine p2 ?_|refine p3 ?_|refine p4 ?_)
        exact⟨(),id,⟨⟨rfl,rfl,hsame (hy.trans hq),rfl,rfl,trivial⟩,⟨rfl,congrArg (fun q=>some (hY.mp none q)) (kV (f:=id) (Y:=3)).symm,rfl,congrArg (fun q=>some (hY.mr none q (kl1++kl2) (some (.string v)))) (od id M).symm,rfl,trivial⟩,by simp[jt,iy,im,iL,jm,iv,iu,jf,je,lP,oD];try decide⟩,trivial⟩
      ·have e0:(m.op==0)=false:=by simp[hm]
       have e1:(m.op==1)=false:=by simp[hm]
       have e2:(m.op==2)=true:=by simp[hm]
       have e3:(m.op==3)=false:=by simp[hm]
       have hy:kY m v=(nI v m.value):=by simp[kY,hm]
       rcases tf (nI v m.value) with hq|hq
       ·repeat (first|refine p1 ?_|refine p2 ?_|refine p3 ?_|refine p4 ?_)
        refine GO ((oe v m.value).bt hq) rfl ?_
        repeat (first|refine p1 ?_|refine p2 ?_|refine p3 ?_|refine p4 ?_)
        refine GO (hor (kY m) (hy.trans hq)) rfl ?_;exact⟨(),id,⟨⟨rfl,rfl,rfl,rfl,rfl,trivial⟩,⟨rfl,congrArg (fun q=>some (hY.mp none q)) (kV (f:=id) (Y:=3)).symm,rfl,congrArg (fun q=>some (hY.mr none q (kl1++kl2) (some (.string v)))) (od id M).symm,rfl,trivial⟩,by simp[jt,iy,im,iL,jm,iv,iu,jf,je,lP,oD];try decide⟩,trivial⟩
       ·repeat (first|refine p1 ?_|refine p2 ?_|refine p3 ?_|refine p4 ?_)
        refine GO ((oe v m.value).bt hq) rfl ?_
        repeat (first|refine p1 ?_|refine p2 ?_|refine p3 ?_|refine p4 ?_)
        exact⟨(),id,⟨⟨rfl,rfl,hsame (hy.trans hq),rfl,rfl,trivial⟩,⟨rfl,congrArg (fun q=>some (hY.mp none q)) (kV (f:=id) (Y:=3)).symm,rfl,congrArg (fun q=>some (hY.mr none q (kl1++kl2) (some (.string v)))) (od id M).symm,rfl,trivial⟩,by simp[jt,iy,im,iL,jm,iv,iu,jf,je,lP,oD];try decide⟩,trivial⟩
      ·have e0:(m.op==0)=false:=by simp[hm]
       have e1:(m.op==1)=false:=by simp[hm]
       have e2:(m.op==2)=false:=by simp[hm]
       have e3:(m.op==3)=true:=by simp[hm]
       have hy:kY m v=(nI v m.value):=by simp[kY,hm]
       rcases tf (nI v m.value) with hq|hq
       ·repeat (first|refine p1 ?_|refine p2 ?_|refine p3 ?_|refine p4 ?_)
        refine GO ((oe v m.value).bt hq) rfl ?_
        repeat (first|refine p1 ?_|refine p2 ?_|refine p3 ?_|refine p4 ?_)
        refine GO (hor (kY m) (hy.trans hq)) rfl ?_;exact⟨(),id,⟨⟨rfl,rfl,rfl,rfl,rfl,trivial⟩,⟨rfl,congrArg (fun q=>some (hY.mp none q)) (kV (f:=id) (Y:=3)).symm,rfl,congrArg (fun q=>some (hY.mr none q (kl1++kl2) (some (.string v)))) (od id M).symm,rfl,trivial⟩,by simp[jt,iy,im,iL,jm,iv,iu,jf,je,lP,oD];try decide⟩,trivial⟩
       ·repeat (first|refine p1 ?_|refine p2 ?_|refine p3 ?_|refine p4 ?_)
        refine GO ((oe v m.value).bt hq) rfl ?_
        repeat (first|refine p1 ?_|refine p2 ?_|refine p3 ?_|refine p4 ?_)
        exact⟨(),id,⟨⟨rfl,rfl,hsame (hy.trans hq),rfl,rfl,trivial⟩,⟨rfl,congrArg (fun q=>some (hY.mp none q)) (kV (f:=id) (Y:=3)).symm,rfl,congrArg (fun q=>some (hY.mr none q (kl1++kl2) (some (.string v)))) (od id M).symm,rfl,trivial⟩,by simp[jt,iy,im,iL,jm,iv,iu,jf,je,lP,oD];try decide⟩,trivial⟩
     ·rintro _ _;refine V ?_;refine⟨(kl1++kl2,some (.string v),vis++[v]),id,⟨⟨rfl,rfl,rfl,rfl,rfl,trivial⟩,⟨rfl,congrArg (fun q=>some (hY.mp none q)) (kV (f:=id) (Y:=3)).symm,rfl,congrArg (fun q=>some (hY.mr none q (kl1++kl2) (some (.string v)))) (od id M).symm,rfl,trivial⟩,by simp[jt,iy,im,iL,jm,iv,iu,jf,je,lP,oD];try decide⟩,?_,by show (kl1++kl2).length<(kl1++Value.string v::kl2).length;simp⟩;show ((kl1++kl2)++(vis++[v]).map Value.string).Perm _;refine List.Perm.trans ?_ hp;rw[aP,←aS];refine (dt (l₂:=[v].map Value.string)).trans ?_;show (Value.string v::((kl1++kl2)++vis.map Value.string)).Perm _;exact (dQ (l₁:=kl1)).symm.append_right _ |>.trans (by exact fR _)
   ·rintro⟨c,vis⟩ hp;have hp2:vis.Perm (ji M):=by
     have h2:=List.Perm.map (fun x=>match x with|Value.string s=>s|_=>ByteArray.empty) (show (vis.map Value.string).Perm ((ji M).map Value.string) from hp);rw[bR,bR]at h2;have e:((fun x=>match x with|Value.string s=>s|_=>ByteArray.empty) ∘Value.string)=id:=rfl;rw[e,List.map_id,List.map_id]at h2;exact h2
    have hany:∀q:ByteArray→Bool,vis.any q=(ji M).any q:=fun q=>by
     rw[cp,dp,dp];exact⟨fun⟨x,h1,h2⟩=>⟨x,hp2.mem_iff.1 h1,h2⟩,fun⟨x,h1,h2⟩=>⟨x,hp2.mem_iff.2 h1,h2⟩⟩
    refine JK.Ar 3 6 rfl rfl rfl ?_;refine JK.pack (fun _=>3) 1 3 [(0,.mp none (uk M))] ⟨congrArg (fun q=>some (hY.mp none q)) (od _ M).symm,trivial⟩ (by simp[iL,jm,oD,iv,iu,je];try decide) fun g1=>?_;refine JK.s_ (F:=sH) (kd:=none) (m1:=m1) (m2:=m2) (x:=oy M) (f1:=g1) (f2:=f2) 1 3 4 rfl rfl rfl fun f'=>?_;refine V ?_;refine⟨f',id,⟨⟨rfl,rfl,congrArg (fun l=>some (j3 l)) (n9 fun i _=>hany _),congrArg (fun l=>some (j3 l)) (n9 fun i _=>hany _),trivial⟩,⟨rfl,?_,trivial⟩,rfl⟩,trivial⟩;exact congrArg (fun q=>some (hY.ab (mapA sH none q f'))) (by rw[hm1,hm2,←vq,hL])
  ·have hM:lA m.name [] (m_ S)=[]:=Gh hn;rw[show qh (m_ S) m.name=[] by rw[qh,hM];rfl];refine JK.KQ (F:=sH) (kd:=none) (l:=encI (m_ S)) (f:=f) 1 rfl fun q f2 hq=>?_;refine V ?_;refine iU [] true (tk [0,1,2,3,4,5,6]++al [7]) au ?_;refine vm (wV (px hq hn)) ?_;refine V ?_;refine JK.iT (α:=Unit) (β:=Unit) (fun _=>⟨[(0,.p 0 0),(3,.r (mt m)),(5,j3 []),(6,j3 []),(16,.p 4 0)],[(0,.hZ 214 [gi S.length,.o 1]),(1,.mp none (mE q)),(3,.ab (qc sH (q.map (·.2)) f2)),(4,.ob (.mapIter none 0 #[] 0))],5⟩) (fun _=>True) (fun _=>0)
    (fun _=>⟨[(0,.p 0 0),(3,.r (mt m)),(5,j3 []),(6,j3 [])],[(0,.hZ 214 [gi S.length,.o 1]),(1,.mp none (mE q)),(3,.ab (qc sH (q.map (·.2)) f2))],4⟩) (fun _=>True) () id ?_ trivial ?_ ?_
   ·exact⟨⟨rfl,rfl,rfl,rfl,rfl,trivial⟩,⟨rfl,congrArg (fun q=>some (hY.mp none q)) (zm id q).symm,rfl,rfl,trivial⟩,by simp[jt,iy,im,iL,jm,iv,iu,jf,je,zB];try decide⟩
   ·rintro _ _;refine V ?_;exact⟨(),id,⟨⟨rfl,rfl,rfl,rfl,trivial⟩,⟨rfl,congrArg (fun q=>some (hY.mp none q)) (zm id q).symm,rfl,trivial⟩,by simp[jt,iy,im,iL,jm,iv,iu,jf,je,zB];try decide⟩,trivial⟩
   ·rintro _ _;refine JK.SQ (F:=sH) (kd:=none) (l':=q) (f2:=f2) 1 3 rfl rfl fun f'=>?_;refine V ?_;refine⟨f',id,⟨⟨rfl,rfl,congrArg (fun l=>some (j3 l)) (wi S.length).symm,congrArg (fun l=>some (j3 l)) (wi S.length).symm,trivial⟩,⟨rfl,?_,trivial⟩,rfl⟩,trivial⟩;exact congrArg (fun q=>some (hY.ab (mapA sH none q f'))) hq
 ·rintro f' _;have hlu:=fun p=>uV S.length p;refine VM 1 ?_;refine JK.cut (α:=List Nat) (fun f'=>⟨[(0,.p 0 0),(3,.r (mt m)),(5,j3 (kj S.length fun i=>kY m (kT (S.getD i []) m.name)))],IX S f',3⟩) (fun _=>True) ?_ ?_
  ·refine V ?_;rcases tf (mZ m.value ⟨#[]⟩) with he|he
   ·refine p1 ?_ he;refine ig (Da S f' az) id rfl rfl ⟨rfl,rfl,trivial⟩ rfl ay ?_;rintro _ _ _ ⟨f2,rfl,rfl,rfl⟩;refine GO (Nc (kj S.length fun _=>true) (kj S.length fun i=>(qh (m_ S) m.name).any fun v=>true&&kS S i m.name v) (by have:=hlu fun _=>true;omega) (by have:=hlu fun i=>(qh (m_ S) m.name).any fun v=>true&&kS S i m.name v;omega) (qA _ _)) rfl ?_;have hk:=Ec (kj S.length fun _=>true) (kj S.length fun i=>(qh (m_ S) m.name).any fun v=>true&&kS S i m.name v) false;refine GO (MS (kj S.length fun i=>(qh (m_ S) m.name).any fun v=>kY m v&&kS S i m.name v) _ (by have:=hlu fun i=>(qh (m_ S) m.name).any fun v=>kY m v&&kS S i m.name v;omega) (by have:=hlu fun _=>true;omega)) rfl ?_;refine⟨f2,id,⟨⟨rfl,rfl,?_,trivial⟩,⟨rfl,rfl,trivial⟩,rfl⟩,trivial⟩;refine congrArg (fun l=>some (j3 l)) ?_;rw[Dh,MM];refine n9 fun i hi=>?_;have:=hsome i hi;rw[he,cY]at this;rw[cY];exact this
   ·refine p2 ?_ he;refine⟨f',id,⟨⟨rfl,rfl,?_,trivial⟩,⟨rfl,rfl,trivial⟩,rfl⟩,trivial⟩;refine congrArg (fun l=>some (j3 l)) (n9 fun i hi=>?_);have:=hsome i hi;rw[he,fi,fY]at this;exact this
  ·rintro f2 _;refine V ?_;have hlone:∀i,o_ (S.getD i []) m=if m.op=0∨m.op=2 then kY m (kT (S.getD i []) m.name) else !kY m (kT (S.getD i []) m.name):=fun i=>Ob hop;have h4:m.op=0∨m.op=1∨m.op=2∨m.op=3:=by omega
   have fin1:m.op=0∨m.op=2→kj S.length (fun i=>kY m (kT (S.getD i []) m.name))=kj S.length fun i=>o_ (S.getD i []) m:=fun h=>n9 fun i _=>by rw[hlone,if_pos h]
   have fin2:¬(m.op=0∨m.op=2)→pJ (kj S.length fun _=>true) (kj S.length fun i=>kY m (kT (S.getD i []) m.name)) false=kj S.length fun i=>o_ (S.getD i []) m:=fun h=>by
    rw[Dh];refine n9 fun i _=>?_;rw[hlone,if_neg h];cases kY m (kT (S.getD i []) m.name) <;>rfl
   have hnot:=Nc (kj S.length fun _=>true) (kj S.length fun i=>kY m (kT (S.getD i []) m.name)) (by have:=hlu fun _=>true;omega) (by have:=hlu fun i=>kY m (kT (S.getD i []) m.name);omega) (qA _ _);rcases h4 with hm|hm|hm|hm
   ·have e0:(m.op==0)=true:=by simp[hm]
    repeat (first|refine p1 ?_|refine p2 ?_|refine p3 ?_|refine p4 ?_)
    rw[←fin1 (.inl hm)];exact⟨rfl,f2,rfl,rfl⟩
   ·have e0:(m.op==0)=false:=by simp[hm]
    have e2:(m.op==2)=false:=by simp[hm]
    repeat (first|refine p1 ?_|refine p2 ?_|refine p3 ?_|refine p4 ?_)
    refine ig (Da S f2 az) id rfl rfl ⟨rfl,rfl,trivial⟩ rfl ay ?_;rintro _ _ _ ⟨f3,rfl,rfl,rfl⟩;refine GO hnot rfl ?_;rw[←fin2 az];exact⟨rfl,f3,rfl,rfl⟩
   ·have e0:(m.op==0)=false:=by simp[hm]
    have e2:(m.op==2)=true:=by simp[hm]
    repeat (first|refine p1 ?_|refine p2 ?_|refine p3 ?_|refine p4 ?_)
    rw[←fin1 (.inr hm)];exact⟨rfl,f2,rfl,rfl⟩
   ·have e0:(m.op==0)=false:=by simp[hm]
    have e2:(m.op==2)=false:=by simp[hm]
    repeat (first|refine p1 ?_|refine p2 ?_|refine p3 ?_|refine p4 ?_)
    refine ig (Da S f2 az) id rfl rfl ⟨rfl,rfl,trivial⟩ rfl ay ?_;rintro _ _ _ ⟨f3,rfl,rfl,rfl⟩;refine GO hnot rfl ?_;rw[←fin2 az];exact⟨rfl,f3,rfl,rfl⟩
def Lm{l:List Mt}(h:l8 l=true):∀x∈l,0<=x.op/\x.op<=3:=by
 unfold l8 at h;rw[aG,bG]at h;intro x hx;obtain⟨i,hi,rfl⟩:=bz hx;have:=oP h.1 i hi;rw[show l.getD i default=l[i] by simp[hi]]at this;unfold xE at this;simp only[bO,dv,decide_eq_true_eq]at this;exact this.2.2
def sq(S:List (List Lb))(ms:List Mt):List Int:=kj S.length λi=>rE (S.getD i []) ms
def LG(l:List Lb)(ms:List Mt)(i:Nat)(h:i<ms.length):rE l (ms.take (i+1))=(rE l (ms.take i)&&o_ l ms[i]):=by
 rw[a6 h];unfold rE;rw[List.all_append];simp
def OW(S:List (List Lb))(ms:List Mt)(i:Nat)(h:i<ms.length):pJ (sq S (ms.take i)) (kj S.length λj=>o_ (S.getD j []) ms[i]) true=sq S (ms.take (i+1)):=by
 unfold sq;rw[Dh];refine n9 λj _=>?_;rw[LG _ _ _ h];cases o_ (S.getD j []) ms[i] <;>rfl
theorem PZ(S:List (List Lb))(f:List Nat)(ms:List Mt)(hl:S.length≤50000)(hS:∀s∈S,iS s=true)(hm:Qs ms)(hml:ms.length≤1000000):Hf pg 76 2 [.p 0 0,.sl 3 (ms.map mt)] (IX S f) (Qr S (if l8 ms=true then .tup [j3 (sq S ms),.v .nilIface] else .tup [.v (.slice none 0 0),.ifc 54 (gi 1)])):=by
 refine GS (by split<;>rfl) (Hf.of gV func76 rfl ntmps76 rfl results76 call76 fun H0 S0 w0 h0 g0=>?_);rcases tf (l8 ms) with hk|hk
 ·rw[if_pos hk];have hop:=Lm hk;refine GO ((qt ms hm).bt hk) rfl (ig (Da S f az) id rfl rfl ⟨rfl,rfl,trivial⟩ rfl ay ?_);rintro _ _ _ ⟨f1,rfl,rfl,rfl⟩;have hll:(ms.map mt).length=ms.length:=aA
  refine JK.iT (α:=Nat×List Nat) (β:=List Nat) (fun z=>⟨[(0,.p 0 0),(6,j3 (sq S (ms.take z.1))),(15,.sl 3 (ms.map mt)),(16,gi (ms.map mt).length),(17,gi z.1)],IX S z.2,2⟩) (fun z=>z.1≤ms.length) (fun z=>ms.length-z.1)
   (fun f=>⟨[(6,j3 (sq S ms))],IX S f,2⟩) (fun _=>True) (0,f1) id ?_ (aQ _) ?_ ?_
  ·exact⟨⟨rfl,(congrArg (fun l=>some (j3 l)) (n9 fun i _=>by simp[rE])),rfl,rfl,rfl,trivial⟩,⟨rfl,rfl,trivial⟩,rfl⟩
  ·rintro⟨i,f2⟩ hi;replace hi:i≤ms.length:=hi;refine V ?_;by_cases hlt:i<ms.length
   ·refine p1 (ix (h:=?_)) (decide_eq_true (m8));have hone:=TG S f2 ms[i] hl hS (hop _ (aR hlt));refine ig hone id rfl rfl ⟨rfl,rfl,trivial⟩ rfl ay ?_;rintro _ _ _ ⟨f3,rfl,rfl,rfl⟩;exact GO (Tc (sq S (ms.take i)) (kj S.length fun j=>o_ (S.getD j []) ms[i]) (by have:=uV S.length fun j=>rE (S.getD j []) (ms.take i);unfold sq;omega) (by have:=uV S.length fun j=>o_ (S.getD j []) ms[i];omega) (qA _ _)) rfl ⟨(i+1,f3),id,⟨⟨rfl,(congrArg (fun l=>some (j3 l)) (OW S ms i hlt)),rfl,rfl,h_ az,trivial⟩,⟨rfl,rfl,trivial⟩,rfl⟩,hlt,m8⟩
   ·refine p2 ?_ (decide_eq_false (m8));obtain rfl:i=ms.length:=az
    simp only[aT];exact⟨f2,id,⟨⟨rfl,trivial⟩,⟨rfl,rfl,trivial⟩,rfl⟩,trivial⟩
  ·rintro f2 _;exact V ⟨rfl,f2,rfl,rfl⟩
 ·rw[if_neg (by rw[hk];decide)];exact GO ((qt ms hm).bt hk) rfl ⟨rfl,f,rfl,rfl⟩
end Go.Proofs.YtadildidlcbbkaaGreatDoor
namespace Go.Proofs.YtadildidlcbbkaaGreatDoor
open Go Go.GK Go.PL Go.RowKit IntKind Go.Proofs.Tryz
set_option maxRecDepth 100000
def zD{α:Type}(p:α->Bool)(l:List α)(i:Nat)(h:i<l.length):(l.take (i+1)).filter p=(l.take i).filter p++if p l[i] then [l[i]] else []:=by
 rw[bx,aC h,cH]
 congr 1
 cases hp:p l[i] <;>simp[hp]
abbrev AV(f t:Int)(x:Sm):Bool:=decide (f<=x.time/\x.time<=t)
theorem J9(l:List Sm)(f t:Int)(hl:l.length≤100000):Rt pg 77 [.sl 2 (l.map sm),gi f,gi t] (.sl 2 ((l.filter (AV f t)).map sm)):=by
 refine Rt.of gV func77 rfl ntmps77 rfl results77 call77 fun H0 S0 w0 h0 g0=>?_;refine JK.kx 7 109 2 rfl (JK.iT (α:=Nat) (β:=Unit) (fun i=>⟨[(1,gi f),(2,gi t),(10,.sl 2 (l.map sm)),(11,gi (l.map sm).length),(12,gi i),(7,.o 0)],[(0,.row 109 2 (((l.take i).filter (AV f t)).map sm))],1⟩) (fun i=>i≤l.length) (fun i=>l.length-i) (fun _=>⟨[(7,.o 0)],[(0,.row 109 2 ((l.filter (AV f t)).map sm))],1⟩) (fun _=>True) 0 id ?_ (aQ _) ?_ ?_)
 ·exact⟨⟨rfl,rfl,rfl,rfl,rfl,rfl,trivial⟩,⟨rfl,trivial⟩,rfl⟩
 ·intro i hi;refine V ?_;by_cases hlt:i<l.length
  ·have hfl:((l.take i).filter (AV f t)).length≤i:=bE (bZ _ _) (by rw[aY];omega);refine p1 (ix (h:=?_));by_cases h1:f≤l[i].time
   ·refine p1 ?_;by_cases h2:l[i].time≤t
    ·refine p1 ⟨by simp only[aD,aB,aM];omega,⟨i+1,fun _=>3,⟨⟨rfl,rfl,rfl,rfl,h_ az,rfl,trivial⟩,⟨?_,trivial⟩,rfl⟩,hlt,m8⟩⟩;rw[zD _ _ _ hlt,if_pos (decide_eq_true ⟨h1,h2⟩),aP];rfl
    ·refine p2 ⟨i+1,id,⟨⟨rfl,rfl,rfl,rfl,h_ az,rfl,trivial⟩,⟨?_,trivial⟩,rfl⟩,hlt,m8⟩;rw[zD _ _ _ hlt,if_neg (by simp[AV];omega),aZ];rfl
   ·refine p2 ⟨i+1,id,⟨⟨rfl,rfl,rfl,rfl,h_ az,rfl,trivial⟩,⟨?_,trivial⟩,rfl⟩,hlt,m8⟩;rw[zD _ _ _ hlt,if_neg (by simp[AV];omega),aZ];rfl
  ·refine p2 ?_;obtain rfl:i=l.length:=az
   rw[aT];exact⟨(),id,⟨⟨rfl,trivial⟩,⟨rfl,trivial⟩,rfl⟩,trivial⟩
 ·rintro _ _;exact ot 0 rfl ⟨rfl,rfl⟩
abbrev yS(A:List gY):List (List Lb):=A.map (·.labels)
def LS{id sz:Nat}{rows:List (List GV)}(B:List (Value×Bl)):some (hY.mp (some .i64) ((iG eb B).map λx=>(x.1,lJ id sz rows x.2)))=some (hY.mp (some .i64) (iG eb B)):=by rw[xu]
theorem Ee(s:iz)(h:zV s)(hA:Sz (iF s.B s.G))(hL:Sz (iw s))(hr:∀x∈iw s,iS x.labels=true)(ms:List Mt)(f t:Int)(hm:Qs ms)(hml:ms.length≤1000000)(hl5:(iw s).length≤50000):
  Hf pg 28 7 [.p 0 0,.sl 3 (ms.map mt),gi f,gi t] (RH s) (fun g σ n=>g=(if l8 ms=true then .tup [jn (ua (iw s) ms f t),.v .nilIface] else .tup [.v (.slice none 0 0),.ifc 54 (gi 1)])∧σ=RH s∧n=7):=by
 have hsh:∀x∈iw s,Sh x.labels∧x.labels.length≤8:=fun x hx=>by
  have h8:=lS (hr x hx);exact⟨fun y hy=>by have:=(h8.2 y hy).2;omega,h8.1⟩
 have hlen:=hL.1;refine w8 (by split<;>rfl) (Hf.of gV func28 rfl ntmps28 rfl results28 call28 fun H0 S0 w0 h0 g0=>?_);refine ig (IS s h hA) id rfl rfl ⟨rfl,rfl,iI id s.B,rfl,rfl,trivial⟩ af ay ?_;rintro _ _ _ ⟨rfl,rfl,rfl⟩;refine JK.kx 11 102 1 rfl ?_;have hsm:∀x∈iw s,x.samples.length≤3000:=fun x hx=>(hL.2 x hx).1;generalize iw s=A at*;have hll:(A.map se).length=A.length:=by simp
 refine JK.iT (α:=Nat) (β:=Unit) (fun i=>⟨[(0,.p 0 0),(1,.sl 3 (ms.map mt)),(2,gi f),(3,gi t),(10,jn A),(11,.o 7),(23,jn A),(24,gi (A.map se).length),(25,gi i)],[sB s 3 5,nC s 3 6,sM s,sG s 5,sR s 6]++[(7,.row 102 1 ((yS (A.take i)).map fun s=>[.sl 2 (s.map lb)]))],8⟩) (fun i=>i≤A.length) (fun i=>A.length-i)
  (fun _=>⟨[(0,.p 0 0),(1,.sl 3 (ms.map mt)),(2,gi f),(3,gi t),(10,jn A),(11,.o 7)],[sB s 3 5,nC s 3 6,sM s,sG s 5,sR s 6]++[(7,.row 102 1 ((yS A).map fun s=>[.sl 2 (s.map lb)]))],8⟩) (fun _=>True) 0 id ?_ (aQ _) ?_ ?_
 ·exact⟨⟨rfl,rfl,rfl,rfl,rfl,rfl,rfl,rfl,rfl,trivial⟩,⟨rfl,rfl,j6 _ id s.B,rfl,rfl,rfl,trivial⟩,aa⟩
 ·rintro i hi;replace hi:i≤A.length:=hi;refine V ?_;by_cases hlt:i<A.length
  ·refine p1 ?_ aj;refine ix (h:=?_);refine⟨by simp only[aD,aB,aM,aY];omega,?_⟩;refine⟨i+1,r1 7 10,⟨⟨rfl,rfl,rfl,rfl,rfl,rfl,rfl,rfl,h_ az,trivial⟩,⟨rfl,rfl,iI _ s.B,rfl,rfl,?_,trivial⟩,aa⟩,hlt,by show A.length- (i+1)<A.length-i;omega⟩;refine congrArg (fun x=>some (hY.row 102 1 x)) ?_;show _=((A.take (i+1)).map (·.labels)).map fun s=>[GV.sl 2 (s.map lb)];rw[bx,aC hlt,aP,aP];rfl
  ·refine p2 ?_ ai;obtain rfl:i=A.length:=by omega
   exact⟨(),id,⟨⟨rfl,rfl,rfl,rfl,rfl,rfl,trivial⟩,⟨rfl,rfl,iI _ s.B,rfl,rfl,congrArg (fun x:List gY=>some (hY.row 102 1 ((yS x).map fun s:List Lb=>[GV.sl 2 (s.map lb)]))) (aT (l:=A)),trivial⟩,aa⟩,trivial⟩
 ·rintro _ _;refine ot 7 rfl ?_;refine ig (Tv (yS A) (fun s hs=>by
   obtain⟨x,hx,rfl⟩:=ba.1 hs;exact⟨(hsh x hx).1,by have:=(hsh x hx).2;omega⟩) (by simp only[aD];omega)) id rfl rfl trivial rfl (fun _ hh=>absurd hh (cf _)) ?_
  rintro g σ n hQ;rcases hQ with ⟨hrr,fx,rfl,rfl,rfl⟩|⟨i,hi,_,hbad,_⟩
  ·repeat (first|refine p1 ?_|refine p2 ?_|refine p3 ?_|refine p4 ?_)
   have hma:=PZ (yS A) fx ms (by simp only[aD];omega) hrr hm hml;rcases tf (l8 ms) with hk|hk
   ·rw[if_pos hk]at hma⊢;refine ig hma (rr 8 9) rfl rfl ⟨rfl,rfl,trivial⟩ rfl av ?_;rintro _ _ _ ⟨fy,rfl,rfl,rfl⟩
    repeat (first|refine p1 ?_|refine p2 ?_|refine p3 ?_|refine p4 ?_)
    have hpick:=PK A ms f t;have hml2:(yS A).length=A.length:=by simp
    have hmem:∀z∈sq (yS A) ms,∃k:Nat,z=(k:Int)∧k<A.length:=fun z hz=>by
     obtain⟨k,e,hk1,_⟩:=pZ.1 hz;exact⟨k,e,by omega⟩
    have hHl:(sq (yS A) ms).length≤A.length:=by
     have:=uV (yS A).length fun i=>rE ((yS A).getD i []) ms;rw[hml2]at this;unfold sq;rw[hml2];exact this
    have hfin:(sq (yS A) ms).filterMap (rv A f t)=ua A ms f t:=by
     unfold sq;rw[hml2];exact hpick
    rw[←hfin];generalize sq (yS A) ms=Hh at hmem hHl⊢;have hHll:(jA Hh).length=Hh.length:=by simp[jA]
    refine JK.kx 17 105 2 rfl ?_;refine JK.iT (α:=Nat) (β:=Unit) (fun i=>⟨[(2,gi f),(3,gi t),(10,jn A),(17,.o 10),(52,j3 Hh),(53,gi (jA Hh).length),(54,gi i)],[sB s 3 5,nC s 3 6,sM s,sG s 5,sR s 6]++[(10,.row 105 2 (((Hh.take i).filterMap (rv A f t)).map se))],11⟩) (fun i=>i≤Hh.length) (fun i=>Hh.length-i)
     (fun _=>⟨[(17,.o 10)],[sB s 3 5,nC s 3 6,sM s,sG s 5,sR s 6]++[(10,.row 105 2 ((Hh.filterMap (rv A f t)).map se))],11⟩) (fun _=>True) 0 id ?_ (aQ _) ?_ ?_
    ·exact⟨⟨rfl,rfl,rfl,rfl,rfl,rfl,rfl,trivial⟩,⟨rfl,rfl,FB id s.B,rfl,rfl,rfl,trivial⟩,aa⟩
    ·rintro i hi;replace hi:i≤Hh.length:=hi;refine V ?_;by_cases hlt:i<Hh.length
     ·have hst:=QN (rv A f t) Hh hlt;obtain⟨k,hz,hkl⟩:=hmem Hh[i] (aR hlt);have hfl:((Hh.take i).filterMap (rv A f t)).length≤i:=bE (List.length_filterMap_le _ _) (by rw[aY];omega);have hpk:rv A f t Hh[i]=if A[k].samples.filter (zx f t)≠ [] then some ⟨A[k].labels,A[k].samples.filter (zx f t)⟩ else none:=by
       unfold rv;rw[hz,bj,aC hkl]
      have hbt:=J9 A[k].samples f t (by have:=hsm A[k] (aR hkl);omega);have hcl:=nX A[k].labels (by have:=(hsh A[k] (aR hkl)).2;omega);refine p1 ?_ aj;have hrow:(jA Hh)[i]? =some [gi (k:Int)]:=by
       show (Hh.map fun z=>[gi z])[i]? =_;rw[bg,aC hlt,hz];rfl
      refine⟨[gi (k:Int)],aN i,hrow,?_⟩;refine ix (i:=k) (hk:=hkl) (h:=?_);refine GO hbt rfl ?_;have hXl:((A[k].samples.filter (AV f t)).map sm).length=(A[k].samples.filter (AV f t)).length:=by simp
      by_cases h0:A[k].samples.filter (zx f t)=[]
      ·have h0':(A[k].samples.filter (AV f t)).length=0:=ca.2 h0;rw[hpk,if_neg (fun hh=>hh h0),Option.toList_none,aZ]at hst;refine p2 ?_ ai;refine⟨i+1,id,⟨⟨rfl,rfl,rfl,rfl,rfl,rfl,h_ az,trivial⟩,⟨rfl,rfl,iI _ s.B,rfl,rfl,?_,trivial⟩,aa⟩,hlt,by show Hh.length- (i+1)<Hh.length-i;omega⟩;exact congrArg (fun x:List gY=>some (hY.row 105 2 (x.map se))) hst.symm
      ·have h0':0<(A[k].samples.filter (AV f t)).length:=cm.2 h0;rw[hpk,if_pos h0,cU]at hst;refine p1 ?_ aj;refine ix (i:=k) (hk:=hkl) (h:=?_);refine GO hcl rfl ?_;refine⟨by simp only[aD,aB,aM];omega,?_⟩;refine⟨i+1,r1 10 12,⟨⟨rfl,rfl,rfl,rfl,rfl,rfl,h_ az,trivial⟩,⟨rfl,rfl,iI _ s.B,rfl,rfl,?_,trivial⟩,aa⟩,hlt,by show Hh.length- (i+1)<Hh.length-i;omega⟩;exact congrArg (fun x=>some (hY.row 105 2 x)) (by rw[hst,aP];rfl)
     ·refine p2 ?_ ai;obtain rfl:i=Hh.length:=by omega
      exact⟨(),id,⟨⟨rfl,trivial⟩,⟨rfl,rfl,iI _ s.B,rfl,rfl,congrArg (fun x:List Int=>some (hY.row 105 2 ((x.filterMap (rv A f t)).map se))) (aT (l:=Hh)),trivial⟩,aa⟩,trivial⟩
    ·rintro _ _;refine ot 10 rfl ?_;exact⟨rfl,rfl,rfl,LS s.B,rfl,rfl⟩
   ·rw[if_neg (by rw[hk];exact bM)]at hma⊢;refine ig hma (rr 8 9) rfl rfl ⟨rfl,rfl,trivial⟩ rfl av ?_;rintro _ _ _ ⟨fy,rfl,rfl,rfl⟩
    repeat (first|refine p1 ?_|refine p2 ?_|refine p3 ?_|refine p4 ?_)
    exact⟨rfl,rfl,rfl,LS s.B,rfl,rfl⟩
  ·exfalso;have hi':i<A.length:=by simpa using hi
   rw[gA]at hbad;have:=hr (A[i]'hi') (aR hi');rw[this]at hbad;cases hbad
def CT(l:List Lb):Rt pg 63 [.sl 2 (l.map lb)] (.b (Bd l)):=by
 refine Rt.of gV func63 rfl ntmps63 rfl results63 call63 λH0 S0 w0 h0 g0=>?_;have hll:(l.map lb).length=l.length:=aA
 unfold Bd;by_cases hl:l.length<=20
 ·refine p2 (JK.loop (α:=Nat) (λi=>⟨[(0,.sl 2 (l.map lb)),(3,gi i)],[],0⟩) (λi=>i<=l.length/\∀j,j<i->(decide (60<(l.getD j default).name.size)||decide (60<(l.getD j default).value.size))=false) (λi=>l.length-i) 0 id ?_ ⟨aQ _,λj hj=>absurd hj az⟩ ?_)
  ·exact A0z
  rintro i ⟨hi,hgood⟩;refine V ?_;by_cases hlt:i<l.length
  ·have hg:l.getD i default=l[i]:=by simp[hlt]
   have hbad:(decide (60<l[i].name.size)||decide (60<l[i].value.size))=true->(decide (l.length<=20)&& !p7 l.length (λi=>decide (60<(l.getD i default).name.size)||decide (60<(l.getD i default).value.size)))=false:=λh=>by rw[oa hlt (by rw[hg];exact h)];simp
   have hnext:(decide (60<l[i].name.size)||decide (60<l[i].value.size))=false->∀j,j<i+1->(decide (60<(l.getD j default).name.size)||decide (60<(l.getD j default).value.size))=false:=λh j hj=>by
    rcases bX.1 hj with h1|h1
    ·exact hgood j h1
    subst h1;rw[hg];exact h
   by_cases h1:60<l[i].name.size
   ·repeat (first|refine p1 ?_|refine p2 ?_|refine p3 ?_|refine p4 ?_|refine ix (h:=?_))
    exact⟨(hbad (by rw[decide_eq_true h1];rfl)).symm,rfl⟩
   by_cases h2:60<l[i].value.size
   ·repeat (first|refine p1 ?_|refine p2 ?_|refine p3 ?_|refine p4 ?_|refine ix (h:=?_))
    exact⟨(hbad (by rw[decide_eq_true h2,ff])).symm,rfl⟩
   repeat (first|refine p1 ?_|refine p2 ?_|refine p3 ?_|refine p4 ?_|refine ix (h:=?_))
   exact⟨i+1,id,⟨⟨rfl,h_ az,trivial⟩,trivial,rfl⟩,⟨hlt,hnext (by rw[decide_eq_false h1,decide_eq_false h2];rfl)⟩,m8⟩
  refine p2 (V ?_);obtain rfl:i=l.length:=az
  exact⟨by rw[nZ hgood,decide_eq_true hl];rfl,rfl⟩
 exact p1 ⟨by rw[decide_eq_false hl];rfl,rfl⟩
def uO(l:List Mt):Rt pg 6 [.sl 3 (l.map mt)] (.b (yP l)):=by
 refine Rt.of gV func6 rfl ntmps6 rfl results6 call6 λH0 S0 w0 h0 g0=>?_;have hll:(l.map mt).length=l.length:=aA
 unfold yP;by_cases hl:l.length<=20
 ·refine p2 (JK.loop (α:=Nat) (λi=>⟨[(0,.sl 3 (l.map mt)),(3,gi i)],[],0⟩) (λi=>i<=l.length/\∀j,j<i->(decide (60<(l.getD j default).name.size)||decide (60<(l.getD j default).value.size))=false) (λi=>l.length-i) 0 id ?_ ⟨aQ _,λj hj=>absurd hj az⟩ ?_)
  ·exact A0z
  rintro i ⟨hi,hgood⟩;refine V ?_;by_cases hlt:i<l.length
  ·have hg:l.getD i default=l[i]:=by simp[hlt]
   have hbad:(decide (60<l[i].name.size)||decide (60<l[i].value.size))=true->(decide (l.length<=20)&& !p7 l.length (λi=>decide (60<(l.getD i default).name.size)||decide (60<(l.getD i default).value.size)))=false:=λh=>by rw[oa hlt (by rw[hg];exact h)];simp
   have hnext:(decide (60<l[i].name.size)||decide (60<l[i].value.size))=false->∀j,j<i+1->(decide (60<(l.getD j default).name.size)||decide (60<(l.getD j default).value.size))=false:=λh j hj=>by
    rcases bX.1 hj with h1|h1
    ·exact hgood j h1
    subst h1;rw[hg];exact h
   by_cases h1:60<l[i].name.size
   ·repeat (first|refine p1 ?_|refine p2 ?_|refine p3 ?_|refine p4 ?_|refine ix (h:=?_))
    exact⟨(hbad (by rw[decide_eq_true h1];rfl)).symm,rfl⟩
   by_cases h2:60<l[i].value.size
   ·repeat (first|refine p1 ?_|refine p2 ?_|refine p3 ?_|refine p4 ?_|refine ix (h:=?_))
    exact⟨(hbad (by rw[decide_eq_true h2,ff])).symm,rfl⟩
   repeat (first|refine p1 ?_|refine p2 ?_|refine p3 ?_|refine p4 ?_|refine ix (h:=?_))
   exact⟨i+1,id,⟨⟨rfl,h_ az,trivial⟩,trivial,rfl⟩,⟨hlt,hnext (by rw[decide_eq_false h1,decide_eq_false h2];rfl)⟩,m8⟩
  refine p2 (V ?_);obtain rfl:i=l.length:=az
  exact⟨by rw[nZ hgood,decide_eq_true hl];rfl,rfl⟩
 exact p1 ⟨by rw[decide_eq_false hl];rfl,rfl⟩
def CG(a b:Sm):Bool:=a.time==b.time&&(a.value==b.value&&true)
def Fg(a b:Sm):CG a b=true↔a=b:=by
 obtain⟨a1,a2⟩:=a;obtain⟨b1,b2⟩:=b;simp[CG]
def Mm(a b:List Sm):Ct pg 44 0 [.sl 2 (a.map sm),.sl 2 (b.map sm)] [] (uj λg=>g=.b (decide (a=b))):=by
 refine Ct.len 0 rfl λhlen _=>?_;have hlen':a.length<=9223372036854775807:=by simpa[maxLen]using hlen
 refine Ct.bool (Ct.j7 gV func44 rfl ntmps44 rfl results44 λH0 S0 w0 h0 g0=>(ia gV 200 _ _ ⟨λhb=>?_,λhb=>?_⟩))
 ·refine .inl (congrArg (λc=>GV.v (.bool c)) ?_);have:a≠b:=λe=>by subst e;simp at hb
  exact (decide_eq_false this).symm
 have hl:a.length=b.length:=by simp at hb;omega
 refine JK.loop (α:=Nat) (λi=>⟨[(0,.sl 2 (a.map sm)),(1,.sl 2 (b.map sm)),(5,gi i)],[],0⟩) (λi=>i<=a.length/\∀j,j<i->a[j]? =b[j]?) (λi=>a.length-i) 0 id ?_ ⟨aQ _,λj hj=>absurd hj az⟩ ?_
 ·exact A0z
 rintro i ⟨hi,hgood⟩;refine ia gV 200 _ _ ⟨λhb=>?_,λhb=>?_⟩
 ·have hlt:i<a.length:=by simpa using hb
  have hlt':i<b.length:=az
  refine⟨au,(idx i rfl hlt (idx i rfl hlt' ⟨λhc=>?_,λhc=>?_⟩))⟩
  ·refine .inl (congrArg (λc=>GV.v (.bool c)) ?_);have hne:a≠b:=λe=>by
    subst e;have:CG a[i] a[i]=true:=(Fg _ _).2 rfl;have hc':(!CG a[i] a[i])=true:=hc;rw[this]at hc';cases hc'
   exact (decide_eq_false hne).symm
  refine⟨i+1,id,⟨⟨rfl,rfl,(by rw[ic az az];rfl),trivial⟩,trivial,rfl⟩,⟨hlt,λj hj=>?_⟩,m8⟩;rcases bX.1 hj with h1|h1
  ·exact hgood j h1
  subst h1;have hc':(!CG a[j] b[j])=false:=hc;have:a[j]=b[j]:=(Fg _ _).1 (by simpa using hc');rw[aC hlt,aC hlt',this]
 have hge:i=a.length:=by simp at hb;omega
 refine ia gV 200 _ _ (.inl (congrArg (λc=>GV.v (.bool c)) ?_));have:a=b:=cT λj=>by
  by_cases hj:j<a.length
  ·exact hgood j az
  rw[bI az,bI az]
 exact (decide_eq_true this).symm
end Go.Proofs.YtadildidlcbbkaaGreatDoor
