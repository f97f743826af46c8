/-
  Plain laws: questions: what is printed is read as just that question. No program is in sight.
-/
import Derived.Test.YtkoalgjlkcaonaaGreatDoorK08
import Derived.Test.YtkoalgjlkcaonaaGreatDoorK07
import Derived.Test.YtkoalgjlkcaonaaGreatDoorK05
import Derived.Test.YtkoalgjlkcaonaaGreatDoorK06
set_option linter.unusedSimpArgs false
namespace Go.PL
open Go Go.GK

theorem bS_size (l : List UInt8) : (bS l).size=l.length:=by show l.toArray.size=_; simp
theorem isP_yes {t : Tok} {s : ByteArray} (r : List Tok) (h : t.text=s) (hk : t.kind ≠ 3) : isP s (t :: r)=true:=by
 rw [isP,Bool.and_eq_true,decide_eq_true_iff,sEq_iff]
 exact ⟨h,hk⟩
theorem isP_no {t : Tok} {s : ByteArray} (r : List Tok) (h : t.text ≠ s) : isP s (t :: r)=false:=by
 rw [isP,Bool.and_eq_false_iff]
 left
 rw [← Bool.not_eq_true,sEq_iff]
 exact h
theorem takesP_yes {t : Tok} {s : ByteArray} (r : List Tok) (h : t.text=s) (hk : t.kind ≠ 3) (hk5 : t.kind ≠ 5) : takesP s (t :: r)=true:=by
 rw [takesP,isP_yes r h hk,Bool.true_and,decide_eq_true_iff]
 exact hk5
theorem takesP_no {t : Tok} {s : ByteArray} (r : List Tok) (h : t.text ≠ s) : takesP s (t :: r)=false:=by
 rw [takesP,isP_no r h,Bool.false_and]
theorem mustP_yes {t : Tok} {s : ByteArray} (r : List Tok) (h : t.text=s) (hk : t.kind ≠ 3) (hk5 : t.kind ≠ 5) : mustP s (t :: r)=.ok ((),r):=by
 rw [mustP,if_pos (takesP_yes r h hk hk5)]
 rfl
theorem st_mk {t : Tok} {x : Lx} (h : t.st=x.st) : t.kind=x.kind∧t.text=bS x.text:=⟨congrArg Prod.fst h,congrArg Prod.snd h⟩
def isT (t : Tok) (s : List UInt8) : Prop:=t.text=bS s∧t.kind ≠ 3∧t.kind ≠ 5
theorem isT_mL {t : Tok} {s : List UInt8} (h : t.st=(mL s).st) : isT t s:=⟨(st_mk h).2,by rw [(st_mk h).1]; exact (by decide : (4 : Int) ≠ 3),by rw [(st_mk h).1]; exact (by decide : (4 : Int) ≠ 5)⟩
theorem isT_wL {t : Tok} {s : List UInt8} (h : t.st=(wL s).st) : isT t s:=⟨(st_mk h).2,by rw [(st_mk h).1]; exact (by decide : (1 : Int) ≠ 3),by rw [(st_mk h).1]; exact (by decide : (1 : Int) ≠ 5)⟩
theorem isT.must {t : Tok} {s : List UInt8} (h : isT t s) (r : List Tok) : mustP (bS s) (t :: r)=.ok ((),r):=mustP_yes r h.1 h.2.1 h.2.2
theorem isT.takes {t : Tok} {s : List UInt8} (h : isT t s) (r : List Tok) : takesP (bS s) (t :: r)=true:=takesP_yes r h.1 h.2.1 h.2.2
theorem isT.not {t : Tok} {s w : List UInt8} (h : isT t s) (r : List Tok) (hne : s ≠ w) : takesP (bS w) (t :: r)=false:=takesP_no r (by rw [h.1]; exact fun e=>hne (bS_inj e))
theorem isT.noti {t : Tok} {s w : List UInt8} (h : isT t s) (r : List Tok) (hne : s ≠ w) : isP (bS w) (t :: r)=false:=isP_no r (by rw [h.1]; exact fun e=>hne (bS_inj e))
theorem find_yes {L : List ByteArray} (hL : ∀ i j,i < j→j < L.length→L.getD i ⟨#[]⟩ ≠ L.getD j ⟨#[]⟩) {t : Tok} (r : List Tok) {k : Nat} (hk : k < L.length) (h : t.text=L.getD k ⟨#[]⟩) (h3 : t.kind ≠ 3) :
  (L.findIdx? fun s=>isP s (t :: r))=some k:=by
 rw [List.findIdx?_eq_some_iff_getElem]
 have e : ∀ i (hi : i < L.length),L.getD i ⟨#[]⟩=L[i]:=fun i hi=>by rw [List.getD_eq_getElem?_getD,List.getElem?_eq_getElem hi]; rfl
 refine ⟨hk,isP_yes r (by rw [h,e k hk]) h3,fun j hj=>?_⟩
 rw [isP_no r (by rw [h,← e j (by omega)]; exact (hL j k hj hk).symm)]
 exact Bool.false_ne_true
theorem find_no {L : List ByteArray} {t : Tok} (r : List Tok) (h : ∀ s ∈ L,t.text ≠ s) : (L.findIdx? fun s=>isP s (t :: r))=none:=by
 rw [List.findIdx?_eq_none_iff]
 exact fun s hs=>isP_no r (h s hs)
theorem ops_ne : ∀ i j,i < j→j < opsL.length→opsL.getD i ⟨#[]⟩ ≠ opsL.getD j ⟨#[]⟩:=by
 intro i j h1 h2
 have : j < 4:=h2
 have hh : ∀ j : Fin 4,∀ i : Fin 4,i.val < j.val→opsL.getD i.val ⟨#[]⟩ ≠ opsL.getD j.val ⟨#[]⟩:=by decide
 exact hh ⟨j,by omega⟩ ⟨i,by omega⟩ h1
theorem overs_ne : ∀ i j,i < j→j < oversL.length→oversL.getD i ⟨#[]⟩ ≠ oversL.getD j ⟨#[]⟩:=by
 intro i j h1 h2
 have : j < 5:=h2
 have hh : ∀ j : Fin 5,∀ i : Fin 5,i.val < j.val→oversL.getD i.val ⟨#[]⟩ ≠ oversL.getD j.val ⟨#[]⟩:=by decide
 exact hh ⟨j,by omega⟩ ⟨i,by omega⟩ h1
theorem alls_ne : ∀ i j,i < j→j < allsL.length→allsL.getD i ⟨#[]⟩ ≠ allsL.getD j ⟨#[]⟩:=by
 intro i j h1 h2
 have : j < 4:=h2
 have hh : ∀ j : Fin 4,∀ i : Fin 4,i.val < j.val→allsL.getD i.val ⟨#[]⟩ ≠ allsL.getD j.val ⟨#[]⟩:=by decide
 exact hh ⟨j,by omega⟩ ⟨i,by omega⟩ h1
theorem alls_overs {k : Nat} (hk : k < 4) : ∀ s ∈ oversL,allsL.getD k ⟨#[]⟩ ≠ s:=by
 have hh : ∀ k : Fin 4,∀ s ∈ oversL,allsL.getD k.val ⟨#[]⟩ ≠ s:=by decide
 exact hh ⟨k,hk⟩
theorem overs_mark {k : Nat} (hk : k < 5) : ∀ b : UInt8,bL (oversL.getD k ⟨#[]⟩) ≠ [b]:=by
 intro b
 have hh : ∀ k : Fin 5,(bL (oversL.getD k.val ⟨#[]⟩)).length ≠ 1:=by decide
 exact fun e=>hh ⟨k,hk⟩ (by rw [e]; rfl)
theorem alls_mark {k : Nat} (hk : k < 4) : ∀ b : UInt8,bL (allsL.getD k ⟨#[]⟩) ≠ [b]:=by
 intro b
 have hh : ∀ k : Fin 4,(bL (allsL.getD k.val ⟨#[]⟩)).length ≠ 1:=by decide
 exact fun e=>hh ⟨k,hk⟩ (by rw [e]; rfl)

theorem itoa_dig {n : Int} (h : 0≤n) : (∀ b ∈ Lib.itoa n,digB b=true)∧Lib.itoa n ≠ []:=by
 rw [Lib.itoa,if_neg (by omega)]
 generalize n.toNat=u
 induction u using Nat.strongRecOn with
 | _ u ih =>
  have hd : ∀ d,d < 10→digB (UInt8.ofNat (48 + d))=true:=by
   intro d hd
   have hh : ∀ d : Fin 10,digB (UInt8.ofNat (48 + d.val))=true:=by decide
   exact hh ⟨d,hd⟩
  rw [Lib.decDigits]
  by_cases h : u < 10
  ·rw [dif_pos h]
   exact ⟨fun b hb=>by rw [List.mem_singleton.1 hb]; exact hd u h,by simp⟩
  ·rw [dif_neg h]
   refine ⟨fun b hb=>?_,by simp⟩
   rcases List.mem_append.1 hb with hb | hb
   ·exact (ih (u / 10) (by omega)).1 b hb
   ·rw [List.mem_singleton.1 hb]
    exact hd _ (Nat.mod_lt _ (by decide))
theorem numT_itoa {n : Int} (h : 0≤n) : numT (bS (Lib.itoa n))=n:=by
 unfold numT
 rw [show (bS (Lib.itoa n)).data.toList=Lib.itoa n from bL_bS _,Lib.itoa,if_neg (by omega)]
 have : ∀ u : Nat,(Lib.decDigits u).foldl (fun (n : Int) c=>n * 10 + ((c.toNat : Int) - 48)) 0=u:=by
  intro u
  induction u using Nat.strongRecOn with
  | _ u ih =>
   have hd : ∀ d,d < 10→((UInt8.ofNat (48 + d)).toNat : Int) - 48=d:=by
    intro d hd
    have hh : ∀ d : Fin 10,((UInt8.ofNat (48 + d.val)).toNat : Int) - 48=d.val:=by decide
    exact hh ⟨d,hd⟩
   rw [Lib.decDigits]
   by_cases h : u < 10
   ·rw [dif_pos h,List.foldl_cons,List.foldl_nil,hd u h]
    omega
   ·rw [dif_neg h,List.foldl_append,ih (u / 10) (by omega),List.foldl_cons,List.foldl_nil,hd _ (Nat.mod_lt _ (by decide))]
    omega
 rw [this]
 omega
theorem numberP_yes {t : Tok} (r : List Tok) {n most : Int} (h0 : 0≤n) (h1 : n≤most) (h : t.st=(dL (Lib.itoa n)).st) : numberP most (t :: r)=.ok (n,r):=by
 obtain ⟨hk,ht⟩:=st_mk h
 have hk : t.kind=2:=hk
 have ht : t.text=bS (Lib.itoa n):=ht
 have hn : numT (hdT (t :: r)).text=n:=by
  show numT t.text=n
  rw [ht,numT_itoa h0]
 rw [numberP,hn,if_neg (by rintro ⟨_,h⟩; omega)]
 have : anyP 2 (t :: r)=.ok (t.text,r):=if_pos hk
 rw [this]
 show Except.ok (numT t.text,r)=_
 rw [show numT t.text=n from hn]
theorem nameP_yes {t : Tok} (r : List Tok) {s : ByteArray} (hs : nameF s=true) (h : t.st=(wL (bL s)).st) : nameP (t :: r)=.ok (s,r):=by
 obtain ⟨hk,ht⟩:=st_mk h
 have hk : t.kind=1:=hk
 have ht : t.text=s:=by rw [ht]; exact bS_bL s
 have h1 : nameP (t :: r)=anyP 1 (t :: r):=if_neg (by rintro ⟨_,h⟩; rw [show (hdT (t :: r)).text=s from ht,hs] at h; cases h)
 have h2 : anyP 1 (t :: r)=.ok (t.text,r):=if_pos hk
 rw [h1,h2,ht]

theorem matcherP_yes {m : Mt} (hm : MOk m) (T rest : List Tok) (hT : T.map Tok.st=(mtX m).map Lx.st) : matcherP (T++rest)=.ok (m,rest):=by
 obtain ⟨t1,T,rfl,h1,hT⟩:=List.map_eq_cons_iff.1 hT
 obtain ⟨t2,T,rfl,h2,hT⟩:=List.map_eq_cons_iff.1 hT
 obtain ⟨t3,T,rfl,h3,hT⟩:=List.map_eq_cons_iff.1 hT
 rw [List.map_nil,List.map_eq_nil_iff] at hT
 subst hT
 obtain ⟨g1,g2,g3,g4⟩:=hm
 have hk : m.op.toNat < opsL.length:=by rw [opsL_four]; omega
 have i2:=isT_mL h2
 have e2 : t2.text=opsL.getD m.op.toNat ⟨#[]⟩:=by rw [i2.1,bS_bL]
 rw [show [t1,t2,t3]++rest=t1 :: t2 :: t3 :: rest from rfl,matcherP,nameP_yes _ g1 h1]
 simp only
 rw [find_yes ops_ne _ hk e2 i2.2.1]
 simp only
 rw [mustP_yes _ e2 i2.2.1 i2.2.2]
 simp only
 obtain ⟨k3,x3⟩:=st_mk h3
 have k3 : t3.kind=3:=k3
 have x3 : t3.text=bS (34 :: bL m.value++[34]):=x3
 have h4 : anyP 3 (t3 :: rest)=.ok (t3.text,rest):=if_pos k3
 rw [h4]
 simp only
 have h5 : t3.text.extract 1 (t3.text.size - 1)=m.value:=by
  rw [x3,bS_size]
  apply ByteArray.ext
  apply Array.ext'
  rw [ByteArray.data_extract,Array.toList_extract]
  show List.extract (34 :: bL m.value++[34]) _ _=_
  simp [bL]
 rw [h5,if_pos g2]
 obtain ⟨n,o,v⟩:=m
 have : ((o.toNat : Nat) : Int)=o:=by simp only at g3; omega
 simp only [this]
theorem sepX_flat (y : Lx) (x : List Lx) (r : List (List Lx)) : sepX y (x :: r)=x++r.flatMap (y :: ·):=by
 induction r generalizing x with
 | nil=>simp [sepX]
 | cons b r ih =>
  have : sepX y (x :: b :: r)=x++y :: sepX y (b :: r):=rfl
  rw [this,ih]
  simp
theorem app_map {T : List Tok} {a b : List Lx} (h : T.map Tok.st=(a++b).map Lx.st) : ∃ T1 T2,T=T1++T2∧T1.map Tok.st=a.map Lx.st∧T2.map Tok.st=b.map Lx.st:=by
 rw [List.map_append] at h
 obtain ⟨T1,T2,h1,h2,h3⟩:=List.map_eq_append_iff.1 h
 exact ⟨T1,T2,h1,h2,h3⟩
theorem cons_map {T : List Tok} {a : Lx} {b : List Lx} (h : T.map Tok.st=(a :: b).map Lx.st) : ∃ t T2,T=t :: T2∧t.st=a.st∧T2.map Tok.st=b.map Lx.st:=by
 obtain ⟨t,T2,h1,h2,h3⟩:=List.map_eq_cons_iff.1 h
 exact ⟨t,T2,h1,h2,h3⟩
theorem nil_map {T : List Tok} (h : T.map Tok.st=([] : List Lx).map Lx.st) : T=[]:=List.map_eq_nil_iff.1 h
theorem len_map {T : List Tok} {X : List Lx} (h : T.map Tok.st=X.map Lx.st) : T.length=X.length:=by
 have:=congrArg List.length h
 simpa using this
theorem matchersL_more : ∀ (ms acc : List Mt) (f : Nat) (T rest : List Tok),(∀ m ∈ ms,MOk m)→acc ≠ []→acc.length + ms.length≤8→ms.length < f→T.map Tok.st=((ms.map mtX).flatMap (mL [44] :: ·)++[mL [125]]).map Lx.st →
  matchersL f acc (T++rest)=.ok (acc++ms,rest)
 | ms,acc,0,_,_,_,_,_,hf,_=>by omega
 | [],acc,f + 1,T,rest,_,_,_,_,hT=>by
  obtain ⟨t,T,rfl,h1,hT⟩:=cons_map hT
  cases nil_map hT
  rw [show [t]++rest=t :: rest from rfl,matchersL,if_pos ((isT_mL h1).takes rest),List.append_nil]
  rfl
 | m :: ms,acc,f + 1,T,rest,hm,ha,hl,hf,hT=>by
  have ha0 : acc.length ≠ 0:=by cases acc with | nil=>exact absurd rfl ha | cons a b=>simp
  rw [List.map_cons,List.flatMap_cons,List.append_assoc] at hT
  obtain ⟨t,T,rfl,h1,hT⟩:=cons_map hT
  obtain ⟨T1,T2,rfl,hT1,hT2⟩:=app_map hT
  rw [show t :: (T1++T2)++rest=t :: (T1++T2++rest) from rfl,matchersL,if_neg (by rw [(isT_mL h1).not _ (by decide)]; exact Bool.false_ne_true),if_neg ha0,(isT_mL h1).must]
  simp only [List.length_cons] at hl hf ⊢
  rw [if_neg (by omega),List.append_assoc,matcherP_yes (hm m List.mem_cons_self) T1 _ hT1]
  simp only
  rw [matchersL_more ms (acc++[m]) f T2 rest (fun x hx=>hm x (List.mem_cons_of_mem _ hx)) (by simp) (by simp; omega) (by omega) hT2]
  simp
theorem flat_len : ∀ ms : List Mt,ms.length≤((ms.map mtX).flatMap (mL [44] :: ·)).length
 | []=>Nat.le_refl _
 | a :: b=>by
  have:=flat_len b
  rw [List.map_cons,List.flatMap_cons,List.length_append,List.length_cons,List.length_cons]
  omega
theorem matchersP_yes {ms : List Mt} (hm : MsOk ms) (T rest : List Tok) (hT : T.map Tok.st=(msX ms).map Lx.st) : matchersP (T++rest)=.ok (ms,rest):=by
 obtain ⟨t,T,rfl,h1,hT⟩:=cons_map hT
 have hlen:=len_map hT
 rw [show t :: T++rest=t :: (T++rest) from rfl,matchersP,(isT_mL h1).must]
 simp only
 cases ms with
 | nil =>
  obtain ⟨t2,T,rfl,h2,hT⟩:=cons_map hT
  cases nil_map hT
  rw [show [t2]++rest=t2 :: rest from rfl,matchersL,if_pos ((isT_mL h2).takes rest)]
  rfl
 | cons m ms =>
  rw [List.map_cons,sepX_flat,List.append_assoc] at hT hlen
  obtain ⟨T1,T2,rfl,hT1,hT2⟩:=app_map hT
  have hT1':=hT1
  obtain ⟨t1,T1',e,h2,_⟩:=cons_map hT1
  rw [matchersL]
  have hnt : takesP (bS [125]) (T1++T2++rest)=false:=by
   subst e
   show takesP (bS [125]) (t1 :: _)=false
   refine takesP_no _ ?_
   obtain ⟨_,hx⟩:=st_mk h2
   rw [hx]
   intro e
   have hn:=(hm.1 m List.mem_cons_self).1
   have e:=bS_inj e
   have e : bL m.name=[125]:=e
   have : m.name=bS [125]:=by rw [← e,bS_bL]
   rw [this] at hn
   revert hn
   decide
  rw [if_neg (by rw [hnt]; exact Bool.false_ne_true)]
  rw [List.append_assoc]
  simp only [List.length_nil,if_true]
  rw [if_neg (by omega),matcherP_yes (hm.1 m List.mem_cons_self) T1 _ hT1']
  simp only
  have hf:=flat_len ms
  have hh:=hm.2
  simp only [List.length_cons] at hh
  show matchersL _ [m] (T2++rest)=_
  rw [matchersL_more ms [m] _ T2 rest (fun x hx=>hm.1 x (List.mem_cons_of_mem _ hx)) (by simp) (by simp; omega) (by
   have:=len_map hT2
   simp only [List.length_append,List.length_cons] at this ⊢
   omega) hT2]
  rfl
theorem namesL_yes : ∀ (b acc : List ByteArray) (f : Nat) (T rest : List Tok),b ≠ []→(∀ s ∈ b,nameF s=true)→acc.length + b.length≤8→b.length≤f→T.map Tok.st=(byX b).map Lx.st→takesP (bS [44]) rest=false →
  namesL f acc (T++rest)=.ok (acc++b,rest)
 | [],_,_,_,_,hb,_,_,_,_,_=>absurd rfl hb
 | s :: b,acc,0,_,_,_,_,_,hf,_,_=>by simp at hf
 | [s],acc,f + 1,T,rest,_,hs,hl,_,hT,hr=>by
  obtain ⟨t,T,rfl,h1,hT⟩:=cons_map hT
  cases nil_map hT
  simp only [List.length_cons,List.length_nil] at hl
  rw [show [t]++rest=t :: rest from rfl,namesL,if_neg (by omega),nameP_yes rest (hs s List.mem_cons_self) h1]
  simp only
  rw [if_neg (by rw [hr]; exact Bool.false_ne_true)]
 | s :: s2 :: b,acc,f + 1,T,rest,_,hs,hl,hf,hT,hr=>by
  have : byX (s :: s2 :: b)=wL (bL s) :: ⟨0,[44],4,1⟩ :: byX (s2 :: b):=rfl
  rw [this] at hT
  obtain ⟨t,T,rfl,h1,hT⟩:=cons_map hT
  obtain ⟨t2,T,rfl,h2,hT⟩:=cons_map hT
  simp only [List.length_cons] at hl hf
  rw [show t :: t2 :: T++rest=t :: t2 :: (T++rest) from rfl,namesL,if_neg (by omega),nameP_yes _ (hs s List.mem_cons_self) h1]
  simp only
  have i2 : isT t2 [44]:=isT_mL h2
  rw [if_pos (i2.takes _)]
  show namesL f (acc++[s]) (T++rest)=_
  rw [namesL_yes (s2 :: b) (acc++[s]) f T rest (by simp) (fun x hx=>hs x (List.mem_cons_of_mem _ hx)) (by simp only [List.length_append,List.length_cons,List.length_nil]; omega) (by simp only [List.length_cons]; omega) hT hr]
  simp

def R2 (l : List Tok) : Prop:=takesP (bS [98,121]) l=false
def R1 (l : List Tok) : Prop:=R2 l∧takesP (bS [42]) l=false∧takesP (bS [47]) l=false
def R0 (l : List Tok) : Prop:=R1 l∧takesP (bS [43]) l=false∧takesP (bS [45]) l=false
theorem isT.r2 {t : Tok} {b : UInt8} (h : isT t [b]) (r : List Tok) : R2 (t :: r):=h.not r (by simp)
theorem isT.r1 {t : Tok} {b : UInt8} (h : isT t [b]) (r : List Tok) (h1 : b ≠ 42) (h2 : b ≠ 47) : R1 (t :: r):=⟨h.r2 r,h.not r (by simpa using h1),h.not r (by simpa using h2)⟩
theorem isT.r0 {t : Tok} {b : UInt8} (h : isT t [b]) (r : List Tok) (h1 : b ≠ 42) (h2 : b ≠ 47) (h3 : b ≠ 43) (h4 : b ≠ 45) : R0 (t :: r):=⟨h.r1 r h1 h2,h.not r (by simpa using h3),h.not r (by simpa using h4)⟩
def k1 : Qn→Nat
 | .nil=>0
 | .mk c _ _ _ _ l _=>if lvl c=1 then k1 l + 1 else 0
def k0 : Qn→Nat
 | .nil=>0
 | .mk c _ _ _ _ l _=>if lvl c=0 then k0 l + 1 else 0
def C1 (q : Qn) : Prop:=∀ f n T rest,3 * (atX q 2).length≤f→n + dep q 2≤8→T.map Tok.st=(atX q 2).map Lx.st→R2 rest→oneP f n (T++rest)=.ok (q,rest)
def C2 (q : Qn) : Prop:=∀ f n T rest,3 * (atX q 1).length + 1≤f→n + dep q 1≤8→T.map Tok.st=(atX q 1).map Lx.st→R2 rest→productP f n (T++rest)=productL (f - 1 - k1 q) n q rest
def C3 (q : Qn) : Prop:=∀ f n T rest,3 * (atX q 0).length + 2≤f→n + dep q 0≤8→T.map Tok.st=(atX q 0).map Lx.st→R1 rest→sumP f n (T++rest)=sumL (f - 1 - k0 q) n q rest
theorem productL_end {f n : Nat} {q : Qn} {l : List Tok} (hf : 1≤f) (h : R1 l) : productL f n q l=.ok (q,l):=by
 cases f with
 | zero=>omega
 | succ f=>rw [productL,if_neg (by rw [h.2.1]; exact Bool.false_ne_true),if_neg (by rw [h.2.2]; exact Bool.false_ne_true)]
theorem sumL_end {f n : Nat} {q : Qn} {l : List Tok} (hf : 1≤f) (h : R0 l) : sumL f n q l=.ok (q,l):=by
 cases f with
 | zero=>omega
 | succ f=>rw [sumL,if_neg (by rw [h.2.1]; exact Bool.false_ne_true),if_neg (by rw [h.2.2]; exact Bool.false_ne_true)]
theorem k_le {q : Qn} (hq : Wf q) : k1 q≤(atX q 1).length∧k0 q≤(atX q 0).length∧1≤(atX q 0).length:=by
 induction hq with
 | num n h0 h1=>simp [k1,k0,lvl,atX_num]
 | pick m h=>simp [k1,k0,lvl,atX_pick,msX]
 | over k hk m h sp h1 h2 =>
  have : lvl (3 + k)=2:=by rw [lvl,if_neg (by omega),if_neg (by omega)]
  rw [atX_over k hk _ _ _ (by decide),atX_over k hk _ _ _ (by decide),k1,k0,this]
  simp
 | all k hk b hb hl q hq ih =>
  have : lvl (8 + k)=2:=by rw [lvl,if_neg (by omega),if_neg (by omega)]
  rw [atX_all k hk _ _ _ (by decide),atX_all k hk _ _ _ (by decide),k1,k0,this]
  simp
 | neg q hq ih =>
  rw [atX_neg _ _ (by decide),atX_neg _ _ (by decide),k1,k0,show lvl 12=2 from rfl]
  simp
 | add k hk l r hl hr ih1 ih2 =>
  rw [atX_add k hk,atX_add k hk,k1,k0,lvl_add k hk]
  simp [ifP]
  omega
 | mul k hk l r hl hr ih1 ih2 =>
  rw [atX_mul k hk,atX_mul k hk,k1,k0,lvl_mul k hk]
  simp [ifP]
  omega
theorem par_map {T : List Tok} {x : List Lx} (h : T.map Tok.st=(parX x).map Lx.st) : ∃ a T1 b,T=a :: (T1++[b])∧isT a [40]∧isT b [41]∧T1.map Tok.st=x.map Lx.st:=by
 obtain ⟨a,T,rfl,h1,hT⟩:=cons_map h
 obtain ⟨T1,T2,rfl,hT1,hT2⟩:=app_map hT
 obtain ⟨b,T3,rfl,h2,hT3⟩:=cons_map hT2
 cases nil_map hT3
 exact ⟨a,T1,b,rfl,isT_mL h1,isT_mL h2,hT1⟩
theorem C3.sum {q : Qn} (h : C3 q) (hq : Wf q) {f n : Nat} {T rest : List Tok} (hf : 3 * (atX q 0).length + 2≤f) (hd : n + dep q 0≤8) (hT : T.map Tok.st=(atX q 0).map Lx.st) (hr : R0 rest) : sumP f n (T++rest)=.ok (q,rest):=by
 obtain ⟨_,g2,g3⟩:=k_le hq
 rw [h f n T rest hf hd hT hr.1]
 exact sumL_end (by omega) hr
theorem C2.prod {q : Qn} (h : C2 q) (hq : Wf q) {f n : Nat} {T rest : List Tok} (hf : 3 * (atX q 1).length + 1≤f) (hd : n + dep q 1≤8) (hT : T.map Tok.st=(atX q 1).map Lx.st) (hr : R1 rest) : productP f n (T++rest)=.ok (q,rest):=by
 obtain ⟨g1,g2,g3⟩:=k_le hq
 have : 1≤(atX q 1).length:=by
  have:=(at_le q 0 1 (by decide)).2 1000
  rcases h0 : atX q 1 with _ | ⟨a,b⟩
  ·rw [h0] at this
   rcases h1 : atX q 0 with _ | ⟨c,d⟩
   ·rw [h1] at g3; simp at g3
   ·rw [h1,wx_cons,wx_nil] at this; omega
  ·simp
 rw [h f n T rest hf hd hT hr.1]
 exact productL_end (by omega) hr
theorem C1_par {q : Qn} (hq : Wf q) (h3 : C3 q) (hx : atX q 2=parX (atX q 0)) (hd2 : dep q 2=1 + dep q 0) : C1 q:=by
 intro f n T rest hf hd hT hr
 rw [hx] at hT hf
 obtain ⟨a,T1,b,rfl,ha,hb,hT1⟩:=par_map hT
 rw [hd2] at hd
 simp only [parX,List.length_cons,List.length_append,List.length_nil] at hf
 cases f with
 | zero=>omega
 | succ f =>
  have e0 : a :: (T1++[b])++rest=a :: (T1++(b :: rest)):=by simp
  rw [e0,oneP,if_neg (by omega)]
  rw [if_neg (by rw [ha.not _ (by decide)]; exact Bool.false_ne_true)]
  rw [if_pos (ha.takes _),List.tail_cons]
  rw [h3.sum hq (by omega) (by omega) hT1 (hb.r0 _ (by decide) (by decide) (by decide) (by decide))]
  simp only
  rw [hb.must]
theorem C2_of {q : Qn} (h1 : C1 q) (hx : atX q 1=atX q 2) (hd1 : dep q 1=dep q 2) (hk : k1 q=0) : C2 q:=by
 intro f n T rest hf hd hT hr
 rw [hx] at hf hT
 rw [hd1] at hd
 cases f with
 | zero=>omega
 | succ f =>
  rw [productP,h1 f n T rest (by omega) hd hT hr,hk]
  rfl
theorem C3_of {q : Qn} (hq : Wf q) (h2 : C2 q) (hx : atX q 0=atX q 1) (hd1 : dep q 0=dep q 1) (hk : k0 q=0) : C3 q:=by
 intro f n T rest hf hd hT hr
 rw [hx] at hf hT
 rw [hd1] at hd
 cases f with
 | zero=>omega
 | succ f =>
  rw [sumP,h2.prod hq (by omega) hd hT hr,hk]
  rfl
theorem C3_bin {c : Int} {b : UInt8} (hc : BinC c [b] 0) {l r : Qn} (hl : Wf l) (hr : Wf r) (h3 : C3 l) (h2 : C2 r) (hk : k0 (.mk c 0 [] 0 [] l r)=k0 l + 1)
  (hs : ∀ f n q t rest,isT t [b]→sumL (f + 1) n q (t :: rest)=match productP f n rest with | .error e=>(.error e : PRes Qn) | .ok (r,l)=>sumL f n (.mk c 0 [] 0 [] q r) l) (hb1 : b ≠ 42) (hb2 : b ≠ 47) : C3 (.mk c 0 [] 0 [] l r):=by
 intro f n T rest hf hd hT hR
 rw [hc.at_] at hT hf
 rw [hc.dep] at hd
 simp only [Nat.reduceAdd] at hT hf hd
 obtain ⟨T1,T2,rfl,hT1,hT2⟩:=app_map hT
 obtain ⟨t,T2,rfl,ht,hT2⟩:=cons_map hT2
 have it : isT t [b]:=by
  obtain ⟨e1,e2⟩:=st_mk ht
  exact ⟨by rw [e2]; show bS (symX c)=_; rw [hc.sy],by rw [e1]; show (4 : Int) ≠ 3; decide,by rw [e1]; show (4 : Int) ≠ 5; decide⟩
 simp only [List.length_append,List.length_cons] at hf
 obtain ⟨_,g2,_⟩:=k_le hl
 rw [List.append_assoc,List.cons_append,h3 f n T1 _ (by omega) (by omega) hT1 (it.r1 _ hb1 hb2)]
 obtain ⟨g,hg⟩ : ∃ g,f - 1 - k0 l=g + 1:=⟨f - 2 - k0 l,by omega⟩
 rw [hg]
 show sumL (g + 1) n l (t :: (T2++rest))=_
 rw [hs g n l t _ it,h2.prod hr (by omega) (by omega) hT2 hR,hk]
 have : f - 1 - (k0 l + 1)=g:=by omega
 rw [this]
theorem C2_bin {c : Int} {b : UInt8} (hc : BinC c [b] 1) {l r : Qn} (hl : Wf l) (h2 : C2 l) (h1 : C1 r) (hk : k1 (.mk c 0 [] 0 [] l r)=k1 l + 1)
  (hs : ∀ f n q t rest,isT t [b]→productL (f + 1) n q (t :: rest)=match oneP f n rest with | .error e=>(.error e : PRes Qn) | .ok (r,l)=>productL f n (.mk c 0 [] 0 [] q r) l) : C2 (.mk c 0 [] 0 [] l r):=by
 intro f n T rest hf hd hT hR
 rw [hc.at_] at hT hf
 rw [hc.dep] at hd
 simp only [Nat.reduceAdd] at hT hf hd
 obtain ⟨T1,T2,rfl,hT1,hT2⟩:=app_map hT
 obtain ⟨t,T2,rfl,ht,hT2⟩:=cons_map hT2
 have it : isT t [b]:=by
  obtain ⟨e1,e2⟩:=st_mk ht
  exact ⟨by rw [e2]; show bS (symX c)=_; rw [hc.sy],by rw [e1]; show (4 : Int) ≠ 3; decide,by rw [e1]; show (4 : Int) ≠ 5; decide⟩
 simp only [List.length_append,List.length_cons] at hf
 obtain ⟨g1,_,_⟩:=k_le hl
 rw [List.append_assoc,List.cons_append,h2 f n T1 _ (by omega) (by omega) hT1 (it.r2 _)]
 obtain ⟨g,hg⟩ : ∃ g,f - 1 - k1 l=g + 1:=⟨f - 2 - k1 l,by omega⟩
 rw [hg]
 show productL (g + 1) n l (t :: (T2++rest))=_
 rw [hs g n l t _ it,h1 g n T2 rest (by omega) (by omega) hT2 hR,hk]
 have : f - 1 - (k1 l + 1)=g:=by omega
 rw [this]
theorem sumL_13 : ∀ f n q t rest,isT t [43]→sumL (f + 1) n q (t :: rest)=match productP f n rest with | .error e=>(.error e : PRes Qn) | .ok (r,l)=>sumL f n (.mk 13 0 [] 0 [] q r) l:=fun f n q t rest h=>by
 rw [sumL,if_pos (h.takes _)]; rfl
theorem sumL_14 : ∀ f n q t rest,isT t [45]→sumL (f + 1) n q (t :: rest)=match productP f n rest with | .error e=>(.error e : PRes Qn) | .ok (r,l)=>sumL f n (.mk 14 0 [] 0 [] q r) l:=fun f n q t rest h=>by
 rw [sumL,if_neg (by rw [h.not _ (by decide)]; exact Bool.false_ne_true),if_pos (h.takes _)]; rfl
theorem prodL_15 : ∀ f n q t rest,isT t [42]→productL (f + 1) n q (t :: rest)=match oneP f n rest with | .error e=>(.error e : PRes Qn) | .ok (r,l)=>productL f n (.mk 15 0 [] 0 [] q r) l:=fun f n q t rest h=>by
 rw [productL,if_pos (h.takes _)]; rfl
theorem prodL_16 : ∀ f n q t rest,isT t [47]→productL (f + 1) n q (t :: rest)=match oneP f n rest with | .error e=>(.error e : PRes Qn) | .ok (r,l)=>productL f n (.mk 16 0 [] 0 [] q r) l:=fun f n q t rest h=>by
 rw [productL,if_neg (by rw [h.not _ (by decide)]; exact Bool.false_ne_true),if_pos (h.takes _)]; rfl
theorem C1_num (n : Int) (h0 : 0≤n) (h1 : n < 1000000000000000000) : C1 (.mk 1 n [] 0 [] .nil .nil):=by
 intro f k T rest hf hd hT hr
 rw [atX_num _ _ (Nat.le_refl _)] at hT hf
 obtain ⟨t,T,rfl,ht,hT⟩:=cons_map hT
 cases nil_map hT
 obtain ⟨hk,hx⟩:=st_mk ht
 have hk : t.kind=2:=hk
 have hx : t.text=bS (Lib.itoa n):=hx
 have hne : ∀ b : UInt8,digB b=false→t.text ≠ bS [b]:=by
  intro b hb e
  rw [hx] at e
  have:=(itoa_dig h0).1 b (by rw [bS_inj e]; exact List.mem_cons_self)
  rw [hb] at this
  cases this
 simp only [List.length_cons,List.length_nil] at hf
 cases f with
 | zero=>omega
 | succ f =>
  rw [dep_num _ _ (Nat.le_refl _)] at hd
  rw [show [t]++rest=t :: rest from rfl,oneP,if_neg (by omega)]
  rw [if_neg (by rw [takesP_no rest (hne 45 (by decide))]; exact Bool.false_ne_true)]
  rw [if_neg (by rw [takesP_no rest (hne 40 (by decide))]; exact Bool.false_ne_true)]
  rw [if_pos (show (hdT (t :: rest)).kind=2 from hk)]
  rw [numberP_yes rest h0 (by omega) ht]
theorem C1_pick (m : List Mt) (hm : MsOk m) : C1 (.mk 2 0 m 300 [] .nil .nil):=by
 intro f k T rest hf hd hT hr
 rw [atX_pick _ _ (Nat.le_refl _)] at hT hf
 obtain ⟨t,T',e,ht,_⟩:=cons_map hT
 have it:=isT_mL ht
 rw [dep_pick _ _ (Nat.le_refl _)] at hd
 simp only [msX,List.length_cons] at hf
 cases f with
 | zero=>omega
 | succ f =>
  rw [oneP,if_neg (by omega),matchersP_yes hm T rest hT]
  subst e
  rw [List.cons_append]
  rw [if_neg (by rw [it.not _ (by decide)]; exact Bool.false_ne_true)]
  rw [if_neg (by rw [it.not _ (by decide)]; exact Bool.false_ne_true)]
  rw [if_neg (by show ¬ t.kind=2; rw [(st_mk ht).1]; exact (by decide : (4 : Int) ≠ 2))]
  rw [if_pos (isP_yes _ it.1 it.2.1)]
theorem C1_over (k : Nat) (hk : k < 5) (m : List Mt) (hm : MsOk m) (sp : Int) (h1 : 1≤sp) (h2 : sp≤1099511627776) : C1 (.mk (3 + k) 0 m sp [] .nil .nil):=by
 intro f n T rest hf hd hT hr
 rw [atX_over k hk _ _ _ (Nat.le_refl _)] at hT hf
 obtain ⟨t,T,rfl,ht,hT⟩:=cons_map hT
 have it:=isT_wL ht
 obtain ⟨a,T1,b,rfl,ha,hb,hT1⟩:=par_map hT
 obtain ⟨T1,T2,rfl,hT1,hT2⟩:=app_map (a:=msX m) hT1
 obtain ⟨t3,T2,rfl,ht3,hT2⟩:=cons_map hT2
 obtain ⟨t4,T2,rfl,ht4,hT2⟩:=cons_map hT2
 obtain ⟨t5,T2,rfl,ht5,hT2⟩:=cons_map hT2
 cases nil_map hT2
 rw [dep_over k hk _ _ _ (Nat.le_refl _)] at hd
 simp only [List.length_cons] at hf
 cases f with
 | zero=>omega
 | succ f =>
  have hm1:=overs_mark hk
  have et : t.text=oversL.getD k ⟨#[]⟩:=by rw [it.1,bS_bL]
  have e0 : t :: a :: (T1++[t3,t4,t5]++[b])++rest=t :: a :: (T1++(t3 :: t4 :: t5 :: b :: rest)):=by simp
  rw [e0,oneP,if_neg (by omega)]
  rw [if_neg (by rw [it.not _ (hm1 _)]; exact Bool.false_ne_true)]
  rw [if_neg (by rw [it.not _ (hm1 _)]; exact Bool.false_ne_true)]
  rw [if_neg (by show ¬ t.kind=2; rw [(st_mk ht).1]; exact (by decide : (1 : Int) ≠ 2))]
  rw [if_neg (by rw [it.noti _ (hm1 _)]; exact Bool.false_ne_true)]
  rw [find_yes overs_ne _ (by rw [overs_len]; exact hk) et it.2.1]
  simp only
  rw [mustP_yes _ et it.2.1 it.2.2]
  simp only
  rw [ha.must]
  simp only
  rw [matchersP_yes hm T1 _ ‹_›]
  simp only
  rw [(isT_mL ht3).must]
  simp only
  rw [numberP_yes _ (by omega) h2 ht4]
  simp only
  rw [(isT_mL ht5).must]
  simp only
  rw [hb.must]
  simp only
  rw [if_neg (by omega)]
theorem C1_neg (q : Qn) (h : C1 q) : C1 (.mk 12 0 [] 0 [] q .nil):=by
 intro f n T rest hf hd hT hr
 rw [atX_neg _ _ (Nat.le_refl _)] at hT hf
 obtain ⟨t,T,rfl,ht,hT⟩:=cons_map hT
 have it:=isT_mL ht
 rw [dep_neg _ _ (Nat.le_refl _)] at hd
 simp only [List.length_cons] at hf
 cases f with
 | zero=>omega
 | succ f =>
  rw [show t :: T++rest=t :: (T++rest) from rfl,oneP,if_neg (by omega)]
  rw [if_pos (it.takes _),List.tail_cons,h f (n + 1) T rest (by omega) (by omega) hT hr]
theorem C1_all (k : Nat) (hk : k < 4) (b : List ByteArray) (hb : ∀ s ∈ b,nameF s=true) (hl : b.length≤8) (q : Qn) (hq : Wf q) (h : C3 q) : C1 (.mk (8 + k) 0 [] 0 b q .nil):=by
 intro f n T rest hf hd hT hr
 rw [atX_all k hk _ _ _ (Nat.le_refl _)] at hT hf
 obtain ⟨t,T,rfl,ht,hT⟩:=cons_map hT
 have it:=isT_wL ht
 obtain ⟨T1,T2,rfl,hT1,hT2⟩:=app_map hT
 obtain ⟨a,T1,z,rfl,ha,hz,hT1⟩:=par_map hT1
 rw [dep_all k hk _ _ _ (Nat.le_refl _)] at hd
 simp only [List.length_cons,List.length_append,parX,List.length_nil] at hf
 cases f with
 | zero=>omega
 | succ f =>
  have hm1:=alls_mark hk
  have et : t.text=allsL.getD k ⟨#[]⟩:=by rw [it.1,bS_bL]
  have e0 : t :: (a :: (T1++[z])++T2)++rest=t :: a :: (T1++(z :: (T2++rest))):=by simp
  rw [e0,oneP,if_neg (by omega)]
  rw [if_neg (by rw [it.not _ (hm1 _)]; exact Bool.false_ne_true)]
  rw [if_neg (by rw [it.not _ (hm1 _)]; exact Bool.false_ne_true)]
  rw [if_neg (by show ¬ t.kind=2; rw [(st_mk ht).1]; exact (by decide : (1 : Int) ≠ 2))]
  rw [if_neg (by rw [it.noti _ (hm1 _)]; exact Bool.false_ne_true)]
  rw [find_no _ (fun s hs=>by rw [et]; exact alls_overs hk s hs)]
  simp only
  rw [find_yes alls_ne _ (by rw [alls_len]; exact hk) et it.2.1]
  simp only
  rw [mustP_yes _ et it.2.1 it.2.2]
  simp only
  rw [ha.must]
  simp only
  rw [h.sum hq (by omega) (by omega) hT1 (hz.r0 _ (by decide) (by decide) (by decide) (by decide))]
  simp only
  rw [hz.must]
  simp only
  cases b with
  | nil =>
   cases nil_map hT2
   rw [List.nil_append,if_neg (by rw [hr]; exact Bool.false_ne_true)]
  | cons s b =>
   have : bysX (s :: b)=⟨1,[98,121],1,1⟩ :: parX (byX (s :: b)):=rfl
   rw [this] at hT2
   obtain ⟨y,T2,rfl,hy,hT2⟩:=cons_map hT2
   have iy : isT y [98,121]:=isT_wL hy
   obtain ⟨a2,T3,z2,rfl,ha2,hz2,hT3⟩:=par_map hT2
   have e1 : y :: a2 :: (T3++[z2])++rest=y :: a2 :: (T3++(z2 :: rest)):=by simp
   rw [e1,if_pos (iy.takes _),List.tail_cons,ha2.must]
   simp only
   rw [namesL_yes (s :: b) [] _ T3 (z2 :: rest) (by simp) hb (by simpa using hl) (by
    have : T3.length=(byX (s :: b)).length:=len_map hT3
    have h8 : ∀ (b : List ByteArray) s,(s :: b).length≤(byX (s :: b)).length:=by
     intro b
     induction b with
     | nil=>intro s; exact Nat.le_refl _
     | cons x b ih =>
      intro s
      have e : byX (s :: x :: b)=wL (bL s) :: ⟨0,[44],4,1⟩ :: byX (x :: b):=rfl
      have:=ih x
      rw [e]
      simp only [List.length_cons] at this ⊢
      omega
    have:=h8 b s
    simp only [List.length_append]
    omega) hT3 (hz2.not _ (by decide))]
   simp only [List.nil_append]
   rw [hz2.must]
theorem complete {q : Qn} (hq : Wf q) : C1 q∧C2 q∧C3 q:=by
 have up : ∀ {q : Qn},Wf q→lvl q.code=2→C1 q→C1 q∧C2 q∧C3 q:=by
  intro q hq hl h1
  cases q with
  | nil=>cases hq
  | mk c n m s b l r =>
   have hl : lvl c=2:=hl
   have hk1 : k1 (.mk c n m s b l r)=0:=by rw [k1,hl]; rfl
   have hk0 : k0 (.mk c n m s b l r)=0:=by rw [k0,hl]; rfl
   have hx : ∀ a d,a≤2→d≤2→atX (.mk c n m s b l r) a=atX (.mk c n m s b l r) d:=fun a d ha hd=>by
    rw [atX,atX,hl,decide_eq_false (by omega),decide_eq_false (by omega)]
   have hd : ∀ a d,a≤2→d≤2→dep (.mk c n m s b l r) a=dep (.mk c n m s b l r) d:=fun a d ha hd=>by
    rw [dep,dep,hl,if_neg (show ¬ 2 < a by omega),if_neg (show ¬ 2 < d by omega)]
   have h2:=C2_of h1 (hx _ _ (by decide) (by decide)) (hd _ _ (by decide) (by decide)) hk1
   exact ⟨h1,h2,C3_of hq h2 (hx _ _ (by decide) (by decide)) (hd _ _ (by decide) (by decide)) hk0⟩
 induction hq with
 | num n h0 h1=>exact up (.num n h0 h1) rfl (C1_num n h0 h1)
 | pick m h=>exact up (.pick m h) rfl (C1_pick m h)
 | over k hk m h sp h1 h2=>exact up (.over k hk m h sp h1 h2) (by show lvl (3 + k)=2; rw [lvl,if_neg (by omega),if_neg (by omega)]) (C1_over k hk m h sp h1 h2)
 | all k hk b hb hl q hq ih=>exact up (.all k hk b hb hl q hq) (by show lvl (8 + k)=2; rw [lvl,if_neg (by omega),if_neg (by omega)]) (C1_all k hk b hb hl q hq ih.2.2)
 | neg q hq ih=>exact up (.neg q hq) rfl (C1_neg q ih.1)
 | add k hk l r hl hr ih1 ih2 =>
  have hw:=Wf.add k hk l r hl hr
  have hk0 : k0 (.mk (13 + k) 0 [] 0 [] l r)=k0 l + 1:=by rw [k0,lvl_add k hk]; rfl
  have hk1 : k1 (.mk (13 + k) 0 [] 0 [] l r)=0:=by rw [k1,lvl_add k hk]; rfl
  have h3 : C3 (.mk (13 + k) 0 [] 0 [] l r):=by
   rcases (show k=0∨k=1 by omega) with rfl | rfl
   ·exact C3_bin binC13 hl hr ih1.2.2 ih2.2.1 hk0 sumL_13 (by decide) (by decide)
   ·exact C3_bin binC14 hl hr ih1.2.2 ih2.2.1 hk0 sumL_14 (by decide) (by decide)
  have h1:=C1_par hw h3 (by rw [atX_add k hk,atX_add k hk]; rfl) (by rw [dep_add k hk,dep_add k hk,if_pos (by decide),if_neg (by decide),Nat.zero_add])
  exact ⟨h1,C2_of h1 (by rw [atX_add k hk,atX_add k hk]; rfl) (by rw [dep_add k hk,dep_add k hk]; rfl) hk1,h3⟩
 | mul k hk l r hl hr ih1 ih2 =>
  have hw:=Wf.mul k hk l r hl hr
  have hk0 : k0 (.mk (15 + k) 0 [] 0 [] l r)=0:=by rw [k0,lvl_mul k hk]; rfl
  have hk1 : k1 (.mk (15 + k) 0 [] 0 [] l r)=k1 l + 1:=by rw [k1,lvl_mul k hk]; rfl
  have h2 : C2 (.mk (15 + k) 0 [] 0 [] l r):=by
   rcases (show k=0∨k=1 by omega) with rfl | rfl
   ·exact C2_bin binC15 hl ih1.2.1 ih2.1 hk1 prodL_15
   ·exact C2_bin binC16 hl ih1.2.1 ih2.1 hk1 prodL_16
  have h3:=C3_of hw h2 (by rw [atX_mul k hk,atX_mul k hk]; rfl) (by rw [dep_mul k hk,dep_mul k hk]; rfl) hk0
  exact ⟨C1_par hw h3 (by rw [atX_mul k hk,atX_mul k hk]; rfl) (by rw [dep_mul k hk,dep_mul k hk,if_pos (by decide),if_neg (by decide),Nat.zero_add]),h2,h3⟩
end Go.PL
/-
  Plain laws: questions: what is read of a text is read just so of what is printed. No program is in sight.
-/
namespace Go.PL
open Go Go.GK

theorem bget (s : ByteArray) (i : Nat) : s[i]?=(bL s)[i]?:=by
 by_cases h : i < s.size
 ·rw [getElem?_pos s i h,List.getElem?_eq_getElem (by rw [bL_len]; exact h)]
  obtain ⟨d⟩:=s
  simp [bL]
  rfl
 ·rw [getElem?_neg s i h,List.getElem?_eq_none (by rw [bL_len]; omega)]
theorem anyB_no {n : Nat} {p : Nat→Bool} (h : anyB n p=false) {i : Nat} (hi : i < n) : p i=false:=by
 cases hp : p i with
 | false=>rfl
 | true=>rw [anyB_true hi hp] at h; cases h
theorem name_tx {s : ByteArray} (h : nameF s=true) : TxOk 1 (bL s):=by
 rw [nameF,Bool.and_eq_true,decide_eq_true_iff,Bool.not_eq_true'] at h
 obtain ⟨h1,h2,_⟩:=h
 have hb : ∀ (i : Nat) (c : UInt8),(bL s)[i]?=some c→letB c=true∨(i ≠ 0∧digB c=true):=by
  intro i c hc
  have hi : i < s.size:=by
   rw [← bL_len]
   exact (List.getElem?_eq_some_iff.1 hc).1
  have:=anyB_no h1 hi
  rw [nbad,bget,hc] at this
  simp only [Bool.and_eq_false_iff,Bool.or_eq_false_iff,Bool.not_eq_false',beq_eq_false_iff_ne] at this
  exact this
 refine .inl ⟨rfl,?_⟩
 cases hl : bL s with
 | nil =>
  have:=bL_len s
  rw [hl] at this
  simp at this
  omega
 | cons c r =>
  refine ⟨c,r,rfl,?_,fun b hb'=>?_⟩
  ·rcases hb 0 c (by rw [hl]; rfl) with h | h
   ·exact h
   ·exact absurd rfl h.1
  ·obtain ⟨i,hi,e⟩:=List.getElem_of_mem hb'
   rcases hb (i + 1) b (by rw [hl,List.getElem?_cons_succ,List.getElem?_eq_getElem hi,e]) with h | h
   ·rw [h]; rfl
   ·rw [h.2,Bool.or_true]
theorem value_tx {s : ByteArray} (h : valueF s=true) : TxOk 3 (34 :: bL s++[34]):=by
 rw [valueF,Bool.and_eq_true,decide_eq_true_iff,Bool.not_eq_true'] at h
 refine .inr (.inr (.inl ⟨rfl,bL s,rfl,fun b hb=>?_⟩))
 obtain ⟨i,hi,e⟩:=List.getElem_of_mem hb
 have:=anyB_no h.1 (i:=i) (by rw [← bL_len]; exact hi)
 rw [vbad,bget,List.getElem?_eq_getElem hi,e] at this
 simp only [Bool.or_eq_false_iff,decide_eq_false_iff_not] at this
 exact this.2.2.1
theorem itoa_tx {n : Int} (h0 : 0≤n) (h1 : n < 1000000000000000000) : TxOk 2 (Lib.itoa n) :=
 .inr (.inl ⟨rfl,(itoa_dig h0).2,itoa_len h0 (by decide) (by simpa using h1),(itoa_dig h0).1⟩)
theorem ops_tx {k : Nat} (hk : k < 4) : bL (opsL.getD k ⟨#[]⟩) ∈ marksL:=by
 have hh : ∀ k : Fin 4,bL (opsL.getD k.val ⟨#[]⟩) ∈ marksL:=by decide
 exact hh ⟨k,hk⟩
theorem overs_tx {k : Nat} (hk : k < 5) : TxOk 1 (bL (oversL.getD k ⟨#[]⟩)):=by
 have hh : ∀ k : Fin 5,nameF (oversL.getD k.val ⟨#[]⟩)=true:=by decide
 exact name_tx (hh ⟨k,hk⟩)
theorem alls_tx {k : Nat} (hk : k < 4) : TxOk 1 (bL (allsL.getD k ⟨#[]⟩)):=by
 have hh : ∀ k : Fin 4,nameF (allsL.getD k.val ⟨#[]⟩)=true:=by decide
 exact name_tx (hh ⟨k,hk⟩)
def XOk (l : List Lx) : Prop:=(∀ x ∈ l,x.Ok)∧chn l
theorem XOk.nil : XOk []:=⟨fun _ h=>(by cases h),trivial⟩
theorem XOk.cons {x : Lx} {l : List Lx} (h : x.Ok) (hx : x.kind=4∨x.kind=3∨x.post ≠ 0) (hl : XOk l) : XOk (x :: l) :=
 ⟨fun y hy=>by
  rcases List.mem_cons.1 hy with rfl | hy
  ·exact h
  ·exact hl.1 y hy,chn_cons hx hl.2⟩
theorem XOk.one {x : Lx} (h : x.Ok) : XOk [x]:=⟨fun y hy=>by rw [List.mem_singleton.1 hy]; exact h,trivial⟩
theorem XOk.app {a : List Lx} {y : Lx} {b : List Lx} (ha : XOk a) (h : y.kind=4∨y.pre ≠ 0) (hb : XOk (y :: b)) : XOk (a++y :: b) :=
 ⟨fun z hz=>by
  rcases List.mem_append.1 hz with hz | hz
  ·exact ha.1 z hz
  ·exact hb.1 z hz,chn_app ha.2 h hb.2⟩
theorem XOk.word {x y : Lx} {l : List Lx} (h : x.Ok) (hy : y.kind=4∨y.pre ≠ 0) (hl : XOk (y :: l)) : XOk (x :: y :: l):=XOk.app (a:=[x]) (.one h) hy hl
theorem mark_ok {l : List UInt8} (h : l ∈ marksL) : (mL l).Ok:=.inr (.inr (.inr ⟨rfl,h⟩))
theorem XOk.par {x : List Lx} (h : XOk x) : XOk (parX x):=.cons (mark_ok (by decide)) (.inl rfl) (.app h (.inl rfl) (.one (mark_ok (by decide))))
theorem mtX_ok {m : Mt} (h : MOk m) : XOk (mtX m):=by
 obtain ⟨h1,h2,h3,h4⟩:=h
 exact .word (name_tx h1) (.inl rfl) (.cons (mark_ok (ops_tx (by omega))) (.inl rfl) (.one (value_tx h2)))
theorem sepX_ok {y : Lx} (hy : y.Ok) (hk : y.kind=4) : ∀ {l : List (List Lx)},(∀ x ∈ l,XOk x)→XOk (sepX y l)
 | [],_=>.nil
 | [x],h=>h x List.mem_cons_self
 | x :: z :: r,h=>.app (h x List.mem_cons_self) (.inl hk) (.cons hy (.inl hk) (sepX_ok hy hk fun a ha=>h a (List.mem_cons_of_mem _ ha)))
theorem msX_ok {l : List Mt} (h : MsOk l) : XOk (msX l):=by
 refine .cons (mark_ok (by decide)) (.inl rfl) (.app (sepX_ok (mark_ok (by decide)) rfl fun x hx=>?_) (.inl rfl) (.one (mark_ok (by decide))))
 obtain ⟨m,hm,rfl⟩:=List.mem_map.1 hx
 exact mtX_ok (h.1 m hm)
theorem byX_ok {b : List ByteArray} (h : ∀ s ∈ b,nameF s=true) : XOk (byX b):=by
 refine sepX_ok (y:=⟨0,[44],4,1⟩) (.inr (.inr (.inr ⟨rfl,by decide⟩))) rfl fun x hx=>?_
 obtain ⟨s,hs,rfl⟩:=List.mem_map.1 hx
 exact .one (name_tx (h s hs))
theorem by_tx : TxOk 1 [98,121]:=name_tx (s:=bS [98,121]) (by decide)
theorem ifP_ok {b : Bool} {x : List Lx} (h : XOk x) : XOk (ifP b x):=by
 cases b with
 | false=>exact h
 | true=>exact h.par
theorem bin_ok (c : Int) : (binX c).Ok:=by
 refine .inr (.inr (.inr ⟨rfl,?_⟩))
 show symX c ∈ marksL
 unfold symX
 split
 ·decide
 ·split
  ·decide
  ·split <;> decide
theorem atX_ok {q : Qn} (hq : Wf q) : ∀ least,least≤2→XOk (atX q least):=by
 induction hq with
 | num n h0 h1=>exact fun a ha=>by rw [atX_num n a ha]; exact .one (itoa_tx h0 h1)
 | pick m h=>exact fun a ha=>by rw [atX_pick m a ha]; exact msX_ok h
 | over k hk m h sp h1 h2 =>
  intro a ha
  rw [atX_over k hk m sp a ha]
  exact .word (overs_tx hk) (.inl rfl) (.par (.app (msX_ok h) (.inl rfl) (.cons (mark_ok (by decide)) (.inl rfl) (.word (itoa_tx (by omega) (by omega)) (.inl rfl) (.one (mark_ok (by decide)))))))
 | all k hk b hb hl q hq ih =>
  intro a ha
  rw [atX_all k hk b q a ha]
  refine .word (l:=atX q 0++[mL [41]]++bysX b) (alls_tx hk) (.inl rfl) ?_
  have hp:=(ih 0 (by decide)).par
  cases b with
  | nil=>simpa [bysX,parX] using hp
  | cons s b =>
   have:=XOk.app hp (.inr (show (⟨1,[98,121],1,1⟩ : Lx).pre ≠ 0 by decide)) (.cons (x:=⟨1,[98,121],1,1⟩) by_tx (.inr (.inr (by decide))) (byX_ok hb).par)
   simpa [bysX,parX] using this
 | neg q hq ih=>exact fun a ha=>by rw [atX_neg q a ha]; exact .cons (mark_ok (by decide)) (.inl rfl) (ih 2 (by decide))
 | add k hk l r hl hr ih1 ih2=>exact fun a ha=>by rw [atX_add k hk]; exact ifP_ok (.app (ih1 0 (by decide)) (.inl rfl) (.cons (bin_ok _) (.inl rfl) (ih2 1 (by decide))))
 | mul k hk l r hl hr ih1 ih2=>exact fun a ha=>by rw [atX_mul k hk]; exact ifP_ok (.app (ih1 1 (by decide)) (.inl rfl) (.cons (bin_ok _) (.inl rfl) (ih2 2 (by decide))))

def slim (l : List Lx) : Prop:=∀ x ∈ l,x.pre + x.post≤2
theorem slim_bytes : ∀ {l : List Lx},slim l→(bytesL l).length≤wx 2 l
 | [],_=>Nat.le_refl _
 | x :: l,h=>by
  have h1:=h x List.mem_cons_self
  have h2:=slim_bytes fun y hy=>h y (List.mem_cons_of_mem _ hy)
  rw [bytesL_cons,wx_cons,List.length_append,Lx.bytes]
  simp only [List.length_append,spc,List.length_replicate]
  omega
theorem slim_app {a b : List Lx} (ha : slim a) (hb : slim b) : slim (a++b):=fun x hx=>by
 rcases List.mem_append.1 hx with hx | hx
 ·exact ha x hx
 ·exact hb x hx
theorem slim_cons {a : Lx} {b : List Lx} (ha : a.pre + a.post≤2) (hb : slim b) : slim (a :: b):=fun x hx=>by
 rcases List.mem_cons.1 hx with rfl | hx
 ·exact ha
 ·exact hb x hx
theorem slim_nil : slim []:=fun _ h=>by cases h
theorem slim_par {x : List Lx} (h : slim x) : slim (parX x):=slim_cons (by decide) (slim_app h (slim_cons (by decide) slim_nil))
theorem slim_sep {y : Lx} (hy : y.pre + y.post≤2) : ∀ {l : List (List Lx)},(∀ x ∈ l,slim x)→slim (sepX y l)
 | [],_=>slim_nil
 | [x],h=>h x List.mem_cons_self
 | x :: z :: r,h=>slim_app (h x List.mem_cons_self) (slim_cons hy (slim_sep hy fun a ha=>h a (List.mem_cons_of_mem _ ha)))
theorem slim_ms (l : List Mt) : slim (msX l):=by
 refine slim_cons (by decide) (slim_app (slim_sep (by decide) fun x hx=>?_) (slim_cons (by decide) slim_nil))
 obtain ⟨m,_,rfl⟩:=List.mem_map.1 hx
 exact slim_cons (Nat.zero_le _) (slim_cons (Nat.zero_le _) (slim_cons (Nat.zero_le _) slim_nil))
theorem slim_bys (b : List ByteArray) : slim (bysX b):=by
 cases b with
 | nil=>exact slim_nil
 | cons s b =>
  refine slim_cons (by decide) (slim_par (slim_sep (by decide) fun x hx=>?_))
  obtain ⟨m,_,rfl⟩:=List.mem_map.1 hx
  exact slim_cons (Nat.zero_le _) slim_nil
theorem slim_if {b : Bool} {x : List Lx} (h : slim x) : slim (ifP b x):=by
 cases b with
 | false=>exact h
 | true=>exact slim_par h
theorem slim_at (q : Qn) : ∀ a,slim (atX q a):=by
 induction q with
 | nil=>exact fun a=>slim_nil
 | mk c n m s b l r ih1 ih2 =>
  intro a
  unfold atX
  refine slim_if ?_
  split
  ·exact slim_cons (Nat.zero_le _) slim_nil
  split
  ·exact slim_ms m
  split
  ·exact slim_cons (Nat.zero_le _) (slim_par (slim_app (slim_ms m) (slim_cons (Nat.zero_le _) (slim_cons (Nat.zero_le _) (slim_cons (Nat.zero_le _) slim_nil)))))
  split
  ·exact slim_cons (Nat.zero_le _) (slim_app (slim_par (ih1 0)) (slim_bys b))
  split
  ·exact slim_cons (Nat.zero_le _) (ih1 2)
  split
  ·exact slim_app (ih1 _) (slim_cons (Nat.le_refl _) (ih2 _))
  ·exact slim_nil

theorem lex_all {X : List Lx} (h : XOk X) (hn : X.length≤120) : ∃ l e,tokF (bytesL X) ((bytesL X).length + 1) 0 0=.ok (l++[e])∧l.map Tok.st=X.map Lx.st∧e.kind=5∧e.text=bS []:=by
 have hlen : X.length≤(bytesL X).length:=by
  have : ∀ X : List Lx,(∀ x ∈ X,x.Ok)→X.length≤(bytesL X).length:=by
   intro X
   induction X with
   | nil=>intro _; exact Nat.le_refl _
   | cons x X ih =>
    intro hx
    have h1:=ih fun y hy=>hx y (List.mem_cons_of_mem _ hy)
    have h2:=(lex_ok (hx x List.mem_cons_self) [] (fun _ _ h=>(by cases h)) (fun _ _ h=>(by cases h))).2.1
    have h3 : 0 < x.text.length:=by cases ht : x.text with | nil=>exact absurd ht h2 | cons c t=>simp
    rw [bytesL_cons,List.length_append,Lx.bytes]
    simp only [List.length_append,List.length_cons]
    omega
  exact this X h.1
 obtain ⟨l,h1,h2⟩:=tok_ok (bytesL X) X ((bytesL X).length + 1) 0 0 0 h.1 h.2 (by simp [spc]) (Nat.zero_le _) (by omega) (by omega)
 obtain ⟨l1,l2,rfl,h3,h4⟩:=List.map_eq_append_iff.1 h2
 obtain ⟨e,l2,rfl,h5,h6⟩:=List.map_eq_cons_iff.1 h4
 rw [List.map_eq_nil_iff] at h6
 subst h6
 exact ⟨l1,e,h1,h3,congrArg Prod.fst h5,congrArg Prod.snd h5⟩
theorem end_r0 {e : Tok} (h : e.text=bS []) : R0 [e]:=by
 have : ∀ b l,takesP (bS (b :: l)) [e]=false:=fun b l=>takesP_no _ (by rw [h]; exact fun h=>by cases bS_inj h)
 exact ⟨⟨this _ _,this _ _,this _ _⟩,this _ _,this _ _⟩
theorem print_parse {s : List UInt8} (hs : s.length≤600) {q : Qn} (h : parseF s=.ok q) : Wf q∧parseF (bytesL (atX q 0))=.ok q∧(bytesL (atX q 0)).length≤1000:=by
 rw [parseF] at h
 cases hT : tokF s (s.length + 1) 0 0 with
 | error e=>rw [hT] at h; cases h
 | ok l =>
  rw [hT] at h
  simp only at h
  obtain ⟨hE,hl⟩:=tok_toks s (by omega) _ _ _ _ hT (by omega)
  have hw:=tok_wt s _ _ _ _ hT
  cases hP : sumP (3 * l.length + 3) 0 l with
  | error e=>rw [hP] at h; cases h
  | ok r =>
   obtain ⟨q1,l'⟩:=r
   rw [hP] at h
   simp only at h
   by_cases hk : (hdT l').kind ≠ 5
   ·rw [if_pos hk] at h; cases h
   rw [if_neg hk] at h
   cases h
   obtain ⟨g1,g2,g3,g4⟩:=(sound _).2.2.2.2 0 l q l' hP hE
   obtain ⟨e,l',rfl⟩:=g4.cons
   have w1 : (atX q 0).length≤120:=by
    have a1:=g3 1000
    have a2:=hw 1000
    rw [wt_cons] at a1
    have a3 : 1000 * (atX q 0).length≤wx 1000 (atX q 0):=by
     have : ∀ X : List Lx,1000 * X.length≤wx 1000 X:=by
      intro X
      induction X with
      | nil=>exact Nat.le_refl _
      | cons x X ih=>rw [wx_cons,List.length_cons]; omega
     exact this _
    omega
   have w2 : (bytesL (atX q 0)).length≤1000:=by
    have a1:=g3 2
    have a2:=hw 2
    have a3:=slim_bytes (slim_at q 0)
    omega
   refine ⟨g1,?_,w2⟩
   obtain ⟨T,e,h1,h2,h3,h4⟩:=lex_all (atX_ok g1 0 (by decide)) w1
   rw [parseF,h1]
   simp only
   rw [(complete g1).2.2.sum g1 (by
    have:=len_map h2
    rw [List.length_append,this]
    omega) g2 h2 (end_r0 h4)]
   simp only
   rw [if_neg (by
    show ¬ e.kind ≠ 5
    rw [h3]
    decide)]
end Go.PL
/-
  Plain laws: a text of matchers within a greater question. No program is in sight.
-/
namespace Go.PL
open Go Go.GK
end Go.PL
/-
  Plain laws: a source of right series; answers at another time; how many points there are. No program is in sight.
-/
namespace Go.PL
open Go Go.GK
structure SerOk (l : List Ser) : Prop where
 ris : RisS l
 len : l.length≤100
 val : ∀ x ∈ l,∀ y ∈ x.samples,I64 y.value
 small : ∀ x ∈ l,x.labels.length≤1000000∧x.samples.length≤100000
theorem src_mem {l : List Ser} {m : List Mt} {f t : Int} {z : Ser} (h : z ∈ srcF l m f t) : ∃ x ∈ l,z=⟨x.labels,x.samples.filter (inT f t)⟩:=by
 obtain ⟨x,hx,h⟩:=List.mem_filterMap.1 h
 split at h
 ·cases h; exact ⟨x,hx,rfl⟩
 ·cases h
theorem src_b {l : List Ser} (h : SerOk l) : SrcB (srcF l):=by
 refine ⟨⟨fun m f t=>?_,fun m f t=>Nat.le_trans (List.length_filterMap_le _ _) h.len,fun m f t z hz y hy=>?_⟩,fun m f t z hz=>?_⟩
 ·refine List.Pairwise.filterMap _ (fun x y hxy u hu v hv=>?_) h.ris
  have e1 : u.labels=x.labels:=by split at hu <;> cases hu; rfl
  have e2 : v.labels=y.labels:=by split at hv <;> cases hv; rfl
  rw [e1,e2]
  exact hxy
 ·obtain ⟨x,hx,rfl⟩:=src_mem hz
  exact h.val x hx y (List.mem_filter.1 hy).1
 ·obtain ⟨x,hx,rfl⟩:=src_mem hz
  have:=h.small x hx
  exact ⟨this.1,Nat.le_trans (List.length_filter_le _ _) this.2⟩
end Go.PL
/-
  Plain laws: the document's points, put together one by one; its points of series. No program is in sight.
-/
namespace Go.PL
open Go Go.GK
theorem putP_no {c : Int} {x : Pt} : ∀ {l : List Pt},(∀ y ∈ l,y.labels ≠ x.labels)→putP c l x=l++[x]
 | [],_=>rfl
 | y :: r,h=>by
  rw [putP,if_neg (h y (by simp)),putP_no (l:=r) fun z hz=>h z (by simp [hz])]
  rfl
theorem putP_yes {c : Int} {x : Pt} : ∀ {l : List Pt} {k : Nat} (hk : k < l.length),l[k].labels=x.labels→(∀ (j : Nat) (hj : j < l.length),j < k→l[j].labels ≠ x.labels)→putP c l x=l.set k ⟨l[k].labels,combF c l[k].value x.value⟩
 | y :: r,0,hk,h,_=>by
  rw [putP,if_pos (show y.labels=x.labels from h)]
  rfl
 | y :: r,k + 1,hk,h,hd=>by
  rw [putP,if_neg (show y.labels ≠ x.labels from hd 0 (by simp) (by omega)),putP_yes (l:=r) (k:=k) (by simpa using hk) h (fun j hj hjk=>hd (j + 1) (by simpa using hj) (by omega))]
  rfl
def DLP (l : List Pt) : Prop:=l.Pairwise fun x y=>x.labels ≠ y.labels
theorem put_dl {c : Int} {by_ : List ByteArray} (l : List Pt) : DLP ((l.map (grp c by_)).foldl (putP c) []):=by
 have:=(fold_look c (l.map (grp c by_)) [] [] .nil .nil fun _=>rfl).2
 unfold DL at this
 rw [List.map_map] at this
 exact List.pairwise_map.1 this
theorem put_len (c : Int) : ∀ (b l : List Pt),(b.foldl (putP c) l).length≤l.length + b.length
 | [],l=>by simp
 | x :: b,l=>by
  rw [List.foldl_cons]
  have h1:=put_len c b (putP c l x)
  have h2 : ∀ l : List Pt,(putP c l x).length≤l.length + 1:=by
   intro l
   induction l with
   | nil=>exact Nat.le_refl _
   | cons y r ih =>
    unfold putP
    split
    ·simp
    ·simp only [List.length_cons]; omega
  have h3:=h2 l
  simp only [List.length_cons]
  omega
theorem put_lab (c : Int) : ∀ (b l : List Pt),LabB b→LabB l→LabB (b.foldl (putP c) l)
 | [],_,_,h=>h
 | x :: b,l,hb,h=>by
  refine put_lab c b _ (fun p hp=>hb p (by simp [hp])) ?_
  have h1 : ∀ l : List Pt,LabB l→LabB (putP c l x):=by
   intro l
   induction l with
   | nil=>intro _ p hp; rw [List.mem_singleton.1 hp]; exact hb x (by simp)
   | cons y r ih =>
    intro h p hp
    unfold putP at hp
    split at hp
    ·rcases List.mem_cons.1 hp with rfl | hp
     ·exact h y (by simp)
     ·exact h p (by simp [hp])
    ·rcases List.mem_cons.1 hp with rfl | hp
     ·exact h _ (by simp)
     ·exact ih (fun q hq=>h q (by simp [hq])) p hp
  exact h1 l h
def rptsF (c : Int) (S : List Ser) (m : List Mt) (f t : Int) : List Pt:=S.filterMap fun x : Ser =>
 if (x.samples.filter (inT f t)) ≠ []∧allF x.labels m=true then some ⟨x.labels,overF c (x.samples.filter (inT f t))⟩ else none
theorem rpts_is (c : Int) (S : List Ser) (m : List Mt) (f t : Int) : rptsF c S m f t=ptsF c (srcF S m f t):=by
 unfold rptsF ptsF srcF
 rw [List.filter_filterMap,List.map_filterMap]
 refine fmap_congr (fun x=>?_) S
 by_cases h : x.samples.filter (inT f t) ≠ []∧allF x.labels m=true
 ·rw [if_pos h,if_pos h]
  simp only [Option.filter,Option.map]
  rw [if_pos (decide_eq_true h.1)]
 ·rw [if_neg h,if_neg h]
  rfl
theorem rpts_snoc (c : Int) (S : List Ser) (m : List Mt) (f t : Int) (i : Nat) (h : i < S.length) : rptsF c (S.take (i + 1)) m f t=rptsF c (S.take i) m f t++(if S[i].samples.filter (inT f t) ≠ []∧allF S[i].labels m=true then [⟨S[i].labels,overF c (S[i].samples.filter (inT f t))⟩] else []):=by
 unfold rptsF
 rw [List.take_add_one,List.getElem?_eq_getElem h,List.filterMap_append]
 congr 1
 by_cases h0 : S[i].samples.filter (inT f t) ≠ []∧allF S[i].labels m=true
 ·rw [if_pos h0]
  show List.filterMap _ [S[i]]=_
  rw [List.filterMap_cons,if_pos h0]
  rfl
 ·rw [if_neg h0]
  show List.filterMap _ [S[i]]=_
  rw [List.filterMap_cons,if_neg h0]
  rfl
end Go.PL
/-
  Contracts: the document's questions: what samples, and what two numbers come to.
-/
namespace Go.Proofs.YtkoalgjlkcaonaaGreatDoor
open Go.GK Go.PL Go.RowKit
set_option maxRecDepth 100000
theorem wrap_u64 (x : Int) : IntKind.u64.wrap x=x % 18446744073709551616:=by
 simp [IntKind.wrap,IntKind.bits,IntKind.signed]
theorem abs_rt (a : Int) (ha : I64 a) : Rt pg 94 [gi a] (.v (.int .u64 (a.natAbs : Nat))):=by
 obtain ⟨h1,h2⟩:=ha
 refine Rt.of pg_ok Tryz.func94 rfl Tryz.ntmps94 rfl Tryz.results94 Tryz.call94 fun H0 S0 w0 h0 g0=>?_
 by_cases h : a < 0
 ·refine p1 ?_ (decide_eq_true h)
  refine ⟨?_,rfl⟩
  exact congrArg (fun z=>GV.v (.int .u64 z)) (by rw [wrap_u64,wrap_u64]; omega)
 ·refine p2 ?_ (decide_eq_false h)
  refine ⟨?_,rfl⟩
  exact congrArg (fun z=>GV.v (.int .u64 z)) (by rw [wrap_u64]; omega)
theorem two_rt (c a b : Int) (ha : I64 a) (hb : I64 b) : Rt pg 58 [gi c,gi a,gi b] (countG (countF c a b)):=by
 refine Rt.of pg_ok Tryz.func58 rfl Tryz.ntmps58 rfl Tryz.results58 Tryz.call58 fun H0 S0 w0 h0 g0=>?_
 unfold countF
 by_cases h1 : c=13
 ·rw [if_pos h1]
  refine p1 ?_ (decide_eq_true h1)
  exact ⟨⟨rfl,rfl,trivial⟩,rfl⟩
 rw [if_neg h1]
 refine p2 ?_ (decide_eq_false h1)
 by_cases h2 : c=14
 ·rw [if_pos h2]
  refine p1 ?_ (decide_eq_true h2)
  exact ⟨⟨rfl,rfl,trivial⟩,rfl⟩
 rw [if_neg h2]
 refine p2 ?_ (decide_eq_false h2)
 by_cases h3 : c=15
 ·rw [if_pos h3]
  refine p1 ?_ (decide_eq_true h3)
  exact ⟨⟨rfl,rfl,trivial⟩,rfl⟩
 rw [if_neg h3]
 refine p2 ?_ (decide_eq_false h3)
 by_cases h4 : b=0
 ·rw [if_pos h4]
  refine p1 ?_ (decide_eq_true h4)
  exact ⟨⟨rfl,rfl,trivial⟩,rfl⟩
 rw [if_neg h4]
 refine p2 ?_ (decide_eq_false h4)
 have hd:=div_two ha hb h4
 refine GO (abs_rt a ha) rfl ?_
 refine GO (abs_rt b hb) rfl ?_
 refine ⟨by omega,?_⟩
 have hk : 1≤b.natAbs:=by omega
 have hq : a.natAbs / b.natAbs≤a.natAbs:=Nat.div_le_self _ _
 have hal : a.natAbs≤9223372036854775808:=by have:=ha.1; have:=ha.2; omega
 have eq1 : IntKind.i64.wrap (IntKind.u64.wrap (Int.tdiv (a.natAbs : Int) (b.natAbs : Int)))=wr64 ((a.natAbs / b.natAbs : Nat) : Int):=by
  rw [show Int.tdiv (a.natAbs : Int) (b.natAbs : Int)=((a.natAbs / b.natAbs : Nat) : Int) from rfl]
  generalize a.natAbs / b.natAbs=q at hq
  rw [wrap_u64,wr64]
  congr 1
  omega
 have fin : ∀ x : Int,x=(if b=-1 then wr64 (-a) else wr64 (a.tdiv b))→eqG (countG (if b=-1 then some (wr64 (-a)) else some (wr64 (a.tdiv b)))) (.tup [gi x,.v (.bool true)]):=fun x hx=>by
  subst hx
  by_cases hm : b=-1
  ·rw [if_pos hm,if_pos hm]; exact ⟨rfl,rfl,trivial⟩
  ·rw [if_neg hm,if_neg hm]; exact ⟨rfl,rfl,trivial⟩
 by_cases hs : (decide (a < 0) != decide (b < 0))=true
 ·rw [if_pos hs] at hd
  refine p1 ?_ hs
  refine ⟨fin _ ?_,rfl⟩
  rw [← hd,eq1,Int.zero_sub]
  rfl
 ·rw [if_neg hs] at hd
  refine p2 ?_ (by simpa using hs)
  exact ⟨fin _ (eq1.trans hd),rfl⟩
theorem rover_rt (c : Int) (l : List Sm) (h0 : l ≠ []) (hl : l.length≤100000) (hc : 2≤c∧c≤7) (hv : ∀ x ∈ l,I64 x.value) : Rt pg 56 [gi c,sms l] (gi (overF c l)):=by
 refine Rt.of pg_ok Tryz.func56 rfl Tryz.ntmps56 rfl Tryz.results56 Tryz.call56 fun H0 S0 w0 h0' g0=>?_
 have hll : (l.map sm).length=l.length:=by simp
 have hpos : 0 < l.length:=List.length_pos_iff.2 h0
 have hw : IntKind.i64.wrap ((l.map sm).length - 1 : Int)=((l.length - 1 : Nat) : Int):=by rw [hll,wrap_id (by omega) (by omega)]; omega
 have hov:=over_ref c (l:=l.map fun x : Sm=>x.value) (by simpa using h0) (by
  cases l with
  | nil=>exact absurd rfl h0
  | cons x r=>exact hv x (by simp))
 have hlast:=last_val l (by omega)
 have hhead : (l.map (·.value)).headD 0=l[0].value:=by
  cases l with
  | nil=>exact absurd rfl h0
  | cons x r=>rfl
 refine ⟨by kernel_rfl,?_⟩
 refine idx 0 rfl hpos ?_
 refine idx (l.length - 1) hw (by omega) ?_
 refine JK.loopE (α:=Nat) (β:=Unit) (fun i=>⟨[(0,gi c),(1,sms l),(5,gi l[0].value),(6,gi l[l.length - 1].value),(7,gi (((l.take i).map (·.value)).foldl (fun n x=>wr64 (n + x)) 0)),(8,gi (((l.take i).map (·.value)).foldl (fun n x=>if x < n then x else n) l[0].value)),(9,gi (((l.take i).map (·.value)).foldl (fun n x=>if n < x then x else n) l[0].value)),(25,sms l),(26,gi (l.map sm).length),(27,gi i)],[],0⟩) (fun i=>i≤l.length) (fun i=>l.length - i)
  (fun _=>⟨[(0,gi c),(1,sms l),(5,gi l[0].value),(6,gi l[l.length - 1].value),(7,gi (sumR (l.map (·.value)))),(8,gi (lowR (l.map (·.value)))),(9,gi (highR (l.map (·.value))))],[],0⟩) (fun _=>True) 0 id ?_ (Nat.zero_le _) ?_ ?_
 ·exact ⟨⟨rfl,rfl,rfl,rfl,rfl,rfl,rfl,rfl,rfl,rfl,trivial⟩,trivial,rfl⟩
 ·intro i hi
  refine V ?_
  by_cases hlt : i < l.length
  ·have hst : (l.take (i + 1)).map (·.value)=(l.take i).map (·.value)++[l[i].value]:=by rw [List.take_succ_eq_append_getElem hlt,List.map_append]; rfl
   refine p1 ?_ (decide_eq_true (by omega))
   refine ix (h:=?_)
   by_cases h1 : l[i].value < ((l.take i).map (·.value)).foldl (fun n x=>if x < n then x else n) l[0].value
   ·refine p1 ?_ (decide_eq_true h1)
    by_cases h2 : ((l.take i).map (·.value)).foldl (fun n x=>if n < x then x else n) l[0].value < l[i].value
    ·refine p1 ?_ (decide_eq_true h2)
     refine ⟨i + 1,id,⟨⟨rfl,rfl,rfl,rfl,?_,?_,?_,rfl,rfl,succ_gi (by omega),trivial⟩,trivial,rfl⟩,hlt,by show l.length - (i + 1) < l.length - i; omega⟩
     all_goals rw [hst,List.foldl_append,List.foldl_cons,List.foldl_nil]
     ·rfl
     ·rw [if_pos h1]; rfl
     ·rw [if_pos h2]; rfl
    ·refine p2 ?_ (decide_eq_false h2)
     refine ⟨i + 1,id,⟨⟨rfl,rfl,rfl,rfl,?_,?_,?_,rfl,rfl,succ_gi (by omega),trivial⟩,trivial,rfl⟩,hlt,by show l.length - (i + 1) < l.length - i; omega⟩
     all_goals rw [hst,List.foldl_append,List.foldl_cons,List.foldl_nil]
     ·rfl
     ·rw [if_pos h1]; rfl
     ·rw [if_neg h2]; rfl
   ·refine p2 ?_ (decide_eq_false h1)
    by_cases h2 : ((l.take i).map (·.value)).foldl (fun n x=>if n < x then x else n) l[0].value < l[i].value
    ·refine p1 ?_ (decide_eq_true h2)
     refine ⟨i + 1,id,⟨⟨rfl,rfl,rfl,rfl,?_,?_,?_,rfl,rfl,succ_gi (by omega),trivial⟩,trivial,rfl⟩,hlt,by show l.length - (i + 1) < l.length - i; omega⟩
     all_goals rw [hst,List.foldl_append,List.foldl_cons,List.foldl_nil]
     ·rfl
     ·rw [if_neg h1]; rfl
     ·rw [if_pos h2]; rfl
    ·refine p2 ?_ (decide_eq_false h2)
     refine ⟨i + 1,id,⟨⟨rfl,rfl,rfl,rfl,?_,?_,?_,rfl,rfl,succ_gi (by omega),trivial⟩,trivial,rfl⟩,hlt,by show l.length - (i + 1) < l.length - i; omega⟩
     all_goals rw [hst,List.foldl_append,List.foldl_cons,List.foldl_nil]
     ·rfl
     ·rw [if_neg h1]; rfl
     ·rw [if_neg h2]; rfl
  ·refine p2 ?_ (decide_eq_false (by omega))
   obtain rfl : i=l.length:=by omega
   rw [List.take_length]
   refine ⟨(),id,⟨⟨rfl,rfl,rfl,rfl,rfl,?_,?_,trivial⟩,trivial,rfl⟩,trivial⟩
   ·unfold lowR; rw [hhead]; rfl
   ·unfold highR; rw [hhead]; rfl
 ·rintro _ _
  rw [show overF c l=overV c (l.map (·.value)) from rfl,hov,List.length_map]
  refine V ?_
  have hcc : c=2∨c=3∨c=4∨c=5∨c=6∨c=7:=by omega
  rcases hcc with rfl | rfl | rfl | rfl | rfl | rfl
  ·repeat (first | refine p1 ?_ | refine p2 ?_ | refine p3 ?_ | refine p4 ?_)
   refine ⟨?_,rfl⟩
   show _=_
   rw [if_neg (by decide),if_neg (by decide),if_neg (by decide),if_neg (by decide),if_neg (by decide),if_pos rfl,hlast]
   rfl
  ·repeat (first | refine p1 ?_ | refine p2 ?_ | refine p3 ?_ | refine p4 ?_)
   refine ⟨?_,rfl⟩
   rw [if_pos rfl]
   exact congrArg (fun n : Nat=>gi (n : Int)) hll
  ·repeat (first | refine p1 ?_ | refine p2 ?_ | refine p3 ?_ | refine p4 ?_)
   refine ⟨?_,rfl⟩
   rw [if_neg (by decide),if_pos rfl]
   rfl
  ·repeat (first | refine p1 ?_ | refine p2 ?_ | refine p3 ?_ | refine p4 ?_)
   refine ⟨?_,rfl⟩
   rw [if_neg (by decide),if_neg (by decide),if_pos rfl]
   rfl
  ·repeat (first | refine p1 ?_ | refine p2 ?_ | refine p3 ?_ | refine p4 ?_)
   refine ⟨?_,rfl⟩
   rw [if_neg (by decide),if_neg (by decide),if_neg (by decide),if_pos rfl]
   rfl
  ·repeat (first | refine p1 ?_ | refine p2 ?_ | refine p3 ?_ | refine p4 ?_)
   refine ⟨?_,rfl⟩
   rw [if_neg (by decide),if_neg (by decide),if_neg (by decide),if_neg (by decide),if_pos rfl,hlast,hhead]
   rfl
end Go.Proofs.YtkoalgjlkcaonaaGreatDoor
/-
  The ghost machine: a region that draws its order: of two operations that may come up at once, one may be a call of values, or may read own things.
-/
namespace Go.GK
open Go.RowKit
section
variable {cx : Cx} {T : Post}
theorem Stp.read {ops : List Oper} {k : List It} {σs : Heap} {ρq : Env} {fuel : Nat} {listed : List Bool} {s : St} (i : Nat) {o : Oper} (hp : cx.pg.Ok) (hi : ops[i]?=some o) (hgd : gdOk ops s.ρ o.guard=true)
  (h : pv cx.pg s.ρ (s.σ++σs) o.op fun g=>nf g fun g=>dput cx.N s.ρ o.dst g fun ρ'=>nfE (qput ρq o.dst g) fun ρq=>RA cx T ops k σs ρq fuel (listed.set i true) ⟨ρ',s.σ,s.n⟩) : Stp cx T ops k σs ρq fuel listed s i o:=by
 refine ⟨hi,hgd,fun n0 H0 S0 w0 h0 g0 H a w K Q' hg hs ha hsat hK=>?_⟩
 obtain ⟨u,g,hrun,hiu,hk⟩:=pv_sound hp hg ha.env hsat h
 simp only [nf_eq,nfE_eq] at hk
 have hlt:=dput_lt hk
 refine upon_value_wp (u:=u) (.inl (hrun w (Agr.refl hsat) o rfl)) ?_
 obtain ⟨ρ',ha',hra⟩:=ha.dput hiu hk
 exact hK H u g w s ρ' (Hid.le.refl H) hiu (hs.ρ _) ha' hlt hra
theorem Stp.rt {ops : List Oper} {k : List It} {σs : Heap} {ρq : Env} {fuel : Nat} {listed : List Bool} {s : St} (i : Nat) {o : Oper} {f : FuncId} {cargs : List GV} {G : GV} (hr : Rt cx.pg f cargs G) (hi : ops[i]?=some o) (hk : callG cx.pg ops s.ρ o=some (f,cargs)) (hb : idbL 0 cargs=true)
  (h : dputV cx.N s.ρ o.dst G fun ρ'=>nfE (qput ρq o.dst G) fun ρq=>RA cx T ops k σs ρq fuel (listed.set i true) ⟨ρ',s.σ,s.n⟩) : Stp cx T ops k σs ρq fuel listed s i o:=by
 obtain ⟨fo,args,ts,first,caps,gs,ho',hgd,hf,he,hargs⟩:=callG_spec hk
 refine ⟨hi,hgd,fun m0 H0 S0 w0 h0 g0 H a w K Q' hg hs ha _ hK=>?_⟩
 refine call_wp (cx:=⟨cx.pg,cx.N,m0,H0,S0,w0,h0,g0⟩) hr.ct hr.call id ho' hf he (by rw [renL_id]; exact hargs) (σc:=[]) trivial (by simp [hb,idbH,hids,distB]) (by simp) hg hs ha.env fun H'' u g σ' n' w' hle hiu hQ hsim=>?_
 obtain ⟨⟨rfl,hidb⟩,rfl,rfl⟩:=hQ
 have e1 : renH (sh id 0 s.n) []++hrest (hids id []) s.σ=s.σ:=by rw [show hids id []=[] from rfl,hrest_nil]; rfl
 rw [ren_none _ hidb] at hiu
 rw [e1] at hsim
 rw [dputV_eq] at h
 simp only [nfE_eq] at h
 have hlt:=dput_lt h
 obtain ⟨ρ',ha',hra⟩:=(ha.mono hle).dput hiu h
 exact hK H'' u _ w' ⟨ρ',_,_⟩ ρ' hle hiu (hsim ρ') ha' hlt hra
end
end Go.GK
/-
  The ghost machine: an own row is written no more, in a region that draws.
-/
namespace Go.GK
open Go.RowKit
section
variable {cx : Cx} {T : Post}
theorem Sim.freeze {s : St} {H : Hid} {a : Act} {w : World} (id : Nat) {ty sz : Nat} {rows : List (List GV)} (hl : hlook s.σ id=some (.row ty sz rows)) (hg : GlOk cx.pg H) (hs : Sim cx H s w) (ha : ActOk cx H s.ρ a) :
  ∃ ro' : Nat→Option Obj,GlOk cx.pg { H with ro:=ro' }∧Sim cx { H with ro:=ro' } ⟨frzE id sz rows s.ρ,frzH id sz rows (hdel s.σ id),s.n⟩ w∧ActOk cx { H with ro:=ro' } (frzE id sz rows s.ρ) a:=by
 obtain ⟨l1,l2,e1,e2,_⟩:=hlook_split hl
 have hmem:=hlook_mem hl
 obtain ⟨xs,hown,hrow⟩:=hs.sat.holds _ hmem
 let ro' : Nat→Option Obj:=fun b=>if (H.sv id).ownBlock=some b then w.heap[b]? else H.ro b
 have hfree : ∀ b,(H.sv id).ownBlock=some b→H.ro b=none:=fun b hb=>hs.sat.free b (List.mem_flatMap.2 ⟨_,hmem,by simp [blocks,hb]⟩)
 have hro : ∀ b o,H.ro b=some o→ro' b=some o:=by
  intro b o ho
  show (if _ then _ else _)=_
  rw [if_neg (fun hb=>by rw [hfree b hb] at ho; cases ho)]
  exact ho
 let H' : Hid:={ H with ro:=ro' }
 have hle : H.le H':=⟨Nat.le_refl _,hro,fun _ _=>rfl,fun _ _=>rfl⟩
 have hsl : IsR ro' (.sl sz rows) (H.sv id):=hrow.sl hro hown (fun b hb=>by show (if _ then _ else _)=_; rw [if_pos hb])
 have hfz : ∀ {g : GV} {u : Value},Is H g u→Is H' (frz id sz rows g) u:=fun hi=>Is.frz (H':=H') hro rfl rfl rfl hsl hi
 have hfr:=hs.fr
 have hnd:=hs.sat.nodup
 have hbl : blks H' (frzH id sz rows (hdel s.σ id))=blks H (l1++l2):=by rw [e2]; exact frzH_blks rfl rfl _
 rw [e1,blks_append,blks_cons] at hnd
 have n1:=List.nodup_append.1 hnd
 have n2:=List.nodup_append.1 n1.2.1
 have hin : ∀ b ∈ blks H (l1++l2),b ∈ blks H s.σ:=fun b hb=>by
  rw [e1,blks_append,blks_cons]
  rw [blks_append] at hb
  rcases List.mem_append.1 hb with h1 | h1 <;> simp [h1]
 have hnin : ∀ b ∈ blks H (l1++l2),(H.sv id).ownBlock ≠ some b:=fun b hb hc=>by
  have hc' : b ∈ blocks H (id,.row ty sz rows):=by simp [blocks,hc]
  rw [blks_append] at hb
  rcases List.mem_append.1 hb with h1 | h1
  ·exact n1.2.2 b h1 b (by simp [hc']) rfl
  ·exact n2.2.2 b hc' b h1 rfl
 refine ⟨ro',hg.up hro,⟨hs.n,⟨fun b o ho=>?_,fun x hx=>?_,?_,fun b hb=>?_,fun x hx=>?_⟩,?_⟩,⟨fun t g hlk=>?_,ha.size,ha.defers⟩⟩
 ·have ho' : (if (H.sv id).ownBlock=some b then w.heap[b]? else H.ro b)=some o:=ho
  split at ho'
  ·exact ho'
  ·exact hs.sat.ro b o ho'
 ·obtain ⟨y,hy,rfl⟩:=frzH_mem hx
  rw [e2] at hy
  have hy' : y ∈ s.σ:=by
   rw [e1]
   rcases List.mem_append.1 hy with h1 | h1 <;> simp [h1]
  have hh:=hs.sat.holds y hy'
  obtain ⟨j,r⟩:=y
  cases r with
  | blk ty cs =>
   obtain ⟨us,hw,hlen,hi⟩:=hh
   refine ⟨us,hw,by rw [frzL_len]; exact hlen,fun j g hj=>?_⟩
   rw [frzL_get] at hj
   cases hc : cs[j]? with
   | none=>rw [hc] at hj; cases hj
   | some x=>rw [hc] at hj; simp at hj; subst hj; exact hfz (hi j x hc)
  | row ty z rs=>obtain ⟨ys,h1,h2⟩:=hh; exact ⟨ys,h1,h2.mono hro⟩
  | ob o=>exact hh
  | ln z n=>exact hh
  | sub i z lo n=>exact hh
  | mp kd es =>
   obtain ⟨b,arr,clock,h1,h2,h3⟩:=hh
   exact ⟨b,arr,clock,h1,h2,h3.frz hfz⟩
  | mr kd es left cur =>
   obtain ⟨b,arr,clock,seen,h1,h2,h3,h4,h5⟩:=hh
   exact ⟨b,arr,clock,seen,h1,h2,h3,h4.frz hfz,h5⟩
  | itr m=>exact hh
  | me kd es k st =>
   obtain ⟨h0,b,arr,clock,h1,h2,h3,h4⟩:=hh
   exact ⟨h0,b,arr,clock,h1,h2,h3.frz hfz,h4⟩
  | ab A=>exact A.mono _ _ _ _ _ hro hh
  | mre kd es left cur k st =>
   obtain ⟨h0,b,arr,clock,seen,h1,h2,h3,h4,h5⟩:=hh
   exact ⟨h0,b,arr,clock,seen,h1,h2,h3,h4.frz hfz,h5⟩
 ·rw [hbl,blks_append]
  exact List.nodup_append.2 ⟨n1.1,n2.2.1,fun b hb c hc e=>n1.2.2 b hb c (by simp [hc]) e⟩
 ·rw [hbl] at hb
  show (if _ then _ else _)=_
  rw [if_neg (hnin b hb)]
  exact hs.sat.free b (hin b hb)
 ·obtain ⟨y,hy,rfl⟩:=frzH_mem hx
  rw [e2] at hy
  refine hs.sat.ids y ?_
  rw [e1]
  rcases List.mem_append.1 hy with h1 | h1 <;> simp [h1]
 ·refine ⟨hfr.os,hfr.tape,hfr.output,hfr.size,hfr.keep,fun b hb=>?_,fun b h1 h2=>?_,hfr.le.trans hle⟩
  ·rw [hbl] at hb
   exact hfr.own b (hin b hb)
  ·have h2' : (if (H.sv id).ownBlock=some b then w.heap[b]? else H.ro b) ≠ none:=h2
   split at h2'
   ·rename_i hb
    exact hfr.own b (List.mem_flatMap.2 ⟨_,hmem,by simp [blocks,hb]⟩)
   ·exact hfr.fro b h1 h2'
 ·rw [frzE_look] at hlk
  cases hc : look s.ρ t with
  | none=>rw [hc] at hlk; cases hlk
  | some x=>rw [hc] at hlk; simp at hlk; subst hlk; exact hfz (ha.env t x hc)
theorem RA.freeze {ops : List Oper} {k : List It} {σs : Heap} {ρq : Env} {fuel : Nat} {listed : List Bool} {s : St} (id : Nat) {ty sz : Nat} {rows : List (List GV)} (hl : hlook s.σ id=some (.row ty sz rows))
  (h : nfH (frzH id sz rows (hdel s.σ id)) fun σ=>nfE (frzE id sz rows s.ρ) fun ρ=>RA cx T ops k σs ρq fuel listed ⟨ρ,σ,s.n⟩) : RA cx T ops k σs ρq fuel listed s:=by
 rw [nfH_eq,nfE_eq] at h
 intro n0 H0 S0 w0 h0 g0 hσ hap hfree hlink H a w hs ha hq
 have hg : GlOk cx.pg H:=cx.g0.mono (hlink H s w hs).fr.le
 obtain ⟨ro',_,hs',ha'⟩:=Sim.freeze (cx:=⟨cx.pg,cx.N,n0,H0,S0,w0,h0,g0⟩) id hl hg hs ⟨ha.env,ha.size,ha.defers⟩
 exact h n0 H0 S0 w0 h0 g0 hσ hap hfree hlink { H with ro:=ro' } a w hs' ⟨ha'.env,ha'.size,ha'.defers⟩ hq
end
end Go.GK
/-
  The ghost machine: a region that draws its order: three operations may come up at once.
-/
namespace Go.GK
open Go.RowKit
section
variable {cx : Cx} {T : Post}
end
end Go.GK
/-
  The ghost machine: cells of an own block that are told otherwise (a nil slice as an empty one).
-/
namespace Go.GK
open Go.RowKit
inductive SubV : List GV→List GV→Prop
 | nil : SubV [] []
 | cons {x y : GV} {xs ys : List GV} (h : Sub x y) (t : SubV xs ys) : SubV (x :: xs) (y :: ys)
theorem SubV.is {H : Hid} {F : Nat→Value} : ∀ {xs ys : List GV},SubV xs ys→(∀ j g,ys[j]?=some g→Is H g (F j))→xs.length=ys.length∧∀ j g,xs[j]?=some g→Is H g (F j)
 | [],[],_,_=>⟨_root_.rfl,fun j x h=>by simp at h⟩
 | _ :: _,_ :: _,.cons h t,hF=>by
  obtain ⟨h1,h2⟩:=SubV.is (F:=fun j=>F (j + 1)) t fun j g hj=>hF (j + 1) g (by simpa using hj)
  refine ⟨by simp [h1],fun j x hx=>?_⟩
  cases j with
  | zero=>simp at hx; subst hx; exact h (hF 0 _ (by simp))
  | succ j=>exact h2 j x (by simpa using hx)
section
variable {cx : Cx} {T : Post}
theorem JK.subBlk {k : List It} {s : St} (id : Nat) {ty : Nat} {cs : List GV} (cs' : List GV) (hl : hlook s.σ id=some (.blk ty cs)) (he : SubV cs' cs) (h : nfH (hset s.σ id (.blk ty cs')) fun σ=>JK cx T k ⟨s.ρ,σ,s.n⟩) : JK cx T k s:=by
 rw [nfH_eq] at h
 refine JK.upd ⟨s.ρ,hset s.σ id (.blk ty cs'),s.n⟩ (fun H a w hg hs ha=>⟨H,hg,?_,ha⟩) h
 obtain ⟨us',hw,hlen,his⟩:=hs.sat.holds _ (hlook_mem hl)
 obtain ⟨e4,e5⟩:=he.is (F:=fun j=>us'.getD j undef) his
 exact hs.put (y:=.blk ty cs') (w':=w) hl rfl rfl rfl rfl (Nat.le_refl _) (fun _ _ _=>rfl) ⟨us',hw,by rw [e4]; exact hlen,e5⟩ s.ρ
theorem Stp.hf {ops : List Oper} {k : List It} {σs : Heap} {ρq : Env} {fuel : Nat} {listed : List Bool} {s : St} (i : Nat) {o : Oper} {f : FuncId} {m : Nat} {cargs gs : List GV} {σc : Heap} {Q : GV→Heap→Nat→Prop} (hr : Hf cx.pg f m cargs σc Q) (r : Nat→Nat) (hi : ops[i]?=some o) (hk : callG cx.pg ops s.ρ o=some (f,gs)) (hargs : gs=renL r cargs) (hσ : leσ r σc s.σ)
  (chk : (idbL m cargs && idbH m σc && distB (hids r σc))=true) (hrn : ∀ i,i < m→r i < s.n)
  (h : ∀ g σ' n',Q g σ' n'→nf (ren (sh r m s.n) g) fun g=>nfH (renH (sh r m s.n) σ'++hrest (hids r σc) s.σ) fun σ=>nfN (s.n + (n' - m)) fun n=>dputV cx.N s.ρ o.dst g fun ρ'=>nfE (qput ρq o.dst g) fun ρq=>RA cx T ops k σs ρq fuel (listed.set i true) ⟨ρ',σ,n⟩) : Stp cx T ops k σs ρq fuel listed s i o:=by
 obtain ⟨fo,args,ts,first,caps,gs',ho',hgd,hf,he,hargs'⟩:=callG_spec hk
 refine ⟨hi,hgd,fun m0 H0 S0 w0 h0 g0 H a w K Q' hg hs ha _ hK=>?_⟩
 refine call_wp (cx:=⟨cx.pg,cx.N,m0,H0,S0,w0,h0,g0⟩) hr.ct hr.call r ho' hf he (hargs'.trans hargs) (σc:=σc) hσ chk hrn hg hs ha.env fun H'' u g σ' n' w' hle hiu hQ hsim=>?_
 have h:=h g σ' n' hQ
 simp only [nf_eq,nfH_eq,nfN_eq] at h
 rw [dputV_eq] at h
 simp only [nfE_eq] at h
 have hlt:=dput_lt h
 obtain ⟨ρ',ha',hra⟩:=(ha.mono hle).dput hiu h
 exact hK H'' u _ w' ⟨ρ',_,_⟩ ρ' hle hiu (hsim ρ') ha' hlt hra
end
end Go.GK
/-
  The ghost machine: own maps of own things, in a number that is not fixed: one is taken out, and given back; all are written no more.
-/
namespace Go.GK
open Go.RowKit

structure Fam (α : Type) where
 D : α→List Nat→Abs
 fpE : ∀ a f,(D a f).fp=f
 ow : ∀ a f ro b v w,(D a f).P ro b v w→GK.ow v=true
section
variable {α : Type} {F : Fam α} {ro ro' : Nat→Option Obj} {w w' : World}
end
abbrev kv {α : Type} (x : Value × α × Value) : Value × Value:=(x.1,x.2.2)
abbrev mE {α : Type} (l : List (Value × α × Value)) : List (Value × GV):=l.map fun x=>(x.1,GV.v x.2.2)
section
variable {cx : Cx} {T : Post} {k : List It} {s : St}
theorem Sim.swap {H : Hid} {w : World} (hs : Sim cx H s w) (H' : Hid) (hle : H.le H') (hro : H'.ro=H.ro) {old keep : Heap} (new : Heap) (hp : s.σ.Perm (old++keep)) (hh : ∀ x ∈ new,holds H' w x) (hid : ∀ x ∈ new,x.1 < H'.n) (hb : (blks H' new).Perm (blks H old)) (ρ' : Env) : Sim cx H' ⟨ρ',new++keep,H'.n⟩ w:=by
 have hk : ∀ x ∈ keep,x ∈ s.σ:=fun x hx=>hp.mem_iff.2 (by simp [hx])
 have hkb : blks H' keep=blks H keep:=blks_le hle fun x hx=>hs.sat.ids x (hk x hx)
 have hall : (blks H' (new++keep)).Perm (blks H s.σ):=by
  rw [blks_append,hkb]
  refine (hb.append_right _).trans ?_
  rw [← blks_append]
  exact (List.Perm.flatMap_right (blocks H) hp).symm
 refine ⟨rfl,⟨?_,fun x hx=>?_,hall.nodup_iff.2 hs.sat.nodup,fun b hb=>?_,fun x hx=>?_⟩,?_⟩
 ·rw [hro]; exact hs.sat.ro
 ·rcases List.mem_append.1 hx with hx | hx
  ·exact hh x hx
  ·exact holds_le hle (hs.sat.ids x (hk x hx)) (hs.sat.holds x (hk x hx))
 ·rw [hro]; exact hs.sat.free b (hall.mem_iff.1 hb)
 ·rcases List.mem_append.1 hx with hx | hx
  ·exact hid x hx
  ·exact Nat.lt_of_lt_of_le (hs.sat.ids x (hk x hx)) hle.n
 ·have hf:=hs.fr
  exact ⟨hf.os,hf.tape,hf.output,hf.size,hf.keep,fun c hc=>hf.own c (hall.mem_iff.1 hc),fun b h1 h2=>hf.fro b h1 (by rw [hro] at h2; exact h2),hf.le.trans hle⟩
def Hid.plus (H : Hid) (n : Nat) (bl : Nat→Nat) (sv : Nat→Value) : Hid:=⟨H.ro,fun i=>if i < H.n then H.bl i else bl (i - H.n),fun i=>if i < H.n then H.sv i else sv (i - H.n),H.n + n⟩
theorem Hid.plus_le (H : Hid) (n : Nat) (bl : Nat→Nat) (sv : Nat→Value) : H.le (H.plus n bl sv):=⟨by show H.n≤H.n + n; omega,fun _ _ h=>h,fun i hi=>if_pos hi,fun i hi=>if_pos hi⟩
end
end Go.GK
/-
  The ghost machine: own maps of own maps of own rows; all of them written no more.
-/
namespace Go.GK
open Go.RowKit

section
variable {cx : Cx} {T : Post} {k : List It} {s : St}
end
end Go.GK
/-
  The ghost machine: maps whose entries lie as they lie: what is found, and put.
-/
namespace Go.GK
open Go.RowKit
theorem vkey_str {a b : ByteArray} : vkey (.string a) (.string b)=true ↔ a=b:=by
 constructor
 ·intro h
  have:=vkey_eq (kd:=none) rfl rfl h
  injection this
 ·rintro rfl
  exact vkey_refl (kd:=none) rfl
theorem vkey_no {a b : ByteArray} (h : a ≠ b) : vkey (.string a) (.string b)=false:=by
 cases hv : vkey (.string a) (.string b) with
 | false=>rfl
 | true=>exact absurd (vkey_str.1 hv) h
theorem mfind_skip {k : Value} {b : List (Value × GV)} : ∀ {a : List (Value × GV)},(∀ y ∈ a,vkey k y.1=false)→mfind k (a++b)=mfind k b
 | [],_=>rfl
 | (k',g) :: r,h=>by
  show mfind k ((k',g) :: (r++b))=_
  rw [mfind,if_neg (by rw [h (k',g) (by simp)]; decide),mfind_skip (a:=r) fun y hy=>h y (by simp [hy])]
section
variable {α : Type} {s : ByteArray} {m m1 m2 : List (Value × α × Value)} {g g' : GV}
def NoKey {α : Type} (s : ByteArray) (m : List (Value × α × Value)) : Prop:=∀ x ∈ m,∃ t,x.1=.string t∧s ≠ t
theorem NoKey.vk (h : NoKey s m) : ∀ y ∈ mE m,vkey (.string s) y.1=false:=fun y hy=>by
 obtain ⟨x,hx,rfl⟩:=List.mem_map.1 hy
 obtain ⟨t,e,hn⟩:=h x hx
 show vkey _ x.1=false
 rw [e]
 exact vkey_no hn
theorem find_no (h : NoKey s m) : mfind (.string s) (mE m)=none:=by
 have:=mfind_skip (b:=[]) h.vk
 rw [List.append_nil] at this
 rw [this]
 rfl
end
section
variable {cx : Cx} {T : Post} {k : List It} {s : St}
end
end Go.GK
/-
  The ghost machine: functions that may throw: contracts, calls, the throw itself; a piece of code that does not.
-/
namespace Go.GK
open Go.RowKit

def panA (v : Value) (g : GV) : Abs where
 P:=fun ro _ _ _=>IsR ro g v
 fp:=[]
 ex:=fun _ _ _ _ _ c hc=>by cases hc
 congr:=fun _ _ _ _ _ _ h=>h
 mono:=fun _ _ _ _ _ hro h=>h.mono hro
abbrev thrown (v : Value) : Exit:=.panic [{ v:=v,recovered:=false }]
theorem isR_of {H : Hid} {g : GV} {u : Value} (h : Is H g u) : idb 0 g=true→IsR H.ro g u:=by
 have hget : ∀ {cs : List GV} {j : Nat} {g : GV},idbL 0 cs=true→cs[j]?=some g→idb 0 g=true:=by
  intro cs
  induction cs with
  | nil=>intro j g _ hj; simp at hj
  | cons x r ih =>
   intro j g hb hj
   simp only [idbL,Bool.and_eq_true] at hb
   cases j with
   | zero=>simp at hj; subst hj; exact hb.1
   | succ j=>exact ih hb.2 (by simpa using hj)
 induction h with
 | ro h=>exact fun _=>h
 | p h=>intro hb; simp [idb] at hb
 | e h hs=>intro hb; simp [idb] at hb
 | o h hs h1=>intro hb; simp [idb] at hb
 | agg hl h ih=>intro hb; simp only [idb] at hb; exact .agg hl fun j g hj=>ih j g hj (hget hb hj)
 | tup hl h ih=>intro hb; simp only [idb] at hb; exact .tup hl fun j g hj=>ih j g hj (hget hb hj)
 | fn hl h hl' h' ih ih'=>intro hb; simp only [idb,Bool.and_eq_true] at hb; exact .fn hl (fun j g hj=>ih j g hj (hget hb.1 hj)) hl' fun j g hj=>ih' j g hj (hget hb.2 hj)
 | ifc h ih=>intro hb; simp only [idb] at hb; exact .ifc (ih hb)

def Ctp (p : Pg) (f : FuncId) (n0 : Nat) (args : List GV) (σ : Heap) (Q : GV→Heap→Nat→Prop) (R : GV→Prop) : Prop :=
 ∀ H us w,H.n=n0→GlOk p H→Cells H args us→Sat H σ w→Calls p.P f us w fun e w' =>
  (∃ u g H' σ',e=.returned u∧Is H' g u∧Sat H' σ' w'∧Fr H (blks H σ) w H' (blks H' σ') w'∧Q g σ' H'.n) ∨
  (∃ v g H',e=.panicked [{ v:=v,recovered:=false }]∧Is H' g v∧Sat H' [] w'∧Fr H (blks H σ) w H' [] w'∧R g∧idb 0 g=true)
structure Hx (p : Pg) (f : FuncId) (n0 : Nat) (args : List GV) (σ : Heap) (Q : GV→Heap→Nat→Prop) (R : GV→Prop) : Prop where
 call : ∀ aas w,(callFunc f aas).run p.P w=.ok (.enter f aas) w
 ct : Ctp p f n0 args σ Q R
theorem Hf.x {p : Pg} {f : FuncId} {n0 : Nat} {args : List GV} {σ : Heap} {Q : GV→Heap→Nat→Prop} {R : GV→Prop} (h : Hf p f n0 args σ Q) : Hx p f n0 args σ Q R :=
 ⟨h.call,fun H us w a b c d=>(h.ct H us w a b c d).mono fun _ _ h=>.inl h⟩
def retX (p : Pg) (rs : List ResultVar) (Q : GV→Heap→Nat→Prop) (R : GV→Prop) : Post:=fun e s =>
 match e with
 | .panic ch=>∃ v g X,ch=[{ v:=v,recovered:=false }]∧hlook s.σ X=some (.ab (panA v g))∧R g∧idb 0 g=true
 | .ret | .normal=>(match resAll p s rs with | some gs=>Q (resG gs) s.σ s.n | none=>False)
 | _=>False
theorem Hx.ofJ {p : Pg} {f : FuncId} {fn : Func} {c : Code} {n0 N : Nat} {args : List GV} {σ : Heap} {Q : GV→Heap→Nat→Prop} {R : GV→Prop} (hp : p.Ok) (hf : p.P.funcs[f]?=some fn) (hb : fn.body=some c) (hN : fn.ntmps=N) (hl : Nat.ble args.length N=true) {rs : Array ResultVar} (hr : fn.results=rs)
  (hc : ∀ aas w,(callFunc f aas).run p.P w=.ok (.enter f aas) w)
  (h : ∀ (H0 : Hid) (S0 : List Nat) (w0 : World) (h0 : H0.n=n0) (g0 : GlOk p H0),JK ⟨p,N,n0,H0,S0,w0,h0,g0⟩ (retX p rs.toList Q R) [.code c] ⟨argEnv 0 args,σ,n0⟩) : Hx p f n0 args σ Q R:=by
 refine ⟨hc,fun H us w hn hg hcs hs=>?_⟩
 have hl':=Nat.le_of_ble_eq_true hl
 have hus : us.size=args.length:=hcs.1.symm
 refine calls_of_wp hf hb ?_
 have hJ:=h H (blks H σ) w hn hg H { tmps:=us++Array.replicate (fn.ntmps - us.size) undef,defers:=[] } w hg ⟨hn,hs,Fr.refl _ _ _⟩ ⟨fun t g hlk=>?_,by simp [hN,hus]; omega,rfl⟩
 ·refine Code.wp_mono (fun e a w' hq=>?_) hJ
  obtain ⟨H',s',hs',ha',hT⟩:=hq
  have key : (match resAll p s' rs.toList with | some gs=>Q (resG gs) s'.σ s'.n | none=>False)→a.defers=[]∧∃ v,(results fn a.tmps).run p.P w'=.ok v w'∧((∃ u g H' σ',Ending.returned v=.returned u∧Is H' g u∧Sat H' σ' w'∧Fr H (blks H σ) w H' (blks H' σ') w'∧Q g σ' H'.n)∨(∃ v' g H',Ending.returned v=.panicked [{ v:=v',recovered:=false }]∧Is H' g v'∧Sat H' [] w'∧Fr H (blks H σ) w H' [] w'∧R g∧idb 0 g=true)):=by
   intro hk
   cases hra : resAll p s' rs.toList with
   | none=>rw [hra] at hk; exact hk.elim
   | some gs =>
    rw [hra] at hk
    obtain ⟨vs,hvs,hcv⟩:=resAll_run hp hs'.sat ha'.env hra
    have hvs : (rs.toList.mapM (fun | .tmp t=>pure (a.tmps.getD t undef) | .cell c t=>do loadVar t (← asAddr (a.tmps.getD c undef)) : ResultVar→Sem Value)).run p.P w'=.ok vs w':=hvs
    refine ⟨ha'.defers,_,?_,.inl ⟨(if h : vs.toArray.size=1 then vs.toArray[0] else .tuple vs.toArray),resG gs,H',s'.σ,rfl,?_,hs'.sat,hs'.fr,by rw [hs'.n]; exact hk⟩⟩
    ·have : (fn.results.mapM (fun | .tmp t=>pure (a.tmps.getD t undef) | .cell c t=>do loadVar t (← asAddr (a.tmps.getD c undef)) : ResultVar→Sem Value)).run p.P w'=.ok vs.toArray w':=by
      rw [hr,Array.mapM_eq_mapM_toList,Sem.run_map,hvs]
      rfl
     have e : results fn a.tmps=(fn.results.mapM (fun | .tmp t=>pure (a.tmps.getD t undef) | .cell c t=>do loadVar t (← asAddr (a.tmps.getD c undef)) : ResultVar→Sem Value) >>= fun vs=>pure (if h : vs.size=1 then vs[0] else .tuple vs)):=rfl
     rw [e,Sem.run_bind,this]
     rfl
    ·have hlen:=hcv.1
     simp at hlen
     by_cases h1 : vs.toArray.size=1
     ·rw [dif_pos h1]
      match gs,hcv,hlen with
      | [g],hcv,_ =>
       have:=hcv.2 0 g rfl
       simp at h1
       match vs,h1 with
       | [v],_=>simpa [resG] using this
      | [],_,hlen=>simp at h1 hlen; omega
      | _ :: _ :: _,_,hlen=>simp at h1 hlen; omega
     ·rw [dif_neg h1]
      match gs,hcv,hlen with
      | [g],hcv,hlen=>simp at h1 hlen; omega
      | [],hcv,_=>exact .tup hcv.1 hcv.2
      | _ :: _ :: _,hcv,_=>exact .tup hcv.1 hcv.2
  cases e with
  | normal=>exact key hT
  | ret=>exact key hT
  | exit id=>exact hT.elim
  | goto l=>exact hT.elim
  | panic ch =>
   obtain ⟨v,g,X,rfl,hX,hR,hid⟩:=hT
   have hv : IsR H'.ro g v:=hs'.sat.holds _ (hlook_mem hX)
   have hfr:=hs'.fr
   exact ⟨ha'.defers,.inr ⟨v,g,H',rfl,.ro hv,⟨hs'.sat.ro,by simp,by simp [blks],by simp [blks],by simp⟩,⟨hfr.os,hfr.tape,hfr.output,hfr.size,hfr.keep,by simp,hfr.fro,hfr.le⟩,hR,hid⟩⟩
  | outgrown=>exact hT.elim
 ·obtain ⟨h1,h2⟩:=argEnv_look (H:=H) (us:=us) (args:=args) (i:=0) (fun j g hj=>by simpa using hcs.2 j g hj) t g hlk
  have : (us++Array.replicate (fn.ntmps - us.size) undef).getD t undef=us.getD t undef:=by
   have hlt : t < us.size:=by omega
   simp only [Array.getD_eq_getD_getElem?]
   rw [Array.getElem?_append_left hlt]
  rw [this]
  exact h1
section
variable {cx : Cx} {T : Post}
theorem post_thrown {s : St} {H : Hid} {a : Act} {w : World} (hs : Sim cx H s w) (ha : ActOk cx H s.ρ a) {v : Value} {g : GV} (hv : IsR H.ro g v) (hT : T (thrown v) ⟨s.ρ,(s.n,.ab (panA v g)) :: s.σ,s.n + 1⟩) : post cx T (thrown v) a w:=by
 have hle:=H.plus_le 1 (fun _=>0) (fun _=>undef)
 have hn:=hs.n
 have hnn : (H.plus 1 (fun _=>0) (fun _=>undef)).n=s.n + 1:=by rw [← hn]; rfl
 have hrr : (H.plus 1 (fun _=>0) (fun _=>undef)).ro=H.ro:=rfl
 generalize H.plus 1 (fun _=>0) (fun _=>undef)=H' at hle hnn hrr
 have hsw:=Sim.swap hs H' hle hrr [(s.n,.ab (panA v g))] (old:=[]) (.refl _) (fun x hx=>by
  rw [List.mem_singleton.1 hx]
  show IsR H'.ro g v
  rw [hrr]
  exact hv) (fun x hx=>by
  rw [List.mem_singleton.1 hx]
  show s.n < H'.n
  omega) (.refl _) s.ρ
 rw [hnn] at hsw
 exact ⟨H',_,hsw,ha.mono hle,hT⟩
theorem JK.throw {all : List Oper} {o : Oper} {rest : List Oper} {k : List It} {s : St} {x : Operand} {t : TypeId} {g : GV} (ho : o.op=.panic x) (hgd : gdOk all s.ρ o.guard=true) (hx : ev cx.pg s.ρ x=some (.ifc t g)) (hb : idb 0 g=true)
  (hT : ∀ v X σ n,hlook σ X=some (.ab (panA v (.ifc t g)))→T (thrown v) ⟨s.ρ,σ,n⟩) : JK cx T (.ops false all (o :: rest) :: k) s:=by
 intro H a w hg hs ha
 have hw:=gdOk_wanted (o:=o) ha.env hgd
 have hu0:=ev_is hg ha.env hx
 obtain ⟨u,hu,hi⟩:=hu0.inv_ifc
 have hr : IsR H.ro (.ifc t g) (.iface t u):=.ifc (isR_of hi hb)
 show wpList _ _ _ _ _ _
 unfold wpList
 rw [if_pos hw]
 refine .inl ?_
 unfold Oper.wp
 have hrun : (execOp a.eval o).run cx.pg.P w=.halt (.panic (.iface t u)) w:=by
  simp only [execOp,ho,hu,Instr.panic]
  rfl
 rw [hrun,Oper.upon_panic,cont_panic]
 exact post_thrown hs ha hr (hT _ s.n _ _ (by unfold hlook; rw [Nat.beq_refl]; rfl))
theorem JK.callX {all : List Oper} {o : Oper} {rest : List Oper} {k : List It} {s : St} {f : FuncId} {m : Nat} {cargs gs : List GV} {σc : Heap} {Q : GV→Heap→Nat→Prop} {R : GV→Prop} (hr : Hx cx.pg f m cargs σc Q R) (r : Nat→Nat) (hk : callG cx.pg all s.ρ o=some (f,gs)) (hargs : gs=renL r cargs) (hσ : leσ r σc s.σ)
  (chk : (idbL m cargs && idbH m σc && distB (hids r σc))=true) (hrn : ∀ i,i < m→r i < s.n)
  (hT : ∀ g v X σ n,R g→idb 0 g=true→hlook σ X=some (.ab (panA v g))→T (thrown v) ⟨s.ρ,σ,n⟩)
  (h : ∀ g σ' n',Q g σ' n'→nf (ren (sh r m s.n) g) fun g=>nfH (renH (sh r m s.n) σ'++hrest (hids r σc) s.σ) fun σ=>nfN (s.n + (n' - m)) fun n=>dputV cx.N s.ρ o.dst g fun ρ'=>JK cx T (.ops false all rest :: k) ⟨ρ',σ,n⟩) :
  JK cx T (.ops false all (o :: rest) :: k) s:=by
 obtain ⟨fo,args,ts,first,caps,gs',ho,hgd,hf,he,hargs'⟩:=callG_spec hk
 intro H a w hg hs ha
 have hw:=gdOk_wanted (o:=o) ha.env hgd
 show wpList _ _ _ _ _ _
 unfold wpList
 rw [if_pos hw]
 refine .inl ?_
 simp only [Bool.and_eq_true] at chk
 obtain ⟨⟨h1,h2⟩,h3⟩:=chk
 obtain ⟨us,hc,hex⟩:=execOp_call (ts:=ts) hg ha.env hf he hr.call
 rw [hargs',hargs] at hc
 have hpart:=(hs.sat.part hσ h2 h3).1
 have hC:=hr.ct (H.via r m) us w rfl hg.re (cells_back hc h1) hpart
 unfold Oper.wp
 rw [hex o ho w,Oper.upon_enter]
 refine hC.mono ?_
 rintro e w' (⟨u,g,H',σ',rfl,hi,hs',hfr,hQ⟩ | ⟨v,g,H',rfl,hi,hs',hfr,hR,hid⟩)
 ·obtain ⟨H'',hle,hren,hsim⟩:=hs.call hσ h2 h3 hrn hs' hfr s.ρ
  have hd:=h g σ' H'.n hQ
  simp only [nf_eq,nfH_eq,nfN_eq,dputV_eq] at hd
  obtain ⟨ρ',ha',hJ⟩:=(ha.mono hle).dput (hren g u hi) hd
  exact hJ H'' (a.put o.dst u) w' (hg.mono hle) (hsim.ρ ρ') ha'
 ·obtain ⟨H'',hle,hren,hsim⟩:=hs.call hσ h2 h3 hrn hs' hfr s.ρ
  have hg2:=hren g v hi
  rw [ren_none _ hid] at hg2
  show cont cx.pg.P (post cx T) _ (thrown v) a w'
  rw [cont_panic]
  exact post_thrown hsim (ha.mono hle) (isR_of hg2 hid) (hT g v _ _ _ hR hid (by unfold hlook; rw [Nat.beq_refl]; rfl))
end
end Go.GK
/-
  The ghost machine: regions that draw, with calls that may throw; contracts that throw, told otherwise; slices of arrays that are only read.
-/
namespace Go.GK
open Go.RowKit
theorem Act.put_size' (a : Act) (d : Option Nat) (v : Value) : (a.put d v).tmps.size=a.tmps.size:=by cases d <;> simp [Act.put]
theorem Act.put_defers' (a : Act) (d : Option Nat) (v : Value) : (a.put d v).defers=a.defers:=by cases d <;> simp [Act.put]
theorem Hx.weak {p : Pg} {f : FuncId} {n0 : Nat} {args : List GV} {σ : Heap} {Q Q' : GV→Heap→Nat→Prop} {R R' : GV→Prop} (h : Hx p f n0 args σ Q R) (hR : ∀ g,R g→R' g)
  (hQ : ∀ g σ' n',Q g σ' n'→∃ (r : Nat→Nat) (g0 : GV) (τ : Heap) (m : Nat),Q' g0 τ m∧g=ren r g0∧leσ r τ σ'∧(idb m g0 && idbH m τ && distB (hids r τ) && fixB r n0 && Nat.ble n0 m)=true) : Hx p f n0 args σ Q' R':=by
 refine ⟨h.call,fun H us w hn hg hc hs=>?_⟩
 refine Calls.mono (h.ct H us w hn hg hc hs) (fun e w' he=>?_)
 rcases he with ⟨u,g,H',σ',rfl,hi,hs',hfr,hq⟩ | ⟨v,g,H',rfl,hi,hs',hfr,hr,hb⟩
 ·obtain ⟨r,g0,τ,m,hq',rfl,hl,hchk⟩:=hQ g σ' _ hq
  obtain ⟨h1,h2,h3,h4,h5⟩:=and5 hchk
  obtain ⟨hsat,hbl⟩:=hs'.part hl h2 h3
  have hfix:=fixB_fix h4
  have hm:=Nat.le_of_ble_eq_true h5
  refine .inl ⟨u,g0,H'.via r m,τ,rfl,ren_back hi h1,hsat,?_,hq'⟩
  refine ⟨hfr.os,hfr.tape,hfr.output,hfr.size,hfr.keep,fun b hb=>?_,hfr.fro,⟨by rw [hn]; exact hm,hfr.le.ro,fun i hi=>?_,fun i hi=>?_⟩⟩
  ·obtain ⟨x,hx,_,hbx⟩:=hbl b hb
   exact hfr.own b (List.mem_flatMap.2 ⟨x,hx,hbx⟩)
  ·show H'.bl (r i)=_
   rw [hfix i (by omega)]
   exact hfr.le.bl i hi
  ·show H'.sv (r i)=_
   rw [hfix i (by omega)]
   exact hfr.le.sv i hi
 ·exact .inr ⟨v,g,H',rfl,hi,hs',hfr,hR g hr,hb⟩
theorem Hx.imp {p : Pg} {f : FuncId} {n0 : Nat} {args : List GV} {σ : Heap} {Q Q' : GV→Heap→Nat→Prop} {R R' : GV→Prop} (h : Hx p f n0 args σ Q R) (hR : ∀ g,R g→R' g) (hQ : ∀ g σ' n',Q g σ' n'→Q' g σ' n') : Hx p f n0 args σ Q' R':=by
 refine ⟨h.call,fun H us w hn hg hc hs=>?_⟩
 refine Calls.mono (h.ct H us w hn hg hc hs) (fun e w' he=>?_)
 rcases he with ⟨u,g,H',σ',rfl,hi,hs',hfr,hq⟩ | ⟨v,g,H',rfl,hi,hs',hfr,hr,hb⟩
 ·exact .inl ⟨u,g,H',σ',rfl,hi,hs',hfr,hQ _ _ _ hq⟩
 ·exact .inr ⟨v,g,H',rfl,hi,hs',hfr,hR g hr,hb⟩
theorem Hx.hf {p : Pg} {f : FuncId} {n0 : Nat} {args : List GV} {σ : Heap} {Q : GV→Heap→Nat→Prop} (h : Hx p f n0 args σ Q fun _=>False) : Hf p f n0 args σ Q:=by
 refine ⟨h.call,fun H us w hn hg hc hs=>?_⟩
 refine Calls.mono (h.ct H us w hn hg hc hs) (fun e w' he=>?_)
 rcases he with h | ⟨v,g,H',rfl,hi,hs',hfr,hr,hb⟩
 ·exact h
 ·exact hr.elim
theorem Hx.eqG {p : Pg} {f : FuncId} {n0 : Nat} {args : List GV} {σ : Heap} {g : GV} {Q : Heap→Nat→Prop} {R : GV→Prop} (h : Hx p f n0 args σ (fun g' σ' n'=>GK.eqG g g'∧Q σ' n') R) : Hx p f n0 args σ (fun g' σ' n'=>g'=g∧Q σ' n') R:=by
 refine ⟨h.call,fun H us w hn hg hc hs=>?_⟩
 refine Calls.mono (h.ct H us w hn hg hc hs) (fun e w' he=>?_)
 rcases he with ⟨u,g',H',σ',rfl,hi,hs',hfr,he,hR⟩ | h
 ·exact .inl ⟨u,g,H',σ',rfl,eqG_is he hi,hs',hfr,rfl,hR⟩
 ·exact .inr h
section
variable {cx : Cx} {T : Post}
theorem RA.takeX {ops : List Oper} {k : List It} {σs : Heap} {ρq : Env} {fuel : Nat} {listed : List Bool} {s : St} (i : Nat) {o : Oper} (hp : cx.pg.Ok) (hi : ops[i]?=some o) (hsel : Region.noSelect ops.toArray=true) (hf : Region.free .any ops.toArray listed.toArray i=true)
  (hr : (Region.ready .any ops.toArray listed.toArray).contains i=true) (hT : ∀ ch ρ σ n,T (.panic ch) ⟨ρ,σ,n⟩→T (.panic ch) ⟨[],σ,n⟩)
  {N : Env→St→Prop} (hN : ∀ ρq s',N ρq s'→RA cx T ops k σs ρq fuel (listed.set i true) s')
  (h : guardVC ops ρq o.guard (fun ρq'=>pv cx.pg ρq' σs o.op fun g=>dput cx.N s.ρ o.dst g fun ρ'=>N (eput ρq' o.dst g) { s with ρ:=ρ' })
   (fun ρq'=>dput cx.N s.ρ o.dst (.v undef) fun ρ'=>N (eput ρq' o.dst (.v undef)) { s with ρ:=ρ' })) : RA cx T ops k σs ρq (fuel + 1) listed s:=by
 intro n0 H0 S0 w0 h0 g0 hσ hap hfree hlink H a w hs ha hq
 obtain ⟨hrs,hagr⟩:=readSat hσ hap hfree hs
 have hpan : ∀ c a w v,cont cx.pg.P (post cx T) k (.panic c) (a.put o.dst v) w→cont cx.pg.P (post cx T) k (.panic c) a w:=fun c a w v hc=>by
  rw [cont_panic] at hc ⊢
  obtain ⟨H',s',hs',ha',ht⟩:=hc
  obtain ⟨ρ',σ',n'⟩:=s'
  exact ⟨H',⟨[],σ',n'⟩,hs'.ρ [],⟨fun t g h=>(by cases h),by have:=ha'.size; simpa [Act.put_size'] using this,by have:=ha'.defers; simpa [Act.put_defers'] using this⟩,hT c ρ' σ' n' ht⟩
 have hgo : ∀ ρq',EnvOk (H.at H0.ro) ρq' a→Region.wanted o (yielded ops.toArray a.tmps)=true→(pv cx.pg ρq' σs o.op fun g=>dput cx.N s.ρ o.dst g fun ρ'=>N (eput ρq' o.dst g) { s with ρ:=ρ' }) →
   wpAnyH cx.pg.P .any ops.toArray (cont cx.pg.P (post cx T) k) (Held S0 w0) (fuel + 1) listed.toArray a w:=by
  intro ρq' hq' hw hpv
  obtain ⟨u,g,hrun,hiu,hk⟩:=pv_sound hp (GlOk.at g0) hq' hrs hpv
  have hiu' : Is H g u:=hiu.mono (show (H.at H0.ro).le H from ⟨Nat.le_refl _,fun b o ho=>hs.fr.le.ro b o ho,fun _ _=>rfl,fun _ _=>rfl⟩)
  have hlt:=dput_lt hk
  obtain ⟨ρ',ha',hra⟩:=ha.dput hiu' hk
  refine wpAnyH_take (by simpa using hi) hsel hf hr (fun c a w=>hpan c a w u) (.inl ⟨hw,fun w' hh=>hrun w' (hagr w' hh) o rfl⟩) hs.keeps ?_
  rw [set_list]
  refine hN _ _ hra n0 H0 S0 w0 h0 g0 hσ hap hfree hlink H (a.put o.dst u) w (hs.ρ ρ') ha' ?_
  exact EnvOk.at_eput hq' (fun d hd=>by rw [ha.size]; exact hlt d hd) hiu
 have hskip : ∀ ρq',EnvOk (H.at H0.ro) ρq' a→Region.wanted o (yielded ops.toArray a.tmps)=false→(dput cx.N s.ρ o.dst (.v undef) fun ρ'=>N (eput ρq' o.dst (.v undef)) { s with ρ:=ρ' }) →
   wpAnyH cx.pg.P .any ops.toArray (cont cx.pg.P (post cx T) k) (Held S0 w0) (fuel + 1) listed.toArray a w:=by
  intro ρq' hq' hw hk
  have hlt:=dput_lt hk
  obtain ⟨ρ',ha',hra⟩:=ha.dput (u:=undef) (.ro (.v undef)) hk
  refine wpAnyH_take (by simpa using hi) hsel hf hr (fun c a w=>hpan c a w undef) (.inr ⟨hw,rfl⟩) hs.keeps ?_
  rw [set_list]
  refine hN _ _ hra n0 H0 S0 w0 h0 g0 hσ hap hfree hlink H (a.put o.dst undef) w (hs.ρ ρ') ha' ?_
  exact EnvOk.at_eput hq' (fun d hd=>by rw [ha.size]; exact hlt d hd) (.ro (.v undef))
 unfold guardVC at h
 split at h
 ·rename_i hgd
  exact hgo ρq hq (wanted_none hgd) h
 ·rename_i j want hgd
  split at h
  ·rename_i oj hj
   split at h
   ·rename_i d hd
    split at h
    ·rename_i t hl
     have hv:=(hq d _ hl).inv_v
     have hw:=wanted_at hgd hj hd hv
     cases hb : (t == want) with
     | true=>rw [hb] at h hw; exact hgo ρq hq hw h
     | false=>rw [hb] at h hw; exact hskip ρq hq hw h
    ·rename_i t hl
     have hv:=(hq d _ hl).inv_b
     have hw:=wanted_at hgd hj hd hv
     have hput : ∀ c,t=c→EnvOk (H.at H0.ro) ((d,.v (.bool c)) :: ρq) a:=by
      intro c hc x g hx
      unfold look at hx
      cases hb : Nat.beq d x with
      | true =>
       rw [hb] at hx
       simp at hx
       subst hx
       rw [← beq_eq hb,hv,hc]
       exact .ro (.v _)
      | false=>rw [hb] at hx; exact hq x g (by simpa using hx)
     by_cases e : t=want
     ·rw [e] at hw
      exact hgo _ (hput want e) (by simpa using hw) (h.1 e)
     ·have e' : t=!want:=by cases t <;> cases want <;> simp_all
      rw [e'] at hw
      exact hskip _ (hput _ e') (by simpa using hw) (h.2 e')
    ·rename_i vs hl
     exact hskip ρq hq (wanted_not hgd hj hd (hq d _ hl).inv_v) h
    ·exact h.elim
   ·exact h.elim
  ·exact h.elim

theorem RA.runX {ops : List Oper} {k : List It} {σs : Heap} {e : Bool} (hp : cx.pg.Ok) (hsel : Region.noSelect ops.toArray=true) (hT : ∀ ch ρ σ n,T (.panic ch) ⟨ρ,σ,n⟩→T (.panic ch) ⟨[],σ,n⟩) : ∀ (order : List (Nat × Bool)) {fuel : Nat} {listed : List Bool} {ρq : Env} {s : St},ordB ops e order listed=true→rvc cx T ops k σs e order fuel listed ρq s→RA cx T ops k σs ρq fuel listed s
 | [],fuel,listed,ρq,s,hB,h=>by
  simp only [rvc] at h
  cases e with
  | true =>
   simp only [ordB,cond_true,List.isEmpty_iff] at hB
   simp only [cond_true,nfH_eq] at h
   exact RA.done hB h
  | false=>exact h
 | (i,l) :: r,0,_,_,_,_,h=>by simp only [rvc] at h
 | (i,l) :: r,fuel + 1,listed,ρq,s,hB,h=>by
  obtain ⟨ρ,σ,m⟩:=s
  simp only [rvc,nfE_eq,nf_eq] at h
  simp only [ordB] at hB
  cases hi : ops[i]? with
  | none=>rw [hi] at h; exact h.elim
  | some o =>
   rw [hi] at h hB
   simp only [Bool.and_eq_true] at hB h
   obtain ⟨hB1,hB2⟩:=hB
   have ih : ∀ ρq' s',rvc cx T ops k σs e r fuel (listed.set i true) ρq' s'→RA cx T ops k σs ρq' fuel (listed.set i true) s':=fun ρq' s' h'=>RA.runX hp hsel hT r hB2 h'
   cases hpu : (isPure o.op && !l) with
   | true =>
    rw [hpu] at h hB1
    simp only [cond_true,Bool.and_eq_true] at h hB1
    exact RA.takeX i hp hi hsel hB1.2 hB1.1 hT ih h
   | false =>
    rw [hpu] at h hB1
    simp only [cond_false] at h hB1
    cases hgd : gdOk ops ρ o.guard with
    | false =>
     rw [hgd] at h
     cases hgn : gdNo ops ρ o.guard with
     | false=>rw [hgn] at h; exact h.elim
     | true =>
      rw [hgn] at h
      refine RA.skip i hi (eqB_eq hB1) hgn ?_
      revert h
      cases o.dst with
      | none=>exact fun h=>ih _ _ h
      | some d =>
       simp only [dput,cond_true,cond_false]
       cases Nat.blt d cx.N with
       | false=>exact fun h=>h
       | true=>simp only [cond_true,nf_eq]; exact fun h=>ih _ _ h
    | true =>
     rw [hgd] at h
     cases hpp : isPure o.op with
     | true =>
      rw [hpp] at h
      exact RA.read i hp hi (eqB_eq hB1) hgd ih h
     | false =>
      rw [hpp] at h
      exact RA.mem i hp hi (eqB_eq hB1) hgd hpp ih h
theorem RA.callX {ops : List Oper} {k : List It} {σs : Heap} {ρq : Env} {fuel : Nat} {listed : List Bool} {s : St} (i : Nat) {o : Oper} {f : FuncId} {m : Nat} {cargs gs : List GV} {σc : Heap} {Q : GV→Heap→Nat→Prop} {R : GV→Prop} (hr : Hx cx.pg f m cargs σc Q R) (r : Nat→Nat) (hi : ops[i]?=some o) (hrd : Region.ready .any ops.toArray listed.toArray=[i]) (hk : callG cx.pg ops s.ρ o=some (f,gs)) (hargs : gs=renL r cargs) (hσ : leσ r σc s.σ)
  (chk : (idbL m cargs && idbH m σc && distB (hids r σc))=true) (hrn : ∀ i,i < m→r i < s.n)
  (hT : ∀ g v X σ n,R g→idb 0 g=true→hlook σ X=some (.ab (panA v g))→T (thrown v) ⟨s.ρ,σ,n⟩)
  (h : ∀ g σ' n',Q g σ' n'→nf (ren (sh r m s.n) g) fun g=>nfH (renH (sh r m s.n) σ'++hrest (hids r σc) s.σ) fun σ=>nfN (s.n + (n' - m)) fun n=>nfE (qput ρq o.dst g) fun ρq=>dput cx.N s.ρ o.dst g fun ρ'=>RA cx T ops k σs ρq fuel (listed.set i true) ⟨ρ',σ,n⟩) :
  RA cx T ops k σs ρq (fuel + 1) listed s:=by
 obtain ⟨fo,args,ts,first,caps,gs',ho,hgd,hf,he,hargs'⟩:=callG_spec hk
 intro n0 H0 S0 w0 h0 g0 hσ' hap hfree hlink H a w hs ha hq
 have hg : GlOk cx.pg H:=g0.mono hs.fr.le
 refine wpAnyH_all hrd (by simp) (fun j hj=>?_)
 have hji : j=i:=by simpa using hj
 subst hji
 unfold wpOp
 have hi' : ops.toArray[j]?=some o:=by simpa using hi
 rw [hi']
 simp only
 have hw:=gdOk_wanted (o:=o) ha.env hgd
 rw [if_pos hw]
 refine .inl ?_
 simp only [Bool.and_eq_true] at chk
 obtain ⟨⟨h1,h2⟩,h3⟩:=chk
 obtain ⟨us,hc,hex⟩:=execOp_call (ts:=ts) hg ha.env hf he hr.call
 rw [hargs',hargs] at hc
 have hpart:=(hs.sat.part hσ h2 h3).1
 have hC:=hr.ct (H.via r m) us w rfl hg.re (cells_back hc h1) hpart
 unfold Oper.wp
 rw [hex o ho w,Oper.upon_enter]
 refine hC.mono ?_
 rintro e w' (⟨u,g,H',σ',rfl,hi,hs',hfr,hQ⟩ | ⟨v,g,H',rfl,hi,hs',hfr,hR,hid⟩)
 ·obtain ⟨H'',hle,hren,hsim⟩:=hs.call hσ h2 h3 hrn hs' hfr s.ρ
  have hd:=h g σ' H'.n hQ
  rw [nf_eq,nfH_eq,nfN_eq,nfE_eq] at hd
  have hlt:=dput_lt hd
  obtain ⟨ρ',ha',hra⟩:=(ha.mono hle).dput (hren g u hi) hd
  rw [set_list]
  refine ⟨(hsim.ρ ρ').keeps,hra n0 H0 S0 w0 h0 g0 hσ' hap hfree hlink H'' (a.put o.dst u) w' (hsim.ρ ρ') ha' ?_⟩
  exact EnvOk.at_put (H:=H) hq hle (fun d hdd=>by rw [ha.size]; exact hlt d hdd) (hren g u hi)
 ·obtain ⟨H'',hle,hren,hsim⟩:=hs.call hσ h2 h3 hrn hs' hfr s.ρ
  have hg2:=hren g v hi
  rw [ren_none _ hid] at hg2
  show cont cx.pg.P (post cx T) _ (thrown v) a w'
  rw [cont_panic]
  exact post_thrown (hlink H'' _ w' hsim) (ha.mono hle) (isR_of hg2 hid) (hT g v _ _ _ hR hid (by unfold hlook; rw [Nat.beq_refl]; rfl))
theorem JK.sliceArr {all : List Oper} {o : Oper} {rest : List Oper} {k : List It} {s : St} {t e n : Nat} {x : Operand} {ti tie : TI} {vs : List Value} (hp : cx.pg.Ok) (ho : o.op=.slice t x none none none) (hgd : gdOk all s.ρ o.guard=true) (ht : tget cx.pg.tt t=some ti) (htd : ti.d=.array n e) (hte : tget cx.pg.tt e=some tie) (hsz : tie.sz=1) (hx : ev cx.pg s.ρ x=some (.r (vs.map .v))) (hn : vs.length=n) (hne : Nat.ble 1 n=true) (hm : Nat.ble n maxLen=true) (h1 : vs.all (·.oneCell')=true)
  (h : dput cx.N s.ρ o.dst (.sl 1 (vs.map fun v=>[.v v])) fun ρ'=>JK cx T (.ops false all rest :: k) ⟨ρ',s.σ,s.n⟩) : JK cx T (.ops false all (o :: rest) :: k) s:=by
 intro H a w hg hs ha
 have hw:=gdOk_wanted (o:=o) ha.env hgd
 have hu : cx.pg.P.underlying t=some (.array n e):=by have:=(hp.tt _ _ ht).d; rw [htd] at this; exact this
 have hes:=(hp.tt _ _ hte).size
 obtain ⟨ad,us,hv,hc,his⟩:=(ev_is hg ha.env hx).inv_r
 have hb:=run_bounds (p:=cx.pg) (isS:=false) (lo:=none) (hi:=none) (len:=n) (cap:=n) (l:=0) (h:=n) hg ha.env rfl rfl (by omega) (by omega) (by omega) (by omega) w
 have hne:=Nat.le_of_ble_eq_true hne
 have hm:=Nat.le_of_ble_eq_true hm
 have had : ad.add 0=ad:=by cases ad; simp [Addr.add]
 have hrun : (execOp a.eval o).run cx.pg.P w=.ok (.value (.slice (some ad) n n)) w:=by
  have hn0 : ¬ n=0:=by omega
  simp only [Option.map_none,Int.toNat_zero,Int.toNat_natCast] at hb
  simp only [execOp,ho,Instr.sliceAt,Sem.run_bind,run_under hu,Result.andThen_ok,hv,Option.map_none,Instr.sureAddr,Sem.run_pure,hb,hes]
  simp [hn0,had]
 have hval : ∀ (j : Nat) (v : Value),vs[j]?=some v→us j=v∧v.oneCell'=true:=fun j v hj=>by
  have h2:=his j (.v v) (by rw [List.getElem?_map,hj]; rfl)
  cases h2
  exact ⟨rfl,by
   have:=List.all_eq_true.1 h1 (us j) (List.mem_of_getElem? hj)
   simpa using this⟩
 have hI : IsR H.ro (.sl 1 (vs.map fun v=>[.v v])) (.slice (some ad) n n):=by
  have hlen : (vs.map fun v=>[GV.v v]).length=n:=by simp [hn]
  have : IsR H.ro (.sl 1 (vs.map fun v=>[.v v])) (.slice (some ad) (vs.map fun v=>[GV.v v]).length n):=by
   refine .sl (fun i j=>if j=0 then (vs[i]?).getD (.bool false) else .bool false) (by simp) (by omega) hm ?_ ?_ ?_
   ·intro i row hi j g hj
    simp only [List.getElem?_map,Option.map_eq_some_iff] at hi
    obtain ⟨v,hvi,rfl⟩:=hi
    cases j with
    | succ j=>simp at hj
    | zero =>
     have:=hc i (.v v) (by rw [List.getElem?_map,hvi]; rfl)
     rw [(hval i v hvi).1] at this
     simpa [hvi] using this
   ·intro i row hi j g hj
    simp only [List.getElem?_map,Option.map_eq_some_iff] at hi
    obtain ⟨v,hvi,rfl⟩:=hi
    cases j with
    | succ j=>simp at hj
    | zero=>simp at hj; subst hj; simpa [hvi] using IsR.v (ro:=H.ro) v
   ·intro i j
    by_cases hj : j=0
    ·rw [if_pos hj]
     cases hvi : vs[i]? with
     | none=>rfl
     | some v=>exact (hval i v hvi).2
    ·rw [if_neg hj]; rfl
  rwa [hlen] at this
 obtain ⟨ρ',ha',hJ⟩:=ha.dput (.ro hI) h
 exact wpList_run hw hrun (hJ H (a.put o.dst _) w hg (hs.ρ ρ') ha')
end
end Go.GK
/-
  Contracts: questions: the parser's small methods.
-/
namespace Go.Proofs.YtkoalgjlkcaonaaGreatDoor
open Go.GK Go.RowKit Go.PL
set_option maxRecDepth 100000
def tokR (t : Tok) : List GV:=[gi t.kind,gs t.text,gi t.pos]
abbrev tks (l : List Tok) : GV:=.sl 3 (l.map tokR)
abbrev ps (l : List Tok) : Heap:=[(0,.blk 87 [tks l])]
abbrev wrongG (e p : Int) : GV:=.ifc 132 (.agg [.ifc 129 (.r [gi e,gi p])])
theorem fail_hx (t : Tok) (l : List Tok) (e : Int) : Hx pg 38 1 [.p 0 0,gi e] (ps (t :: l)) (fun _ _ _=>False) (fun g=>g=wrongG e t.pos):=by
 refine Hx.ofJ pg_ok Tryz.func38 rfl Tryz.ntmps38 rfl Tryz.results38 Tryz.call38 fun H0 S0 w0 h0 g0=>?_
 refine VM 14 ?_
 refine ⟨tokR t,by decide,rfl,?_⟩
 show JK _ _ _ _
 refine JK.freezeB 1 rfl rfl ?_
 refine JK.throw rfl rfl rfl rfl ?_
 intro v X σ n hX
 exact ⟨v,_,X,rfl,hX,rfl,rfl⟩
def erR {α : Type} (P : PRes α) (g : GV) : Prop:=∃ e p,P=.error (e,p)∧g=wrongG e p
abbrev Thr (T : Post) (R' : GV→Prop) : Prop:=∀ (v : Value) (g : GV) (X : Nat) (ρ : Env) (σ : Heap) (n : Nat),R' g→idb 0 g=true→hlook σ X=some (.ab (panA v g))→T (thrown v) ⟨ρ,σ,n⟩
section
variable {N n0 : Nat} {H0 : Hid} {S0 : List Nat} {w0 : World} {h0 : H0.n=n0} {g0 : GlOk pg H0} {T : Post} {k : List It} {s : St}
theorem GOX (R' : GV→Prop) {all : List Oper} {o : Oper} {rest : List Oper} {f : FuncId} {m : Nat} {cargs gs : List GV} {σc : Heap} {Q : GV→Heap→Nat→Prop} {R : GV→Prop} (hr : Hx pg f m cargs σc Q R) (hR : ∀ g,R g→R' g) (r : Nat→Nat) (hk : callG pg all s.ρ o=some (f,gs)) (hargs : gs=renL r cargs) (hσ : leσ r σc s.σ)
  (chk : (idbL m cargs && idbH m σc && distB (hids r σc))=true) (hrn : ∀ i,i < m→r i < s.n)
  (h : ∀ g σ' n',Q g σ' n'→nf (ren (sh r m s.n) g) fun g=>nfH (renH (sh r m s.n) σ'++hrest (hids r σc) s.σ) fun σ=>nfN (s.n + (n' - m)) fun n=>dputV N s.ρ o.dst g fun ρ'=>JK ⟨pg,N,n0,H0,S0,w0,h0,g0⟩ T (.ops false all rest :: k) ⟨ρ',σ,n⟩)
  (hT : Thr T R':=by exact fun v g X _ _ _ h1 h2 h3=>⟨v,g,X,rfl,h3,h1,h2⟩) :
  JK ⟨pg,N,n0,H0,S0,w0,h0,g0⟩ T (.ops false all (o :: rest) :: k) s :=
 JK.callX hr r hk hargs hσ chk hrn (fun g v X _ _ hg hb hX=>hT v g X _ _ _ (hR g hg) hb hX) h
theorem DRAWX {id : Nat} {ops : Array Oper} (M : List Nat) (e : Bool) (order : List (Nat × Bool)) (hB : (Region.noSelect ops && ordB ops.toList e order (List.replicate ops.toList.length false))=true)
  (h : rvc ⟨pg,N,n0,H0,S0,w0,h0,g0⟩ T ops.toList k (hrest M s.σ++lns (hsel M s.σ)) e order ops.toList.length (List.replicate ops.toList.length false) s.ρ ⟨s.ρ,hsel M s.σ,s.n⟩)
  (hT : ∀ ch ρ σ n,T (.panic ch) ⟨ρ,σ,n⟩→T (.panic ch) ⟨[],σ,n⟩:=by exact fun _ _ _ _ h=>h) : JK ⟨pg,N,n0,H0,S0,w0,h0,g0⟩ T (.code (.region id ops true) :: k) s:=by
 simp only [Bool.and_eq_true] at hB
 exact JK.draw M pg_ok (RA.runX pg_ok hB.1 hT order hB.2 h)
theorem RGOX (R' : GV→Prop) {ops : List Oper} {σs : Heap} {ρq : Env} {fuel : Nat} {listed : List Bool} (i : Nat) (e : Bool) (order : List (Nat × Bool)) {o : Oper} {f : FuncId} {m : Nat} {cargs gs : List GV} {σc : Heap} {Q : GV→Heap→Nat→Prop} {R : GV→Prop} (hr : Hx pg f m cargs σc Q R) (hR : ∀ g,R g→R' g) (r : Nat→Nat) (hi : ops[i]?=some o) (hk : callG pg ops s.ρ o=some (f,gs)) (hargs : gs=renL r cargs) (hσ : leσ r σc s.σ)
  (chk : (idbL m cargs && idbH m σc && distB (hids r σc))=true) (hrn : ∀ i,i < m→r i < s.n)
  (hB : (Region.noSelect ops.toArray && eqB (Region.ready .any ops.toArray listed.toArray) [i] && ordB ops e order (listed.set i true))=true)
  (h : ∀ g σ' n',Q g σ' n'→nf (ren (sh r m s.n) g) fun g=>nfH (renH (sh r m s.n) σ'++hrest (hids r σc) s.σ) fun σ=>nfN (s.n + (n' - m)) fun n=>nfE (qput ρq o.dst g) fun ρq=>dputV N s.ρ o.dst g fun ρ'=>rvc ⟨pg,N,n0,H0,S0,w0,h0,g0⟩ T ops k σs e order fuel (listed.set i true) ρq ⟨ρ',σ,n⟩)
  (hT : Thr T R':=by exact fun v g X _ _ _ h1 h2 h3=>⟨v,g,X,rfl,h3,h1,h2⟩)
  (hTb : ∀ ch ρ σ n,T (.panic ch) ⟨ρ,σ,n⟩→T (.panic ch) ⟨[],σ,n⟩:=by exact fun _ _ _ _ h=>h) : RA ⟨pg,N,n0,H0,S0,w0,h0,g0⟩ T ops k σs ρq (fuel + 1) listed s:=by
 simp only [Bool.and_eq_true] at hB
 refine RA.callX i hr r hi (eqB_eq hB.1.2) hk hargs hσ chk hrn (fun g v X _ _ hg hb hX=>hT v g X _ _ _ (hR g hg) hb hX) fun g σ' n' hq=>?_
 have:=h g σ' n' hq
 rw [nf_eq,nfH_eq,nfN_eq,nfE_eq] at this ⊢
 revert this
 cases o.dst with
 | none=>exact fun h=>RA.runX pg_ok hB.1.1 hTb order hB.2 h
 | some d =>
  simp only [dputV,dput]
  cases Nat.blt d N with
  | false=>exact fun h=>h
  | true=>simp only [cond_true,nf_eq]; exact fun h=>RA.runX pg_ok hB.1.1 hTb order hB.2 h
end
theorem is_hf (t : Tok) (l : List Tok) (s : ByteArray) : Hf pg 76 1 [.p 0 0,gs s] (ps (t :: l)) (fun g σ n=>g=.b (isP s (t :: l))∧σ=ps (t :: l)∧n=1):=by
 refine Hf.eqG (R:=fun σ n=>σ=ps (t :: l)∧n=1) ?_
 refine Hf.of pg_ok Tryz.func76 rfl Tryz.ntmps76 rfl Tryz.results76 Tryz.call76 fun H0 S0 w0 h0 g0=>?_
 refine ⟨tokR t,by decide,rfl,?_⟩
 rcases tf (sEq t.text s) with h | h
 ·refine p1 ?_ h
  refine ⟨tokR t,by decide,rfl,?_⟩
  repeat (first | refine p1 ?_ | refine p2 ?_ | refine p3 ?_ | refine p4 ?_)
  refine ⟨?_,rfl,rfl⟩
  show (t.kind != 3)=isP s (t :: l)
  simp only [isP,hdT,List.headD_cons,h,Bool.true_and]
  rw [Bool.eq_iff_iff]
  exact ⟨fun h=>decide_eq_true (by simpa using h),fun h=>by simpa using of_decide_eq_true h⟩
 ·refine p2 ?_ h
  repeat (first | refine p1 ?_ | refine p2 ?_ | refine p3 ?_ | refine p4 ?_)
  refine ⟨?_,rfl,rfl⟩
  show false=isP s (t :: l)
  simp [isP,hdT,h]
theorem tl_eq (t : Tok) (l : List Tok) : ([(0,.blk 87 [.sl 3 ((((t :: l).map tokR).take (((t :: l).map tokR).length : Int).toNat).drop (1 : Int).toNat)])] : Heap)=ps l :=
 congrArg (fun g=>match g with | some g=>([(0,.blk 87 [g])] : Heap) | none=>[]) (tail_map 3 tokR t l)
theorem takesP_iff {s : ByteArray} {t : Tok} {l : List Tok} : takesP s (t :: l)=true ↔ isP s (t :: l)=true∧t.kind ≠ 5:=by
 simp [takesP,hdT]
theorem takes_yes (t : Tok) (l : List Tok) (s : ByteArray) (h : takesP s (t :: l)=true) : Hf pg 73 1 [.p 0 0,gs s] (ps (t :: l)) (fun g σ n=>g=.v (.bool true)∧σ=ps l∧n=1):=by
 obtain ⟨h1,h2⟩:=takesP_iff.1 h
 refine Hf.eqG (R:=fun σ n=>σ=ps l∧n=1) ?_
 refine Hf.of pg_ok Tryz.func73 rfl Tryz.ntmps73 rfl Tryz.results73 Tryz.call73 fun H0 S0 w0 h0 g0=>?_
 refine GOH (is_hf t l s) id rfl rfl ⟨rfl,trivial⟩ rfl (id_lt rfl) ?_
 rintro g σ' n' ⟨rfl,rfl,rfl⟩
 refine p1 ?_ h1
 refine ⟨tokR t,by decide,rfl,?_⟩
 have hk : (t.kind != 5)=true:=by simp [h2]
 refine p1 ?_ hk
 refine ⟨by decide,by simp; omega,by simp,?_⟩
 exact ⟨hk,tl_eq t l,rfl⟩
theorem takes_no (t : Tok) (l : List Tok) (s : ByteArray) (h : takesP s (t :: l)=false) : Hf pg 73 1 [.p 0 0,gs s] (ps (t :: l)) (fun g σ n=>g=.v (.bool false)∧σ=ps (t :: l)∧n=1):=by
 refine Hf.eqG (R:=fun σ n=>σ=ps (t :: l)∧n=1) ?_
 refine Hf.of pg_ok Tryz.func73 rfl Tryz.ntmps73 rfl Tryz.results73 Tryz.call73 fun H0 S0 w0 h0 g0=>?_
 refine GOH (is_hf t l s) id rfl rfl ⟨rfl,trivial⟩ rfl (id_lt rfl) ?_
 rintro g σ' n' ⟨rfl,rfl,rfl⟩
 rcases tf (isP s (t :: l)) with h1 | h1
 ·have h2 : t.kind=5:=Classical.byContradiction fun hh=>by rw [takesP_iff.2 ⟨h1,hh⟩] at h; cases h
  refine p1 ?_ h1
  refine ⟨tokR t,by decide,rfl,?_⟩
  have hk : (t.kind != 5)=false:=by simp [h2]
  refine p2 ?_ hk
  exact ⟨hk,rfl,rfl⟩
 ·refine p2 ?_ h1
  exact ⟨rfl,rfl,rfl⟩
theorem must_hx (t : Tok) (l : List Tok) (s : ByteArray) : Hx pg 72 1 [.p 0 0,gs s] (ps (t :: l)) (fun g σ n=>mustP s (t :: l)=.ok ((),l)∧takesP s (t :: l)=true∧g=.tup []∧σ=ps l∧n=1) (erR (mustP s (t :: l))):=by
 refine Hx.ofJ pg_ok Tryz.func72 rfl Tryz.ntmps72 rfl Tryz.results72 Tryz.call72 fun H0 S0 w0 h0 g0=>?_
 refine V ?_
 rcases tf (takesP s (t :: l)) with h | h
 ·refine GOH (takes_yes t l s h) id rfl rfl ⟨rfl,trivial⟩ rfl (id_lt rfl) ?_
  rintro g σ' n' ⟨rfl,rfl,rfl⟩
  repeat (first | refine p1 ?_ | refine p2 ?_ | refine p3 ?_ | refine p4 ?_)
  exact ⟨by simp [mustP,h],h,rfl,rfl,rfl⟩
 ·refine GOH (takes_no t l s h) id rfl rfl ⟨rfl,trivial⟩ rfl (id_lt rfl) ?_
  rintro g σ' n' ⟨rfl,rfl,rfl⟩
  repeat (first | refine p1 ?_ | refine p2 ?_ | refine p3 ?_ | refine p4 ?_)
  refine GOX (erR (mustP s (t :: l))) (fail_hx t l 3) (fun g hg=>⟨3,t.pos,by simp [mustP,h,failP,hdT],hg⟩) id rfl rfl ⟨rfl,trivial⟩ rfl (id_lt rfl) ?_
  exact fun _ _ _ h=>h.elim
theorem any_hx (t : Tok) (l : List Tok) (k : Int) : Hx pg 77 1 [.p 0 0,gi k] (ps (t :: l)) (fun g σ n=>anyP k (t :: l)=.ok (t.text,l)∧t.kind=k∧g=gs t.text∧σ=ps l∧n=1) (erR (anyP k (t :: l))):=by
 refine Hx.ofJ pg_ok Tryz.func77 rfl Tryz.ntmps77 rfl Tryz.results77 Tryz.call77 fun H0 S0 w0 h0 g0=>?_
 refine V ?_
 refine ⟨tokR t,by decide,rfl,?_⟩
 rcases tf (t.kind != k) with h | h
 ·have hk : t.kind ≠ k:=by simpa using h
  refine p1 ?_ h
  refine GOX (erR (anyP k (t :: l))) (fail_hx t l 3) (fun g hg=>⟨3,t.pos,by simp [anyP,failP,hdT,hk],hg⟩) id rfl rfl ⟨rfl,trivial⟩ rfl (id_lt rfl) ?_
  exact fun _ _ _ h=>h.elim
 ·have hk : t.kind=k:=by simpa using h
  refine p2 ?_ h
  refine ⟨tokR t,by decide,rfl,?_⟩
  refine ⟨by decide,by simp; omega,by simp,?_⟩
  exact ⟨by simp [anyP,hdT,hk],hk,rfl,tl_eq t l,rfl⟩
theorem name_hx (t : Tok) (l : List Tok) : Hx pg 74 1 [.p 0 0] (ps (t :: l)) (fun g σ n=>nameP (t :: l)=.ok (t.text,l)∧t.kind=1∧g=gs t.text∧σ=ps l∧n=1) (erR (nameP (t :: l))):=by
 refine Hx.ofJ pg_ok Tryz.func74 rfl Tryz.ntmps74 rfl Tryz.results74 Tryz.call74 fun H0 S0 w0 h0 g0=>?_
 refine V ?_
 refine ⟨tokR t,by decide,rfl,?_⟩
 have fin : (¬ (t.kind=1∧nameF t.text=false))→nameP (t :: l)=anyP 1 (t :: l):=fun h=>if_neg h
 rcases tf (t.kind == 1) with h | h
 ·have hk : t.kind=1:=by simpa using h
  refine p1 ?_ h
  refine ⟨tokR t,by decide,rfl,?_⟩
  refine GO (lname_rt t.text) rfl ?_
  rcases tf (nameF t.text) with h2 | h2
  ·repeat (first | refine p1 ?_ | refine p2 ?_ | refine p3 ?_ | refine p4 ?_)
   refine GOX (erR (nameP (t :: l))) (any_hx t l 1) (fun g ⟨e,p,h3,h4⟩=>⟨e,p,by rw [fin (by simp [h2])]; exact h3,h4⟩) id rfl rfl ⟨rfl,trivial⟩ rfl (id_lt rfl) ?_
   rintro g σ' n' ⟨h3,h4,rfl,rfl,rfl⟩
   refine V ?_
   exact ⟨by rw [fin (by simp [h2])]; exact h3,hk,rfl,rfl,rfl⟩
  ·repeat (first | refine p1 ?_ | refine p2 ?_ | refine p3 ?_ | refine p4 ?_)
   refine GOX (erR (nameP (t :: l))) (fail_hx t l 4) (fun g hg=>⟨4,t.pos,by simp [nameP,failP,hdT,hk,h2],hg⟩) id rfl rfl ⟨rfl,trivial⟩ rfl (id_lt rfl) ?_
   exact fun _ _ _ h=>h.elim
 ·have hk : t.kind ≠ 1:=by simpa using h
  refine p2 ?_ h
  repeat (first | refine p1 ?_ | refine p2 ?_ | refine p3 ?_ | refine p4 ?_)
  refine GOX (erR (nameP (t :: l))) (any_hx t l 1) (fun g ⟨e,p,h3,h4⟩=>⟨e,p,by rw [fin (by simp [hk])]; exact h3,h4⟩) id rfl rfl ⟨rfl,trivial⟩ rfl (id_lt rfl) ?_
  rintro g σ' n' ⟨h3,h4,rfl,rfl,rfl⟩
  exact absurd h4 hk
end Go.Proofs.YtkoalgjlkcaonaaGreatDoor
/-
  The ghost machine: contracts of library functions of values that read variables of the package's.
-/
namespace Go.GK
open Go.RowKit
theorem Rq.callsG {p : Pg} {f : FuncId} (hc : ∀ a w,(callFunc f a).run p.P w=.ok (.enter f a) w) (vs : List Value) (Q : GV→Prop)
  (h : ∀ H w,GlOk p H→(∀ b o,H.ro b=some o→w.heap[b]?=some o)→Calls p.P f vs.toArray w fun e w'=>∃ u g,e=.returned u∧Below w.heap.size w w'∧(∀ ro,IsR ro g u)∧Q g∧idb 0 g=true) : Rq p f (vs.map .v) Q:=by
 refine ⟨hc,fun H us w hn hg hcs hs=>?_⟩
 rw [cells_vals hcs]
 refine Calls.mono (h H w hg hs.ro) (fun e w' he=>?_)
 obtain ⟨u,g,rfl,hb,hi,hq,hid⟩:=he
 exact ⟨u,g,H,[],rfl,.ro (hi H.ro),hs.below hb,Fr.of_below hb,⟨hq,hid⟩,rfl,hn⟩
theorem GlOk.cellR {p : Pg} {H : Hid} {w : World} (hg : GlOk p H) (hro : ∀ b o,H.ro b=some o→w.heap[b]?=some o) {g : Nat} {cs : List GV} (hl : look p.gl g=some (.r cs)) {j : Nat} {x : GV} (hj : cs[j]?=some x) : ∃ u,w.cell? ⟨g,j,none⟩=some u∧IsR H.ro x u:=by
 have h:=hg g _ hl
 cases h with
 | r us h1 h2 =>
  refine ⟨us j,?_,h2 j x hj⟩
  have:=roCell_cell hro (h1 j x hj)
  rw [addr_add_none] at this
  simpa using this
theorem GlOk.vals {p : Pg} {H : Hid} {w : World} (hg : GlOk p H) (hro : ∀ b o,H.ro b=some o→w.heap[b]?=some o) {g : Nat} {vs : List Value} (hl : look p.gl g=some (.r (vs.map .v))) : ∃ ty fz,w.heap[g]?=some (.cells vs.toArray ty fz):=by
 obtain ⟨c,ty,fz,e,hz⟩:=hg.ex g _ hl
 refine ⟨ty,fz,?_⟩
 have hc : c=vs.toArray:=by
  refine Array.ext (by simpa using hz) (fun i h1 h2=>?_)
  have h2' : i < vs.length:=by simpa using h2
  obtain ⟨u,hu,hi⟩:=hg.cellR hro hl (j:=i) (x:=.v vs[i]) (by simp [h2'])
  cases hi
  unfold World.cell? at hu
  rw [hro _ _ e] at hu
  simp [h1] at hu
  simpa using hu
 rw [← hc]
 exact hro _ _ e
end Go.GK
