/-
  Plain laws: questions: tokens, and how they are read. No program is in sight.
-/
import Derived.Test.YtkoalgjlkcaonaaGreatDoorK07
import Derived.Lib.ItoaNum
import Derived.Lib.ParseIntB
import Derived.Lib.SlTrimSet
set_option linter.unusedSimpArgs false
namespace Go.PL
open Go Go.GK

structure Tok where
 kind : Int
 text : ByteArray
 pos : Int
instance : Inhabited Tok:=⟨⟨5,⟨#[]⟩,0⟩⟩
def marksL : List (List UInt8):=[[33,61],[94,61],[33,94],[61],[123],[125],[91],[93],[40],[41],[44],[43],[45],[42],[47]]
def lexF (l : List UInt8) : Nat × Int:=match l with
 | []=>(0,4)
 | c :: r =>
  if letB c then ((l.takeWhile fun b=>letB b || digB b).length,1)
  else if digB c then ((l.takeWhile digB).length,2)
  else if c.toNat=34 then (match r.findIdx? (· == 34) with | some j=>j + 2 | none=>0,3)
  else (match marksL.find? (fun m=>m.isPrefixOf l) with | some m=>m.length | none=>0,4)
def tokF (s : List UInt8) : Nat→Nat→Nat→Except (Int × Int) (List Tok)
 | 0,_,_=>.error (0,0)
 | fuel + 1,i,cnt =>
  let i:=i + ((s.drop i).takeWhile (· == 32)).length
  if s.length≤i then .ok [⟨5,⟨#[]⟩,i⟩]
  else
   let (n,k):=lexF (s.drop i)
   if n=0 then .error (3,i)
   else if (k=2∧18 < n)∨120≤cnt then .error (4,i)
   else match tokF s fuel (i + n) (cnt + 1) with
    | .ok l=>.ok (⟨k,⟨((s.drop i).take n).toArray⟩,i⟩ :: l)
    | .error e=>.error e

inductive Qn where
 | nil
 | mk (code num : Int) (m : List Mt) (span : Int) (by_ : List ByteArray) (l r : Qn)
abbrev PRes (α : Type):=Except (Int × Int) (α × List Tok)
def hdT (l : List Tok) : Tok:=l.headD default
def failP {α : Type} (e : Int) (l : List Tok) : PRes α:=.error (e,(hdT l).pos)
def isP (s : ByteArray) (l : List Tok) : Bool:=sEq (hdT l).text s && decide ((hdT l).kind ≠ 3)
def takesP (s : ByteArray) (l : List Tok) : Bool:=isP s l && decide ((hdT l).kind ≠ 5)
def mustP (s : ByteArray) (l : List Tok) : PRes Unit:=if takesP s l then .ok ((),l.tail) else failP 3 l
def anyP (k : Int) (l : List Tok) : PRes ByteArray:=if (hdT l).kind=k then .ok ((hdT l).text,l.tail) else failP 3 l
def nameP (l : List Tok) : PRes ByteArray:=if (hdT l).kind=1∧nameF (hdT l).text=false then failP 4 l else anyP 1 l
def numT (s : ByteArray) : Int:=s.data.toList.foldl (fun n c=>n * 10 + ((c.toNat : Int) - 48)) 0
def numberP (most : Int) (l : List Tok) : PRes Int:=if (hdT l).kind=2∧most < numT (hdT l).text then failP 4 l else match anyP 2 l with
 | .ok (s,l)=>.ok (numT s,l)
 | .error e=>.error e
def bS (l : List UInt8) : ByteArray:=⟨l.toArray⟩
def opsL : List ByteArray:=[bS [61],bS [33,61],bS [94,61],bS [33,94]]
def oversL : List ByteArray:=[bS [99,111,117,110,116],bS [115,117,109],bS [109,105,110],bS [109,97,120],bS [100,101,108,116,97]]
def allsL : List ByteArray:=[bS [116,111,116,97,108],bS [108,101,97,115,116],bS [109,111,115,116],bS [109,97,110,121]]
def matcherP (l : List Tok) : PRes Mt :=
 match nameP l with
 | .error e=>.error e
 | .ok (n,l)=>match opsL.findIdx? fun s=>isP s l with
  | none=>failP 3 l
  | some k=>match mustP (opsL.getD k ⟨#[]⟩) l with
   | .error e=>.error e
   | .ok (_,l)=>match anyP 3 l with
    | .error e=>.error e
    | .ok (s,l')=>if valueF (s.extract 1 (s.size - 1)) then .ok (⟨n,k,s.extract 1 (s.size - 1)⟩,l') else failP 4 l
def matchersL : Nat→List Mt→List Tok→PRes (List Mt)
 | 0,_,_=>.error (0,0)
 | f + 1,acc,l =>
  if takesP (bS [125]) l then .ok (acc,l.tail)
  else match (if acc.length=0 then .ok ((),l) else mustP (bS [44]) l) with
   | .error e=>.error e
   | .ok (_,l)=>if 8≤acc.length then failP 4 l else match matcherP l with
    | .error e=>.error e
    | .ok (m,l)=>matchersL f (acc++[m]) l
def matchersP (l : List Tok) : PRes (List Mt):=match mustP (bS [123]) l with
 | .error e=>.error e
 | .ok (_,l)=>matchersL (l.length + 1) [] l
def namesL : Nat→List ByteArray→List Tok→PRes (List ByteArray)
 | 0,_,_=>.error (0,0)
 | f + 1,acc,l=>if 8≤acc.length then failP 4 l else match nameP l with
  | .error e=>.error e
  | .ok (s,l)=>if takesP (bS [44]) l then namesL f (acc++[s]) l.tail else .ok (acc++[s],l)
mutual
def oneP : Nat→Nat→List Tok→PRes Qn
 | 0,_,_=>.error (0,0)
 | f + 1,n,l =>
  if 8 < n then failP 4 l
  else if takesP (bS [45]) l then (match oneP f (n + 1) l.tail with
   | .error e=>.error e
   | .ok (q,l)=>.ok (.mk 12 0 [] 0 [] q .nil,l))
  else if takesP (bS [40]) l then (match sumP f (n + 1) l.tail with
   | .error e=>.error e
   | .ok (q,l)=>match mustP (bS [41]) l with
    | .error e=>.error e
    | .ok (_,l)=>.ok (q,l))
  else if (hdT l).kind=2 then (match numberP 9223372036854775807 l with
   | .error e=>.error e
   | .ok (k,l)=>.ok (.mk 1 k [] 0 [] .nil .nil,l))
  else if isP (bS [123]) l then (match matchersP l with
   | .error e=>.error e
   | .ok (m,l)=>.ok (.mk 2 0 m 300 [] .nil .nil,l))
  else match oversL.findIdx? fun s=>isP s l with
   | some k=>(match mustP (oversL.getD k ⟨#[]⟩) l with
    | .error e=>.error e
    | .ok (_,l)=>match mustP (bS [40]) l with
     | .error e=>.error e
     | .ok (_,l)=>match matchersP l with
      | .error e=>.error e
      | .ok (m,l)=>match mustP (bS [91]) l with
       | .error e=>.error e
       | .ok (_,l)=>match numberP 1099511627776 l with
        | .error e=>.error e
        | .ok (sp,l)=>match mustP (bS [93]) l with
         | .error e=>.error e
         | .ok (_,l)=>match mustP (bS [41]) l with
          | .error e=>.error e
          | .ok (_,l)=>.ok (.mk (3 + k) 0 m (if sp < 1 then 1 else sp) [] .nil .nil,l))
   | none=>match allsL.findIdx? fun s=>isP s l with
    | none=>failP 3 l
    | some k=>match mustP (allsL.getD k ⟨#[]⟩) l with
     | .error e=>.error e
     | .ok (_,l)=>match mustP (bS [40]) l with
      | .error e=>.error e
      | .ok (_,l)=>match sumP f (n + 1) l with
       | .error e=>.error e
       | .ok (q,l)=>match mustP (bS [41]) l with
        | .error e=>.error e
        | .ok (_,l)=>if takesP (bS [98,121]) l then (match mustP (bS [40]) l.tail with
          | .error e=>.error e
          | .ok (_,l)=>match namesL (l.length + 1) [] l with
           | .error e=>.error e
           | .ok (ns,l)=>match mustP (bS [41]) l with
            | .error e=>.error e
            | .ok (_,l)=>.ok (.mk (8 + k) 0 [] 0 ns q .nil,l))
         else .ok (.mk (8 + k) 0 [] 0 [] q .nil,l)
def productL : Nat→Nat→Qn→List Tok→PRes Qn
 | 0,_,_,_=>.error (0,0)
 | f + 1,n,q,l =>
  if takesP (bS [42]) l then (match oneP f n l.tail with
   | .error e=>.error e
   | .ok (r,l)=>productL f n (.mk 15 0 [] 0 [] q r) l)
  else if takesP (bS [47]) l then (match oneP f n l.tail with
   | .error e=>.error e
   | .ok (r,l)=>productL f n (.mk 16 0 [] 0 [] q r) l)
  else .ok (q,l)
def productP : Nat→Nat→List Tok→PRes Qn
 | 0,_,_=>.error (0,0)
 | f + 1,n,l=>match oneP f n l with
  | .error e=>.error e
  | .ok (q,l)=>productL f n q l
def sumL : Nat→Nat→Qn→List Tok→PRes Qn
 | 0,_,_,_=>.error (0,0)
 | f + 1,n,q,l =>
  if takesP (bS [43]) l then (match productP f n l.tail with
   | .error e=>.error e
   | .ok (r,l)=>sumL f n (.mk 13 0 [] 0 [] q r) l)
  else if takesP (bS [45]) l then (match productP f n l.tail with
   | .error e=>.error e
   | .ok (r,l)=>sumL f n (.mk 14 0 [] 0 [] q r) l)
  else .ok (q,l)
def sumP : Nat→Nat→List Tok→PRes Qn
 | 0,_,_=>.error (0,0)
 | f + 1,n,l=>match productP f n l with
  | .error e=>.error e
  | .ok (q,l)=>sumL f n q l
end
end Go.PL
/-
  Plain laws: questions as rows of lexemes, and how these are read as tokens. No program is in sight.
-/
namespace Go.PL
open Go Go.GK

structure Lx where
 pre : Nat
 text : List UInt8
 kind : Int
 post : Nat
def spc (n : Nat) : List UInt8:=List.replicate n 32
def Lx.bytes (x : Lx) : List UInt8:=spc x.pre++x.text++spc x.post
def bytesL (l : List Lx) : List UInt8:=l.flatMap Lx.bytes
def Lx.st (x : Lx) : Int × ByteArray:=(x.kind,bS x.text)
def Tok.st (t : Tok) : Int × ByteArray:=(t.kind,t.text)
def wL (s : List UInt8) : Lx:=⟨0,s,1,0⟩
def dL (s : List UInt8) : Lx:=⟨0,s,2,0⟩
def qL (v : List UInt8) : Lx:=⟨0,34 :: v++[34],3,0⟩
def mL (s : List UInt8) : Lx:=⟨0,s,4,0⟩
def TxOk (k : Int) (t : List UInt8) : Prop :=
 (k=1∧∃ c r,t=c :: r∧letB c=true∧∀ b ∈ r,(letB b || digB b)=true) ∨
 (k=2∧t ≠ []∧t.length≤18∧∀ b ∈ t,digB b=true) ∨
 (k=3∧∃ v,t=34 :: v++[34]∧∀ b ∈ v,b.toNat ≠ 34) ∨
 (k=4∧t ∈ marksL)
def Lx.Ok (x : Lx) : Prop:=TxOk x.kind x.text

theorem let_ne {c : UInt8} (h : letB c=true) : c.toNat ≠ 34∧c ≠ 32:=by
 have : c ≠ 32:=by rintro rfl; revert h; decide
 simp [letB] at h
 exact ⟨by omega,this⟩
theorem dig_ne {c : UInt8} (h : digB c=true) : c.toNat ≠ 34∧c ≠ 32∧letB c=false:=by
 have : c ≠ 32:=by rintro rfl; revert h; decide
 simp [digB] at h
 refine ⟨by omega,this,?_⟩
 simp [letB]
 omega
theorem tw_all {p : UInt8→Bool} {l r : List UInt8} (h : ∀ b ∈ l,p b=true) (hr : ∀ c,r.head?=some c→p c=false) : (l++r).takeWhile p=l:=by
 induction l with
 | nil =>
  cases r with
  | nil=>rfl
  | cons c r=>simp [hr c rfl]
 | cons b l ih =>
  simp only [List.cons_append,List.takeWhile,h b List.mem_cons_self]
  rw [ih fun b hb=>h b (List.mem_cons_of_mem _ hb)]
theorem marks_ne {t : List UInt8} (h : t ∈ marksL) : ∃ c r,t=c :: r∧letB c=false∧digB c=false∧c ≠ 34∧c ≠ 32∧c.toNat ≠ 34:=by
 simp only [marksL,List.mem_cons,List.not_mem_nil,or_false] at h
 rcases h with rfl | rfl | rfl | rfl | rfl | rfl | rfl | rfl | rfl | rfl | rfl | rfl | rfl | rfl | rfl <;> exact ⟨_,_,rfl,by decide,by decide,by decide,by decide,by decide⟩
theorem marks_find {t : List UInt8} (h : t ∈ marksL) (r : List UInt8) : marksL.find? (fun m=>m.isPrefixOf (t++r))=some t:=by
 simp only [marksL,List.mem_cons,List.not_mem_nil,or_false] at h
 rcases h with rfl | rfl | rfl | rfl | rfl | rfl | rfl | rfl | rfl | rfl | rfl | rfl | rfl | rfl | rfl <;> simp [marksL,List.find?,List.isPrefixOf]
theorem find_q {v r : List UInt8} (h : ∀ b ∈ v,b.toNat ≠ 34) : (v++34 :: r).findIdx? (· == 34)=some v.length:=by
 induction v with
 | nil=>simp [List.findIdx?_cons]
 | cons b v ih =>
  have hb : (b == 34)=false:=by
   cases hh : b == 34 with
   | false=>rfl
   | true=>exact absurd (by rw [eq_of_beq hh]; rfl) (h b List.mem_cons_self)
  rw [List.cons_append,List.findIdx?_cons,hb,ih fun b hb=>h b (List.mem_cons_of_mem _ hb)]
  simp
theorem lex_ok {k : Int} {t : List UInt8} (h : TxOk k t) (r : List UInt8) (hr : k=1→∀ c,r.head?=some c→(letB c || digB c)=false) (hd : k=2→∀ c,r.head?=some c→digB c=false) :
  lexF (t++r)=(t.length,k)∧t ≠ []∧t.head? ≠ some 32∧(k=2→t.length≤18):=by
 rcases h with ⟨rfl,c,l,rfl,hc,hl⟩ | ⟨rfl,hne,h18,hl⟩ | ⟨rfl,v,rfl,hv⟩ | ⟨rfl,hm⟩
 ·refine ⟨?_,by simp,by simpa using (let_ne hc).2,by simp⟩
  have:=tw_all (p:=fun b=>letB b || digB b) (l:=c :: l) (r:=r) (fun b hb=>by
   rcases List.mem_cons.1 hb with rfl | hb
   ·simp [hc]
   ·exact hl b hb) (hr rfl)
  simp only [List.cons_append] at this ⊢
  simp only [lexF,hc,if_true,this]
 ·cases t with
  | nil=>exact absurd rfl hne
  | cons c l =>
   have hc:=hl c List.mem_cons_self
   refine ⟨?_,by simp,by simpa using (dig_ne hc).2.1,fun _=>h18⟩
   have:=tw_all (p:=digB) (l:=c :: l) (r:=r) hl (hd rfl)
   simp only [List.cons_append] at this ⊢
   simp only [lexF,(dig_ne hc).2.2,hc,if_true,Bool.false_eq_true,if_false,this]
 ·refine ⟨?_,by simp,by simp,by simp⟩
  have e : 34 :: v++[34]++r=34 :: (v++34 :: r):=by simp
  rw [e]
  simp only [lexF,find_q hv]
  simp [letB,digB]
 ·obtain ⟨c,l,e,h1,h2,h3,h4,h5⟩:=marks_ne hm
  refine ⟨?_,by simp [e],by simpa [e] using h4,by simp⟩
  have:=marks_find hm r
  subst e
  simp only [List.cons_append] at this ⊢
  simp only [lexF,h1,h2,h5,Bool.false_eq_true,if_false,this]

def lk (x y : Lx) : Prop:=(x.kind=1∨x.kind=2)→x.post ≠ 0∨y.pre ≠ 0∨y.kind=4
def chn : List Lx→Prop
 | x :: y :: r=>lk x y∧chn (y :: r)
 | _=>True
theorem chn_cons {x : Lx} {l : List Lx} (h : x.kind=4∨x.kind=3∨x.post ≠ 0) (hl : chn l) : chn (x :: l):=by
 cases l with
 | nil=>trivial
 | cons y r =>
  refine ⟨fun hx=>?_,hl⟩
  rcases h with h | h | h
  ·omega
  ·omega
  ·exact .inl h
theorem chn_mark {x y : Lx} {l : List Lx} (h : y.kind=4∨y.pre ≠ 0) (hl : chn (y :: l)) : chn (x :: y :: l) :=
 ⟨fun _=>by rcases h with h | h <;> simp [h],hl⟩
theorem chn_app {a : List Lx} {y : Lx} {b : List Lx} (ha : chn a) (h : y.kind=4∨y.pre ≠ 0) (hb : chn (y :: b)) : chn (a++y :: b):=by
 induction a with
 | nil=>exact hb
 | cons x r ih =>
  cases r with
  | nil=>exact chn_mark h hb
  | cons z r=>exact ⟨ha.1,ih ha.2⟩

theorem bytesL_cons (x : Lx) (l : List Lx) : bytesL (x :: l)=x.bytes++bytesL l:=rfl
theorem spc_head {n : Nat} {l : List UInt8} (h : n ≠ 0) : (spc n++l).head?=some 32:=by
 cases n with
 | zero=>exact absurd rfl h
 | succ n=>rfl
theorem spc_add (a b : Nat) : spc (a + b)=spc a++spc b:=by simp [spc,List.replicate_append_replicate]
theorem tw_spc (a : Nat) {l : List UInt8} (h : l.head? ≠ some 32) : ((spc a++l).takeWhile (· == 32)).length=a:=by
 rw [tw_all (p:=(· == 32)) (fun b hb=>by simp [spc] at hb; simp [hb.2]) (fun c hc=>by
  cases h' : c == 32 with
  | false=>rfl
  | true=>exact absurd (by rw [hc,eq_of_beq h']) h)]
 simp [spc]
theorem sp_head {p : UInt8→Bool} (hp : p 32=false) {x : Lx} {l : List Lx} (hc : chn (x :: l)) (hx : x.kind=1∨x.kind=2) (hm : ∀ t c,t ∈ marksL→t.head?=some c→p c=false) (hl : ∀ y ∈ l,y.Ok) :
  ∀ c,(spc x.post++bytesL l).head?=some c→p c=false:=by
 intro c hcc
 by_cases h0 : x.post=0
 ·cases l with
  | nil=>rw [h0] at hcc; cases hcc
  | cons y r =>
   rcases hc.1 hx with h | h | h
   ·exact absurd h0 h
   ·rw [h0,bytesL_cons] at hcc
    have : (y.bytes++bytesL r).head?=some 32:=by simp only [Lx.bytes,List.append_assoc]; exact spc_head h
    have e : (spc 0++(y.bytes++bytesL r))=y.bytes++bytesL r:=rfl
    rw [e,this] at hcc
    cases hcc
    exact hp
   ·by_cases hy : y.pre=0
    ·rcases hl y List.mem_cons_self with h' | h' | h' | ⟨_,h'⟩
     ·have:=h'.1; omega
     ·have:=h'.1; omega
     ·have:=h'.1; omega
     ·obtain ⟨c',r',e,-⟩:=marks_ne h'
      refine hm y.text c h' ?_
      rw [h0,bytesL_cons,Lx.bytes,hy] at hcc
      rw [e] at hcc ⊢
      exact hcc
    ·rw [h0,bytesL_cons] at hcc
     have : (y.bytes++bytesL r).head?=some 32:=by simp only [Lx.bytes,List.append_assoc]; exact spc_head hy
     have e : (spc 0++(y.bytes++bytesL r))=y.bytes++bytesL r:=rfl
     rw [e,this] at hcc
     cases hcc
     exact hp
 ·rw [spc_head h0] at hcc
  cases hcc
  exact hp
theorem tok_ok (s : List UInt8) : ∀ (L : List Lx) (fuel i cnt a : Nat),(∀ x ∈ L,x.Ok)→chn L→s.drop i=spc a++bytesL L→i≤s.length→cnt + L.length≤120→L.length < fuel →
  ∃ l,tokF s fuel i cnt=.ok l∧l.map Tok.st=L.map Lx.st++[(5,bS [])]
 | [],0,_,_,_,_,_,_,_,_,hf=>by simp at hf
 | [],fuel + 1,i,cnt,a,_,_,hs,hi,_,_=>by
  have hlen:=congrArg List.length hs
  simp [bytesL,spc] at hlen
  have h1 : ((s.drop i).takeWhile (· == 32)).length=a:=by
   rw [hs]
   exact tw_spc a (by simp [bytesL])
  refine ⟨[⟨5,⟨#[]⟩,(i + a : Nat)⟩],?_,by simp [Tok.st,bS]⟩
  simp only [tokF,h1]
  rw [if_pos (by omega)]
 | x :: r,0,_,_,_,_,_,_,_,_,hf=>by simp at hf
 | x :: r,fuel + 1,i,cnt,a,hok,hc,hs,hi,hn,hf=>by
  have hx:=hok x List.mem_cons_self
  have hr : ∀ y ∈ r,y.Ok:=fun y hy=>hok y (List.mem_cons_of_mem _ hy)
  have hcr : chn r:=by
   cases r with
   | nil=>trivial
   | cons y r=>exact hc.2
  obtain ⟨h1,h2,h3,h4⟩:=lex_ok hx (spc x.post++bytesL r) (fun hk=>sp_head (p:=fun c=>letB c || digB c) (by decide) hc (.inl hk) (fun t c ht hh=>by
   obtain ⟨c',r',e,g1,g2,-⟩:=marks_ne ht
   rw [e] at hh
   cases hh
   simp [g1,g2]) hr) (fun hk=>sp_head (p:=digB) (by decide) hc (.inr hk) (fun t c ht hh=>by
   obtain ⟨c',r',e,g1,g2,-⟩:=marks_ne ht
   rw [e] at hh
   cases hh
   exact g2) hr)
  have hs2 : s.drop i=spc (a + x.pre)++(x.text++(spc x.post++bytesL r)):=by
   rw [hs,bytesL_cons,Lx.bytes,spc_add]
   simp
  have hh : (x.text++(spc x.post++bytesL r)).head? ≠ some 32:=by
   cases ht : x.text with
   | nil=>exact absurd ht h2
   | cons c t=>rw [ht] at h3; simpa using h3
  have h5 : ((s.drop i).takeWhile (· == 32)).length=a + x.pre:=by
   rw [hs2]
   exact tw_spc _ hh
  have hd : s.drop (i + (a + x.pre))=x.text++(spc x.post++bytesL r):=by
   rw [← List.drop_drop,hs2]
   have : (spc (a + x.pre)).length=a + x.pre:=by simp [spc]
   rw [List.drop_append_of_le_length (by omega),List.drop_of_length_le (by omega)]
   rfl
  have hpos : 0 < x.text.length:=by cases ht : x.text with | nil=>exact absurd ht h2 | cons c t=>simp
  have hlen:=congrArg List.length hd
  simp only [List.length_drop,List.length_append] at hlen
  have hd2 : s.drop (i + (a + x.pre) + x.text.length)=spc x.post++bytesL r:=by
   rw [← List.drop_drop,hd]
   simp
  obtain ⟨l,e1,e2⟩:=tok_ok s r fuel (i + (a + x.pre) + x.text.length) (cnt + 1) x.post hr hcr hd2 (by omega) (by simp at hn; omega) (by simp at hf; omega)
  refine ⟨⟨x.kind,⟨(x.text).toArray⟩,(i + (a + x.pre) : Nat)⟩ :: l,?_,?_⟩
  ·simp only [tokF,h5]
   rw [if_neg (by omega)]
   rw [hd,h1]
   simp only
   rw [if_neg (by omega),if_neg (by
    simp at hn
    intro h
    rcases h with h | h
    ·have:=h4 h.1
     omega
    ·omega)]
   rw [e1]
   simp
  ·simp [e2,Tok.st,Lx.st,bS]

def Tok.Ok (t : Tok) : Prop:=TxOk t.kind t.text.data.toList∨(t.kind=5∧t.text=⟨#[]⟩)
end Go.PL
/-
  Plain laws: questions: what tokens are right; numbers of digits; matchers. No program is in sight.
-/
namespace Go.PL
open Go Go.GK

def Tok.Okk (t : Tok) : Prop:=t.Ok∧t.text.size≤1000
structure ToksOk (l : List Tok) : Prop where
 each : ∀ t ∈ l,t.Okk
 last : ∃ a e,l=a++[e]∧e.kind=5
theorem ToksOk.cons {l : List Tok} (h : ToksOk l) : ∃ t r,l=t :: r:=by
 obtain ⟨a,e,rfl,_⟩:=h.last
 cases a with
 | nil=>exact ⟨e,[],rfl⟩
 | cons t r=>exact ⟨t,r++[e],rfl⟩
theorem ToksOk.tail {t : Tok} {l : List Tok} (h : ToksOk (t :: l)) (hk : t.kind ≠ 5) : ToksOk l:=by
 refine ⟨fun x hx=>h.each x (List.mem_cons_of_mem _ hx),?_⟩
 obtain ⟨a,e,he,hk'⟩:=h.last
 cases a with
 | nil =>
  simp at he
  exact absurd (he.1 ▸ hk') hk
 | cons x r =>
  simp at he
  exact ⟨r,e,he.2,hk'⟩
theorem dig_sub {b : UInt8} (h : digB b=true) : 48≤b.toNat∧b.toNat≤57:=by simpa [digB] using h
theorem parse_digits : ∀ (l : List UInt8) (acc : Nat),(∀ b ∈ l,digB b=true)→l.length≤18→acc < 10 ^ (18 - l.length) →
  ∃ n : Nat,Lib.parseUintM (2 ^ 64 - 1) acc l=.ok n∧n < 10 ^ 18∧l.foldl (fun (n : Int) c=>n * 10 + ((c.toNat : Int) - 48)) (acc : Int)=n
 | [],acc,_,_,ha=>⟨acc,rfl,by simpa using ha,rfl⟩
 | c :: r,acc,hl,h18,ha=>by
  have hc:=dig_sub (hl c List.mem_cons_self)
  have h18' : r.length + 1≤18:=by simpa using h18
  have hp : 10 ^ (18 - r.length)=10 ^ (18 - (r.length + 1)) * 10:=by rw [← Nat.pow_succ]; congr 1; omega
  have hle : 10 ^ (18 - r.length)≤10 ^ 18:=Nat.pow_le_pow_right (by decide) (by omega)
  simp only [List.length_cons] at ha
  have hb : acc * 10 + (c.toNat - 48) < 10 ^ (18 - r.length):=by omega
  obtain ⟨n,h1,h2,h3⟩:=parse_digits r (acc * 10 + (c.toNat - 48)) (fun b hb=>hl b (List.mem_cons_of_mem _ hb)) (by omega) hb
  refine ⟨n,?_,h2,?_⟩
  ·rw [Lib.parseUintM,if_pos hc,if_neg (by omega),if_neg (by omega),h1]
  ·rw [← h3,List.foldl_cons]
   congr 1
   omega
theorem num_tok {t : Tok} (h : t.Ok) (hk : t.kind=2) : Lib.parseIntB 64 t.text.data.toList=.ok (numT t.text)∧0≤numT t.text∧numT t.text < 1000000000000000000:=by
 rcases h with (⟨h,_⟩ | ⟨_,h1,h2,h3⟩ | ⟨h,_⟩ | ⟨h,_⟩) | ⟨h,_⟩
 ·omega
 ·cases hl : t.text.data.toList with
  | nil=>exact absurd hl h1
  | cons c r =>
   have hc:=dig_sub (h3 c (by rw [hl]; exact List.mem_cons_self))
   obtain ⟨n,e1,e2,e3⟩:=parse_digits (c :: r) 0 (by rw [← hl]; exact h3) (by rw [← hl]; exact h2) (Nat.pow_pos (by decide))
   have e : numT t.text=(n : Int):=by
    unfold numT
    rw [hl]
    exact e3
   refine ⟨?_,by omega,by omega⟩
   simp only [Lib.parseIntB]
   rw [if_neg (by omega),Lib.parseUintB,if_neg (by simp),e1]
   simp only
   rw [if_neg (by omega),if_neg (by omega),if_neg (by omega),e]
 ·omega
 ·omega
 ·omega
theorem quo_tok {t : Tok} (h : t.Ok) (hk : t.kind=3) : ∃ v : List UInt8,t.text.data.toList=34 :: v++[34]∧∀ b ∈ v,b.toNat ≠ 34:=by
 rcases h with (⟨h,_⟩ | ⟨h,_⟩ | ⟨_,h⟩ | ⟨h,_⟩) | ⟨h,_⟩
 ·omega
 ·omega
 ·exact h
 ·omega
 ·omega
theorem quo_size {t : Tok} (h : t.Ok) (hk : t.kind=3) : 2≤t.text.size:=by
 obtain ⟨v,e,_⟩:=quo_tok h hk
 have:=congrArg List.length e
 simp at this
 have h2 : t.text.size=t.text.data.size:=rfl
 omega
theorem asked_one {m : Mt} (hn : nameF m.name=true) (h0 : 0≤m.op) (h1 : m.op≤3) : askedF [m]=valueF m.value:=by
 have : askedF [m]=!mbad m:=by simp [askedF,anyB,List.range_succ]
 rw [this,mbad,hn]
 cases h : valueF m.value <;> simp <;> omega
theorem nameP_ok {t : Tok} {l : List Tok} {r : ByteArray × List Tok} (h : nameP (t :: l)=.ok r) (hk : t.kind=1) : nameF t.text=true:=by
 cases h2 : nameF t.text with
 | true=>rfl
 | false =>
  have : nameP (t :: l)=failP 4 (t :: l):=if_pos ⟨hk,h2⟩
  rw [this] at h
  cases h
theorem nameP_is {t : Tok} {l : List Tok} {r : ByteArray × List Tok} (h : nameP (t :: l)=.ok r) : r=(t.text,l)∧t.kind=1:=by
 by_cases hc : t.kind=1∧nameF t.text=false
 ·have : nameP (t :: l)=failP 4 (t :: l):=if_pos hc
  rw [this] at h
  cases h
 ·have : nameP (t :: l)=anyP 1 (t :: l):=if_neg hc
  rw [this] at h
  by_cases hk : t.kind=1
  ·have : anyP 1 (t :: l)=.ok (t.text,l):=if_pos hk
   rw [this] at h
   cases h
   exact ⟨rfl,hk⟩
  ·have : anyP 1 (t :: l)=failP 3 (t :: l):=if_neg hk
   rw [this] at h
   cases h
end Go.PL
/-
  Plain laws: questions: what the steps of splitting a text come to. No program is in sight.
-/
namespace Go.PL
open Go Go.GK

theorem dig_iff (c : UInt8) : decide (0≤Lib.indexByte digL c)=digB c:=by
 have:=u8_all (p:=fun c=>decide (0≤Lib.indexByte digL c) == digB c) (by decide +kernel) c
 simpa using this
theorem digs_iff (c : UInt8) : digL.contains c=digB c:=by
 have:=u8_all (p:=fun c=>digL.contains c == digB c) (by decide +kernel) c
 simpa using this
theorem find_byte (c : UInt8) : ∀ l : List UInt8,Lib.indexByte l c=match l.findIdx? (· == c) with | some j=>(j : Int) | none=>-1
 | []=>rfl
 | b :: l=>by
  rw [Lib.indexByte,List.findIdx?_cons,find_byte c l]
  cases h : b == c with
  | true=>simp
  | false =>
   cases h2 : l.findIdx? (· == c) with
   | none=>simp
   | some j=>simp
theorem tw_dw {p : UInt8→Bool} (l : List UInt8) : (l.takeWhile p).length + (l.dropWhile p).length=l.length:=by
 rw [← List.length_append,List.takeWhile_append_dropWhile]
theorem tw_congr {p q : UInt8→Bool} (h : ∀ b,p b=q b) (l : List UInt8) : l.takeWhile p=l.takeWhile q:=by
 have : p=q:=funext h
 rw [this]
theorem prefF_is (s : ByteArray) (p : List UInt8) : prefF s (bS p)=p.isPrefixOf s.data.toList:=by
 have h0 : (bS p).size=p.length:=by show p.toArray.size=_; simp
 have h1 : s.size=s.data.toList.length:=by simp
 rw [Bool.eq_iff_iff,List.isPrefixOf_iff_prefix,prefF,Bool.and_eq_true,decide_eq_true_iff,sEq_iff,h0,h1]
 constructor
 ·rintro ⟨h2,h3⟩
  have h4:=congrArg (fun b : ByteArray=>b.data.toList) h3
  simp only [data_take] at h4
  rw [List.prefix_iff_eq_take]
  exact h4.symm
 ·intro h
  refine ⟨h.length_le,?_⟩
  have h4:=data_take s p.length
  rw [← List.prefix_iff_eq_take.1 h] at h4
  have : ∀ b : ByteArray,b=⟨b.data.toList.toArray⟩:=fun b=>by cases b; simp
  rw [this (s.extract 0 p.length),h4]
  rfl
theorem find_first {α : Type} {p : α→Bool} : ∀ {l : List α} {n : Nat},n≤l.length→(∀ i (h : i < l.length),i < n→p l[i]=false)→(∀ h : n < l.length,p l[n]=true)→l.find? p=l[n]?
 | [],n,_,_,_=>by simp
 | a :: l,0,_,_,h2=>by
  have h3 : p a=true:=h2 (by simp)
  simp [h3]
 | a :: l,n + 1,hn,h1,h2=>by
  have h3 : p a=false:=h1 0 (by simp) (by omega)
  rw [List.find?_cons,h3]
  exact find_first (by simpa using hn) (fun i h hh=>h1 (i + 1) (by simpa using h) (by omega)) (fun h=>h2 (by simpa using h))
theorem lexF_le (l : List UInt8) : (lexF l).1≤l.length:=by
 cases l with
 | nil=>simp [lexF]
 | cons c r =>
  simp only [lexF]
  by_cases h1 : letB c=true
  ·rw [if_pos h1]
   exact (List.takeWhile_sublist _).length_le
  rw [if_neg h1]
  by_cases h2 : digB c=true
  ·rw [if_pos h2]
   exact (List.takeWhile_sublist _).length_le
  rw [if_neg h2]
  by_cases h3 : c.toNat=34
  ·rw [if_pos h3]
   cases h : r.findIdx? (· == 34) with
   | none=>simp
   | some j =>
    have:=(List.findIdx?_eq_some_iff_getElem.1 h).1
    simp
    omega
  ·rw [if_neg h3]
   cases h : marksL.find? (fun m=>m.isPrefixOf (c :: r)) with
   | none=>simp
   | some m=>exact (List.isPrefixOf_iff_prefix.1 (List.find?_some (p:=fun m : List UInt8=>m.isPrefixOf (c :: r)) h)).length_le
theorem byte0 {b : ByteArray} {c : UInt8} {r : List UInt8} (h : b.data.toList=c :: r) : b[0]?=some c:=by
 obtain ⟨d⟩:=b
 have h1 : d.toList[0]?=some c:=by rw [show d.toList=c :: r from h]; rfl
 have hs : 0 < d.size:=by
  have:=congrArg List.length (show d.toList=c :: r from h)
  simp at this
  omega
 rw [getElem?_pos (ByteArray.mk d) 0 hs]
 show some d[0]=some c
 simpa [hs] using h1
end Go.PL
/-
  Plain laws: questions: which tokens come of a text; what a text asks. No program is in sight.
-/
namespace Go.PL
open Go Go.GK

theorem tw_take {p : UInt8→Bool} (l : List UInt8) : l.take (l.takeWhile p).length=l.takeWhile p :=
 (List.prefix_iff_eq_take.1 (List.takeWhile_prefix p)).symm
theorem tw_mem {p : UInt8→Bool} {l : List UInt8} : ∀ b ∈ l.takeWhile p,p b=true:=fun b hb=>List.all_eq_true.1 (List.all_takeWhile (p:=p) (l:=l)) b hb
theorem lexF_tx (l : List UInt8) (h0 : (lexF l).1 ≠ 0) (h18 : ¬ ((lexF l).2=2∧18 < (lexF l).1)) : TxOk (lexF l).2 (l.take (lexF l).1):=by
 cases l with
 | nil=>exact absurd rfl h0
 | cons c r =>
  by_cases h1 : letB c=true
  ·have e : lexF (c :: r)=(((c :: r).takeWhile fun b=>letB b || digB b).length,1):=by simp only [lexF,h1,if_true]
   rw [e,tw_take]
   refine .inl ⟨rfl,c,r.takeWhile fun b=>letB b || digB b,by simp [h1],h1,tw_mem⟩
  by_cases h2 : digB c=true
  ·have e : lexF (c :: r)=(((c :: r).takeWhile digB).length,2):=by simp only [lexF,h1,h2,if_true,Bool.false_eq_true,if_false]
   rw [e] at h18
   rw [e,tw_take]
   refine .inr (.inl ⟨rfl,by simp [h2],?_,tw_mem⟩)
   exact Nat.le_of_not_lt fun h=>h18 ⟨rfl,h⟩
  by_cases h3 : c.toNat=34
  ·have e : lexF (c :: r)=(match r.findIdx? (· == 34) with | some j=>j + 2 | none=>0,3):=by
    unfold lexF
    simp only [h1,h2,Bool.false_eq_true,if_false]
    rw [if_pos h3] <;> rfl
   rw [e] at h0
   rw [e]
   cases h : r.findIdx? (· == 34) with
   | none=>rw [h] at h0; exact absurd rfl h0
   | some j =>
    obtain ⟨hj,hp,hn⟩:=List.findIdx?_eq_some_iff_getElem.1 h
    have hc : c=34:=UInt8.toNat_inj.1 h3
    refine .inr (.inr (.inl ⟨rfl,r.take j,?_,?_⟩))
    ·show (c :: r).take (j + 2)=_
     have h5 : r[j]=34:=by simpa using hp
     rw [hc,List.take_succ_cons,List.take_succ_eq_append_getElem hj,h5]
     rfl
    ·intro b hb
     obtain ⟨i,hi,he⟩:=List.getElem_of_mem hb
     have hij : i < j:=by simp at hi; omega
     have h6:=hn i hij
     have h7 : r[i]'(by omega)=b:=by simpa using he
     rw [h7] at h6
     intro hb34
     have : b=34:=UInt8.toNat_inj.1 hb34
     rw [this] at h6
     simp at h6
  ·have e : lexF (c :: r)=(match marksL.find? (fun m=>m.isPrefixOf (c :: r)) with | some m=>m.length | none=>0,4):=by
    unfold lexF
    simp only [h1,h2,Bool.false_eq_true,if_false]
    rw [if_neg h3] <;> rfl
   rw [e] at h0
   rw [e]
   cases h : marksL.find? (fun m=>m.isPrefixOf (c :: r)) with
   | none=>rw [h] at h0; exact absurd rfl h0
   | some m =>
    refine .inr (.inr (.inr ⟨rfl,?_⟩))
    show (c :: r).take m.length ∈ marksL
    rw [← List.prefix_iff_eq_take.1 (List.isPrefixOf_iff_prefix.1 (List.find?_some (p:=fun m : List UInt8=>m.isPrefixOf (c :: r)) h))]
    exact List.mem_of_find?_eq_some h
theorem tok_toks (s : List UInt8) (hs : s.length≤1000) : ∀ (f i cnt : Nat) (l : List Tok),tokF s f i cnt=.ok l→cnt≤120→ToksOk l∧cnt + l.length≤121
 | 0,_,_,_,h,_=>by simp [tokF] at h
 | f + 1,i,cnt,l,h,hc=>by
  rw [tokF] at h
  simp only at h
  generalize hk : ((s.drop i).takeWhile (· == 32)).length=k at h
  by_cases he : s.length≤i + k
  ·rw [if_pos he] at h
   cases h
   refine ⟨⟨fun t ht=>?_,[],_,rfl,rfl⟩,by simp; omega⟩
   rw [List.mem_singleton.1 ht]
   exact ⟨.inr ⟨rfl,rfl⟩,show (ByteArray.mk #[]).size≤1000 by decide⟩
  rw [if_neg he] at h
  have hx:=lexF_tx (s.drop (i + k))
  have hle:=lexF_le (s.drop (i + k))
  generalize lexF (s.drop (i + k))=nk at h hx hle
  obtain ⟨n,kd⟩:=nk
  simp only at h hx hle
  by_cases hn : n=0
  ·rw [if_pos hn] at h; cases h
  rw [if_neg hn] at h
  by_cases hl : (kd=2∧18 < n)∨120≤cnt
  ·rw [if_pos hl] at h; cases h
  rw [if_neg hl] at h
  cases hr : tokF s f (i + k + n) (cnt + 1) with
  | error e=>rw [hr] at h; cases h
  | ok l2 =>
   rw [hr] at h
   cases h
   obtain ⟨h1,h2⟩:=tok_toks s hs f _ _ l2 hr (by omega)
   obtain ⟨a,e,h3,h4⟩:=h1.last
   refine ⟨⟨fun t ht=>?_,_ :: a,e,by rw [h3]; rfl,h4⟩,by simp; omega⟩
   rcases List.mem_cons.1 ht with rfl | ht
   ·refine ⟨.inl ?_,?_⟩
    ·simpa using hx hn (fun h=>hl (.inl h))
    ·show ((s.drop (i + k)).take n).toArray.size≤1000
     simp
     omega
   ·exact h1.each t ht
def parseF (s : List UInt8) : Except (Int × Int) Qn:=match tokF s (s.length + 1) 0 0 with
 | .error e=>.error e
 | .ok l=>match sumP (3 * l.length + 3) 0 l with
  | .error e=>.error e
  | .ok (q,l')=>if (hdT l').kind ≠ 5 then .error (3,(hdT l').pos) else .ok q
end Go.PL
/-
  Plain laws: questions: how they are printed. No program is in sight.
-/
namespace Go.PL
open Go Go.GK
def lvl (c : Int) : Nat:=if c=13∨c=14 then 0 else if c=15∨c=16 then 1 else 2
def bL (s : ByteArray) : List UInt8:=s.data.toList
theorem bS_bL (s : ByteArray) : bS (bL s)=s:=by cases s; simp [bS,bL]
theorem bL_bS (l : List UInt8) : bL (bS l)=l:=by simp [bS,bL]
theorem bS_inj {a b : List UInt8} (h : bS a=bS b) : a=b:=by rw [← bL_bS a,← bL_bS b,h]
theorem bL_len (s : ByteArray) : (bL s).length=s.size:=by simp [bL]
def sepX (y : Lx) : List (List Lx)→List Lx
 | []=>[]
 | [x]=>x
 | x :: r=>x++y :: sepX y r
def mtX (m : Mt) : List Lx:=[wL (bL m.name),mL (bL (opsL.getD m.op.toNat ⟨#[]⟩)),qL (bL m.value)]
def msX (l : List Mt) : List Lx:=mL [123] :: (sepX (mL [44]) (l.map mtX)++[mL [125]])
def byX (l : List ByteArray) : List Lx:=sepX ⟨0,[44],4,1⟩ (l.map fun s=>[wL (bL s)])
def parX (x : List Lx) : List Lx:=mL [40] :: (x++[mL [41]])
def symX (c : Int) : List UInt8:=if c=13 then [43] else if c=14 then [45] else if c=15 then [42] else [47]
def binX (c : Int) : Lx:=⟨1,symX c,4,1⟩
def bysX (b : List ByteArray) : List Lx:=match b with
 | []=>[]
 | s :: r=>⟨1,[98,121],1,1⟩ :: parX (byX (s :: r))
def ifP (b : Bool) (x : List Lx) : List Lx:=if b then parX x else x
def atX : Qn→Nat→List Lx
 | .nil,_=>[]
 | .mk c num m span b l r,least=>ifP (decide (lvl c < least))
  (if c=1 then [dL (Lib.itoa num)]
  else if c=2 then msX m
  else if 3≤c∧c≤7 then wL (bL (oversL.getD (c - 3).toNat ⟨#[]⟩)) :: parX (msX m++[mL [91],dL (Lib.itoa span),mL [93]])
  else if 8≤c∧c≤11 then wL (bL (allsL.getD (c - 8).toNat ⟨#[]⟩)) :: (parX (atX l 0)++bysX b)
  else if c=12 then mL [45] :: atX l 2
  else if lvl c < 2 then atX l (lvl c)++binX c :: atX r (lvl c + 1)
  else [])
def MOk (m : Mt) : Prop:=nameF m.name=true∧valueF m.value=true∧0≤m.op∧m.op≤3
def MsOk (l : List Mt) : Prop:=(∀ m ∈ l,MOk m)∧l.length≤8
inductive Wf : Qn→Prop
 | num (n : Int) (h0 : 0≤n) (h1 : n < 1000000000000000000) : Wf (.mk 1 n [] 0 [] .nil .nil)
 | pick (m : List Mt) (h : MsOk m) : Wf (.mk 2 0 m 300 [] .nil .nil)
 | over (k : Nat) (hk : k < 5) (m : List Mt) (h : MsOk m) (sp : Int) (h1 : 1≤sp) (h2 : sp≤1099511627776) : Wf (.mk (3 + k) 0 m sp [] .nil .nil)
 | all (k : Nat) (hk : k < 4) (b : List ByteArray) (hb : ∀ s ∈ b,nameF s=true) (hl : b.length≤8) (q : Qn) (hq : Wf q) : Wf (.mk (8 + k) 0 [] 0 b q .nil)
 | neg (q : Qn) (hq : Wf q) : Wf (.mk 12 0 [] 0 [] q .nil)
 | add (k : Nat) (hk : k < 2) (l r : Qn) (hl : Wf l) (hr : Wf r) : Wf (.mk (13 + k) 0 [] 0 [] l r)
 | mul (k : Nat) (hk : k < 2) (l r : Qn) (hl : Wf l) (hr : Wf r) : Wf (.mk (15 + k) 0 [] 0 [] l r)
def Qn.code : Qn→Int
 | .nil=>0
 | .mk c ..=>c
def dep : Qn→Nat→Nat
 | .nil,_=>0
 | .mk c _ _ _ _ l r,least=>(if lvl c < least then 1 else 0) +
  (if 8≤c∧c≤11 then 1 + dep l 0 else if c=12 then 1 + dep l 2 else if lvl c < 2 then max (dep l (lvl c)) (dep r (lvl c + 1)) else 0)

theorem atX_num (n : Int) (least : Nat) (h : least≤2) : atX (.mk 1 n [] 0 [] .nil .nil) least=[dL (Lib.itoa n)]:=by
 have : ¬ (2 < least):=by omega
 simp [atX,lvl,ifP,this]
theorem atX_pick (m : List Mt) (least : Nat) (h : least≤2) : atX (.mk 2 0 m 300 [] .nil .nil) least=msX m:=by
 have : ¬ (2 < least):=by omega
 simp [atX,lvl,ifP,this]
theorem atX_over (k : Nat) (hk : k < 5) (m : List Mt) (sp : Int) (least : Nat) (h : least≤2) : atX (.mk (3 + k) 0 m sp [] .nil .nil) least=wL (bL (oversL.getD k ⟨#[]⟩)) :: parX (msX m++[mL [91],dL (Lib.itoa sp),mL [93]]):=by
 have h1 : ¬ (lvl (3 + k) < least):=by
  have : lvl (3 + k)=2:=by rw [lvl,if_neg (by omega),if_neg (by omega)]
  omega
 have h2 : ((3 + k : Int) - 3).toNat=k:=by omega
 rw [atX,if_neg (by omega),if_neg (by omega),if_pos (by omega),h2,decide_eq_false h1]
 rfl
theorem atX_all (k : Nat) (hk : k < 4) (b : List ByteArray) (q : Qn) (least : Nat) (h : least≤2) : atX (.mk (8 + k) 0 [] 0 b q .nil) least=wL (bL (allsL.getD k ⟨#[]⟩)) :: (parX (atX q 0)++bysX b):=by
 have h1 : ¬ (lvl (8 + k) < least):=by
  have : lvl (8 + k)=2:=by rw [lvl,if_neg (by omega),if_neg (by omega)]
  omega
 have h2 : ((8 + k : Int) - 8).toNat=k:=by omega
 rw [atX,if_neg (by omega),if_neg (by omega),if_neg (by omega),if_pos (by omega),h2,decide_eq_false h1]
 rfl
theorem atX_neg (q : Qn) (least : Nat) (h : least≤2) : atX (.mk 12 0 [] 0 [] q .nil) least=mL [45] :: atX q 2:=by
 have h1 : ¬ (lvl 12 < least):=by
  have : lvl 12=2:=rfl
  omega
 rw [atX,if_neg (by omega),if_neg (by omega),if_neg (by omega),if_neg (by omega),if_pos rfl,decide_eq_false h1]
 rfl
theorem lvl_add (k : Nat) (hk : k < 2) : lvl (13 + k)=0:=by rw [lvl,if_pos (by omega)]
theorem lvl_mul (k : Nat) (hk : k < 2) : lvl (15 + k)=1:=by rw [lvl,if_neg (by omega),if_pos (by omega)]
theorem atX_add (k : Nat) (hk : k < 2) (l r : Qn) (least : Nat) : atX (.mk (13 + k) 0 [] 0 [] l r) least=ifP (decide (0 < least)) (atX l 0++binX (13 + k) :: atX r 1):=by
 have h1:=lvl_add k hk
 rw [atX,if_neg (by omega),if_neg (by omega),if_neg (by omega),if_neg (by omega),if_neg (by omega),if_pos (by omega),h1]
theorem atX_mul (k : Nat) (hk : k < 2) (l r : Qn) (least : Nat) : atX (.mk (15 + k) 0 [] 0 [] l r) least=ifP (decide (1 < least)) (atX l 1++binX (15 + k) :: atX r 2):=by
 have h1:=lvl_mul k hk
 rw [atX,if_neg (by omega),if_neg (by omega),if_neg (by omega),if_neg (by omega),if_neg (by omega),if_pos (by omega),h1]
theorem dep_num (n : Int) (least : Nat) (h : least≤2) : dep (.mk 1 n [] 0 [] .nil .nil) least=0:=by
 have : ¬ (2 < least):=by omega
 simp [dep,lvl,this]
theorem dep_pick (m : List Mt) (least : Nat) (h : least≤2) : dep (.mk 2 0 m 300 [] .nil .nil) least=0:=by
 have : ¬ (2 < least):=by omega
 simp [dep,lvl,this]
theorem dep_over (k : Nat) (hk : k < 5) (m : List Mt) (sp : Int) (least : Nat) (h : least≤2) : dep (.mk (3 + k) 0 m sp [] .nil .nil) least=0:=by
 have h1 : lvl (3 + k)=2:=by rw [lvl,if_neg (by omega),if_neg (by omega)]
 rw [dep,if_neg (by omega),if_neg (by omega),if_neg (by omega),if_neg (by omega)]
theorem dep_all (k : Nat) (hk : k < 4) (b : List ByteArray) (q : Qn) (least : Nat) (h : least≤2) : dep (.mk (8 + k) 0 [] 0 b q .nil) least=1 + dep q 0:=by
 have h1 : lvl (8 + k)=2:=by rw [lvl,if_neg (by omega),if_neg (by omega)]
 rw [dep,if_neg (by omega),if_pos (by omega),Nat.zero_add]
theorem dep_neg (q : Qn) (least : Nat) (h : least≤2) : dep (.mk 12 0 [] 0 [] q .nil) least=1 + dep q 2:=by
 have h1 : lvl 12=2:=rfl
 rw [dep,if_neg (by omega),if_neg (by omega),if_pos rfl,Nat.zero_add]
theorem dep_add (k : Nat) (hk : k < 2) (l r : Qn) (least : Nat) : dep (.mk (13 + k) 0 [] 0 [] l r) least=(if 0 < least then 1 else 0) + max (dep l 0) (dep r 1):=by
 have h1:=lvl_add k hk
 rw [dep,if_neg (show ¬ (8≤(13 + k : Int)∧(13 + k : Int)≤11) by omega),if_neg (show ¬ ((13 + k : Int)=12) by omega),h1,if_pos (show 0 < 2 by omega)]
theorem dep_mul (k : Nat) (hk : k < 2) (l r : Qn) (least : Nat) : dep (.mk (15 + k) 0 [] 0 [] l r) least=(if 1 < least then 1 else 0) + max (dep l 1) (dep r 2):=by
 have h1:=lvl_mul k hk
 rw [dep,if_neg (show ¬ (8≤(15 + k : Int)∧(15 + k : Int)≤11) by omega),if_neg (show ¬ ((15 + k : Int)=12) by omega),h1,if_pos (show 1 < 2 by omega)]

def wx (c : Nat) (l : List Lx) : Nat:=(l.map fun x=>c + x.text.length).sum
def wt (c : Nat) (l : List Tok) : Nat:=(l.map fun t=>c + t.text.size).sum
theorem wx_cons (c : Nat) (x : Lx) (l : List Lx) : wx c (x :: l)=c + x.text.length + wx c l:=by simp [wx]
theorem wx_append (c : Nat) (a b : List Lx) : wx c (a++b)=wx c a + wx c b:=by simp [wx]
theorem wx_nil (c : Nat) : wx c []=0:=rfl
theorem wt_cons (c : Nat) (x : Tok) (l : List Tok) : wt c (x :: l)=c + x.text.size + wt c l:=by simp [wt]
theorem wx_parX (c : Nat) (x : List Lx) : wx c (parX x)=2 * c + 2 + wx c x:=by
 simp only [parX,wx_cons,wx_append,wx_nil,mL,List.length_cons,List.length_nil]
 omega
theorem sepX_snoc (y : Lx) (l : List (List Lx)) (x : List Lx) : sepX y (l++[x])=if l=[] then x else sepX y l++y :: x:=by
 induction l with
 | nil=>rfl
 | cons a r ih =>
  rw [if_neg (by simp)]
  cases r with
  | nil=>rfl
  | cons b r =>
   have : sepX y (a :: b :: r++[x])=a++y :: sepX y (b :: r++[x]):=rfl
   rw [this,ih,if_neg (by simp)]
   simp [sepX]
theorem at_le (q : Qn) (a b : Nat) (h : a≤b) : dep q a≤dep q b∧∀ c,wx c (atX q a)≤wx c (atX q b):=by
 cases q with
 | nil=>exact ⟨Nat.le_refl _,fun _=>Nat.le_refl _⟩
 | mk c n m s bb l r =>
  have hh : ∀ x y : Nat,(if lvl c < a then 1 else 0) + x≤(if lvl c < b then 1 else 0) + x:=fun x _=>by
   by_cases h1 : lvl c < a
   ·rw [if_pos h1,if_pos (by omega)]; exact Nat.le_refl _
   ·rw [if_neg h1]; omega
  have hp : ∀ (w : Nat) (x : List Lx),wx w (ifP (decide (lvl c < a)) x)≤wx w (ifP (decide (lvl c < b)) x):=fun w x=>by
   by_cases h1 : lvl c < a
   ·rw [decide_eq_true h1,decide_eq_true (by omega)]; exact Nat.le_refl _
   ·rw [decide_eq_false h1]
    by_cases h2 : lvl c < b
    ·rw [decide_eq_true h2]
     show wx w x≤wx w (parX x)
     rw [wx_parX]; omega
    ·rw [decide_eq_false h2]; exact Nat.le_refl _
  exact ⟨hh _ 0,fun w=>hp w _⟩
end Go.PL
/-
  Plain laws: what questions come to: points, and a number alone. No program is in sight.
-/
namespace Go.PL
open Go Go.GK

structure Pt where
 labels : List Lb
 value : Int
instance : Inhabited Pt:=⟨⟨[],0⟩⟩
def wr64 (x : Int) : Int:=IntKind.i64.wrap x
abbrev inT (f t : Int) (x : Sm) : Bool:=decide (f≤x.time∧x.time≤t)
theorem fmap_congr {α β : Type} {f g : α→Option β} (h : ∀ x,f x=g x) (l : List α) : l.filterMap f=l.filterMap g:=by
 rw [show f=g from funext h]
def overV (code : Int) (l : List Int) : Int :=
 if code=2 then l.getLastD 0 else if code=3 then l.length else if code=7 then wr64 (l.getLastD 0 - l.headD 0)
 else l.tail.foldl (fun n x=>if code=4 then wr64 (n + x) else if code=5 then min n x else max n x) (l.headD 0)
def overF (code : Int) (l : List Sm) : Int:=overV code (l.map (·.value))
def srcF (l : List Ser) (m : List Mt) (f t : Int) : List Ser:=l.filterMap fun x : Ser =>
 if (x.samples.filter (inT f t)) ≠ []∧allF x.labels m=true then some ⟨x.labels,x.samples.filter (inT f t)⟩ else none
def ptsF (code : Int) (l : List Ser) : List Pt:=(l.filter fun x=>decide (x.samples ≠ [])).map fun x=>⟨x.labels,overF code x.samples⟩
def combF (code a b : Int) : Int:=if code=9 then min a b else if code=10 then max a b else wr64 (a + b)
def insP (code : Int) : List Pt→Pt→List Pt
 | [],x=>[x]
 | y :: r,x=>if cmpF y.labels x.labels < 0 then y :: insP code r x else if cmpF y.labels x.labels=0 then ⟨y.labels,combF code y.value x.value⟩ :: r else x :: y :: r
def grp (code : Int) (by_ : List ByteArray) (p : Pt) : Pt:=⟨onlyF p.labels by_,if code=11 then 1 else p.value⟩
def togF (code : Int) (by_ : List ByteArray) (l : List Pt) : List Pt:=(l.map (grp code by_)).foldl (insP code) []
def countF (code a b : Int) : Option Int :=
 if code=13 then some (wr64 (a + b)) else if code=14 then some (wr64 (a - b)) else if code=15 then some (wr64 (a * b))
 else if b=0 then none else if b=-1 then some (wr64 (-a)) else some (wr64 (a.tdiv b))
abbrev Came:=List Pt × Bool
def bothQ (code : Int) (a b : Came) : Came :=
 (a.1.flatMap fun p=>b.1.filterMap fun q =>
  if a.2 then (countF code p.value q.value).map fun n=>⟨q.labels,n⟩
  else if b.2∨cmpF p.labels q.labels=0 then (countF code p.value q.value).map fun n=>⟨p.labels,n⟩ else none,a.2 && b.2)
def evalF (src : List Mt→Int→Int→List Ser) (t : Int) : Qn→Except Int Came
 | .nil=>.error 3
 | .mk c num m sp b l r =>
  if c=1 then .ok ([⟨[],num⟩],true)
  else if 2≤c∧c≤7 then .ok (ptsF c (src m (wr64 (wr64 (t - sp) + 1)) t),false)
  else match evalF src t l with
   | .error e=>.error e
   | .ok a =>
    if 8≤c∧c≤11 then (if a.2 then .error 1 else .ok (togF c b a.1,false))
    else if c=12 then .ok (bothQ 14 ([⟨[],0⟩],true) a)
    else match evalF src t r with
     | .error e=>.error e
     | .ok b=>.ok (bothQ c a b)
theorem wr_id {x : Int} (h1 : -9223372036854775808≤x) (h2 : x≤9223372036854775807) : wr64 x=x:=by
 rw [wr64,IntKind.wrap_i64]
 omega
end Go.PL
/-
  Plain laws: points put together: in order of labels, or one by one and sorted then; in parts, or at once. No program is in sight.
-/
namespace Go.PL
open Go Go.GK
def posP (ls : List Lb) : List Pt→Nat
 | []=>0
 | x :: r=>if cmpF x.labels ls < 0 then posP ls r + 1 else 0
def RisP (l : List Pt) : Prop:=l.Pairwise fun x y=>cmpF x.labels y.labels < 0
theorem posP_le (ls : List Lb) : ∀ l : List Pt,posP ls l≤l.length
 | []=>Nat.le_refl _
 | x :: r=>by
  unfold posP
  split
  ·simpa using posP_le ls r
  ·simp
theorem posP_lt (ls : List Lb) : ∀ (l : List Pt) (i : Nat) (h : i < l.length),i < posP ls l→cmpF l[i].labels ls < 0
 | x :: r,i,h,hi=>by
  unfold posP at hi
  split at hi
  ·rename_i hc
   cases i with
   | zero=>exact hc
   | succ i=>exact posP_lt ls r i (by simpa using h) (by omega)
  ·omega
theorem posP_at (ls : List Lb) : ∀ (l : List Pt) (h : posP ls l < l.length),¬ cmpF l[posP ls l].labels ls < 0
 | x :: r,h=>by
  by_cases hc : cmpF x.labels ls < 0
  ·have e : posP ls (x :: r)=posP ls r + 1:=by rw [posP,if_pos hc]
   have:=posP_at ls r (by rw [e] at h; simpa using h)
   simpa [e] using this
  ·have e : posP ls (x :: r)=0:=by rw [posP,if_neg hc]
   simpa [e] using hc
theorem posP_ge {ls : List Lb} {l : List Pt} (hr : RisP l) (i : Nat) (h : i < l.length) (hi : posP ls l≤i) : ¬ cmpF l[i].labels ls < 0:=by
 have h0 : posP ls l < l.length:=by omega
 have:=posP_at ls l h0
 rcases Nat.eq_or_lt_of_le hi with e | e
 ·simpa [← e] using this
 ·intro hc
  have hp : cmpF l[posP ls l].labels l[i].labels < 0:=List.pairwise_iff_getElem.1 hr _ _ h0 h e
  exact this (cmpF_lt_trans hp hc)
theorem insP_yes {c : Int} {x : Pt} : ∀ {l : List Pt} (hn : posP x.labels l < l.length),cmpF l[posP x.labels l].labels x.labels=0→insP c l x=l.set (posP x.labels l) ⟨l[posP x.labels l].labels,combF c l[posP x.labels l].value x.value⟩
 | z :: r,hn,h=>by
  unfold insP
  by_cases hc : cmpF z.labels x.labels < 0
  ·have e : posP x.labels (z :: r)=posP x.labels r + 1:=by rw [posP,if_pos hc]
   simp only [e,List.getElem_cons_succ] at h ⊢
   rw [if_pos hc,List.set_cons_succ,insP_yes (l:=r) (by rw [e] at hn; simpa using hn) h]
  ·have e : posP x.labels (z :: r)=0:=by rw [posP,if_neg hc]
   simp only [e,List.getElem_cons_zero] at h ⊢
   rw [if_neg hc,if_pos h]
   rfl
theorem insP_no {c : Int} {x : Pt} : ∀ {l : List Pt},(∀ hn : posP x.labels l < l.length,cmpF l[posP x.labels l].labels x.labels ≠ 0)→insP c l x=l.take (posP x.labels l)++x :: l.drop (posP x.labels l)
 | [],_=>rfl
 | z :: r,h=>by
  unfold insP
  by_cases hc : cmpF z.labels x.labels < 0
  ·have e : posP x.labels (z :: r)=posP x.labels r + 1:=by rw [posP,if_pos hc]
   rw [if_pos hc,e,List.take_succ_cons,List.drop_succ_cons,insP_no (l:=r) fun hn=>by
    have:=h (by rw [e]; simpa using hn)
    simpa only [e,List.getElem_cons_succ] using this]
   rfl
  ·have e : posP x.labels (z :: r)=0:=by rw [posP,if_neg hc]
   have h1:=h (by rw [e]; simp)
   simp only [e,List.getElem_cons_zero] at h1
   rw [if_neg hc,if_neg h1,e]
   rfl
theorem insP_len (c : Int) (x : Pt) : ∀ l : List Pt,(insP c l x).length≤l.length + 1
 | []=>by simp [insP]
 | y :: r=>by
  unfold insP
  repeat' split
  ·have:=insP_len c x r; simp; omega
  ·simp
  ·simp
def Pt.s (p : Pt) : Ser:=⟨p.labels,[⟨0,p.value⟩]⟩
def hv (l : List Sm) : Int:=match l with | x :: _=>x.value | []=>0
def mgC (c : Int) (a b : List Sm) : List Sm:=[⟨0,combF c (hv a) (hv b)⟩]
theorem s_inj {p q : Pt} (h : p.s=q.s) : p=q:=by
 obtain ⟨a,b⟩:=p
 obtain ⟨a',b'⟩:=q
 unfold Pt.s at h
 injection h with h1 h2
 injection h2 with h3 _
 injection h3 with _ h4
 subst h1; subst h4
 rfl
theorem smap_inj : ∀ {l m : List Pt},l.map Pt.s=m.map Pt.s→l=m
 | [],[],_=>rfl
 | x :: l,y :: m,h=>by
  simp only [List.map_cons,List.cons.injEq] at h
  rw [s_inj h.1,smap_inj h.2]
theorem ris_s {l : List Pt} : RisS (l.map Pt.s) ↔ RisP l:=by
 unfold RisS RisP
 rw [List.pairwise_map]
 exact Iff.rfl
theorem insP_s (c : Int) (x : Pt) : ∀ l : List Pt,(insP c l x).map Pt.s=mergeL (mgC c) (l.map Pt.s) [x.s]
 | []=>by rw [List.map_nil,mergeL_nil']; rfl
 | y :: r=>by
  rw [List.map_cons,mergeL_cons,mergeL_nil,mergeL_nil]
  unfold insP
  show List.map Pt.s (if cmpF y.labels x.labels < 0 then _ else if cmpF y.labels x.labels=0 then _ else _)=(if cmpF y.labels x.labels < 0 then _ else if cmpF y.labels x.labels=0 then _ else _)
  split
  ·rw [List.map_cons,insP_s c x r]
  ·split
   ·rename_i h0
    rw [List.map_cons]
    congr 1
    show (⟨y.labels,_⟩ : Ser)=⟨x.labels,_⟩
    rw [(cmpF_is.eq0 _ _).1 h0]
    rfl
   ·rfl
theorem insP_ris {c : Int} {x : Pt} {l : List Pt} (h : RisP l) : RisP (insP c l x):=by
 rw [← ris_s,insP_s]
 exact mergeL_ris _ _ (ris_s.2 h) (List.pairwise_singleton _ _)
theorem fold_ris (c : Int) : ∀ (b l : List Pt),RisP l→RisP (b.foldl (insP c) l)
 | [],_,h=>h
 | x :: b,l,h=>fold_ris c b _ (insP_ris h)
theorem tog_ris (c : Int) (by_ : List ByteArray) (l : List Pt) : RisP (togF c by_ l):=fold_ris c _ _ .nil
theorem fold_len (c : Int) : ∀ (b l : List Pt),(b.foldl (insP c) l).length≤l.length + b.length
 | [],l=>by simp
 | x :: b,l=>by
  have h1:=fold_len c b (insP c l x)
  have h2:=insP_len c x l
  simp only [List.foldl_cons,List.length_cons]
  omega
theorem tog_len (c : Int) (by_ : List ByteArray) (l : List Pt) : (togF c by_ l).length≤l.length:=by
 have:=fold_len c (l.map (grp c by_)) []
 simpa [togF] using this
def putP (code : Int) : List Pt→Pt→List Pt
 | [],x=>[x]
 | y :: r,x=>if y.labels=x.labels then ⟨y.labels,combF code y.value x.value⟩ :: r else y :: putP code r x
theorem putP_s (c : Int) (x : Pt) : ∀ l : List Pt,(putP c l x).map Pt.s=putL (mgC c) (l.map Pt.s) x.s
 | []=>rfl
 | y :: r=>by
  rw [List.map_cons]
  unfold putP putL
  show List.map Pt.s (if y.labels=x.labels then _ else _)=(if y.labels=x.labels then _ else _)
  split
  ·rename_i h
   rw [List.map_cons]
   congr 1
   show (⟨y.labels,_⟩ : Ser)=⟨x.labels,_⟩
   rw [h]
   rfl
  ·rw [List.map_cons,putP_s c x r]
theorem fold_look (c : Int) : ∀ (b l m : List Pt),RisP m→DL (l.map Pt.s)→(∀ ls,lookL ls (l.map Pt.s)=lookL ls (m.map Pt.s))→(∀ ls,lookL ls ((b.foldl (putP c) l).map Pt.s)=lookL ls ((b.foldl (insP c) m).map Pt.s))∧DL ((b.foldl (putP c) l).map Pt.s)
 | [],_,_,_,hd,h=>⟨h,hd⟩
 | x :: b,l,m,hm,hd,h=>by
  simp only [List.foldl_cons]
  refine fold_look c b (putP c l x) (insP c m x) (insP_ris hm) (by rw [putP_s]; exact putL_dl hd) fun ls=>?_
  rw [putP_s,insP_s,look_putL,mergeL_look _ _ _ _ (ris_s.2 hm) (List.pairwise_singleton _ _),h]
  rfl
theorem tog_sorted {c : Int} {by_ : List ByteArray} {l m : List Pt} (hp : m.Perm ((l.map (grp c by_)).foldl (putP c) [])) (hs : m.Pairwise fun x y=>¬ cmpF y.labels x.labels < 0) : m=togF c by_ l:=by
 obtain ⟨h1,h2⟩:=fold_look c (l.map (grp c by_)) [] [] .nil .nil fun _=>rfl
 have hp':=hp.map Pt.s
 have hd' : DL (m.map Pt.s):=(hp'.map _).nodup_iff.2 h2
 refine smap_inj (ris_ext (sorted_ris ?_ hd') (ris_s.2 (tog_ris c by_ l)) fun ls=>?_)
 ·rw [List.pairwise_map]; exact hs
 ·rw [lookL_perm hp' hd',h1]
  rfl
end Go.PL
/-
  Plain laws: what the document's questions come to; what many questions come to stays small, and in order. No program is in sight.
-/
namespace Go.PL
open Go Go.GK
def I64 (x : Int) : Prop:=-9223372036854775808≤x∧x≤9223372036854775807
theorem wr_I64 {x : Int} (h : I64 x) : wr64 x=x:=wr_id h.1 h.2
theorem I64_wr (x : Int) : I64 (wr64 x):=by
 unfold I64 wr64
 rw [IntKind.wrap_i64]
 omega
theorem div_two {a b : Int} (ha : I64 a) (hb : I64 b) (h0 : b ≠ 0) :
  (if decide (a < 0) != decide (b < 0) then wr64 (-(wr64 ((a.natAbs / b.natAbs : Nat) : Int))) else wr64 ((a.natAbs / b.natAbs : Nat) : Int))=(if b=-1 then wr64 (-a) else wr64 (a.tdiv b)):=by
 obtain ⟨ha1,ha2⟩:=ha
 obtain ⟨hb1,hb2⟩:=hb
 have hk : 1≤b.natAbs:=by omega
 have hq : a.natAbs / b.natAbs≤a.natAbs:=Nat.div_le_self _ _
 have hq2 : 2≤b.natAbs→a.natAbs / b.natAbs≤4611686018427387904:=fun h=>by
  have h1 : a.natAbs / b.natAbs≤a.natAbs / 2:=Nat.div_le_div_left h (by decide)
  omega
 have ht : a.tdiv b=if decide (a < 0) != decide (b < 0) then -((a.natAbs / b.natAbs : Nat) : Int) else ((a.natAbs / b.natAbs : Nat) : Int):=by
  by_cases h1 : a < 0
  ·have e1 : a=-(a.natAbs : Int):=by omega
   by_cases h2 : b < 0
   ·have e2 : b=-(b.natAbs : Int):=by omega
    rw [decide_eq_true h1,decide_eq_true h2]
    conv=>lhs; rw [e1,e2,Int.neg_tdiv,Int.tdiv_neg,Int.neg_neg]
    rfl
   ·have e2 : b=(b.natAbs : Int):=by omega
    rw [decide_eq_true h1,decide_eq_false h2]
    conv=>lhs; rw [e1,e2,Int.neg_tdiv]
    rfl
  ·have e1 : a=(a.natAbs : Int):=by omega
   by_cases h2 : b < 0
   ·have e2 : b=-(b.natAbs : Int):=by omega
    rw [decide_eq_false h1,decide_eq_true h2]
    conv=>lhs; rw [e1,e2,Int.tdiv_neg]
    rfl
   ·have e2 : b=(b.natAbs : Int):=by omega
    rw [decide_eq_false h1,decide_eq_false h2]
    conv=>lhs; rw [e1,e2]
    rfl
 by_cases hm : b=-1
 ·rw [if_pos hm]
  have e : a.natAbs / b.natAbs=a.natAbs:=by rw [hm]; exact Nat.div_one _
  rw [e]
  subst hm
  simp only [wr64,IntKind.wrap_i64]
  by_cases h1 : a < 0
  ·rw [decide_eq_true h1,if_neg (by decide)]
   omega
  ·rw [decide_eq_false h1,if_pos (by decide)]
   omega
 ·rw [if_neg hm,ht]
  generalize a.natAbs / b.natAbs=q at hq hq2 ⊢
  by_cases h1 : a < 0 <;> by_cases h2 : b < 0
  ·rw [decide_eq_true h1,decide_eq_true h2,if_neg (by decide),if_neg (by decide)]
  ·rw [decide_eq_true h1,decide_eq_false h2,if_pos (by decide),if_pos (by decide)]
   simp only [wr64,IntKind.wrap_i64]
   omega
  ·rw [decide_eq_false h1,decide_eq_true h2,if_pos (by decide),if_pos (by decide)]
   simp only [wr64,IntKind.wrap_i64]
   omega
  ·rw [decide_eq_false h1,decide_eq_false h2,if_neg (by decide),if_neg (by decide)]
def sumR (l : List Int) : Int:=l.foldl (fun n x=>wr64 (n + x)) 0
def lowR (l : List Int) : Int:=l.foldl (fun n x=>if x < n then x else n) (l.headD 0)
def highR (l : List Int) : Int:=l.foldl (fun n x=>if n < x then x else n) (l.headD 0)
theorem over_ref (c : Int) {l : List Int} (h0 : l ≠ []) (h : I64 (l.headD 0)) : overV c l =
  if c=3 then (l.length : Int) else if c=4 then sumR l else if c=5 then lowR l else if c=6 then highR l else if c=7 then wr64 (l.getLastD 0 - l.headD 0) else if c=2 then l.getLastD 0 else highR l:=by
 obtain ⟨x,r,rfl⟩ : ∃ x r,l=x :: r:=by cases l with | nil=>exact absurd rfl h0 | cons x r=>exact ⟨x,r,rfl⟩
 have h : I64 x:=h
 have emin : lowR (x :: r)=r.foldl min x:=by
  unfold lowR
  rw [List.foldl_cons]
  show r.foldl _ (if x < x then x else x)=_
  rw [if_neg (by omega)]
  congr 1
  funext n y
  split <;> omega
 have emax : highR (x :: r)=r.foldl max x:=by
  unfold highR
  rw [List.foldl_cons]
  show r.foldl _ (if x < x then x else x)=_
  rw [if_neg (by omega)]
  congr 1
  funext n y
  split <;> omega
 have esum : sumR (x :: r)=r.foldl (fun n x=>wr64 (n + x)) x:=by
  unfold sumR
  rw [List.foldl_cons,Int.zero_add,wr_I64 h]
 rw [emin,emax,esum]
 unfold overV
 by_cases h3 : c=3
 ·subst h3; rfl
 by_cases h4 : c=4
 ·subst h4; rfl
 by_cases h5 : c=5
 ·subst h5; rfl
 by_cases h6 : c=6
 ·subst h6; rfl
 by_cases h7 : c=7
 ·subst h7; rfl
 by_cases h2 : c=2
 ·subst h2; rfl
 rw [if_neg h2,if_neg h3,if_neg h7,if_neg h3,if_neg h4,if_neg h5,if_neg h6,if_neg h7,if_neg h2]
 simp only [List.tail_cons,List.headD_cons,if_neg h4,if_neg h5]
structure CameOk (n : Nat) (a : Came) : Prop where
 ris : RisP a.1
 len : a.1.length≤n
 one : a.2=true→a.1.length≤1
 val : ∀ p ∈ a.1,I64 p.value
theorem ris_flat {α β : Type} {R : β→β→Prop} (f : α→List β) (l : List α) (h1 : ∀ x ∈ l,(f x).Pairwise R) (h2 : l.Pairwise fun x y=>∀ u ∈ f x,∀ v ∈ f y,R u v) : (l.flatMap f).Pairwise R:=by
 induction l with
 | nil=>exact .nil
 | cons x l ih =>
  rw [List.flatMap_cons]
  obtain ⟨a,b⟩:=List.pairwise_cons.1 h2
  refine List.pairwise_append.2 ⟨h1 x (by simp),ih (fun y hy=>h1 y (by simp [hy])) b,fun u hu v hv=>?_⟩
  obtain ⟨y,hy,hv⟩:=List.mem_flatMap.1 hv
  exact a y hy u hu v hv
theorem len_flat {α β : Type} (f : α→List β) (l : List α) (h : ∀ x ∈ l,(f x).length≤1) : (l.flatMap f).length≤l.length:=by
 induction l with
 | nil=>exact Nat.le_refl _
 | cons x l ih =>
  rw [List.flatMap_cons,List.length_append,List.length_cons]
  have h1:=h x (by simp)
  have h2:=ih fun y hy=>h y (by simp [hy])
  omega
theorem pw_one {β : Type} {R : β→β→Prop} : ∀ {l : List β},l.length≤1→l.Pairwise R
 | [],_=>.nil
 | [x],_=>List.pairwise_singleton _ _
 | x :: y :: l,h=>by simp at h
theorem fmap_one {α β : Type} (f : α→Option β) {l : List α} (h : l.length≤1) : (l.filterMap f).length≤1:=Nat.le_trans (List.length_filterMap_le f l) h
theorem one_same {ls : List Lb} (g : Pt→Option Pt) : ∀ {l : List Pt},RisP l→(l.filterMap fun q=>if cmpF ls q.labels=0 then g q else none).length≤1
 | [],_=>Nat.zero_le _
 | x :: l,h=>by
  obtain ⟨h1,h2⟩:=List.pairwise_cons.1 h
  rw [List.filterMap_cons]
  by_cases hx : cmpF ls x.labels=0
  ·have : (l.filterMap fun q=>if cmpF ls q.labels=0 then g q else none)=[]:=by
    rw [List.filterMap_eq_nil_iff]
    intro y hy
    refine if_neg fun e=>?_
    have:=h1 y hy
    rw [← (cmpF_is.eq0 _ _).1 hx,e] at this
    omega
   rw [this]
   split <;> simp
  ·rw [if_neg hx]
   exact one_same g h2
def pairQ (code : Int) (a b : Came) (p q : Pt) : Option Pt :=
  if a.2 then (countF code p.value q.value).map fun n=>⟨q.labels,n⟩
  else if b.2∨cmpF p.labels q.labels=0 then (countF code p.value q.value).map fun n=>⟨p.labels,n⟩ else none
theorem bothQ_is (code : Int) (a b : Came) : bothQ code a b=(a.1.flatMap fun p=>b.1.filterMap (pairQ code a b p),a.2 && b.2):=rfl
theorem count_I64 {c x y n : Int} (h : countF c x y=some n) : I64 n:=by
 unfold countF at h
 split at h
 ·cases h; exact I64_wr _
 split at h
 ·cases h; exact I64_wr _
 split at h
 ·cases h; exact I64_wr _
 split at h
 ·cases h
 split at h <;> (cases h; exact I64_wr _)
theorem pair_labels {c : Int} {a b : Came} {p q z : Pt} (h : pairQ c a b p q=some z) : z.labels=if a.2 then q.labels else p.labels:=by
 unfold pairQ at h
 split at h
 ·rename_i ha
  rw [if_pos ha]
  obtain ⟨n,_,rfl⟩:=Option.map_eq_some_iff.1 h
  rfl
 ·rename_i ha
  rw [if_neg ha]
  split at h
  ·obtain ⟨n,_,rfl⟩:=Option.map_eq_some_iff.1 h
   rfl
  ·cases h
theorem pair_val {c : Int} {a b : Came} {p q z : Pt} (h : pairQ c a b p q=some z) : I64 z.value:=by
 unfold pairQ at h
 repeat' split at h
 ·obtain ⟨n,hn,rfl⟩:=Option.map_eq_some_iff.1 h
  exact count_I64 hn
 ·obtain ⟨n,hn,rfl⟩:=Option.map_eq_some_iff.1 h
  exact count_I64 hn
 ·cases h
theorem both_ok {n : Nat} (c : Int) {a b : Came} (ha : CameOk n a) (hb : CameOk n b) : CameOk n (bothQ c a b):=by
 rw [bothQ_is]
 have hv : ∀ z ∈ (a.1.flatMap fun p=>b.1.filterMap (pairQ c a b p)),I64 z.value:=by
  intro z hz
  obtain ⟨p,_,hz⟩:=List.mem_flatMap.1 hz
  obtain ⟨q,_,hz⟩:=List.mem_filterMap.1 hz
  exact pair_val hz
 by_cases h1 : a.2=true
 ·have hl:=ha.one h1
  have key : ∀ p,(b.1.filterMap (pairQ c a b p)).Pairwise (fun x y=>cmpF x.labels y.labels < 0):=by
   intro p
   refine List.Pairwise.filterMap _ (fun x y hxy u hu v hv=>?_) hb.ris
   rw [pair_labels hu,pair_labels hv,if_pos h1,if_pos h1]
   exact hxy
  obtain ⟨al,a2⟩:=a
  cases al with
  | nil=>exact ⟨.nil,Nat.zero_le _,fun _=>Nat.zero_le _,fun z hz=>by cases hz⟩
  | cons p r =>
   have : r=[]:=by cases r with | nil=>rfl | cons _ _=>simp at hl
   subst this
   have e : ([p].flatMap fun p_1=>b.1.filterMap (pairQ c ([p],a2) b p_1))=b.1.filterMap (pairQ c ([p],a2) b p):=by simp
   show CameOk n ([p].flatMap (fun p_1=>b.1.filterMap (pairQ c ([p],a2) b p_1)),a2 && b.2)
   have hv' : ∀ z ∈ ([p].flatMap fun p_1=>b.1.filterMap (pairQ c ([p],a2) b p_1)),I64 z.value:=hv
   rw [e] at hv' ⊢
   refine ⟨key p,Nat.le_trans (List.length_filterMap_le _ _) hb.len,fun h=>?_,hv'⟩
   have h : (a2 && b.2)=true:=h
   rw [Bool.and_eq_true] at h
   exact fmap_one _ (hb.one h.2)
 ·have one : ∀ p,(b.1.filterMap (pairQ c a b p)).length≤1:=by
   intro p
   by_cases h2 : b.2=true
   ·exact fmap_one _ (hb.one h2)
   ·have : pairQ c a b p=fun q=>if cmpF p.labels q.labels=0 then (countF c p.value q.value).map fun n=>(⟨p.labels,n⟩ : Pt) else none:=by
     funext q
     unfold pairQ
     rw [if_neg h1]
     simp [h2]
    rw [this]
    exact one_same _ hb.ris
  refine ⟨ris_flat _ _ (fun p _=>pw_one (one p)) ?_,Nat.le_trans (len_flat _ _ fun p _=>one p) ha.len,fun h=>?_,hv⟩
  ·refine ha.ris.imp fun {x y} hxy u hu v hv=>?_
   obtain ⟨q,_,hu⟩:=List.mem_filterMap.1 hu
   obtain ⟨q',_,hv⟩:=List.mem_filterMap.1 hv
   rw [pair_labels hu,pair_labels hv,if_neg h1,if_neg h1]
   exact hxy
  ·have h : (a.2 && b.2)=true:=h
   rw [Bool.and_eq_true] at h
   exact absurd h.1 h1
structure SrcOk (n : Nat) (src : List Mt→Int→Int→List Ser) : Prop where
 ris : ∀ m f t,RisS (src m f t)
 len : ∀ m f t,(src m f t).length≤n
 val : ∀ m f t,∀ x ∈ src m f t,∀ y ∈ x.samples,I64 y.value
theorem fold_I64 (g : Int→Int→Int) (hg : ∀ a b,I64 a→I64 b→I64 (g a b)) : ∀ (l : List Int) (n : Int),I64 n→(∀ x ∈ l,I64 x)→I64 (l.foldl g n)
 | [],_,h,_=>h
 | x :: l,n,h,hl=>fold_I64 g hg l _ (hg _ _ h (hl x (by simp))) fun y hy=>hl y (by simp [hy])
theorem over_I64 (c : Int) {l : List Int} (hn : l.length≤1000000) (h : ∀ x ∈ l,I64 x) : I64 (overV c l):=by
 have h0 : I64 0:=by unfold I64; omega
 have hd : I64 (l.headD 0):=by cases l with | nil=>exact h0 | cons x r=>exact h x (by simp)
 unfold overV
 split
 ·cases hl : l.getLast? with
  | none=>rw [List.getLastD_eq_getLast?,hl]; exact h0
  | some x=>rw [List.getLastD_eq_getLast?,hl]; exact h x (List.mem_of_getLast? hl)
 split
 ·unfold I64; omega
 split
 ·exact I64_wr _
 refine fold_I64 _ (fun a b ha hb=>?_) _ _ hd fun x hx=>h x (List.mem_of_mem_tail hx)
 unfold I64 at ha hb
 split
 ·exact I64_wr _
 split <;> (unfold I64; omega)
theorem comb_I64 (c : Int) {a b : Int} (ha : I64 a) (hb : I64 b) : I64 (combF c a b):=by
 unfold I64 at ha hb
 unfold combF
 split
 ·unfold I64; omega
 split
 ·unfold I64; omega
 ·exact I64_wr _
theorem ins_I64 {c : Int} {x : Pt} (hx : I64 x.value) : ∀ {l : List Pt},(∀ p ∈ l,I64 p.value)→∀ p ∈ insP c l x,I64 p.value
 | [],_,p,hp=>by rw [List.mem_singleton.1 hp]; exact hx
 | y :: r,h,p,hp=>by
  unfold insP at hp
  split at hp
  ·rcases List.mem_cons.1 hp with rfl | hp
   ·exact h _ (by simp)
   ·exact ins_I64 hx (fun q hq=>h q (by simp [hq])) p hp
  split at hp
  ·rcases List.mem_cons.1 hp with rfl | hp
   ·exact comb_I64 c (h y (by simp)) hx
   ·exact h p (by simp [hp])
  ·rcases List.mem_cons.1 hp with rfl | hp
   ·exact hx
   ·exact h p hp
theorem fold_pI64 {c : Int} : ∀ (b l : List Pt),(∀ p ∈ b,I64 p.value)→(∀ p ∈ l,I64 p.value)→∀ p ∈ b.foldl (insP c) l,I64 p.value
 | [],_,_,h=>h
 | x :: b,l,hb,h=>fold_pI64 b _ (fun p hp=>hb p (by simp [hp])) (ins_I64 (hb x (by simp)) h)
theorem tog_I64 (c : Int) (by_ : List ByteArray) {l : List Pt} (h : ∀ p ∈ l,I64 p.value) : ∀ p ∈ togF c by_ l,I64 p.value:=by
 refine fold_pI64 _ _ (fun p hp=>?_) (fun p hp=>by cases hp)
 obtain ⟨q,hq,rfl⟩:=List.mem_map.1 hp
 show I64 (if c=11 then 1 else q.value)
 split
 ·unfold I64; omega
 ·exact h q hq
theorem pts_ok (c : Int) {n : Nat} {l : List Ser} (hr : RisS l) (hl : l.length≤n) (hn : ∀ x ∈ l,x.samples.length≤1000000) (hv : ∀ x ∈ l,∀ y ∈ x.samples,I64 y.value) : CameOk n (ptsF c l,false):=by
 refine ⟨?_,?_,fun h=>(by cases h),fun p hp=>?_⟩
 ·show List.Pairwise _ (ptsF c l)
  unfold ptsF
  rw [List.pairwise_map]
  exact hr.filter _
 ·show (ptsF c l).length≤n
  unfold ptsF
  rw [List.length_map]
  exact Nat.le_trans (List.length_filter_le _ _) hl
 ·obtain ⟨x,hx,rfl⟩:=List.mem_map.1 hp
  have hx:=(List.mem_filter.1 hx).1
  refine over_I64 c (by simpa using hn x hx) fun v hv'=>?_
  obtain ⟨y,hy,rfl⟩:=List.mem_map.1 hv'
  exact hv x hx y hy
theorem tog_ok (c : Int) (by_ : List ByteArray) {n : Nat} {a : Came} (h : CameOk n a) : CameOk n (togF c by_ a.1,false) :=
 ⟨tog_ris _ _ _,Nat.le_trans (tog_len _ _ _) h.len,fun h=>(by cases h),tog_I64 _ _ h.val⟩
theorem num_ok {n : Nat} (hn : 1≤n) {v : Int} (hv : I64 v) : CameOk n ([⟨[],v⟩],true) :=
 ⟨List.pairwise_singleton _ _,hn,fun _=>Nat.le_refl _,fun p hp=>by rw [List.mem_singleton.1 hp]; exact hv⟩
end Go.PL
/-
  Contracts: what questions come to: what samples, and what two numbers come to; where points stand.
-/
namespace Go.Proofs.YtkoalgjlkcaonaaGreatDoor
open Go.GK Go.PL Go.RowKit
set_option maxRecDepth 100000
abbrev ptc (p : Pt) : List GV:=[lbs p.labels,gi p.value]
abbrev pts (l : List Pt) : GV:=.sl 2 (l.map ptc)
abbrev cameG (a : Came) : GV:=.agg [pts a.1,.v (.bool a.2)]
def countG (r : Option Int) : GV:=match r with | some n=>.tup [gi n,.v (.bool true)] | none=>.tup [gi 0,.v (.bool false)]
theorem count_rt (c a b : Int) : Rt pg 132 [gi c,gi a,gi b] (countG (countF c a b)):=by
 refine Rt.of pg_ok Tryz.func132 rfl Tryz.ntmps132 rfl Tryz.results132 Tryz.call132 fun H0 S0 w0 h0 g0=>?_
 unfold countF
 by_cases h1 : c=13
 ·rw [if_pos h1]
  refine p1 ?_ (decide_eq_true h1)
  exact ⟨⟨rfl,rfl,trivial⟩,rfl⟩
 rw [if_neg h1]
 refine p2 ?_ (decide_eq_false h1)
 by_cases h2 : c=14
 ·rw [if_pos h2]
  refine p1 ?_ (decide_eq_true h2)
  exact ⟨⟨rfl,rfl,trivial⟩,rfl⟩
 rw [if_neg h2]
 refine p2 ?_ (decide_eq_false h2)
 by_cases h3 : c=15
 ·rw [if_pos h3]
  refine p1 ?_ (decide_eq_true h3)
  exact ⟨⟨rfl,rfl,trivial⟩,rfl⟩
 rw [if_neg h3]
 refine p2 ?_ (decide_eq_false h3)
 by_cases h4 : b=0
 ·rw [if_pos h4]
  refine p1 ?_ (decide_eq_true h4)
  exact ⟨⟨rfl,rfl,trivial⟩,rfl⟩
 rw [if_neg h4]
 refine p2 ?_ (decide_eq_false h4)
 by_cases h5 : b=-1
 ·rw [if_pos h5]
  refine p1 ?_ (decide_eq_true h5)
  exact ⟨⟨congrArg (fun z=>gi (IntKind.i64.wrap z)) (Int.zero_sub a),rfl,trivial⟩,rfl⟩
 rw [if_neg h5]
 refine p2 ?_ (decide_eq_false h5)
 refine ⟨h4,?_⟩
 exact ⟨⟨rfl,rfl,trivial⟩,rfl⟩
theorem last_val (l : List Sm) (h : l.length - 1 < l.length) : (l.map (·.value)).getLastD 0=l[l.length - 1].value:=by
 rw [List.getLastD_eq_getLast?,List.getLast?_map,List.getLast?_eq_getElem?,List.getElem?_eq_getElem h]
 rfl
theorem over_rt (c : Int) (l : List Sm) (h0 : l ≠ []) (hl : l.length≤100000) : Rt pg 126 [gi c,sms l] (gi (overF c l)):=by
 refine Rt.of pg_ok Tryz.func126 rfl Tryz.ntmps126 rfl Tryz.results126 Tryz.call126 fun H0 S0 w0 h0' g0=>?_
 have hll : (l.map sm).length=l.length:=by simp
 have hpos : 0 < l.length:=List.length_pos_iff.2 h0
 have hw : IntKind.i64.wrap ((l.map sm).length - 1 : Int)=((l.length - 1 : Nat) : Int):=by rw [hll,wrap_id (by omega) (by omega)]; omega
 refine idx (l.length - 1) hw (by omega) ?_
 unfold overF overV
 rw [last_val l (by omega)]
 by_cases h2 : c=2
 ·rw [if_pos h2]
  refine p1 ?_ (decide_eq_true h2)
  exact ⟨rfl,rfl⟩
 rw [if_neg h2]
 refine p2 ?_ (decide_eq_false h2)
 by_cases h3 : c=3
 ·rw [if_pos h3]
  refine p1 ?_ (decide_eq_true h3)
  exact ⟨congrArg (fun n : Nat=>gi (n : Int)) (by simp),rfl⟩
 rw [if_neg h3]
 refine p2 ?_ (decide_eq_false h3)
 obtain ⟨x,r,rfl⟩ : ∃ x r,l=x :: r:=by cases l with | nil=>exact absurd rfl h0 | cons x r=>exact ⟨x,r,rfl⟩
 by_cases h7 : c=7
 ·rw [if_pos h7]
  refine p1 ?_ (decide_eq_true h7)
  refine ix (i:=0) (hk:=Nat.zero_lt_succ _) (h:=?_)
  exact ⟨rfl,rfl⟩
 rw [if_neg h7]
 refine p2 ?_ (decide_eq_false h7)
 refine ix (i:=0) (hk:=Nat.zero_lt_succ _) (h:=?_)
 refine ⟨by omega,by rw [hll]; omega,Int.le_refl _,?_⟩
 have hrl : (r.map sm).length=r.length:=by simp
 have hrr : r.length≤100000:=by simp only [List.length_cons] at hl; omega
 refine JK.loopE (α:=Nat) (β:=Unit) (fun i=>⟨[(0,gi c),(6,gi (((r.take i).map (·.value)).foldl (fun n x=>if c=4 then wr64 (n + x) else if c=5 then min n x else max n x) x.value)),(37,.sl 2 (r.map sm)),(38,gi (r.map sm).length),(39,gi i)],[],0⟩) (fun i=>i≤r.length) (fun i=>r.length - i)
  (fun _=>⟨[(6,gi ((r.map (·.value)).foldl (fun n x=>if c=4 then wr64 (n + x) else if c=5 then min n x else max n x) x.value))],[],0⟩) (fun _=>True) 0 id ?_ (Nat.zero_le _) ?_ ?_
 ·have hsl : List.drop (Int.toNat 1) (List.take ((List.map sm (x :: r)).length : Int).toNat (List.map sm (x :: r)))=r.map sm:=by rw [Int.toNat_natCast,List.take_length]; rfl
  exact ⟨⟨rfl,rfl,congrArg (fun l=>some (GV.sl 2 l)) hsl,congrArg (fun l : List (List GV)=>some (gi l.length)) hsl,rfl,trivial⟩,trivial,rfl⟩
 ·intro i hi
  refine V ?_
  by_cases hlt : i < r.length
  ·refine p1 ?_ (decide_eq_true (by omega))
   refine ix (h:=?_)
   have hst : (r.take (i + 1)).map (·.value)=(r.take i).map (·.value)++[r[i].value]:=by rw [List.take_succ_eq_append_getElem hlt,List.map_append]; rfl
   by_cases h4 : c=4
   ·refine p1 ?_ (decide_eq_true h4)
    refine ⟨i + 1,id,⟨⟨rfl,?_,rfl,rfl,succ_gi (by omega),trivial⟩,trivial,rfl⟩,hlt,by show r.length - (i + 1) < r.length - i; omega⟩
    rw [hst,List.foldl_append,List.foldl_cons,List.foldl_nil,if_pos h4]
    rfl
   refine p2 ?_ (decide_eq_false h4)
   by_cases h5 : c=5
   ·refine p1 ?_ (decide_eq_true h5)
    refine ⟨i + 1,id,⟨⟨rfl,?_,rfl,rfl,succ_gi (by omega),trivial⟩,trivial,rfl⟩,hlt,by show r.length - (i + 1) < r.length - i; omega⟩
    rw [hst,List.foldl_append,List.foldl_cons,List.foldl_nil,if_neg h4,if_pos h5]
    exact congrArg (fun z=>some (gi z)) (by split <;> omega)
   refine p2 ?_ (decide_eq_false h5)
   refine ⟨i + 1,id,⟨⟨rfl,?_,rfl,rfl,succ_gi (by omega),trivial⟩,trivial,rfl⟩,hlt,by show r.length - (i + 1) < r.length - i; omega⟩
   rw [hst,List.foldl_append,List.foldl_cons,List.foldl_nil,if_neg h4,if_neg h5]
   exact congrArg (fun z=>some (gi z)) (by split <;> omega)
  ·refine p2 ?_ (decide_eq_false (by omega))
   obtain rfl : i=r.length:=by omega
   rw [List.take_length]
   exact ⟨(),id,⟨⟨rfl,trivial⟩,trivial,rfl⟩,trivial⟩
 ·rintro _ _
  refine V ?_
  exact ⟨rfl,rfl⟩
theorem tog1_rt (x y : Pt) : Rt pg 129 [.agg (ptc x),.agg (ptc y)] (gi (cmpF x.labels y.labels)):=by
 refine Rt.of pg_ok Tryz.func129 rfl Tryz.ntmps129 rfl Tryz.results129 Tryz.call129 fun H0 S0 w0 h0 g0=>?_
 refine GO (lcompare_rt x.labels y.labels) rfl ?_
 exact ⟨rfl,rfl⟩
def hasP (ls : List Lb) (l : List Pt) : Bool:=match l[posP ls l]? with | some y=>decide (cmpF y.labels ls=0) | none=>false
theorem bsp_rt (l : List Pt) (x : Pt) (hr : RisP l) (hl : l.length≤1000000) :
  Rt pg 128 [pts l,.agg (ptc x),.fn (.func 129) [] []] (.tup [gi (posP x.labels l),.v (.bool (hasP x.labels l))]):=by
 refine Rt.of pg_ok Tryz.func128 rfl Tryz.ntmps128 rfl Tryz.results128 Tryz.call128 fun H0 S0 w0 h0 g0=>?_
 have hll : (l.map ptc).length=l.length:=by simp
 have hp:=posP_le x.labels l
 refine FZB 0 rfl rfl ?_
 refine JK.loopE (α:=Nat × Nat) (β:=Unit) (fun z=>⟨[(0,pts l),(2,.fn (.func 129) [] []),(4,.r (ptc x)),(8,gi (l.map ptc).length),(9,gi z.1),(10,gi z.2)],[],1⟩) (fun z=>z.1≤posP x.labels l∧posP x.labels l≤z.2∧z.2≤l.length) (fun z=>z.2 - z.1)
  (fun _=>⟨[(0,pts l),(2,.fn (.func 129) [] []),(4,.r (ptc x)),(8,gi (l.map ptc).length),(9,gi (posP x.labels l))],[],1⟩) (fun _=>True) (0,l.length) id ?_ ⟨Nat.zero_le _,hp,Nat.le_refl _⟩ ?_ ?_
 ·exact ⟨⟨rfl,rfl,rfl,rfl,rfl,congrArg (fun i : Nat=>some (gi (i : Int))) hll,trivial⟩,trivial,rfl⟩
 ·rintro ⟨i,j⟩ ⟨hi,hj,hjl⟩
  simp only at hi hj hjl
  refine V ?_
  by_cases hlt : i < j
  ·refine p1 ?_ (decide_eq_true (by dsimp only; omega))
   have hmid:=midE (s:=(i : Int) + (j : Int)) (i + j) (by omega) (by omega)
   have hm : (i + j) / 2 < l.length:=by omega
   refine ⟨by omega,?_⟩
   refine DRAW [] false (tk [0,1,2,3,4,5]) (by kernel_rfl) ?_
   refine idx ((i + j) / 2) hmid hm ?_
   refine RGO 6 true (tk [7]) (tog1_rt l[(i + j) / 2] x) rfl rfl (by kernel_rfl) ?_
   refine V ?_
   by_cases hlo : (i + j) / 2 < posP x.labels l
   ·refine p1 ?_ (decide_eq_true (posP_lt x.labels l _ hm hlo))
    refine ⟨((i + j) / 2 + 1,j),id,⟨⟨rfl,rfl,rfl,rfl,?_,rfl,trivial⟩,trivial,rfl⟩,⟨by dsimp only; omega,hj,hjl⟩,by dsimp only; omega⟩
    exact congrArg (fun i=>some (gi i)) (by dsimp only; rw [hmid,wrap_id (by omega) (by omega)]; omega)
   ·refine p2 ?_ (decide_eq_false (posP_ge hr _ hm (by omega)))
    refine ⟨(i,(i + j) / 2),id,⟨⟨rfl,rfl,rfl,rfl,rfl,?_,trivial⟩,trivial,rfl⟩,⟨hi,by dsimp only; omega,by dsimp only; omega⟩,by dsimp only; omega⟩
    exact congrArg (fun i=>some (gi i)) hmid
  ·refine p2 ?_ (decide_eq_false (by dsimp only; omega))
   obtain rfl : i=j:=by omega
   obtain rfl : i=posP x.labels l:=by omega
   exact ⟨(),id,⟨⟨rfl,rfl,rfl,rfl,rfl,trivial⟩,trivial,rfl⟩,trivial⟩
 ·rintro _ _
  by_cases hlt : posP x.labels l < l.length
  ·have hlt' : decide ((posP x.labels l : Int) < ((l.map ptc).length : Nat))=true:=decide_eq_true (by omega)
   refine V ?_
   refine DRAW [] false (tk [0,1,2,3,4,5,6,7,8,9,10]) (by kernel_rfl) ?_
   refine ⟨fun hc=>?_,fun h=>absurd (hlt'.symm.trans h) (by decide)⟩
   refine ix (h:=?_)
   refine RGO 11 true (tk [12,13,14,15]) (tog1_rt l[posP x.labels l] x) rfl (congrArg (fun c=>bif (c == true) then some (129,[GV.agg (ptc l[posP x.labels l]),GV.agg (ptc x)]) else none) hc) (by kernel_rfl) ?_
   refine V ?_
   refine ⟨?_,rfl⟩
   have : hasP x.labels l=decide (cmpF l[posP x.labels l].labels x.labels=0):=by
    unfold hasP
    rw [List.getElem?_eq_getElem hlt]
   rw [this]
   exact ⟨rfl,show (cmpF l[posP x.labels l].labels x.labels == 0)=decide (cmpF l[posP x.labels l].labels x.labels=0) by rw [Bool.eq_iff_iff]; simp,trivial⟩
  ·refine V ?_
   refine DRAW [] false (tk [0,1,2,3,4,5,6,7,8,9,10]) (by kernel_rfl) ?_
   refine ⟨fun h=>absurd (of_decide_eq_true h) (by omega),fun hc=>?_⟩
   refine RSKIP 11 true (tk [12,13,14,15]) rfl (congrArg (fun c=>c == !true) hc) (by kernel_rfl) ?_
   refine V ?_
   refine ⟨?_,rfl⟩
   have : hasP x.labels l=false:=by
    unfold hasP
    rw [List.getElem?_eq_none (by omega)]
   rw [this]
   exact ⟨rfl,rfl,trivial⟩
end Go.Proofs.YtkoalgjlkcaonaaGreatDoor
/-
  Contracts: the document's points, in order.
-/
namespace Go.Proofs.YtkoalgjlkcaonaaGreatDoor
open Go.GK Go.PL Go.RowKit Go.Lib Go.Shelf Go.Proofs Go.Sort
set_option maxRecDepth 100000
noncomputable def pntT : TypeInfo:=(Tryz.prog.info? 34).get (by kernel_rfl)
noncomputable def pntE : TypeInfo:=(Tryz.prog.info? 47).get (by kernel_rfl)
theorem swPt (n : Nat) (h2 : 2≤n) : Lib.swapperK n pntE 25=9:=by
 have a : pntE.hasPointers=true:=by kernel_rfl
 have b : pntE.bytes=32:=by kernel_rfl
 have c : (n == 0)=false:=by simp; omega
 have d : (n == 1)=false:=by simp; omega
 simp [Lib.swapperK,a,b,c,d]
theorem swPt0 : Lib.swapperK 0 pntE 25=1:=by kernel_rfl
theorem swPt1 : Lib.swapperK 1 pntE 25=2:=by kernel_rfl
theorem kindPt (w : World) : (Extern.Rtype.kind 47).run Tryz.prog w=.ok 25 w:=by kernel_rfl
theorem points_entry {α : Type} {enc : α→List GV} {g : FuncId} (l : List α) (R : List α→Prop) (hone : l.length≤1→R l) (hmax : l.length < 4611686018427387904)
  (hst : Hf pg 123 2 [.agg (dat 47 g 153),gi l.length] (sgm enc 2 47 34 l) (SR enc 2 47 34 R)) :
  Hf pg 92 2 [.ifc 34 (.o 0),.fn (.func g) [] [.p 1 0]] (sgm enc 2 47 34 l) (SR enc 2 47 34 R) :=
 entry_hf Tryz.call92 (fun a n c h1 lb w=>by
  match n,h1 with
  | 0,_=>exact Any.sort_SliceStable_tiny Tryz.laysGt8 34 47 pntT pntE (by kernel_rfl) (by kernel_rfl) (by kernel_rfl) (by kernel_rfl) 25 kindPt a 0 c (by omega) 145 (by rw [swPt0]; kernel_rfl) _ _ _ w
  | 1,_=>exact Any.sort_SliceStable_tiny Tryz.laysGt8 34 47 pntT pntE (by kernel_rfl) (by kernel_rfl) (by kernel_rfl) (by kernel_rfl) 25 kindPt a 1 c (by omega) 146 (by rw [swPt1]; kernel_rfl) _ _ _ w)
  (fun a n c h2 hn lb w=>⟨stableWorld Tryz.prog Tryz.laysGt8_ren 34 a n c w,((Below.refl _ _).alloc (Nat.le_refl _) _).alloc (by simp) _,fun R' h =>
   Any.sort_SliceStable_of_stable Tryz.laysGt8 34 47 pntT pntE (by kernel_rfl) (by kernel_rfl) (by kernel_rfl) (by kernel_rfl) 25 kindPt a n c hn 153 (by rw [swPt _ h2]; kernel_rfl) (.func g) #[] lb w R' (by
    rw [show sliceBound Tryz.prog 47 pntE 25 a n c=#[.slice a n c,typeHandle Tryz.prog 47] from by unfold sliceBound; rw [if_neg (swapperK_gt _ _ _ h2)]]
    exact h)⟩) l R hone hmax hst
abbrev PtB:={x : Pt // x.labels.length≤1000000}
abbrev ptB (x : PtB) : List GV:=ptc x.1
def ltP (x y : PtB) : Bool:=decide (cmpF x.1.labels y.1.labels < 0)
theorem wo_ltP : WO ltP where
 asym x y h:=by
  have:=cmpF_is.anti x.1.labels y.1.labels
  simp only [ltP,decide_eq_true_eq,decide_eq_false_iff_not] at *
  omega
 ntrans x y z h1 h2:=by
  simp only [ltP,decide_eq_false_iff_not] at *
  have a1:=cmpF_is.anti x.1.labels y.1.labels
  have a2:=cmpF_is.anti y.1.labels z.1.labels
  have a3:=cmpF_is.anti x.1.labels z.1.labels
  have r1:=cmpF_is.rng x.1.labels y.1.labels
  have r2:=cmpF_is.rng y.1.labels z.1.labels
  have r3:=cmpF_is.rng x.1.labels z.1.labels
  by_cases e1 : cmpF x.1.labels y.1.labels=0
  ·rw [(cmpF_is.eq0 _ _).1 e1]; omega
  ·by_cases e2 : cmpF y.1.labels z.1.labels=0
   ·rw [← (cmpF_is.eq0 _ _).1 e2]; omega
   ·have:=cmpF_is.trans x.1.labels y.1.labels z.1.labels (by omega) (by omega)
    omega
theorem lessP_hf (l : List PtB) (i j : Nat) (x y : PtB) (_ : l.length < 1099511627776) (hi : l[i]?=some x) (hj : l[j]?=some y) : Hf pg 93 2 [gi i,gi j,.p 1 0] (sgm ptB 2 47 34 l) (fun G σ n=>G=.b (ltP x y)∧σ=sgm ptB 2 47 34 l∧n=2):=by
 have hi1:=(List.getElem?_eq_some_iff.1 hi).1
 have hj1:=(List.getElem?_eq_some_iff.1 hj).1
 have hll : (l.map ptB).length=l.length:=by simp
 refine Hf.of pg_ok Tryz.func93 rfl Tryz.ntmps93 rfl Tryz.results93 Tryz.call93 fun H0 S0 w0 h0 g0=>?_
 refine DRAW [] false (tk [0,1,2,3,4,5,6,7,8,9]) (by kernel_rfl) ?_
 refine ⟨by omega,by omega,?_⟩
 refine ⟨ptB x,by rw [Int.toNat_natCast,List.getElem?_map,hi]; rfl,?_⟩
 refine ⟨by omega,by omega,?_⟩
 refine ⟨ptB y,by rw [Int.toNat_natCast,List.getElem?_map,hj]; rfl,?_⟩
 refine RGO 10 true (tk [11,12]) (refCompare_rt x.1.labels y.1.labels x.2 y.2) rfl rfl (by kernel_rfl) ?_
 refine V ?_
 exact ⟨rfl,rfl,rfl⟩
theorem point_info : ∃ ie : TypeInfo,pg.P.info? 47=some ie∧ie.size=2∧∀ w,(isAgg 47).run pg.P w=.ok true w:=⟨pntE,by kernel_rfl,by kernel_rfl,fun _=>by kernel_rfl⟩
theorem points_se : SE ptB 2 47 34 93 153 ltP where
 less:=lessP_hf
 swx:=⟨false,fun args W=>run_callFunc_extern Tryz.func153 (by kernel_rfl) (by kernel_rfl) (by kernel_rfl) (e:=Extern.ReflectliteSwapper.swap false) (by kernel_rfl) args W⟩
 ie:=point_info
end Go.Proofs.YtkoalgjlkcaonaaGreatDoor
/-
  Plain laws: what a question comes to stays small, and in order. No program is in sight.
-/
namespace Go.PL
open Go Go.GK
def LabB (l : List Pt) : Prop:=∀ p ∈ l,p.labels.length≤1000000
structure SrcB (src : List Mt→Int→Int→List Ser) : Prop where
 ok : SrcOk 100 src
 small : ∀ m lo hi,∀ x ∈ src m lo hi,x.labels.length≤1000000∧x.samples.length≤100000
theorem pts_lab (c : Int) {l : List Ser} (h : ∀ x ∈ l,x.labels.length≤1000000) : LabB (ptsF c l):=by
 intro p hp
 obtain ⟨x,hx,rfl⟩:=List.mem_map.1 hp
 exact h x (List.mem_filter.1 hx).1
theorem ins_lab {c : Int} {x : Pt} (hx : x.labels.length≤1000000) : ∀ {l : List Pt},LabB l→LabB (insP c l x)
 | [],_,p,hp=>by rw [List.mem_singleton.1 hp]; exact hx
 | y :: r,h,p,hp=>by
  unfold insP at hp
  split at hp
  ·rcases List.mem_cons.1 hp with rfl | hp
   ·exact h _ (by simp)
   ·exact ins_lab hx (fun q hq=>h q (by simp [hq])) p hp
  split at hp
  ·rcases List.mem_cons.1 hp with rfl | hp
   ·exact h y (by simp)
   ·exact h p (by simp [hp])
  ·rcases List.mem_cons.1 hp with rfl | hp
   ·exact hx
   ·exact h p hp
theorem fold_lab {c : Int} : ∀ (b l : List Pt),LabB b→LabB l→LabB (b.foldl (insP c) l)
 | [],_,_,h=>h
 | x :: b,_,hb,h=>fold_lab b _ (fun p hp=>hb p (by simp [hp])) (ins_lab (hb x (by simp)) h)
theorem tog_lab (c : Int) (by_ : List ByteArray) {l : List Pt} (h : LabB l) : LabB (togF c by_ l):=by
 refine fold_lab _ _ (fun p hp=>?_) (fun p hp=>by cases hp)
 obtain ⟨q,hq,rfl⟩:=List.mem_map.1 hp
 exact Nat.le_trans (List.length_filter_le _ _) (h q hq)
theorem both_lab (c : Int) {a b : Came} (ha : LabB a.1) (hb : LabB b.1) : LabB (bothQ c a b).1:=by
 rw [bothQ_is]
 intro z hz
 obtain ⟨p,hp,hz⟩:=List.mem_flatMap.1 hz
 obtain ⟨q,hq,hz⟩:=List.mem_filterMap.1 hz
 rw [pair_labels hz]
 split
 ·exact hb q hq
 ·exact ha p hp
def Good (a : Came) : Prop:=CameOk 100 a∧LabB a.1
theorem num_good {v : Int} (hv : I64 v) : Good ([⟨[],v⟩],true):=⟨num_ok (by decide) hv,fun p hp=>by rw [List.mem_singleton.1 hp]; exact Nat.zero_le _⟩
theorem both_good (c : Int) {a b : Came} (ha : Good a) (hb : Good b) : Good (bothQ c a b):=⟨both_ok c ha.1 hb.1,both_lab c ha.2 hb.2⟩
theorem tog_good (c : Int) (by_ : List ByteArray) {a : Came} (h : Good a) : Good (togF c by_ a.1,false):=⟨tog_ok c by_ h.1,tog_lab c by_ h.2⟩
theorem pts_good {src : List Mt→Int→Int→List Ser} (hs : SrcB src) (c : Int) (m : List Mt) (lo hi : Int) : Good (ptsF c (src m lo hi),false) :=
 ⟨pts_ok c (hs.ok.ris m lo hi) (hs.ok.len m lo hi) (fun x hx=>by have:=(hs.small m lo hi x hx).2; omega) (hs.ok.val m lo hi),pts_lab c fun x hx=>(hs.small m lo hi x hx).1⟩
theorem eval_good {src : List Mt→Int→Int→List Ser} (hs : SrcB src) (t : Int) {q : Qn} (hq : Wf q) : ∀ a,evalF src t q=.ok a→Good a:=by
 have bin : ∀ (c : Int) (l r : Qn),13≤c→(∀ a,evalF src t l=.ok a→Good a)→(∀ a,evalF src t r=.ok a→Good a)→∀ a,evalF src t (.mk c 0 [] 0 [] l r)=.ok a→Good a:=by
  intro c l r hc ih1 ih2 a h
  rw [evalF,if_neg (by omega),if_neg (by omega)] at h
  cases he : evalF src t l with
  | error e=>rw [he] at h; cases h
  | ok x =>
   rw [he] at h
   simp only at h
   rw [if_neg (by omega),if_neg (by omega)] at h
   cases he2 : evalF src t r with
   | error e=>rw [he2] at h; cases h
   | ok y =>
    rw [he2] at h
    cases h
    exact both_good c (ih1 x he) (ih2 y he2)
 induction hq with
 | num n h0 h1=>intro a h; rw [evalF,if_pos rfl] at h; cases h; exact num_good ⟨by omega,by omega⟩
 | pick m h=>intro a h; rw [evalF,if_neg (by decide),if_pos (by decide)] at h; cases h; exact pts_good hs _ _ _ _
 | over k hk m h sp h1 h2=>intro a h; rw [evalF,if_neg (by omega),if_pos (by omega)] at h; cases h; exact pts_good hs _ _ _ _
 | all k hk b hb hl q hq ih =>
  intro a h
  rw [evalF,if_neg (by omega),if_neg (by omega)] at h
  cases he : evalF src t q with
  | error e=>rw [he] at h; cases h
  | ok x =>
   rw [he] at h
   simp only at h
   rw [if_pos (by omega)] at h
   split at h
   ·cases h
   ·cases h; exact tog_good _ _ (ih x he)
 | neg q hq ih =>
  intro a h
  rw [evalF,if_neg (by decide),if_neg (by decide)] at h
  cases he : evalF src t q with
  | error e=>rw [he] at h; cases h
  | ok x =>
   rw [he] at h
   simp only at h
   rw [if_neg (by decide),if_pos trivial] at h
   cases h
   exact both_good 14 (num_good (by unfold I64; omega)) (ih x he)
 | add k hk l r hl hr ih1 ih2=>exact bin _ l r (by omega) ih1 ih2
 | mul k hk l r hl hr ih1 ih2=>exact bin _ l r (by omega) ih1 ih2
end Go.PL
/-
  Plain laws: questions: what is read is a question that stands no deeper, and is printed no longer, than the text. No program is in sight.
-/
namespace Go.PL
open Go Go.GK

theorem isP_ok {s : ByteArray} {l : List Tok} (h : isP s l=true) (hE : ToksOk l) : ∃ t r,l=t :: r∧t.text=s∧t.kind ≠ 3:=by
 obtain ⟨t,r,rfl⟩:=hE.cons
 rw [isP,Bool.and_eq_true,decide_eq_true_iff,sEq_iff] at h
 exact ⟨t,r,rfl,h.1,h.2⟩
theorem takesP_ok {s : ByteArray} {l : List Tok} (h : takesP s l=true) (hE : ToksOk l) : ∃ t r,l=t :: r∧l.tail=r∧t.text=s∧ToksOk r:=by
 rw [takesP,Bool.and_eq_true,decide_eq_true_iff] at h
 obtain ⟨t,r,rfl,h1,h2⟩:=isP_ok h.1 hE
 exact ⟨t,r,rfl,rfl,h1,hE.tail h.2⟩
theorem mustP_ok {s : ByteArray} {l l' : List Tok} {u : Unit} (h : mustP s l=.ok (u,l')) (hE : ToksOk l) : (∀ c,wt c l=c + s.size + wt c l')∧ToksOk l':=by
 by_cases hc : takesP s l=true
 ·rw [mustP,if_pos hc] at h
  cases h
  obtain ⟨t,r,rfl,_,rfl,h3⟩:=takesP_ok hc hE
  exact ⟨fun c=>wt_cons c t r,h3⟩
 ·rw [mustP,if_neg hc] at h
  cases h
theorem takesP_wt {s : ByteArray} {l : List Tok} (h : takesP s l=true) (hE : ToksOk l) : (∀ c,wt c l=c + s.size + wt c l.tail)∧ToksOk l.tail:=by
 obtain ⟨t,r,rfl,_,rfl,h3⟩:=takesP_ok h hE
 exact ⟨fun c=>wt_cons c t r,h3⟩
theorem anyP_ok {k : Int} {l l' : List Tok} {s : ByteArray} (h : anyP k l=.ok (s,l')) (hk : k ≠ 5) (hE : ToksOk l) : ∃ t,l=t :: l'∧t.text=s∧t.kind=k∧ToksOk l':=by
 obtain ⟨t,r,rfl⟩:=hE.cons
 by_cases hc : t.kind=k
 ·have : anyP k (t :: r)=.ok (t.text,r):=if_pos hc
  rw [this] at h
  cases h
  exact ⟨t,rfl,rfl,hc,hE.tail (by rw [hc]; exact hk)⟩
 ·have : anyP k (t :: r)=failP 3 (t :: r):=if_neg hc
  rw [this] at h
  cases h
theorem nameP_wt {l l' : List Tok} {s : ByteArray} (h : nameP l=.ok (s,l')) (hE : ToksOk l) : nameF s=true∧(∀ c,wt c l=c + s.size + wt c l')∧ToksOk l':=by
 obtain ⟨t,r,rfl⟩:=hE.cons
 obtain ⟨h1,h2⟩:=nameP_is h
 have h3:=nameP_ok h h2
 cases h1
 exact ⟨h3,fun c=>wt_cons c t _,hE.tail (by omega)⟩
theorem digs_lt : ∀ (l : List UInt8) (acc : Nat),(∀ b ∈ l,digB b=true)→∃ n : Nat,l.foldl (fun (n : Int) c=>n * 10 + ((c.toNat : Int) - 48)) (acc : Int)=n∧n < (acc + 1) * 10 ^ l.length
 | [],acc,_=>⟨acc,rfl,by simp⟩
 | c :: r,acc,h=>by
  have hc:=dig_sub (h c List.mem_cons_self)
  obtain ⟨n,h1,h2⟩:=digs_lt r (acc * 10 + (c.toNat - 48)) (fun b hb=>h b (List.mem_cons_of_mem _ hb))
  refine ⟨n,?_,?_⟩
  ·rw [← h1,List.foldl_cons]
   congr 1
   omega
  ·refine Nat.lt_of_lt_of_le h2 ?_
   rw [List.length_cons,Nat.pow_succ,Nat.mul_comm (10 ^ r.length) 10,← Nat.mul_assoc]
   exact Nat.mul_le_mul_right _ (by omega)
theorem nDig_le : ∀ (k u : Nat),1≤k→u < 10 ^ k→Lib.nDigits u≤k
 | 0,_,h,_=>absurd h (by omega)
 | 1,u,_,h=>by rw [Lib.nDigits_small (by simpa using h)]; exact Nat.le_refl _
 | k + 2,u,_,h=>by
  by_cases h1 : u < 10
  ·rw [Lib.nDigits_small h1]; omega
  ·rw [Lib.nDigits_big h1]
   have:=nDig_le (k + 1) (u / 10) (by omega) (by rw [Nat.pow_succ] at h; omega)
   omega
theorem itoa_len {n : Int} (h0 : 0≤n) {k : Nat} (hk : 1≤k) (h : n < (10 ^ k : Nat)) : (Lib.itoa n).length≤k:=by
 rw [Lib.itoa,if_neg (by omega),Lib.decDigits_length]
 exact nDig_le k _ hk (by omega)
theorem num_wt {t : Tok} (h : t.Ok) (hk : t.kind=2) : (Lib.itoa (numT t.text)).length≤t.text.size∧1≤t.text.size:=by
 obtain ⟨h1,h2,_⟩:=num_tok h hk
 rcases h with (⟨h,_⟩ | ⟨_,g1,g2,g3⟩ | ⟨h,_⟩ | ⟨h,_⟩) | ⟨h,_⟩
 ·omega
 ·have hs : t.text.data.toList.length=t.text.size:=by simp
  have hp : 1≤t.text.size:=by
   rw [← hs]
   cases hh : t.text.data.toList with
   | nil=>exact absurd hh g1
   | cons c r=>simp
  obtain ⟨n,e1,e2⟩:=digs_lt t.text.data.toList 0 g3
  have e : numT t.text=(n : Int):=e1
  refine ⟨itoa_len h2 hp ?_,hp⟩
  rw [e,← hs]
  omega
 ·omega
 ·omega
 ·omega
theorem numberP_ok {most n : Int} {l l' : List Tok} (h : numberP most l=.ok (n,l')) (hE : ToksOk l) :
  0≤n∧n < 1000000000000000000∧n≤most∧(∀ c,c + (Lib.itoa n).length + wt c l'≤wt c l∧c + 1 + wt c l'≤wt c l)∧ToksOk l':=by
 rw [numberP] at h
 by_cases hc : (hdT l).kind=2∧most < numT (hdT l).text
 ·rw [if_pos hc] at h; cases h
 rw [if_neg hc] at h
 cases ha : anyP 2 l with
 | error e=>rw [ha] at h; cases h
 | ok r =>
  obtain ⟨s,l2⟩:=r
  rw [ha] at h
  cases h
  obtain ⟨t,rfl,rfl,hk,hE2⟩:=anyP_ok ha (by decide) hE
  have ht:=(hE.each t List.mem_cons_self).1
  obtain ⟨_,g1,g2⟩:=num_tok ht hk
  obtain ⟨g3,g4⟩:=num_wt ht hk
  refine ⟨g1,g2,?_,fun c=>⟨?_,?_⟩,hE2⟩
  ·exact Int.not_lt.1 fun hh=>hc ⟨hk,hh⟩
  ·rw [wt_cons]; omega
  ·rw [wt_cons]; omega
theorem opsL_four : opsL.length=4:=rfl
theorem find_isP {L : List ByteArray} {l : List Tok} {k : Nat} (h : (L.findIdx? fun s=>isP s l)=some k) : k < L.length∧isP (L.getD k ⟨#[]⟩) l=true:=by
 obtain ⟨h1,h2,_⟩:=List.findIdx?_eq_some_iff_getElem.1 h
 refine ⟨h1,?_⟩
 rw [List.getD_eq_getElem?_getD,List.getElem?_eq_getElem h1]
 exact h2
theorem matcherP_ok {l l' : List Tok} {m : Mt} (h : matcherP l=.ok (m,l')) (hE : ToksOk l) : MOk m∧(∀ c,wx c (mtX m) + wt c l'≤wt c l)∧ToksOk l':=by
 rw [matcherP] at h
 cases h1 : nameP l with
 | error e=>rw [h1] at h; cases h
 | ok r =>
  obtain ⟨n,l1⟩:=r
  rw [h1] at h
  simp only at h
  obtain ⟨hn,w1,hE1⟩:=nameP_wt h1 hE
  cases h2 : opsL.findIdx? fun s=>isP s l1 with
  | none=>rw [h2] at h; cases h
  | some k =>
   rw [h2] at h
   simp only at h
   obtain ⟨hk,_⟩:=find_isP h2
   rw [opsL_four] at hk
   cases h3 : mustP (opsL.getD k ⟨#[]⟩) l1 with
   | error e=>rw [h3] at h; cases h
   | ok r =>
    obtain ⟨u,l2⟩:=r
    rw [h3] at h
    simp only at h
    obtain ⟨w2,hE2⟩:=mustP_ok h3 hE1
    cases h4 : anyP 3 l2 with
    | error e=>rw [h4] at h; cases h
    | ok r =>
     obtain ⟨s,l3⟩:=r
     rw [h4] at h
     simp only at h
     obtain ⟨t,rfl,rfl,hk3,hE3⟩:=anyP_ok h4 (by decide) hE2
     by_cases hv : valueF (t.text.extract 1 (t.text.size - 1))=true
     ·rw [if_pos hv] at h
      cases h
      refine ⟨⟨hn,hv,by show (0 : Int)≤k; omega,by show (k : Int)≤3; omega⟩,fun c=>?_,hE3⟩
      have h5:=quo_size (hE2.each t List.mem_cons_self).1 hk3
      have h6:=w1 c
      have h7:=w2 c
      rw [wt_cons] at h7
      have h8 : ((k : Int).toNat)=k:=by omega
      have h9 : (t.text.extract 1 (t.text.size - 1)).size=t.text.size - 2:=by
       rw [ByteArray.size_extract]
       omega
      simp only [mtX,wx_cons,wx_nil,wL,mL,qL,bL_len,List.length_cons,List.length_append,List.length_nil,h8]
      rw [h9]
      omega
     ·rw [if_neg hv] at h; cases h
theorem sep_wx (c : Nat) (y : Lx) (l : List (List Lx)) (x : List Lx) : wx c (sepX y (l++[x]))=wx c (sepX y l) + (if l.length=0 then 0 else c + y.text.length) + wx c x:=by
 rw [sepX_snoc]
 by_cases h : l=[]
 ·subst h; simp [sepX,wx_nil]
 ·have : l.length ≠ 0:=by cases l with | nil=>exact absurd rfl h | cons a r=>simp
  rw [if_neg h,if_neg this,wx_append,wx_cons]
  omega
theorem matchersL_ok : ∀ (f : Nat) (acc : List Mt) (l : List Tok) (ms : List Mt) (l' : List Tok),matchersL f acc l=.ok (ms,l')→MsOk acc→ToksOk l →
  MsOk ms∧(∀ c,wx c (sepX (mL [44]) (ms.map mtX)) + (c + 1) + wt c l'≤wx c (sepX (mL [44]) (acc.map mtX)) + wt c l)∧ToksOk l'
 | 0,_,_,_,_,h,_,_=>by cases h
 | f + 1,acc,l,ms,l',h,ha,hE=>by
  rw [matchersL] at h
  by_cases h1 : takesP (bS [125]) l=true
  ·rw [if_pos h1] at h
   cases h
   obtain ⟨w,hE2⟩:=takesP_wt h1 hE
   refine ⟨ha,fun c=>?_,hE2⟩
   have h2:=w c
   have : (bS [125]).size=1:=rfl
   omega
  rw [if_neg h1] at h
  obtain ⟨l1,hl1,w1,hE1⟩ : ∃ l1,(if acc.length=0 then (.ok ((),l) : PRes Unit) else mustP (bS [44]) l)=.ok ((),l1)∧(∀ c,(if acc.length=0 then 0 else c + 1) + wt c l1≤wt c l)∧ToksOk l1:=by
   by_cases h2 : acc.length=0
   ·rw [if_pos h2]
    exact ⟨l,rfl,fun c=>by simp [h2],hE⟩
   ·rw [if_neg h2] at h ⊢
    cases h3 : mustP (bS [44]) l with
    | error e=>rw [h3] at h; cases h
    | ok r =>
     obtain ⟨u,l1⟩:=r
     obtain ⟨w,hE1⟩:=mustP_ok h3 hE
     exact ⟨l1,rfl,fun c=>by rw [if_neg h2,w c]; exact Nat.le_refl _,hE1⟩
  rw [hl1] at h
  simp only at h
  by_cases h4 : 8≤acc.length
  ·rw [if_pos h4] at h; cases h
  rw [if_neg h4] at h
  cases h5 : matcherP l1 with
  | error e=>rw [h5] at h; cases h
  | ok r =>
   obtain ⟨m,l2⟩:=r
   rw [h5] at h
   simp only at h
   obtain ⟨hm,w2,hE2⟩:=matcherP_ok h5 hE1
   obtain ⟨g1,g2,g3⟩:=matchersL_ok f (acc++[m]) l2 ms l' h ⟨fun x hx=>by
    rcases List.mem_append.1 hx with hx | hx
    ·exact ha.1 x hx
    ·rw [List.mem_singleton.1 hx]; exact hm,by simp; omega⟩ hE2
   refine ⟨g1,fun c=>?_,g3⟩
   have e1:=g2 c
   have e2:=w2 c
   have e3:=w1 c
   rw [List.map_append,List.map_singleton,sep_wx,List.length_map] at e1
   have : (mL [44]).text.length=1:=rfl
   rw [this] at e1
   omega
theorem matchersP_ok {l l' : List Tok} {ms : List Mt} (h : matchersP l=.ok (ms,l')) (hE : ToksOk l) : MsOk ms∧(∀ c,wx c (msX ms) + wt c l'≤wt c l)∧ToksOk l':=by
 rw [matchersP] at h
 cases h1 : mustP (bS [123]) l with
 | error e=>rw [h1] at h; cases h
 | ok r =>
  obtain ⟨u,l1⟩:=r
  rw [h1] at h
  simp only at h
  obtain ⟨w1,hE1⟩:=mustP_ok h1 hE
  obtain ⟨g1,g2,g3⟩:=matchersL_ok _ [] l1 ms l' h ⟨fun x hx=>(by cases hx),Nat.zero_le _⟩ hE1
  refine ⟨g1,fun c=>?_,g3⟩
  have e1:=g2 c
  have e2:=w1 c
  have : (bS [123]).size=1:=rfl
  simp only [msX,wx_cons,wx_append,wx_nil,mL,List.length_cons,List.length_nil,List.map_nil,sepX] at e1 ⊢
  omega
theorem namesL_ok : ∀ (f : Nat) (acc : List ByteArray) (l : List Tok) (ns : List ByteArray) (l' : List Tok),namesL f acc l=.ok (ns,l')→(∀ s ∈ acc,nameF s=true)→ToksOk l →
  (∀ s ∈ ns,nameF s=true)∧ns.length≤8∧ns ≠ []∧(∀ c,wx c (byX ns) + wt c l'≤wx c (byX acc) + (if acc.length=0 then 0 else c + 1) + wt c l)∧ToksOk l'
 | 0,_,_,_,_,h,_,_=>by cases h
 | f + 1,acc,l,ns,l',h,ha,hE=>by
  rw [namesL] at h
  by_cases h1 : 8≤acc.length
  ·rw [if_pos h1] at h; cases h
  rw [if_neg h1] at h
  cases h2 : nameP l with
  | error e=>rw [h2] at h; cases h
  | ok r =>
   obtain ⟨s,l1⟩:=r
   rw [h2] at h
   simp only at h
   obtain ⟨hn,w1,hE1⟩:=nameP_wt h2 hE
   have ha' : ∀ x ∈ acc++[s],nameF x=true:=fun x hx=>by
    rcases List.mem_append.1 hx with hx | hx
    ·exact ha x hx
    ·rw [List.mem_singleton.1 hx]; exact hn
   have hw : ∀ c,wx c (byX (acc++[s]))=wx c (byX acc) + (if acc.length=0 then 0 else c + 1) + (c + s.size):=fun c=>by
    rw [byX,List.map_append,List.map_singleton,sep_wx,List.length_map]
    simp only [wx_cons,wx_nil,wL,bL_len]
    rfl
   by_cases h3 : takesP (bS [44]) l1=true
   ·rw [if_pos h3] at h
    obtain ⟨w2,hE2⟩:=takesP_wt h3 hE1
    obtain ⟨g1,g2,g3,g4,g5⟩:=namesL_ok f (acc++[s]) l1.tail ns l' h ha' hE2
    refine ⟨g1,g2,g3,fun c=>?_,g5⟩
    have e1:=g4 c
    have e2:=w1 c
    have e3:=w2 c
    rw [hw c,if_neg (show ¬ ((acc++[s]).length=0) by simp)] at e1
    have : (bS [44]).size=1:=rfl
    omega
   ·rw [if_neg h3] at h
    cases h
    refine ⟨ha',by simp; omega,by simp,fun c=>?_,hE1⟩
    rw [hw c,w1 c]
    omega
def SOk (n least : Nat) (l : List Tok) (r : PRes Qn) : Prop:=∀ q l',r=.ok (q,l')→ToksOk l→Wf q∧n + dep q least≤8∧(∀ c,wx c (atX q least) + wt c l'≤wt c l)∧ToksOk l'
def LOk (n least : Nat) (q0 : Qn) (l : List Tok) (r : PRes Qn) : Prop:=∀ q l',r=.ok (q,l')→ToksOk l→Wf q0→n + dep q0 least≤8→Wf q∧n + dep q least≤8∧(∀ c,wx c (atX q least) + wt c l'≤wx c (atX q0 least) + wt c l)∧ToksOk l'
structure BinC (c : Int) (sym : List UInt8) (lv : Nat) : Prop where
 wf : ∀ l r,Wf l→Wf r→Wf (.mk c 0 [] 0 [] l r)
 at_ : ∀ l r,atX (.mk c 0 [] 0 [] l r) lv=atX l lv++binX c :: atX r (lv + 1)
 dep : ∀ l r,dep (.mk c 0 [] 0 [] l r) lv=max (dep l lv) (dep r (lv + 1))
 len : sym.length=1
 sy : symX c=sym
theorem binC13 : BinC 13 [43] 0:=⟨fun l r h1 h2=>.add 0 (by decide) l r h1 h2,fun l r=>atX_add 0 (by decide) l r 0,fun l r=>(dep_add 0 (by decide) l r 0).trans (Nat.zero_add _),rfl,rfl⟩
theorem binC14 : BinC 14 [45] 0:=⟨fun l r h1 h2=>.add 1 (by decide) l r h1 h2,fun l r=>atX_add 1 (by decide) l r 0,fun l r=>(dep_add 1 (by decide) l r 0).trans (Nat.zero_add _),rfl,rfl⟩
theorem binC15 : BinC 15 [42] 1:=⟨fun l r h1 h2=>.mul 0 (by decide) l r h1 h2,fun l r=>atX_mul 0 (by decide) l r 1,fun l r=>(dep_mul 0 (by decide) l r 1).trans (Nat.zero_add _),rfl,rfl⟩
theorem binC16 : BinC 16 [47] 1:=⟨fun l r h1 h2=>.mul 1 (by decide) l r h1 h2,fun l r=>atX_mul 1 (by decide) l r 1,fun l r=>(dep_mul 1 (by decide) l r 1).trans (Nat.zero_add _),rfl,rfl⟩
theorem loop_step {c : Int} {sym : List UInt8} {lv n : Nat} (hc : BinC c sym lv) {q0 q : Qn} {l l' : List Tok} {x : PRes Qn} (hx : SOk n (lv + 1) l.tail x) {y : Qn→List Tok→PRes Qn}
  (hy : ∀ q1 l1,LOk n lv (.mk c 0 [] 0 [] q0 q1) l1 (y q1 l1)) (ht : takesP (bS sym) l=true)
  (h : (match x with | .error e=>(.error e : PRes Qn) | .ok (r,l)=>y r l)=.ok (q,l')) (hE : ToksOk l) (hw : Wf q0) (hd : n + dep q0 lv≤8) :
  Wf q∧n + dep q lv≤8∧(∀ c,wx c (atX q lv) + wt c l'≤wx c (atX q0 lv) + wt c l)∧ToksOk l':=by
 obtain ⟨w1,hE1⟩:=takesP_wt ht hE
 cases x with
 | error e=>cases h
 | ok r =>
  obtain ⟨q1,l1⟩:=r
  obtain ⟨g1,g2,g3,g4⟩:=hx _ _ rfl hE1
  obtain ⟨k1,k2,k3,k4⟩:=hy q1 l1 _ _ h g4 (hc.wf _ _ hw g1) (by rw [hc.dep]; omega)
  refine ⟨k1,k2,fun w=>?_,k4⟩
  have e1:=w1 w
  have e2:=g3 w
  have e3:=k3 w
  rw [hc.at_,wx_append,wx_cons] at e3
  have e4 : (bS sym).size=1:=by
   have : (bS sym).size=sym.length:=by show sym.toArray.size=_; simp
   rw [this,hc.len]
  have e5 : (binX c).text.length=1:=by
   show (symX c).length=1
   rw [hc.sy,hc.len]
  rw [e4] at e1
  rw [e5] at e3
  omega
theorem overs_len : oversL.length=5:=rfl
theorem alls_len : allsL.length=4:=rfl
theorem sound (f : Nat) : (∀ n l,SOk n 2 l (oneP f n l))∧(∀ n q l,LOk n 1 q l (productL f n q l))∧(∀ n l,SOk n 1 l (productP f n l))∧(∀ n q l,LOk n 0 q l (sumL f n q l))∧(∀ n l,SOk n 0 l (sumP f n l)):=by
 induction f with
 | zero =>
  refine ⟨?_,?_,?_,?_,?_⟩
  ·intro n l q l' h; rw [oneP] at h; cases h
  ·intro n q0 l q l' h; rw [productL] at h; cases h
  ·intro n l q l' h; rw [productP] at h; cases h
  ·intro n q0 l q l' h; rw [sumL] at h; cases h
  ·intro n l q l' h; rw [sumP] at h; cases h
 | succ f ih =>
  obtain ⟨ih1,ih2,ih3,ih4,ih5⟩:=ih
  have z1 : ∀ b : UInt8,(bS [b]).size=1:=fun b=>rfl
  refine ⟨?_,?_,?_,?_,?_⟩
  ·intro n l q l' h hE
   rw [oneP] at h
   by_cases h1 : 8 < n
   ·rw [if_pos h1] at h; cases h
   rw [if_neg h1] at h
   by_cases h2 : takesP (bS [45]) l=true
   ·rw [if_pos h2] at h
    obtain ⟨w1,hE1⟩:=takesP_wt h2 hE
    cases h3 : oneP f (n + 1) l.tail with
    | error e=>rw [h3] at h; cases h
    | ok r =>
     obtain ⟨q1,l1⟩:=r
     rw [h3] at h
     cases h
     obtain ⟨g1,g2,g3,g4⟩:=ih1 _ _ _ _ h3 hE1
     refine ⟨.neg _ g1,?_,fun c=>?_,g4⟩
     ·rw [dep_neg _ _ (Nat.le_refl _)]; omega
     ·have e1:=w1 c
      have e2:=g3 c
      rw [z1] at e1
      rw [atX_neg _ _ (Nat.le_refl _),wx_cons]
      show c + 1 + _ + _≤_
      omega
   rw [if_neg h2] at h
   by_cases h3 : takesP (bS [40]) l=true
   ·rw [if_pos h3] at h
    obtain ⟨w1,hE1⟩:=takesP_wt h3 hE
    cases h4 : sumP f (n + 1) l.tail with
    | error e=>rw [h4] at h; cases h
    | ok r =>
     obtain ⟨q1,l1⟩:=r
     rw [h4] at h
     simp only at h
     obtain ⟨g1,g2,g3,g4⟩:=ih5 _ _ _ _ h4 hE1
     cases h5 : mustP (bS [41]) l1 with
     | error e=>rw [h5] at h; cases h
     | ok r =>
      obtain ⟨u,l2⟩:=r
      rw [h5] at h
      cases h
      obtain ⟨w2,hE2⟩:=mustP_ok h5 g4
      obtain ⟨d1,d2⟩ : dep q 2≤1 + dep q 0∧∀ c,wx c (atX q 2)≤2 * c + 2 + wx c (atX q 0):=by
       cases q with
       | nil=>exact ⟨by simp [dep],fun c=>by simp [atX,wx]⟩
       | mk a b c d e f g =>
        refine ⟨?_,fun w=>?_⟩
        ·unfold dep
         split <;> omega
        ·unfold atX
         rw [show decide (lvl a < 0)=false from rfl]
         simp only [ifP,Bool.false_eq_true,if_false]
         split
         ·rw [wx_parX]; exact Nat.le_refl _
         ·omega
      refine ⟨g1,by omega,fun c=>?_,hE2⟩
      have e1:=w1 c
      have e2:=g3 c
      have e3:=w2 c
      have e4:=d2 c
      rw [z1] at e1 e3
      omega
   rw [if_neg h3] at h
   by_cases h4 : (hdT l).kind=2
   ·rw [if_pos h4] at h
    cases h5 : numberP 9223372036854775807 l with
    | error e=>rw [h5] at h; cases h
    | ok r =>
     obtain ⟨k,l1⟩:=r
     rw [h5] at h
     cases h
     obtain ⟨g1,g2,_,g4,g5⟩:=numberP_ok h5 hE
     refine ⟨.num _ g1 g2,?_,fun c=>?_,g5⟩
     ·rw [dep_num _ _ (Nat.le_refl _)]; omega
     ·rw [atX_num _ _ (Nat.le_refl _),wx_cons,wx_nil]
      exact (g4 c).1
   rw [if_neg h4] at h
   by_cases h5 : isP (bS [123]) l=true
   ·rw [if_pos h5] at h
    cases h6 : matchersP l with
    | error e=>rw [h6] at h; cases h
    | ok r =>
     obtain ⟨m,l1⟩:=r
     rw [h6] at h
     cases h
     obtain ⟨g1,g2,g3⟩:=matchersP_ok h6 hE
     refine ⟨.pick _ g1,?_,fun c=>?_,g3⟩
     ·rw [dep_pick _ _ (Nat.le_refl _)]; omega
     ·rw [atX_pick _ _ (Nat.le_refl _)]
      exact g2 c
   rw [if_neg h5] at h
   cases h6 : oversL.findIdx? fun s=>isP s l with
   | some k =>
    rw [h6] at h
    simp only at h
    obtain ⟨hk,_⟩:=find_isP h6
    rw [overs_len] at hk
    cases a1 : mustP (oversL.getD k ⟨#[]⟩) l with
    | error e=>rw [a1] at h; cases h
    | ok r =>
    obtain ⟨u1,l1⟩:=r
    rw [a1] at h
    simp only at h
    obtain ⟨w1,hE1⟩:=mustP_ok a1 hE
    cases a2 : mustP (bS [40]) l1 with
    | error e=>rw [a2] at h; cases h
    | ok r =>
    obtain ⟨u2,l2⟩:=r
    rw [a2] at h
    simp only at h
    obtain ⟨w2,hE2⟩:=mustP_ok a2 hE1
    cases a3 : matchersP l2 with
    | error e=>rw [a3] at h; cases h
    | ok r =>
    obtain ⟨m,l3⟩:=r
    rw [a3] at h
    simp only at h
    obtain ⟨hm,w3,hE3⟩:=matchersP_ok a3 hE2
    cases a4 : mustP (bS [91]) l3 with
    | error e=>rw [a4] at h; cases h
    | ok r =>
    obtain ⟨u4,l4⟩:=r
    rw [a4] at h
    simp only at h
    obtain ⟨w4,hE4⟩:=mustP_ok a4 hE3
    cases a5 : numberP 1099511627776 l4 with
    | error e=>rw [a5] at h; cases h
    | ok r =>
    obtain ⟨sp,l5⟩:=r
    rw [a5] at h
    simp only at h
    obtain ⟨n1,n2,n3,n4,hE5⟩:=numberP_ok a5 hE4
    cases a6 : mustP (bS [93]) l5 with
    | error e=>rw [a6] at h; cases h
    | ok r =>
    obtain ⟨u6,l6⟩:=r
    rw [a6] at h
    simp only at h
    obtain ⟨w6,hE6⟩:=mustP_ok a6 hE5
    cases a7 : mustP (bS [41]) l6 with
    | error e=>rw [a7] at h; cases h
    | ok r =>
    obtain ⟨u7,l7⟩:=r
    rw [a7] at h
    cases h
    obtain ⟨w7,hE7⟩:=mustP_ok a7 hE6
    have hw:=Wf.over k hk m hm (if sp < 1 then 1 else sp) (by split <;> omega) (by split <;> omega)
    refine ⟨hw,?_,fun c=>?_,hE7⟩
    ·rw [dep_over k hk _ _ _ (Nat.le_refl _)]; omega
    ·have e1:=w1 c
     have e2:=w2 c
     have e3:=w3 c
     have e4:=w4 c
     have e5:=n4 c
     have e6:=w6 c
     have e7:=w7 c
     rw [z1] at e2 e4 e6 e7
     have e8 : c + (Lib.itoa (if sp < 1 then 1 else sp)).length + wt c l5≤wt c l4:=by
      split
      ·have : (Lib.itoa 1).length=1:=by rw [Lib.itoa,if_neg (by decide),Lib.decDigits_length]; rw [Lib.nDigits_small (by decide)]
       omega
      ·exact e5.1
     rw [atX_over k hk _ _ _ (Nat.le_refl _),wx_cons,wx_parX,wx_append]
     simp only [wx_cons,wx_nil,wL,mL,dL,bL_len,List.length_cons,List.length_nil]
     omega
   | none =>
    rw [h6] at h
    simp only at h
    cases h7 : allsL.findIdx? fun s=>isP s l with
    | none=>rw [h7] at h; cases h
    | some k =>
    rw [h7] at h
    simp only at h
    obtain ⟨hk,_⟩:=find_isP h7
    rw [alls_len] at hk
    cases a1 : mustP (allsL.getD k ⟨#[]⟩) l with
    | error e=>rw [a1] at h; cases h
    | ok r =>
    obtain ⟨u1,l1⟩:=r
    rw [a1] at h
    simp only at h
    obtain ⟨w1,hE1⟩:=mustP_ok a1 hE
    cases a2 : mustP (bS [40]) l1 with
    | error e=>rw [a2] at h; cases h
    | ok r =>
    obtain ⟨u2,l2⟩:=r
    rw [a2] at h
    simp only at h
    obtain ⟨w2,hE2⟩:=mustP_ok a2 hE1
    cases a3 : sumP f (n + 1) l2 with
    | error e=>rw [a3] at h; cases h
    | ok r =>
    obtain ⟨q1,l3⟩:=r
    rw [a3] at h
    simp only at h
    obtain ⟨g1,g2,g3,hE3⟩:=ih5 _ _ _ _ a3 hE2
    cases a4 : mustP (bS [41]) l3 with
    | error e=>rw [a4] at h; cases h
    | ok r =>
    obtain ⟨u4,l4⟩:=r
    rw [a4] at h
    simp only at h
    obtain ⟨w4,hE4⟩:=mustP_ok a4 hE3
    by_cases h8 : takesP (bS [98,121]) l4=true
    ·rw [if_pos h8] at h
     obtain ⟨w5,hE5⟩:=takesP_wt h8 hE4
     cases a6 : mustP (bS [40]) l4.tail with
     | error e=>rw [a6] at h; cases h
     | ok r =>
     obtain ⟨u6,l6⟩:=r
     rw [a6] at h
     simp only at h
     obtain ⟨w6,hE6⟩:=mustP_ok a6 hE5
     cases a7 : namesL (l6.length + 1) [] l6 with
     | error e=>rw [a7] at h; cases h
     | ok r =>
     obtain ⟨ns,l7⟩:=r
     rw [a7] at h
     simp only at h
     obtain ⟨m1,m2,m3,m4,hE7⟩:=namesL_ok _ _ _ _ _ a7 (fun s hs=>by cases hs) hE6
     cases a8 : mustP (bS [41]) l7 with
     | error e=>rw [a8] at h; cases h
     | ok r =>
     obtain ⟨u8,l8⟩:=r
     rw [a8] at h
     cases h
     obtain ⟨w8,hE8⟩:=mustP_ok a8 hE7
     refine ⟨.all k hk ns m1 m2 _ g1,?_,fun c=>?_,hE8⟩
     ·rw [dep_all k hk _ _ _ (Nat.le_refl _)]; omega
     ·have e1:=w1 c
      have e2:=w2 c
      have e3:=g3 c
      have e4:=w4 c
      have e5:=w5 c
      have e6:=w6 c
      have e7:=m4 c
      have e8:=w8 c
      rw [z1] at e2 e4 e6 e8
      have e9 : (bS [98,121]).size=2:=rfl
      have hb : bysX ns=⟨1,[98,121],1,1⟩ :: parX (byX ns):=by
       cases ns with
       | nil=>exact absurd rfl m3
       | cons a b=>rfl
      rw [atX_all k hk _ _ _ (Nat.le_refl _),wx_cons,wx_append,wx_parX,hb,wx_cons,wx_parX]
      simp only [wL,bL_len,List.length_cons,List.length_nil]
      have : wx c (byX [])=0:=rfl
      rw [this,if_pos (show ([] : List ByteArray).length=0 from rfl)] at e7
      omega
    ·rw [if_neg h8] at h
     cases h
     refine ⟨.all k hk [] (fun s hs=>by cases hs) (Nat.zero_le _) _ g1,?_,fun c=>?_,hE4⟩
     ·rw [dep_all k hk _ _ _ (Nat.le_refl _)]; omega
     ·have e1:=w1 c
      have e2:=w2 c
      have e3:=g3 c
      have e4:=w4 c
      rw [z1] at e2 e4
      rw [atX_all k hk _ _ _ (Nat.le_refl _),wx_cons,wx_append,wx_parX]
      simp only [wL,bL_len,bysX,wx_nil]
      omega
  ·intro n q0 l q l' h hE hw hd
   rw [productL] at h
   by_cases h1 : takesP (bS [42]) l=true
   ·rw [if_pos h1] at h
    exact loop_step binC15 (ih1 n l.tail) (fun q1 l1=>ih2 n _ l1) h1 h hE hw hd
   rw [if_neg h1] at h
   by_cases h2 : takesP (bS [47]) l=true
   ·rw [if_pos h2] at h
    exact loop_step binC16 (ih1 n l.tail) (fun q1 l1=>ih2 n _ l1) h2 h hE hw hd
   rw [if_neg h2] at h
   cases h
   exact ⟨hw,hd,fun c=>Nat.le_refl _,hE⟩
  ·intro n l q l' h hE
   rw [productP] at h
   cases h1 : oneP f n l with
   | error e=>rw [h1] at h; cases h
   | ok r =>
    obtain ⟨q1,l1⟩:=r
    rw [h1] at h
    obtain ⟨g1,g2,g3,g4⟩:=ih1 _ _ _ _ h1 hE
    obtain ⟨d1,d2⟩:=at_le q1 1 2 (by decide)
    obtain ⟨k1,k2,k3,k4⟩:=ih2 _ _ _ _ _ h g4 g1 (by omega)
    refine ⟨k1,k2,fun c=>?_,k4⟩
    have e1:=g3 c
    have e2:=k3 c
    have e3:=d2 c
    omega
  ·intro n q0 l q l' h hE hw hd
   rw [sumL] at h
   by_cases h1 : takesP (bS [43]) l=true
   ·rw [if_pos h1] at h
    exact loop_step binC13 (ih3 n l.tail) (fun q1 l1=>ih4 n _ l1) h1 h hE hw hd
   rw [if_neg h1] at h
   by_cases h2 : takesP (bS [45]) l=true
   ·rw [if_pos h2] at h
    exact loop_step binC14 (ih3 n l.tail) (fun q1 l1=>ih4 n _ l1) h2 h hE hw hd
   rw [if_neg h2] at h
   cases h
   exact ⟨hw,hd,fun c=>Nat.le_refl _,hE⟩
  ·intro n l q l' h hE
   rw [sumP] at h
   cases h1 : productP f n l with
   | error e=>rw [h1] at h; cases h
   | ok r =>
    obtain ⟨q1,l1⟩:=r
    rw [h1] at h
    obtain ⟨g1,g2,g3,g4⟩:=ih3 _ _ _ _ h1 hE
    obtain ⟨d1,d2⟩:=at_le q1 0 1 (by decide)
    obtain ⟨k1,k2,k3,k4⟩:=ih4 _ _ _ _ _ h g4 g1 (by omega)
    refine ⟨k1,k2,fun c=>?_,k4⟩
    have e1:=g3 c
    have e2:=k3 c
    have e3:=d2 c
    omega
theorem tok_wt (s : List UInt8) : ∀ (f i cnt : Nat) (l : List Tok),tokF s f i cnt=.ok l→∀ c,wt c l≤c * l.length + (s.length - i)
 | 0,_,_,_,h,_=>by simp [tokF] at h
 | f + 1,i,cnt,l,h,c=>by
  rw [tokF] at h
  simp only at h
  generalize hk : ((s.drop i).takeWhile (· == 32)).length=k at h
  by_cases he : s.length≤i + k
  ·rw [if_pos he] at h
   cases h
   rw [wt_cons]
   show c + (ByteArray.mk #[]).size + 0≤c * 1 + _
   rw [show (ByteArray.mk #[]).size=0 from rfl]
   omega
  rw [if_neg he] at h
  have hle:=lexF_le (s.drop (i + k))
  generalize lexF (s.drop (i + k))=nk at h hle
  obtain ⟨n,kd⟩:=nk
  simp only at h hle
  by_cases hn : n=0
  ·rw [if_pos hn] at h; cases h
  rw [if_neg hn] at h
  by_cases hl : (kd=2∧18 < n)∨120≤cnt
  ·rw [if_pos hl] at h; cases h
  rw [if_neg hl] at h
  cases hr : tokF s f (i + k + n) (cnt + 1) with
  | error e=>rw [hr] at h; cases h
  | ok l2 =>
   rw [hr] at h
   cases h
   have h1:=tok_wt s f _ _ l2 hr c
   rw [wt_cons,List.length_cons,Nat.mul_succ]
   show c + (ByteArray.mk ((s.drop (i + k)).take n).toArray).size + wt c l2≤_
   have h2 : (ByteArray.mk ((s.drop (i + k)).take n).toArray).size≤n:=by
    show ((s.drop (i + k)).take n).toArray.size≤n
    simp
    omega
   simp only [List.length_drop] at hle
   omega
end Go.PL
