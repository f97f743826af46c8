/-
  Plain laws: tokens, letter by letter. No program is in sight.
-/
import Derived.Test.YtkoalgjlkcaonaaGreatDoorK09
import Derived.Test.YtkoalgjlkcaonaaGreatDoorK12
import Derived.Tactics
import Derived.Tactics2
import Derived.Defers
import Derived.Recover
import Derived.Test.YtkoalgjlkcaonaaGreatDoorK08
import Derived.Test.YtkoalgjlkcaonaaGreatDoorK05
import Derived.WalkKit
import Derived.LaidEql
import Derived.Stop.Asserts
import Derived.RowKitTokens
import Derived.Test.YtkoalgjlkcaonaaGreatDoorK07
set_option linter.unusedSimpArgs false
namespace Go.PL
open Go Go.GK

def twN (p : UInt8→Bool) (s : ByteArray) (i : Nat) : Nat:=(((bL s).drop i).takeWhile p).length
theorem twN_le (p : UInt8→Bool) (s : ByteArray) (i : Nat) : twN p s i≤s.size - i:=by
 have:=(List.takeWhile_sublist (l:=(bL s).drop i) p).length_le
 rw [List.length_drop,bL_len] at this
 exact this
theorem tw_get {p : UInt8→Bool} : ∀ {l : List UInt8} {j : Nat},j < (l.takeWhile p).length→∃ c,l[j]?=some c∧p c=true
 | [],j,h=>by simp at h
 | c :: l,j,h=>by
  rw [List.takeWhile_cons] at h
  cases hp : p c with
  | false=>rw [hp] at h; simp at h
  | true =>
   rw [hp] at h
   cases j with
   | zero=>exact ⟨c,rfl,hp⟩
   | succ j =>
    obtain ⟨d,h1,h2⟩:=tw_get (l:=l) (j:=j) (by simpa using h)
    exact ⟨d,by simpa using h1,h2⟩
theorem tw_stop {p : UInt8→Bool} : ∀ {l : List UInt8} {c : UInt8},l[(l.takeWhile p).length]?=some c→p c=false
 | [],c,h=>by simp at h
 | a :: l,c,h=>by
  rw [List.takeWhile_cons] at h
  cases hp : p a with
  | false =>
   rw [hp] at h
   simp at h
   rw [← h]
   exact hp
  | true =>
   rw [hp] at h
   exact tw_stop (l:=l) (by simpa using h)
theorem twN_lt {p : UInt8→Bool} {s : ByteArray} {i k : Nat} (hk : i≤k) (h : k < i + twN p s i) : ∃ hs : k < s.size,p s[k]=true:=by
 have h1:=twN_le p s i
 have hs : k < s.size:=by omega
 obtain ⟨c,h2,h3⟩:=tw_get (p:=p) (l:=(bL s).drop i) (j:=k - i) (show k - i < twN p s i by omega)
 rw [List.getElem?_drop,show i + (k - i)=k by omega,← bget,getElem?_pos s k hs] at h2
 exact ⟨hs,by rw [Option.some.inj h2]; exact h3⟩
theorem twN_stop {p : UInt8→Bool} {s : ByteArray} {i : Nat} (hs : i + twN p s i < s.size) : p s[i + twN p s i]=false:=by
 refine tw_stop (l:=(bL s).drop i) ?_
 show ((bL s).drop i)[twN p s i]?=_
 rw [List.getElem?_drop,← bget,getElem?_pos s _ hs]
theorem drop_at {s : ByteArray} {i : Nat} (h : i < s.size) : (bL s).drop i=s[i] :: (bL s).drop (i + 1):=by
 have h' : i < (bL s).length:=by rw [bL_len]; exact h
 rw [List.drop_eq_getElem_cons h']
 congr 1
theorem find_tw (l : List UInt8) : (l.findIdx? (· == 34))=if (l.takeWhile fun b=>decide (b.toNat ≠ 34)).length < l.length then some (l.takeWhile fun b=>decide (b.toNat ≠ 34)).length else none:=by
 induction l with
 | nil=>simp
 | cons c l ih =>
  rw [List.findIdx?_cons,List.takeWhile_cons]
  by_cases hc : c.toNat=34
  ·have h1 : (c == 34)=true:=by
    have : c=34:=UInt8.toNat_inj.1 hc
    rw [this]; rfl
   rw [h1,if_pos rfl,decide_eq_false (by simpa using hc)]
   simp
  ·have h1 : (c == 34)=false:=by
    cases hh : c == 34 with
    | false=>rfl
    | true=>exact absurd (by rw [eq_of_beq hh]; rfl) hc
   rw [h1,if_neg Bool.false_ne_true,ih,decide_eq_true hc]
   simp only [if_true,List.length_cons,Nat.add_lt_add_iff_right]
   split <;> rfl
theorem tok_sp {s : ByteArray} {i f cnt : Nat} (h : i < s.size) (h32 : s[i]=32) : tokF (bL s) (f + 1) i cnt=tokF (bL s) (f + 1) (i + 1) cnt:=by
 rw [tokF,tokF,drop_at h]
 have e : ((s[i] :: (bL s).drop (i + 1)).takeWhile (· == 32)).length=(((bL s).drop (i + 1)).takeWhile (· == 32)).length + 1:=by
  rw [List.takeWhile_cons,h32]
  simp
 rw [e,show i + ((((bL s).drop (i + 1)).takeWhile (· == 32)).length + 1)=i + 1 + (((bL s).drop (i + 1)).takeWhile (· == 32)).length by omega]
theorem tok_end {s : ByteArray} {f cnt : Nat} : tokF (bL s) (f + 1) s.size cnt=.ok [⟨5,⟨#[]⟩,s.size⟩]:=by
 rw [tokF]
 have : (bL s).drop s.size=[]:=List.drop_of_length_le (by rw [bL_len]; exact Nat.le_refl _)
 rw [this]
 simp [bL_len]
theorem tok_at {s : ByteArray} {i f cnt : Nat} (h : i < s.size) (h32 : s[i] ≠ 32) : tokF (bL s) (f + 1) i cnt =
  if (lexF ((bL s).drop i)).1=0 then .error (3,i)
  else if ((lexF ((bL s).drop i)).2=2∧18 < (lexF ((bL s).drop i)).1)∨120≤cnt then .error (4,i)
  else match tokF (bL s) f (i + (lexF ((bL s).drop i)).1) (cnt + 1) with
   | .ok l=>.ok (⟨(lexF ((bL s).drop i)).2,⟨(((bL s).drop i).take (lexF ((bL s).drop i)).1).toArray⟩,i⟩ :: l)
   | .error e=>.error e:=by
 rw [tokF]
 have e : (((bL s).drop i).takeWhile (· == 32)).length=0:=by
  rw [drop_at h,List.takeWhile_cons]
  have : (s[i] == 32)=false:=by simpa using h32
  rw [this]
  rfl
 rw [e,Nat.add_zero]
 simp only
 rw [if_neg (by rw [bL_len]; omega)]
 rfl
def markN (n : Nat) (l : List UInt8) (j : Nat) : Bool:=(marksL.take j).any fun m=>decide (m.length=n) && m.isPrefixOf l
theorem markN_step {n : Nat} {l : List UInt8} {j : Nat} (h : j < marksL.length) : markN n l (j + 1)=(markN n l j || (decide (marksL[j].length=n) && marksL[j].isPrefixOf l)):=by
 rw [markN,List.take_succ_eq_append_getElem h,List.any_append]
 simp [markN]
theorem mark_len (l : List UInt8) : (match marksL.find? (fun m=>m.isPrefixOf l) with | some m=>m.length | none=>0)=if markN 2 l 15=true then 2 else if markN 1 l 15=true then 1 else 0:=by
 have e : ∀ n,markN n l 15=marksL.any fun m=>decide (m.length=n) && m.isPrefixOf l:=fun n=>by rw [markN,List.take_of_length_le (by decide)]
 rw [e,e]
 simp only [marksL,List.find?_cons,List.any_cons,List.any_nil,List.length_cons,List.length_nil]
 simp only [Nat.reduceAdd,Nat.reduceEqDiff,decide_true,decide_false,Bool.true_and,Bool.false_and,Bool.or_false,Bool.false_or,List.find?_nil]
 cases [33,61].isPrefixOf l with
 | true=>rfl
 | false =>
 cases [94,61].isPrefixOf l with
 | true=>rfl
 | false =>
 cases [33,94].isPrefixOf l with
 | true=>rfl
 | false =>
 cases [61].isPrefixOf l with
 | true=>rfl
 | false =>
 cases [123].isPrefixOf l with
 | true=>rfl
 | false =>
 cases [125].isPrefixOf l with
 | true=>rfl
 | false =>
 cases [91].isPrefixOf l with
 | true=>rfl
 | false =>
 cases [93].isPrefixOf l with
 | true=>rfl
 | false =>
 cases [40].isPrefixOf l with
 | true=>rfl
 | false =>
 cases [41].isPrefixOf l with
 | true=>rfl
 | false =>
 cases [44].isPrefixOf l with
 | true=>rfl
 | false =>
 cases [43].isPrefixOf l with
 | true=>rfl
 | false =>
 cases [45].isPrefixOf l with
 | true=>rfl
 | false =>
 cases [42].isPrefixOf l with
 | true=>rfl
 | false =>
 cases [47].isPrefixOf l with
 | true=>rfl
 | false=>rfl
theorem lex_let {s : ByteArray} {i : Nat} (h : i < s.size) (hc : letB s[i]=true) : lexF ((bL s).drop i)=(twN (fun b=>letB b || digB b) s i,1):=by
 rw [twN,drop_at h]
 simp only [lexF,hc,if_true]
theorem lex_dig {s : ByteArray} {i : Nat} (h : i < s.size) (hl : letB s[i]=false) (hc : digB s[i]=true) : lexF ((bL s).drop i)=(twN digB s i,2):=by
 rw [twN,drop_at h]
 simp only [lexF,hl,hc,if_true,Bool.false_eq_true,if_false]
theorem lex_quo {s : ByteArray} {i : Nat} (h : i < s.size) (hl : letB s[i]=false) (hd : digB s[i]=false) (hc : s[i].toNat=34) :
  lexF ((bL s).drop i)=(if i + 1 + twN (fun b=>decide (b.toNat ≠ 34)) s (i + 1) < s.size then twN (fun b=>decide (b.toNat ≠ 34)) s (i + 1) + 2 else 0,3):=by
 rw [drop_at h]
 have hlen : ((bL s).drop (i + 1)).length=s.size - (i + 1):=by rw [List.length_drop,bL_len]
 have hf:=find_tw ((bL s).drop (i + 1))
 have hw : (((bL s).drop (i + 1)).takeWhile fun b=>decide (b.toNat ≠ 34)).length=twN (fun b=>decide (b.toNat ≠ 34)) s (i + 1):=rfl
 rw [hw,hlen] at hf
 unfold lexF
 simp only [hl,hd,Bool.false_eq_true,if_false]
 rw [if_pos hc,hf]
 by_cases h2 : i + 1 + twN (fun b=>decide (b.toNat ≠ 34)) s (i + 1) < s.size
 ·rw [if_pos h2,if_pos (by omega)]
 ·rw [if_neg h2,if_neg (by omega)]
theorem lex_mark {s : ByteArray} {i : Nat} (h : i < s.size) (hl : letB s[i]=false) (hd : digB s[i]=false) (hc : s[i].toNat ≠ 34) :
  lexF ((bL s).drop i)=(if markN 2 ((bL s).drop i) 15=true then 2 else if markN 1 ((bL s).drop i) 15=true then 1 else 0,4):=by
 rw [← mark_len,drop_at h]
 unfold lexF
 simp only [hl,hd,Bool.false_eq_true,if_false]
 rw [if_neg hc]
 rfl
theorem mark_fit {n : Nat} {l : List UInt8} {j : Nat} (h : markN n l j=true) : n≤l.length:=by
 rw [markN,List.any_eq_true] at h
 obtain ⟨m,_,h⟩:=h
 rw [Bool.and_eq_true,decide_eq_true_iff,List.isPrefixOf_iff_prefix] at h
 have:=h.2.length_le
 omega
end Go.PL
/-
  Contracts: the document's tokens.
-/
namespace Go.Proofs.YtkoalgjlkcaonaaGreatDoor
open Go.GK Go.RowKit Go.PL
set_option maxRecDepth 100000
def ftG (e p : Int) : GV:=.agg [gi e,gi p]
def toksG : Except (Int × Int) (List Tok)→GV
 | .ok l=>.tup [tks l,ftG 0 (-1)]
 | .error (e,p)=>.tup [.v (.slice none 0 0),ftG e p]
theorem rtokens_rt (s : ByteArray) (hs : s.size≤1000) : Rt pg 43 [gs s] (toksG (tokF s.data.toList (s.size + 1) 0 0)):=by
 generalize hR : tokF s.data.toList (s.size + 1) 0 0=R
 refine Rt.ofJ pg_ok Tryz.func43 rfl Tryz.ntmps43 rfl Tryz.results43 Tryz.call43 fun H0 S0 w0 h0 g0=>?_
 refine V ?_
 show JK _ _ _ _
 refine JK.ownNil 4 105 3 rfl ?_
 refine JK.loopE (α:=List Tok × Nat × Nat) (β:=List Tok × Nat) (fun x=>⟨[(0,gs s),(3,.p 0 0),(4,.o 1),(5,gi x.2.1)],[(0,.blk 55 [gi 0,gi 0]),(1,.row 105 3 (x.1.map tokR))],2⟩)
  (fun x=>(match tokF (bL s) x.2.2 x.2.1 x.1.length with | .ok l=>.ok (x.1++l) | .error e=>(.error e : Except (Int × Int) (List Tok)))=R∧x.2.1≤s.size∧s.size - x.2.1 < x.2.2∧x.1.length≤120) (fun x=>s.size - x.2.1)
  (fun y=>⟨[(0,gs s),(3,.p 0 0),(4,.o 1)],[(0,.blk 55 [gi 0,gi 0]),(1,.row 105 3 (y.1.map tokR))],2⟩) (fun y=>R=.ok (y.1++[⟨5,⟨#[]⟩,s.size⟩])∧y.1.length≤120) ([],0,s.size + 1) id ?_ ?_ ?_ ?_
 ·exact ⟨⟨rfl,rfl,rfl,rfl,trivial⟩,⟨rfl,rfl,trivial⟩,rfl⟩
 ·refine ⟨?_,Nat.zero_le _,by simp,by simp⟩
  show (match tokF (bL s) (s.size + 1) 0 0 with | .ok l=>Except.ok ([]++l) | .error e=>.error e)=R
  rw [show tokF (bL s) (s.size + 1) 0 0=R from hR]
  cases R <;> rfl
 ·rintro ⟨acc,i,f⟩ ⟨hO,hi,hf,ho⟩
  replace hO : (match tokF (bL s) f i acc.length with | .ok l=>.ok (acc++l) | .error e=>(.error e : Except (Int × Int) (List Tok)))=R:=hO
  replace hi : i≤s.size:=hi
  replace hf : s.size - i < f:=hf
  replace ho : acc.length≤120:=ho
  obtain ⟨f,rfl⟩ : ∃ k,f=k + 1:=⟨f - 1,by omega⟩
  show JK _ _ _ (⟨[(0,gs s),(3,.p 0 0),(4,.o 1),(5,gi i)],[(0,.blk 55 [gi 0,gi 0]),(1,.row 105 3 (acc.map tokR))],2⟩ : St)
  by_cases hlt : i < s.size
  ·refine VM 28 ?_
   refine p1 ?_ (decide_eq_true (by show (i : Int) < (s.size : Int); omega))
   refine sx (h:=?_)
   have hs1 : s[i]=s[i]:=rfl
   have step:=fun (h : s[i] ≠ 32)=>tok_at (f:=f) (cnt:=acc.length) hlt h
   refine JK.cut (α:=Nat × Int) (fun x=>⟨[(0,gs s),(3,.p 0 0),(4,.o 1),(5,gi i),(7,gi (i + x.1 : Nat)),(8,.p 2 0)],[(0,.blk 55 [gi 0,gi 0]),(1,.row 105 3 (acc.map tokR)),(2,.blk 105 [gi x.2,gs ⟨#[]⟩,gi i])],3⟩) (fun x=>s[i] ≠ 32∧lexF ((bL s).drop i)=x) ?_ ?_
   ·refine V ?_
    by_cases c32 : s[i]=32
    ·refine p1 ?_ (by rw [c32]; rfl)
     refine V ?_
     refine ⟨(acc,i + 1,f + 1),id,⟨⟨rfl,rfl,rfl,succ_gi (by omega),trivial⟩,⟨rfl,rfl,trivial⟩,rfl⟩,⟨?_,hlt,by show s.size - (i + 1) < f + 1; omega,ho⟩,by show s.size - (i + 1) < s.size - i; omega⟩
     rw [tok_sp hlt c32] at hO
     exact hO
    ·have n32 : ((s[i].toNat : Int) == 32)=false:=by
      have : s[i].toNat ≠ 32:=fun h=>c32 (UInt8.toNat_inj.1 h)
      simp
      omega
     refine p2 ?_ n32
     refine V ?_
     rcases tf (letB s[i]) with hl | hl
     ·have hlx:=lex_let hlt hl
      refine GO ((letter_rt s[i]).bt hl) rfl ?_
      refine JK.loopE (α:=Nat) (β:=Unit) (fun k=>⟨[(0,gs s),(3,.p 0 0),(4,.o 1),(5,gi i),(7,gi (k)),(8,.p 2 0)],[(0,.blk 55 [gi 0,gi 0]),(1,.row 105 3 (acc.map tokR)),(2,.blk 105 [gi 1,gs ⟨#[]⟩,gi i])],3⟩) (fun k=>i≤k∧k≤i + twN (fun b=>letB b || digB b) s (i)) (fun k=>s.size - k)
       (fun _=>⟨[(0,gs s),(3,.p 0 0),(4,.o 1),(5,gi i),(7,gi ((i + twN (fun b=>letB b || digB b) s (i) : Nat))),(8,.p 2 0)],[(0,.blk 55 [gi 0,gi 0]),(1,.row 105 3 (acc.map tokR)),(2,.blk 105 [gi 1,gs ⟨#[]⟩,gi i])],3⟩) (fun _=>True) (i) id ?_ ⟨Nat.le_refl _,Nat.le_add_right _ _⟩ ?_ ?_
      ·exact ⟨⟨rfl,rfl,rfl,rfl,rfl,rfl,trivial⟩,⟨rfl,rfl,rfl,trivial⟩,rfl⟩
      ·rintro k ⟨hk1,hk2⟩
       have hW:=twN_le (fun b=>letB b || digB b) s (i)
       refine V ?_
       by_cases hks : k < s.size
       ·have hyes : (fun b=>letB b || digB b) s[k]=true→k + 1≤i + twN (fun b=>letB b || digB b) s (i):=fun hp=>by
         rcases Nat.lt_or_ge k (i + twN (fun b=>letB b || digB b) s (i)) with h | h
         ·omega
         ·exfalso
          have e : k=i + twN (fun b=>letB b || digB b) s (i):=by omega
          subst e
          have h2:=twN_stop (p:=(fun b=>letB b || digB b)) hks
          exact absurd (hp.symm.trans h2) (by decide)
        have hno : (fun b=>letB b || digB b) s[k]=false→k=i + twN (fun b=>letB b || digB b) s (i):=fun hp=>by
         refine Classical.byContradiction fun hne=>?_
         obtain ⟨_,h3⟩:=twN_lt (p:=(fun b=>letB b || digB b)) hk1 (show k < i + twN (fun b=>letB b || digB b) s (i) by omega)
         exact absurd (h3.symm.trans hp) (by decide)
        refine p1 ?_ (decide_eq_true (by omega))
        refine sx (h:=?_)
        refine V ?_
        rcases tf (letB s[k]) with h1 | h1
        ·refine GO ((letter_rt s[k]).bt h1) rfl ?_
         exact ⟨k + 1,id,⟨⟨rfl,rfl,rfl,rfl,succ_gi (by omega),rfl,trivial⟩,⟨rfl,rfl,rfl,trivial⟩,rfl⟩,⟨by omega,hyes (by simp [h1])⟩,by show s.size - (k + 1) < s.size - k; omega⟩
        ·refine GO ((letter_rt s[k]).bt h1) rfl ?_
         refine sx (h:=?_)
         rcases tf (digB s[k]) with h2 | h2
         ·refine GO ((digit_rt s[k]).bt h2) rfl ?_
          exact ⟨k + 1,id,⟨⟨rfl,rfl,rfl,rfl,succ_gi (by omega),rfl,trivial⟩,⟨rfl,rfl,rfl,trivial⟩,rfl⟩,⟨by omega,hyes (by simp [h2])⟩,by show s.size - (k + 1) < s.size - k; omega⟩
         ·refine GO ((digit_rt s[k]).bt h2) rfl ?_
          have e:=hno (by simp [h1,h2])
          subst e
          exact ⟨(),id,⟨⟨rfl,rfl,rfl,rfl,rfl,rfl,trivial⟩,⟨rfl,rfl,rfl,trivial⟩,rfl⟩,trivial⟩
       ·refine p2 ?_ (decide_eq_false (by omega))
        have e : k=i + twN (fun b=>letB b || digB b) s (i):=by omega
        subst e
        exact ⟨(),id,⟨⟨rfl,rfl,rfl,rfl,rfl,rfl,trivial⟩,⟨rfl,rfl,rfl,trivial⟩,rfl⟩,trivial⟩
      rintro _ _
      refine V ?_
      exact ⟨_,id,⟨⟨rfl,rfl,rfl,rfl,rfl,rfl,trivial⟩,⟨rfl,rfl,rfl,trivial⟩,rfl⟩,⟨c32,hlx⟩⟩
     ·refine GO ((letter_rt s[i]).bt hl) rfl ?_
      rcases tf (digB s[i]) with hd | hd
      ·have hlx:=lex_dig hlt hl hd
       refine V ?_
       refine GO ((digit_rt s[i]).bt hd) rfl ?_
       refine JK.loopE (α:=Nat) (β:=Unit) (fun k=>⟨[(0,gs s),(3,.p 0 0),(4,.o 1),(5,gi i),(7,gi (k)),(8,.p 2 0)],[(0,.blk 55 [gi 0,gi 0]),(1,.row 105 3 (acc.map tokR)),(2,.blk 105 [gi 2,gs ⟨#[]⟩,gi i])],3⟩) (fun k=>i≤k∧k≤i + twN digB s (i)) (fun k=>s.size - k)
        (fun _=>⟨[(0,gs s),(3,.p 0 0),(4,.o 1),(5,gi i),(7,gi ((i + twN digB s (i) : Nat))),(8,.p 2 0)],[(0,.blk 55 [gi 0,gi 0]),(1,.row 105 3 (acc.map tokR)),(2,.blk 105 [gi 2,gs ⟨#[]⟩,gi i])],3⟩) (fun _=>True) (i) id ?_ ⟨Nat.le_refl _,Nat.le_add_right _ _⟩ ?_ ?_
       ·exact ⟨⟨rfl,rfl,rfl,rfl,rfl,rfl,trivial⟩,⟨rfl,rfl,rfl,trivial⟩,rfl⟩
       ·rintro k ⟨hk1,hk2⟩
        have hW:=twN_le digB s (i)
        refine V ?_
        by_cases hks : k < s.size
        ·have hyes : digB s[k]=true→k + 1≤i + twN digB s (i):=fun hp=>by
          rcases Nat.lt_or_ge k (i + twN digB s (i)) with h | h
          ·omega
          ·exfalso
           have e : k=i + twN digB s (i):=by omega
           subst e
           have h2:=twN_stop (p:=digB) hks
           exact absurd (hp.symm.trans h2) (by decide)
         have hno : digB s[k]=false→k=i + twN digB s (i):=fun hp=>by
          refine Classical.byContradiction fun hne=>?_
          obtain ⟨_,h3⟩:=twN_lt (p:=digB) hk1 (show k < i + twN digB s (i) by omega)
          exact absurd (h3.symm.trans hp) (by decide)
         refine p1 ?_ (decide_eq_true (by omega))
         refine sx (h:=?_)
         refine V ?_
         rcases tf (digB s[k]) with h2 | h2
         ·refine GO ((digit_rt s[k]).bt h2) rfl ?_
          exact ⟨k + 1,id,⟨⟨rfl,rfl,rfl,rfl,succ_gi (by omega),rfl,trivial⟩,⟨rfl,rfl,rfl,trivial⟩,rfl⟩,⟨by omega,hyes h2⟩,by show s.size - (k + 1) < s.size - k; omega⟩
         ·refine GO ((digit_rt s[k]).bt h2) rfl ?_
          have e:=hno h2
          subst e
          exact ⟨(),id,⟨⟨rfl,rfl,rfl,rfl,rfl,rfl,trivial⟩,⟨rfl,rfl,rfl,trivial⟩,rfl⟩,trivial⟩
        ·refine p2 ?_ (decide_eq_false (by omega))
         have e : k=i + twN digB s (i):=by omega
         subst e
         exact ⟨(),id,⟨⟨rfl,rfl,rfl,rfl,rfl,rfl,trivial⟩,⟨rfl,rfl,rfl,trivial⟩,rfl⟩,trivial⟩
       rintro _ _
       refine V ?_
       exact ⟨_,id,⟨⟨rfl,rfl,rfl,rfl,rfl,rfl,trivial⟩,⟨rfl,rfl,rfl,trivial⟩,rfl⟩,⟨c32,hlx⟩⟩
      ·refine V ?_
       refine GO ((digit_rt s[i]).bt hd) rfl ?_
       by_cases c34 : s[i].toNat=34
       ·have hlx:=lex_quo hlt hl hd c34
        refine p1 ?_ (by simp [c34])
        refine JK.loopE (α:=Nat) (β:=Unit) (fun k=>⟨[(0,gs s),(3,.p 0 0),(4,.o 1),(5,gi i),(7,gi (k)),(8,.p 2 0)],[(0,.blk 55 [gi 0,gi 0]),(1,.row 105 3 (acc.map tokR)),(2,.blk 105 [gi 3,gs ⟨#[]⟩,gi i])],3⟩) (fun k=>i + 1≤k∧k≤i + 1 + twN (fun b=>decide (b.toNat ≠ 34)) s (i + 1)) (fun k=>s.size - k)
         (fun _=>⟨[(0,gs s),(3,.p 0 0),(4,.o 1),(5,gi i),(7,gi ((i + 1 + twN (fun b=>decide (b.toNat ≠ 34)) s (i + 1) : Nat))),(8,.p 2 0)],[(0,.blk 55 [gi 0,gi 0]),(1,.row 105 3 (acc.map tokR)),(2,.blk 105 [gi 3,gs ⟨#[]⟩,gi i])],3⟩) (fun _=>True) (i + 1) id ?_ ⟨Nat.le_refl _,Nat.le_add_right _ _⟩ ?_ ?_
        ·exact ⟨⟨rfl,rfl,rfl,rfl,succ_gi (by omega),rfl,trivial⟩,⟨rfl,rfl,rfl,trivial⟩,rfl⟩
        ·rintro k ⟨hk1,hk2⟩
         have hW:=twN_le (fun b=>decide (b.toNat ≠ 34)) s (i + 1)
         refine V ?_
         by_cases hks : k < s.size
         ·have hyes : (fun b=>decide (b.toNat ≠ 34)) s[k]=true→k + 1≤i + 1 + twN (fun b=>decide (b.toNat ≠ 34)) s (i + 1):=fun hp=>by
           rcases Nat.lt_or_ge k (i + 1 + twN (fun b=>decide (b.toNat ≠ 34)) s (i + 1)) with h | h
           ·omega
           ·exfalso
            have e : k=i + 1 + twN (fun b=>decide (b.toNat ≠ 34)) s (i + 1):=by omega
            subst e
            have h2:=twN_stop (p:=(fun b=>decide (b.toNat ≠ 34))) hks
            exact absurd (hp.symm.trans h2) (by decide)
          have hno : (fun b=>decide (b.toNat ≠ 34)) s[k]=false→k=i + 1 + twN (fun b=>decide (b.toNat ≠ 34)) s (i + 1):=fun hp=>by
           refine Classical.byContradiction fun hne=>?_
           obtain ⟨_,h3⟩:=twN_lt (p:=(fun b=>decide (b.toNat ≠ 34))) hk1 (show k < i + 1 + twN (fun b=>decide (b.toNat ≠ 34)) s (i + 1) by omega)
           exact absurd (h3.symm.trans hp) (by decide)
          refine p1 ?_ (decide_eq_true (by omega))
          refine sx (h:=?_)
          by_cases h2 : s[k].toNat=34
          ·refine p2 ?_ (by simp [h2])
           have e:=hno (by simp [h2])
           subst e
           exact ⟨(),id,⟨⟨rfl,rfl,rfl,rfl,rfl,rfl,trivial⟩,⟨rfl,rfl,rfl,trivial⟩,rfl⟩,trivial⟩
          ·refine p1 ?_ (by simp; omega)
           exact ⟨k + 1,id,⟨⟨rfl,rfl,rfl,rfl,succ_gi (by omega),rfl,trivial⟩,⟨rfl,rfl,rfl,trivial⟩,rfl⟩,⟨by omega,hyes (by simp [h2])⟩,by show s.size - (k + 1) < s.size - k; omega⟩
         ·refine p2 ?_ (decide_eq_false (by omega))
          have e : k=i + 1 + twN (fun b=>decide (b.toNat ≠ 34)) s (i + 1):=by omega
          subst e
          exact ⟨(),id,⟨⟨rfl,rfl,rfl,rfl,rfl,rfl,trivial⟩,⟨rfl,rfl,rfl,trivial⟩,rfl⟩,trivial⟩
        rintro _ _
        refine V ?_
        have hW:=twN_le (fun b=>decide (b.toNat ≠ 34)) s (i + 1)
        by_cases hend : i + 1 + twN (fun b=>decide (b.toNat ≠ 34)) s (i + 1) < s.size
        ·rw [if_pos hend] at hlx
         have hwr : IntKind.i64.wrap (((i + 1 + twN (fun b=>decide (b.toNat ≠ 34)) s (i + 1) : Nat) : Int) + 1)=((i + (twN (fun b=>decide (b.toNat ≠ 34)) s (i + 1) + 2) : Nat) : Int):=by rw [wrap_id (by omega) (by omega)]; omega
         refine p2 ?_ (decide_eq_false (by rw [hwr]; omega))
         exact ⟨_,id,⟨⟨rfl,rfl,rfl,rfl,congrArg (fun x=>some (gi x)) hwr,rfl,trivial⟩,⟨rfl,rfl,rfl,trivial⟩,rfl⟩,⟨c32,hlx⟩⟩
        ·rw [if_neg hend] at hlx
         have hwr : IntKind.i64.wrap (((i + 1 + twN (fun b=>decide (b.toNat ≠ 34)) s (i + 1) : Nat) : Int) + 1)=((i + (twN (fun b=>decide (b.toNat ≠ 34)) s (i + 1) + 2) : Nat) : Int):=by rw [wrap_id (by omega) (by omega)]; omega
         refine p1 ?_ (decide_eq_true (by rw [hwr]; omega))
         exact ⟨_,id,⟨⟨rfl,rfl,rfl,rfl,rfl,rfl,trivial⟩,⟨rfl,rfl,rfl,trivial⟩,rfl⟩,⟨c32,hlx⟩⟩
       ·have hlx:=lex_mark hlt hl hd c34
        generalize hdr : (bL s).drop i=dr at hlx
        refine p2 ?_ (by simp; omega)
        show JK _ _ _ _
        have hdre : (s.extract i s.size).data.toList=dr:=by
         rw [← hdr,ByteArray.data_extract,Array.toList_extract]
         simp [List.extract,List.take_of_length_le,bL]
        have hfit : ∀ n j,markN n dr j=true→i + n≤s.size:=fun n j h=>by
         have:=mark_fit h
         rw [← hdr,List.length_drop,bL_len] at this
         omega
        refine JK.loopE (α:=Nat) (β:=Unit) (fun d=>⟨[(0,gs s),(3,.p 0 0),(4,.o 1),(5,gi i),(7,gi (((match d with | 0=>i | 1=>if markN 2 dr 15=true then i + 2 else i | _=>if markN 1 dr 15=true then i + 1 else i : Nat) : Int))),(8,.p 2 0),(9,gi (((2 - d : Nat) : Int)))],[(0,.blk 55 [gi 0,gi 0]),(1,.row 105 3 (acc.map tokR)),(2,.blk 105 [gi 4,gs ⟨#[]⟩,gi i])],3⟩) (fun d=>d≤2∧(d=2→markN 2 dr 15=false)) (fun d=>2 - d)
         (fun _=>⟨[(0,gs s),(3,.p 0 0),(4,.o 1),(5,gi i),(7,gi ((i + if markN 2 dr 15=true then 2 else if markN 1 dr 15=true then 1 else 0 : Nat))),(8,.p 2 0)],[(0,.blk 55 [gi 0,gi 0]),(1,.row 105 3 (acc.map tokR)),(2,.blk 105 [gi 4,gs ⟨#[]⟩,gi i])],3⟩) (fun _=>True) 0 id ?_ ⟨Nat.zero_le _,fun h=>absurd h (by decide)⟩ ?_ ?_
        ·exact ⟨⟨rfl,rfl,rfl,rfl,rfl,rfl,rfl,trivial⟩,⟨rfl,rfl,rfl,trivial⟩,rfl⟩
        ·rintro d ⟨hd2,hm2⟩
         replace hd2 : d≤2:=hd2
         rcases (show d=0∨d=1∨d=2 by omega) with rfl | rfl | rfl
         ·refine V ?_
          refine p1 ?_ rfl
          refine p1 ?_ (by simp)
          refine JK.loopE (α:=Nat) (β:=Unit) (fun j=>⟨[(0,gs s),(3,.p 0 0),(4,.o 1),(5,gi i),(7,gi ((if markN 2 dr j=true then i + 2 else i : Nat))),(8,.p 2 0),(9,gi (2)),(32,.agg (marksL.map fun m=>gs (bS m))),(33,gi j)],[(0,.blk 55 [gi 0,gi 0]),(1,.row 105 3 (acc.map tokR)),(2,.blk 105 [gi 4,gs ⟨#[]⟩,gi i])],3⟩) (fun j=>j≤15) (fun j=>15 - j)
           (fun _=>⟨[(0,gs s),(3,.p 0 0),(4,.o 1),(5,gi i),(7,gi ((if markN 2 dr 15=true then i + 2 else i : Nat))),(8,.p 2 0),(9,gi (2))],[(0,.blk 55 [gi 0,gi 0]),(1,.row 105 3 (acc.map tokR)),(2,.blk 105 [gi 4,gs ⟨#[]⟩,gi i])],3⟩) (fun _=>True) 0 id ?_ (Nat.zero_le _) ?_ ?_
          ·exact ⟨⟨rfl,rfl,rfl,rfl,rfl,rfl,rfl,rfl,rfl,trivial⟩,⟨rfl,rfl,rfl,trivial⟩,rfl⟩
          ·rintro j hj
           replace hj : j≤15:=hj
           refine V ?_
           by_cases hjl : j < 15
           ·refine p1 ?_ (decide_eq_true (by omega))
            have hjL : j < marksL.length:=hjl
            have hms:=markN_step (n:=2) (l:=dr) hjL
            refine ⟨gs (bS marksL[j]),by omega,by omega,by simp [hjL],?_⟩
            have hsz : (bS marksL[j]).size=marksL[j].length:=bS_size _
            by_cases hlen : marksL[j].length=2
            ·refine p1 ?_ (by simp [hsz,hlen])
             refine ⟨by omega,by omega,by omega,?_⟩
             have hpf : prefF (s.extract i s.size) (bS marksL[j])=marksL[j].isPrefixOf dr:=by rw [prefF_is,hdre]
             rcases tf (marksL[j].isPrefixOf dr) with hp | hp
             ·refine GO ((hasPrefix_rt (s.extract i s.size) (bS marksL[j])).bt (hpf.trans hp)) rfl ?_
              have hfj:=hfit 2 (j + 1) (by rw [hms,hp,decide_eq_true hlen]; simp)
              refine ⟨j + 1,id,⟨⟨rfl,rfl,rfl,rfl,?_,rfl,rfl,rfl,succ_gi (by omega),trivial⟩,⟨rfl,rfl,rfl,trivial⟩,rfl⟩,hjl,by show 15 - (j + 1) < 15 - j; omega⟩
              show some (gi (IntKind.i64.wrap ((i : Int) + (2 : Int))))=some (gi ((if markN 2 dr (j + 1)=true then i + 2 else i : Nat) : Int))
              rw [hms,hp,decide_eq_true hlen,if_pos (by simp),wrap_id (by omega) (by omega)]
              rfl
             ·refine GO ((hasPrefix_rt (s.extract i s.size) (bS marksL[j])).bt (hpf.trans hp)) rfl ?_
              refine ⟨j + 1,id,⟨⟨rfl,rfl,rfl,rfl,?_,rfl,rfl,rfl,succ_gi (by omega),trivial⟩,⟨rfl,rfl,rfl,trivial⟩,rfl⟩,hjl,by show 15 - (j + 1) < 15 - j; omega⟩
              show some (gi ((if markN 2 dr j=true then i + 2 else i : Nat) : Int))=some (gi ((if markN 2 dr (j + 1)=true then i + 2 else i : Nat) : Int))
              rw [hms,hp,Bool.and_false,Bool.or_false]
            ·refine p2 ?_ (by simp [hsz]; omega)
             refine ⟨j + 1,id,⟨⟨rfl,rfl,rfl,rfl,?_,rfl,rfl,rfl,succ_gi (by omega),trivial⟩,⟨rfl,rfl,rfl,trivial⟩,rfl⟩,hjl,by show 15 - (j + 1) < 15 - j; omega⟩
             show some (gi ((if markN 2 dr j=true then i + 2 else i : Nat) : Int))=some (gi ((if markN 2 dr (j + 1)=true then i + 2 else i : Nat) : Int))
             rw [hms,decide_eq_false hlen,Bool.false_and,Bool.or_false]
           ·refine p2 ?_ (decide_eq_false (by omega))
            obtain rfl : j=15:=by omega
            exact ⟨(),id,⟨⟨rfl,rfl,rfl,rfl,rfl,rfl,rfl,trivial⟩,⟨rfl,rfl,rfl,trivial⟩,rfl⟩,trivial⟩
          rintro _ _
          refine V ?_
          exact ⟨1,id,⟨⟨rfl,rfl,rfl,rfl,rfl,rfl,rfl,trivial⟩,⟨rfl,rfl,rfl,trivial⟩,rfl⟩,⟨by decide,fun h=>absurd h (by decide)⟩,by decide⟩
         ·rcases tf (markN 2 dr 15) with h2 | h2
          ·refine V ?_
           refine p1 ?_ rfl
           refine p2 ?_ (by simp [h2]; omega)
           refine ⟨(),id,⟨⟨rfl,rfl,rfl,rfl,?_,rfl,trivial⟩,⟨rfl,rfl,rfl,trivial⟩,rfl⟩,trivial⟩
           show some (gi ((if markN 2 dr 15=true then i + 2 else i : Nat) : Int))=some (gi ((i + if markN 2 dr 15=true then 2 else if markN 1 dr 15=true then 1 else 0 : Nat) : Int))
           rw [if_pos h2,if_pos h2]
          ·refine V ?_
           refine p1 ?_ rfl
           refine p1 ?_ (by simp [h2])
           refine JK.loopE (α:=Nat) (β:=Unit) (fun j=>⟨[(0,gs s),(3,.p 0 0),(4,.o 1),(5,gi i),(7,gi ((if markN 1 dr j=true then i + 1 else i : Nat))),(8,.p 2 0),(9,gi (1)),(32,.agg (marksL.map fun m=>gs (bS m))),(33,gi j)],[(0,.blk 55 [gi 0,gi 0]),(1,.row 105 3 (acc.map tokR)),(2,.blk 105 [gi 4,gs ⟨#[]⟩,gi i])],3⟩) (fun j=>j≤15) (fun j=>15 - j)
            (fun _=>⟨[(0,gs s),(3,.p 0 0),(4,.o 1),(5,gi i),(7,gi ((if markN 1 dr 15=true then i + 1 else i : Nat))),(8,.p 2 0),(9,gi (1))],[(0,.blk 55 [gi 0,gi 0]),(1,.row 105 3 (acc.map tokR)),(2,.blk 105 [gi 4,gs ⟨#[]⟩,gi i])],3⟩) (fun _=>True) 0 id ?_ (Nat.zero_le _) ?_ ?_
           ·exact ⟨⟨rfl,rfl,rfl,rfl,by rw [if_neg (by rw [h2]; exact Bool.false_ne_true)]; rfl,rfl,rfl,rfl,rfl,trivial⟩,⟨rfl,rfl,rfl,trivial⟩,rfl⟩
           ·rintro j hj
            replace hj : j≤15:=hj
            refine V ?_
            by_cases hjl : j < 15
            ·refine p1 ?_ (decide_eq_true (by omega))
             have hjL : j < marksL.length:=hjl
             have hms:=markN_step (n:=1) (l:=dr) hjL
             refine ⟨gs (bS marksL[j]),by omega,by omega,by simp [hjL],?_⟩
             have hsz : (bS marksL[j]).size=marksL[j].length:=bS_size _
             by_cases hlen : marksL[j].length=1
             ·refine p1 ?_ (by simp [hsz,hlen])
              refine ⟨by omega,by omega,by omega,?_⟩
              have hpf : prefF (s.extract i s.size) (bS marksL[j])=marksL[j].isPrefixOf dr:=by rw [prefF_is,hdre]
              rcases tf (marksL[j].isPrefixOf dr) with hp | hp
              ·refine GO ((hasPrefix_rt (s.extract i s.size) (bS marksL[j])).bt (hpf.trans hp)) rfl ?_
               have hfj:=hfit 1 (j + 1) (by rw [hms,hp,decide_eq_true hlen]; simp)
               refine ⟨j + 1,id,⟨⟨rfl,rfl,rfl,rfl,?_,rfl,rfl,rfl,succ_gi (by omega),trivial⟩,⟨rfl,rfl,rfl,trivial⟩,rfl⟩,hjl,by show 15 - (j + 1) < 15 - j; omega⟩
               show some (gi (IntKind.i64.wrap ((i : Int) + (1 : Int))))=some (gi ((if markN 1 dr (j + 1)=true then i + 1 else i : Nat) : Int))
               rw [hms,hp,decide_eq_true hlen,if_pos (by simp),wrap_id (by omega) (by omega)]
               rfl
              ·refine GO ((hasPrefix_rt (s.extract i s.size) (bS marksL[j])).bt (hpf.trans hp)) rfl ?_
               refine ⟨j + 1,id,⟨⟨rfl,rfl,rfl,rfl,?_,rfl,rfl,rfl,succ_gi (by omega),trivial⟩,⟨rfl,rfl,rfl,trivial⟩,rfl⟩,hjl,by show 15 - (j + 1) < 15 - j; omega⟩
               show some (gi ((if markN 1 dr j=true then i + 1 else i : Nat) : Int))=some (gi ((if markN 1 dr (j + 1)=true then i + 1 else i : Nat) : Int))
               rw [hms,hp,Bool.and_false,Bool.or_false]
             ·refine p2 ?_ (by simp [hsz]; omega)
              refine ⟨j + 1,id,⟨⟨rfl,rfl,rfl,rfl,?_,rfl,rfl,rfl,succ_gi (by omega),trivial⟩,⟨rfl,rfl,rfl,trivial⟩,rfl⟩,hjl,by show 15 - (j + 1) < 15 - j; omega⟩
              show some (gi ((if markN 1 dr j=true then i + 1 else i : Nat) : Int))=some (gi ((if markN 1 dr (j + 1)=true then i + 1 else i : Nat) : Int))
              rw [hms,decide_eq_false hlen,Bool.false_and,Bool.or_false]
            ·refine p2 ?_ (decide_eq_false (by omega))
             obtain rfl : j=15:=by omega
             exact ⟨(),id,⟨⟨rfl,rfl,rfl,rfl,rfl,rfl,rfl,trivial⟩,⟨rfl,rfl,rfl,trivial⟩,rfl⟩,trivial⟩
           rintro _ _
           refine V ?_
           exact ⟨2,id,⟨⟨rfl,rfl,rfl,rfl,rfl,rfl,rfl,trivial⟩,⟨rfl,rfl,rfl,trivial⟩,rfl⟩,⟨by decide,fun _=>h2⟩,by decide⟩
         ·have h2:=hm2 rfl
          refine V ?_
          refine p2 ?_ rfl
          refine ⟨(),id,⟨⟨rfl,rfl,rfl,rfl,?_,rfl,trivial⟩,⟨rfl,rfl,rfl,trivial⟩,rfl⟩,trivial⟩
          show some (gi ((if markN 1 dr 15=true then i + 1 else i : Nat) : Int))=some (gi ((i + if markN 2 dr 15=true then 2 else if markN 1 dr 15=true then 1 else 0 : Nat) : Int))
          simp only [h2,Bool.false_eq_true,if_false]
          split <;> rfl
        rintro _ _
        refine V ?_
        rw [← hdr] at hlx ⊢
        exact ⟨_,id,⟨⟨rfl,rfl,rfl,rfl,rfl,rfl,trivial⟩,⟨rfl,rfl,rfl,trivial⟩,rfl⟩,⟨c32,hlx⟩⟩
   rintro ⟨n,kd⟩ ⟨c32,hlx⟩
   replace hlx : lexF ((bL s).drop i)=(n,kd):=hlx
   have hst:=step c32
   rw [hlx] at hst
   simp only at hst
   have hle:=lexF_le ((bL s).drop i)
   rw [hlx,List.length_drop,bL_len] at hle
   replace hle : n≤s.size - i:=hle
   have hwr : IntKind.i64.wrap (((i + n : Nat) : Int) - (i : Int))=(n : Int):=by rw [wrap_id (by omega) (by omega)]; omega
   show JK _ _ _ (⟨[(0,gs s),(3,.p 0 0),(4,.o 1),(5,gi i),(7,gi (i + n : Nat)),(8,.p 2 0)],[(0,.blk 55 [gi 0,gi 0]),(1,.row 105 3 (acc.map tokR)),(2,.blk 105 [gi kd,gs ⟨#[]⟩,gi i])],3⟩ : St)
   refine V ?_
   by_cases hn : n=0
   ·rw [if_pos hn] at hst
    rw [hst] at hO
    replace hO : (.error (3,(i : Int)) : Except (Int × Int) (List Tok))=R:=hO
    subst hO
    refine p1 ?_ (by simp [hn])
    exact ⟨⟨rfl,rfl,trivial⟩,rfl⟩
   ·rw [if_neg hn] at hst
    refine p2 ?_ (by simp; omega)
    by_cases hlim : (kd=2∧18 < n)∨120≤acc.length
    ·rw [if_pos hlim] at hst
     rw [hst] at hO
     replace hO : (.error (4,(i : Int)) : Except (Int × Int) (List Tok))=R:=hO
     subst hO
     by_cases hk : kd=2
     ·refine p1 ?_ (by simp [hk])
      by_cases h18 : 18 < n
      ·refine p3 ?_ (decide_eq_true (by rw [hwr]; omega))
       exact ⟨⟨rfl,rfl,trivial⟩,rfl⟩
      ·have c120 : (((acc.map tokR).length : Int) == 120)=true:=by simp; omega
       refine p4 ?_ (decide_eq_false (by rw [hwr]; omega))
       refine p1 ?_ c120
       exact ⟨⟨rfl,rfl,trivial⟩,rfl⟩
     ·refine p2 ?_ (by simp [hk])
      have c120 : (((acc.map tokR).length : Int) == 120)=true:=by simp; omega
      refine p1 ?_ c120
      exact ⟨⟨rfl,rfl,trivial⟩,rfl⟩
    ·rw [if_neg hlim] at hst
     have c120 : (((acc.map tokR).length : Int) == 120)=false:=by simp; omega
     have hex : (⟨(((bL s).drop i).take n).toArray⟩ : ByteArray)=s.extract i (i + n):=by
      apply ByteArray.ext
      rw [ByteArray.data_extract]
      apply Array.ext'
      rw [Array.toList_extract]
      simp [List.extract,bL]
     have fin : (match tokF (bL s) f (i + n) (acc++[(⟨kd,s.extract i (i + n),i⟩ : Tok)]).length with | .ok l=>.ok ((acc++[⟨kd,s.extract i (i + n),i⟩])++l) | .error e=>(.error e : Except (Int × Int) (List Tok)))=R:=by
      rw [hst,hex] at hO
      rw [List.length_append,List.length_singleton]
      cases hT : tokF (bL s) f (i + n) (acc.length + 1) with
      | error e=>rw [hT] at hO; exact hO
      | ok l=>rw [hT] at hO; rw [← hO]; simp
     by_cases hk : kd=2
     ·refine p1 ?_ (by simp [hk])
      refine p4 ?_ (decide_eq_false (by rw [hwr]; omega))
      refine p2 ?_ c120
      refine ⟨by omega,by omega,by omega,?_⟩
      refine ⟨by simp; omega,?_⟩
      refine ⟨(acc++[⟨kd,s.extract i (i + n),i⟩],i + n,f),fun z=>bif Nat.beq z 1 then 4 else z,⟨⟨rfl,rfl,rfl,rfl,trivial⟩,⟨rfl,?_,trivial⟩,rfl⟩,⟨?_,by show i + n≤s.size; omega,by show s.size - (i + n) < f; omega,by simp; omega⟩,by show s.size - (i + n) < s.size - i; omega⟩
      ·exact congrArg (fun x=>some (Res.row 105 3 x)) (List.map_append (l₁:=acc) (l₂:=[⟨kd,s.extract i (i + n),i⟩]) (f:=tokR)).symm
      ·exact fin
     ·refine p2 ?_ (by simp [hk])
      refine p2 ?_ c120
      refine ⟨by omega,by omega,by omega,?_⟩
      refine ⟨by simp; omega,?_⟩
      refine ⟨(acc++[⟨kd,s.extract i (i + n),i⟩],i + n,f),fun z=>bif Nat.beq z 1 then 4 else z,⟨⟨rfl,rfl,rfl,rfl,trivial⟩,⟨rfl,?_,trivial⟩,rfl⟩,⟨?_,by show i + n≤s.size; omega,by show s.size - (i + n) < f; omega,by simp; omega⟩,by show s.size - (i + n) < s.size - i; omega⟩
      ·exact congrArg (fun x=>some (Res.row 105 3 x)) (List.map_append (l₁:=acc) (l₂:=[⟨kd,s.extract i (i + n),i⟩]) (f:=tokR)).symm
      ·exact fin
  ·obtain rfl : i=s.size:=by omega
   refine V ?_
   refine p2 ?_ (decide_eq_false (by show ¬ (s.size : Int) < (s.size : Int); omega))
   rw [tok_end] at hO
   exact ⟨(acc,0),id,⟨⟨rfl,rfl,rfl,trivial⟩,⟨rfl,rfl,trivial⟩,rfl⟩,⟨hO.symm,ho⟩⟩
 ·rintro ⟨acc,z⟩ ⟨hO,ho⟩
  replace hO : R=.ok (acc++[⟨5,⟨#[]⟩,s.size⟩]):=hO
  replace ho : acc.length≤120:=ho
  rw [hO]
  refine V ?_
  show JK _ _ _ _
  refine DRAW [0,1] true (tk [0,1,2,6]++al [3,4,5]++tk [7]++al [8]) (by kernel_rfl) ?_
  refine ⟨by simp; omega,?_⟩
  show JK _ _ _ _
  refine FRZ 3 rfl ?_
  refine ⟨⟨?_,rfl,trivial⟩,rfl⟩
  exact congrArg (GV.sl 3) (List.map_append (l₁:=acc) (l₂:=[⟨5,⟨#[]⟩,s.size⟩]) (f:=tokR)).symm
end Go.Proofs.YtkoalgjlkcaonaaGreatDoor
/-
  Contracts: what is thrown is caught.
-/
namespace Go.Proofs.YtkoalgjlkcaonaaGreatDoor
open Go.GK Go.RowKit Go.PL
set_option maxRecDepth 100000
theorem isWrong (u : Value) (w : World) : (Instr.typeAssert (.iface 132 u) 20 132 true).run Tryz.prog w=.ok (.tuple #[u,.bool true]) w:=by kernel_rfl
theorem caught_idle (p : Addr) (w : World) : CallsD Tryz.prog 71 #[.pointer (some p)] .returning w fun e u' w'=>e=.returned (.tuple #[])∧u'=.returning∧w'=w:=by
 refine callsD_of_wpS Tryz.func71 rfl fun c₀ cs hu=>?_
 apply wpS_seq
 apply wpS_region
 simp [wpOpsS,go_sem,recoverD,hu,Tryz.ntmps71,Exit.thenS]
 refine wpS_of_wp ?_
 simp only [Array.replicate]
 go_wp2
 cases c₀
 simp_all [bodyPostS,results,Tryz.results71]
theorem caught_panics (p : Addr) (x : Value) (t : TypeId) (q : Value) (w : World) (hc : w.cell? p=some x) (hz : w.frozen? p=false) : CallsD Tryz.prog 71 #[.pointer (some p)] (.panicking [{ v:=.iface 132 (.agg #[(.iface t q)]),recovered:=false }]) w fun e u' w'=>e=.returned (.tuple #[])∧u'=.panicking [{ v:=.iface 132 (.agg #[(.iface t q)]),recovered:=true }]∧w'=(w.alloc (.cells #[(.iface t q)] 132)).setCell p (.iface t q):=by
 refine callsD_of_wpS Tryz.func71 rfl fun c₀ cs hu=>?_
 apply wpS_seq
 apply wpS_region
 simp [wpOpsS,go_sem,recoverD,hu,Tryz.ntmps71,Exit.thenS]
 refine wpS_of_wp ?_
 simp only [Array.replicate]
 go_wp2
 rw [isWrong]
 rename_i K1 a1 K a
 refine a _ _ ?_
 have hlt : p.block < w.heap.size:=World.block_lt_of_cell? w _ hc
 have hh : (w.alloc (.cells #[.iface t q] 132)).heap[p.block]?=w.heap[p.block]?:=((Below.refl w.heap.size w).alloc (Nat.le_refl _) _).block _ hlt
 have hc2 : (w.alloc (.cells #[.iface t q] 132)).cell? p=some x:=by
  unfold World.cell? at hc ⊢
  rw [hh]
  exact hc
 have hz2 : (w.alloc (.cells #[.iface t q] 132)).frozen? p=false:=by
  unfold World.frozen? at hz ⊢
  rw [hh]
  exact hz
 go_wp2
 cases c₀
 simp_all [bodyPostS,results,Tryz.results71]
theorem back {H H' : Hid} {σ σ' : Heap} {w w' w'' : World} {o : Obj} (hs : Sat H σ w) (hs' : Sat H' σ' w') (hfr : Fr H (blks H σ) (w.alloc o) H' (blks H' σ') w') (hos : w''.os=w'.os) (ht : w''.tape=w'.tape) (ho : w''.output=w'.output) (hz : w'.heap.size≤w''.heap.size) (hk : ∀ b,b < w'.heap.size→b ≠ w.heap.size→w''.heap[b]?=w'.heap[b]?) : Sat H' σ' w''∧Fr H (blks H σ) w H' (blks H' σ') w'':=by
 have hold : ∀ b,b < w.heap.size→(w.alloc o).heap[b]?=w.heap[b]?:=fun b hb=>((Below.refl w.heap.size w).alloc (Nat.le_refl _) _).block b hb
 have hsize : (w.alloc o).heap.size=w.heap.size + 1:=by simp
 have hnb : w.heap.size ∉ blks H σ:=fun h=>absurd (hs.lt _ h) (Nat.lt_irrefl _)
 have hro : H'.ro w.heap.size=none:=by
  cases h : H'.ro w.heap.size with
  | none=>rfl
  | some x =>
   rcases hfr.fro w.heap.size (hs.none_size _ (Nat.le_refl _)) (by rw [h]; simp) with h1 | h1
   ·exact absurd h1 hnb
   ·omega
 have hbl : w.heap.size ∉ blks H' σ':=fun h=>by
  rcases hfr.own _ h with h1 | h1
  ·exact hnb h1
  ·omega
 have hsz:=hfr.size
 refine ⟨⟨fun b x hb=>?_,fun x hx=>?_,hs'.nodup,hs'.free,hs'.ids⟩,⟨hos.trans hfr.os,ht.trans hfr.tape,ho.trans hfr.output,by omega,fun b h1 h2=>?_,fun b hb=>?_,fun b h1 h2=>?_,hfr.le⟩⟩
 ·have h1:=hs'.ro b x hb
  rw [hk b (Array.getElem?_eq_some_iff.1 h1).1 (fun e=>by rw [e,hro] at hb; cases hb)]
  exact h1
 ·refine holds_congr (fun b hb=>?_) (hs'.holds x hx)
  have hm : b ∈ blks H' σ':=List.mem_flatMap.2 ⟨x,hx,hb⟩
  exact hk b (hs'.lt b hm) (fun e=>hbl (e ▸ hm))
 ·rw [hk b (by omega) (by omega),hfr.keep b (by omega) h2,hold b h1]
 ·rcases hfr.own b hb with h | h
  ·exact .inl h
  ·exact .inr (by omega)
 ·rcases hfr.fro b h1 h2 with h | h
  ·exact .inl h
  ·exact .inr (by omega)
theorem caught_hf (g : FuncId) (caps : List GV) (n0 : Nat) (σ : Heap) (Q : GV→Heap→Nat→Prop) (R : GV→Prop) (hx : Hx pg g n0 caps σ Q R) (hR : ∀ x,R x→∃ e p,x=wrongG e p) :
  Hf pg 35 n0 [.fn (.func g) [] caps] σ (fun r σ' n'=>(∃ x,Q x σ' n'∧r=.v .nilIface)∨(∃ e p,R (wrongG e p)∧r=.ifc 129 (.r [gi e,gi p])∧σ'=[])):=by
 refine ⟨Tryz.call35,fun H us w hn hg hcs hs=>?_⟩
 obtain ⟨u,rfl,hu⟩ : ∃ u,us=#[u]∧Is H (.fn (.func g) [] caps) u:=by
  obtain ⟨h1,h2⟩:=hcs
  have:=h2 0 _ rfl
  refine ⟨us.getD 0 undef,?_,this⟩
  simp at h1
  apply Array.ext
  ·simp [← h1]
  ·intro i hi1 hi2
   have : i=0:=by simp at hi2; omega
   subst this
   simp [Array.getD,hi1]
 obtain ⟨us0,vs,rfl,hl0,_,hl1,hi1⟩:=hu.inv_fn
 obtain rfl : us0=#[]:=Array.eq_empty_of_size_eq_zero hl0.symm
 have hvs : Cells H caps vs:=⟨hl1,hi1⟩
 have hcall : ∀ aas w,(callFunc g aas).run Tryz.prog w=.ok (.enter g aas) w:=hx.call
 show Calls Tryz.prog _ _ _ _
 go_enter_defers Tryz.func35,Tryz.ntmps35
 go_wp2
 have hnew:=heap_alloc_new w (.cells #[Value.nilIface] 42)
 have hold : ∀ b,b < w.heap.size→(w.alloc (.cells #[Value.nilIface] 42)).heap[b]?=w.heap[b]?:=fun b hb=>((Below.refl w.heap.size w).alloc (Nat.le_refl _) _).block b hb
 have hsize : (w.alloc (.cells #[Value.nilIface] 42)).heap.size=w.heap.size + 1:=by simp
 have hnb : w.heap.size ∉ blks H σ:=fun h=>absurd (hs.lt _ h) (Nat.lt_irrefl _)
 have hs1 : Sat H σ (w.alloc (.cells #[Value.nilIface] 42)):=hs.below ((Below.refl w.heap.size w).alloc (Nat.le_refl _) _)
 refine (hx.ct H vs _ hn hg hvs hs1).mono ?_
 rintro e w' (⟨u,x,H',σ',rfl,hi,hs',hfr,hq⟩ | ⟨v,x,H',rfl,hi,hs',hfr,hr,hb⟩)
 ·rename_i K1 a1 K a
  have hb0 : w'.heap[w.heap.size]?=some (.cells #[Value.nilIface] 42):=by
   rw [hfr.keep w.heap.size (by rw [hsize]; omega) hnb]
   exact hnew
  have hc : w'.cell? ⟨w.heap.size,0,none⟩=some .nilIface:=by simp [World.cell?,hb0]
  have hz : w'.frozen? ⟨w.heap.size,0,none⟩=false:=by simp [World.frozen?,hb0]
  refine a _ _ ?_
  go_wp2
  refine leaves_cons (f:=71) (args:=#[.pointer (some ⟨w.heap.size,0,none⟩)]) (by simp) (by simp [go_sem]) ?_
  refine (caught_idle _ _).mono ?_
  rintro e u' w'' ⟨rfl,rfl,rfl⟩
  show ∃ v,_∧_
  refine ⟨.nilIface,by simp [results,Tryz.results35,go_sem,hc],?_⟩
  obtain ⟨h1,h2⟩:=back (w'':=w'.setCell ⟨w.heap.size,0,none⟩ .nilIface) hs hs' hfr rfl rfl rfl (by simp) (fun b _ hb=>Below.heap_setCell _ _ _ _ hb)
  exact ⟨.nilIface,.v .nilIface,H',σ',rfl,.ro (.v _),h1,h2,.inl ⟨x,hq,rfl⟩⟩
 ·obtain ⟨e,p,rfl⟩:=hR x hr
  have hb0 : w'.heap[w.heap.size]?=some (.cells #[Value.nilIface] 42):=by
   rw [hfr.keep w.heap.size (by rw [hsize]; omega) hnb]
   exact hnew
  have hc : w'.cell? ⟨w.heap.size,0,none⟩=some .nilIface:=by simp [World.cell?,hb0]
  have hz : w'.frozen? ⟨w.heap.size,0,none⟩=false:=by simp [World.frozen?,hb0]
  obtain ⟨q,rfl,hq⟩ : ∃ q,v=.iface 132 (.agg #[.iface 129 q])∧Is H' (.r [gi e,gi p]) q:=by
   obtain ⟨u1,rfl,h1⟩:=hi.inv_ifc
   obtain ⟨us1,rfl,h2,h3⟩:=h1.inv_agg
   obtain ⟨q,hq1,hq2⟩:=(h3 0 _ rfl).inv_ifc
   refine ⟨q,?_,hq2⟩
   have : us1=#[.iface 129 q]:=by
    apply Array.ext
    ·simpa using h2.symm
    ·intro i hi1 hi2
     have : i=0:=by simp at hi2; omega
     subst this
     rw [Array.getD,dif_pos hi1] at hq1
     simpa using hq1
   rw [this]
  show Leaves _ _ _ _ _ _ _
  refine leaves_cons (f:=71) (args:=#[.pointer (some ⟨w.heap.size,0,none⟩)]) (by simp) (by simp [go_sem]) ?_
  refine (caught_panics _ _ _ _ _ hc hz).mono ?_
  rintro e' u' w'' ⟨rfl,rfl,rfl⟩
  show ∃ v,_∧_
  refine ⟨.iface 129 q,?_,?_⟩
  ·have hlt : w.heap.size < w'.heap.size:=World.block_lt_of_cell? w' _ hc
   have hh : (w'.alloc (.cells #[.iface 129 q] 132)).heap[w.heap.size]?=w'.heap[w.heap.size]?:=((Below.refl w'.heap.size w').alloc (Nat.le_refl _) _).block _ hlt
   have hc2 : (w'.alloc (.cells #[.iface 129 q] 132)).cell? ⟨w.heap.size,0,none⟩=some .nilIface:=by
    unfold World.cell? at hc ⊢
    rw [hh]
    exact hc
   simp [results,Tryz.results35,go_sem,hc2]
  obtain ⟨h1,h2⟩:=back (w'':=(w'.alloc (.cells #[.iface 129 q] 132)).setCell ⟨w.heap.size,0,none⟩ (.iface 129 q)) hs hs' hfr rfl rfl rfl (by simp) (fun b hb1 hb2=>(Below.heap_setCell _ _ _ _ hb2).trans (((Below.refl w'.heap.size w').alloc (Nat.le_refl _) _).block b hb1))
  exact ⟨_,.ifc 129 (.r [gi e,gi p]),H',[],rfl,.ifc hq,h1,h2,.inr ⟨e,p,hr,rfl,rfl⟩⟩
end Go.Proofs.YtkoalgjlkcaonaaGreatDoor
/-
  Contracts: questions: a text's tokens.
-/
namespace Go.Proofs.YtkoalgjlkcaonaaGreatDoor
open Go.GK Go.RowKit Go.PL
set_option maxRecDepth 100000
theorem trimLeft_rt (s t : ByteArray) (ht : t.size≤1000) (ha : t.data.toList.all (fun b=>decide (b.toNat < 128))=true) : Rt pg 109 [gs s,gs t] (gs (bS (Lib.trimLeftS s.data.toList t.data.toList))) :=
 Rt.calls Tryz.call109 [.string s,.string t] _ fun w=>(Any.strings_TrimLeft_laid Tryz.lays161 (by kernel_rfl) s t w (by omega) (fun _ b hb=>of_decide_eq_true (List.all_eq_true.1 ha b (List.mem_of_getElem? hb)))).mono fun e w' ⟨he,hw⟩=>⟨he,hw⟩
theorem run_rt (s t : ByteArray) (hs : s.size≤1000000) (ht : t.size≤1000) (ha : t.data.toList.all (fun b=>decide (b.toNat < 128))=true) : Rt pg 69 [gs s,gs t] (gi ((s.data.toList.takeWhile (t.data.toList.contains ·)).length : Nat)):=by
 refine Rt.of pg_ok Tryz.func69 rfl Tryz.ntmps69 rfl Tryz.results69 Tryz.call69 fun H0 S0 w0 h0 g0=>?_
 refine GO (trimLeft_rt s t ht ha) rfl ?_
 refine ⟨?_,rfl⟩
 have h:=tw_dw (p:=(t.data.toList.contains ·)) s.data.toList
 have e1 : (bS (Lib.trimLeftS s.data.toList t.data.toList)).size=(s.data.toList.dropWhile (t.data.toList.contains ·)).length:=by
  show (Lib.trimLeftS s.data.toList t.data.toList).toArray.size=_
  simp [Lib.trimLeftS]
 have e2 : s.size=s.data.toList.length:=by simp
 show gi (IntKind.i64.wrap ((s.size : Int) - ((bS (Lib.trimLeftS s.data.toList t.data.toList)).size : Int)))=gi _
 rw [e1,wrap_id (by omega) (by omega)]
 have : (s.size : Int) - ((s.data.toList.dropWhile (t.data.toList.contains ·)).length : Int)=((s.data.toList.takeWhile (t.data.toList.contains ·)).length : Nat):=by omega
 rw [this]
def splitG : Except (Int × Int) (List Tok)→GV
 | .ok l=>.tup [tks l,.v .nilIface]
 | .error (e,p)=>.tup [.v (.slice none 0 0),.ifc 129 (.r [gi e,gi p])]
theorem split_rt (s : ByteArray) (hs : s.size≤100000) : Rt pg 34 [gs s] (splitG (tokF s.data.toList (s.size + 1) 0 0)):=by
 have hsz : s.data.toList.length=s.size:=by simp
 generalize hR : tokF s.data.toList (s.size + 1) 0 0=R
 refine Rt.ofJ pg_ok Tryz.func34 rfl Tryz.ntmps34 rfl Tryz.results34 Tryz.call34 fun H0 S0 w0 h0 g0=>?_
 refine V ?_
 show JK _ _ _ _
 refine JK.ownNil 4 90 3 rfl ?_
 refine JK.loop (α:=List Tok × Nat × Nat) (fun x=>⟨[(0,gs s),(4,.o 0),(5,gi x.2.1)],[(0,.row 90 3 (x.1.map tokR))],1⟩) (fun x=>(match tokF s.data.toList x.2.2 x.2.1 x.1.length with | .ok l=>.ok (x.1++l) | .error e=>.error e)=R∧x.2.1≤s.size∧s.size - x.2.1 < x.2.2∧x.1.length≤120) (fun x=>s.size - x.2.1) ([],0,s.size + 1) id ?_ ?_ ?_
 ·exact ⟨⟨rfl,rfl,rfl,trivial⟩,⟨rfl,trivial⟩,rfl⟩
 ·refine ⟨?_,Nat.zero_le _,by simp,by simp⟩
  show (match tokF s.data.toList (s.size + 1) 0 0 with | .ok l=>Except.ok ([]++l) | .error e=>.error e)=R
  rw [hR]
  cases R <;> rfl
 rintro ⟨out,i,f⟩ ⟨hO,hi,hf,ho⟩
 replace hO : (match tokF s.data.toList f i out.length with | .ok l=>.ok (out++l) | .error e=>.error e)=R:=hO
 replace hi : i≤s.size:=hi
 replace hf : s.size - i < f:=hf
 replace ho : out.length≤120:=ho
 obtain ⟨f,rfl⟩ : ∃ k,f=k + 1:=⟨f - 1,by omega⟩
 have hdr : (s.extract i s.size).data.toList=s.data.toList.drop i:=by
  rw [ByteArray.data_extract,Array.toList_extract]
  simp [List.extract,List.take_of_length_le]
 have hk : ((s.data.toList.drop i).takeWhile (· == 32)).length≤s.size - i:=by
  have:=(List.takeWhile_sublist (l:=s.data.toList.drop i) (· == 32)).length_le
  rw [List.length_drop,hsz] at this
  exact this
 refine VM 7 ?_
 refine ⟨show (0 : Int)≤(i : Int) by omega,show (i : Int)≤(s.size : Int) by omega,Int.le_refl _,?_⟩
 have hrun : Rt pg 69 [gs (s.extract i s.size),gs (bS [32])] (gi (((s.data.toList.drop i).takeWhile (· == 32)).length : Nat)):=by
  have h:=run_rt (s.extract i s.size) (bS [32]) (by rw [ByteArray.size_extract]; omega) (by decide) (by decide)
  rw [hdr,tw_congr (q:=(· == 32)) (fun b=>by
   show ([32] : List UInt8).contains b=_
   rw [Bool.eq_iff_iff]
   simp)] at h
  exact h
 generalize hkk : ((s.data.toList.drop i).takeWhile (· == 32)).length=k at hk hrun
 refine GOJ hrun.hf (fun _=>0) rfl rfl trivial rfl (fun _ h=>absurd h (Nat.not_lt_zero _)) ?_
 rintro g σ' n' ⟨rfl,rfl,rfl⟩
 refine VM 2 ?_
 have hw : gi ((i + k : Nat) : Int)=gi (IntKind.i64.wrap ((i : Int) + (k : Int))):=by rw [wrap_id (by omega) (by omega)]; rfl
 show JK _ _ _ _
 refine JK.sub 5 (gi ((i + k : Nat) : Int)) rfl (Sub.eq hw) ?_
 rw [tokF] at hO
 simp only [hkk,hsz] at hO
 by_cases he : s.size≤i + k
 ·rw [if_pos he] at hO
  subst hO
  refine VM 20 ?_
  refine p1 ?_ (by simp; omega)
  refine ⟨by simp; omega,?_⟩
  show JK _ _ _ _
  refine FRZ 2 rfl ?_
  exact ⟨⟨congrArg (GV.sl 3) (List.map_append (l₁:=out) (l₂:=[⟨5,⟨#[]⟩,((i + k : Nat) : Int)⟩]) (f:=tokR)).symm,rfl,trivial⟩,rfl⟩
 ·rw [if_neg he] at hO
  refine VM 33 ?_
  refine p2 ?_ (by simp; omega)
  refine ⟨show (0 : Int)≤((i + k : Nat) : Int) by omega,show ((i + k : Nat) : Int)≤(s.size : Int) by omega,Int.le_refl _,?_⟩
  have hlt : i + k < s.size:=by omega
  have hsx : (s.extract (i + k) s.size).size=s.size - (i + k):=by rw [ByteArray.size_extract]; omega
  obtain ⟨c,r,hcr⟩ : ∃ c r,s.data.toList.drop (i + k)=c :: r:=by
   cases h : s.data.toList.drop (i + k) with
   | nil=>have:=congrArg List.length h; rw [List.length_drop,hsz] at this; simp at this; omega
   | cons c r=>exact ⟨c,r,rfl⟩
  have hdr2 : (s.extract (i + k) s.size).data.toList=c :: r:=by
   rw [← hcr,ByteArray.data_extract,Array.toList_extract]
   simp [List.extract,List.take_of_length_le]
  have hc0 : (s.extract (i + k) s.size)[0]?=some c:=byte0 hdr2
  refine ⟨c,by decide,hc0,?_⟩
  show JK _ _ _ _
  generalize hL : s.extract (i + k) s.size=left at hsx hdr2 hc0
  refine JK.cut (α:=Unit) (fun _=>⟨[(0,gs s),(4,.o 0),(5,gi ((i + k : Nat) : Int)),(6,gs left),(7,.p 1 0),(8,gi ((lexF (c :: r)).1 : Nat))],[(0,.row 90 3 (out.map tokR)),(1,.blk 90 [gi (lexF (c :: r)).2,gs ⟨#[]⟩,gi ((i + k : Nat) : Int)])],2⟩) (fun _=>True) ?_ ?_
  ·subst hL
   refine V ?_
   refine GO (indexByte_rt ⟨lettL.toArray⟩ c) rfl ?_
   have e : decide (0≤Lib.indexByte lettL c)=letB c:=lett_iff _
   cases hl : letB c with
   | true =>
    rw [hl] at e
    refine p1 ?_ e
    have hx : lexF (c :: r)=(((c :: r).takeWhile fun b=>letB b || digB b).length,1):=by simp only [lexF,hl,if_true]
    have h:=run_rt (s.extract (i + k) s.size) ⟨(lettL++digL).toArray⟩ (by omega) (by decide) (by decide)
    rw [hdr2,tw_congr (q:=fun b=>letB b || digB b) (fun b=>word_iff b)] at h
    rw [hx]
    refine GO h rfl ?_
    exact ⟨(),id,⟨⟨rfl,rfl,rfl,rfl,rfl,rfl,trivial⟩,⟨rfl,rfl,trivial⟩,rfl⟩,trivial⟩
   | false =>
    rw [hl] at e
    refine p2 ?_ e
    refine GO (indexByte_rt ⟨digL.toArray⟩ c) rfl ?_
    have e : decide (0≤Lib.indexByte digL c)=digB c:=dig_iff _
    cases hd : digB c with
    | true =>
     rw [hd] at e
     refine p1 ?_ e
     have hx : lexF (c :: r)=(((c :: r).takeWhile digB).length,2):=by simp only [lexF,hl,hd,if_true,Bool.false_eq_true,if_false]
     have h:=run_rt (s.extract (i + k) s.size) ⟨digL.toArray⟩ (by omega) (by decide) (by decide)
     rw [hdr2,tw_congr (q:=digB) (fun b=>digs_iff b)] at h
     rw [hx]
     refine GO h rfl ?_
     exact ⟨(),id,⟨⟨rfl,rfl,rfl,rfl,rfl,rfl,trivial⟩,⟨rfl,rfl,trivial⟩,rfl⟩,trivial⟩
    | false =>
     rw [hd] at e
     refine p2 ?_ e
     by_cases hq : c.toNat=34
     ·refine p1 ?_ (by simp; omega)
      refine ⟨by omega,by simp; omega,by omega,?_⟩
      have hx : lexF (c :: r)=(match r.findIdx? (· == 34) with | some j=>j + 2 | none=>0,3):=by
       unfold lexF
       simp only [hl,hd,Bool.false_eq_true,if_false]
       rw [if_pos hq]
       rfl
      have hdr3 : ((s.extract (i + k) s.size).extract 1 (s.extract (i + k) s.size).size).data.toList=r:=by
       rw [ByteArray.data_extract,Array.toList_extract,hdr2]
       have hlen:=congrArg List.length hdr2
       have : (s.extract (i + k) s.size).data.toList.length=(s.extract (i + k) s.size).size:=by simp
       rw [this] at hlen
       simp only [List.length_cons] at hlen
       rw [hlen]
       simp [List.extract]
      have h:=indexByte_rt ((s.extract (i + k) s.size).extract 1 (s.extract (i + k) s.size).size) 34
      rw [hdr3,find_byte] at h
      cases hfi : r.findIdx? (· == 34) with
      | none =>
       rw [hfi] at h hx
       rw [hx]
       refine GO h rfl ?_
       refine p1 ?_
       exact ⟨(),id,⟨⟨rfl,rfl,rfl,rfl,rfl,rfl,trivial⟩,⟨rfl,rfl,trivial⟩,rfl⟩,trivial⟩
      | some j =>
       rw [hfi] at h hx
       have hj : j < r.length:=(List.findIdx?_eq_some_iff_getElem.1 hfi).1
       have hrl : r.length < 100000:=by
        have:=congrArg List.length hcr
        rw [List.length_drop,hsz] at this
        simp at this
        omega
       have hw2 : IntKind.i64.wrap (2 + (j : Int))=((j + 2 : Nat) : Int):=by rw [wrap_id (by omega) (by omega)]; omega
       rw [hx]
       refine GO h rfl ?_
       refine p2 ?_ (decide_eq_false (by show ¬ IntKind.i64.wrap (2 + (j : Int))=1; rw [hw2]; omega))
       exact ⟨(),id,⟨⟨rfl,rfl,rfl,rfl,rfl,congrArg (fun x : Int=>some (gi x)) hw2,trivial⟩,⟨rfl,rfl,trivial⟩,rfl⟩,trivial⟩
     ·refine p2 ?_ (by simp; omega)
      show JK _ _ _ _
      obtain ⟨n,hn,hm1,hm2,_⟩:=first_ix marksL fun m=>m.isPrefixOf (c :: r)
      have hml : marksL.length=15:=rfl
      have hx : lexF (c :: r)=(match marksL[n]? with | some m=>m.length | none=>0,4):=by
       unfold lexF
       simp only [hl,hd,Bool.false_eq_true,if_false]
       rw [if_neg hq,← find_first (p:=fun m=>m.isPrefixOf (c :: r)) hn hm1 hm2]
       rfl
      have hpf : ∀ m : List UInt8,prefF (s.extract (i + k) s.size) (bS m)=m.isPrefixOf (c :: r):=fun m=>by rw [prefF_is,hdr2]
      refine JK.loopE (α:=Nat) (β:=Unit) (fun j=>⟨[(0,gs s),(4,.o 0),(5,gi ((i + k : Nat) : Int)),(6,gs (s.extract (i + k) s.size)),(7,.p 1 0),(8,gi 0),(35,.agg (marksL.map fun m=>gs (bS m))),(36,gi j)],[(0,.row 90 3 (out.map tokR)),(1,.blk 90 [gi 4,gs ⟨#[]⟩,gi ((i + k : Nat) : Int)])],2⟩) (fun j=>j≤n) (fun j=>n - j)
       (fun _=>⟨[(0,gs s),(4,.o 0),(5,gi ((i + k : Nat) : Int)),(6,gs (s.extract (i + k) s.size)),(7,.p 1 0),(8,gi ((lexF (c :: r)).1 : Nat))],[(0,.row 90 3 (out.map tokR)),(1,.blk 90 [gi (lexF (c :: r)).2,gs ⟨#[]⟩,gi ((i + k : Nat) : Int)])],2⟩) (fun _=>True) 0 id ?_ (Nat.zero_le _) ?_ ?_
      ·exact ⟨⟨rfl,rfl,rfl,rfl,rfl,rfl,rfl,rfl,trivial⟩,⟨rfl,rfl,trivial⟩,rfl⟩
      ·intro j hj
       replace hj : j≤n:=hj
       refine V ?_
       by_cases hlt : j < 15
       ·refine p1 ?_
        refine ⟨gs (bS (marksL[j]'(by rw [hml]; exact hlt))),by omega,by omega,?_,?_⟩
        ·show (marksL.map fun m=>gs (bS m))[((j : Nat) : Int).toNat]?=some _
         rw [Int.toNat_natCast,List.getElem?_map,List.getElem?_eq_getElem (by rw [hml]; exact hlt)]
         rfl
        have hp:=hasPrefix_rt (s.extract (i + k) s.size) (bS (marksL[j]'(by rw [hml]; exact hlt)))
        rw [hpf] at hp
        by_cases hjn : j < n
        ·refine GO (hp.bt (hm1 j (by rw [hml]; exact hlt) hjn)) rfl ?_
         exact ⟨j + 1,id,⟨⟨rfl,rfl,rfl,rfl,rfl,rfl,rfl,succ_gi (by omega),trivial⟩,⟨rfl,rfl,trivial⟩,rfl⟩,hjn,by show n - (j + 1) < n - j; omega⟩
        ·obtain rfl : j=n:=by omega
         refine GO (hp.bt (hm2 (by rw [hml]; exact hlt))) rfl ?_
         rw [List.getElem?_eq_getElem (by rw [hml]; exact hlt)] at hx
         rw [hx]
         exact ⟨(),id,⟨⟨rfl,rfl,rfl,rfl,rfl,congrArg (fun x : Nat=>some (gi (x : Int))) (show (marksL[j]'(by rw [hml]; exact hlt)).toArray.size=_ by simp),trivial⟩,⟨rfl,rfl,trivial⟩,rfl⟩,trivial⟩
       ·refine p2 ?_
        rw [List.getElem?_eq_none (by rw [hml]; omega)] at hx
        rw [hx]
        exact ⟨(),id,⟨⟨rfl,rfl,rfl,rfl,rfl,rfl,trivial⟩,⟨rfl,rfl,trivial⟩,rfl⟩,trivial⟩
      ·intro _ _
       refine V ?_
       exact ⟨(),id,⟨⟨rfl,rfl,rfl,rfl,rfl,rfl,trivial⟩,⟨rfl,rfl,trivial⟩,rfl⟩,trivial⟩
  rintro _ _
  subst hL
  rw [hcr] at hO
  have hle:=lexF_le (c :: r)
  have hlen:=congrArg List.length hcr
  rw [List.length_drop,hsz] at hlen
  rw [← hlen] at hle
  generalize lexF (c :: r)=nk at hO hle
  obtain ⟨n,kd⟩:=nk
  replace hle : n≤s.size - (i + k):=hle
  by_cases hn0 : n=0
  ·simp only [hn0,if_true] at hO
   subst hO
   refine VM 18 ?_
   refine p1 ?_
   show JK _ _ _ _
   refine JK.freezeB 2 rfl rfl ?_
   refine V ?_
   exact ⟨⟨rfl,rfl,trivial⟩,rfl⟩
  rw [if_neg hn0] at hO
  by_cases hk2 : kd=2∧18 < n
  ·rw [if_pos (.inl hk2)] at hO
   subst hO
   refine VM 34 ?_
   refine p2 ?_ (by simp; omega)
   refine p1 ?_ (by simp [hk2.1])
   refine p3 ?_ (decide_eq_true (by show ((n : Int) > 18); omega))
   show JK _ _ _ _
   refine JK.freezeB 2 rfl rfl ?_
   refine V ?_
   exact ⟨⟨rfl,rfl,trivial⟩,rfl⟩
  by_cases h120 : 120≤out.length
  ·rw [if_pos (.inr h120)] at hO
   subst hO
   by_cases hkd : kd=2
   ·have h18 : ¬ 18 < n:=fun h=>hk2 ⟨hkd,h⟩
    refine VM 34 ?_
    refine p2 ?_ (by simp; omega)
    refine p1 ?_ (by simp [hkd])
    refine p4 ?_ (decide_eq_false (by show ¬ ((n : Int) > 18); omega))
    refine p1 ?_ (by simp; omega)
    show JK _ _ _ _
    refine JK.freezeB 2 rfl rfl ?_
    refine V ?_
    exact ⟨⟨rfl,rfl,trivial⟩,rfl⟩
   ·refine VM 34 ?_
    refine p2 ?_ (by simp; omega)
    refine p2 ?_ (by simp [hkd])
    refine p1 ?_ (by simp; omega)
    show JK _ _ _ _
    refine JK.freezeB 2 rfl rfl ?_
    refine V ?_
    exact ⟨⟨rfl,rfl,trivial⟩,rfl⟩
  rw [if_neg (fun h=>h.elim hk2 h120)] at hO
  have ht : (s.extract (i + k) s.size).extract 0 n=⟨((c :: r).take n).toArray⟩:=by
   have h1:=data_take (s.extract (i + k) s.size) n
   rw [hdr2] at h1
   have h2 : ∀ b : ByteArray,b=⟨b.data.toList.toArray⟩:=fun b=>by cases b; simp
   rw [h2 ((s.extract (i + k) s.size).extract 0 n),h1]
  have hfin : (match tokF s.data.toList f (i + k + n) (out++[(⟨kd,(s.extract (i + k) s.size).extract 0 n,((i + k : Nat) : Int)⟩ : Tok)]).length with | .ok l=>.ok ((out++[(⟨kd,(s.extract (i + k) s.size).extract 0 n,((i + k : Nat) : Int)⟩ : Tok)])++l) | .error e=>.error e)=R:=by
   rw [← hO,List.length_append,ht]
   show (match tokF s.data.toList f (i + k + n) (out.length + 1) with | .ok l=>_ | .error e=>_)=_
   cases tokF s.data.toList f (i + k + n) (out.length + 1) with
   | error e=>rfl
   | ok l=>simp
  have hx1 : i + k + n≤s.size:=by omega
  have hx2 : s.size - (i + k + n) < f:=by omega
  have hx3 : (out++[(⟨kd,(s.extract (i + k) s.size).extract 0 n,((i + k : Nat) : Int)⟩ : Tok)]).length≤120:=by simp; omega
  have hx4 : s.size - (i + k + n) < s.size - i:=by omega
  have hwn : IntKind.i64.wrap (((i + k : Nat) : Int) + (n : Int))=((i + k + n : Nat) : Int):=by rw [wrap_id (by omega) (by omega)]; omega
  by_cases hkd : kd=2
  ·refine V ?_
   refine p2 ?_ (by simp; omega)
   refine p1 ?_ (by simp [hkd])
   have h18 : ¬ 18 < n:=fun h=>hk2 ⟨hkd,h⟩
   refine p4 ?_ (decide_eq_false (by show ¬ ((n : Int) > 18); omega))
   refine p2 ?_ (by simp; omega)
   refine ⟨by omega,show (0 : Int)≤(n : Int) by omega,show (n : Int)≤((s.extract (i + k) s.size).size : Int) by omega,?_⟩
   refine ⟨by simp; omega,?_⟩
   exact ⟨(out++[(⟨kd,(s.extract (i + k) s.size).extract 0 n,((i + k : Nat) : Int)⟩ : Tok)],i + k + n,f),fun q=>bif Nat.beq q 0 then 3 else q,⟨⟨rfl,rfl,congrArg (fun x : Int=>some (gi x)) hwn,trivial⟩,⟨congrArg (fun x=>some (Res.row 90 3 x)) (List.map_append (l₁:=out) (l₂:=[(⟨kd,(s.extract (i + k) s.size).extract 0 n,((i + k : Nat) : Int)⟩ : Tok)]) (f:=tokR)).symm,trivial⟩,rfl⟩,⟨hfin,hx1,hx2,hx3⟩,hx4⟩
  ·refine V ?_
   refine p2 ?_ (by simp; omega)
   refine p2 ?_ (by simp [hkd])
   refine p2 ?_ (by simp; omega)
   refine ⟨by omega,show (0 : Int)≤(n : Int) by omega,show (n : Int)≤((s.extract (i + k) s.size).size : Int) by omega,?_⟩
   refine ⟨by simp; omega,?_⟩
   exact ⟨(out++[(⟨kd,(s.extract (i + k) s.size).extract 0 n,((i + k : Nat) : Int)⟩ : Tok)],i + k + n,f),fun q=>bif Nat.beq q 0 then 3 else q,⟨⟨rfl,rfl,congrArg (fun x : Int=>some (gi x)) hwn,trivial⟩,⟨congrArg (fun x=>some (Res.row 90 3 x)) (List.map_append (l₁:=out) (l₂:=[(⟨kd,(s.extract (i + k) s.size).extract 0 n,((i + k : Nat) : Int)⟩ : Tok)]) (f:=tokR)).symm,trivial⟩,rfl⟩,⟨hfin,hx1,hx2,hx3⟩,hx4⟩
end Go.Proofs.YtkoalgjlkcaonaaGreatDoor
/-
  Contracts: questions: a text is read.
-/
namespace Go.Proofs.YtkoalgjlkcaonaaGreatDoor
open Go.GK Go.RowKit Go.PL
set_option maxRecDepth 100000
def askE (l : List Tok) : Except (Int × Int) Qn:=match sumP (3 * l.length + 3) 0 l with
 | .error e=>.error e
 | .ok (q,l')=>if (hdT l').kind ≠ 5 then .error (3,(hdT l').pos) else .ok q
theorem parse1_hx (t : Tok) (l : List Tok) (hE : ToksOk (t :: l)) (hl : l.length≤200) : Hx pg 47 2 [.p 0 0,.p 1 0] [(0,.blk 81 [tks (t :: l)]),(1,.blk 52 [.v (.pointer none)])]
  (fun g σ n=>∃ q,askE (t :: l)=.ok q∧q ≠ .nil∧g=.tup []∧σ=[(0,.blk 81 [tks (t :: l)]),(1,.blk 52 [qG q])]∧n=2) (fun g=>∃ e p,askE (t :: l)=.error (e,p)∧g=wrongG e p):=by
 refine Hx.weak (Q:=fun g σ n=>2≤n∧∃ q l',askE (t :: l)=.ok q∧q ≠ .nil∧g=.tup []∧σ=[(2,.blk 87 [tks l']),(0,.blk 81 [tks (t :: l)]),(1,.blk 52 [qG q])]) ?_ (fun _ h=>h) (fun g σ' n' ⟨hn,q,l',h1,h2,h3,h4⟩=>⟨id,.tup [],[(0,.blk 81 [tks (t :: l)]),(1,.blk 52 [qG q])],2,⟨q,h1,h2,rfl,rfl,rfl⟩,by rw [h3]; rfl,by rw [h4]; exact ⟨rfl,by show some _=_; simp only [renR,renL,ren_qG],trivial⟩,by simp [idb_qG,idbH,idbR,idbL,idb,hids,distB,fixB,memB]; rfl⟩)
 refine Hx.ofJ pg_ok Tryz.func47 rfl Tryz.ntmps47 rfl Tryz.results47 Tryz.call47 fun H0 S0 w0 h0 g0=>?_
 refine V ?_
 refine GOX (fun g=>∃ e p,askE (t :: l)=.error (e,p)∧g=wrongG e p) ((ask_all (3 * (l.length + 1) + 3)).sum 0 t l (by omega) hE hl (Nat.le_refl _)) (fun g ⟨e,p,h1,h2⟩=>⟨e,p,by rw [askE]; simp only [List.length_cons,h1],h2⟩) (fun _=>2) rfl rfl ⟨rfl,trivial⟩ rfl (fun _ _=>Nat.lt_of_lt_of_le (by decide) (Nat.le_refl 3)) ?_
 rintro g σ' n' ⟨q,l2,hq,hne,hE2,hl2,rfl,rfl,rfl⟩
 obtain ⟨t2,l2,rfl⟩:=hE2.cons
 cases q with
 | nil=>exact absurd rfl hne
 | mk c nn m sp ns ql qr =>
 refine V ?_
 refine ⟨tokR t2,by decide,rfl,?_⟩
 by_cases hk : t2.kind=5
 ·refine p2 ?_ (by simp [hk])
  exact ⟨Nat.le_of_ble_eq_true rfl,.mk c nn m sp ns ql qr,t2 :: l2,by rw [askE]; simp only [List.length_cons,hq]; rw [if_neg (by simp [hdT,hk])],by simp,rfl,rfl⟩
 ·refine p1 ?_ (by simp [hk])
  refine GOX (fun g=>∃ e p,askE (t :: l)=.error (e,p)∧g=wrongG e p) (fail_hx t2 l2 3) (fun g hg=>⟨3,t2.pos,by rw [askE]; simp only [List.length_cons,hq]; rw [if_pos (by simpa [hdT] using hk)]; rfl,hg⟩) (fun _=>2) rfl rfl ⟨rfl,trivial⟩ rfl (fun _ _=>Nat.lt_of_lt_of_le (by decide) (Nat.le_refl 3)) ?_
  exact fun _ _ _ h=>h.elim
theorem caught1_hf (t : Tok) (l : List Tok) (hE : ToksOk (t :: l)) (hl : l.length≤200) : Hf pg 35 2 [.fn (.func 47) [] [.p 0 0,.p 1 0]] [(0,.blk 81 [tks (t :: l)]),(1,.blk 52 [.v (.pointer none)])]
  (fun g σ n=>(∃ q,askE (t :: l)=.ok q∧q ≠ .nil∧g=.v .nilIface∧σ=[(0,.blk 81 [tks (t :: l)]),(1,.blk 52 [qG q])]∧n=2)∨(∃ e p,askE (t :: l)=.error (e,p)∧g=.ifc 129 (.r [gi e,gi p])∧σ=[]∧n=2)):=by
 refine (caught_hf _ _ _ _ _ _ (parse1_hx t l hE hl) (fun x ⟨e,p,_,h⟩=>⟨e,p,h⟩)).weak fun g σ' n' hq=>?_
 rcases hq with ⟨x,⟨q,h1,h2,_,rfl,rfl⟩,rfl⟩ | ⟨e,p,⟨e',p',h1,h2⟩,rfl,rfl⟩
 ·exact ⟨id,.v .nilIface,_,2,.inl ⟨q,h1,h2,rfl,rfl,rfl⟩,rfl,⟨rfl,by show some _=_; simp only [renR,renL,ren_qG],trivial⟩,by simp [idb_qG,idbH,idbR,idbL,idb,hids,distB,fixB,memB]; rfl⟩
 ·cases h2
  exact ⟨id,.ifc 129 (.r [gi e,gi p]),[],2,.inr ⟨e,p,h1,rfl,rfl,rfl⟩,rfl,trivial,by simp [idbH,idb,hids,distB,fixB]⟩
def parseG : Except (Int × Int) Qn→GV
 | .ok q=>.tup [qG q,.v .nilIface]
 | .error (e,p)=>.tup [.v (.pointer none),.ifc 129 (.r [gi e,gi p])]
theorem parse_rt (s : ByteArray) (hs : s.size≤1000) : Rt pg 16 [gs s] (parseG (parseF s.data.toList)):=by
 have hsz : s.data.toList.length=s.size:=by simp
 have hsp:=split_rt s (by omega)
 refine Rt.of pg_ok Tryz.func16 rfl Tryz.ntmps16 rfl Tryz.results16 Tryz.call16 fun H0 S0 w0 h0 g0=>?_
 cases hT : tokF s.data.toList (s.size + 1) 0 0 with
 | error ep =>
  obtain ⟨e,p⟩:=ep
  rw [hT] at hsp
  have hP : parseF s.data.toList=.error (e,p):=by rw [parseF,hsz,hT]
  rw [hP]
  refine GO hsp rfl ?_
  refine p1 ?_
  exact ⟨⟨rfl,rfl,trivial⟩,rfl⟩
 | ok l =>
  rw [hT] at hsp
  obtain ⟨hE,hlen⟩:=tok_toks s.data.toList (by omega) _ _ _ l hT (by omega)
  obtain ⟨t,l,rfl⟩:=hE.cons
  simp only [List.length_cons] at hlen
  have hP : parseF s.data.toList=askE (t :: l):=by rw [parseF,hsz,hT]; rfl
  rw [hP]
  refine GO hsp rfl ?_
  refine p2 ?_
  refine GOH (caught1_hf t l hE (by omega)) id rfl rfl ⟨rfl,rfl,trivial⟩ rfl (id_lt rfl) ?_
  rintro g σ' n' (⟨q,h1,h2,rfl,rfl,rfl⟩ | ⟨e,p,h1,rfl,rfl,rfl⟩)
  ·rw [h1]
   cases q with
   | nil=>exact absurd rfl h2
   | mk c nn m sp ns ql qr =>
    refine p2 ?_
    exact ⟨⟨rfl,rfl,trivial⟩,rfl⟩
  ·rw [h1]
   refine p1 ?_
   exact ⟨⟨rfl,rfl,trivial⟩,rfl⟩
end Go.Proofs.YtkoalgjlkcaonaaGreatDoor
/-
  Contracts: questions: what is asked of labels is read.
-/
namespace Go.Proofs.YtkoalgjlkcaonaaGreatDoor
open Go.GK Go.RowKit Go.PL
set_option maxRecDepth 100000
end Go.Proofs.YtkoalgjlkcaonaaGreatDoor
/-
  Contracts: what a text asks, by the document.
-/
namespace Go.Proofs.YtkoalgjlkcaonaaGreatDoor
open Go.GK Go.RowKit Go.PL
set_option maxRecDepth 100000
def rparseG : Except (Int × Int) Qn→GV
 | .ok q=>.tup [qG q,ftG 0 (-1)]
 | .error (e,p)=>.tup [.v (.pointer none),ftG e p]
theorem tok_err (s : List UInt8) : ∀ (f i cnt : Nat) {e p : Int},s.length - i < f→tokF s f i cnt=.error (e,p)→e ≠ 0
 | 0,_,_,_,_,hf,_=>by omega
 | f + 1,i,cnt,e,p,hf,h=>by
  rw [tokF] at h
  simp only at h
  generalize ((s.drop i).takeWhile (· == 32)).length=k at h
  by_cases he : s.length≤i + k
  ·rw [if_pos he] at h; cases h
  rw [if_neg he] at h
  generalize lexF (s.drop (i + k))=nk at h
  obtain ⟨n,kd⟩:=nk
  simp only at h
  by_cases hn : n=0
  ·rw [if_pos hn] at h; cases h; decide
  rw [if_neg hn] at h
  by_cases hl : (kd=2∧18 < n)∨120≤cnt
  ·rw [if_pos hl] at h; cases h; decide
  rw [if_neg hl] at h
  cases hr : tokF s f (i + k + n) (cnt + 1) with
  | error e2 =>
   obtain ⟨e2,p2⟩:=e2
   rw [hr] at h
   cases h
   exact tok_err s f _ _ (by omega) hr
  | ok l2=>rw [hr] at h; cases h
theorem rparse_rt (s : ByteArray) (hs : s.size≤1000) : Rt pg 15 [gs s] (rparseG (parseF s.data.toList)):=by
 have hsz : s.data.toList.length=s.size:=by simp
 have hsp:=rtokens_rt s (by omega)
 generalize hP : parseF s.data.toList=P
 rw [parseF,hsz] at hP
 refine Rt.of pg_ok Tryz.func15 rfl Tryz.ntmps15 rfl Tryz.results15 Tryz.call15 fun H0 S0 w0 h0 g0=>?_
 cases hT : tokF s.data.toList (s.size + 1) 0 0 with
 | error ep =>
  obtain ⟨e,p⟩:=ep
  rw [hT] at hsp hP
  replace hP : (.error (e,p) : Except (Int × Int) Qn)=P:=hP
  subst hP
  refine GO hsp rfl ?_
  have hne : ((e == 0) && (p == -1))=false:=by
   have:=tok_err _ _ _ _ (by omega) hT
   simp only [Bool.and_eq_false_iff,beq_eq_false_iff_ne]
   omega
  refine p1 ?_ (by rw [Bool.and_true,hne]; rfl)
  show JK _ _ _ _
  refine DRAW [0] true (tk [0,1]++al [2]) (by kernel_rfl) ?_
  refine V ?_
  exact ⟨⟨rfl,rfl,trivial⟩,rfl⟩
 | ok l =>
  rw [hT] at hsp hP
  simp only at hP
  obtain ⟨hE,hlen⟩:=tok_toks s.data.toList (by omega) _ _ _ l hT (by omega)
  have hr : RdOk (goodR l):=⟨hE,fun _=>rfl⟩
  refine GO hsp rfl ?_
  refine p2 ?_ rfl
  refine GOJ (rsum_hf (goodR l) hr (by show l.length≤300; omega)) (fun _=>2) rfl rfl ⟨rfl,trivial⟩ rfl (fun _ _=>Nat.lt_of_lt_of_le (by decide) (Nat.le_refl 3)) ?_
  rintro g σ' n' ⟨q,r1,⟨hq,hneq⟩,rfl,rfl,rfl⟩
  have o1:=hq.ok
  have hag : Agr (sumP (3 * l.length + 3) 0 l) q r1:=hq.good rfl
  obtain ⟨t1,l1,hl1⟩:=tks_cons o1
  obtain ⟨ll,e1,pq⟩:=r1
  simp only at hl1
  subst hl1
  have hbad : Rd.ok ⟨t1 :: l1,e1,pq⟩=false→(.error (e1,pq) : Except (Int × Int) Qn)=P:=fun hno=>by
   rw [← hP]
   cases hS : sumP (3 * l.length + 3) 0 l with
   | error ep =>
    obtain ⟨e,p⟩:=ep
    rw [hS] at hag
    obtain ⟨z1,z2,_⟩:=hag
    simp only at z1 z2 ⊢
    rw [z1,z2]
   | ok v =>
    rw [hS] at hag
    rw [hag.2] at hno
    cases hno
  have hgood : Rd.ok ⟨t1 :: l1,e1,pq⟩=true→(if (hdT (t1 :: l1)).kind ≠ 5 then .error (3,(hdT (t1 :: l1)).pos) else .ok q : Except (Int × Int) Qn)=P:=fun ho1=>by
   rw [← hP]
   cases hS : sumP (3 * l.length + 3) 0 l with
   | error ep =>
    rw [hS] at hag
    rw [hag.bad] at ho1
    cases ho1
   | ok v =>
    obtain ⟨q2,l2⟩:=v
    rw [hS] at hag
    obtain ⟨z1,z2⟩:=hag
    have z3 : t1 :: l1=l2:=congrArg Rd.l z2
    simp only
    rw [← z3,z1]
  clear hP
  cases q with
  | nil =>
   refine V ?_
   refine ⟨tokR t1,by decide,rfl,?_⟩
   rcases tf (Rd.ok ⟨t1 :: l1,e1,pq⟩) with ho1 | hno
   ·exact absurd rfl (hneq ho1)
   ·have hP:=hbad hno
    subst hP
    rcases tf (t1.kind != 5) with hk | hk
    ·refine p1 ?_ hk
     refine GOH (rfails_hf _ o1 3) (fun _=>2) rfl rfl ⟨rfl,trivial⟩ rfl (fun _ _=>Nat.lt_of_lt_of_le (by decide) (Nat.le_refl 3)) ?_
     rintro g σ' n' ⟨rfl,rfl,rfl⟩
     rw [rfail_bad hno]
     refine GOH (rok_b hno) (fun _=>2) rfl rfl ⟨rfl,trivial⟩ rfl (fun _ _=>Nat.lt_of_lt_of_le (by decide) (Nat.le_refl 3)) ?_
     rintro g σ' n' ⟨rfl,rfl,rfl⟩
     show JK _ _ _ _
     refine DRAW [0] true (tk [0,1,2,3,4]++al [5]) (by kernel_rfl) ?_
     refine V ?_
     exact ⟨⟨rfl,rfl,trivial⟩,rfl⟩
    ·refine p2 ?_ hk
     refine GOH (rok_b hno) (fun _=>2) rfl rfl ⟨rfl,trivial⟩ rfl (fun _ _=>Nat.lt_of_lt_of_le (by decide) (Nat.le_refl 3)) ?_
     rintro g σ' n' ⟨rfl,rfl,rfl⟩
     show JK _ _ _ _
     refine DRAW [0] true (tk [0,1,2,3,4]++al [5]) (by kernel_rfl) ?_
     refine V ?_
     exact ⟨⟨rfl,rfl,trivial⟩,rfl⟩
  | mk c nn m sp ns ql qr =>
   refine V ?_
   refine ⟨tokR t1,by decide,rfl,?_⟩
   rcases tf (Rd.ok ⟨t1 :: l1,e1,pq⟩) with ho1 | hno
   ·have hP:=hgood ho1
    rcases tf (t1.kind != 5) with hk | hk
    ·refine p1 ?_ hk
     refine GOH (rfails_hf _ o1 3) (fun _=>2) rfl rfl ⟨rfl,trivial⟩ rfl (fun _ _=>Nat.lt_of_lt_of_le (by decide) (Nat.le_refl 3)) ?_
     rintro g σ' n' ⟨rfl,rfl,rfl⟩
     have hno : (rfail 3 ⟨t1 :: l1,e1,pq⟩).ok=false:=by rw [rfail,if_pos ho1]; rfl
     have hrf : rfail 3 ⟨t1 :: l1,e1,pq⟩=⟨t1 :: l1,3,t1.pos⟩:=by rw [rfail,if_pos ho1]; rfl
     rw [hrf] at hno ⊢
     have hk5 : t1.kind ≠ 5:=by simpa using hk
     rw [if_pos (show (hdT (t1 :: l1)).kind ≠ 5 from hk5)] at hP
     subst hP
     refine GOH (rok_b hno) (fun _=>2) rfl rfl ⟨rfl,trivial⟩ rfl (fun _ _=>Nat.lt_of_lt_of_le (by decide) (Nat.le_refl 3)) ?_
     rintro g σ' n' ⟨rfl,rfl,rfl⟩
     show JK _ _ _ _
     refine DRAW [0] true (tk [0,1,2,3,4]++al [5]) (by kernel_rfl) ?_
     refine V ?_
     exact ⟨⟨rfl,rfl,trivial⟩,rfl⟩
    ·have hk5 : t1.kind=5:=by simpa using hk
     rw [if_neg (show ¬ (hdT (t1 :: l1)).kind ≠ 5 from fun h=>h hk5)] at hP
     subst hP
     refine p2 ?_ hk
     refine GOH (rok_b ho1) (fun _=>2) rfl rfl ⟨rfl,trivial⟩ rfl (fun _ _=>Nat.lt_of_lt_of_le (by decide) (Nat.le_refl 3)) ?_
     rintro g σ' n' ⟨rfl,rfl,rfl⟩
     show JK _ _ _ _
     refine DRAW [0] true (tk [0,1,2]++al [3]) (by kernel_rfl) ?_
     refine V ?_
     exact ⟨⟨rfl,rfl,trivial⟩,rfl⟩
   ·have hP:=hbad hno
    subst hP
    rcases tf (t1.kind != 5) with hk | hk
    ·refine p1 ?_ hk
     refine GOH (rfails_hf _ o1 3) (fun _=>2) rfl rfl ⟨rfl,trivial⟩ rfl (fun _ _=>Nat.lt_of_lt_of_le (by decide) (Nat.le_refl 3)) ?_
     rintro g σ' n' ⟨rfl,rfl,rfl⟩
     rw [rfail_bad hno]
     refine GOH (rok_b hno) (fun _=>2) rfl rfl ⟨rfl,trivial⟩ rfl (fun _ _=>Nat.lt_of_lt_of_le (by decide) (Nat.le_refl 3)) ?_
     rintro g σ' n' ⟨rfl,rfl,rfl⟩
     show JK _ _ _ _
     refine DRAW [0] true (tk [0,1,2,3,4]++al [5]) (by kernel_rfl) ?_
     refine V ?_
     exact ⟨⟨rfl,rfl,trivial⟩,rfl⟩
    ·refine p2 ?_ hk
     refine GOH (rok_b hno) (fun _=>2) rfl rfl ⟨rfl,trivial⟩ rfl (fun _ _=>Nat.lt_of_lt_of_le (by decide) (Nat.le_refl 3)) ?_
     rintro g σ' n' ⟨rfl,rfl,rfl⟩
     show JK _ _ _ _
     refine DRAW [0] true (tk [0,1,2,3,4]++al [5]) (by kernel_rfl) ?_
     refine V ?_
     exact ⟨⟨rfl,rfl,trivial⟩,rfl⟩
end Go.Proofs.YtkoalgjlkcaonaaGreatDoor
/-
  Contracts: questions that are the same.
-/
namespace Go.Proofs.YtkoalgjlkcaonaaGreatDoor
open Go.GK Go.RowKit Go.PL
set_option maxRecDepth 100000
theorem sameMt_rt (l : List Mt) (hl : l.length≤1000000) : Rt pg 54 [.sl 3 (l.map mt),.sl 3 (l.map mt)] (.v (.bool true)):=by
 refine Rt.of pg_ok Tryz.func54 rfl Tryz.ntmps54 rfl Tryz.results54 Tryz.call54 fun H0 S0 w0 h0 g0=>?_
 have hll : (l.map mt).length=l.length:=by simp
 refine p2 ?_ (by simp)
 refine JK.loopE (α:=Nat) (β:=Unit) (fun i=>⟨[(0,.sl 3 (l.map mt)),(1,.sl 3 (l.map mt)),(5,gi i)],[],0⟩) (fun i=>i≤l.length) (fun i=>l.length - i)
  (fun _=>⟨[],[],0⟩) (fun _=>True) 0 id ?_ (Nat.zero_le _) ?_ ?_
 ·exact ⟨⟨rfl,rfl,rfl,trivial⟩,trivial,rfl⟩
 ·rintro i hi
  replace hi : i≤l.length:=hi
  refine V ?_
  by_cases hlt : i < l.length
  ·refine p1 ?_ (decide_eq_true (by omega))
   refine ⟨by kernel_rfl,?_⟩
   refine ix (h:=?_)
   refine ix (h:=?_)
   refine p2 ?_ (by simp)
   exact ⟨i + 1,id,⟨⟨rfl,rfl,succ_gi (by omega),trivial⟩,trivial,rfl⟩,hlt,by show l.length - (i + 1) < l.length - i; omega⟩
  ·refine p2 ?_ (decide_eq_false (by omega))
   exact ⟨(),id,⟨trivial,trivial,rfl⟩,trivial⟩
 ·rintro _ _
  refine V ?_
  exact ⟨rfl,rfl⟩
abbrev tsA (l : List ByteArray) : GV:=.sl 1 (l.map fun x=>[gs x])
theorem sameTxA_rt (l : List ByteArray) (hl : l.length≤1000000) : Rt pg 55 [tsA l,tsA l] (.v (.bool true)):=by
 refine Rt.of pg_ok Tryz.func55 rfl Tryz.ntmps55 rfl Tryz.results55 Tryz.call55 fun H0 S0 w0 h0 g0=>?_
 have hll : (l.map fun x=>[gs x]).length=l.length:=by simp
 refine p2 ?_ (by simp)
 refine JK.loopE (α:=Nat) (β:=Unit) (fun i=>⟨[(0,tsA l),(1,tsA l),(5,gi i)],[],0⟩) (fun i=>i≤l.length) (fun i=>l.length - i)
  (fun _=>⟨[],[],0⟩) (fun _=>True) 0 id ?_ (Nat.zero_le _) ?_ ?_
 ·exact ⟨⟨rfl,rfl,rfl,trivial⟩,trivial,rfl⟩
 ·rintro i hi
  replace hi : i≤l.length:=hi
  refine V ?_
  by_cases hlt : i < l.length
  ·refine p1 ?_ (decide_eq_true (by omega))
   refine ⟨by kernel_rfl,?_⟩
   refine ix (h:=?_)
   refine ix (h:=?_)
   refine p2 ?_ (by simp)
   exact ⟨i + 1,id,⟨⟨rfl,rfl,succ_gi (by omega),trivial⟩,trivial,rfl⟩,hlt,by show l.length - (i + 1) < l.length - i; omega⟩
  ·refine p2 ?_ (decide_eq_false (by omega))
   exact ⟨(),id,⟨trivial,trivial,rfl⟩,trivial⟩
 ·rintro _ _
  refine V ?_
  exact ⟨rfl,rfl⟩
theorem sameNil_rt : Rt pg 19 [.v (.pointer none),.v (.pointer none)] (.b true):=by
 refine Rt.of pg_ok Tryz.func19 rfl Tryz.ntmps19 rfl Tryz.results19 Tryz.call19 fun H0 S0 w0 h0 g0=>?_
 refine p3 ?_ rfl
 refine p1 ?_ rfl
 exact ⟨rfl,rfl⟩
def QLen : Qn→Prop
 | .nil=>True
 | .mk _ _ m _ b l r=>m.length≤1000000∧b.length≤1000000∧QLen l∧QLen r
theorem sa_00 (c n : Int) (m : List Mt) (sp : Int) (b : List ByteArray) (hm : Rt pg 54 [.sl 3 (m.map mt),.sl 3 (m.map mt)] (.v (.bool true))) (ht : Rt pg 55 [tsA b,tsA b] (.v (.bool true)))
  (i1 : Rt pg 19 [qG .nil,qG .nil] (.v (.bool true))) (i2 : Rt pg 19 [qG .nil,qG .nil] (.v (.bool true))) : Rt pg 19 [qG (.mk c n m sp b .nil .nil),qG (.mk c n m sp b .nil .nil)] (.b true):=by
 have cc : (c == c)=true:=by simp
 have cn : (n == n)=true:=by simp
 have cs : (sp == sp)=true:=by simp
 refine Rt.of pg_ok Tryz.func19 rfl Tryz.ntmps19 rfl Tryz.results19 Tryz.call19 fun H0 S0 w0 h0 g0=>?_
 refine p4 ?_ rfl
 refine p2 ?_ rfl
 show JK _ _ _ _
 refine DRAW [] false (tk [0,1,2,3,4,5,6,7,8,9,10,11,12,13,14,15,16,17,18,19,20,21,22,23,24,25,26,27,28,29,30,31,32,33,34,35,36,37,38,39]) (by kernel_rfl) ?_
 refine p1 ?_ cc
 refine p1 ?_ cn
 refine p1 ?_ cs
 refine RGO 40 false (tk [41,42,43,44,45,46,47,48,49,50]) hm rfl (congrArg (fun c=>bif (c == true) then some (54,[GV.sl 3 (m.map mt),GV.sl 3 (m.map mt)]) else none) cs) (by kernel_rfl) ?_
 refine RGO 51 false (tk [52,53,54,55,56,57,58,59,60,61]) ht rfl rfl (by kernel_rfl) ?_
 refine RGO 62 false (tk [63,64,65,66,67,68,69,70,71,72]) i1 rfl rfl (by kernel_rfl) ?_
 refine RGO 73 true (tk [74,75]) i2 rfl rfl (by kernel_rfl) ?_
 refine V ?_
 exact ⟨rfl,rfl⟩
theorem sa_01 (c n : Int) (m : List Mt) (sp : Int) (b : List ByteArray) (c2 n2 : Int) (m2 : List Mt) (s2 : Int) (b2 : List ByteArray) (l2 r2 : Qn) (hm : Rt pg 54 [.sl 3 (m.map mt),.sl 3 (m.map mt)] (.v (.bool true))) (ht : Rt pg 55 [tsA b,tsA b] (.v (.bool true)))
  (i1 : Rt pg 19 [qG .nil,qG .nil] (.v (.bool true))) (i2 : Rt pg 19 [qG (.mk c2 n2 m2 s2 b2 l2 r2),qG (.mk c2 n2 m2 s2 b2 l2 r2)] (.v (.bool true))) : Rt pg 19 [qG (.mk c n m sp b .nil (.mk c2 n2 m2 s2 b2 l2 r2)),qG (.mk c n m sp b .nil (.mk c2 n2 m2 s2 b2 l2 r2))] (.b true):=by
 have cc : (c == c)=true:=by simp
 have cn : (n == n)=true:=by simp
 have cs : (sp == sp)=true:=by simp
 refine Rt.of pg_ok Tryz.func19 rfl Tryz.ntmps19 rfl Tryz.results19 Tryz.call19 fun H0 S0 w0 h0 g0=>?_
 refine p4 ?_ rfl
 refine p2 ?_ rfl
 show JK _ _ _ _
 refine DRAW [] false (tk [0,1,2,3,4,5,6,7,8,9,10,11,12,13,14,15,16,17,18,19,20,21,22,23,24,25,26,27,28,29,30,31,32,33,34,35,36,37,38,39]) (by kernel_rfl) ?_
 refine p1 ?_ cc
 refine p1 ?_ cn
 refine p1 ?_ cs
 refine RGO 40 false (tk [41,42,43,44,45,46,47,48,49,50]) hm rfl (congrArg (fun c=>bif (c == true) then some (54,[GV.sl 3 (m.map mt),GV.sl 3 (m.map mt)]) else none) cs) (by kernel_rfl) ?_
 refine RGO 51 false (tk [52,53,54,55,56,57,58,59,60,61]) ht rfl rfl (by kernel_rfl) ?_
 refine RGO 62 false (tk [63,64,65,66,67,68,69,70,71,72]) i1 rfl rfl (by kernel_rfl) ?_
 refine RGO 73 true (tk [74,75]) i2 rfl rfl (by kernel_rfl) ?_
 refine V ?_
 exact ⟨rfl,rfl⟩
theorem sa_10 (c n : Int) (m : List Mt) (sp : Int) (b : List ByteArray) (c1 n1 : Int) (m1 : List Mt) (s1 : Int) (b1 : List ByteArray) (l1 r1 : Qn) (hm : Rt pg 54 [.sl 3 (m.map mt),.sl 3 (m.map mt)] (.v (.bool true))) (ht : Rt pg 55 [tsA b,tsA b] (.v (.bool true)))
  (i1 : Rt pg 19 [qG (.mk c1 n1 m1 s1 b1 l1 r1),qG (.mk c1 n1 m1 s1 b1 l1 r1)] (.v (.bool true))) (i2 : Rt pg 19 [qG .nil,qG .nil] (.v (.bool true))) : Rt pg 19 [qG (.mk c n m sp b (.mk c1 n1 m1 s1 b1 l1 r1) .nil),qG (.mk c n m sp b (.mk c1 n1 m1 s1 b1 l1 r1) .nil)] (.b true):=by
 have cc : (c == c)=true:=by simp
 have cn : (n == n)=true:=by simp
 have cs : (sp == sp)=true:=by simp
 refine Rt.of pg_ok Tryz.func19 rfl Tryz.ntmps19 rfl Tryz.results19 Tryz.call19 fun H0 S0 w0 h0 g0=>?_
 refine p4 ?_ rfl
 refine p2 ?_ rfl
 show JK _ _ _ _
 refine DRAW [] false (tk [0,1,2,3,4,5,6,7,8,9,10,11,12,13,14,15,16,17,18,19,20,21,22,23,24,25,26,27,28,29,30,31,32,33,34,35,36,37,38,39]) (by kernel_rfl) ?_
 refine p1 ?_ cc
 refine p1 ?_ cn
 refine p1 ?_ cs
 refine RGO 40 false (tk [41,42,43,44,45,46,47,48,49,50]) hm rfl (congrArg (fun c=>bif (c == true) then some (54,[GV.sl 3 (m.map mt),GV.sl 3 (m.map mt)]) else none) cs) (by kernel_rfl) ?_
 refine RGO 51 false (tk [52,53,54,55,56,57,58,59,60,61]) ht rfl rfl (by kernel_rfl) ?_
 refine RGO 62 false (tk [63,64,65,66,67,68,69,70,71,72]) i1 rfl rfl (by kernel_rfl) ?_
 refine RGO 73 true (tk [74,75]) i2 rfl rfl (by kernel_rfl) ?_
 refine V ?_
 exact ⟨rfl,rfl⟩
theorem sa_11 (c n : Int) (m : List Mt) (sp : Int) (b : List ByteArray) (c1 n1 : Int) (m1 : List Mt) (s1 : Int) (b1 : List ByteArray) (l1 r1 : Qn) (c2 n2 : Int) (m2 : List Mt) (s2 : Int) (b2 : List ByteArray) (l2 r2 : Qn) (hm : Rt pg 54 [.sl 3 (m.map mt),.sl 3 (m.map mt)] (.v (.bool true))) (ht : Rt pg 55 [tsA b,tsA b] (.v (.bool true)))
  (i1 : Rt pg 19 [qG (.mk c1 n1 m1 s1 b1 l1 r1),qG (.mk c1 n1 m1 s1 b1 l1 r1)] (.v (.bool true))) (i2 : Rt pg 19 [qG (.mk c2 n2 m2 s2 b2 l2 r2),qG (.mk c2 n2 m2 s2 b2 l2 r2)] (.v (.bool true))) : Rt pg 19 [qG (.mk c n m sp b (.mk c1 n1 m1 s1 b1 l1 r1) (.mk c2 n2 m2 s2 b2 l2 r2)),qG (.mk c n m sp b (.mk c1 n1 m1 s1 b1 l1 r1) (.mk c2 n2 m2 s2 b2 l2 r2))] (.b true):=by
 have cc : (c == c)=true:=by simp
 have cn : (n == n)=true:=by simp
 have cs : (sp == sp)=true:=by simp
 refine Rt.of pg_ok Tryz.func19 rfl Tryz.ntmps19 rfl Tryz.results19 Tryz.call19 fun H0 S0 w0 h0 g0=>?_
 refine p4 ?_ rfl
 refine p2 ?_ rfl
 show JK _ _ _ _
 refine DRAW [] false (tk [0,1,2,3,4,5,6,7,8,9,10,11,12,13,14,15,16,17,18,19,20,21,22,23,24,25,26,27,28,29,30,31,32,33,34,35,36,37,38,39]) (by kernel_rfl) ?_
 refine p1 ?_ cc
 refine p1 ?_ cn
 refine p1 ?_ cs
 refine RGO 40 false (tk [41,42,43,44,45,46,47,48,49,50]) hm rfl (congrArg (fun c=>bif (c == true) then some (54,[GV.sl 3 (m.map mt),GV.sl 3 (m.map mt)]) else none) cs) (by kernel_rfl) ?_
 refine RGO 51 false (tk [52,53,54,55,56,57,58,59,60,61]) ht rfl rfl (by kernel_rfl) ?_
 refine RGO 62 false (tk [63,64,65,66,67,68,69,70,71,72]) i1 rfl rfl (by kernel_rfl) ?_
 refine RGO 73 true (tk [74,75]) i2 rfl rfl (by kernel_rfl) ?_
 refine V ?_
 exact ⟨rfl,rfl⟩
theorem sameAsk_rt : ∀ q : Qn,QLen q→Rt pg 19 [qG q,qG q] (.b true)
 | .nil,_=>sameNil_rt
 | .mk c n m sp b .nil .nil,h=>sa_00 c n m sp b (sameMt_rt m h.1) (sameTxA_rt b h.2.1) (sameNil_rt.bt rfl) (sameNil_rt.bt rfl)
 | .mk c n m sp b .nil (.mk c2 n2 m2 s2 b2 l2 r2),h=>sa_01 c n m sp b c2 n2 m2 s2 b2 l2 r2 (sameMt_rt m h.1) (sameTxA_rt b h.2.1) (sameNil_rt.bt rfl) ((sameAsk_rt _ h.2.2.2).bt rfl)
 | .mk c n m sp b (.mk c1 n1 m1 s1 b1 l1 r1) .nil,h=>sa_10 c n m sp b c1 n1 m1 s1 b1 l1 r1 (sameMt_rt m h.1) (sameTxA_rt b h.2.1) ((sameAsk_rt _ h.2.2.1).bt rfl) (sameNil_rt.bt rfl)
 | .mk c n m sp b (.mk c1 n1 m1 s1 b1 l1 r1) (.mk c2 n2 m2 s2 b2 l2 r2),h=>sa_11 c n m sp b c1 n1 m1 s1 b1 l1 r1 c2 n2 m2 s2 b2 l2 r2 (sameMt_rt m h.1) (sameTxA_rt b h.2.1) ((sameAsk_rt _ h.2.2.1).bt rfl) ((sameAsk_rt _ h.2.2.2).bt rfl)
theorem wf_len {q : Qn} (h : Wf q) : QLen q:=by
 induction h with
 | num n h0 h1=>exact ⟨Nat.zero_le _,Nat.zero_le _,trivial,trivial⟩
 | pick m h=>exact ⟨by have:=h.2; omega,Nat.zero_le _,trivial,trivial⟩
 | over k hk m h sp h1 h2=>exact ⟨by have:=h.2; omega,Nat.zero_le _,trivial,trivial⟩
 | all k hk b hb hl q hq ih=>exact ⟨Nat.zero_le _,by omega,ih,trivial⟩
 | neg q hq ih=>exact ⟨Nat.zero_le _,Nat.zero_le _,ih,trivial⟩
 | add k hk l r hl hr ih1 ih2=>exact ⟨Nat.zero_le _,Nat.zero_le _,ih1,ih2⟩
 | mul k hk l r hl hr ih1 ih2=>exact ⟨Nat.zero_le _,Nat.zero_le _,ih1,ih2⟩
end Go.Proofs.YtkoalgjlkcaonaaGreatDoor
/-
  errors.As by its contracts, at the target *Errno: the library's own text of errors.As and errors.as is walked: an error that is an Errno: it is set, and true comes back.
-/
namespace Go.Proofs.YtkoalgjlkcaonaaGreatDoor
open Go.RowKit Go.Extern.Stop Go.Stop Go.Extern

theorem as_valueOfP (t : Addr) (w : World) : (ReflectliteValue.unpack (.iface 169 (.pointer (some t)))).run Tryz.prog w
  = .ok (.agg #[.pointer (some ⟨14,169,none⟩),.pointer (some ⟨w.heap.size,0,none⟩),.int .u64 150]) (w.alloc (.cells #[.pointer (some t)] 169)):=by kernel_rfl
theorem as_typeP (a : Addr) (w : World) : (ReflectliteValue.methodAny (ReflectliteValue.valueError "reflectlite.Value.Type" 0) (fun t _ _ _ => ReflectliteType.toType t) #[.agg #[.pointer (some ⟨14, 169, none⟩), .pointer (some a), .int .u64 150]]).run Tryz.prog w
  = .ok (.iface 201 (.agg #[.pointer (some ⟨14,169,none⟩)])) w:=by kernel_rfl
theorem as_methodKind (h : Value) (w : World) : (Go.method 385 201 (.agg #[h]) "Kind").run Tryz.prog w = .ok (213, h) w := by kernel_rfl
theorem as_kindP (w : World) : ((ReflectliteType.abiMethod fun t=>(fun a : Nat=>Value.int IntKind.u8 (a : Int)) <$> Rtype.kind t) #[.pointer (some ⟨14,169,none⟩)]).run Tryz.prog w=.ok (.int .u8 22) w:=by kernel_rfl
theorem as_kindE (w : World) : ((ReflectliteType.abiMethod fun t=>(fun a : Nat=>Value.int IntKind.u8 (a : Int)) <$> Rtype.kind t) #[.pointer (some ⟨14,53,none⟩)]).run Tryz.prog w=.ok (.int .u8 2) w:=by kernel_rfl

theorem as_rlm (z : Sem Value) (f : TypeId→Addr→Nat→Nat→Sem Value) (v : Value) :
  ReflectliteValue.method z f #[v]=(do match ← ReflectliteValue.parts v with | none=>z | some (t,a,fl)=>f t a fl (fl % 32)):=rfl
theorem as_partsP (a : Addr) (w : World) : (ReflectliteValue.parts (.agg #[.pointer (some ⟨14,169,none⟩),.pointer (some a),.int .u64 150])).run Tryz.prog w=.ok (some (169,a,150)) w:=by kernel_rfl
theorem as_isNilP (a p : Addr) (W : World) (ha : W.cell? a=some (.pointer (some p))) :
  (ReflectliteValue.method (ReflectliteValue.valueError "reflectlite.Value.IsNil" 0) ReflectliteValue.isNil #[.agg #[.pointer (some ⟨14, 169, none⟩), .pointer (some a), .int .u64 150]]).run Tryz.prog W = .ok (.bool false) W := by
 rw [as_rlm]
 simp only [Sem.run_bind,as_partsP,Result.andThen]
 simp [ReflectliteValue.isNil,loadVar,isAgg,underlying,Tryz.underlying169,ha,Result.andThen]

theorem as_methodElem (h : Value) (w : World) : (Go.method 385 201 (.agg #[h]) "Elem").run Tryz.prog w = .ok (225, .agg #[h]) w := by kernel_rfl
theorem as_methodImplements (h : Value) (w : World) : (Go.method 385 201 (.agg #[h]) "Implements").run Tryz.prog w = .ok (226, .agg #[h]) w := by kernel_rfl
theorem as_methodAssignableTo (h : Value) (w : World) : (Go.method 385 201 (.agg #[h]) "AssignableTo").run Tryz.prog w = .ok (223, .agg #[h]) w := by kernel_rfl
theorem as_elemP (w : World) : (ReflectliteType.method ReflectliteType.elem #[.agg #[.pointer (some ⟨14,169,none⟩)]]).run Tryz.prog w=.ok (.iface 201 (.agg #[.pointer (some ⟨14,53,none⟩)])) w:=by kernel_rfl
theorem as_implementsE (w : World) : (ReflectliteType.relation "Implements" ReflectliteType.implements_ #[.agg #[.pointer (some ⟨14, 53, none⟩)], .iface 201 (.agg #[.pointer (some ⟨14, 42, none⟩)])]).run Tryz.prog w = .ok (.bool true) w := by kernel_rfl
theorem as_typeOfE (v : Value) (w : World) : (ReflectliteType.typeOf #[.iface 53 v]).run Tryz.prog w=.ok (.iface 201 (.agg #[.pointer (some ⟨14,53,none⟩)])) w:=by kernel_rfl
theorem as_assignableE (w : World) : (ReflectliteType.relation "AssignableTo" ReflectliteType.assignableTo #[.agg #[.pointer (some ⟨14, 53, none⟩)], .iface 201 (.agg #[.pointer (some ⟨14, 53, none⟩)])]).run Tryz.prog w = .ok (.bool true) w := by kernel_rfl
theorem as_valueOfE (m : Int) (w : World) : (ReflectliteValue.unpack (.iface 53 (.int .i64 m))).run Tryz.prog w
  = .ok (.agg #[.pointer (some ⟨14,53,none⟩),.pointer (some ⟨w.heap.size,0,none⟩),.int .u64 130]) (w.alloc (.cells #[.int .i64 m] 53)):=by kernel_rfl

theorem as_elemOfP (w : World) : (Rtype.elem? 169).run Tryz.prog w=.ok (some 53) w:=by kernel_rfl
theorem as_mkE (p : Addr) (w : World) : (ReflectliteValue.mk 53 p ReflectliteValue.flagAddr).run Tryz.prog w=.ok (.agg #[.pointer (some ⟨14,53,none⟩),.pointer (some p),.int .u64 386]) w:=by kernel_rfl
theorem as_elemVP (a p : Addr) (W : World) (ha : W.cell? a=some (.pointer (some p))) :
  (ReflectliteValue.method (ReflectliteValue.valueError "reflectlite.Value.Elem" 0) ReflectliteValue.elem #[.agg #[.pointer (some ⟨14, 169, none⟩), .pointer (some a), .int .u64 150]]).run Tryz.prog W
   = .ok (.agg #[.pointer (some ⟨14,53,none⟩),.pointer (some p),.int .u64 386]) W:=by
 rw [as_rlm]
 simp only [Sem.run_bind,as_partsP,Result.andThen]
 simp [ReflectliteValue.elem,loadVar,isAgg,underlying,Tryz.underlying169,ha,Result.andThen,as_elemOfP,as_mkE]
theorem as_rls (v x : Value) : ReflectliteValue.set #[v,x]=(do
  let (some (dst,a,fl),some (src,b,_)):=(← ReflectliteValue.parts v,← ReflectliteValue.parts x)
   | unsupported (.noEntry "extern/(internal/reflectlite.Value).Set.zeroValue")
  if fl / ReflectliteValue.flagAddr % 2 == 0 then unsupported (.noEntry "extern/(internal/reflectlite.Value).Set.unaddressable")
  let val ← loadVar src b
  if ← Rtype.directlyAssignable dst src then storeVar dst a val
  else if ← Rtype.implements dst src then
   if (← Rtype.kind src) == 20 then
    match val with
    | .nilIface => unsupported (.noEntry "extern/reflectlite: a nil value of one interface type handed on as a value of another")
    | _=>storeVar dst a val
   else storeVar dst a (.iface src val)
  else panicString ("reflectlite.Set: value of type " ++ (← Rtype.spelt src) ++ " is not assignable to type " ++ (← Rtype.spelt dst))
  pure (.tuple #[])):=rfl
theorem as_partsEa (a : Addr) (w : World) : (ReflectliteValue.parts (.agg #[.pointer (some ⟨14,53,none⟩),.pointer (some a),.int .u64 386])).run Tryz.prog w=.ok (some (53,a,386)) w:=by kernel_rfl
theorem as_partsE (a : Addr) (w : World) : (ReflectliteValue.parts (.agg #[.pointer (some ⟨14,53,none⟩),.pointer (some a),.int .u64 130])).run Tryz.prog w=.ok (some (53,a,130)) w:=by kernel_rfl
theorem as_directE (w : World) : (Rtype.directlyAssignable 53 53).run Tryz.prog w=.ok true w:=by kernel_rfl
theorem as_setE (ta b : Addr) (m : Int) (old : Value) (W : World) (hb : W.cell? b=some (.int .i64 m)) (ht : W.cell? ta=some old) (hf : W.frozen? ta=false) :
  (ReflectliteValue.set #[.agg #[.pointer (some ⟨14,53,none⟩),.pointer (some ta),.int .u64 386],.agg #[.pointer (some ⟨14,53,none⟩),.pointer (some b),.int .u64 130]]).run Tryz.prog W
   = .ok (.tuple #[]) (W.setCell ta (.int .i64 m)):=by
 rw [as_rls]
 simp only [Sem.run_bind,as_partsEa,as_partsE,Result.andThen]
 simp [ReflectliteValue.flagAddr,loadVar,isAgg,underlying,Tryz.underlying53,hb,Result.andThen,as_directE,storeVar,Value.cells,storeCells,Addr.add]
 rw [run_store Tryz.prog W ta _ _ (by rfl)]
 simp [ht,hf]

noncomputable def asW (t : Addr) (m : Int) (w : World) : World:=((((w.alloc (.cells #[.pointer (some t)] 169)).alloc (.cells #[.pointer (some ⟨14,169,none⟩),.pointer (some ⟨w.heap.size,0,none⟩),.int .u64 150] 173)).alloc (.cells #[.pointer (some ⟨14,169,none⟩),.pointer (some ⟨w.heap.size,0,none⟩),.int .u64 150] 173)).alloc (.cells #[.int .i64 m] 53)).setCell t (.int .i64 m)

set_option maxHeartbeats 4000000 in
theorem as_hit (m : Int) (t : Addr) (old : Value) (w : World) (hg : w.cell? ⟨6,0,none⟩=some (.iface 201 (.agg #[.pointer (some ⟨14,42,none⟩)]))) (ht0 : w.cell? t=some old) (hf0 : w.frozen? t=false) :
  Calls Tryz.prog 120 #[.iface 53 (.int .i64 m),.iface 169 (.pointer (some t))] w fun ev w'=>ev=.returned (.bool true)∧w'=asW t m w:=by
 have h6:=@run_callFunc_extern Tryz.prog 121 _ (fun args=>ReflectliteValue.unpack (args.getD 0 (.tuple #[]))) Tryz.func121 (by kernel_rfl) (by kernel_rfl) (by kernel_rfl) (by kernel_rfl)
 have h7 := @run_callFunc_extern Tryz.prog 142 _ (ReflectliteValue.methodAny (ReflectliteValue.valueError "reflectlite.Value.Type" 0) (fun t _ _ _ => ReflectliteType.toType t)) Tryz.func142 (by kernel_rfl) (by kernel_rfl) (by kernel_rfl) (by kernel_rfl)
 have h8 := @run_callFunc_extern Tryz.prog 143 _ (ReflectliteValue.method (ReflectliteValue.valueError "reflectlite.Value.IsNil" 0) ReflectliteValue.isNil) Tryz.func143 (by kernel_rfl) (by kernel_rfl) (by kernel_rfl) (by kernel_rfl)
 have h27:=@run_callFunc_extern Tryz.prog 213 _ (ReflectliteType.abiMethod fun t=>do pure (.int .u8 (← Rtype.kind t))) Tryz.func213 (by kernel_rfl) (by kernel_rfl) (by kernel_rfl) (by kernel_rfl)
 have h37:=@run_callFunc_extern Tryz.prog 225 _ (ReflectliteType.method ReflectliteType.elem) Tryz.func225 (by kernel_rfl) (by kernel_rfl) (by kernel_rfl) (by kernel_rfl)
 have h38 := @run_callFunc_extern Tryz.prog 226 _ (ReflectliteType.relation "Implements" ReflectliteType.implements_) Tryz.func226 (by kernel_rfl) (by kernel_rfl) (by kernel_rfl) (by kernel_rfl)
 have h10:=@run_callFunc_extern Tryz.prog 163 _ ReflectliteType.typeOf Tryz.func163 (by kernel_rfl) (by kernel_rfl) (by kernel_rfl) (by kernel_rfl)
 have h35 := @run_callFunc_extern Tryz.prog 223 _ (ReflectliteType.relation "AssignableTo" ReflectliteType.assignableTo) Tryz.func223 (by kernel_rfl) (by kernel_rfl) (by kernel_rfl) (by kernel_rfl)
 have h11 := @run_callFunc_extern Tryz.prog 164 _ (ReflectliteValue.method (ReflectliteValue.valueError "reflectlite.Value.Elem" 0) ReflectliteValue.elem) Tryz.func164 (by kernel_rfl) (by kernel_rfl) (by kernel_rfl) (by kernel_rfl)
 have h12:=@run_callFunc_extern Tryz.prog 165 _ ReflectliteValue.set Tryz.func165 (by kernel_rfl) (by kernel_rfl) (by kernel_rfl) (by kernel_rfl)
 have tO:=as_typeOfE
 have mA:=as_methodAssignableTo
 have a25:=as_assignableE
 have v25:=as_valueOfE
 have f6:=as_valueOfP
 have f7:=as_typeP
 have mK:=as_methodKind
 have mE:=as_methodElem
 have mI:=as_methodImplements
 have k27:=as_kindP
 have k25:=as_kindE
 have e27:=as_elemP
 have i25:=as_implementsE
 have n8:=as_isNilP ⟨w.heap.size,0,none⟩ t ((w.alloc (.cells #[.pointer (some t)] 169)).alloc (.cells #[.pointer (some ⟨14,169,none⟩),.pointer (some ⟨w.heap.size,0,none⟩),.int .u64 150] 173)) (by simp)
 have hlt : 6 < w.heap.size:=by
  rcases Nat.lt_or_ge 6 w.heap.size with h | h
  ·exact h
  ·simp [World.cell?,Array.getElem?_eq_none h] at hg
 have hg2 : ((w.alloc (.cells #[.pointer (some t)] 169)).alloc (.cells #[.pointer (some ⟨14,169,none⟩),.pointer (some ⟨w.heap.size,0,none⟩),.int .u64 150] 173)).cell? ⟨6,0,none⟩=some (.iface 201 (.agg #[.pointer (some ⟨14,42,none⟩)])):=by
  rw [World.cell?_alloc_lt _ _ ⟨6,0,none⟩ (by simp <;> omega),World.cell?_alloc_lt _ _ ⟨6,0,none⟩ hlt]; exact hg
 have htl : t.block < w.heap.size:=by
  rcases Nat.lt_or_ge t.block w.heap.size with h | h
  ·exact h
  ·simp [World.cell?,Array.getElem?_eq_none h] at ht0
 have el:=as_elemVP ⟨w.heap.size,0,none⟩ t (((w.alloc (.cells #[.pointer (some t)] 169)).alloc (.cells #[.pointer (some ⟨14,169,none⟩),.pointer (some ⟨w.heap.size,0,none⟩),.int .u64 150] 173)).alloc (.cells #[.pointer (some ⟨14,169,none⟩),.pointer (some ⟨w.heap.size,0,none⟩),.int .u64 150] 173)) (by rw [World.cell?_alloc_lt _ _ ⟨w.heap.size,0,none⟩ (by simp <;> omega)]; simp)
 have st:=as_setE t ⟨w.heap.size + 1 + 1 + 1,0,none⟩ m old ((((w.alloc (.cells #[.pointer (some t)] 169)).alloc (.cells #[.pointer (some ⟨14,169,none⟩),.pointer (some ⟨w.heap.size,0,none⟩),.int .u64 150] 173)).alloc (.cells #[.pointer (some ⟨14,169,none⟩),.pointer (some ⟨w.heap.size,0,none⟩),.int .u64 150] 173)).alloc (.cells #[.int .i64 m] 53))
  (by rw [World.cell?_alloc_at _ _ _ _ (by simp)]; rfl)
  (by rw [World.cell?_alloc_lt _ _ t (by simp <;> omega),World.cell?_alloc_lt _ _ t (by simp <;> omega),World.cell?_alloc_lt _ _ t (by simp <;> omega),World.cell?_alloc_lt _ _ t htl]; exact ht0)
  (by rw [World.frozen?_alloc_old _ _ t (by simp <;> omega),World.frozen?_alloc_old _ _ t (by simp <;> omega),World.frozen?_alloc_old _ _ t (by simp <;> omega),World.frozen?_alloc_old _ _ t (Nat.ne_of_lt htl)]; exact hf0)
 go_enter Tryz.func120,Tryz.ntmps120
 go_wp2
 refine wp_loop_rounds 1 ?_
 rw [rounds_succ]
 go_wp2
 go_ret
 exact ⟨rfl,rfl⟩
end Go.Proofs.YtkoalgjlkcaonaaGreatDoor
/-
  errors.As by its contracts, at the target *Errno: an error that is an At: it is taken apart, and what it holds is set.
-/
namespace Go.Proofs.YtkoalgjlkcaonaaGreatDoor
open Go.RowKit Go.Extern.Stop Go.Stop Go.Extern
theorem as_typeOfA (v : Value) (w : World) : (ReflectliteType.typeOf #[.iface 129 v]).run Tryz.prog w=.ok (.iface 201 (.agg #[.pointer (some ⟨14,129,none⟩)])) w:=by kernel_rfl
theorem as_assignableA (w : World) : (ReflectliteType.relation "AssignableTo" ReflectliteType.assignableTo #[.agg #[.pointer (some ⟨14, 129, none⟩)], .iface 201 (.agg #[.pointer (some ⟨14, 53, none⟩)])]).run Tryz.prog w = .ok (.bool false) w := by kernel_rfl
theorem as_noAs (v : Value) (xT : Nat) (w : World) : (Instr.typeAssert (.iface 129 v) xT 214 true).run Tryz.prog w=.ok (.tuple #[.nilIface,.bool false]) w:=run_typeAssert_lacksB Tryz.underlying214 (by kernel_rfl) (by kernel_rfl) v _ w
theorem as_unw (v : Value) (xT : Nat) (w : World) : (Instr.typeAssert (.iface 129 v) xT 147 true).run Tryz.prog w=.ok (.tuple #[.iface 129 v,.bool true]) w:=run_typeAssert_hasB Tryz.underlying147 (by kernel_rfl) v _ w
theorem as_methodUnw (h : Value) (w : World) : (Go.method 385 129 h "Unwrap").run Tryz.prog w = .ok (218, h) w := by kernel_rfl
set_option maxRecDepth 100000 in
set_option maxHeartbeats 4000000 in
theorem as_hit_at (m : Int) (a t : Addr) (old : Value) (w : World) (ha : w.cell? a=some (.int .i64 m)) (hg : w.cell? ⟨6,0,none⟩=some (.iface 201 (.agg #[.pointer (some ⟨14,42,none⟩)]))) (ht0 : w.cell? t=some old) (hf0 : w.frozen? t=false) :
  Calls Tryz.prog 120 #[.iface 129 (.pointer (some a)),.iface 169 (.pointer (some t))] w fun ev w'=>ev=.returned (.bool true)∧w'=asW t m w:=by
 have h6:=@run_callFunc_extern Tryz.prog 121 _ (fun args=>ReflectliteValue.unpack (args.getD 0 (.tuple #[]))) Tryz.func121 (by kernel_rfl) (by kernel_rfl) (by kernel_rfl) (by kernel_rfl)
 have h7 := @run_callFunc_extern Tryz.prog 142 _ (ReflectliteValue.methodAny (ReflectliteValue.valueError "reflectlite.Value.Type" 0) (fun t _ _ _ => ReflectliteType.toType t)) Tryz.func142 (by kernel_rfl) (by kernel_rfl) (by kernel_rfl) (by kernel_rfl)
 have h8 := @run_callFunc_extern Tryz.prog 143 _ (ReflectliteValue.method (ReflectliteValue.valueError "reflectlite.Value.IsNil" 0) ReflectliteValue.isNil) Tryz.func143 (by kernel_rfl) (by kernel_rfl) (by kernel_rfl) (by kernel_rfl)
 have h27:=@run_callFunc_extern Tryz.prog 213 _ (ReflectliteType.abiMethod fun t=>do pure (.int .u8 (← Rtype.kind t))) Tryz.func213 (by kernel_rfl) (by kernel_rfl) (by kernel_rfl) (by kernel_rfl)
 have h37:=@run_callFunc_extern Tryz.prog 225 _ (ReflectliteType.method ReflectliteType.elem) Tryz.func225 (by kernel_rfl) (by kernel_rfl) (by kernel_rfl) (by kernel_rfl)
 have h38 := @run_callFunc_extern Tryz.prog 226 _ (ReflectliteType.relation "Implements" ReflectliteType.implements_) Tryz.func226 (by kernel_rfl) (by kernel_rfl) (by kernel_rfl) (by kernel_rfl)
 have h10:=@run_callFunc_extern Tryz.prog 163 _ ReflectliteType.typeOf Tryz.func163 (by kernel_rfl) (by kernel_rfl) (by kernel_rfl) (by kernel_rfl)
 have h35 := @run_callFunc_extern Tryz.prog 223 _ (ReflectliteType.relation "AssignableTo" ReflectliteType.assignableTo) Tryz.func223 (by kernel_rfl) (by kernel_rfl) (by kernel_rfl) (by kernel_rfl)
 have h11 := @run_callFunc_extern Tryz.prog 164 _ (ReflectliteValue.method (ReflectliteValue.valueError "reflectlite.Value.Elem" 0) ReflectliteValue.elem) Tryz.func164 (by kernel_rfl) (by kernel_rfl) (by kernel_rfl) (by kernel_rfl)
 have h12:=@run_callFunc_extern Tryz.prog 165 _ ReflectliteValue.set Tryz.func165 (by kernel_rfl) (by kernel_rfl) (by kernel_rfl) (by kernel_rfl)
 have tO:=as_typeOfE
 have tA:=as_typeOfA
 have aA:=as_assignableA
 have nA:=as_noAs
 have uA:=as_unw
 have mU:=as_methodUnw
 have mA:=as_methodAssignableTo
 have a25:=as_assignableE
 have v25:=as_valueOfE
 have f6:=as_valueOfP
 have f7:=as_typeP
 have mK:=as_methodKind
 have mE:=as_methodElem
 have mI:=as_methodImplements
 have k27:=as_kindP
 have k25:=as_kindE
 have e27:=as_elemP
 have i25:=as_implementsE
 have n8:=as_isNilP ⟨w.heap.size,0,none⟩ t ((w.alloc (.cells #[.pointer (some t)] 169)).alloc (.cells #[.pointer (some ⟨14,169,none⟩),.pointer (some ⟨w.heap.size,0,none⟩),.int .u64 150] 173)) (by simp)
 have hlt : 6 < w.heap.size:=by
  rcases Nat.lt_or_ge 6 w.heap.size with h | h
  ·exact h
  ·simp [World.cell?,Array.getElem?_eq_none h] at hg
 have hg2 : ((w.alloc (.cells #[.pointer (some t)] 169)).alloc (.cells #[.pointer (some ⟨14,169,none⟩),.pointer (some ⟨w.heap.size,0,none⟩),.int .u64 150] 173)).cell? ⟨6,0,none⟩=some (.iface 201 (.agg #[.pointer (some ⟨14,42,none⟩)])):=by
  rw [World.cell?_alloc_lt _ _ ⟨6,0,none⟩ (by simp <;> omega),World.cell?_alloc_lt _ _ ⟨6,0,none⟩ hlt]; exact hg
 have htl : t.block < w.heap.size:=by
  rcases Nat.lt_or_ge t.block w.heap.size with h | h
  ·exact h
  ·simp [World.cell?,Array.getElem?_eq_none h] at ht0
 have el:=as_elemVP ⟨w.heap.size,0,none⟩ t (((w.alloc (.cells #[.pointer (some t)] 169)).alloc (.cells #[.pointer (some ⟨14,169,none⟩),.pointer (some ⟨w.heap.size,0,none⟩),.int .u64 150] 173)).alloc (.cells #[.pointer (some ⟨14,169,none⟩),.pointer (some ⟨w.heap.size,0,none⟩),.int .u64 150] 173)) (by rw [World.cell?_alloc_lt _ _ ⟨w.heap.size,0,none⟩ (by simp <;> omega)]; simp)
 have st:=as_setE t ⟨w.heap.size + 1 + 1 + 1,0,none⟩ m old ((((w.alloc (.cells #[.pointer (some t)] 169)).alloc (.cells #[.pointer (some ⟨14,169,none⟩),.pointer (some ⟨w.heap.size,0,none⟩),.int .u64 150] 173)).alloc (.cells #[.pointer (some ⟨14,169,none⟩),.pointer (some ⟨w.heap.size,0,none⟩),.int .u64 150] 173)).alloc (.cells #[.int .i64 m] 53))
  (by rw [World.cell?_alloc_at _ _ _ _ (by simp)]; rfl)
  (by rw [World.cell?_alloc_lt _ _ t (by simp <;> omega),World.cell?_alloc_lt _ _ t (by simp <;> omega),World.cell?_alloc_lt _ _ t (by simp <;> omega),World.cell?_alloc_lt _ _ t htl]; exact ht0)
  (by rw [World.frozen?_alloc_old _ _ t (by simp <;> omega),World.frozen?_alloc_old _ _ t (by simp <;> omega),World.frozen?_alloc_old _ _ t (by simp <;> omega),World.frozen?_alloc_old _ _ t (Nat.ne_of_lt htl)]; exact hf0)
 have hal : a.block < w.heap.size:=by
  rcases Nat.lt_or_ge a.block w.heap.size with h | h
  ·exact h
  ·simp [World.cell?,Array.getElem?_eq_none h] at ha
 have la : (((w.alloc (.cells #[.pointer (some t)] 169)).alloc (.cells #[.pointer (some ⟨14,169,none⟩),.pointer (some ⟨w.heap.size,0,none⟩),.int .u64 150] 173)).alloc (.cells #[.pointer (some ⟨14,169,none⟩),.pointer (some ⟨w.heap.size,0,none⟩),.int .u64 150] 173)).cell? a=some (.int .i64 m):=by
  rw [World.cell?_alloc_lt _ _ a (by simp <;> omega),World.cell?_alloc_lt _ _ a (by simp <;> omega),World.cell?_alloc_lt _ _ a hal]; exact ha
 go_enter Tryz.func120,Tryz.ntmps120
 go_wp2
 refine wp_loop_rounds 2 ?_
 rw [rounds_succ]
 go_wp2
 rw [rounds_succ]
 go_wp2
 go_ret
 exact ⟨rfl,rfl⟩
end Go.Proofs.YtkoalgjlkcaonaaGreatDoor
/-
  Errors as the ghost machine has them.
-/
namespace Go.Proofs.YtkoalgjlkcaonaaGreatDoor
open Go.GK
def erG : Option Int→GV
 | none=>.v .nilIface
 | some m=>.ifc 53 (gi m)
def erN : Option Int→Int
 | none=>0
 | some m=>m

end Go.Proofs.YtkoalgjlkcaonaaGreatDoor
/-
  Contracts: errors told apart (errors.As, api.Tell, plain.Place, raingaugelaw.is, bare): no error, or an Errno.
-/
namespace Go.Proofs.YtkoalgjlkcaonaaGreatDoor
open Go.GK Go.RowKit
set_option maxRecDepth 100000
abbrev rtV : Value:=.iface 201 (.agg #[.pointer (some ⟨14,42,none⟩)])
theorem errG_of {H : Hid} {σ : Heap} {w : World} (hg : GlOk pg H) (hs : Sat H σ w) : w.cell? ⟨6,0,none⟩=some rtV:=hg.cell hs rfl

theorem below4 (w : World) (a b c d : Obj) : Below w.heap.size w ((((w.alloc a).alloc b).alloc c).alloc d):=by
 have h : ∀ (w : World) (o : Obj),w.heap.size≤(w.alloc o).heap.size:=fun w o=>by show _≤(w.heap.push o).size; simp
 have h1:=h w a
 have h2:=h (w.alloc a) b
 have h3:=h ((w.alloc a).alloc b) c
 exact ((((Below.refl _ _).alloc (Nat.le_refl _) a).alloc h1 b).alloc (Nat.le_trans h1 h2) c).alloc (Nat.le_trans h1 (Nat.le_trans h2 h3)) d
theorem asW_below (t : Addr) (m : Int) (w : World) : ∃ w5,Below w.heap.size w w5∧asW t m w=w5.setCell t (.int .i64 m):=by
 exact ⟨_,below4 _ _ _ _ _,rfl⟩
theorem as_ct (m old : Int) : Ct pg 120 1 [.ifc 53 (gi m),.ifc 169 (.p 0 0)] [(0,.blk 53 [gi old])] (fun g σ n=>g=.v (.bool true)∧σ=[(0,.blk 53 [gi m])]∧n=1) :=
 Ct.set1 (p:=pg) (G:=fun w=>w.cell? ⟨6,0,none⟩=some rtV) (.int .i64 m) (.int .i64 old) (.int .i64 m) (.bool true) (fun _ _ _ hg hs=>errG_of hg hs) fun t w hg h1 h2 =>
  (as_hit m t _ w hg h1 h2).mono fun e w' ⟨he,hw⟩=>by
   obtain ⟨w5,hb,hw5⟩:=asW_below t m w
   exact ⟨he,w5,hb,hw.trans hw5⟩

theorem tell_ct (x : Option Int) : Ct pg 90 0 [erG x] [] (Val fun g=>g=gi (erN x)):=by
 refine Ct.val (Ct.of_JK pg_ok Tryz.func90 rfl Tryz.ntmps90 rfl Tryz.results90 fun H0 S0 w0 h0 g0=>?_)
 cases x with
 | none =>
  refine vc_sound pg_ok 200 _ _ ?_
  refine pos rfl ?_
  exact ⟨rfl,rfl⟩
 | some m =>
  refine vc_sound pg_ok 200 _ _ ?_
  refine neg rfl ?_
  refine JK.call (n0:=1) (r:=id) (as_ct m 0) Tryz.call120 rfl rfl rfl rfl rfl ⟨rfl,trivial⟩ rfl (by simp) ?_
  rintro g σ' n' ⟨rfl,rfl,rfl⟩
  refine vc_sound pg_ok 200 _ _ ?_
  exact ⟨rfl,rfl⟩
theorem noAt (u : Value) (w : World) : (Instr.typeAssert (.iface 53 u) 42 129 true).run Tryz.prog w=.ok (.tuple #[.pointer none,.bool false]) w:=by kernel_rfl
theorem noUnwrap (u : Value) (w : World) : (Instr.typeAssert (.iface 53 u) 42 147 true).run Tryz.prog w=.ok (.tuple #[.nilIface,.bool false]) w:=run_typeAssert_lacksB Tryz.underlying147 (by kernel_rfl) (by kernel_rfl) u _ w
theorem tup2 {H : Hid} {a b : Value} : Is H (.tup [.v a,.v b]) (.tuple #[a,b]):=.tup rfl fun j g hj=>by
 match j with
 | 0=>simp at hj; subst hj; exact .ro (.v a)
 | 1=>simp at hj; subst hj; exact .ro (.v b)
 | j + 2=>simp at hj
theorem place_ct (x : Option Int) : Ct pg 53 0 [erG x] [] (Val fun g=>g=.tup [gi (erN x),gi (-1)]):=by
 refine Ct.val (Ct.of_JK pg_ok Tryz.func53 rfl Tryz.ntmps53 rfl Tryz.results53 fun H0 S0 w0 h0 g0=>?_)
 cases x with
 | none =>
  refine vc_sound pg_ok 200 _ _ ?_
  refine JK.call (n0:=0) (r:=id) (tell_ct none) Tryz.call90 rfl rfl rfl rfl rfl trivial rfl (by simp) ?_
  rintro g σ' n' ⟨rfl,rfl,rfl⟩
  refine vc_sound pg_ok 200 _ _ ?_
  refine JK.loopE (α:=Unit) (β:=Unit) (fun _=>⟨[(0,.v .nilIface),(4,gi 0)],[],0⟩) (fun _=>True) (fun _=>0) (fun _=>⟨[(4,gi 0)],[],0⟩) (fun _=>True) () id ?_ trivial ?_ ?_
  ·exact ⟨⟨rfl,rfl,trivial⟩,trivial,rfl⟩
  ·intro _ _
   refine vc_sound pg_ok 200 _ _ ?_
   refine neg rfl ?_
   exact ⟨(),id,⟨⟨rfl,trivial⟩,trivial,rfl⟩,trivial⟩
  ·intro _ _
   refine vc_sound pg_ok 200 _ _ ?_
   exact ⟨rfl,rfl⟩
 | some m =>
  refine vc_sound pg_ok 200 _ _ ?_
  refine JK.call (n0:=0) (r:=id) (tell_ct (some m)) Tryz.call90 rfl rfl rfl rfl rfl trivial rfl (by simp) ?_
  rintro g σ' n' ⟨rfl,rfl,rfl⟩
  refine vc_sound pg_ok 200 _ _ ?_
  refine JK.loopE (α:=Unit) (β:=Unit) (fun _=>⟨[(0,.ifc 53 (gi m)),(4,gi m)],[],0⟩) (fun _=>True) (fun _=>0) (fun _=>⟨[(4,gi m)],[],0⟩) (fun _=>True) () id ?_ trivial ?_ ?_
  ·exact ⟨⟨rfl,rfl,trivial⟩,trivial,rfl⟩
  ·intro _ _
   refine vc_sound pg_ok 200 _ _ ?_
   refine pos rfl ?_
   refine JK.tassert (t:=53) (g:=gi m) (r:=.tup [.v (.pointer none),.v (.bool false)]) (fun H u w _=>⟨_,noAt u w,tup2⟩) rfl rfl rfl ?_
   refine vc_sound pg_ok 200 _ _ ?_
   refine JK.tassert (t:=53) (g:=gi m) (r:=.tup [.v .nilIface,.v (.bool false)]) (fun H u w _=>⟨_,noUnwrap u w,tup2⟩) rfl rfl rfl ?_
   refine vc_sound pg_ok 200 _ _ ?_
   exact ⟨(),id,⟨⟨rfl,trivial⟩,trivial,rfl⟩,trivial⟩
  ·intro _ _
   refine vc_sound pg_ok 200 _ _ ?_
   exact ⟨rfl,rfl⟩
theorem is_ct (x : Option Int) (e p : Int) : Ct pg 18 0 [erG x,.agg [gi e,gi p]] [] (Val fun g=>g=.b (erN x == e && -1 == p)):=by
 refine Ct.bool (Ct.of_JK pg_ok Tryz.func18 rfl Tryz.ntmps18 rfl Tryz.results18 fun H0 S0 w0 h0 g0=>?_)
 cases x with
 | none =>
  refine vc_sound pg_ok 200 _ _ ?_
  refine JK.call (n0:=0) (r:=id) (place_ct none) Tryz.call53 rfl rfl rfl rfl rfl trivial rfl (by simp) ?_
  rintro g σ' n' ⟨rfl,rfl,rfl⟩
  refine vc_sound pg_ok 200 _ _ ?_
  refine ⟨fun h=>?_,fun h=>?_⟩
  ·refine .inr (congrArg GV.b ?_)
   show _=(((0 : Int) == e) && _)
   rw [show ((0 : Int) == e)=true from h]; rfl
  ·refine .inl (congrArg (fun c=>GV.v (.bool c)) ?_)
   show _=(((0 : Int) == e) && _)
   rw [show ((0 : Int) == e)=false from h]; rfl
 | some m =>
  refine vc_sound pg_ok 200 _ _ ?_
  refine JK.call (n0:=0) (r:=id) (place_ct (some m)) Tryz.call53 rfl rfl rfl rfl rfl trivial rfl (by simp) ?_
  rintro g σ' n' ⟨rfl,rfl,rfl⟩
  refine vc_sound pg_ok 200 _ _ ?_
  refine ⟨fun h=>?_,fun h=>?_⟩
  ·refine .inr (congrArg GV.b ?_)
   show _=((m == e) && _)
   rw [show (m == e)=true from h]; rfl
  ·refine .inl (congrArg (fun c=>GV.v (.bool c)) ?_)
   show _=((m == e) && _)
   rw [show (m == e)=false from h]; rfl
theorem refBare_ct (e : Int) : Ct pg 61 0 [gi e] [] (Val fun g=>g=.agg [gi e,gi (-1)]):=by
 refine Ct.val (Ct.of_JK pg_ok Tryz.func61 rfl Tryz.ntmps61 rfl Tryz.results61 fun H0 S0 w0 h0 g0=>?_)
 refine vc_sound pg_ok 200 _ _ ?_
 exact ⟨rfl,rfl⟩
theorem bare_ct (x : Option Int) (e : Int) : Ct pg 25 0 [erG x,gi e] [] (Val fun g=>g=.b (erN x == e)):=by
 have fin : ∀ c : Bool,(c && ((-1 : Int) == -1))=c:=fun c=>by cases c <;> rfl
 refine Ct.val (Ct.of_JK pg_ok Tryz.func25 rfl Tryz.ntmps25 rfl Tryz.results25 fun H0 S0 w0 h0 g0=>?_)
 cases x with
 | none =>
  refine vc_sound pg_ok 200 _ _ ?_
  refine JK.call (n0:=0) (r:=id) (refBare_ct e) Tryz.call61 rfl rfl rfl rfl rfl trivial rfl (by simp) ?_
  rintro g σ' n' ⟨rfl,rfl,rfl⟩
  refine vc_sound pg_ok 200 _ _ ?_
  refine JK.call (n0:=0) (r:=id) (is_ct none e (-1)) Tryz.call18 rfl rfl rfl rfl rfl trivial rfl (by simp) ?_
  rintro g σ' n' ⟨rfl,rfl,rfl⟩
  refine vc_sound pg_ok 200 _ _ ?_
  exact ⟨congrArg GV.b (fin _),rfl⟩
 | some m =>
  refine vc_sound pg_ok 200 _ _ ?_
  refine JK.call (n0:=0) (r:=id) (refBare_ct e) Tryz.call61 rfl rfl rfl rfl rfl trivial rfl (by simp) ?_
  rintro g σ' n' ⟨rfl,rfl,rfl⟩
  refine vc_sound pg_ok 200 _ _ ?_
  refine JK.call (n0:=0) (r:=id) (is_ct (some m) e (-1)) Tryz.call18 rfl rfl rfl rfl rfl trivial rfl (by simp) ?_
  rintro g σ' n' ⟨rfl,rfl,rfl⟩
  refine vc_sound pg_ok 200 _ _ ?_
  exact ⟨congrArg GV.b (fin _),rfl⟩
end Go.Proofs.YtkoalgjlkcaonaaGreatDoor
/-
  Contracts: errors told apart: an error at a place (*api.At).
-/
namespace Go.Proofs.YtkoalgjlkcaonaaGreatDoor
open Go.GK Go.RowKit
set_option maxRecDepth 100000
abbrev atG (m p : Int) : GV:=.ifc 129 (.r [gi m,gi p])
theorem asAt_ct (m p old : Int) : Ct pg 120 1 [atG m p,.ifc 169 (.p 0 0)] [(0,.blk 53 [gi old])] (fun g σ n=>g=.v (.bool true)∧σ=[(0,.blk 53 [gi m])]∧n=1) :=
 Ct.set1g (p:=pg) (G:=fun u w=>w.cell? ⟨6,0,none⟩=some rtV∧∃ a,u=.pointer (some a)∧w.cell? a=some (.int .i64 m)) (.r [gi m,gi p]) (.int .i64 old) (.int .i64 m) (.bool true) (fun _ _ _ _ hg hs hi=>⟨errG_of hg hs,hi.r0 hs⟩) fun u t w hg h1 h2=>by
  obtain ⟨hg,a,rfl,ha⟩:=hg
  refine (as_hit_at m a t _ w ha hg h1 h2).mono fun e w' ⟨he,hw⟩=>?_
  obtain ⟨w5,hb,hw5⟩:=asW_below t m w
  exact ⟨he,w5,hb,hw.trans hw5⟩
theorem tellAt_rt (m p : Int) : Rt pg 90 [atG m p] (gi m):=by
 refine Rt.of pg_ok Tryz.func90 rfl Tryz.ntmps90 rfl Tryz.results90 Tryz.call90 fun H0 S0 w0 h0 g0=>?_
 refine p2 ?_
 refine JK.call (n0:=1) (r:=id) (asAt_ct m p 0) Tryz.call120 rfl rfl rfl rfl rfl ⟨rfl,trivial⟩ rfl (by simp) ?_
 rintro g σ' n' ⟨rfl,rfl,rfl⟩
 refine V ?_
 exact ⟨rfl,rfl⟩
theorem isAt (u : Value) (w : World) : (Instr.typeAssert (.iface 129 u) 42 129 true).run Tryz.prog w=.ok (.tuple #[u,.bool true]) w:=by kernel_rfl
theorem tupR {H : Hid} {x : GV} {a b : Value} (h : Is H x a) : Is H (.tup [x,.v b]) (.tuple #[a,b]):=.tup rfl fun j g hj=>by
 match j with
 | 0=>simp at hj; subst hj; exact h
 | 1=>simp at hj; subst hj; exact .ro (.v b)
 | j + 2=>simp at hj
theorem placeAt_rt (m p : Int) : Rt pg 53 [atG m p] (.tup [gi m,gi p]):=by
 refine Rt.of pg_ok Tryz.func53 rfl Tryz.ntmps53 rfl Tryz.results53 Tryz.call53 fun H0 S0 w0 h0 g0=>?_
 refine GO (tellAt_rt m p) rfl ?_
 refine JK.loopE (α:=Unit) (β:=Unit) (fun _=>⟨[(0,atG m p),(4,gi m)],[],0⟩) (fun _=>True) (fun _=>0) (fun _=>⟨[],[],0⟩) (fun _=>False) () id ?_ trivial ?_ ?_
 ·exact ⟨⟨rfl,rfl,trivial⟩,trivial,rfl⟩
 ·intro _ _
  refine V ?_
  refine p1 ?_
  refine JK.tassert (t:=129) (g:=.r [gi m,gi p]) (r:=.tup [.r [gi m,gi p],.v (.bool true)]) (fun H u w hu=>⟨_,isAt u w,tupR hu⟩) rfl rfl rfl ?_
  refine V ?_
  repeat (first | refine p1 ?_ | refine p2 ?_ | refine p3 ?_ | refine p4 ?_)
  refine ⟨by kernel_rfl,?_⟩
  exact ⟨⟨rfl,rfl,trivial⟩,rfl⟩
 ·intro _ h
  exact h.elim
theorem isAt_rt (m p e q : Int) : Rt pg 18 [atG m p,.agg [gi e,gi q]] (.b (m == e && p == q)):=by
 refine Rt.of pg_ok Tryz.func18 rfl Tryz.ntmps18 rfl Tryz.results18 Tryz.call18 fun H0 S0 w0 h0 g0=>?_
 refine GO (placeAt_rt m p) rfl ?_
 rcases tf (m == e) with h | h
 ·refine p1 ?_ h
  exact ⟨by rw [h]; rfl,rfl⟩
 ·refine p2 ?_ h
  exact ⟨by rw [h]; rfl,rfl⟩
theorem isE_rt (x : Option Int) (e p : Int) : Rt pg 18 [erG x,.agg [gi e,gi p]] (.b (erN x == e && -1 == p)):=Rq.old Tryz.call18 (is_ct x e p)
theorem bareE_rt (x : Option Int) (e : Int) : Rt pg 25 [erG x,gi e] (.b (erN x == e)):=Rq.old Tryz.call25 (bare_ct x e)
end Go.Proofs.YtkoalgjlkcaonaaGreatDoor
/-
  Contracts: a reader of bytes (code.Reader): a number, a size, a text, labels.
-/
namespace Go.Proofs.YtkoalgjlkcaonaaGreatDoor
open Go.GK Go.PL Go.RowKit
set_option maxRecDepth 100000
section
variable {α : Type}
end
end Go.Proofs.YtkoalgjlkcaonaaGreatDoor
/-
  Contracts: a reader of bytes (code.Reader): a size, a text, labels; whether it is bad, whether it is done.
-/
namespace Go.Proofs.YtkoalgjlkcaonaaGreatDoor
open Go.GK Go.PL Go.RowKit
set_option maxRecDepth 100000
end Go.Proofs.YtkoalgjlkcaonaaGreatDoor
/-
  Contracts: a reader of bytes (code.Reader): labels.
-/
namespace Go.Proofs.YtkoalgjlkcaonaaGreatDoor
open Go.GK Go.PL Go.RowKit
set_option maxRecDepth 100000
end Go.Proofs.YtkoalgjlkcaonaaGreatDoor
