/-
  Contracts: two results put together (eval.both).
-/
import Derived.Test.YtkoalgjlkcaonaaGreatDoorK10
import Derived.Test.YtkoalgjlkcaonaaGreatDoorK08
import Derived.Test.YtkoalgjlkcaonaaGreatDoorK07
import Derived.Test.YtkoalgjlkcaonaaGreatDoorK05
set_option linter.unusedSimpArgs false
namespace Go.Proofs.YtkoalgjlkcaonaaGreatDoor
open Go.GK Go.PL Go.RowKit
set_option maxRecDepth 100000
theorem fm_snoc {α β : Type} (g : α→Option β) (l : List α) (j : Nat) (h : j < l.length) : (l.take (j + 1)).filterMap g=(l.take j).filterMap g++(g l[j]).toList:=by
 rw [List.take_add_one,List.getElem?_eq_getElem h,List.filterMap_append]
 congr 1
theorem fl_snoc {α β : Type} (f : α→List β) (l : List α) (i : Nat) (h : i < l.length) : (l.take (i + 1)).flatMap f=(l.take i).flatMap f++f l[i]:=by
 rw [List.take_add_one,List.getElem?_eq_getElem h,List.flatMap_append]
 simp
theorem fl_len {α β : Type} (f : α→List β) (n : Nat) (hf : ∀ x,(f x).length≤n) : ∀ l : List α,(l.flatMap f).length≤l.length * n
 | []=>by simp
 | x :: l=>by
  rw [List.flatMap_cons,List.length_append,List.length_cons,Nat.succ_mul]
  have h1:=hf x
  have h2:=fl_len f n hf l
  omega
def r3 : Nat→Nat:=fun i=>bif Nat.beq i 0 then 0 else bif Nat.beq i 1 then 4 else 5
theorem r3_lt {n : Nat} (h : Nat.blt 5 n=true) : ∀ i,i < 3→r3 i < n:=fun i hi=>by
 have h5 : 5 < n:=by simpa using h
 have : i=0∨i=1∨i=2:=by omega
 rcases this with rfl | rfl | rfl
 ·show 0 < n; omega
 ·show 4 < n; omega
 ·exact h5
theorem both_t (c : Int) (al bl : List Pt) (b2 : Bool) (ha : al.length≤1000) (hb : bl.length≤1000) (hla : ∀ p ∈ al,p.labels.length≤1000000) (hlb : ∀ p ∈ bl,p.labels.length≤1000000) :
  Rt pg 97 [gi c,cameG (al,true),cameG (bl,b2)] (cameG (bothQ c (al,true) (bl,b2))):=by
 rw [bothQ_is]
 refine Rt.of pg_ok Tryz.func97 rfl Tryz.ntmps97 rfl Tryz.results97 Tryz.call97 fun H0 S0 w0 h0 g0=>?_
 have hal : (al.map ptc).length=al.length:=by simp
 have hbl : (bl.map ptc).length=bl.length:=by simp
 refine JK.ownNilB 4 0 47 2 rfl rfl ?_
 refine FZB 1 rfl rfl ?_
 refine FZB 2 rfl rfl ?_
 have hO : ∀ i,i≤al.length→((al.take i).flatMap (fun p=>bl.filterMap (pairQ c (al,true) (bl,b2) p))).length≤i * bl.length:=fun i hi=>by
  have:=fl_len (fun p=>bl.filterMap (pairQ c (al,true) (bl,b2) p)) bl.length (fun p=>List.length_filterMap_le _ _) (al.take i)
  rwa [List.length_take,Nat.min_eq_left hi] at this
 refine JK.loopE (α:=Nat) (β:=Unit) (fun i=>⟨[(4,.r [pts al,.v (.bool true)]),(5,.r [pts bl,.v (.bool b2)]),(6,.p 3 0),(7,.p 4 0),(8,.fn (.func 131) [] [.p 0 0,.p 4 0]),(22,pts al),(23,gi (al.map ptc).length),(24,gi i)],[(0,.blk 3 [gi c]),(4,.blk 120 [.o 5,.v (.bool b2)]),(5,.row 47 2 (((al.take i).flatMap (fun p=>bl.filterMap (pairQ c (al,true) (bl,b2) p))).map ptc)),(3,.blk 120 [.v (.slice none 0 0),.v (.bool false)])],6⟩) (fun i=>i≤al.length) (fun i=>al.length - i)
  (fun _=>⟨[(6,.p 3 0),(7,.p 4 0)],[(0,.blk 3 [gi c]),(4,.blk 120 [.o 5,.v (.bool b2)]),(5,.row 47 2 ((al.flatMap (fun p=>bl.filterMap (pairQ c (al,true) (bl,b2) p))).map ptc)),(3,.blk 120 [.v (.slice none 0 0),.v (.bool false)])],6⟩) (fun _=>True) 0 id ?_ (Nat.zero_le _) ?_ ?_
 ·exact ⟨⟨rfl,rfl,rfl,rfl,rfl,rfl,rfl,rfl,trivial⟩,⟨rfl,rfl,rfl,rfl,trivial⟩,rfl⟩
 ·intro i hi
  refine V ?_
  by_cases hlt : i < al.length
  ·have hOi:=hO i hi
   have hst:=fl_snoc (fun p=>bl.filterMap (pairQ c (al,true) (bl,b2) p)) al i hlt
   generalize (al.take i).flatMap (fun p=>bl.filterMap (pairQ c (al,true) (bl,b2) p))=O at hst hOi ⊢
   have hpl:=hla al[i] (List.getElem_mem hlt)
   refine p1 ?_ (decide_eq_true (by omega))
   refine ix (h:=?_)
   refine FZB 6 rfl rfl ?_
   refine JK.loopE (α:=Nat) (β:=Unit) (fun j=>⟨[(4,.r [pts al,.v (.bool true)]),(5,.r [pts bl,.v (.bool b2)]),(6,.p 3 0),(7,.p 4 0),(8,.fn (.func 131) [] [.p 0 0,.p 4 0]),(22,pts al),(23,gi (al.map ptc).length),(24,gi i),(10,.r (ptc al[i])),(29,pts bl),(30,gi (bl.map ptc).length),(31,gi j)],[(0,.blk 3 [gi c]),(4,.blk 120 [.o 5,.v (.bool b2)]),(5,.row 47 2 ((O++(bl.take j).filterMap (pairQ c (al,true) (bl,b2) al[i])).map ptc)),(3,.blk 120 [.v (.slice none 0 0),.v (.bool false)])],7⟩) (fun j=>j≤bl.length) (fun j=>bl.length - j)
    (fun _=>⟨[(4,.r [pts al,.v (.bool true)]),(5,.r [pts bl,.v (.bool b2)]),(6,.p 3 0),(7,.p 4 0),(8,.fn (.func 131) [] [.p 0 0,.p 4 0]),(22,pts al),(23,gi (al.map ptc).length),(24,gi i)],[(0,.blk 3 [gi c]),(4,.blk 120 [.o 5,.v (.bool b2)]),(5,.row 47 2 ((O++bl.filterMap (pairQ c (al,true) (bl,b2) al[i])).map ptc)),(3,.blk 120 [.v (.slice none 0 0),.v (.bool false)])],7⟩) (fun _=>True) 0 id ?_ (Nat.zero_le _) ?_ ?_
   ·refine ⟨⟨rfl,rfl,rfl,rfl,rfl,rfl,rfl,rfl,rfl,rfl,rfl,rfl,trivial⟩,⟨rfl,rfl,?_,rfl,trivial⟩,rfl⟩
    rw [List.take_zero,List.filterMap_nil,List.append_nil]
    rfl
   ·intro j hj
    refine V ?_
    by_cases hjt : j < bl.length
    ·have hjs:=fm_snoc (pairQ c (al,true) (bl,b2) al[i]) bl j hjt
     have hql:=hlb bl[j] (List.getElem_mem hjt)
     refine p1 ?_ (decide_eq_true (by omega))
     refine ix (h:=?_)
     have hPl : (O++(bl.take j).filterMap (pairQ c (al,true) (bl,b2) al[i])).length≤1000000:=by
      have h1 : ((bl.take j).filterMap (pairQ c (al,true) (bl,b2) al[i])).length≤j:=Nat.le_trans (List.length_filterMap_le _ _) (by rw [List.length_take]; omega)
      have h2 : i * bl.length≤999 * 1000:=Nat.mul_le_mul (by omega) hb
      rw [List.length_append]
      omega
     have hPs : O++(bl.take (j + 1)).filterMap (pairQ c (al,true) (bl,b2) al[i])=O++(bl.take j).filterMap (pairQ c (al,true) (bl,b2) al[i])++(pairQ c (al,true) (bl,b2) al[i] bl[j]).toList:=by rw [hjs]; exact (List.append_assoc _ _ _).symm
     generalize O++(bl.take j).filterMap (pairQ c (al,true) (bl,b2) al[i])=P at hPl hPs ⊢
     have hpq : pairQ c (al,true) (bl,b2) al[i] bl[j]=(countF c al[i].value bl[j].value).map fun n=>(⟨bl[j].labels,n⟩ : Pt):=if_pos rfl
     cases hc : countF c al[i].value bl[j].value with
     | none =>
      rw [hc] at hpq
      rw [hpq] at hPs
      refine GOH (both1_no c al[i].value bl[j].value bl[j].labels (P.map ptc) b2 hc) r3 rfl rfl ⟨rfl,rfl,rfl,trivial⟩ rfl (r3_lt rfl) ?_
      rintro _ _ _ ⟨rfl,rfl,rfl⟩
      refine ⟨j + 1,id,⟨⟨rfl,rfl,rfl,rfl,rfl,rfl,rfl,rfl,rfl,rfl,rfl,succ_gi (by omega),trivial⟩,⟨rfl,rfl,?_,rfl,trivial⟩,rfl⟩,hjt,by show bl.length - (j + 1) < bl.length - j; omega⟩
      rw [hPs]
      show some (Res.row 47 2 (P.map ptc))=some (Res.row 47 2 ((P++[]).map ptc))
      rw [List.append_nil]
     | some n =>
      rw [hc] at hpq
      rw [hpq] at hPs
      refine GOH (both1_yes c al[i].value bl[j].value n bl[j].labels (P.map ptc) b2 hc hql (by simpa using hPl)) r3 rfl rfl ⟨rfl,rfl,rfl,trivial⟩ rfl (r3_lt rfl) ?_
      rintro _ _ _ ⟨rfl,rfl,rfl⟩
      refine ⟨j + 1,r1 5 8,⟨⟨rfl,rfl,rfl,rfl,rfl,rfl,rfl,rfl,rfl,rfl,rfl,succ_gi (by omega),trivial⟩,⟨rfl,rfl,?_,rfl,trivial⟩,rfl⟩,hjt,by show bl.length - (j + 1) < bl.length - j; omega⟩
      rw [hPs]
      show some (Res.row 47 2 (P.map ptc++[[lbs bl[j].labels,gi n]]))=some (Res.row 47 2 ((P++[(⟨bl[j].labels,n⟩ : Pt)]).map ptc))
      rw [List.map_append]
      rfl
    ·refine p2 ?_ (decide_eq_false (by omega))
     obtain rfl : j=bl.length:=by omega
     rw [List.take_length]
     exact ⟨(),id,⟨⟨rfl,rfl,rfl,rfl,rfl,rfl,rfl,rfl,trivial⟩,⟨rfl,rfl,rfl,rfl,trivial⟩,rfl⟩,trivial⟩
   ·rintro _ _
    refine V ?_
    refine ⟨i + 1,id,⟨⟨rfl,rfl,rfl,rfl,rfl,rfl,rfl,succ_gi (by omega),trivial⟩,⟨rfl,rfl,?_,rfl,trivial⟩,rfl⟩,hlt,by show al.length - (i + 1) < al.length - i; omega⟩
    rw [hst]
    rfl
  ·refine p2 ?_ (decide_eq_false (by omega))
   obtain rfl : i=al.length:=by omega
   rw [List.take_length]
   exact ⟨(),id,⟨⟨rfl,rfl,trivial⟩,⟨rfl,rfl,rfl,rfl,trivial⟩,rfl⟩,trivial⟩
 ·rintro _ _
  refine FRZ 5 rfl ?_
  exact ⟨rfl,rfl⟩
theorem both_f (c : Int) (al bl : List Pt) (b2 : Bool) (ha : al.length≤1000) (hb : bl.length≤1000) (hla : ∀ p ∈ al,p.labels.length≤1000000) (hlb : ∀ p ∈ bl,p.labels.length≤1000000) :
  Rt pg 97 [gi c,cameG (al,false),cameG (bl,b2)] (cameG (bothQ c (al,false) (bl,b2))):=by
 rw [bothQ_is]
 refine Rt.of pg_ok Tryz.func97 rfl Tryz.ntmps97 rfl Tryz.results97 Tryz.call97 fun H0 S0 w0 h0 g0=>?_
 have hal : (al.map ptc).length=al.length:=by simp
 have hbl : (bl.map ptc).length=bl.length:=by simp
 refine JK.ownNilB 4 0 47 2 rfl rfl ?_
 refine FZB 1 rfl rfl ?_
 refine FZB 2 rfl rfl ?_
 have hO : ∀ i,i≤al.length→((al.take i).flatMap (fun p=>bl.filterMap (pairQ c (al,false) (bl,b2) p))).length≤i * bl.length:=fun i hi=>by
  have:=fl_len (fun p=>bl.filterMap (pairQ c (al,false) (bl,b2) p)) bl.length (fun p=>List.length_filterMap_le _ _) (al.take i)
  rwa [List.length_take,Nat.min_eq_left hi] at this
 refine JK.loopE (α:=Nat) (β:=Unit) (fun i=>⟨[(4,.r [pts al,.v (.bool false)]),(5,.r [pts bl,.v (.bool b2)]),(6,.p 3 0),(7,.p 4 0),(8,.fn (.func 131) [] [.p 0 0,.p 4 0]),(22,pts al),(23,gi (al.map ptc).length),(24,gi i)],[(0,.blk 3 [gi c]),(4,.blk 120 [.o 5,.v (.bool false)]),(5,.row 47 2 (((al.take i).flatMap (fun p=>bl.filterMap (pairQ c (al,false) (bl,b2) p))).map ptc)),(3,.blk 120 [.v (.slice none 0 0),.v (.bool false)])],6⟩) (fun i=>i≤al.length) (fun i=>al.length - i)
  (fun _=>⟨[(6,.p 3 0),(7,.p 4 0)],[(0,.blk 3 [gi c]),(4,.blk 120 [.o 5,.v (.bool false)]),(5,.row 47 2 ((al.flatMap (fun p=>bl.filterMap (pairQ c (al,false) (bl,b2) p))).map ptc)),(3,.blk 120 [.v (.slice none 0 0),.v (.bool false)])],6⟩) (fun _=>True) 0 id ?_ (Nat.zero_le _) ?_ ?_
 ·exact ⟨⟨rfl,rfl,rfl,rfl,rfl,rfl,rfl,rfl,trivial⟩,⟨rfl,rfl,rfl,rfl,trivial⟩,rfl⟩
 ·intro i hi
  refine V ?_
  by_cases hlt : i < al.length
  ·have hOi:=hO i hi
   have hst:=fl_snoc (fun p=>bl.filterMap (pairQ c (al,false) (bl,b2) p)) al i hlt
   generalize (al.take i).flatMap (fun p=>bl.filterMap (pairQ c (al,false) (bl,b2) p))=O at hst hOi ⊢
   have hpl:=hla al[i] (List.getElem_mem hlt)
   refine p1 ?_ (decide_eq_true (by omega))
   refine ix (h:=?_)
   refine FZB 6 rfl rfl ?_
   refine JK.loopE (α:=Nat) (β:=Unit) (fun j=>⟨[(4,.r [pts al,.v (.bool false)]),(5,.r [pts bl,.v (.bool b2)]),(6,.p 3 0),(7,.p 4 0),(8,.fn (.func 131) [] [.p 0 0,.p 4 0]),(22,pts al),(23,gi (al.map ptc).length),(24,gi i),(10,.r (ptc al[i])),(29,pts bl),(30,gi (bl.map ptc).length),(31,gi j)],[(0,.blk 3 [gi c]),(4,.blk 120 [.o 5,.v (.bool false)]),(5,.row 47 2 ((O++(bl.take j).filterMap (pairQ c (al,false) (bl,b2) al[i])).map ptc)),(3,.blk 120 [.v (.slice none 0 0),.v (.bool false)])],7⟩) (fun j=>j≤bl.length) (fun j=>bl.length - j)
    (fun _=>⟨[(4,.r [pts al,.v (.bool false)]),(5,.r [pts bl,.v (.bool b2)]),(6,.p 3 0),(7,.p 4 0),(8,.fn (.func 131) [] [.p 0 0,.p 4 0]),(22,pts al),(23,gi (al.map ptc).length),(24,gi i)],[(0,.blk 3 [gi c]),(4,.blk 120 [.o 5,.v (.bool false)]),(5,.row 47 2 ((O++bl.filterMap (pairQ c (al,false) (bl,b2) al[i])).map ptc)),(3,.blk 120 [.v (.slice none 0 0),.v (.bool false)])],7⟩) (fun _=>True) 0 id ?_ (Nat.zero_le _) ?_ ?_
   ·refine ⟨⟨rfl,rfl,rfl,rfl,rfl,rfl,rfl,rfl,rfl,rfl,rfl,rfl,trivial⟩,⟨rfl,rfl,?_,rfl,trivial⟩,rfl⟩
    rw [List.take_zero,List.filterMap_nil,List.append_nil]
    rfl
   ·intro j hj
    refine V ?_
    by_cases hjt : j < bl.length
    ·have hjs:=fm_snoc (pairQ c (al,false) (bl,b2) al[i]) bl j hjt
     have hql:=hlb bl[j] (List.getElem_mem hjt)
     refine p1 ?_ (decide_eq_true (by omega))
     refine ix (h:=?_)
     have hPl : (O++(bl.take j).filterMap (pairQ c (al,false) (bl,b2) al[i])).length≤1000000:=by
      have h1 : ((bl.take j).filterMap (pairQ c (al,false) (bl,b2) al[i])).length≤j:=Nat.le_trans (List.length_filterMap_le _ _) (by rw [List.length_take]; omega)
      have h2 : i * bl.length≤999 * 1000:=Nat.mul_le_mul (by omega) hb
      rw [List.length_append]
      omega
     have hPs : O++(bl.take (j + 1)).filterMap (pairQ c (al,false) (bl,b2) al[i])=O++(bl.take j).filterMap (pairQ c (al,false) (bl,b2) al[i])++(pairQ c (al,false) (bl,b2) al[i] bl[j]).toList:=by rw [hjs]; exact (List.append_assoc _ _ _).symm
     generalize O++(bl.take j).filterMap (pairQ c (al,false) (bl,b2) al[i])=P at hPl hPs ⊢
     cases b2 with
     | true =>
      have hpq : pairQ c (al,false) (bl,true) al[i] bl[j]=(countF c al[i].value bl[j].value).map fun n=>(⟨al[i].labels,n⟩ : Pt):=by unfold pairQ; rw [if_neg Bool.false_ne_true,if_pos (.inl rfl)]
      cases hc : countF c al[i].value bl[j].value with
      | none =>
       rw [hc] at hpq
       rw [hpq] at hPs
       refine GOH (both1_no c al[i].value bl[j].value al[i].labels (P.map ptc) false hc) r3 rfl rfl ⟨rfl,rfl,rfl,trivial⟩ rfl (r3_lt rfl) ?_
       rintro _ _ _ ⟨rfl,rfl,rfl⟩
       refine ⟨j + 1,id,⟨⟨rfl,rfl,rfl,rfl,rfl,rfl,rfl,rfl,rfl,rfl,rfl,succ_gi (by omega),trivial⟩,⟨rfl,rfl,?_,rfl,trivial⟩,rfl⟩,hjt,by show bl.length - (j + 1) < bl.length - j; omega⟩
       rw [hPs]
       show some (Res.row 47 2 (P.map ptc))=some (Res.row 47 2 ((P++[]).map ptc))
       rw [List.append_nil]
      | some n =>
       rw [hc] at hpq
       rw [hpq] at hPs
       refine GOH (both1_yes c al[i].value bl[j].value n al[i].labels (P.map ptc) false hc hpl (by simpa using hPl)) r3 rfl rfl ⟨rfl,rfl,rfl,trivial⟩ rfl (r3_lt rfl) ?_
       rintro _ _ _ ⟨rfl,rfl,rfl⟩
       refine ⟨j + 1,r1 5 8,⟨⟨rfl,rfl,rfl,rfl,rfl,rfl,rfl,rfl,rfl,rfl,rfl,succ_gi (by omega),trivial⟩,⟨rfl,rfl,?_,rfl,trivial⟩,rfl⟩,hjt,by show bl.length - (j + 1) < bl.length - j; omega⟩
       rw [hPs]
       show some (Res.row 47 2 (P.map ptc++[[lbs al[i].labels,gi n]]))=some (Res.row 47 2 ((P++[(⟨al[i].labels,n⟩ : Pt)]).map ptc))
       rw [List.map_append]
       rfl
     | false =>
      refine GO (lcompare_rt al[i].labels bl[j].labels) rfl ?_
      by_cases h0 : cmpF al[i].labels bl[j].labels=0
      ·refine p1 ?_ (beq_iff_eq.2 h0)
       have hpq : pairQ c (al,false) (bl,false) al[i] bl[j]=(countF c al[i].value bl[j].value).map fun n=>(⟨al[i].labels,n⟩ : Pt):=by unfold pairQ; rw [if_neg Bool.false_ne_true,if_pos (.inr h0)]
       cases hc : countF c al[i].value bl[j].value with
       | none =>
        rw [hc] at hpq
        rw [hpq] at hPs
        refine GOH (both1_no c al[i].value bl[j].value al[i].labels (P.map ptc) false hc) r3 rfl rfl ⟨rfl,rfl,rfl,trivial⟩ rfl (r3_lt rfl) ?_
        rintro _ _ _ ⟨rfl,rfl,rfl⟩
        refine ⟨j + 1,id,⟨⟨rfl,rfl,rfl,rfl,rfl,rfl,rfl,rfl,rfl,rfl,rfl,succ_gi (by omega),trivial⟩,⟨rfl,rfl,?_,rfl,trivial⟩,rfl⟩,hjt,by show bl.length - (j + 1) < bl.length - j; omega⟩
        rw [hPs]
        show some (Res.row 47 2 (P.map ptc))=some (Res.row 47 2 ((P++[]).map ptc))
        rw [List.append_nil]
       | some n =>
        rw [hc] at hpq
        rw [hpq] at hPs
        refine GOH (both1_yes c al[i].value bl[j].value n al[i].labels (P.map ptc) false hc hpl (by simpa using hPl)) r3 rfl rfl ⟨rfl,rfl,rfl,trivial⟩ rfl (r3_lt rfl) ?_
        rintro _ _ _ ⟨rfl,rfl,rfl⟩
        refine ⟨j + 1,r1 5 8,⟨⟨rfl,rfl,rfl,rfl,rfl,rfl,rfl,rfl,rfl,rfl,rfl,succ_gi (by omega),trivial⟩,⟨rfl,rfl,?_,rfl,trivial⟩,rfl⟩,hjt,by show bl.length - (j + 1) < bl.length - j; omega⟩
        rw [hPs]
        show some (Res.row 47 2 (P.map ptc++[[lbs al[i].labels,gi n]]))=some (Res.row 47 2 ((P++[(⟨al[i].labels,n⟩ : Pt)]).map ptc))
        rw [List.map_append]
        rfl
      ·refine p2 ?_ (beq_false_of_ne h0)
       have hpq : pairQ c (al,false) (bl,false) al[i] bl[j]=none:=by unfold pairQ; rw [if_neg Bool.false_ne_true,if_neg fun h=>h.elim (fun h=>Bool.false_ne_true h) h0]
       rw [hpq] at hPs
       refine ⟨j + 1,id,⟨⟨rfl,rfl,rfl,rfl,rfl,rfl,rfl,rfl,rfl,rfl,rfl,succ_gi (by omega),trivial⟩,⟨rfl,rfl,?_,rfl,trivial⟩,rfl⟩,hjt,by show bl.length - (j + 1) < bl.length - j; omega⟩
       rw [hPs]
       show some (Res.row 47 2 (P.map ptc))=some (Res.row 47 2 ((P++[]).map ptc))
       rw [List.append_nil]
    ·refine p2 ?_ (decide_eq_false (by omega))
     obtain rfl : j=bl.length:=by omega
     rw [List.take_length]
     exact ⟨(),id,⟨⟨rfl,rfl,rfl,rfl,rfl,rfl,rfl,rfl,trivial⟩,⟨rfl,rfl,rfl,rfl,trivial⟩,rfl⟩,trivial⟩
   ·rintro _ _
    refine V ?_
    refine ⟨i + 1,id,⟨⟨rfl,rfl,rfl,rfl,rfl,rfl,rfl,succ_gi (by omega),trivial⟩,⟨rfl,rfl,?_,rfl,trivial⟩,rfl⟩,hlt,by show al.length - (i + 1) < al.length - i; omega⟩
    rw [hst]
    rfl
  ·refine p2 ?_ (decide_eq_false (by omega))
   obtain rfl : i=al.length:=by omega
   rw [List.take_length]
   exact ⟨(),id,⟨⟨rfl,rfl,trivial⟩,⟨rfl,rfl,rfl,rfl,trivial⟩,rfl⟩,trivial⟩
 ·rintro _ _
  refine FRZ 5 rfl ?_
  exact ⟨rfl,rfl⟩
theorem both_rt (c : Int) (a b : Came) (ha : a.1.length≤1000) (hb : b.1.length≤1000) (hla : ∀ p ∈ a.1,p.labels.length≤1000000) (hlb : ∀ p ∈ b.1,p.labels.length≤1000000) :
  Rt pg 97 [gi c,cameG a,cameG b] (cameG (bothQ c a b)):=by
 obtain ⟨al,a2⟩:=a
 obtain ⟨bl,b2⟩:=b
 cases a2 with
 | true=>exact both_t c al bl b2 ha hb hla hlb
 | false=>exact both_f c al bl b2 ha hb hla hlb
end Go.Proofs.YtkoalgjlkcaonaaGreatDoor
/-
  Contracts: what a question comes to (eval.eval).
-/
namespace Go.Proofs.YtkoalgjlkcaonaaGreatDoor
open Go.GK Go.PL Go.RowKit
set_option maxRecDepth 100000
def evalG (r : Except Int Came) : GV:=match r with
 | .ok a=>.tup [cameG a,.v .nilIface]
 | .error e=>.tup [.agg [.v (.slice none 0 0),.v (.bool false)],.ifc 53 (gi e)]
theorem SrcC.b {f : FuncId} {S : List Ser} {src : List Mt→Int→Int→List Ser} (h : SrcC f S src) : SrcB src:=⟨h.ok,h.small⟩
theorem eval_over {f : FuncId} {S : List Ser} {src : List Mt→Int→Int→List Ser} (hs : SrcC f S src) (t c : Int) (hc : c=2∨c=3∨c=4∨c=5∨c=6∨c=7) (m : List Mt) (sp : Int) (hm : m.length≤8) (hop : ∀ x ∈ m,0≤x.op∧x.op≤3) :
  Rt pg 60 [qG (.mk c 0 m sp [] .nil .nil),gi t,srcG f S] (evalG (evalF src t (.mk c 0 m sp [] .nil .nil))):=by
 rw [evalF,if_neg (by omega),if_pos (by omega)]
 refine Rt.of pg_ok Tryz.func60 rfl Tryz.ntmps60 rfl Tryz.results60 Tryz.call60 fun H0 S0 w0 h0 g0=>?_
 rcases hc with rfl | rfl | rfl | rfl | rfl | rfl
 all_goals
  repeat (first | refine p1 ?_ | refine p2 ?_ | refine p3 ?_ | refine p4 ?_)
  refine GO (series_rt hs _ 0 m sp [] .nil .nil hm hop t) rfl ?_
  exact ⟨⟨rfl,rfl,trivial⟩,rfl⟩
set_option maxHeartbeats 4000000 in
theorem eval_all_err {f : FuncId} {S : List Ser} {src : List Mt→Int→Int→List Ser} (t c : Int) (hc : c=8∨c=9∨c=10∨c=11∨c=12∨c=13∨c=14∨c=15∨c=16) (b : List ByteArray) (l r : Qn) {e : Int} (he : evalF src t l=.error e)
  (ih : Rt pg 60 [qG l,gi t,srcG f S] (evalG (evalF src t l))) :
  Rt pg 60 [qG (.mk c 0 [] 0 b l r),gi t,srcG f S] (evalG (evalF src t (.mk c 0 [] 0 b l r))):=by
 rw [evalF,if_neg (by omega),if_neg (by omega)]
 rw [he] at ih ⊢
 refine Rt.of pg_ok Tryz.func60 rfl Tryz.ntmps60 rfl Tryz.results60 Tryz.call60 fun H0 S0 w0 h0 g0=>?_
 rcases hc with rfl | rfl | rfl | rfl | rfl | rfl | rfl | rfl | rfl <;> cases l
 all_goals
  repeat (first | refine p1 ?_ | refine p2 ?_ | refine p3 ?_ | refine p4 ?_)
  refine GO ih rfl ?_
  repeat (first | refine p1 ?_ | refine p2 ?_ | refine p3 ?_ | refine p4 ?_)
  exact ⟨⟨rfl,rfl,trivial⟩,rfl⟩
end Go.Proofs.YtkoalgjlkcaonaaGreatDoor
/-
  Contracts: what any question comes to (eval.eval, eval.Eval).
-/
namespace Go.Proofs.YtkoalgjlkcaonaaGreatDoor
open Go.GK Go.PL Go.RowKit
set_option maxRecDepth 100000
theorem eval_num {f : FuncId} {S : List Ser} {src : List Mt→Int→Int→List Ser} (t n : Int) :
  Rt pg 60 [qG (.mk 1 n [] 0 [] .nil .nil),gi t,srcG f S] (evalG (evalF src t (.mk 1 n [] 0 [] .nil .nil))):=by
 rw [evalF,if_pos rfl]
 refine Rt.ofJ pg_ok Tryz.func60 rfl Tryz.ntmps60 rfl Tryz.results60 Tryz.call60 fun H0 S0 w0 h0 g0=>?_
 refine VM 35 ?_
 repeat (first | refine p1 ?_ | refine p2 ?_ | refine p3 ?_ | refine p4 ?_)
 show JK _ _ _ _
 refine JK.freeze 1 rfl ?_
 refine JK.subBlk 0 [pts [⟨[],n⟩],.v (.bool true)] rfl (.cons (Sub.rows (.cons (.cons (SubR.nil 2) (.cons SubR.rfl .nil)) .nil)) (.cons Sub.rfl .nil)) ?_
 refine V ?_
 exact ⟨⟨rfl,rfl,trivial⟩,rfl⟩
set_option maxHeartbeats 4000000 in
theorem eval_all {f : FuncId} {S : List Ser} {src : List Mt→Int→Int→List Ser} (t c : Int) (hc : c=8∨c=9∨c=10∨c=11) (b : List ByteArray) (l r : Qn) {a : Came} (he : evalF src t l=.ok a) (hg : PL.Good a) (hb : b.length≤1000000)
  (ih : Rt pg 60 [qG l,gi t,srcG f S] (evalG (evalF src t l))) :
  Rt pg 60 [qG (.mk c 0 [] 0 b l r),gi t,srcG f S] (evalG (evalF src t (.mk c 0 [] 0 b l r))):=by
 rw [evalF,if_neg (by omega),if_neg (by omega)]
 rw [he] at ih ⊢
 simp only
 rw [if_pos (by omega)]
 obtain ⟨pl,a2⟩:=a
 have htog:=together_rt c b pl (by have:=hg.1.len; simp only at this; omega) hg.2 hb
 refine Rt.of pg_ok Tryz.func60 rfl Tryz.ntmps60 rfl Tryz.results60 Tryz.call60 fun H0 S0 w0 h0 g0=>?_
 cases a2 with
 | true =>
  rcases hc with rfl | rfl | rfl | rfl <;> cases l
  all_goals
   repeat (first | refine p1 ?_ | refine p2 ?_ | refine p3 ?_ | refine p4 ?_)
   refine GO ih rfl ?_
   repeat (first | refine p1 ?_ | refine p2 ?_ | refine p3 ?_ | refine p4 ?_)
   exact ⟨⟨rfl,rfl,trivial⟩,rfl⟩
 | false =>
  rcases hc with rfl | rfl | rfl | rfl <;> cases l
  all_goals
   repeat (first | refine p1 ?_ | refine p2 ?_ | refine p3 ?_ | refine p4 ?_)
   refine GO ih rfl ?_
   repeat (first | refine p1 ?_ | refine p2 ?_ | refine p3 ?_ | refine p4 ?_)
   refine FZB 1 rfl rfl ?_
   refine DRAW [0] false (tk [0,1,2,3,4,5,6,7,8,9]) (by kernel_rfl) ?_
   refine RGO 10 true (al [11,12]++tk [13]) htog rfl rfl (by kernel_rfl) ?_
   refine V ?_
   exact ⟨⟨rfl,rfl,trivial⟩,rfl⟩
end Go.Proofs.YtkoalgjlkcaonaaGreatDoor
/-
  Contracts: what any question comes to (eval.eval, eval.Eval).
-/
namespace Go.Proofs.YtkoalgjlkcaonaaGreatDoor
open Go.GK Go.PL Go.RowKit
set_option maxRecDepth 100000
set_option maxHeartbeats 4000000 in
theorem eval_neg {f : FuncId} {S : List Ser} {src : List Mt→Int→Int→List Ser} (t : Int) (l r : Qn) {a : Came} (he : evalF src t l=.ok a) (hg : PL.Good a)
  (ih : Rt pg 60 [qG l,gi t,srcG f S] (evalG (evalF src t l))) :
  Rt pg 60 [qG (.mk 12 0 [] 0 [] l r),gi t,srcG f S] (evalG (evalF src t (.mk 12 0 [] 0 [] l r))):=by
 rw [evalF,if_neg (by omega),if_neg (by omega)]
 rw [he] at ih ⊢
 simp only
 rw [if_neg (by omega),if_pos trivial]
 obtain ⟨pl,a2⟩:=a
 have hbo:=both_t 14 [⟨[],0⟩] pl a2 (by decide) (by have:=hg.1.len; simp only at this; omega) (fun p hp=>by rw [List.mem_singleton.1 hp]; exact Nat.zero_le _) hg.2
 refine Rt.ofJ pg_ok Tryz.func60 rfl Tryz.ntmps60 rfl Tryz.results60 Tryz.call60 fun H0 S0 w0 h0 g0=>?_
 cases l
 all_goals
  refine V ?_
  repeat (first | refine p1 ?_ | refine p2 ?_ | refine p3 ?_ | refine p4 ?_)
  refine GOJ ih.hf id rfl rfl trivial rfl (id_lt rfl) ?_
  rintro _ _ _ ⟨rfl,rfl,rfl⟩
  refine VM 48 ?_
  repeat (first | refine p1 ?_ | refine p2 ?_ | refine p3 ?_ | refine p4 ?_)
  show JK _ _ _ _
  refine JK.freeze 2 rfl ?_
  refine JK.sub 98 (pts [⟨[],0⟩]) rfl (Sub.rows (.cons (.cons (SubR.nil 2) (.cons SubR.rfl .nil)) .nil)) ?_
  refine V ?_
  refine GO hbo rfl ?_
  exact ⟨⟨rfl,rfl,trivial⟩,rfl⟩
set_option maxHeartbeats 4000000 in
theorem eval_two {f : FuncId} {S : List Ser} {src : List Mt→Int→Int→List Ser} (t c : Int) (hc : c=13∨c=14∨c=15∨c=16) (l r : Qn) {a : Came} (he : evalF src t l=.ok a) (hg : PL.Good a)
  (ih : Rt pg 60 [qG l,gi t,srcG f S] (evalG (evalF src t l))) (ihr : Rt pg 60 [qG r,gi t,srcG f S] (evalG (evalF src t r))) (hgr : ∀ b,evalF src t r=.ok b→PL.Good b) :
  Rt pg 60 [qG (.mk c 0 [] 0 [] l r),gi t,srcG f S] (evalG (evalF src t (.mk c 0 [] 0 [] l r))):=by
 rw [evalF,if_neg (by omega),if_neg (by omega)]
 rw [he] at ih ⊢
 simp only
 rw [if_neg (by omega),if_neg (by omega)]
 obtain ⟨pl,a2⟩:=a
 cases hr : evalF src t r with
 | error e =>
  rw [hr] at ihr
  refine Rt.of pg_ok Tryz.func60 rfl Tryz.ntmps60 rfl Tryz.results60 Tryz.call60 fun H0 S0 w0 h0 g0=>?_
  rcases hc with rfl | rfl | rfl | rfl <;> cases l <;> cases r
  all_goals
   repeat (first | refine p1 ?_ | refine p2 ?_ | refine p3 ?_ | refine p4 ?_)
   refine GO ih rfl ?_
   repeat (first | refine p1 ?_ | refine p2 ?_ | refine p3 ?_ | refine p4 ?_)
   refine GO ihr rfl ?_
   repeat (first | refine p1 ?_ | refine p2 ?_ | refine p3 ?_ | refine p4 ?_)
   exact ⟨⟨rfl,rfl,trivial⟩,rfl⟩
 | ok b =>
  rw [hr] at ihr
  have hgb:=hgr b hr
  obtain ⟨ql,b2⟩:=b
  have hbo:=both_rt c (pl,a2) (ql,b2) (by have:=hg.1.len; omega) (by have:=hgb.1.len; omega) hg.2 hgb.2
  refine Rt.of pg_ok Tryz.func60 rfl Tryz.ntmps60 rfl Tryz.results60 Tryz.call60 fun H0 S0 w0 h0 g0=>?_
  rcases hc with rfl | rfl | rfl | rfl <;> cases l <;> cases r
  all_goals
   repeat (first | refine p1 ?_ | refine p2 ?_ | refine p3 ?_ | refine p4 ?_)
   refine GO ih rfl ?_
   repeat (first | refine p1 ?_ | refine p2 ?_ | refine p3 ?_ | refine p4 ?_)
   refine GO ihr rfl ?_
   repeat (first | refine p1 ?_ | refine p2 ?_ | refine p3 ?_ | refine p4 ?_)
   refine FZB 1 rfl rfl ?_
   refine FZB 2 rfl rfl ?_
   refine DRAW [0] false (tk [0,1,2,3,4,5]) (by kernel_rfl) ?_
   refine RGO 6 true (al [7]++tk [8]) hbo rfl rfl (by kernel_rfl) ?_
   refine V ?_
   exact ⟨⟨rfl,rfl,trivial⟩,rfl⟩
end Go.Proofs.YtkoalgjlkcaonaaGreatDoor
/-
  Contracts: what any question comes to (eval.eval, eval.Eval).
-/
namespace Go.Proofs.YtkoalgjlkcaonaaGreatDoor
open Go.GK Go.PL Go.RowKit
set_option maxRecDepth 100000
theorem eval_rt {f : FuncId} {S : List Ser} {src : List Mt→Int→Int→List Ser} (hs : SrcC f S src) (t : Int) {q : Qn} (hq : Wf q) :
  Rt pg 60 [qG q,gi t,srcG f S] (evalG (evalF src t q)):=by
 have hgood:=fun {q : Qn} (h : Wf q)=>eval_good hs.b t h
 have bin : ∀ (c : Int) (l r : Qn),(c=13∨c=14∨c=15∨c=16)→Wf l→Wf r→Rt pg 60 [qG l,gi t,srcG f S] (evalG (evalF src t l))→Rt pg 60 [qG r,gi t,srcG f S] (evalG (evalF src t r)) →
   Rt pg 60 [qG (.mk c 0 [] 0 [] l r),gi t,srcG f S] (evalG (evalF src t (.mk c 0 [] 0 [] l r))):=by
  intro c l r hc hl hr ih1 ih2
  cases he : evalF src t l with
  | error e=>exact eval_all_err t c (by omega) [] l r he ih1
  | ok a=>exact eval_two t c hc l r he (hgood hl a he) ih1 ih2 (hgood hr)
 induction hq with
 | num n h0 h1=>exact eval_num t n
 | pick m h=>exact eval_over hs t 2 (by omega) m 300 h.2 fun x hx=>(h.1 x hx).2.2
 | over k hk m h sp h1 h2=>exact eval_over hs t _ (by omega) m sp h.2 fun x hx=>(h.1 x hx).2.2
 | all k hk b hb hl q hq ih =>
  cases he : evalF src t q with
  | error e=>exact eval_all_err t _ (by omega) b q .nil he ih
  | ok a=>exact eval_all t _ (by omega) b q .nil he (hgood hq a he) (by omega) ih
 | neg q hq ih =>
  cases he : evalF src t q with
  | error e=>exact eval_all_err t _ (by omega) [] q .nil he ih
  | ok a=>exact eval_neg t q .nil he (hgood hq a he) ih
 | add k hk l r hl hr ih1 ih2=>exact bin _ l r (by omega) hl hr ih1 ih2
 | mul k hk l r hl hr ih1 ih2=>exact bin _ l r (by omega) hl hr ih1 ih2
def comesG (r : Except Int Came) : GV:=match r with
 | .ok a=>.tup [pts a.1,.v (.bool a.2),.v .nilIface]
 | .error e=>.tup [.v (.slice none 0 0),.v (.bool false),.ifc 53 (gi e)]
theorem comes_rt {f : FuncId} {S : List Ser} {src : List Mt→Int→Int→List Ser} (hs : SrcC f S src) (t : Int) {q : Qn} (hq : Wf q) (h1 : -1099511627776≤t) (h2 : t≤1099511627776) :
  Rt pg 24 [qG q,gi t,srcG f S] (comesG (evalF src t q)):=by
 have he:=eval_rt hs t hq
 obtain ⟨c,n,m,sp,b,l,r,rfl⟩ : ∃ c n m sp b l r,q=.mk c n m sp b l r:=by cases hq <;> exact ⟨_,_,_,_,_,_,_,rfl⟩
 refine Rt.of pg_ok Tryz.func24 rfl Tryz.ntmps24 rfl Tryz.results24 Tryz.call24 fun H0 S0 w0 h0 g0=>?_
 refine p4 ?_ (decide_eq_false (by omega))
 refine p2 ?_ (decide_eq_false (by omega))
 cases hr : evalF src t (.mk c n m sp b l r) with
 | error e =>
  rw [hr] at he
  refine GO he rfl ?_
  refine p1 ?_
  exact ⟨⟨rfl,rfl,rfl,trivial⟩,rfl⟩
 | ok a =>
  obtain ⟨pl,a2⟩:=a
  rw [hr] at he
  refine GO he rfl ?_
  refine p2 ?_
  refine ⟨by kernel_rfl,?_⟩
  exact ⟨⟨rfl,rfl,rfl,trivial⟩,rfl⟩
end Go.Proofs.YtkoalgjlkcaonaaGreatDoor
/-
  Contracts: the document's samples.
-/
namespace Go.Proofs.YtkoalgjlkcaonaaGreatDoor
open Go.GK Go.PL
set_option maxRecDepth 100000
theorem in_ct (n lo hi : Int) : Ct pg 52 0 [gi n,gi lo,gi hi] [] (Val fun g=>g=.b (decide (lo≤n∧n≤hi))):=by
 refine Ct.bool (Ct.of_JK pg_ok Tryz.func52 rfl Tryz.ntmps52 rfl Tryz.results52 fun H0 S0 w0 h0 g0=>?_)
 refine vc_sound pg_ok 200 _ _ ?_
 refine ⟨fun h=>?_,fun h=>?_⟩
 ·refine .inr (congrArg GV.b ?_)
  have h' : lo≤n:=of_decide_eq_true h
  exact decide_eq_decide.2 ⟨fun h=>⟨h',h⟩,fun h=>h.2⟩
 ·refine .inl (congrArg (fun c=>GV.v (.bool c)) ?_)
  have h' : ¬ lo≤n:=of_decide_eq_false h
  exact (decide_eq_false (fun h=>h' h.1)).symm
theorem samples_ct (l : List Sm) (hlen' : l.length≤1000000) : Ct pg 50 0 [.sl 2 (l.map sm)] [] (Val fun g=>g=.b (okS l)):=by
 refine Ct.bool (Ct.of_JK pg_ok Tryz.func50 rfl Tryz.ntmps50 rfl Tryz.results50 fun H0 S0 w0 h0 g0=>?_)
 refine vc_sound pg_ok 200 _ _ ?_
 refine JK.loop (α:=Nat) (fun i=>⟨[(0,.sl 2 (l.map sm)),(5,.sl 2 (l.map sm)),(6,gi (l.map sm).length),(7,gi i)],[],0⟩) (fun i=>i≤l.length∧∀ j x,j < i→l[j]?=some x→¬ badAt l j x) (fun i=>l.length - i) 0 id ?_ ⟨Nat.zero_le _,fun j x hj=>absurd hj (by omega)⟩ ?_
 ·exact ⟨⟨rfl,rfl,rfl,rfl,trivial⟩,trivial,rfl⟩
 ·rintro i ⟨hi,hgood⟩
  refine vc_sound pg_ok 200 _ _ ?_
  refine ⟨fun hb=>?_,fun hb=>?_⟩
  ·have hlt : i < l.length:=by simpa using hb
   refine idx i rfl hlt ?_
   have hfalse : badAt l i l[i]→false=okS l:=fun hb=>by
    cases h : okS l with
    | false=>rfl
    | true=>exact ((okS_bad l).1 h |>.1 i l[i] (List.getElem?_eq_getElem hlt) hb).elim
   have hnext : ¬ badAt l i l[i]→i + 1≤l.length∧∀ j x,j < i + 1→l[j]?=some x→¬ badAt l j x:=fun hn=>⟨hlt,fun j x hj hx=>by
    rcases Nat.lt_succ_iff_lt_or_eq.1 hj with h1 | h1
    ·exact hgood j x h1 hx
    ·subst h1
     rw [List.getElem?_eq_getElem hlt] at hx
     cases hx
     exact hn⟩
   have e18 : some (gi (IntKind.i64.wrap (i + 1 : Int)))=some (gi ((i + 1 : Nat) : Int)):=by rw [wrap_id (by omega) (by omega)]; rfl
   refine JK.draw [] pg_ok ?_
   refine RA.run (e:=false) pg_ok (by kernel_rfl) (fun _ _ h=>h) (tk [0,1]) (by kernel_rfl) ?_
   refine RA.call (n0:=0) (r:=id) 2 (in_ct l[i].time (-1099511627776) 1099511627776) Tryz.call52 rfl (by kernel_rfl) rfl rfl rfl rfl rfl trivial rfl (by simp) ?_
   rintro g σ' n' ⟨rfl,rfl,rfl⟩
   refine RA.run (e:=true) pg_ok (by kernel_rfl) (fun _ _ h=>h) (tk [3,4,5,6,7,8,9,10,11,12,13,14,15,16,17,18]) (by kernel_rfl) ?_
   refine ⟨fun ha=>?_,fun ha=>?_⟩
   ·have ha' : -1099511627776≤l[i].time∧l[i].time≤1099511627776:=by simpa using ha
    refine ⟨fun hd=>?_,fun hd=>?_⟩
    ·have hd' : 0 < i:=by simpa using hd
     have ew : IntKind.i64.wrap ((i : Int) - 1)=((i - 1 : Nat) : Int):=by rw [wrap_id (by omega) (by omega)]; omega
     refine idx (i - 1) ew (by omega) ?_
     refine vc_sound pg_ok 200 _ _ ?_
     refine ⟨fun he=>?_,fun he=>?_⟩
     ·exact .inl (congrArg (fun c=>GV.v (.bool c)) (hfalse (.inr (.inr ⟨hd',_,List.getElem?_eq_getElem (by omega),by simpa using he⟩))))
     ·refine ⟨i + 1,id,⟨⟨rfl,rfl,rfl,e18,trivial⟩,trivial,rfl⟩,hnext ?_,by show l.length - (i + 1) < l.length - i; omega⟩
      rintro (h | h | ⟨_,y,hy,h⟩)
      ·omega
      ·omega
      ·rw [List.getElem?_eq_getElem (by omega)] at hy
       rw [Option.some.injEq] at hy
       rw [← hy] at h
       simp at he
       omega
    ·have hd' : ¬ 0 < i:=by simpa using hd
     refine vc_sound pg_ok 200 _ _ ?_
     refine ⟨i + 1,id,⟨⟨rfl,rfl,rfl,e18,trivial⟩,trivial,rfl⟩,hnext ?_,by show l.length - (i + 1) < l.length - i; omega⟩
     rintro (h | h | ⟨h,_⟩)
     ·omega
     ·omega
     ·exact hd' h
   ·have ha' : ¬ (-1099511627776≤l[i].time∧l[i].time≤1099511627776):=fun h=>by
     rw [decide_eq_true h] at ha; cases ha
    refine vc_sound pg_ok 200 _ _ ?_
    refine .inl (congrArg (fun c=>GV.v (.bool c)) (hfalse ?_))
    rcases Int.lt_or_le l[i].time (-1099511627776) with h | h
    ·exact .inl h
    ·exact .inr (.inl (by omega))
  ·have hge : i=l.length:=by simp at hb; omega
   refine vc_sound pg_ok 200 _ _ ?_
   refine .inr (congrArg GV.b ?_)
   rw [Bool.eq_iff_iff,okS_bad,decide_eq_true_iff,List.length_map]
   exact ⟨fun h=>⟨fun j x hj=>hgood j x (by rw [hge]; exact (List.getElem?_eq_some_iff.1 hj).1) hj,by omega⟩,fun h=>by omega⟩
end Go.Proofs.YtkoalgjlkcaonaaGreatDoor
/-
  Contracts: samples between two times (chunk.Between, raingaugeref.Between).
-/
namespace Go.Proofs.YtkoalgjlkcaonaaGreatDoor
open Go.GK Go.PL
set_option maxRecDepth 100000
theorem filt_take {α : Type} (p : α→Bool) (l : List α) (i : Nat) (h : i < l.length) : (l.take (i + 1)).filter p=(l.take i).filter p++if p l[i] then [l[i]] else []:=by
 rw [List.take_add_one,List.getElem?_eq_getElem h,List.filter_append]
 congr 1
 cases hp : p l[i] <;> simp [hp]
abbrev inS (f t : Int) (x : Sm) : Bool:=decide (f≤x.time∧x.time≤t)
theorem refBetween_rt (l : List Sm) (f t : Int) (hl : l.length≤100000) : Rt pg 22 [.sl 2 (l.map sm),gi f,gi t] (.sl 2 ((l.filter (inS f t)).map sm)):=by
 refine Rt.of pg_ok Tryz.func22 rfl Tryz.ntmps22 rfl Tryz.results22 Tryz.call22 fun H0 S0 w0 h0 g0=>?_
 refine JK.ownNil 7 33 2 rfl ?_
 refine JK.loopE (α:=Nat) (β:=Unit) (fun i=>⟨[(1,gi f),(2,gi t),(10,.sl 2 (l.map sm)),(11,gi (l.map sm).length),(12,gi i),(7,.o 0)],[(0,.row 33 2 (((l.take i).filter (inS f t)).map sm))],1⟩) (fun i=>i≤l.length) (fun i=>l.length - i) (fun _=>⟨[(7,.o 0)],[(0,.row 33 2 ((l.filter (inS f t)).map sm))],1⟩) (fun _=>True) 0 id ?_ (Nat.zero_le _) ?_ ?_
 ·exact ⟨⟨rfl,rfl,rfl,rfl,rfl,rfl,trivial⟩,⟨rfl,trivial⟩,rfl⟩
 ·intro i hi
  refine V ?_
  by_cases hlt : i < l.length
  ·have hfl : ((l.take i).filter (inS f t)).length≤i:=Nat.le_trans (List.length_filter_le _ _) (by rw [List.length_take]; omega)
   refine p1 ?_
   refine ix (h:=?_)
   by_cases h1 : f≤l[i].time∧l[i].time≤t
   ·refine GO ((Rq.old Tryz.call52 (in_ct l[i].time f t)).bt (d:=true) (decide_eq_true h1)) rfl ?_
    refine ⟨by simp only [List.length_map,List.length_cons,List.length_nil]; omega,?_⟩
    refine ⟨i + 1,fun _=>3,⟨⟨rfl,rfl,rfl,rfl,succ_gi (by omega),rfl,trivial⟩,⟨?_,trivial⟩,rfl⟩,hlt,by show l.length - (i + 1) < l.length - i; omega⟩
    rw [filt_take _ _ _ hlt,if_pos (decide_eq_true h1),List.map_append]
    rfl
   ·refine GO ((Rq.old Tryz.call52 (in_ct l[i].time f t)).bt (d:=false) (decide_eq_false h1)) rfl ?_
    refine ⟨i + 1,id,⟨⟨rfl,rfl,rfl,rfl,succ_gi (by omega),rfl,trivial⟩,⟨?_,trivial⟩,rfl⟩,hlt,by show l.length - (i + 1) < l.length - i; omega⟩
    rw [filt_take _ _ _ hlt,if_neg (by simp [inS]; omega),List.append_nil]
    rfl
  ·refine p2 ?_
   obtain rfl : i=l.length:=by omega
   rw [List.take_length]
   exact ⟨(),id,⟨⟨rfl,trivial⟩,⟨rfl,trivial⟩,rfl⟩,trivial⟩
 ·rintro _ _
  refine FRZ 0 rfl ?_
  exact ⟨rfl,rfl⟩
end Go.Proofs.YtkoalgjlkcaonaaGreatDoor
/-
  Contracts: what any question comes to, by the document (raingaugeref.Eval): numbers, series, errors, points put together.
-/
namespace Go.Proofs.YtkoalgjlkcaonaaGreatDoor
open Go.GK Go.PL Go.RowKit
set_option maxRecDepth 100000
def rG (r : Except Int Came) : GV:=match r with
 | .ok a=>.tup [cameG a,gi 0]
 | .error e=>.tup [.agg [.v (.slice none 0 0),.v (.bool false)],gi e]
theorem reval_num (S : List Ser) (t n : Int) : Rt pg 20 [qG (.mk 1 n [] 0 [] .nil .nil),gi t,ses S] (rG (evalF (srcF S) t (.mk 1 n [] 0 [] .nil .nil))):=by
 rw [evalF,if_pos rfl]
 refine Rt.ofJ pg_ok Tryz.func20 rfl Tryz.ntmps20 rfl Tryz.results20 Tryz.call20 fun H0 S0 w0 h0 g0=>?_
 refine VM 31 ?_
 repeat (first | refine p1 ?_ | refine p2 ?_ | refine p3 ?_ | refine p4 ?_)
 show JK _ _ _ _
 refine JK.freeze 1 rfl ?_
 refine JK.sub 36 (pts [⟨[],n⟩]) rfl (Sub.rows (.cons (.cons (SubR.nil 2) (.cons SubR.rfl .nil)) .nil)) ?_
 refine V ?_
 exact ⟨⟨rfl,rfl,trivial⟩,rfl⟩
set_option maxHeartbeats 4000000 in
theorem reval_err (S : List Ser) (t c : Int) (hc : c=8∨c=9∨c=10∨c=11∨c=12∨c=13∨c=14∨c=15∨c=16) (b : List ByteArray) (l r : Qn) {e : Int} (he : evalF (srcF S) t l=.error e) (h0e : e ≠ 0)
  (ih : Rt pg 20 [qG l,gi t,ses S] (rG (evalF (srcF S) t l))) :
  Rt pg 20 [qG (.mk c 0 [] 0 b l r),gi t,ses S] (rG (evalF (srcF S) t (.mk c 0 [] 0 b l r))):=by
 rw [evalF,if_neg (by omega),if_neg (by omega)]
 rw [he] at ih ⊢
 refine Rt.of pg_ok Tryz.func20 rfl Tryz.ntmps20 rfl Tryz.results20 Tryz.call20 fun H0 S0 w0 h0 g0=>?_
 cases l
 all_goals
  rcases hc with rfl | rfl | rfl | rfl | rfl | rfl | rfl | rfl | rfl
 all_goals
  repeat (first | refine p1 ?_ | refine p2 ?_ | refine p3 ?_ | refine p4 ?_)
  refine GO ih rfl ?_
  refine p1 ?_ (by simpa using h0e)
  exact ⟨⟨rfl,rfl,trivial⟩,rfl⟩
set_option maxHeartbeats 4000000 in
theorem reval_all (S : List Ser) (t c : Int) (hc : c=8∨c=9∨c=10∨c=11) (b : List ByteArray) (l r : Qn) {a : Came} (he : evalF (srcF S) t l=.ok a) (hg : PL.Good a) (hb : b.length≤1000000)
  (ih : Rt pg 20 [qG l,gi t,ses S] (rG (evalF (srcF S) t l))) :
  Rt pg 20 [qG (.mk c 0 [] 0 b l r),gi t,ses S] (rG (evalF (srcF S) t (.mk c 0 [] 0 b l r))):=by
 rw [evalF,if_neg (by omega),if_neg (by omega)]
 rw [he] at ih ⊢
 simp only
 rw [if_pos (by omega)]
 obtain ⟨pl,a2⟩:=a
 have htog:=groups_rt c 0 [] 0 b l r pl (by have:=hg.1.len; simp only at this; omega) hg.2 hb
 refine Rt.of pg_ok Tryz.func20 rfl Tryz.ntmps20 rfl Tryz.results20 Tryz.call20 fun H0 S0 w0 h0 g0=>?_
 cases a2 with
 | true =>
  rcases hc with rfl | rfl | rfl | rfl <;> cases l
  all_goals
   repeat (first | refine p1 ?_ | refine p2 ?_ | refine p3 ?_ | refine p4 ?_)
   refine GO ih rfl ?_
   repeat (first | refine p1 ?_ | refine p2 ?_ | refine p3 ?_ | refine p4 ?_)
   exact ⟨⟨rfl,rfl,trivial⟩,rfl⟩
 | false =>
  rcases hc with rfl | rfl | rfl | rfl <;> cases l
  all_goals
   repeat (first | refine p1 ?_ | refine p2 ?_ | refine p3 ?_ | refine p4 ?_)
   refine GO ih rfl ?_
   repeat (first | refine p1 ?_ | refine p2 ?_ | refine p3 ?_ | refine p4 ?_)
   refine GO htog rfl ?_
   exact ⟨⟨rfl,rfl,trivial⟩,rfl⟩
end Go.Proofs.YtkoalgjlkcaonaaGreatDoor
/-
  Contracts: what any question comes to, by the document (raingaugeref.Eval): of series.
-/
namespace Go.Proofs.YtkoalgjlkcaonaaGreatDoor
open Go.GK Go.PL Go.RowKit
set_option maxRecDepth 100000
set_option maxHeartbeats 4000000 in
theorem reval_over {S : List Ser} (hS : SerOk S) (t c : Int) (hc : 2≤c∧c≤7) (m : List Mt) (sp : Int) (hm : ∀ x ∈ m,0≤x.op∧x.op≤3) (hml : m.length≤1000000) :
  Rt pg 20 [qG (.mk c 0 m sp [] .nil .nil),gi t,ses S] (rG (evalF (srcF S) t (.mk c 0 m sp [] .nil .nil))):=by
 rw [evalF,if_neg (by omega),if_pos (by omega),← rpts_is]
 have hll : (S.map se).length=S.length:=by simp
 have hlen:=hS.len
 generalize hf : wr64 (wr64 (t - sp) + 1)=f
 have hf' : IntKind.i64.wrap (IntKind.i64.wrap (t - sp) + 1)=f:=hf
 refine Rt.of pg_ok Tryz.func20 rfl Tryz.ntmps20 rfl Tryz.results20 Tryz.call20 fun H0 S0 w0 h0 g0=>?_
 refine p2 ?_ rfl
 refine p2 ?_ (beq_false_of_ne (by omega))
 refine p1 ?_ (decide_eq_true (by omega))
 refine JK.ownNilB 1 0 47 2 rfl rfl ?_
 refine JK.loopE (α:=Nat) (β:=Unit) (fun i=>⟨[(0,qG (.mk c 0 m sp [] .nil .nil)),(1,gi t),(6,.p 0 0),(8,.p 1 0),(43,ses S),(44,gi (S.map se).length),(45,gi i)],[(1,.blk 63 [.o 2,.v (.bool false)]),(2,.row 47 2 ((rptsF c (S.take i) m f t).map ptc)),(0,.blk 63 [.v (.slice none 0 0),.v (.bool false)])],3⟩) (fun i=>i≤S.length) (fun i=>S.length - i)
  (fun _=>⟨[(6,.p 0 0),(8,.p 1 0)],[(1,.blk 63 [.o 2,.v (.bool false)]),(2,.row 47 2 ((rptsF c S m f t).map ptc)),(0,.blk 63 [.v (.slice none 0 0),.v (.bool false)])],3⟩) (fun _=>True) 0 id ?_ (Nat.zero_le _) ?_ ?_
 ·exact ⟨⟨rfl,rfl,rfl,rfl,rfl,rfl,rfl,trivial⟩,⟨rfl,rfl,rfl,trivial⟩,rfl⟩
 ·intro i hi
  refine V ?_
  by_cases hlt : i < S.length
  ·have hst:=rpts_snoc c S m f t i hlt
   have hAl : (rptsF c (S.take i) m f t).length≤i:=Nat.le_trans (List.length_filterMap_le _ _) (by rw [List.length_take]; omega)
   generalize rptsF c (S.take i) m f t=A at hst hAl ⊢
   have hsx:=hS.small S[i] (List.getElem_mem hlt)
   have hvx:=hS.val S[i] (List.getElem_mem hlt)
   have hbt:=refBetween_rt S[i].samples f t hsx.2
   have hXle : (S[i].samples.filter (inS f t)).length≤S[i].samples.length:=List.length_filter_le _ _
   have hXv : ∀ x ∈ S[i].samples.filter (inS f t),I64 x.value:=fun x hx=>hvx x (List.mem_filter.1 hx).1
   generalize hX : S[i].samples.filter (inS f t)=X at hbt hXle hXv
   have hX' : S[i].samples.filter (inT f t)=X:=hX
   rw [hX'] at hst
   rw [← hf'] at hbt
   have hXl : (X.map sm).length=X.length:=by simp
   have hall:=fits_rt S[i].labels m hm hml
   refine p1 ?_ (decide_eq_true (by omega))
   refine ix (h:=?_)
   refine FZB 3 rfl rfl ?_
   refine DRAW [] false (tk [0,1,2,3,4,5,6,7,8,9]) (by kernel_rfl) ?_
   refine RGO 10 true (al [11]) hbt rfl rfl (by kernel_rfl) ?_
   refine V ?_
   refine DRAW [] false (tk [0,1,2,3,4,5,6,7,8,9]) (by kernel_rfl) ?_
   by_cases h0 : X=[]
   ·subst h0
    have hc0 : decide (((([] : List Sm).map sm).length : Int) > 0)=false:=rfl
    refine p2 ?_ hc0
    refine RSKIP 10 true (tk [11]) rfl (congrArg (fun c=>c == !true) hc0) (by kernel_rfl) ?_
    refine V ?_
    refine ⟨i + 1,id,⟨⟨rfl,rfl,rfl,rfl,rfl,rfl,succ_gi (by omega),trivial⟩,⟨rfl,?_,rfl,trivial⟩,rfl⟩,hlt,by show S.length - (i + 1) < S.length - i; omega⟩
    rw [hst,if_neg (fun h=>h.1 rfl),List.append_nil]
    rfl
   ·have hpos : 0 < X.length:=List.length_pos_iff.2 h0
    have hc1 : decide (((X.map sm).length : Int) > 0)=true:=decide_eq_true (by omega)
    have hov:=rover_rt c X h0 (by omega) hc hXv
    refine p1 ?_ hc1
    rcases tf (allF S[i].labels m) with h1 | h1
    ·refine RGO 10 true (tk [11]) (hall.bt h1) rfl (congrArg (fun c=>bif (c == true) then some (23,[lbs S[i].labels,.sl 3 (m.map mt)]) else none) hc1) (by kernel_rfl) ?_
     refine V ?_
     refine JK.drawJ [1,2] ⟨[(0,qG (.mk c 0 m sp [] .nil .nil)),(1,gi t),(6,.p 0 0),(8,.p 1 0),(43,ses S),(44,gi (S.map se).length),(45,gi i),(11,sms X)],[(1,.blk 63 [.o 2,.v (.bool false)]),(2,.row 47 2 (A.map ptc++[[lbs S[i].labels,gi (overF c X)]])),(0,.blk 63 [.v (.slice none 0 0),.v (.bool false)])],4⟩ pg_ok ?_ (fun hk=>?_)
     ·refine V ?_
      refine ⟨i + 1,id,⟨⟨rfl,rfl,rfl,rfl,rfl,rfl,succ_gi (by omega),trivial⟩,⟨rfl,?_,rfl,trivial⟩,rfl⟩,hlt,by show S.length - (i + 1) < S.length - i; omega⟩
      rw [hst,if_pos ⟨h0,h1⟩,List.map_append]
      rfl
     ·refine RA.run (cx:=⟨pg,_,_,_,_,_,_,_⟩) pg_ok (by kernel_rfl) (by intro _ _ h; exact h) (tk [0,2,3,4,5,6,7,8]) (e:=false) (by kernel_rfl) ?_
      refine RA.both 1 9 (eqB_eq (by kernel_rfl)) (Stp.read 1 pg_ok rfl rfl ?_) (Stp.rt 9 hov rfl rfl rfl ?_)
      ·refine RGO 9 false (al [10,11,12]++tk [13]++al [14]) hov rfl rfl (by kernel_rfl) ?_
       refine ⟨by simp only [List.length_map,List.length_cons,List.length_nil]; omega,?_⟩
       refine RA.endJ (r1 2 5) (by kernel_rfl) hk ⟨⟨by rfl,by rfl,by rfl,by rfl,by rfl,by rfl,by rfl,by rfl,trivial⟩,⟨by rfl,by rfl,by rfl,trivial⟩,by rfl⟩
      ·refine RA.both 1 10 (eqB_eq (by kernel_rfl)) (Stp.read 1 pg_ok rfl rfl ?_) (Stp.mem 10 pg_ok rfl rfl rfl ?_)
       ·refine RA.run (cx:=⟨pg,_,_,_,_,_,_,_⟩) pg_ok (by kernel_rfl) (by intro _ _ h; exact h) (al [10,11,12]++tk [13]++al [14]) (e:=false) (by kernel_rfl) ?_
        refine ⟨by simp only [List.length_map,List.length_cons,List.length_nil]; omega,?_⟩
        refine RA.endJ (r1 2 5) (by kernel_rfl) hk ⟨⟨by rfl,by rfl,by rfl,by rfl,by rfl,by rfl,by rfl,by rfl,trivial⟩,⟨by rfl,by rfl,by rfl,trivial⟩,by rfl⟩
       ·refine RA.both 1 11 (eqB_eq (by kernel_rfl)) (Stp.read 1 pg_ok rfl rfl ?_) (Stp.mem 11 pg_ok rfl rfl rfl ?_)
        ·refine RA.run (cx:=⟨pg,_,_,_,_,_,_,_⟩) pg_ok (by kernel_rfl) (by intro _ _ h; exact h) (al [11,12]++tk [13]++al [14]) (e:=false) (by kernel_rfl) ?_
         refine ⟨by simp only [List.length_map,List.length_cons,List.length_nil]; omega,?_⟩
         refine RA.endJ (r1 2 5) (by kernel_rfl) hk ⟨⟨by rfl,by rfl,by rfl,by rfl,by rfl,by rfl,by rfl,by rfl,trivial⟩,⟨by rfl,by rfl,by rfl,trivial⟩,by rfl⟩
        ·refine RA.run (cx:=⟨pg,_,_,_,_,_,_,_⟩) pg_ok (by kernel_rfl) (by intro _ _ h; exact h) (al [1,12]++tk [13]++al [14]) (e:=false) (by kernel_rfl) ?_
         refine ⟨by simp only [List.length_map,List.length_cons,List.length_nil]; omega,?_⟩
         refine RA.endJ (r1 2 5) (by kernel_rfl) hk ⟨⟨by rfl,by rfl,by rfl,by rfl,by rfl,by rfl,by rfl,by rfl,trivial⟩,⟨by rfl,by rfl,by rfl,trivial⟩,by rfl⟩
    ·refine RGO 10 true (tk [11]) (hall.bt h1) rfl (congrArg (fun c=>bif (c == true) then some (23,[lbs S[i].labels,.sl 3 (m.map mt)]) else none) hc1) (by kernel_rfl) ?_
     refine V ?_
     refine ⟨i + 1,id,⟨⟨rfl,rfl,rfl,rfl,rfl,rfl,succ_gi (by omega),trivial⟩,⟨rfl,?_,rfl,trivial⟩,rfl⟩,hlt,by show S.length - (i + 1) < S.length - i; omega⟩
     rw [hst,if_neg (fun h=>by rw [h1] at h; cases h.2),List.append_nil]
     rfl
  ·refine p2 ?_ (decide_eq_false (by omega))
   obtain rfl : i=S.length:=by omega
   rw [List.take_length]
   exact ⟨(),id,⟨⟨rfl,rfl,trivial⟩,⟨rfl,rfl,rfl,trivial⟩,rfl⟩,trivial⟩
 ·rintro _ _
  refine FRZ 2 rfl ?_
  exact ⟨⟨rfl,rfl,trivial⟩,rfl⟩
end Go.Proofs.YtkoalgjlkcaonaaGreatDoor
/-
  Contracts: what any question comes to, by the document (raingaugeref.Eval): of two results.
-/
namespace Go.Proofs.YtkoalgjlkcaonaaGreatDoor
open Go.GK Go.PL Go.RowKit
set_option maxRecDepth 100000
set_option maxHeartbeats 4000000 in
theorem reval_bin (S : List Ser) (t c : Int) (hc : 12≤c∧c≤16) (l r : Qn) {a A B : Came} {k : Int} (he : evalF (srcF S) t l=.ok a) (hA : PL.Good A) (hB : PL.Good B)
  (hk : (c=12∧A=([⟨[],0⟩],true)∧B=a∧k=14)∨(c ≠ 12∧A=a∧k=c∧Rt pg 20 [qG r,gi t,ses S] (rG (.ok B))∧r ≠ .nil))
  (ih : Rt pg 20 [qG l,gi t,ses S] (rG (evalF (srcF S) t l))) (hl : l ≠ .nil) :
  Rt pg 20 [qG (.mk c 0 [] 0 [] l r),gi t,ses S] (rG (.ok (bothQ k A B))):=by
 rw [he] at ih
 rw [bothQ_is]
 obtain ⟨al,a2⟩:=A
 obtain ⟨bl,b2⟩:=B
 obtain ⟨a1,aa⟩:=a
 have hal : (al.map ptc).length=al.length:=by simp
 have hbl : (bl.map ptc).length=bl.length:=by simp
 have hal' : al.length≤100:=hA.1.len
 have hbl' : bl.length≤100:=hB.1.len
 have hla : ∀ p ∈ al,p.labels.length≤1000000:=hA.2
 have hlb : ∀ p ∈ bl,p.labels.length≤1000000:=hB.2
 have hva : ∀ p ∈ al,I64 p.value:=hA.1.val
 have hvb : ∀ p ∈ bl,I64 p.value:=hB.1.val
 refine Rt.ofJ pg_ok Tryz.func20 rfl Tryz.ntmps20 rfl Tryz.results20 Tryz.call20 fun H0 S0 w0 h0 g0=>?_
 cases l with
 | nil=>exact absurd rfl hl
 | mk lc ln lm lsp lb ll lr =>
 refine V ?_
 refine p2 ?_ rfl
 repeat (first | refine p1 ?_ | refine p2 ?_ | refine p3 ?_ | refine p4 ?_)
 refine GOJ ih.hf id rfl rfl trivial rfl (id_lt rfl) ?_
 rintro _ _ _ ⟨rfl,rfl,rfl⟩
 refine VM 33 ?_
 repeat (first | refine p1 ?_ | refine p2 ?_ | refine p3 ?_ | refine p4 ?_)
 refine JK.cut (α:=Unit) (fun _=>⟨[(0,qG (.mk c 0 [] 0 [] (.mk lc ln lm lsp lb ll lr) r)),(6,.p 0 0),(12,.p 1 0),(14,.p 2 0)],[(0,.blk 63 [.v (.slice none 0 0),.v (.bool false)]),(1,.blk 63 [pts al,.v (.bool a2)]),(2,.blk 63 [pts bl,.v (.bool b2)])],3⟩) (fun _=>True) ?_ ?_
 ·rcases hk with ⟨h12,hA',hB',_⟩ | ⟨h12,hA',_,ihr,hr⟩
  ·cases hA'
   cases hB'
   refine VM 12 ?_
   refine p1 ?_ (decide_eq_true h12)
   show JK _ _ _ _
   refine JK.freeze 3 rfl ?_
   refine JK.sub 122 (pts [⟨[],0⟩]) rfl (Sub.rows (.cons (.cons (SubR.nil 2) (.cons SubR.rfl .nil)) .nil)) ?_
   refine V ?_
   exact ⟨(),id,⟨⟨rfl,rfl,rfl,rfl,trivial⟩,⟨rfl,rfl,rfl,trivial⟩,rfl⟩,trivial⟩
  ·cases hA'
   cases r with
   | nil=>exact absurd rfl hr
   | mk rc rn rm rsp rb rl rr =>
   refine V ?_
   refine p2 ?_ (decide_eq_false h12)
   refine GO ihr rfl ?_
   refine p2 ?_ rfl
   exact ⟨(),id,⟨⟨rfl,rfl,rfl,rfl,trivial⟩,⟨rfl,rfl,rfl,trivial⟩,rfl⟩,trivial⟩
 rintro _ _
 refine VM 9 ?_
 refine JK.cut (α:=Unit) (fun _=>⟨[(6,.p 0 0),(12,.p 1 0),(14,.p 2 0),(15,gi k)],[(0,.blk 63 [.v (.slice none 0 0),.v (.bool false)]),(1,.blk 63 [pts al,.v (.bool a2)]),(2,.blk 63 [pts bl,.v (.bool b2)])],3⟩) (fun _=>True) ?_ ?_
 ·refine V ?_
  rcases hk with ⟨h12,_,_,hk⟩ | ⟨h12,_,hk,_,_⟩
  ·refine p1 ?_ (decide_eq_true h12)
   refine ⟨(),id,⟨⟨rfl,rfl,rfl,?_,trivial⟩,⟨rfl,rfl,rfl,trivial⟩,rfl⟩,trivial⟩
   rw [hk]
   rfl
  ·refine p2 ?_ (decide_eq_false h12)
   refine ⟨(),id,⟨⟨rfl,rfl,rfl,?_,trivial⟩,⟨rfl,rfl,rfl,trivial⟩,rfl⟩,trivial⟩
   rw [hk]
   rfl
 rintro _ _
 clear hk ih
 refine V ?_
 cases a2 <;> cases b2
 ·refine JK.ownNilB 3 0 47 2 rfl rfl ?_
  refine JK.freezeB 1 rfl rfl ?_
  refine JK.freezeB 2 rfl rfl ?_
  have hO : ∀ i,i≤al.length→((al.take i).flatMap (fun p=>bl.filterMap (pairQ k (al,false) (bl,false) p))).length≤i * bl.length:=fun i hi=>by
   have:=fl_len (fun p=>bl.filterMap (pairQ k (al,false) (bl,false) p)) bl.length (fun p=>List.length_filterMap_le _ _) (al.take i)
   rwa [List.length_take,Nat.min_eq_left hi] at this
  refine JK.loopE (α:=Nat) (β:=Unit) (fun i=>⟨[(6,.p 0 0),(12,.r [pts al,.v (.bool false)]),(14,.r [pts bl,.v (.bool false)]),(15,gi k),(16,.p 3 0),(152,pts al),(153,gi (al.map ptc).length),(154,gi i)],[(3,.blk 63 [.o 4,.v (.bool (false && false))]),(4,.row 47 2 (((al.take i).flatMap (fun p=>bl.filterMap (pairQ k (al,false) (bl,false) p))).map ptc)),(0,.blk 63 [.v (.slice none 0 0),.v (.bool false)])],5⟩) (fun i=>i≤al.length) (fun i=>al.length - i)
   (fun _=>⟨[(6,.p 0 0),(16,.p 3 0)],[(3,.blk 63 [.o 4,.v (.bool (false && false))]),(4,.row 47 2 ((al.flatMap (fun p=>bl.filterMap (pairQ k (al,false) (bl,false) p))).map ptc)),(0,.blk 63 [.v (.slice none 0 0),.v (.bool false)])],5⟩) (fun _=>True) 0 id ?_ (Nat.zero_le _) ?_ ?_
  ·exact ⟨⟨rfl,rfl,rfl,rfl,rfl,rfl,rfl,rfl,trivial⟩,⟨rfl,rfl,rfl,trivial⟩,rfl⟩
  ·intro i hi
   refine V ?_
   by_cases hlt : i < al.length
   ·have hOi:=hO i hi
    have hst:=fl_snoc (fun p=>bl.filterMap (pairQ k (al,false) (bl,false) p)) al i hlt
    generalize (al.take i).flatMap (fun p=>bl.filterMap (pairQ k (al,false) (bl,false) p))=O at hst hOi ⊢
    have hpl:=hla al[i] (List.getElem_mem hlt)
    have hmul : i * bl.length≤100 * 100:=Nat.mul_le_mul (by omega) (by omega)
    refine p1 ?_ (decide_eq_true (by omega))
    refine ix (h:=?_)
    refine FZB 5 rfl rfl ?_
    refine JK.loopE (α:=Nat) (β:=Unit) (fun j=>⟨[(6,.p 0 0),(12,.r [pts al,.v (.bool false)]),(14,.r [pts bl,.v (.bool false)]),(15,gi k),(16,.p 3 0),(152,pts al),(153,gi (al.map ptc).length),(154,gi i),(18,.r (ptc al[i])),(159,pts bl),(160,gi (bl.map ptc).length),(161,gi j)],[(3,.blk 63 [.o 4,.v (.bool (false && false))]),(4,.row 47 2 ((O++(bl.take j).filterMap (pairQ k (al,false) (bl,false) al[i])).map ptc)),(0,.blk 63 [.v (.slice none 0 0),.v (.bool false)])],6⟩) (fun j=>j≤bl.length) (fun j=>bl.length - j)
     (fun _=>⟨[(6,.p 0 0),(12,.r [pts al,.v (.bool false)]),(14,.r [pts bl,.v (.bool false)]),(15,gi k),(16,.p 3 0),(152,pts al),(153,gi (al.map ptc).length),(154,gi i)],[(3,.blk 63 [.o 4,.v (.bool (false && false))]),(4,.row 47 2 ((O++bl.filterMap (pairQ k (al,false) (bl,false) al[i])).map ptc)),(0,.blk 63 [.v (.slice none 0 0),.v (.bool false)])],6⟩) (fun _=>True) 0 id ?_ (Nat.zero_le _) ?_ ?_
    ·refine ⟨⟨rfl,rfl,rfl,rfl,rfl,rfl,rfl,rfl,rfl,rfl,rfl,rfl,trivial⟩,⟨rfl,?_,rfl,trivial⟩,rfl⟩
     rw [List.take_zero,List.filterMap_nil,List.append_nil]
     rfl
    ·intro j hj
     refine V ?_
     by_cases hjl : j < bl.length
     ·have hPs : O++(bl.take (j + 1)).filterMap (pairQ k (al,false) (bl,false) al[i])=(O++(bl.take j).filterMap (pairQ k (al,false) (bl,false) al[i]))++((pairQ k (al,false) (bl,false) al[i] bl[j])).toList:=by rw [fm_snoc _ _ _ hjl,List.append_assoc]
      have hPl : ((bl.take j).filterMap (pairQ k (al,false) (bl,false) al[i])).length≤j:=Nat.le_trans (List.length_filterMap_le _ _) (by rw [List.length_take]; omega)
      generalize (bl.take j).filterMap (pairQ k (al,false) (bl,false) al[i])=P at hPs hPl ⊢
      refine p1 ?_ (decide_eq_true (by omega))
      refine ix (h:=?_)
      refine FZB 6 rfl rfl ?_
      have hcm:=refCompare_rt al[i].labels bl[j].labels hpl (hlb _ (List.getElem_mem hjl))
      refine GO hcm rfl ?_
      by_cases h0c : cmpF al[i].labels bl[j].labels=0
      ·have hne : (cmpF al[i].labels bl[j].labels != 0)=false:=by rw [h0c]; rfl
       refine p2 ?_ hne
       have hpq : pairQ k (al,false) (bl,false) al[i] bl[j]=(countF k al[i].value bl[j].value).map fun n=>(⟨al[i].labels,n⟩ : Pt):=(if_neg Bool.false_ne_true).trans (if_pos (Or.inr h0c))
       have htw:=two_rt k al[i].value bl[j].value (hva _ (List.getElem_mem hlt)) (hvb _ (List.getElem_mem hjl))
       cases hcf : countF k al[i].value bl[j].value with
       | none =>
        rw [hcf] at hpq htw
        refine GO htw rfl ?_
        refine ⟨j + 1,id,⟨⟨rfl,rfl,rfl,rfl,rfl,rfl,rfl,rfl,rfl,rfl,rfl,succ_gi (by omega),trivial⟩,⟨rfl,?_,rfl,trivial⟩,rfl⟩,hjl,by show bl.length - (j + 1) < bl.length - j; omega⟩
        rw [hPs,hpq]
        exact congrArg (fun l : List Pt=>some (Res.row 47 2 (l.map ptc))) (by simp)
       | some n =>
        rw [hcf] at hpq htw
        refine GO htw rfl ?_
        refine ⟨by simp only [List.length_map,List.length_append,List.length_cons,List.length_nil]; omega,?_⟩
        refine ⟨j + 1,r1 4 9,⟨⟨rfl,rfl,rfl,rfl,rfl,rfl,rfl,rfl,rfl,rfl,rfl,succ_gi (by omega),trivial⟩,⟨rfl,?_,rfl,trivial⟩,rfl⟩,hjl,by show bl.length - (j + 1) < bl.length - j; omega⟩
        rw [hPs,hpq]
        exact congrArg (fun z=>some (Res.row 47 2 z)) (List.map_append (f:=ptc) (l₁:=O++P) (l₂:=[⟨al[i].labels,n⟩])).symm
      ·have hne : (cmpF al[i].labels bl[j].labels != 0)=true:=by simpa using h0c
       have hpq : pairQ k (al,false) (bl,false) al[i] bl[j]=none:=(if_neg Bool.false_ne_true).trans (if_neg (by rintro (h | h); exact absurd h Bool.false_ne_true; exact h0c h))
       refine p1 ?_ hne
       refine ⟨j + 1,id,⟨⟨rfl,rfl,rfl,rfl,rfl,rfl,rfl,rfl,rfl,rfl,rfl,succ_gi (by omega),trivial⟩,⟨rfl,?_,rfl,trivial⟩,rfl⟩,hjl,by show bl.length - (j + 1) < bl.length - j; omega⟩
       rw [hPs,hpq]
       exact congrArg (fun l : List Pt=>some (Res.row 47 2 (l.map ptc))) (by simp)
     ·refine p2 ?_ (decide_eq_false (by omega))
      obtain rfl : j=bl.length:=by omega
      rw [List.take_length]
      exact ⟨(),id,⟨⟨rfl,rfl,rfl,rfl,rfl,rfl,rfl,rfl,trivial⟩,⟨rfl,rfl,rfl,trivial⟩,rfl⟩,trivial⟩
    ·rintro _ _
     refine V ?_
     refine ⟨i + 1,id,⟨⟨rfl,rfl,rfl,rfl,rfl,rfl,rfl,succ_gi (by omega),trivial⟩,⟨rfl,?_,rfl,trivial⟩,rfl⟩,hlt,by show al.length - (i + 1) < al.length - i; omega⟩
     rw [hst]
     rfl
   ·refine p2 ?_ (decide_eq_false (by omega))
    obtain rfl : i=al.length:=by omega
    rw [List.take_length]
    exact ⟨(),id,⟨⟨rfl,rfl,trivial⟩,⟨rfl,rfl,rfl,trivial⟩,rfl⟩,trivial⟩
  ·rintro _ _
   refine FRZ 4 rfl ?_
   exact ⟨⟨rfl,rfl,trivial⟩,rfl⟩
 ·refine JK.ownNilB 3 0 47 2 rfl rfl ?_
  refine JK.freezeB 1 rfl rfl ?_
  refine JK.freezeB 2 rfl rfl ?_
  have hO : ∀ i,i≤al.length→((al.take i).flatMap (fun p=>bl.filterMap (pairQ k (al,false) (bl,true) p))).length≤i * bl.length:=fun i hi=>by
   have:=fl_len (fun p=>bl.filterMap (pairQ k (al,false) (bl,true) p)) bl.length (fun p=>List.length_filterMap_le _ _) (al.take i)
   rwa [List.length_take,Nat.min_eq_left hi] at this
  refine JK.loopE (α:=Nat) (β:=Unit) (fun i=>⟨[(6,.p 0 0),(12,.r [pts al,.v (.bool false)]),(14,.r [pts bl,.v (.bool true)]),(15,gi k),(16,.p 3 0),(152,pts al),(153,gi (al.map ptc).length),(154,gi i)],[(3,.blk 63 [.o 4,.v (.bool (false && true))]),(4,.row 47 2 (((al.take i).flatMap (fun p=>bl.filterMap (pairQ k (al,false) (bl,true) p))).map ptc)),(0,.blk 63 [.v (.slice none 0 0),.v (.bool false)])],5⟩) (fun i=>i≤al.length) (fun i=>al.length - i)
   (fun _=>⟨[(6,.p 0 0),(16,.p 3 0)],[(3,.blk 63 [.o 4,.v (.bool (false && true))]),(4,.row 47 2 ((al.flatMap (fun p=>bl.filterMap (pairQ k (al,false) (bl,true) p))).map ptc)),(0,.blk 63 [.v (.slice none 0 0),.v (.bool false)])],5⟩) (fun _=>True) 0 id ?_ (Nat.zero_le _) ?_ ?_
  ·exact ⟨⟨rfl,rfl,rfl,rfl,rfl,rfl,rfl,rfl,trivial⟩,⟨rfl,rfl,rfl,trivial⟩,rfl⟩
  ·intro i hi
   refine V ?_
   by_cases hlt : i < al.length
   ·have hOi:=hO i hi
    have hst:=fl_snoc (fun p=>bl.filterMap (pairQ k (al,false) (bl,true) p)) al i hlt
    generalize (al.take i).flatMap (fun p=>bl.filterMap (pairQ k (al,false) (bl,true) p))=O at hst hOi ⊢
    have hpl:=hla al[i] (List.getElem_mem hlt)
    have hmul : i * bl.length≤100 * 100:=Nat.mul_le_mul (by omega) (by omega)
    refine p1 ?_ (decide_eq_true (by omega))
    refine ix (h:=?_)
    refine FZB 5 rfl rfl ?_
    refine JK.loopE (α:=Nat) (β:=Unit) (fun j=>⟨[(6,.p 0 0),(12,.r [pts al,.v (.bool false)]),(14,.r [pts bl,.v (.bool true)]),(15,gi k),(16,.p 3 0),(152,pts al),(153,gi (al.map ptc).length),(154,gi i),(18,.r (ptc al[i])),(159,pts bl),(160,gi (bl.map ptc).length),(161,gi j)],[(3,.blk 63 [.o 4,.v (.bool (false && true))]),(4,.row 47 2 ((O++(bl.take j).filterMap (pairQ k (al,false) (bl,true) al[i])).map ptc)),(0,.blk 63 [.v (.slice none 0 0),.v (.bool false)])],6⟩) (fun j=>j≤bl.length) (fun j=>bl.length - j)
     (fun _=>⟨[(6,.p 0 0),(12,.r [pts al,.v (.bool false)]),(14,.r [pts bl,.v (.bool true)]),(15,gi k),(16,.p 3 0),(152,pts al),(153,gi (al.map ptc).length),(154,gi i)],[(3,.blk 63 [.o 4,.v (.bool (false && true))]),(4,.row 47 2 ((O++bl.filterMap (pairQ k (al,false) (bl,true) al[i])).map ptc)),(0,.blk 63 [.v (.slice none 0 0),.v (.bool false)])],6⟩) (fun _=>True) 0 id ?_ (Nat.zero_le _) ?_ ?_
    ·refine ⟨⟨rfl,rfl,rfl,rfl,rfl,rfl,rfl,rfl,rfl,rfl,rfl,rfl,trivial⟩,⟨rfl,?_,rfl,trivial⟩,rfl⟩
     rw [List.take_zero,List.filterMap_nil,List.append_nil]
     rfl
    ·intro j hj
     refine V ?_
     by_cases hjl : j < bl.length
     ·have hPs : O++(bl.take (j + 1)).filterMap (pairQ k (al,false) (bl,true) al[i])=(O++(bl.take j).filterMap (pairQ k (al,false) (bl,true) al[i]))++((pairQ k (al,false) (bl,true) al[i] bl[j])).toList:=by rw [fm_snoc _ _ _ hjl,List.append_assoc]
      have hPl : ((bl.take j).filterMap (pairQ k (al,false) (bl,true) al[i])).length≤j:=Nat.le_trans (List.length_filterMap_le _ _) (by rw [List.length_take]; omega)
      generalize (bl.take j).filterMap (pairQ k (al,false) (bl,true) al[i])=P at hPs hPl ⊢
      refine p1 ?_ (decide_eq_true (by omega))
      refine ix (h:=?_)
      refine FZB 6 rfl rfl ?_
      repeat (first | refine p1 ?_ | refine p2 ?_ | refine p3 ?_ | refine p4 ?_)
      have hpq : pairQ k (al,false) (bl,true) al[i] bl[j]=(countF k al[i].value bl[j].value).map fun n=>(⟨al[i].labels,n⟩ : Pt):=(if_neg Bool.false_ne_true).trans (if_pos (Or.inl rfl))
      have htw:=two_rt k al[i].value bl[j].value (hva _ (List.getElem_mem hlt)) (hvb _ (List.getElem_mem hjl))
      cases hcf : countF k al[i].value bl[j].value with
      | none =>
       rw [hcf] at hpq htw
       refine GO htw rfl ?_
       refine ⟨j + 1,id,⟨⟨rfl,rfl,rfl,rfl,rfl,rfl,rfl,rfl,rfl,rfl,rfl,succ_gi (by omega),trivial⟩,⟨rfl,?_,rfl,trivial⟩,rfl⟩,hjl,by show bl.length - (j + 1) < bl.length - j; omega⟩
       rw [hPs,hpq]
       exact congrArg (fun l : List Pt=>some (Res.row 47 2 (l.map ptc))) (by simp)
      | some n =>
       rw [hcf] at hpq htw
       refine GO htw rfl ?_
       refine ⟨by simp only [List.length_map,List.length_append,List.length_cons,List.length_nil]; omega,?_⟩
       refine ⟨j + 1,r1 4 9,⟨⟨rfl,rfl,rfl,rfl,rfl,rfl,rfl,rfl,rfl,rfl,rfl,succ_gi (by omega),trivial⟩,⟨rfl,?_,rfl,trivial⟩,rfl⟩,hjl,by show bl.length - (j + 1) < bl.length - j; omega⟩
       rw [hPs,hpq]
       exact congrArg (fun z=>some (Res.row 47 2 z)) (List.map_append (f:=ptc) (l₁:=O++P) (l₂:=[⟨al[i].labels,n⟩])).symm
     ·refine p2 ?_ (decide_eq_false (by omega))
      obtain rfl : j=bl.length:=by omega
      rw [List.take_length]
      exact ⟨(),id,⟨⟨rfl,rfl,rfl,rfl,rfl,rfl,rfl,rfl,trivial⟩,⟨rfl,rfl,rfl,trivial⟩,rfl⟩,trivial⟩
    ·rintro _ _
     refine V ?_
     refine ⟨i + 1,id,⟨⟨rfl,rfl,rfl,rfl,rfl,rfl,rfl,succ_gi (by omega),trivial⟩,⟨rfl,?_,rfl,trivial⟩,rfl⟩,hlt,by show al.length - (i + 1) < al.length - i; omega⟩
     rw [hst]
     rfl
   ·refine p2 ?_ (decide_eq_false (by omega))
    obtain rfl : i=al.length:=by omega
    rw [List.take_length]
    exact ⟨(),id,⟨⟨rfl,rfl,trivial⟩,⟨rfl,rfl,rfl,trivial⟩,rfl⟩,trivial⟩
  ·rintro _ _
   refine FRZ 4 rfl ?_
   exact ⟨⟨rfl,rfl,trivial⟩,rfl⟩
 ·refine JK.ownNilB 3 0 47 2 rfl rfl ?_
  refine JK.freezeB 1 rfl rfl ?_
  refine JK.freezeB 2 rfl rfl ?_
  have hO : ∀ i,i≤al.length→((al.take i).flatMap (fun p=>bl.filterMap (pairQ k (al,true) (bl,false) p))).length≤i * bl.length:=fun i hi=>by
   have:=fl_len (fun p=>bl.filterMap (pairQ k (al,true) (bl,false) p)) bl.length (fun p=>List.length_filterMap_le _ _) (al.take i)
   rwa [List.length_take,Nat.min_eq_left hi] at this
  refine JK.loopE (α:=Nat) (β:=Unit) (fun i=>⟨[(6,.p 0 0),(12,.r [pts al,.v (.bool true)]),(14,.r [pts bl,.v (.bool false)]),(15,gi k),(16,.p 3 0),(152,pts al),(153,gi (al.map ptc).length),(154,gi i)],[(3,.blk 63 [.o 4,.v (.bool (true && false))]),(4,.row 47 2 (((al.take i).flatMap (fun p=>bl.filterMap (pairQ k (al,true) (bl,false) p))).map ptc)),(0,.blk 63 [.v (.slice none 0 0),.v (.bool false)])],5⟩) (fun i=>i≤al.length) (fun i=>al.length - i)
   (fun _=>⟨[(6,.p 0 0),(16,.p 3 0)],[(3,.blk 63 [.o 4,.v (.bool (true && false))]),(4,.row 47 2 ((al.flatMap (fun p=>bl.filterMap (pairQ k (al,true) (bl,false) p))).map ptc)),(0,.blk 63 [.v (.slice none 0 0),.v (.bool false)])],5⟩) (fun _=>True) 0 id ?_ (Nat.zero_le _) ?_ ?_
  ·exact ⟨⟨rfl,rfl,rfl,rfl,rfl,rfl,rfl,rfl,trivial⟩,⟨rfl,rfl,rfl,trivial⟩,rfl⟩
  ·intro i hi
   refine V ?_
   by_cases hlt : i < al.length
   ·have hOi:=hO i hi
    have hst:=fl_snoc (fun p=>bl.filterMap (pairQ k (al,true) (bl,false) p)) al i hlt
    generalize (al.take i).flatMap (fun p=>bl.filterMap (pairQ k (al,true) (bl,false) p))=O at hst hOi ⊢
    have hpl:=hla al[i] (List.getElem_mem hlt)
    have hmul : i * bl.length≤100 * 100:=Nat.mul_le_mul (by omega) (by omega)
    refine p1 ?_ (decide_eq_true (by omega))
    refine ix (h:=?_)
    refine FZB 5 rfl rfl ?_
    refine JK.loopE (α:=Nat) (β:=Unit) (fun j=>⟨[(6,.p 0 0),(12,.r [pts al,.v (.bool true)]),(14,.r [pts bl,.v (.bool false)]),(15,gi k),(16,.p 3 0),(152,pts al),(153,gi (al.map ptc).length),(154,gi i),(18,.r (ptc al[i])),(159,pts bl),(160,gi (bl.map ptc).length),(161,gi j)],[(3,.blk 63 [.o 4,.v (.bool (true && false))]),(4,.row 47 2 ((O++(bl.take j).filterMap (pairQ k (al,true) (bl,false) al[i])).map ptc)),(0,.blk 63 [.v (.slice none 0 0),.v (.bool false)])],6⟩) (fun j=>j≤bl.length) (fun j=>bl.length - j)
     (fun _=>⟨[(6,.p 0 0),(12,.r [pts al,.v (.bool true)]),(14,.r [pts bl,.v (.bool false)]),(15,gi k),(16,.p 3 0),(152,pts al),(153,gi (al.map ptc).length),(154,gi i)],[(3,.blk 63 [.o 4,.v (.bool (true && false))]),(4,.row 47 2 ((O++bl.filterMap (pairQ k (al,true) (bl,false) al[i])).map ptc)),(0,.blk 63 [.v (.slice none 0 0),.v (.bool false)])],6⟩) (fun _=>True) 0 id ?_ (Nat.zero_le _) ?_ ?_
    ·refine ⟨⟨rfl,rfl,rfl,rfl,rfl,rfl,rfl,rfl,rfl,rfl,rfl,rfl,trivial⟩,⟨rfl,?_,rfl,trivial⟩,rfl⟩
     rw [List.take_zero,List.filterMap_nil,List.append_nil]
     rfl
    ·intro j hj
     refine V ?_
     by_cases hjl : j < bl.length
     ·have hPs : O++(bl.take (j + 1)).filterMap (pairQ k (al,true) (bl,false) al[i])=(O++(bl.take j).filterMap (pairQ k (al,true) (bl,false) al[i]))++((pairQ k (al,true) (bl,false) al[i] bl[j])).toList:=by rw [fm_snoc _ _ _ hjl,List.append_assoc]
      have hPl : ((bl.take j).filterMap (pairQ k (al,true) (bl,false) al[i])).length≤j:=Nat.le_trans (List.length_filterMap_le _ _) (by rw [List.length_take]; omega)
      generalize (bl.take j).filterMap (pairQ k (al,true) (bl,false) al[i])=P at hPs hPl ⊢
      refine p1 ?_ (decide_eq_true (by omega))
      refine ix (h:=?_)
      refine FZB 6 rfl rfl ?_
      repeat (first | refine p1 ?_ | refine p2 ?_ | refine p3 ?_ | refine p4 ?_)
      have hpq : pairQ k (al,true) (bl,false) al[i] bl[j]=(countF k al[i].value bl[j].value).map fun n=>(⟨bl[j].labels,n⟩ : Pt):=if_pos rfl
      have htw:=two_rt k al[i].value bl[j].value (hva _ (List.getElem_mem hlt)) (hvb _ (List.getElem_mem hjl))
      cases hcf : countF k al[i].value bl[j].value with
      | none =>
       rw [hcf] at hpq htw
       refine GO htw rfl ?_
       refine ⟨j + 1,id,⟨⟨rfl,rfl,rfl,rfl,rfl,rfl,rfl,rfl,rfl,rfl,rfl,succ_gi (by omega),trivial⟩,⟨rfl,?_,rfl,trivial⟩,rfl⟩,hjl,by show bl.length - (j + 1) < bl.length - j; omega⟩
       rw [hPs,hpq]
       exact congrArg (fun l : List Pt=>some (Res.row 47 2 (l.map ptc))) (by simp)
      | some n =>
       rw [hcf] at hpq htw
       refine GO htw rfl ?_
       refine ⟨by simp only [List.length_map,List.length_append,List.length_cons,List.length_nil]; omega,?_⟩
       refine ⟨j + 1,r1 4 9,⟨⟨rfl,rfl,rfl,rfl,rfl,rfl,rfl,rfl,rfl,rfl,rfl,succ_gi (by omega),trivial⟩,⟨rfl,?_,rfl,trivial⟩,rfl⟩,hjl,by show bl.length - (j + 1) < bl.length - j; omega⟩
       rw [hPs,hpq]
       exact congrArg (fun z=>some (Res.row 47 2 z)) (List.map_append (f:=ptc) (l₁:=O++P) (l₂:=[⟨bl[j].labels,n⟩])).symm
     ·refine p2 ?_ (decide_eq_false (by omega))
      obtain rfl : j=bl.length:=by omega
      rw [List.take_length]
      exact ⟨(),id,⟨⟨rfl,rfl,rfl,rfl,rfl,rfl,rfl,rfl,trivial⟩,⟨rfl,rfl,rfl,trivial⟩,rfl⟩,trivial⟩
    ·rintro _ _
     refine V ?_
     refine ⟨i + 1,id,⟨⟨rfl,rfl,rfl,rfl,rfl,rfl,rfl,succ_gi (by omega),trivial⟩,⟨rfl,?_,rfl,trivial⟩,rfl⟩,hlt,by show al.length - (i + 1) < al.length - i; omega⟩
     rw [hst]
     rfl
   ·refine p2 ?_ (decide_eq_false (by omega))
    obtain rfl : i=al.length:=by omega
    rw [List.take_length]
    exact ⟨(),id,⟨⟨rfl,rfl,trivial⟩,⟨rfl,rfl,rfl,trivial⟩,rfl⟩,trivial⟩
  ·rintro _ _
   refine FRZ 4 rfl ?_
   exact ⟨⟨rfl,rfl,trivial⟩,rfl⟩
 ·refine JK.ownNilB 3 0 47 2 rfl rfl ?_
  refine JK.freezeB 1 rfl rfl ?_
  refine JK.freezeB 2 rfl rfl ?_
  have hO : ∀ i,i≤al.length→((al.take i).flatMap (fun p=>bl.filterMap (pairQ k (al,true) (bl,true) p))).length≤i * bl.length:=fun i hi=>by
   have:=fl_len (fun p=>bl.filterMap (pairQ k (al,true) (bl,true) p)) bl.length (fun p=>List.length_filterMap_le _ _) (al.take i)
   rwa [List.length_take,Nat.min_eq_left hi] at this
  refine JK.loopE (α:=Nat) (β:=Unit) (fun i=>⟨[(6,.p 0 0),(12,.r [pts al,.v (.bool true)]),(14,.r [pts bl,.v (.bool true)]),(15,gi k),(16,.p 3 0),(152,pts al),(153,gi (al.map ptc).length),(154,gi i)],[(3,.blk 63 [.o 4,.v (.bool (true && true))]),(4,.row 47 2 (((al.take i).flatMap (fun p=>bl.filterMap (pairQ k (al,true) (bl,true) p))).map ptc)),(0,.blk 63 [.v (.slice none 0 0),.v (.bool false)])],5⟩) (fun i=>i≤al.length) (fun i=>al.length - i)
   (fun _=>⟨[(6,.p 0 0),(16,.p 3 0)],[(3,.blk 63 [.o 4,.v (.bool (true && true))]),(4,.row 47 2 ((al.flatMap (fun p=>bl.filterMap (pairQ k (al,true) (bl,true) p))).map ptc)),(0,.blk 63 [.v (.slice none 0 0),.v (.bool false)])],5⟩) (fun _=>True) 0 id ?_ (Nat.zero_le _) ?_ ?_
  ·exact ⟨⟨rfl,rfl,rfl,rfl,rfl,rfl,rfl,rfl,trivial⟩,⟨rfl,rfl,rfl,trivial⟩,rfl⟩
  ·intro i hi
   refine V ?_
   by_cases hlt : i < al.length
   ·have hOi:=hO i hi
    have hst:=fl_snoc (fun p=>bl.filterMap (pairQ k (al,true) (bl,true) p)) al i hlt
    generalize (al.take i).flatMap (fun p=>bl.filterMap (pairQ k (al,true) (bl,true) p))=O at hst hOi ⊢
    have hpl:=hla al[i] (List.getElem_mem hlt)
    have hmul : i * bl.length≤100 * 100:=Nat.mul_le_mul (by omega) (by omega)
    refine p1 ?_ (decide_eq_true (by omega))
    refine ix (h:=?_)
    refine FZB 5 rfl rfl ?_
    refine JK.loopE (α:=Nat) (β:=Unit) (fun j=>⟨[(6,.p 0 0),(12,.r [pts al,.v (.bool true)]),(14,.r [pts bl,.v (.bool true)]),(15,gi k),(16,.p 3 0),(152,pts al),(153,gi (al.map ptc).length),(154,gi i),(18,.r (ptc al[i])),(159,pts bl),(160,gi (bl.map ptc).length),(161,gi j)],[(3,.blk 63 [.o 4,.v (.bool (true && true))]),(4,.row 47 2 ((O++(bl.take j).filterMap (pairQ k (al,true) (bl,true) al[i])).map ptc)),(0,.blk 63 [.v (.slice none 0 0),.v (.bool false)])],6⟩) (fun j=>j≤bl.length) (fun j=>bl.length - j)
     (fun _=>⟨[(6,.p 0 0),(12,.r [pts al,.v (.bool true)]),(14,.r [pts bl,.v (.bool true)]),(15,gi k),(16,.p 3 0),(152,pts al),(153,gi (al.map ptc).length),(154,gi i)],[(3,.blk 63 [.o 4,.v (.bool (true && true))]),(4,.row 47 2 ((O++bl.filterMap (pairQ k (al,true) (bl,true) al[i])).map ptc)),(0,.blk 63 [.v (.slice none 0 0),.v (.bool false)])],6⟩) (fun _=>True) 0 id ?_ (Nat.zero_le _) ?_ ?_
    ·refine ⟨⟨rfl,rfl,rfl,rfl,rfl,rfl,rfl,rfl,rfl,rfl,rfl,rfl,trivial⟩,⟨rfl,?_,rfl,trivial⟩,rfl⟩
     rw [List.take_zero,List.filterMap_nil,List.append_nil]
     rfl
    ·intro j hj
     refine V ?_
     by_cases hjl : j < bl.length
     ·have hPs : O++(bl.take (j + 1)).filterMap (pairQ k (al,true) (bl,true) al[i])=(O++(bl.take j).filterMap (pairQ k (al,true) (bl,true) al[i]))++((pairQ k (al,true) (bl,true) al[i] bl[j])).toList:=by rw [fm_snoc _ _ _ hjl,List.append_assoc]
      have hPl : ((bl.take j).filterMap (pairQ k (al,true) (bl,true) al[i])).length≤j:=Nat.le_trans (List.length_filterMap_le _ _) (by rw [List.length_take]; omega)
      generalize (bl.take j).filterMap (pairQ k (al,true) (bl,true) al[i])=P at hPs hPl ⊢
      refine p1 ?_ (decide_eq_true (by omega))
      refine ix (h:=?_)
      refine FZB 6 rfl rfl ?_
      repeat (first | refine p1 ?_ | refine p2 ?_ | refine p3 ?_ | refine p4 ?_)
      have hpq : pairQ k (al,true) (bl,true) al[i] bl[j]=(countF k al[i].value bl[j].value).map fun n=>(⟨bl[j].labels,n⟩ : Pt):=if_pos rfl
      have htw:=two_rt k al[i].value bl[j].value (hva _ (List.getElem_mem hlt)) (hvb _ (List.getElem_mem hjl))
      cases hcf : countF k al[i].value bl[j].value with
      | none =>
       rw [hcf] at hpq htw
       refine GO htw rfl ?_
       refine ⟨j + 1,id,⟨⟨rfl,rfl,rfl,rfl,rfl,rfl,rfl,rfl,rfl,rfl,rfl,succ_gi (by omega),trivial⟩,⟨rfl,?_,rfl,trivial⟩,rfl⟩,hjl,by show bl.length - (j + 1) < bl.length - j; omega⟩
       rw [hPs,hpq]
       exact congrArg (fun l : List Pt=>some (Res.row 47 2 (l.map ptc))) (by simp)
      | some n =>
       rw [hcf] at hpq htw
       refine GO htw rfl ?_
       refine ⟨by simp only [List.length_map,List.length_append,List.length_cons,List.length_nil]; omega,?_⟩
       refine ⟨j + 1,r1 4 9,⟨⟨rfl,rfl,rfl,rfl,rfl,rfl,rfl,rfl,rfl,rfl,rfl,succ_gi (by omega),trivial⟩,⟨rfl,?_,rfl,trivial⟩,rfl⟩,hjl,by show bl.length - (j + 1) < bl.length - j; omega⟩
       rw [hPs,hpq]
       exact congrArg (fun z=>some (Res.row 47 2 z)) (List.map_append (f:=ptc) (l₁:=O++P) (l₂:=[⟨bl[j].labels,n⟩])).symm
     ·refine p2 ?_ (decide_eq_false (by omega))
      obtain rfl : j=bl.length:=by omega
      rw [List.take_length]
      exact ⟨(),id,⟨⟨rfl,rfl,rfl,rfl,rfl,rfl,rfl,rfl,trivial⟩,⟨rfl,rfl,rfl,trivial⟩,rfl⟩,trivial⟩
    ·rintro _ _
     refine V ?_
     refine ⟨i + 1,id,⟨⟨rfl,rfl,rfl,rfl,rfl,rfl,rfl,succ_gi (by omega),trivial⟩,⟨rfl,?_,rfl,trivial⟩,rfl⟩,hlt,by show al.length - (i + 1) < al.length - i; omega⟩
     rw [hst]
     rfl
   ·refine p2 ?_ (decide_eq_false (by omega))
    obtain rfl : i=al.length:=by omega
    rw [List.take_length]
    exact ⟨(),id,⟨⟨rfl,rfl,trivial⟩,⟨rfl,rfl,rfl,trivial⟩,rfl⟩,trivial⟩
  ·rintro _ _
   refine FRZ 4 rfl ?_
   exact ⟨⟨rfl,rfl,trivial⟩,rfl⟩
end Go.Proofs.YtkoalgjlkcaonaaGreatDoor
/-
  Plain laws: what is wrong with a text has a number, or stands at its beginning. No program is in sight.
-/
namespace Go.PL
open Go Go.GK
def Nz {β : Type} (x : Except (Int × Int) β) : Prop:=∀ e p,x=.error (e,p)→e ≠ 0∨p=0
theorem Nz.ok {β : Type} (v : β) : Nz (.ok v : Except (Int × Int) β):=fun _ _ h=>by cases h
theorem Nz.lit {β : Type} (e p : Int) (h : e ≠ 0) : Nz (.error (e,p) : Except (Int × Int) β):=fun _ _ h'=>by cases h'; exact .inl h
theorem Nz.zero {β : Type} (e : Int) : Nz (.error (e,0) : Except (Int × Int) β):=fun _ _ h'=>by cases h'; exact .inr rfl
theorem Nz.fail {β : Type} (e : Int) (l : List Tok) (h : e ≠ 0) : Nz (failP e l : PRes β):=.lit _ _ h
theorem Nz.of {β γ : Type} {P : Except (Int × Int) β} {e : Int × Int} (h : P=.error e) (hP : Nz P) : Nz (.error e : Except (Int × Int) γ):=fun e' p h'=>by cases h'; exact hP _ _ h
theorem tok_nz (s : List UInt8) : ∀ f i c,Nz (tokF s f i c)
 | 0,_,_=>.zero 0
 | f + 1,i,c=>by
  rw [tokF]
  simp only
  repeat' split
  all_goals first | exact .ok _ | exact .lit _ _ (by decide) | exact .of ‹_=Except.error _› (tok_nz s f _ _)
theorem must_nz (s : ByteArray) (l : List Tok) : Nz (mustP s l):=by
 unfold mustP
 split
 ·exact .ok _
 ·exact .fail _ _ (by decide)
theorem any_nz (k : Int) (l : List Tok) : Nz (anyP k l):=by
 unfold anyP
 split
 ·exact .ok _
 ·exact .fail _ _ (by decide)
theorem name_nz (l : List Tok) : Nz (nameP l):=by
 unfold nameP
 split
 ·exact .fail _ _ (by decide)
 ·exact any_nz _ _
theorem number_nz (k : Int) (l : List Tok) : Nz (numberP k l):=by
 unfold numberP
 split
 ·exact .fail _ _ (by decide)
 ·split
  ·exact .ok _
  ·exact .of ‹_=Except.error _› (any_nz _ _)
theorem matcher_nz (l : List Tok) : Nz (matcherP l):=by
 unfold matcherP
 repeat' split
 all_goals first | exact .ok _ | exact .fail _ _ (by decide) | exact .of ‹_=Except.error _› (name_nz _) | exact .of ‹_=Except.error _› (must_nz _ _) | exact .of ‹_=Except.error _› (any_nz _ _)
theorem matchers_nz : ∀ (f : Nat) (acc : List Mt) (l : List Tok),Nz (matchersL f acc l)
 | 0,_,_=>.zero 0
 | f + 1,acc,l=>by
  rw [matchersL]
  split
  ·exact .ok _
  ·have h1 : Nz (if acc.length=0 then (.ok ((),l) : PRes Unit) else mustP (bS [44]) l):=by
    split
    ·exact .ok _
    ·exact must_nz _ _
   split
   ·exact .of ‹_=Except.error _› h1
   ·split
    ·exact .fail _ _ (by decide)
    ·split
     ·exact .of ‹_=Except.error _› (matcher_nz _)
     ·exact matchers_nz f _ _
theorem matchersP_nz (l : List Tok) : Nz (matchersP l):=by
 unfold matchersP
 split
 ·exact .of ‹_=Except.error _› (must_nz _ _)
 ·exact matchers_nz _ _ _
theorem names_nz : ∀ (f : Nat) (acc : List ByteArray) (l : List Tok),Nz (namesL f acc l)
 | 0,_,_=>.zero 0
 | f + 1,acc,l=>by
  rw [namesL]
  split
  ·exact .fail _ _ (by decide)
  ·split
   ·exact .of ‹_=Except.error _› (name_nz _)
   ·split
    ·exact names_nz f _ _
    ·exact .ok _
theorem ask_nz : ∀ f : Nat,(∀ n l,Nz (oneP f n l))∧(∀ n q l,Nz (productL f n q l))∧(∀ n l,Nz (productP f n l))∧(∀ n q l,Nz (sumL f n q l))∧∀ n l,Nz (sumP f n l)
 | 0=>⟨fun _ _=>by rw [oneP]; exact .zero 0,fun _ _ _=>by rw [productL]; exact .zero 0,fun _ _=>by rw [productP]; exact .zero 0,fun _ _ _=>by rw [sumL]; exact .zero 0,fun _ _=>by rw [sumP]; exact .zero 0⟩
 | f + 1=>by
  obtain ⟨h1,h2,h3,h4,h5⟩:=ask_nz f
  refine ⟨fun n l=>?_,fun n q l=>?_,fun n l=>?_,fun n q l=>?_,fun n l=>?_⟩
  ·rw [oneP]
   repeat' split
   all_goals first
    | exact .ok _
    | exact .fail _ _ (by decide)
    | exact .of ‹_=Except.error _› (h1 _ _)
    | exact .of ‹_=Except.error _› (h5 _ _)
    | exact .of ‹_=Except.error _› (must_nz _ _)
    | exact .of ‹_=Except.error _› (number_nz _ _)
    | exact .of ‹_=Except.error _› (matchersP_nz _)
    | exact .of ‹_=Except.error _› (names_nz _ _ _)
  ·rw [productL]
   repeat' split
   all_goals first | exact .ok _ | exact h2 _ _ _ | exact .of ‹_=Except.error _› (h1 _ _)
  ·rw [productP]
   split
   ·exact .of ‹_=Except.error _› (h1 _ _)
   ·exact h2 _ _ _
  ·rw [sumL]
   repeat' split
   all_goals first | exact .ok _ | exact h4 _ _ _ | exact .of ‹_=Except.error _› (h3 _ _)
  ·rw [sumP]
   split
   ·exact .of ‹_=Except.error _› (h3 _ _)
   ·exact h4 _ _ _
theorem parse_nz (s : List UInt8) : Nz (parseF s):=by
 unfold parseF
 split
 ·exact .of ‹_=Except.error _› (tok_nz _ _ _ _)
 ·split
  ·exact .of ‹_=Except.error _› ((ask_nz _).2.2.2.2 _ _)
  ·split
   ·exact .lit _ _ (by decide)
   ·exact .ok _
theorem parse_bad {s : List UInt8} {e p : Int} (h : parseF s=.error (e,p)) : (e == 0 && (p == -1 && true))=false:=by
 rw [Bool.and_true]
 simp only [Bool.and_eq_false_iff,beq_eq_false_iff_ne]
 have:=parse_nz s e p h
 omega
end Go.PL
/-
  Contracts: what any question comes to, by the document (raingaugeref.Eval).
-/
namespace Go.Proofs.YtkoalgjlkcaonaaGreatDoor
open Go.GK Go.PL Go.RowKit
set_option maxRecDepth 100000
theorem evalF_err {src : List Mt→Int→Int→List Ser} {t : Int} : ∀ {q : Qn} {e : Int},evalF src t q=.error e→e ≠ 0
 | .nil,e,h=>by rw [evalF] at h; cases h; decide
 | .mk c num m sp b l r,e,h=>by
  unfold evalF at h
  split at h
  ·cases h
  split at h
  ·cases h
  cases hl : evalF src t l with
  | error e' =>
   rw [hl] at h
   cases h
   exact evalF_err hl
  | ok a =>
   rw [hl] at h
   simp only at h
   split at h
   ·split at h
    ·cases h; decide
    ·cases h
   split at h
   ·cases h
   cases hr : evalF src t r with
   | error e' =>
    rw [hr] at h
    cases h
    exact evalF_err hr
   | ok b=>rw [hr] at h; cases h
set_option maxHeartbeats 4000000 in
theorem reval_rerr (S : List Ser) (t c : Int) (hc : c=13∨c=14∨c=15∨c=16) (l r : Qn) {a : Came} {e : Int} (he : evalF (srcF S) t l=.ok a) (her : evalF (srcF S) t r=.error e) (h0e : e ≠ 0)
  (ih : Rt pg 20 [qG l,gi t,ses S] (rG (evalF (srcF S) t l))) (ihr : Rt pg 20 [qG r,gi t,ses S] (rG (evalF (srcF S) t r))) :
  Rt pg 20 [qG (.mk c 0 [] 0 [] l r),gi t,ses S] (rG (.error e)):=by
 rw [he] at ih
 rw [her] at ihr
 obtain ⟨pl,a2⟩:=a
 refine Rt.of pg_ok Tryz.func20 rfl Tryz.ntmps20 rfl Tryz.results20 Tryz.call20 fun H0 S0 w0 h0 g0=>?_
 rcases hc with rfl | rfl | rfl | rfl <;> cases l <;> cases r
 all_goals
  repeat (first | refine p1 ?_ | refine p2 ?_ | refine p3 ?_ | refine p4 ?_)
  refine GO ih rfl ?_
  repeat (first | refine p1 ?_ | refine p2 ?_ | refine p3 ?_ | refine p4 ?_)
  refine GO ihr rfl ?_
  refine p1 ?_ (by simpa using h0e)
  exact ⟨⟨rfl,rfl,trivial⟩,rfl⟩
theorem reval_rt {S : List Ser} (hS : SerOk S) (t : Int) {q : Qn} (hq : Wf q) : Rt pg 20 [qG q,gi t,ses S] (rG (evalF (srcF S) t q)):=by
 have hgood:=fun {q : Qn} (h : Wf q)=>eval_good (src_b hS) t h
 have wne : ∀ {q : Qn},Wf q→q ≠ .nil:=fun h=>by cases h <;> (intro h; cases h)
 have bin : ∀ (c : Int) (l r : Qn),(c=13∨c=14∨c=15∨c=16)→Wf l→Wf r→Rt pg 20 [qG l,gi t,ses S] (rG (evalF (srcF S) t l))→Rt pg 20 [qG r,gi t,ses S] (rG (evalF (srcF S) t r)) →
   Rt pg 20 [qG (.mk c 0 [] 0 [] l r),gi t,ses S] (rG (evalF (srcF S) t (.mk c 0 [] 0 [] l r))):=by
  intro c l r hc hl hr ih1 ih2
  cases he : evalF (srcF S) t l with
  | error e=>exact reval_err S t c (by omega) [] l r he (evalF_err he) ih1
  | ok a =>
   cases her : evalF (srcF S) t r with
   | error e =>
    have e1 : evalF (srcF S) t (.mk c 0 [] 0 [] l r)=.error e:=by
     rw [evalF,if_neg (by omega),if_neg (by omega),he,her]
     simp only
     rw [if_neg (by omega),if_neg (by omega)]
    rw [e1]
    exact reval_rerr S t c hc l r he her (evalF_err her) ih1 ih2
   | ok b =>
    have e1 : evalF (srcF S) t (.mk c 0 [] 0 [] l r)=.ok (bothQ c a b):=by
     rw [evalF,if_neg (by omega),if_neg (by omega),he,her]
     simp only
     rw [if_neg (by omega),if_neg (by omega)]
    rw [e1]
    rw [her] at ih2
    exact reval_bin S t c (by omega) l r he (hgood hl a he) (hgood hr b her) (.inr ⟨by omega,rfl,rfl,ih2,wne hr⟩) ih1 (wne hl)
 induction hq with
 | num n h0 h1=>exact reval_num S t n
 | pick m h=>exact reval_over hS t 2 (by omega) m 300 (fun x hx=>(h.1 x hx).2.2) (by have:=h.2; omega)
 | over k hk m h sp h1 h2=>exact reval_over hS t _ (by omega) m sp (fun x hx=>(h.1 x hx).2.2) (by have:=h.2; omega)
 | all k hk b hb hl q hq ih =>
  cases he : evalF (srcF S) t q with
  | error e=>exact reval_err S t _ (by omega) b q .nil he (evalF_err he) ih
  | ok a=>exact reval_all S t _ (by omega) b q .nil he (hgood hq a he) (by omega) ih
 | neg q hq ih =>
  cases he : evalF (srcF S) t q with
  | error e=>exact reval_err S t _ (by omega) [] q .nil he (evalF_err he) ih
  | ok a =>
   have e1 : evalF (srcF S) t (.mk 12 0 [] 0 [] q .nil)=.ok (bothQ 14 ([⟨[],0⟩],true) a):=by
    rw [evalF,if_neg (by decide),if_neg (by decide),he]
    simp only
    rw [if_neg (by decide),if_pos trivial]
   rw [e1]
   exact reval_bin S t 12 (by decide) q .nil he (num_good ⟨by decide,by decide⟩) (hgood hq a he) (.inl ⟨rfl,rfl,rfl,rfl⟩) ih (wne hq)
 | add k hk l r hl hr ih1 ih2=>exact bin _ l r (by omega) hl hr ih1 ih2
 | mul k hk l r hl hr ih1 ih2=>exact bin _ l r (by omega) hl hr ih1 ih2
end Go.Proofs.YtkoalgjlkcaonaaGreatDoor
/-
  Contracts: the law's sources of series; what is asked at a time that may not be, and of a source that tells an error.
-/
namespace Go.Proofs.YtkoalgjlkcaonaaGreatDoor
open Go.GK Go.PL Go.RowKit
set_option maxRecDepth 100000
theorem esrc_snoc (S : List Ser) (m : List Mt) (f t : Int) (i : Nat) (h : i < S.length) : srcF (S.take (i + 1)) m f t=srcF (S.take i) m f t++(if S[i].samples.filter (inT f t) ≠ []∧allF S[i].labels m=true then [⟨S[i].labels,S[i].samples.filter (inT f t)⟩] else []):=by
 unfold srcF
 rw [List.take_add_one,List.getElem?_eq_getElem h,List.filterMap_append]
 congr 1
 by_cases h0 : S[i].samples.filter (inT f t) ≠ []∧allF S[i].labels m=true
 ·rw [if_pos h0]
  show List.filterMap _ [S[i]]=_
  rw [List.filterMap_cons,if_pos h0]
  rfl
 ·rw [if_neg h0]
  show List.filterMap _ [S[i]]=_
  rw [List.filterMap_cons,if_neg h0]
  rfl
theorem lsource1_rt (S : List Ser) (hl : S.length≤100) (hs : ∀ x ∈ S,x.samples.length≤100000) (m : List Mt) (f t : Int) (hm : m.length≤8) (hop : ∀ x ∈ m,0≤x.op∧x.op≤3) :
  Rt pg 21 [.sl 3 (m.map mt),gi f,gi t,.r [ses S]] (.tup [ses (srcF S m f t),.v .nilIface]):=by
 refine Rt.of pg_ok Tryz.func21 rfl Tryz.ntmps21 rfl Tryz.results21 Tryz.call21 fun H0 S0 w0 h0 g0=>?_
 have hll : (S.map se).length=S.length:=by simp
 refine JK.ownNil 9 31 2 rfl ?_
 refine JK.loopE (α:=Nat) (β:=Unit) (fun i=>⟨[(0,.sl 3 (m.map mt)),(1,gi f),(2,gi t),(3,.r [ses S]),(9,.o 0),(10,gi i)],[(0,.row 31 2 ((srcF (S.take i) m f t).map se))],1⟩) (fun i=>i≤S.length) (fun i=>S.length - i)
  (fun _=>⟨[(9,.o 0)],[(0,.row 31 2 ((srcF S m f t).map se))],1⟩) (fun _=>True) 0 id ?_ (Nat.zero_le _) ?_ ?_
 ·exact ⟨⟨rfl,rfl,rfl,rfl,rfl,rfl,trivial⟩,⟨rfl,trivial⟩,rfl⟩
 ·intro i hi
  refine V ?_
  by_cases hlt : i < S.length
  ·have hst:=esrc_snoc S m f t i hlt
   have hAl : (srcF (S.take i) m f t).length≤i:=Nat.le_trans (List.length_filterMap_le _ _) (by rw [List.length_take]; omega)
   generalize srcF (S.take i) m f t=A at hst hAl ⊢
   have hbt:=refBetween_rt S[i].samples f t (hs _ (List.getElem_mem hlt))
   generalize hX : S[i].samples.filter (inS f t)=X at hbt
   have hX' : S[i].samples.filter (inT f t)=X:=hX
   rw [hX'] at hst
   have hXl : (X.map sm).length=X.length:=by simp
   have hall:=fits_rt S[i].labels m hop (by omega)
   refine p1 ?_ (decide_eq_true (by omega))
   refine ix (h:=?_)
   refine GO hbt rfl ?_
   by_cases h0 : X=[]
   ·subst h0
    refine p2 ?_ (decide_eq_false (by decide))
    refine ⟨i + 1,id,⟨⟨rfl,rfl,rfl,rfl,rfl,succ_gi (by omega),trivial⟩,⟨?_,trivial⟩,rfl⟩,hlt,by show S.length - (i + 1) < S.length - i; omega⟩
    rw [hst,if_neg (fun h=>h.1 rfl),List.append_nil]
    rfl
   ·have hpos : 0 < X.length:=List.length_pos_iff.2 h0
    refine p1 ?_ (decide_eq_true (by rw [hXl]; omega))
    refine ix (h:=?_)
    rcases tf (allF S[i].labels m) with h1 | h1
    ·refine GO (hall.bt h1) rfl ?_
     repeat (first | refine p1 ?_ | refine p2 ?_ | refine p3 ?_ | refine p4 ?_)
     refine ix (h:=?_)
     refine ⟨by simp only [List.length_map,List.length_cons,List.length_nil]; omega,?_⟩
     refine ⟨i + 1,fun _=>2,⟨⟨rfl,rfl,rfl,rfl,rfl,succ_gi (by omega),trivial⟩,⟨?_,trivial⟩,rfl⟩,hlt,by show S.length - (i + 1) < S.length - i; omega⟩
     rw [hst,if_pos ⟨h0,h1⟩,List.map_append]
     rfl
    ·refine GO (hall.bt h1) rfl ?_
     repeat (first | refine p1 ?_ | refine p2 ?_ | refine p3 ?_ | refine p4 ?_)
     refine ⟨i + 1,id,⟨⟨rfl,rfl,rfl,rfl,rfl,succ_gi (by omega),trivial⟩,⟨?_,trivial⟩,rfl⟩,hlt,by show S.length - (i + 1) < S.length - i; omega⟩
     rw [hst,if_neg (fun h=>by rw [h1] at h; cases h.2),List.append_nil]
     rfl
  ·refine p2 ?_ (decide_eq_false (by omega))
   obtain rfl : i=S.length:=by omega
   rw [List.take_length]
   exact ⟨(),id,⟨⟨rfl,trivial⟩,⟨rfl,trivial⟩,rfl⟩,trivial⟩
 ·rintro _ _
  refine FRZ 0 rfl ?_
  exact ⟨⟨rfl,rfl,trivial⟩,rfl⟩
theorem lsource_c {S : List Ser} (h : SerOk S) : SrcC 21 S (srcF S) :=
 ⟨fun m lo hi hm hop=>lsource1_rt S h.len (fun x hx=>(h.small x hx).2) m lo hi hm hop,(src_b h).ok,(src_b h).small⟩
theorem comes_range {f : FuncId} {S : List Ser} (c num : Int) (m : List Mt) (sp : Int) (b : List ByteArray) (l r : Qn) (t : Int) (h : ¬ (-1099511627776≤t∧t≤1099511627776)) :
  Rt pg 24 [qG (.mk c num m sp b l r),gi t,srcG f S] (comesG (.error 2)):=by
 refine Rt.of pg_ok Tryz.func24 rfl Tryz.ntmps24 rfl Tryz.results24 Tryz.call24 fun H0 S0 w0 h0 g0=>?_
 by_cases h1 : t < -1099511627776
 ·repeat (first | refine p1 ?_ | refine p2 ?_ | refine p3 ?_ | refine p4 ?_)
  exact ⟨⟨rfl,rfl,rfl,trivial⟩,rfl⟩
 ·have h2 : 1099511627776 < t:=by omega
  repeat (first | refine p1 ?_ | refine p2 ?_ | refine p3 ?_ | refine p4 ?_)
  exact ⟨⟨rfl,rfl,rfl,trivial⟩,rfl⟩
abbrev badQ : Qn:=.mk 2 0 [] 3 [] .nil .nil
abbrev badG : GV:=.fn (.func 27) [] []
theorem bad_rt (a b c : GV) : Rt pg 27 [a,b,c] (.tup [.v (.slice none 0 0),.ifc 53 (gi 13)]):=by
 refine Rt.of pg_ok Tryz.func27 rfl Tryz.ntmps27 rfl Tryz.results27 Tryz.call27 fun H0 S0 w0 h0 g0=>?_
 exact ⟨⟨rfl,rfl,trivial⟩,rfl⟩
theorem series_bad : Rt pg 95 [qG badQ,gi 0,badG] (.tup [.agg [.v (.slice none 0 0),.v (.bool false)],.ifc 53 (gi 13)]):=by
 refine Rt.of pg_ok Tryz.func95 rfl Tryz.ntmps95 rfl Tryz.results95 Tryz.call95 fun H0 S0 w0 h0 g0=>?_
 refine DRAW [] false (tk [0,1,2,3,4,5,6,7,8,9,10,11,12]) (by kernel_rfl) ?_
 refine RGO 13 true (tk [14,15,16,17,18]) (bad_rt _ _ _) rfl rfl (by kernel_rfl) ?_
 refine V ?_
 refine JK.loopE (α:=Unit) (β:=Unit) (fun _=>⟨[(6,.p 0 0),(9,.ifc 53 (gi 13)),(10,.p 1 0),(31,gi 0),(32,gi 0)],[(1,.blk 120 [.v (.slice none 0 0),.v (.bool false)]),(0,.blk 120 [.v (.slice none 0 0),.v (.bool false)])],2⟩) (fun _=>True) (fun _=>0)
  (fun _=>⟨[(6,.p 0 0),(9,.ifc 53 (gi 13)),(10,.p 1 0)],[(1,.blk 120 [.v (.slice none 0 0),.v (.bool false)]),(0,.blk 120 [.v (.slice none 0 0),.v (.bool false)])],2⟩) (fun _=>True) () id ?_ trivial ?_ ?_
 ·exact ⟨⟨rfl,rfl,rfl,rfl,rfl,trivial⟩,⟨rfl,rfl,trivial⟩,rfl⟩
 ·intro _ _
  refine V ?_
  refine p2 ?_ rfl
  exact ⟨(),id,⟨⟨rfl,rfl,rfl,trivial⟩,⟨rfl,rfl,trivial⟩,rfl⟩,trivial⟩
 ·rintro _ _
  refine V ?_
  exact ⟨⟨rfl,rfl,trivial⟩,rfl⟩
theorem eval_bad : Rt pg 60 [qG badQ,gi 0,badG] (.tup [.agg [.v (.slice none 0 0),.v (.bool false)],.ifc 53 (gi 13)]):=by
 refine Rt.of pg_ok Tryz.func60 rfl Tryz.ntmps60 rfl Tryz.results60 Tryz.call60 fun H0 S0 w0 h0 g0=>?_
 repeat (first | refine p1 ?_ | refine p2 ?_ | refine p3 ?_ | refine p4 ?_)
 refine GO series_bad rfl ?_
 exact ⟨⟨rfl,rfl,trivial⟩,rfl⟩
theorem comes_bad : Rt pg 24 [qG badQ,gi 0,badG] (comesG (.error 13)):=by
 refine Rt.of pg_ok Tryz.func24 rfl Tryz.ntmps24 rfl Tryz.results24 Tryz.call24 fun H0 S0 w0 h0 g0=>?_
 repeat (first | refine p1 ?_ | refine p2 ?_ | refine p3 ?_ | refine p4 ?_)
 refine GO eval_bad rfl ?_
 refine p1 ?_
 exact ⟨⟨rfl,rfl,rfl,trivial⟩,rfl⟩
end Go.Proofs.YtkoalgjlkcaonaaGreatDoor
/-
  Plain laws: the document's reader of questions: its steps, and what they come to. No program is in sight.
-/
namespace Go.PL
open Go Go.GK

structure Rd where
 l : List Tok
 e : Int
 p : Int
def Rd.ok (r : Rd) : Bool:=r.e == 0
def goodR (l : List Tok) : Rd:=⟨l,0,-1⟩
def rfail (e : Int) (r : Rd) : Rd:=if r.ok then ⟨r.l,e,(hdT r.l).pos⟩ else r
def rsee (s : ByteArray) (r : Rd) : Bool:=r.ok && (sEq (hdT r.l).text s && decide ((hdT r.l).kind=1∨(hdT r.l).kind=2∨(hdT r.l).kind=4))
theorem rsee_eq (s : ByteArray) (t : Tok) (l : List Tok) (e p : Int) : rsee s ⟨t :: l,e,p⟩=(Rd.ok ⟨t :: l,e,p⟩ && (sEq t.text s && ((t.kind == 1) || ((t.kind == 2) || (t.kind == 4))))):=by
 show (_ && (_ && decide (t.kind=1∨t.kind=2∨t.kind=4)))=_
 congr 2
 rw [Bool.eq_iff_iff]
 simp
def rtail (r : Rd) : Rd:=⟨r.l.tail,r.e,r.p⟩
def rmust (s : ByteArray) (r : Rd) : Rd:=if rsee s r then rtail r else rfail 3 r
def rkind1 (k : Int) (r : Rd) : Rd:=if (hdT r.l).kind=k then r else rfail 3 r
def rkind (k : Int) (r : Rd) : ByteArray × Rd:=if (rkind1 k r).ok then ((hdT r.l).text,rtail r) else (⟨#[]⟩,rkind1 k r)
def rname1 (r : Rd) : Rd:=if (hdT r.l).kind=1∧nameF (hdT r.l).text=false then rfail 4 r else r
def rname (r : Rd) : ByteArray × Rd:=rkind 1 (rname1 r)
def rnum (r : Rd) : Int:=if (hdT r.l).kind=2 then numT (hdT r.l).text else 0
def rnumber1 (most : Int) (r : Rd) : Rd:=if (hdT r.l).kind=2∧most < rnum r then rfail 4 r else r
def rnumber (most : Int) (r : Rd) : Rd:=(rkind 2 (rnumber1 most r)).2
def Tok5 (t : Tok) : Prop:=t.kind=1∨t.kind=2∨t.kind=3∨t.kind=4∨t.kind=5
theorem Tok.Ok.five {t : Tok} (h : t.Ok) : Tok5 t:=by
 unfold Tok5
 rcases h with (⟨h,_⟩ | ⟨h,_⟩ | ⟨h,_⟩ | ⟨h,_⟩) | ⟨h,_⟩ <;> omega
theorem ok_good (l : List Tok) : (goodR l).ok=true:=rfl
structure RdOk (r : Rd) : Prop where
 toks : ToksOk r.l
 p : r.ok=true→r.p=-1
theorem RdOk.good {r : Rd} (h : RdOk r) (ho : r.ok=true) : r=goodR r.l:=by
 obtain ⟨l,e,p⟩:=r
 have h1 : e=0:=by simpa [Rd.ok] using ho
 have h2 : p=-1:=h.p ho
 rw [h1,h2]
 rfl
theorem rsee_good {l : List Tok} (hE : ToksOk l) (s : ByteArray) : rsee s (goodR l)=takesP s l:=by
 obtain ⟨t,r,rfl⟩:=hE.cons
 have h5:=(hE.each t List.mem_cons_self).1.five
 simp only [rsee,ok_good,Bool.true_and,takesP,isP,Bool.and_assoc]
 show (sEq t.text s && decide (t.kind=1∨t.kind=2∨t.kind=4))=(sEq t.text s && (decide (t.kind ≠ 3) && decide (t.kind ≠ 5)))
 congr 1
 rw [Bool.eq_iff_iff,Bool.and_eq_true,decide_eq_true_iff,decide_eq_true_iff,decide_eq_true_iff]
 unfold Tok5 at h5
 omega
theorem rsee_bad {r : Rd} (h : r.ok=false) (s : ByteArray) : rsee s r=false:=by simp [rsee,h]
theorem rfail_bad {r : Rd} (h : r.ok=false) (e : Int) : rfail e r=r:=by simp [rfail,h]
theorem rmust_bad {r : Rd} (h : r.ok=false) (s : ByteArray) : rmust s r=r:=by simp [rmust,rsee_bad h,rfail_bad h]
theorem rkind1_bad {r : Rd} (h : r.ok=false) (k : Int) : rkind1 k r=r:=by simp [rkind1,rfail_bad h]
theorem rkind_bad {r : Rd} (h : r.ok=false) (k : Int) : rkind k r=(⟨#[]⟩,r):=by simp [rkind,rkind1_bad h,h]
theorem rname_bad {r : Rd} (h : r.ok=false) : rname r=(⟨#[]⟩,r):=by simp [rname,rname1,rfail_bad h,rkind_bad h]
theorem rnumber_bad {r : Rd} (h : r.ok=false) (m : Int) : rnumber m r=r:=by simp [rnumber,rnumber1,rfail_bad h,rkind_bad h]
def Agr {α : Type} (x : PRes α) (a : α) (r : Rd) : Prop:=match x with
 | .ok (b,l)=>a=b∧r=goodR l
 | .error (e,p)=>r.e=e∧r.p=p∧r.ok=false
theorem Agr.fail {α : Type} {e : Int} (he : e ≠ 0) (l : List Tok) (a : α) : Agr (failP e l) a (rfail e (goodR l)):=⟨rfl,rfl,by rw [rfail,if_pos (ok_good l)]; simpa [Rd.ok] using he⟩
theorem rfail_not {e : Int} (he : e ≠ 0) (l : List Tok) : (rfail e (goodR l)).ok=false:=by rw [rfail,if_pos (ok_good l)]; simpa [Rd.ok] using he
theorem rmust_good {l : List Tok} (hE : ToksOk l) (s : ByteArray) : Agr (mustP s l) () (rmust s (goodR l)):=by
 rw [mustP,rmust,rsee_good hE]
 cases takesP s l with
 | true=>exact ⟨rfl,rfl⟩
 | false=>exact Agr.fail (by decide) l ()
theorem rkind_good (l : List Tok) (k : Int) : Agr (anyP k l) (rkind k (goodR l)).1 (rkind k (goodR l)).2:=by
 rw [anyP,rkind,rkind1]
 by_cases h : (hdT l).kind=k
 ·rw [if_pos h,if_pos (show (hdT (goodR l).l).kind=k from h),if_pos (ok_good l)]
  exact ⟨rfl,rfl⟩
 ·rw [if_neg h,if_neg (show ¬ (hdT (goodR l).l).kind=k from h),rfail_not (by decide)]
  exact Agr.fail (by decide) l _
theorem rname_good (l : List Tok) : Agr (nameP l) (rname (goodR l)).1 (rname (goodR l)).2:=by
 rw [nameP,rname,rname1]
 by_cases h : (hdT l).kind=1∧nameF (hdT l).text=false
 ·rw [if_pos h,if_pos (show (hdT (goodR l).l).kind=1∧nameF (hdT (goodR l).l).text=false from h),rkind_bad (rfail_not (by decide) l)]
  exact Agr.fail (by decide) l _
 ·rw [if_neg h,if_neg (show ¬ ((hdT (goodR l).l).kind=1∧nameF (hdT (goodR l).l).text=false) from h)]
  exact rkind_good l 1
theorem rnumber_good (l : List Tok) (m : Int) : Agr (numberP m l) (rnum (goodR l)) (rnumber m (goodR l)):=by
 rw [numberP,rnumber,rnumber1]
 by_cases h : (hdT l).kind=2∧m < numT (hdT l).text
 ·have h2 : (hdT (goodR l).l).kind=2∧m < rnum (goodR l):=⟨h.1,by rw [rnum,if_pos (show (hdT (goodR l).l).kind=2 from h.1)]; exact h.2⟩
  rw [if_pos h,if_pos h2,rkind_bad (rfail_not (by decide) l)]
  exact Agr.fail (by decide) l _
 ·have h2 : ¬ ((hdT (goodR l).l).kind=2∧m < rnum (goodR l)):=fun h'=>h ⟨h'.1,by have:=h'.2; rw [rnum,if_pos h'.1] at this; exact this⟩
  rw [if_neg h,if_neg h2]
  have h3:=rkind_good l 2
  rw [anyP] at h3 ⊢
  by_cases hk : (hdT l).kind=2
  ·rw [if_pos hk] at h3 ⊢
   exact ⟨by rw [rnum,if_pos (show (hdT (goodR l).l).kind=2 from hk)]; rfl,h3.2⟩
  ·rw [if_neg hk] at h3 ⊢
   exact h3
theorem RdOk.fails {r : Rd} (h : RdOk r) {e : Int} (he : e ≠ 0) : RdOk (rfail e r):=by
 unfold rfail
 cases ho : r.ok with
 | true =>
  rw [if_pos rfl]
  exact ⟨h.toks,fun h'=>absurd (by simpa [Rd.ok] using h') he⟩
 | false=>rw [if_neg Bool.false_ne_true]; exact h
theorem see_k {r : Rd} {s : ByteArray} (h : rsee s r=true) : (hdT r.l).kind ≠ 5:=by
 simp only [rsee,Bool.and_eq_true,decide_eq_true_iff] at h
 omega
theorem RdOk.tl {r : Rd} (h : RdOk r) (hk : (hdT r.l).kind ≠ 5) : RdOk (rtail r):=by
 obtain ⟨t,l,e⟩:=h.toks.cons
 have:=h.toks
 rw [e] at this hk
 refine ⟨?_,h.p⟩
 show ToksOk r.l.tail
 rw [e]
 exact this.tail hk
theorem RdOk.must {r : Rd} (h : RdOk r) (s : ByteArray) : RdOk (rmust s r):=by
 unfold rmust
 cases hs : rsee s r with
 | true=>rw [if_pos rfl]; exact h.tl (see_k hs)
 | false=>rw [if_neg Bool.false_ne_true]; exact h.fails (by decide)
theorem RdOk.kind {r : Rd} (h : RdOk r) {k : Int} (hk : k ≠ 5) : RdOk (rkind k r).2:=by
 have h1 : RdOk (rkind1 k r):=by
  unfold rkind1
  by_cases hc : (hdT r.l).kind=k
  ·rw [if_pos hc]; exact h
  ·rw [if_neg hc]; exact h.fails (by decide)
 unfold rkind
 cases ho : (rkind1 k r).ok with
 | true =>
  rw [if_pos rfl]
  refine h.tl ?_
  intro h5
  unfold rkind1 at ho
  rw [if_neg (by omega)] at ho
  unfold rfail at ho
  cases hr : r.ok with
  | true=>rw [hr,if_pos rfl] at ho; simp [Rd.ok] at ho
  | false=>rw [hr,if_neg Bool.false_ne_true,hr] at ho; cases ho
 | false=>rw [if_neg Bool.false_ne_true]; exact h1
theorem RdOk.name {r : Rd} (h : RdOk r) : RdOk (rname r).2:=by
 refine RdOk.kind ?_ (by decide)
 unfold rname1
 split
 ·exact h.fails (by decide)
 ·exact h
theorem RdOk.number {r : Rd} (h : RdOk r) (m : Int) : RdOk (rnumber m r):=by
 refine RdOk.kind ?_ (by decide)
 unfold rnumber1
 split
 ·exact h.fails (by decide)
 ·exact h
theorem rtail_len (r : Rd) : (rtail r).l.length=r.l.length - 1:=by simp [rtail]
theorem rfail_l (e : Int) (r : Rd) : (rfail e r).l=r.l:=by
 unfold rfail
 split <;> rfl
theorem rmust_len (s : ByteArray) (r : Rd) : (rmust s r).l.length≤r.l.length:=by
 unfold rmust
 split
 ·rw [rtail_len]; omega
 ·rw [rfail_l]; exact Nat.le_refl _
theorem rkind_len (k : Int) (r : Rd) : (rkind k r).2.l.length≤r.l.length:=by
 unfold rkind
 split
 ·show (rtail r).l.length≤_
  rw [rtail_len]; omega
 ·show (rkind1 k r).l.length≤_
  unfold rkind1
  split
  ·exact Nat.le_refl _
  ·rw [rfail_l]; exact Nat.le_refl _
theorem rname_len (r : Rd) : (rname r).2.l.length≤r.l.length:=by
 refine Nat.le_trans (rkind_len 1 _) ?_
 unfold rname1
 split
 ·rw [rfail_l]; exact Nat.le_refl _
 ·exact Nat.le_refl _
theorem rnumber_len (m : Int) (r : Rd) : (rnumber m r).l.length≤r.l.length:=by
 refine Nat.le_trans (rkind_len 2 _) ?_
 unfold rnumber1
 split
 ·rw [rfail_l]; exact Nat.le_refl _
 ·exact Nat.le_refl _
end Go.PL
/-
  Contracts: the document's reader of questions: its small methods.
-/
namespace Go.Proofs.YtkoalgjlkcaonaaGreatDoor
open Go.GK Go.RowKit Go.PL
set_option maxRecDepth 100000
abbrev rs (r : Rd) : Heap:=[(0,.blk 102 [tks r.l,gi r.e,gi r.p])]
theorem tks_cons {r : Rd} (h : RdOk r) : ∃ t l,r.l=t :: l:=h.toks.cons
theorem rok_hf (r : Rd) : Hf pg 46 1 [.p 0 0] (rs r) (fun g σ n=>g=.b r.ok∧σ=rs r∧n=1):=by
 refine Hf.eqG (R:=fun σ n=>σ=rs r∧n=1) ?_
 refine Hf.of pg_ok Tryz.func46 rfl Tryz.ntmps46 rfl Tryz.results46 Tryz.call46 fun H0 S0 w0 h0 g0=>?_
 exact ⟨rfl,rfl,rfl⟩
theorem rok_b {r : Rd} {c : Bool} (h : r.ok=c) : Hf pg 46 1 [.p 0 0] (rs r) (fun g σ n=>g=.v (.bool c)∧σ=rs r∧n=1) :=
 Hf.eqG (R:=fun σ n=>σ=rs r∧n=1) ((rok_hf r).imp fun _ _ _ ⟨e,q⟩=>⟨by rw [e]; exact h,q⟩)
theorem rfails_hf (r : Rd) (hr : RdOk r) (e : Int) : Hf pg 45 1 [.p 0 0,gi e] (rs r) (fun g σ n=>g=.tup []∧σ=rs (rfail e r)∧n=1):=by
 obtain ⟨t,l,hl⟩:=tks_cons hr
 obtain ⟨ll,re,rp⟩:=r
 simp only at hl
 subst hl
 refine Hf.of pg_ok Tryz.func45 rfl Tryz.ntmps45 rfl Tryz.results45 Tryz.call45 fun H0 S0 w0 h0 g0=>?_
 refine V ?_
 rcases tf (Rd.ok ⟨t :: l,re,rp⟩) with h | h
 ·refine GOH (rok_b h) id rfl rfl ⟨rfl,trivial⟩ rfl (id_lt rfl) ?_
  rintro g σ' n' ⟨rfl,rfl,rfl⟩
  refine ⟨tokR t,by decide,rfl,?_⟩
  refine ⟨rfl,?_,rfl⟩
  rw [rfail,if_pos h]
  rfl
 ·refine GOH (rok_b h) id rfl rfl ⟨rfl,trivial⟩ rfl (id_lt rfl) ?_
  rintro g σ' n' ⟨rfl,rfl,rfl⟩
  exact ⟨rfl,by rw [rfail_bad h],rfl⟩
theorem rs_n {f : FuncId} {args : List GV} {r r' : Rd} {G : GV} (hG : idb 1 G=true) (h : Hf pg f 1 args (rs r) (fun g σ' n=>g=G∧Nat.ble 1 n=true∧leσ id (rs r') σ')) : Hf pg f 1 args (rs r) (fun g σ n=>g=G∧σ=rs r'∧n=1) :=
 h.weak fun g σ' n' ⟨h1,h2,h3⟩=>⟨id,G,rs r',1,⟨rfl,rfl,rfl⟩,by rw [h1,ren_id],h3,by rw [hG]; rfl⟩
theorem see_hf (r : Rd) (hr : RdOk r) (s : ByteArray) : Hf pg 116 1 [.p 0 0,gs s] (rs r) (fun g σ n=>g=.b (rsee s r)∧σ=rs r∧n=1):=by
 obtain ⟨t,l,hl⟩:=tks_cons hr
 obtain ⟨ll,re,rp⟩:=r
 simp only at hl
 subst hl
 refine rs_n rfl ?_
 refine Hf.eqG (R:=fun σ' n=>Nat.ble 1 n=true∧leσ id (rs ⟨t :: l,re,rp⟩) σ') ?_
 refine Hf.of pg_ok Tryz.func116 rfl Tryz.ntmps116 rfl Tryz.results116 Tryz.call116 fun H0 S0 w0 h0 g0=>?_
 refine ⟨tokR t,by decide,rfl,?_⟩
 rcases tf (Rd.ok ⟨t :: l,re,rp⟩) with h | h
 ·refine GOH (rok_b h) id rfl rfl ⟨rfl,trivial⟩ rfl (id_lt rfl) ?_
  rintro g σ' n' ⟨rfl,rfl,rfl⟩
  rcases tf (sEq t.text s) with h1 | h1
  ·refine p1 ?_ h1
   rcases tf (t.kind == 1) with k1 | k1
   ·refine p3 ?_ k1
    repeat (first | refine p1 ?_ | refine p2 ?_ | refine p3 ?_ | refine p4 ?_)
    refine ⟨?_,rfl,⟨rfl,trivial⟩⟩
    show _=rsee _ _
    rw [rsee_eq,h,h1,k1]
    rfl
   ·refine p4 ?_ k1
    rcases tf (t.kind == 2) with k2 | k2
    ·repeat (first | refine p1 ?_ | refine p2 ?_ | refine p3 ?_ | refine p4 ?_)
     refine ⟨?_,rfl,⟨rfl,trivial⟩⟩
     show _=rsee _ _
     rw [rsee_eq,h,h1,k1,k2]
     rfl
    ·repeat (first | refine p1 ?_ | refine p2 ?_ | refine p3 ?_ | refine p4 ?_)
     refine ⟨?_,rfl,⟨rfl,trivial⟩⟩
     show _=rsee _ _
     rw [rsee_eq,h,h1,k1,k2]
     rfl
  ·refine p2 ?_ h1
   refine ⟨?_,rfl,⟨rfl,trivial⟩⟩
   show _=rsee _ _
   rw [rsee_eq,h,h1]
   rfl
 ·refine GOH (rok_b h) id rfl rfl ⟨rfl,trivial⟩ rfl (id_lt rfl) ?_
  rintro g σ' n' ⟨rfl,rfl,rfl⟩
  refine ⟨?_,rfl,⟨rfl,trivial⟩⟩
  show _=rsee _ _
  rw [rsee_eq,h]
  rfl
theorem see_b {r : Rd} (hr : RdOk r) {s : ByteArray} {c : Bool} (h : rsee s r=c) : Hf pg 116 1 [.p 0 0,gs s] (rs r) (fun g σ n=>g=.v (.bool c)∧σ=rs r∧n=1) :=
 Hf.eqG (R:=fun σ n=>σ=rs r∧n=1) ((see_hf r hr s).imp fun _ _ _ ⟨e,q⟩=>⟨by rw [e]; exact h,q⟩)
theorem rtl_eq (t : Tok) (l : List Tok) (e p : Int) : ([(0,.blk 102 [.sl 3 ((((t :: l).map tokR).take (((t :: l).map tokR).length : Int).toNat).drop (1 : Int).toNat),gi e,gi p])] : Heap)=rs ⟨l,e,p⟩ :=
 congrArg (fun g=>match g with | some g=>([(0,.blk 102 [g,gi e,gi p])] : Heap) | none=>[]) (tail_map 3 tokR t l)
theorem take_yes {r : Rd} (hr : RdOk r) {s : ByteArray} (h : rsee s r=true) : Hf pg 113 1 [.p 0 0,gs s] (rs r) (fun g σ n=>g=.v (.bool true)∧σ=rs (rtail r)∧n=1):=by
 obtain ⟨t,l,hl⟩:=tks_cons hr
 obtain ⟨ll,re,rp⟩:=r
 simp only at hl
 subst hl
 refine Hf.of pg_ok Tryz.func113 rfl Tryz.ntmps113 rfl Tryz.results113 Tryz.call113 fun H0 S0 w0 h0 g0=>?_
 refine GOH (see_b hr h) id rfl rfl ⟨rfl,trivial⟩ rfl (id_lt rfl) ?_
 rintro g σ' n' ⟨rfl,rfl,rfl⟩
 refine ⟨by decide,by simp; omega,by simp,?_⟩
 exact ⟨rfl,rtl_eq t l re rp,rfl⟩
theorem take_no {r : Rd} (hr : RdOk r) {s : ByteArray} (h : rsee s r=false) : Hf pg 113 1 [.p 0 0,gs s] (rs r) (fun g σ n=>g=.v (.bool false)∧σ=rs r∧n=1):=by
 refine Hf.of pg_ok Tryz.func113 rfl Tryz.ntmps113 rfl Tryz.results113 Tryz.call113 fun H0 S0 w0 h0 g0=>?_
 refine GOH (see_b hr h) id rfl rfl ⟨rfl,trivial⟩ rfl (id_lt rfl) ?_
 rintro g σ' n' ⟨rfl,rfl,rfl⟩
 exact ⟨rfl,rfl,rfl⟩
theorem rmust_hf {r : Rd} (hr : RdOk r) (s : ByteArray) : Hf pg 114 1 [.p 0 0,gs s] (rs r) (fun g σ n=>g=.tup []∧σ=rs (rmust s r)∧n=1):=by
 refine Hf.of pg_ok Tryz.func114 rfl Tryz.ntmps114 rfl Tryz.results114 Tryz.call114 fun H0 S0 w0 h0 g0=>?_
 rcases tf (rsee s r) with h | h
 ·refine GOH (take_yes hr h) id rfl rfl ⟨rfl,trivial⟩ rfl (id_lt rfl) ?_
  rintro g σ' n' ⟨rfl,rfl,rfl⟩
  exact ⟨rfl,by rw [rmust,if_pos h],rfl⟩
 ·refine GOH (take_no hr h) id rfl rfl ⟨rfl,trivial⟩ rfl (id_lt rfl) ?_
  rintro g σ' n' ⟨rfl,rfl,rfl⟩
  refine GOH (rfails_hf r hr 3) id rfl rfl ⟨rfl,trivial⟩ rfl (id_lt rfl) ?_
  rintro g σ' n' ⟨rfl,rfl,rfl⟩
  refine ⟨rfl,?_,rfl⟩
  rw [rmust,if_neg (by rw [h]; exact Bool.false_ne_true)]
theorem rkind_hf {r : Rd} (hr : RdOk r) (k : Int) : Hf pg 140 1 [.p 0 0,gi k] (rs r) (fun g σ n=>g=gs (rkind k r).1∧σ=rs (rkind k r).2∧n=1):=by
 obtain ⟨t,l,hl⟩:=tks_cons hr
 obtain ⟨ll,re,rp⟩:=r
 simp only at hl
 subst hl
 refine Hf.of pg_ok Tryz.func140 rfl Tryz.ntmps140 rfl Tryz.results140 Tryz.call140 fun H0 S0 w0 h0 g0=>?_
 refine ⟨tokR t,by decide,rfl,?_⟩
 have hk1 : rkind1 k ⟨t :: l,re,rp⟩=if t.kind=k then ⟨t :: l,re,rp⟩ else rfail 3 ⟨t :: l,re,rp⟩:=rfl
 by_cases hk : t.kind=k
 ·refine p2 ?_ (by simp [hk])
  rw [if_pos hk] at hk1
  rw [rkind,hk1]
  rcases tf (Rd.ok ⟨t :: l,re,rp⟩) with h | h
  ·refine GOH (rok_b h) id rfl rfl ⟨rfl,trivial⟩ rfl (id_lt rfl) ?_
   rintro g σ' n' ⟨rfl,rfl,rfl⟩
   refine ⟨tokR t,by decide,rfl,?_⟩
   refine ⟨by decide,by simp; omega,by simp,?_⟩
   rw [if_pos h]
   exact ⟨rfl,rtl_eq t l re rp,rfl⟩
  ·refine GOH (rok_b h) id rfl rfl ⟨rfl,trivial⟩ rfl (id_lt rfl) ?_
   rintro g σ' n' ⟨rfl,rfl,rfl⟩
   rw [if_neg (by rw [h]; exact Bool.false_ne_true)]
   exact ⟨rfl,rfl,rfl⟩
 ·refine p1 ?_ (by simp [hk])
  rw [if_neg hk] at hk1
  have hno : (rfail 3 ⟨t :: l,re,rp⟩).ok=false:=by
   rcases tf (Rd.ok ⟨t :: l,re,rp⟩) with h | h
   ·rw [rfail,if_pos h]; rfl
   ·rw [rfail_bad h,h]
  rw [rkind,hk1,if_neg (by rw [hno]; exact Bool.false_ne_true)]
  refine GOH (rfails_hf _ hr 3) id rfl rfl ⟨rfl,trivial⟩ rfl (id_lt rfl) ?_
  rintro g σ' n' ⟨rfl,rfl,rfl⟩
  refine GOH (rok_b hno) id rfl rfl ⟨rfl,trivial⟩ rfl (id_lt rfl) ?_
  rintro g σ' n' ⟨rfl,rfl,rfl⟩
  exact ⟨rfl,rfl,rfl⟩
theorem rname_hf {r : Rd} (hr : RdOk r) : Hf pg 118 1 [.p 0 0] (rs r) (fun g σ n=>g=gs (rname r).1∧σ=rs (rname r).2∧n=1):=by
 obtain ⟨t,l,hl⟩:=tks_cons hr
 obtain ⟨ll,re,rp⟩:=r
 simp only at hl
 subst hl
 have hsz:=(hr.toks.each t List.mem_cons_self).2
 refine rs_n rfl ?_
 refine Hf.of pg_ok Tryz.func118 rfl Tryz.ntmps118 rfl Tryz.results118 Tryz.call118 fun H0 S0 w0 h0 g0=>?_
 refine ⟨tokR t,by decide,rfl,?_⟩
 have hk1 : rname1 ⟨t :: l,re,rp⟩=if t.kind=1∧nameF t.text=false then rfail 4 ⟨t :: l,re,rp⟩ else ⟨t :: l,re,rp⟩:=rfl
 have fin : ¬ (t.kind=1∧nameF t.text=false)→rname ⟨t :: l,re,rp⟩=rkind 1 ⟨t :: l,re,rp⟩:=fun h=>by rw [rname,hk1,if_neg h]
 rcases tf (t.kind == 1) with hk | hk
 ·refine p1 ?_ hk
  refine GO (refName_rt t.text (by omega)) rfl ?_
  rcases tf (nameF t.text) with hn | hn
  ·refine p2 ?_ (by rw [hn]; rfl)
   refine GOH (rkind_hf hr 1) id rfl rfl ⟨rfl,trivial⟩ rfl (id_lt rfl) ?_
   rintro g σ' n' ⟨rfl,rfl,rfl⟩
   rw [fin (by simp [hn])]
   exact ⟨rfl,rfl,⟨rfl,trivial⟩⟩
  ·refine p1 ?_ (by rw [hn]; rfl)
   have h1 : t.kind=1∧nameF t.text=false:=⟨by simpa using hk,hn⟩
   rw [if_pos h1] at hk1
   rw [rname,hk1]
   refine GOH (rfails_hf _ hr 4) id rfl rfl ⟨rfl,trivial⟩ rfl (id_lt rfl) ?_
   rintro g σ' n' ⟨rfl,rfl,rfl⟩
   refine GOH (rkind_hf (hr.fails (by decide)) 1) id rfl rfl ⟨rfl,trivial⟩ rfl (id_lt rfl) ?_
   rintro g σ' n' ⟨rfl,rfl,rfl⟩
   exact ⟨rfl,rfl,⟨rfl,trivial⟩⟩
 ·refine p2 ?_ hk
  refine V ?_
  refine GOH (rkind_hf hr 1) id rfl rfl ⟨rfl,trivial⟩ rfl (id_lt rfl) ?_
  rintro g σ' n' ⟨rfl,rfl,rfl⟩
  have hk' : t.kind ≠ 1:=by simpa using hk
  rw [fin (by simp [hk'])]
  exact ⟨rfl,rfl,⟨rfl,trivial⟩⟩
def numI (s : ByteArray) (i : Nat) : Int:=(s.data.toList.take i).foldl (fun n c=>n * 10 + ((c.toNat : Int) - 48)) 0
theorem numI_all (s : ByteArray) {i : Nat} (h : s.size≤i) : numI s i=numT s:=by
 rw [numI,List.take_of_length_le (by simpa using h),numT]
theorem numI_succ {s : ByteArray} {i : Nat} (h : i < s.size) : numI s (i + 1)=numI s i * 10 + ((s[i].toNat : Int) - 48):=by
 have h' : i < s.data.toList.length:=by simpa using h
 rw [numI,numI,List.take_succ_eq_append_getElem h',List.foldl_append]
 rfl
theorem tok_digs {t : Tok} (h : t.Ok) (hk : t.kind=2) : (∀ b ∈ t.text.data.toList,digB b=true)∧t.text.size≤18:=by
 rcases h with (⟨h,_⟩ | ⟨_,_,h2,h3⟩ | ⟨h,_⟩ | ⟨h,_⟩) | ⟨h,_⟩
 ·omega
 ·exact ⟨h3,by simpa using h2⟩
 ·omega
 ·omega
 ·omega
theorem numI_lt {t : Tok} (h : t.Ok) (hk : t.kind=2) (i : Nat) (hi : i≤t.text.size) : 0≤numI t.text i∧numI t.text i < 1000000000000000000:=by
 obtain ⟨h1,h2⟩:=tok_digs h hk
 obtain ⟨n,e1,e2⟩:=digs_lt (t.text.data.toList.take i) 0 (fun b hb=>h1 b (List.mem_of_mem_take hb))
 have e : numI t.text i=n:=e1
 have hl : (t.text.data.toList.take i).length≤18:=by simp; omega
 have : 10 ^ (t.text.data.toList.take i).length≤10 ^ 18:=Nat.pow_le_pow_right (by decide) hl
 rw [e]
 omega
theorem rnumber_hf {r : Rd} (hr : RdOk r) (most : Int) : Hf pg 115 1 [.p 0 0,gi most] (rs r) (fun g σ n=>g=gi (rnum r)∧σ=rs (rnumber most r)∧n=1):=by
 obtain ⟨t,l,hl⟩:=tks_cons hr
 obtain ⟨ll,re,rp⟩:=r
 simp only at hl
 subst hl
 have ht:=hr.toks.each t List.mem_cons_self
 have hsz:=ht.2
 refine rs_n rfl ?_
 refine Hf.of pg_ok Tryz.func115 rfl Tryz.ntmps115 rfl Tryz.results115 Tryz.call115 fun H0 S0 w0 h0 g0=>?_
 refine ⟨tokR t,by decide,rfl,?_⟩
 refine JK.loopE (α:=Nat) (β:=Unit) (fun i=>⟨[(0,.p 0 0),(1,gi most),(5,.p 1 0),(6,gi (if t.kind=2 then numI t.text i else 0)),(7,gi i)],[(0,.blk 102 [tks (t :: l),gi re,gi rp]),(1,.blk 105 (tokR t))],2⟩) (fun i=>i≤t.text.size) (fun i=>t.text.size - i)
  (fun _=>⟨[(0,.p 0 0),(1,gi most),(5,.p 1 0),(6,gi (rnum ⟨t :: l,re,rp⟩))],[(0,.blk 102 [tks (t :: l),gi re,gi rp]),(1,.blk 105 (tokR t))],2⟩) (fun _=>True) 0 id ?_ (Nat.zero_le _) ?_ ?_
 ·refine ⟨⟨rfl,rfl,rfl,?_,rfl,trivial⟩,⟨rfl,rfl,trivial⟩,rfl⟩
  show some (gi 0)=some (gi (if t.kind=2 then numI t.text 0 else 0))
  split <;> rfl
 ·rintro i hi
  refine V ?_
  rcases tf (t.kind == 2) with hk | hk
  ·have hk' : t.kind=2:=by simpa using hk
   refine p1 ?_ hk
   by_cases hlt : i < t.text.size
   ·refine p1 ?_ (decide_eq_true (by omega))
    refine sx (h:=?_)
    have hd:=dig_sub ((tok_digs ht.1 hk').1 t.text[i] (by
     have : t.text[i]=t.text.data[i]'hlt:=rfl
     rw [this]
     simp))
    have h1:=numI_lt ht.1 hk' i (by omega)
    have h2:=numI_lt ht.1 hk' (i + 1) hlt
    have h3:=numI_succ hlt
    refine ⟨i + 1,id,⟨⟨rfl,rfl,rfl,?_,succ_gi (by omega),trivial⟩,⟨rfl,rfl,trivial⟩,rfl⟩,hlt,by show t.text.size - (i + 1) < t.text.size - i; omega⟩
    show some (gi (IntKind.i64.wrap (IntKind.i64.wrap ((if t.kind=2 then numI t.text i else 0) * 10) + IntKind.i64.wrap (IntKind.u8.wrap ((t.text[i].toNat : Int) - 48)))))=some (gi (if t.kind=2 then numI t.text (i + 1) else 0))
    rw [if_pos hk',if_pos hk',h3]
    rw [h3] at h2
    have hw : IntKind.u8.wrap ((t.text[i].toNat : Int) - 48)=(t.text[i].toNat : Int) - 48:=by rw [IntKind.wrap_u8]; omega
    rw [hw,wrap_id (x:=(t.text[i].toNat : Int) - 48) (by omega) (by omega),wrap_id (x:=numI t.text i * 10) (by omega) (by omega),wrap_id (by omega) (by omega)]
   ·refine p2 ?_ (decide_eq_false (by omega))
    refine ⟨(),id,⟨⟨rfl,rfl,rfl,?_,trivial⟩,⟨rfl,rfl,trivial⟩,rfl⟩,trivial⟩
    show some (gi (if t.kind=2 then numI t.text i else 0))=some (gi (if t.kind=2 then numT t.text else 0))
    rw [numI_all t.text (by omega)]
  ·have hk' : t.kind ≠ 2:=by simpa using hk
   refine p2 ?_ hk
   refine ⟨(),id,⟨⟨rfl,rfl,rfl,?_,trivial⟩,⟨rfl,rfl,trivial⟩,rfl⟩,trivial⟩
   show some (gi (if t.kind=2 then numI t.text i else 0))=some (gi (if t.kind=2 then numT t.text else 0))
   rw [if_neg hk',if_neg hk']
 ·rintro _ _
  refine V ?_
  have hk1 : rnumber1 most ⟨t :: l,re,rp⟩=if t.kind=2∧most < rnum ⟨t :: l,re,rp⟩ then rfail 4 ⟨t :: l,re,rp⟩ else ⟨t :: l,re,rp⟩:=rfl
  have fin : ¬ (t.kind=2∧most < rnum ⟨t :: l,re,rp⟩)→rnumber most ⟨t :: l,re,rp⟩=(rkind 2 ⟨t :: l,re,rp⟩).2:=fun h=>by rw [rnumber,hk1,if_neg h]
  generalize rnum ⟨t :: l,re,rp⟩=nn at hk1 fin ⊢
  rcases tf (t.kind == 2) with hk | hk
  ·have hk' : t.kind=2:=by simpa using hk
   refine p1 ?_ hk
   by_cases hm : most < nn
   ·refine p1 ?_ (decide_eq_true hm)
    rw [if_pos ⟨hk',hm⟩] at hk1
    rw [rnumber,hk1]
    refine GOH (rfails_hf _ hr 4) id rfl rfl ⟨rfl,trivial⟩ rfl (id_lt rfl) ?_
    rintro g σ' n' ⟨rfl,rfl,rfl⟩
    refine GOH (rkind_hf (hr.fails (by decide)) 2) id rfl rfl ⟨rfl,trivial⟩ rfl (id_lt rfl) ?_
    rintro g σ' n' ⟨rfl,rfl,rfl⟩
    exact ⟨rfl,rfl,⟨rfl,trivial⟩⟩
   ·refine p2 ?_ (decide_eq_false hm)
    refine GOH (rkind_hf hr 2) id rfl rfl ⟨rfl,trivial⟩ rfl (id_lt rfl) ?_
    rintro g σ' n' ⟨rfl,rfl,rfl⟩
    rw [fin (by simp [hm])]
    exact ⟨rfl,rfl,⟨rfl,trivial⟩⟩
  ·have hk' : t.kind ≠ 2:=by simpa using hk
   refine p2 ?_ hk
   refine V ?_
   refine GOH (rkind_hf hr 2) id rfl rfl ⟨rfl,trivial⟩ rfl (id_lt rfl) ?_
   rintro g σ' n' ⟨rfl,rfl,rfl⟩
   rw [fin (by simp [hk'])]
   exact ⟨rfl,rfl,⟨rfl,trivial⟩⟩
end Go.Proofs.YtkoalgjlkcaonaaGreatDoor
