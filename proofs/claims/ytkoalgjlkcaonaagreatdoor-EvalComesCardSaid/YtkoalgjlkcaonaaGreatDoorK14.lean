/-
  Contracts: package bits.
-/
import Derived.Test.YtkoalgjlkcaonaaGreatDoorK05
import Derived.Test.YtkoalgjlkcaonaaGreatDoorK07
import Derived.Test.YtkoalgjlkcaonaaGreatDoorK13
import Derived.Test.YtkoalgjlkcaonaaGreatDoorK09
import Derived.Test.YtkoalgjlkcaonaaGreatDoorK06
import Derived.Test.YtkoalgjlkcaonaaGreatDoorK11
import Derived.Test.YtkoalgjlkcaonaaGreatDoorK04
import Derived.LaidMore
import Derived.Stop.LaidErr
import Derived.Test.YtkoalgjlkcaonaaGreatDoorRows
import Derived.ProofKit
import Derived.LaidLaws
import Derived.LaidHandle
import Derived.LaidSub
import Derived.Lay
import Derived.ChangeSame
import Derived.OpenShut
import Derived.Stop.Joined
set_option linter.unusedSimpArgs false
namespace Go.Proofs.YtkoalgjlkcaonaaGreatDoor
open Go.GK Go.PL
set_option maxRecDepth 100000
end Go.Proofs.YtkoalgjlkcaonaaGreatDoor
/-
  Contracts: package roll.
-/
namespace Go.Proofs.YtkoalgjlkcaonaaGreatDoor
open Go.GK Go.PL
set_option maxRecDepth 100000

end Go.Proofs.YtkoalgjlkcaonaaGreatDoor
/-
  Contracts: which samples may be.
-/
namespace Go.Proofs.YtkoalgjlkcaonaaGreatDoor
open Go.GK Go.PL
set_option maxRecDepth 100000
end Go.Proofs.YtkoalgjlkcaonaaGreatDoor
/-
  Contracts: package chunk, writing.
-/
namespace Go.Proofs.YtkoalgjlkcaonaaGreatDoor
open Go.GK Go.PL
set_option maxRecDepth 100000
end Go.Proofs.YtkoalgjlkcaonaaGreatDoor
/-
  Contracts: package chunk, reading.
-/
namespace Go.Proofs.YtkoalgjlkcaonaaGreatDoor
open Go.GK Go.PL
set_option maxRecDepth 100000
def ReadQ (s : ByteArray) (g : GV) : Prop :=
 (∃ l,okS l=true∧V64 l∧s=enc l∧g=.tup [.sl 2 (l.map sm),.v .nilIface]) ∨
 ((∀ l,okS l=true→V64 l→s ≠ enc l)∧g=.tup [.v (.slice none 0 0),.ifc 53 (gi 3)])
end Go.Proofs.YtkoalgjlkcaonaaGreatDoor
/-
  Contracts: a reader of bytes (code.Reader): series.
-/
namespace Go.Proofs.YtkoalgjlkcaonaaGreatDoor
open Go.GK Go.PL Go.RowKit
set_option maxRecDepth 100000
theorem ReadQ.id {t : ByteArray} {g : GV} (h : ReadQ t g) : idb 0 g=true:=by
 rcases h with ⟨l,_,_,_,rfl⟩ | ⟨_,rfl⟩ <;> rfl
end Go.Proofs.YtkoalgjlkcaonaaGreatDoor
/-
  Contracts: a writer of bytes (code.Writer).
-/
namespace Go.Proofs.YtkoalgjlkcaonaaGreatDoor
open Go.GK Go.PL Go.RowKit
set_option maxRecDepth 100000
end Go.Proofs.YtkoalgjlkcaonaaGreatDoor
/-
  Contracts: series written (code.Series).
-/
namespace Go.Proofs.YtkoalgjlkcaonaaGreatDoor
open Go.GK Go.PL Go.RowKit
set_option maxRecDepth 100000
end Go.Proofs.YtkoalgjlkcaonaaGreatDoor
/-
  Series that are short; what code.Series says of good ones and of others.
-/
namespace Go.Proofs.YtkoalgjlkcaonaaGreatDoor
open Go.GK Go.PL Go.RowKit
set_option maxRecDepth 100000
theorem shL_small {l : List Lb} (h : shL l=true) : l.length≤20∧∀ x ∈ l,x.name.size≤60∧x.value.size≤60:=by
 unfold shL at h
 rw [Bool.and_eq_true,decide_eq_true_iff,Bool.not_eq_true'] at h
 refine ⟨h.1,fun x hx=>?_⟩
 obtain ⟨i,hi,rfl⟩:=List.getElem_of_mem hx
 have:=anyB_get h.2 i hi
 rw [show l.getD i default=l[i] by simp [hi],Bool.or_eq_false_iff,decide_eq_false_iff_not,decide_eq_false_iff_not] at this
 omega
def badS (l : List Ser) (i : Nat) : Bool:=match l[i]? with | some x=>!shL x.labels || decide (60 < x.samples.length) | none=>false
theorem badS_at {l : List Ser} {i : Nat} (h : i < l.length) : badS l i=(!shL l[i].labels || decide (60 < l[i].samples.length)):=by unfold badS; rw [List.getElem?_eq_getElem h]
def shS (l : List Ser) : Bool:=decide (l.length≤20) && !anyB l.length (badS l)
theorem shS_small {l : List Ser} (h : shS l=true) : l.length≤20∧∀ x ∈ l,shL x.labels=true∧x.samples.length≤60:=by
 unfold shS at h
 rw [Bool.and_eq_true,decide_eq_true_iff,Bool.not_eq_true'] at h
 refine ⟨h.1,fun x hx=>?_⟩
 obtain ⟨i,hi,rfl⟩:=List.getElem_of_mem hx
 have:=anyB_get h.2 i hi
 rw [badS_at hi] at this
 simp only [Bool.or_eq_false_iff,Bool.not_eq_false',decide_eq_false_iff_not] at this
 exact ⟨this.1,by omega⟩
end Go.Proofs.YtkoalgjlkcaonaaGreatDoor
/-
  Contracts: series that are short (the laws').
-/
namespace Go.Proofs.YtkoalgjlkcaonaaGreatDoor
open Go.GK Go.PL Go.RowKit
set_option maxRecDepth 100000
theorem lshortS_rt (l : List Ser) : Rt pg 14 [ses l] (.b (shS l)):=by
 refine Rt.of pg_ok Tryz.func14 rfl Tryz.ntmps14 rfl Tryz.results14 Tryz.call14 fun H0 S0 w0 h0 g0=>?_
 have hll : (l.map se).length=l.length:=by simp
 unfold shS
 by_cases hl : l.length≤20
 ·refine p2 ?_
  refine JK.loop (α:=Nat) (fun i=>⟨[(0,ses l),(3,gi i)],[],0⟩) (fun i=>i≤l.length∧∀ j,j < i→badS l j=false) (fun i=>l.length - i) 0 id ?_ ⟨Nat.zero_le _,fun j hj=>absurd hj (by omega)⟩ ?_
  ·exact ⟨⟨rfl,rfl,trivial⟩,trivial,rfl⟩
  ·rintro i ⟨hi,hgood⟩
   refine V ?_
   by_cases hlt : i < l.length
   ·have hg:=badS_at hlt
    have hbad : (!shL l[i].labels || decide (60 < l[i].samples.length))=true→(decide (l.length≤20) && !anyB l.length (badS l))=false:=fun h=>by rw [anyB_true hlt (by rw [hg]; exact h)]; simp
    have hnext : (!shL l[i].labels || decide (60 < l[i].samples.length))=false→∀ j,j < i + 1→badS l j=false:=fun h j hj=>by
     rcases Nat.lt_succ_iff_lt_or_eq.1 hj with h1 | h1
     ·exact hgood j h1
     ·subst h1; rw [hg]; exact h
    refine p1 ?_ (decide_eq_true (by omega))
    refine ix (h:=?_)
    have hsm : (l[i].samples.map sm).length=l[i].samples.length:=by simp
    rcases tf (shL l[i].labels) with h1 | h1
    ·refine GO ((shortL_rt l[i].labels).bt h1) rfl ?_
     repeat (first | refine p1 ?_ | refine p2 ?_ | refine p3 ?_ | refine p4 ?_)
     refine ix (h:=?_)
     by_cases h2 : 60 < l[i].samples.length
     ·refine p1 ?_ (decide_eq_true (by omega))
      exact ⟨(hbad (by rw [decide_eq_true h2,Bool.or_true])).symm,rfl⟩
     ·refine p2 ?_ (decide_eq_false (by omega))
      exact ⟨i + 1,id,⟨⟨rfl,succ_gi (by omega),trivial⟩,trivial,rfl⟩,⟨hlt,hnext (by rw [decide_eq_false h2,h1]; rfl)⟩,by show l.length - (i + 1) < l.length - i; omega⟩
    ·refine GO ((shortL_rt l[i].labels).bt h1) rfl ?_
     repeat (first | refine p1 ?_ | refine p2 ?_ | refine p3 ?_ | refine p4 ?_)
     exact ⟨(hbad (by rw [h1]; rfl)).symm,rfl⟩
   ·refine p2 ?_ (decide_eq_false (by omega))
    refine V ?_
    obtain rfl : i=l.length:=by omega
    exact ⟨by rw [anyB_false hgood,decide_eq_true hl]; rfl,rfl⟩
 ·refine p1 ?_
  exact ⟨by rw [decide_eq_false hl]; rfl,rfl⟩
end Go.Proofs.YtkoalgjlkcaonaaGreatDoor
/-
  Contracts: package block: which may be, written, read.
-/
namespace Go.Proofs.YtkoalgjlkcaonaaGreatDoor
open Go.GK Go.PL Go.RowKit
set_option maxRecDepth 100000
abbrev bkG (to_ old : Int) (l : List Ser) : GV:=.agg [gi to_,gi old,ses l]
end Go.Proofs.YtkoalgjlkcaonaaGreatDoor
/-
  Contracts: the document's reader (ref.Taker): a number, a text.
-/
namespace Go.Proofs.YtkoalgjlkcaonaaGreatDoor
open Go.GK Go.PL Go.RowKit
set_option maxRecDepth 100000
end Go.Proofs.YtkoalgjlkcaonaaGreatDoor
/-
  Contracts: which blocks may be.
-/
namespace Go.Proofs.YtkoalgjlkcaonaaGreatDoor
open Go.GK Go.PL Go.RowKit
set_option maxRecDepth 100000
def Short1 (x : Ser) : Prop:=x.labels.length≤1000000∧x.samples.length≤1000000∧∀ y ∈ x.labels,y.name.size < 4611686018427387904∧y.value.size < 4611686018427387904
theorem rbright_rt (to_ old : Int) (l : List Ser) (hlab : ∀ x ∈ l,Short1 x) : Rt pg 17 [bkG to_ old l] (.b (blkR to_ old l)):=by
 refine Rt.of pg_ok Tryz.func17 rfl Tryz.ntmps17 rfl Tryz.results17 Tryz.call17 fun H0 S0 w0 h0 g0=>?_
 have hll : (l.map se).length=l.length:=by simp
 refine JK.len 7 rfl fun hlen _=>?_
 have hlen' : l.length≤9223372036854775807:=by simpa [maxLen] using hlen
 refine JK.loop (α:=Nat) (fun i=>⟨[(1,.p 0 0),(7,ses l),(8,gi (l.map se).length),(9,gi i)],[(0,.blk 51 [gi to_,gi old,ses l])],1⟩) (fun i=>i≤l.length∧∀ j,j < i→blkBad to_ l j=false) (fun i=>l.length - i) 0 id ?_ ⟨Nat.zero_le _,fun j hj=>absurd hj (by omega)⟩ ?_
 ·exact ⟨⟨rfl,rfl,rfl,rfl,trivial⟩,⟨rfl,trivial⟩,rfl⟩
 ·rintro i ⟨hi,hgood⟩
  replace hi : i≤l.length:=hi
  refine V ?_
  by_cases hlt : i < l.length
  ·have hat:=blkBad_at (to_:=to_) hlt
   have hbad : blkBad to_ l i=true→blkR to_ old l=false:=fun h=>by unfold blkR; rw [anyB_true hlt h]; rfl
   have hnext : blkBad to_ l i=false→∀ j,j < i + 1→blkBad to_ l j=false:=fun h j hj=>by
    rcases Nat.lt_succ_iff_lt_or_eq.1 hj with h1 | h1
    ·exact hgood j h1
    ·subst h1; exact h
   obtain ⟨q1,q2,q3⟩:=hlab l[i] (List.getElem_mem hlt)
   have hr1:=labelsW_rt l[i].labels q1 q3
   have hr2:=Rq.old Tryz.call50 (samples_ct l[i].samples q2)
   have hsl : (l[i].samples.map sm).length=l[i].samples.length:=by simp
   refine p1 ?_ (decide_eq_true (by omega))
   refine ix (h:=?_)
   rcases tf (rightF l[i].labels) with h1 | h1
   ·refine DRAW [] false (tk [0,1]) (by kernel_rfl) ?_
    refine RGO 2 false (tk [3,4,5,6]) (hr1.bt h1) rfl rfl (by kernel_rfl) ?_
    repeat (first | refine p1 ?_ | refine p2 ?_ | refine p3 ?_ | refine p4 ?_)
    rcases tf (okS l[i].samples) with h2 | h2
    ·refine RGO 7 false (tk [8,9,10,11,12,13,14,15,16,17,18,19,20,21,22,23,24,25,26,27,28,29,30,31,32,33,34,35,36,37,38]) (hr2.bt h2) rfl rfl (by kernel_rfl) ?_
     repeat (first | refine p1 ?_ | refine p2 ?_ | refine p3 ?_ | refine p4 ?_)
     by_cases h3 : l[i].samples.length=0
     ·refine p3 ?_ (by simp [h3])
      repeat (first | refine p1 ?_ | refine p2 ?_ | refine p3 ?_ | refine p4 ?_)
      refine RSKIP 39 true (tk [40,41,42]) rfl rfl (by kernel_rfl) ?_
      repeat (first | refine p1 ?_ | refine p2 ?_ | refine p3 ?_ | refine p4 ?_)
      refine V ?_
      repeat (first | refine p1 ?_ | refine p2 ?_ | refine p3 ?_ | refine p4 ?_)
      rw [hbad (by rw [hat,h1,h2,decide_eq_true h3]; rfl)]
      exact ⟨rfl,rfl⟩
     ·have h3' : l[i].samples.length - 1 < l[i].samples.length:=by omega
      have hla:=lastB_at (to_:=to_) h3'
      refine p4 ?_ (by rw [beq_eq_false_iff_ne]; omega)
      repeat (first | refine p1 ?_ | refine p2 ?_ | refine p3 ?_ | refine p4 ?_)
      refine idx (l[i].samples.length - 1) (by rw [hsl,wrap_id (by omega) (by omega)]; omega) h3' ?_
      by_cases h4 : to_ < l[i].samples[l[i].samples.length - 1].time
      ·refine p3 ?_ (decide_eq_true h4)
       repeat (first | refine p1 ?_ | refine p2 ?_ | refine p3 ?_ | refine p4 ?_)
       refine RSKIP 39 true (tk [40,41,42]) rfl rfl (by kernel_rfl) ?_
       repeat (first | refine p1 ?_ | refine p2 ?_ | refine p3 ?_ | refine p4 ?_)
       refine V ?_
       repeat (first | refine p1 ?_ | refine p2 ?_ | refine p3 ?_ | refine p4 ?_)
       rw [hbad (by rw [hat,h1,h2,decide_eq_false h3,hla,decide_eq_true h4]; rfl)]
       exact ⟨rfl,rfl⟩
      ·refine p4 ?_ (decide_eq_false h4)
       by_cases h5 : 0 < i
       ·repeat (first | refine p1 ?_ | refine p2 ?_ | refine p3 ?_ | refine p4 ?_)
        refine idx (i - 1) (by rw [wrap_id (by omega) (by omega)]; omega) (by omega) ?_
        have hpv:=prevB_at (l:=l) (x:=l[i]) (by omega : i - 1 < l.length) h5
        refine RGO 39 true (tk [40,41,42]) (refCompare_rt l[i - 1].labels l[i].labels (hlab l[i - 1] (List.getElem_mem (by omega))).1 q1) rfl (congrArg (fun c=>bif (c == true) then some (51,[lbs l[i - 1].labels,lbs l[i].labels]) else none) (decide_eq_true (show (i : Int) > 0 by omega))) (by kernel_rfl) ?_
        refine V ?_
        by_cases h6 : 0≤cmpF l[i - 1].labels l[i].labels
        ·refine p1 ?_ (decide_eq_true h6)
         rw [hbad (by rw [hat,h1,h2,decide_eq_false h3,hla,decide_eq_false h4,hpv,decide_eq_true h6]; rfl)]
         exact ⟨rfl,rfl⟩
        ·refine p2 ?_ (decide_eq_false h6)
         exact ⟨i + 1,id,⟨⟨rfl,rfl,rfl,succ_gi (by omega),trivial⟩,⟨rfl,trivial⟩,rfl⟩,⟨hlt,hnext (by rw [hat,h1,h2,decide_eq_false h3,hla,decide_eq_false h4,hpv,decide_eq_false h6]; rfl)⟩,by show l.length - (i + 1) < l.length - i; omega⟩
       ·have hi0 : i=0:=by omega
        repeat (first | refine p1 ?_ | refine p2 ?_ | refine p3 ?_ | refine p4 ?_)
        refine RSKIP 39 true (tk [40,41,42]) rfl (congrArg (fun c=>c == !true) (decide_eq_false (show ¬ (i : Int) > 0 by omega))) (by kernel_rfl) ?_
        refine V ?_
        have hp0 : prevB l i l[i]=false:=by unfold prevB; rw [decide_eq_false h5]; rfl
        exact ⟨i + 1,id,⟨⟨rfl,rfl,rfl,succ_gi (by omega),trivial⟩,⟨rfl,trivial⟩,rfl⟩,⟨hlt,hnext (by rw [hat,h1,h2,decide_eq_false h3,hla,decide_eq_false h4,hp0]; rfl)⟩,by show l.length - (i + 1) < l.length - i; omega⟩
    ·refine RGO 7 false (tk [8,9,10,11,12,13,14,15,16,17,18,19,20,21,22,23,24,25,26,27,28,29,30,31,32,33,34,35,36,37,38]) (hr2.bt h2) rfl rfl (by kernel_rfl) ?_
     repeat (first | refine p1 ?_ | refine p2 ?_ | refine p3 ?_ | refine p4 ?_)
     refine RSKIP 39 true (tk [40,41,42]) rfl rfl (by kernel_rfl) ?_
     repeat (first | refine p1 ?_ | refine p2 ?_ | refine p3 ?_ | refine p4 ?_)
     refine V ?_
     repeat (first | refine p1 ?_ | refine p2 ?_ | refine p3 ?_ | refine p4 ?_)
     rw [hbad (by rw [hat,h1,h2]; rfl)]
     exact ⟨rfl,rfl⟩
   ·refine DRAW [] false (tk [0,1]) (by kernel_rfl) ?_
    refine RGO 2 false (tk [3,4,5,6]) (hr1.bt h1) rfl rfl (by kernel_rfl) ?_
    repeat (first | refine p1 ?_ | refine p2 ?_ | refine p3 ?_ | refine p4 ?_)
    refine RSKIP 7 false (tk [8,9,10,11,12,13,14,15,16,17,18,19,20,21,22,23,24,25,26,27,28,29,30,31,32,33,34,35,36,37,38]) rfl rfl (by kernel_rfl) ?_
    repeat (first | refine p1 ?_ | refine p2 ?_ | refine p3 ?_ | refine p4 ?_)
    refine RSKIP 39 true (tk [40,41,42]) rfl rfl (by kernel_rfl) ?_
    repeat (first | refine p1 ?_ | refine p2 ?_ | refine p3 ?_ | refine p4 ?_)
    refine V ?_
    repeat (first | refine p1 ?_ | refine p2 ?_ | refine p3 ?_ | refine p4 ?_)
    rw [hbad (by rw [hat,h1]; rfl)]
    exact ⟨rfl,rfl⟩
  ·obtain rfl : i=l.length:=by omega
   refine p2 ?_ (decide_eq_false (by omega))
   refine V ?_
   have hR : blkR to_ old l=(decide (-1099511627776≤to_∧to_≤1099511627776) && decide (-1≤old)):=by unfold blkR; rw [anyB_false hgood]; rfl
   rw [hR]
   by_cases t1 : -1099511627776≤to_∧to_≤1099511627776
   ·refine GO ((in_rt to_ (-1099511627776) 1099511627776).bt (d:=true) (decide_eq_true t1)) rfl ?_
    repeat (first | refine p1 ?_ | refine p2 ?_ | refine p3 ?_ | refine p4 ?_)
    exact ⟨by rw [decide_eq_true t1]; rfl,rfl⟩
   ·refine GO ((in_rt to_ (-1099511627776) 1099511627776).bt (d:=false) (decide_eq_false t1)) rfl ?_
    repeat (first | refine p1 ?_ | refine p2 ?_ | refine p3 ?_ | refine p4 ?_)
    exact ⟨by rw [decide_eq_false t1]; rfl,rfl⟩
end Go.Proofs.YtkoalgjlkcaonaaGreatDoor
/-
  EvalComes: the law's walk.
-/
namespace Go.Proofs.YtkoalgjlkcaonaaGreatDoor
open Go.GK Go.PL Go.RowKit
set_option maxRecDepth 100000
theorem lser_ok {to_ old : Int} {l : List Ser} (h1 : shS l=true) (h2 : blkR to_ old l=true) (hv : ∀ x ∈ l,V64 x.samples) : SerOk l:=by
 obtain ⟨h3,h4⟩:=shS_small h1
 refine ⟨(blkR_ris h2).1,by omega,fun x hx y hy=>hv x hx y hy,fun x hx=>?_⟩
 obtain ⟨h5,h6⟩:=h4 x hx
 have:=(shL_small h5).1
 exact ⟨by omega,by omega⟩
theorem lshS_short {l : List Ser} (h1 : shS l=true) : ∀ x ∈ l,Short1 x:=fun x hx=>by
 obtain ⟨h5,h6⟩:=(shS_small h1).2 x hx
 obtain ⟨h7,h8⟩:=shL_small h5
 exact ⟨by omega,by omega,fun y hy=>by have:=h8 y hy; omega⟩
theorem samePL_rt (l : List Pt) : Rt pg 26 [pts l,pts l] (.b true):=by
 refine Rt.of pg_ok Tryz.func26 rfl Tryz.ntmps26 rfl Tryz.results26 Tryz.call26 fun H0 S0 w0 h0 g0=>?_
 refine p2 ?_ (by simp)
 refine JK.len 0 rfl fun hlen _=>?_
 have hlen' : l.length≤9223372036854775807:=by simpa [maxLen] using hlen
 refine JK.loop (α:=Nat) (fun i=>⟨[(0,pts l),(1,pts l),(5,gi i)],[],0⟩) (fun i=>i≤l.length) (fun i=>l.length - i) 0 id ?_ (Nat.zero_le _) ?_
 ·exact ⟨⟨rfl,rfl,rfl,trivial⟩,trivial,rfl⟩
 ·intro i hi
  refine V ?_
  by_cases h : i < l.length
  ·refine p1 ?_ (decide_eq_true (by simp only [List.length_map]; omega))
   have hc:=(sameL_rt l[i].labels l[i].labels).bt (d:=true) (decide_eq_true ((cmpF_is.eq0 _ _).2 rfl))
   refine DRAW [] false (tk [0,1,2,3,4,5,6,7,8,9,10,11,12,13,14,15,16,17,18,19,20,21]) (by kernel_rfl) ?_
   refine ix (h:=?_)
   refine ix (h:=?_)
   have hne : (l[i].value != l[i].value)=false:=by simp
   refine p4 ?_ hne
   refine ix (h:=?_)
   refine ix (h:=?_)
   refine RGO 22 true (tk [23,24]) hc rfl (congrArg (fun c=>bif (c == false) then some (62,[lbs l[i].labels,lbs l[i].labels]) else none) hne) (by kernel_rfl) ?_
   refine V ?_
   exact ⟨i + 1,id,⟨⟨rfl,rfl,succ_gi (by omega),trivial⟩,trivial,rfl⟩,h,by show l.length - (i + 1) < l.length - i; omega⟩
  ·refine p2 ?_ (decide_eq_false (by simp only [List.length_map]; omega))
   refine V ?_
   exact ⟨rfl,rfl⟩
theorem sameNilP_rt : Rt pg 26 [.v (.slice none 0 0),.v (.slice none 0 0)] (.b true) :=
 Rq.nl (pre:=[]) (suf:=[.v (.slice none 0 0)]) (z:=2) (Rq.nl (pre:=[.sl 2 []]) (suf:=[]) (z:=2) (samePL_rt []))
theorem isNoE : Rt pg 18 [.v .nilIface,.agg [gi 0,gi (-1)]] (.v (.bool true)):=(isE_rt none 0 (-1)).bt rfl
theorem isYesE (e p : Int) : Rt pg 18 [.ifc 129 (.r [gi e,gi p]),.agg [gi e,gi p]] (.v (.bool true)):=(isAt_rt e p e p).bt (by simp)
theorem bareN : Rt pg 25 [.v .nilIface,gi 0] (.v (.bool true)):=(bareE_rt none 0).bt rfl
theorem bareS (e : Int) : Rt pg 25 [.ifc 53 (gi e),gi e] (.v (.bool true)):=(bareE_rt (some e) e).bt (by simp [erN])
theorem evalComes_rt (l : List Ser) (hv : ∀ x ∈ l,V64 x.samples) (s : ByteArray) (t : Int) : Rt pg 5 [ses l,gs s,gi t] (.b true):=by
 refine Rt.of pg_ok Tryz.func5 rfl Tryz.ntmps5 rfl Tryz.results5 Tryz.call5 fun H0 S0 w0 h0 g0=>?_
 refine FZB 0 rfl rfl ?_
 rcases tf (shS l) with h1 | h1
 rotate_left
 ·refine GO ((lshortS_rt l).bt h1) rfl ?_
  repeat (first | refine p1 ?_ | refine p2 ?_ | refine p3 ?_ | refine p4 ?_)
  exact ⟨rfl,rfl⟩
 refine GO ((lshortS_rt l).bt h1) rfl ?_
 by_cases h4 : s.size≤400
 rotate_left
 ·have h4' : 400 < s.size:=by omega
  repeat (first | refine p1 ?_ | refine p2 ?_ | refine p3 ?_ | refine p4 ?_)
  exact ⟨rfl,rfl⟩
 repeat (first | refine p1 ?_ | refine p2 ?_ | refine p3 ?_ | refine p4 ?_)
 have hss : s.data.toList.length≤600:=by simp; omega
 have hp:=parse_rt s (by omega)
 have rp:=rparse_rt s (by omega)
 have hbr:=rbright_rt 1099511627776 0 l (lshS_short h1)
 cases hP : parseF s.data.toList with
 | error ep =>
  obtain ⟨e,p⟩:=ep
  have hne:=parse_bad hP
  rw [hP] at hp rp
  refine GO rp rfl ?_
  refine GO hp rfl ?_
  rcases tf (blkR 1099511627776 0 l) with h2 | h2
  ·refine GO (hbr.bt h2) rfl ?_
   refine p1 ?_ (by rw [hne]; rfl)
   refine GO (isYesE e p) rfl ?_
   exact ⟨rfl,rfl⟩
  ·refine GO (hbr.bt h2) rfl ?_
   repeat (first | refine p1 ?_ | refine p2 ?_ | refine p3 ?_ | refine p4 ?_)
   refine GO (isYesE e p) rfl ?_
   exact ⟨rfl,rfl⟩
 | ok q =>
  rw [hP] at hp rp
  obtain ⟨hw,_,_⟩:=print_parse hss hP
  have hsa:=(sameAsk_rt q (wf_len hw)).bt (d:=true) rfl
  obtain ⟨c,n,m,sp,b,ql,qr,rfl⟩ : ∃ c n m sp b l r,q=.mk c n m sp b l r:=by cases hw <;> exact ⟨_,_,_,_,_,_,_,rfl⟩
  refine GO rp rfl ?_
  refine GO hp rfl ?_
  rcases tf (blkR 1099511627776 0 l) with h2 | h2
  rotate_left
  ·refine GO (hbr.bt h2) rfl ?_
   repeat (first | refine p1 ?_ | refine p2 ?_ | refine p3 ?_ | refine p4 ?_)
   refine GO isNoE rfl ?_
   exact ⟨rfl,rfl⟩
  have hok:=lser_ok h1 h2 hv
  have hre:=reval_rt hok t hw
  have hcm:=fun a b=>comes_rt (lsource_c hok) t hw a b
  have hrg:=comes_range (f:=21) (S:=l) c n m sp b ql qr t
  refine GO (hbr.bt h2) rfl ?_
  repeat (first | refine p1 ?_ | refine p2 ?_ | refine p3 ?_ | refine p4 ?_)
  refine GO hsa rfl ?_
  repeat (first | refine p1 ?_ | refine p2 ?_ | refine p3 ?_ | refine p4 ?_)
  have hfin : Rt pg 24 [.r [gi 2,gi 0,.sl 3 [],gi 3,.sl 1 [],.v (.pointer none),.v (.pointer none)],gi 0,badG] (comesG (.error 13)):=comes_bad
  by_cases ht : -1099511627776≤t∧t≤1099511627776
  ·have hcm:=hcm ht.1 ht.2
   cases hE : evalF (srcF l) t (.mk c n m sp b ql qr) with
   | error e =>
    have hne:=evalF_err hE
    rw [hE] at hre hcm
    refine GO hre rfl ?_
    obtain ⟨ht1,ht2⟩:=ht
    refine p4 ?_ (decide_eq_false (by omega))
    refine p2 ?_ (decide_eq_false (by omega))
    refine p1 ?_ (by simpa using hne)
    refine GO hcm rfl ?_
    refine GO (bareS e) rfl ?_
    repeat (first | refine p1 ?_ | refine p2 ?_ | refine p3 ?_ | refine p4 ?_)
    refine GO (sameNilP_rt.bt rfl) rfl ?_
    repeat (first | refine p1 ?_ | refine p2 ?_ | refine p3 ?_ | refine p4 ?_)
    refine JK.subBlk 4 [gi 2,gi 0,.sl 3 [],gi 3,.sl 1 [],.v (.pointer none),.v (.pointer none)] rfl (sv7 Sub.rfl (Sub.nil 3) (Sub.nil 1)) ?_
    refine JK.freezeB 4 rfl rfl ?_
    refine V ?_
    refine GO hfin rfl ?_
    refine GO (bareS 13) rfl ?_
    exact ⟨rfl,rfl⟩
   | ok a =>
    obtain ⟨pl,a2⟩:=a
    rw [hE] at hre hcm
    refine GO hre rfl ?_
    obtain ⟨ht1,ht2⟩:=ht
    refine p4 ?_ (decide_eq_false (by omega))
    refine p2 ?_ (decide_eq_false (by omega))
    refine p2 ?_ rfl
    refine GO hcm rfl ?_
    refine GO bareN rfl ?_
    repeat (first | refine p1 ?_ | refine p2 ?_ | refine p3 ?_ | refine p4 ?_)
    have hbb : (a2 != a2)=false:=by simp
    first | refine p4 ?_ hbb | refine p2 ?_ hbb
    refine GO ((samePL_rt pl).bt rfl) rfl ?_
    repeat (first | refine p1 ?_ | refine p2 ?_ | refine p3 ?_ | refine p4 ?_)
    refine JK.subBlk 4 [gi 2,gi 0,.sl 3 [],gi 3,.sl 1 [],.v (.pointer none),.v (.pointer none)] rfl (sv7 Sub.rfl (Sub.nil 3) (Sub.nil 1)) ?_
    refine JK.freezeB 4 rfl rfl ?_
    refine V ?_
    refine GO hfin rfl ?_
    refine GO (bareS 13) rfl ?_
    exact ⟨rfl,rfl⟩
  ·have hrg:=hrg ht
   cases hE : evalF (srcF l) t (.mk c n m sp b ql qr) with
   | error e =>
    rw [hE] at hre
    refine GO hre rfl ?_
    by_cases c1 : t < -1099511627776
    rotate_left
    ·have c2 : 1099511627776 < t:=by omega
     repeat (first | refine p1 ?_ | refine p2 ?_ | refine p3 ?_ | refine p4 ?_)
     refine GO hrg rfl ?_
     refine GO (bareS 2) rfl ?_
     repeat (first | refine p1 ?_ | refine p2 ?_ | refine p3 ?_ | refine p4 ?_)
     refine GO (sameNilP_rt.bt rfl) rfl ?_
     repeat (first | refine p1 ?_ | refine p2 ?_ | refine p3 ?_ | refine p4 ?_)
     refine JK.subBlk 4 [gi 2,gi 0,.sl 3 [],gi 3,.sl 1 [],.v (.pointer none),.v (.pointer none)] rfl (sv7 Sub.rfl (Sub.nil 3) (Sub.nil 1)) ?_
     refine JK.freezeB 4 rfl rfl ?_
     refine V ?_
     refine GO hfin rfl ?_
     refine GO (bareS 13) rfl ?_
     exact ⟨rfl,rfl⟩
    repeat (first | refine p1 ?_ | refine p2 ?_ | refine p3 ?_ | refine p4 ?_)
    refine GO hrg rfl ?_
    refine GO (bareS 2) rfl ?_
    repeat (first | refine p1 ?_ | refine p2 ?_ | refine p3 ?_ | refine p4 ?_)
    refine GO (sameNilP_rt.bt rfl) rfl ?_
    repeat (first | refine p1 ?_ | refine p2 ?_ | refine p3 ?_ | refine p4 ?_)
    refine JK.subBlk 4 [gi 2,gi 0,.sl 3 [],gi 3,.sl 1 [],.v (.pointer none),.v (.pointer none)] rfl (sv7 Sub.rfl (Sub.nil 3) (Sub.nil 1)) ?_
    refine JK.freezeB 4 rfl rfl ?_
    refine V ?_
    refine GO hfin rfl ?_
    refine GO (bareS 13) rfl ?_
    exact ⟨rfl,rfl⟩
   | ok a =>
    obtain ⟨pl,a2⟩:=a
    rw [hE] at hre
    refine GO hre rfl ?_
    by_cases c1 : t < -1099511627776
    rotate_left
    ·have c2 : 1099511627776 < t:=by omega
     repeat (first | refine p1 ?_ | refine p2 ?_ | refine p3 ?_ | refine p4 ?_)
     refine GO hrg rfl ?_
     refine GO (bareS 2) rfl ?_
     repeat (first | refine p1 ?_ | refine p2 ?_ | refine p3 ?_ | refine p4 ?_)
     refine GO (sameNilP_rt.bt rfl) rfl ?_
     repeat (first | refine p1 ?_ | refine p2 ?_ | refine p3 ?_ | refine p4 ?_)
     refine JK.subBlk 4 [gi 2,gi 0,.sl 3 [],gi 3,.sl 1 [],.v (.pointer none),.v (.pointer none)] rfl (sv7 Sub.rfl (Sub.nil 3) (Sub.nil 1)) ?_
     refine JK.freezeB 4 rfl rfl ?_
     refine V ?_
     refine GO hfin rfl ?_
     refine GO (bareS 13) rfl ?_
     exact ⟨rfl,rfl⟩
    repeat (first | refine p1 ?_ | refine p2 ?_ | refine p3 ?_ | refine p4 ?_)
    refine GO hrg rfl ?_
    refine GO (bareS 2) rfl ?_
    repeat (first | refine p1 ?_ | refine p2 ?_ | refine p3 ?_ | refine p4 ?_)
    refine GO (sameNilP_rt.bt rfl) rfl ?_
    repeat (first | refine p1 ?_ | refine p2 ?_ | refine p3 ?_ | refine p4 ?_)
    refine JK.subBlk 4 [gi 2,gi 0,.sl 3 [],gi 3,.sl 1 [],.v (.pointer none),.v (.pointer none)] rfl (sv7 Sub.rfl (Sub.nil 3) (Sub.nil 1)) ?_
    refine JK.freezeB 4 rfl rfl ?_
    refine V ?_
    refine GO hfin rfl ?_
    refine GO (bareS 13) rfl ?_
    exact ⟨rfl,rfl⟩
end Go.Proofs.YtkoalgjlkcaonaaGreatDoor
/-
  Arguments by their shapes: series.
-/
namespace Go.Proofs.YtkoalgjlkcaonaaGreatDoor
open Go.GK Go.PL
theorem lbl_list : ∀ (rows : List (List GV)),(∀ row ∈ rows,fitsL [.str,.str] row)→∃ l : List Lb,rows=l.map lb
 | [],_=>⟨[],rfl⟩
 | row :: rows,h=>by
  obtain ⟨l,rfl⟩:=lbl_list rows (fun r hr=>h r (by simp [hr]))
  have h0:=h row (by simp)
  simp only [fitsL,fits] at h0
  obtain ⟨_,_,rfl,⟨a,rfl,_⟩,_,_,rfl,⟨b,rfl,_⟩,rfl⟩:=h0
  exact ⟨⟨a,b⟩ :: l,rfl⟩
theorem sml_list : ∀ (rows : List (List GV)),(∀ row ∈ rows,fitsL [.int .i64,.int .i64] row)→∃ l : List Sm,rows=l.map sm∧V64 l
 | [],_=>⟨[],rfl,fun _ h=>by cases h⟩
 | row :: rows,h=>by
  obtain ⟨l,rfl,hl⟩:=sml_list rows (fun r hr=>h r (by simp [hr]))
  have h0:=h row (by simp)
  simp only [fitsL,fits] at h0
  obtain ⟨_,_,rfl,⟨a,rfl,_⟩,_,_,rfl,⟨b,rfl,hb⟩,rfl⟩:=h0
  refine ⟨⟨a,b⟩ :: l,rfl,fun x hx=>?_⟩
  rcases List.mem_cons.1 hx with rfl | hx
  ·have hb' : -9223372036854775808≤b∧b≤9223372036854775807:=by simpa [Lit.wf,IntKind.min,IntKind.max,IntKind.signed,IntKind.bits] using hb
   exact hb'
  ·exact hl x hx
theorem ser_list : ∀ (rows : List (List GV)),(∀ row ∈ rows,fitsL [.slice [.str,.str],.slice [.int .i64,.int .i64]] row)→∃ l : List Ser,rows=l.map se∧∀ x ∈ l,V64 x.samples
 | [],_=>⟨[],rfl,fun _ h=>by cases h⟩
 | row :: rows,h=>by
  obtain ⟨l,rfl,hl⟩:=ser_list rows (fun r hr=>h r (by simp [hr]))
  have h0:=h row (by simp)
  simp only [fitsL,fits] at h0
  obtain ⟨_,_,rfl,⟨a,rfl,ha⟩,_,_,rfl,⟨b,rfl,hb⟩,rfl⟩:=h0
  obtain ⟨la,rfl⟩:=lbl_list a ha
  obtain ⟨lb',rfl,hV⟩:=sml_list b hb
  refine ⟨⟨la,lb'⟩ :: l,rfl,fun x hx=>?_⟩
  rcases List.mem_cons.1 hx with rfl | hx
  ·exact hV
  ·exact hl x hx
end Go.Proofs.YtkoalgjlkcaonaaGreatDoor
/-
  A law's contract, as the row asks for it.
-/
namespace Go.Proofs.YtkoalgjlkcaonaaGreatDoor
open Go.GK
theorem of_rt {f : FuncId} {gs : List GV} (h : Rt pg f gs (.b true)) : Ct pg f 0 gs [] (Val fun g=>g=.b true):=by
 exact h.ct.weak fun g σ' n' hq=>⟨id,g,[],0,⟨hq.1.1,rfl,rfl⟩,(ren_id g).symm,trivial,by simp [hq.1.2,idbH,hids,distB,fixB]⟩
end Go.Proofs.YtkoalgjlkcaonaaGreatDoor
/-
  Package-level variables as rows list them: tables of integers and of texts, errors, each by what is laid.
-/
namespace Go.GK
open Go.ChangeShapes Go.WideShapes
def VarOk (W : World) (g : Nat) (gv : GV) : Prop:=∀ H : Hid,H.ro=roOf W→IsR H.ro gv (.pointer (some ⟨g,0,none⟩))∧∀ cs,gv=.r cs→∃ c ty fz,H.ro g=some (.cells c ty fz)∧c.size=cs.length
theorem look_mem : ∀ {l : Env} {g : Nat} {gv : GV},look l g=some gv→(g,gv) ∈ l
 | [],_,_,h=>by simp [look] at h
 | (g',x) :: l,g,gv,h=>by
  unfold look at h
  cases hb : Nat.beq g' g with
  | true =>
   rw [hb] at h
   simp only [cond_true,Option.some.injEq] at h
   subst h
   have:=Nat.eq_of_beq_eq_true hb
   subst this
   exact List.mem_cons_self
  | false =>
   rw [hb] at h
   exact List.mem_cons_of_mem _ (look_mem h)
theorem GlOk.of_vars {p : Pg} {W : World} (h : ∀ x ∈ p.gl,VarOk W x.1 x.2) : ∀ H : Hid,H.ro=roOf W→GlOk p H:=fun H hro =>
 ⟨fun g gv hl=>(h _ (look_mem hl) H hro).1,fun g cs hl=>(h _ (look_mem hl) H hro).2 cs rfl⟩
theorem VarOk.of_vals {P : Program} {W : World} {n : String} {g : Nat} {cs : Array Value} {vs : List Value} (hg : P.globalNamed n=some g) (hv : W.var? P n=some cs) (h : cs.toList=vs) : VarOk W g (.r (vs.map .v)):=by
 intro H hro
 have hc : ∀ i,W.cell? ⟨g,i,none⟩=vs[i]?:=fun i=>by
  rw [World.var?_cell hg hv i,← h]
  simp
 refine ⟨?_,fun cs' he=>?_⟩
 ·refine .r (fun j=>(vs[j]?).getD undef) (fun j gv hj=>?_) (fun j gv hj=>?_)
  ·rw [hro,addr_add_none,Nat.zero_add]
   have hj' : j < vs.length:=by have:=(List.getElem?_eq_some_iff.1 hj).1; simpa using this
   have:=hc j
   rw [List.getElem?_eq_getElem hj'] at this ⊢
   exact this
  ·have hj' : j < vs.length:=by have:=(List.getElem?_eq_some_iff.1 hj).1; simpa using this
   rw [List.getElem?_map,List.getElem?_eq_getElem hj'] at hj
   simp only [Option.map_some,Option.some.injEq] at hj
   subst hj
   rw [List.getElem?_eq_getElem hj']
   exact .v _
 ·cases he
  have hv':=hv
  simp only [World.var?,hg,Option.bind_some] at hv'
  rw [hro]
  unfold roOf
  cases ho : W.heap[g]? with
  | none=>rw [ho] at hv'; cases hv'
  | some o =>
   rw [ho] at hv'
   cases o with
   | cells c ty fz =>
    simp only [Option.some.injEq] at hv'
    subst hv'
    exact ⟨_,ty,fz,rfl,by rw [List.length_map,← h]; simp⟩
   | _=>cases hv'
theorem arr_strs {Hh : Type} {enc : TypeId × Value→Hh} {P : Program} {w : World} {base : Nat} {spare : Nat→Bool} {held : Bool} {n : Nat} {t e : TypeId} (ht : P.underlying t=some (.array n e)) (he : P.underlying e=some .string) (hc : P.cellsOf e=1) {zs : List (List UInt8)} (hz : zs.length=n) (hct : P.cellsOf t=n) {fuel : Nat} {cs : List Value} {ps : List MemPlace}
  (h : DataW.trod enc P w base spare held fuel t cs=some (.agg (zs.map fun z=>.lit (.string z)),ps)) : cs=zs.map fun z=>Value.string ⟨z.toArray⟩:=by
 obtain ⟨xs,m1,_,hx,hlen,hn,hel⟩:=DataW.trod_array ht h
 simp only [Prod.mk.injEq,DataW.agg.injEq] at hx
 rw [hct] at hlen
 refine List.ext_getElem (by simp; omega) fun i h1 h2=>?_
 have hi : i < xs.length:=by omega
 have:=hel i (by omega)
 rw [hc,Nat.mul_one,List.getElem?_eq_getElem hi] at this
 obtain ⟨m,e1,e2,_⟩:=DataW.trod_string he this
 have e3 : (cs.drop i).take 1=[cs[i]]:=by rw [List.drop_eq_getElem_cons h1]; rfl
 rw [e3] at e1
 have e4 : (zs.map fun z=>DataW.lit (H:=Hh) (.string z))[i]?=(xs.map (·.1))[i]?:=by rw [hx.1]
 rw [List.getElem?_map,List.getElem?_map,List.getElem?_eq_getElem hi,List.getElem?_eq_getElem (by omega),e2] at e4
 simp only [Option.map_some,Option.some.injEq,DataW.lit.injEq,Lit.string.injEq] at e4
 rw [List.getElem_map,e4]
 have e5 : (⟨m.data.toList.toArray⟩ : ByteArray)=m:=by cases m; simp
 rw [e5]
 simpa using e1
section
variable {P : Program} {W : World} {n : String} {g : Nat} {t : TypeId}
theorem VarOk.ints {k : IntKind} {e : TypeId} {zs : List Int} (h : laidMet P [(n,.agg (zs.map fun z=>.lit (.int k z)))] W) (hg : P.globalNamed n=some g) (hty : (P.globals[g]?).map (·.type)=some t) (ht : P.underlying t=some (.array zs.length e)) (he : P.underlying e=some (.int k)) (hc : P.cellsOf e=1) (hct : P.cellsOf t=zs.length) :
  VarOk W g (.r ((zs.map (Value.int k)).map .v)):=by
 obtain ⟨ps,⟨g0,t0,cs0,f0,p0,q0,hg0,ht0,hv0,hd0,_,_⟩,_,_⟩:=h
 obtain rfl:=Option.some.inj (hg.symm.trans hg0)
 obtain rfl:=Option.some.inj (hty.symm.trans ht0)
 exact .of_vals hg hv0 (arr_ints ht he hc rfl hct hd0)
theorem VarOk.strs {e : TypeId} {zs : List (List UInt8)} (h : laidMet P [(n,.agg (zs.map fun z=>.lit (.string z)))] W) (hg : P.globalNamed n=some g) (hty : (P.globals[g]?).map (·.type)=some t) (ht : P.underlying t=some (.array zs.length e)) (he : P.underlying e=some .string) (hc : P.cellsOf e=1) (hct : P.cellsOf t=zs.length) :
  VarOk W g (.r ((zs.map fun z=>Value.string ⟨z.toArray⟩).map .v)):=by
 obtain ⟨ps,⟨g0,t0,cs0,f0,p0,q0,hg0,ht0,hv0,hd0,_,_⟩,_,_⟩:=h
 obtain rfl:=Option.some.inj (hg.symm.trans hg0)
 obtain rfl:=Option.some.inj (hty.symm.trans ht0)
 exact .of_vals hg hv0 (arr_strs ht he hc rfl hct hd0)
theorem VarOk.two {k0 k1 : IntKind} {f0 f1 : Field} {a b : Int} (h : laidMet P [(n,.agg [.lit (.int k0 a),.lit (.int k1 b)])] W) (hg : P.globalNamed n=some g) (hty : (P.globals[g]?).map (·.type)=some t) (ht : P.underlying t=some (.struct #[f0,f1])) (he0 : P.underlying f0.type=some (.int k0)) (he1 : P.underlying f1.type=some (.int k1)) (hc0 : P.cellsOf f0.type=1) (hc1 : P.cellsOf f1.type=1) (hct : P.cellsOf t=2) (ho0 : f0.offset=0) (ho1 : f1.offset=1) :
  VarOk W g (.r [.v (.int k0 a),.v (.int k1 b)]):=by
 obtain ⟨ps,⟨g0,t0,cs0,fu,p0,q0,hg0,ht0,hv0,hd0,_,_⟩,_,_⟩:=h
 obtain rfl:=Option.some.inj (hg.symm.trans hg0)
 obtain rfl:=Option.some.inj (hty.symm.trans ht0)
 obtain ⟨y0,y1,m,hx,hl,h0,h1⟩:=trod_struct2 ht hd0
 obtain ⟨a',ha,rfl,_⟩:=DataW.trod_int he0 h0
 obtain ⟨b',hb,rfl,_⟩:=DataW.trod_int he1 h1
 rw [hct] at hl
 rw [hc0,ho0] at ha
 rw [hc1,ho1] at hb
 simp only [Prod.mk.injEq,DataW.agg.injEq,List.cons.injEq,DataW.lit.injEq,Lit.int.injEq,true_and,and_true] at hx
 obtain ⟨⟨rfl,rfl⟩,_⟩:=hx
 refine VarOk.of_vals (vs:=[.int k0 a,.int k1 b]) hg hv0 ?_
 match hcs : cs0.toList,hl with
 | [u,v],_ =>
  rw [hcs] at ha hb
  simp at ha hb
  rw [ha,hb]
theorem VarOk.err {ms : Array (String × TypeId)} {tp te ts : TypeId} {f : Field} {nm : String} {text : List UInt8} (h : laidMet P [(n,.iface nm (.ptr (.agg [.lit (.string text)])))] W) (hg : P.globalNamed n=some g) (hty : (P.globals[g]?).map (·.type)=some t) (hi : P.underlying t=some (.interface ms)) (hrow : ∀ u,P.typeName? 3 u=some nm→u=tp)
  (hp : P.underlying tp=some (.pointer te)) (he : P.underlying te=some (.struct #[f])) (hft : f.type=ts) (hfo : f.offset=0) (hs : P.underlying ts=some .string) (hc : P.cellsOf te=1) (hcs : P.cellsOf ts=1) :
  VarOk W g (.r [.ifc tp (.r [.v (.string ⟨text.toArray⟩)])]):=by
 obtain ⟨a,s,hv,hcell,htx,_⟩:=laid_sentinel h hg hty hi hrow hp he hft hfo hs hc hcs
 have hsx : (⟨text.toArray⟩ : ByteArray)=s:=by rw [← htx]
 rw [hsx]
 intro H hro
 refine ⟨?_,fun cs' hcs'=>?_⟩
 ·refine .r (fun _=>.iface tp (.pointer (some a))) (fun j gv hj=>?_) (fun j gv hj=>?_)
  ·cases j with
   | zero =>
    rw [hro]
    have:=World.var?_cell hg hv 0
    exact this
   | succ j=>simp at hj
  ·cases j with
   | zero =>
    simp at hj
    subst hj
    refine .ifc (.r (fun _=>.string s) (fun j gv hj=>?_) (fun j gv hj=>?_))
    ·cases j with
     | zero =>
      rw [hro]
      exact hcell
     | succ j=>simp at hj
    ·cases j with
     | zero=>simp at hj; subst hj; exact .v _
     | succ j=>simp at hj
   | succ j=>simp at hj
 ·cases hcs'
  have:=(VarOk.of_vals hg hv rfl H hro).2 _ rfl
  simpa using this
end
end Go.GK
/-
  What the row of this seat lists, as the walk reads it; the world that holds it.
-/
namespace Go.Proofs.YtkoalgjlkcaonaaGreatDoor
open Go.GK Go.ChangeShapes Go.WideShapes Go.RowKit

abbrev rowLaid : List (String × DataW Unit) := [("math/bits.deBruijn32tab", Rows.laid_math_bits_deBruijn32tab), ("math/bits.deBruijn64tab", Rows.laid_math_bits_deBruijn64tab), ("internal/strconv.uint64pow10", Rows.laid_internal_strconv_uint64pow10), ("unicode/utf8.acceptRanges", Rows.laid_unicode_utf8_acceptRanges), ("errors.errorType", Rows.laid_errors_errorType), ("strconv.ErrRange", Rows.laid_strconv_ErrRange), ("strconv.ErrSyntax", Rows.laid_strconv_ErrSyntax), ("raingauge/ask.marks", Rows.laid_raingauge_ask_marks), ("raingauge/ask.ops", Rows.laid_raingauge_ask_ops), ("raingauge/ask.overs", Rows.laid_raingauge_ask_overs), ("raingauge/ask.alls", Rows.laid_raingauge_ask_alls), ("raingauge/raingaugeref.Fine", Rows.laid_raingauge_raingaugeref_Fine), ("unicode/utf8.first", Rows.laid_unicode_utf8_first)]
abbrev plainLaid : List (String × DataW Unit) := [("math/bits.deBruijn32tab", Rows.laid_math_bits_deBruijn32tab), ("math/bits.deBruijn64tab", Rows.laid_math_bits_deBruijn64tab), ("internal/strconv.uint64pow10", Rows.laid_internal_strconv_uint64pow10), ("unicode/utf8.acceptRanges", Rows.laid_unicode_utf8_acceptRanges), ("strconv.ErrRange", Rows.laid_strconv_ErrRange), ("strconv.ErrSyntax", Rows.laid_strconv_ErrSyntax), ("raingauge/ask.marks", Rows.laid_raingauge_ask_marks), ("raingauge/ask.ops", Rows.laid_raingauge_ask_ops), ("raingauge/ask.overs", Rows.laid_raingauge_ask_overs), ("raingauge/ask.alls", Rows.laid_raingauge_ask_alls), ("raingauge/raingaugeref.Fine", Rows.laid_raingauge_raingaugeref_Fine), ("unicode/utf8.first", Rows.laid_unicode_utf8_first)]
theorem own : ownKnob Tryz.prog.godebug=none:=by kernel_rfl
theorem laidOut : laidOutB Tryz.prog=true:=by kernel_rfl
theorem gErr : Tryz.prog.globalNamed "errors.errorType" = some 6 := by kernel_rfl
theorem rtErr : (Tryz.prog.cutTypes.find? (·.1 == "internal/reflectlite.rtype")).map (·.2) = some 201 := by kernel_rfl
theorem oneRow : ((List.range 285).filter fun t=>Tryz.prog.rowNamed t [101,114,114,111,114])=[42]:=by kernel_rfl
theorem typesSize : Tryz.prog.types.size=285:=by kernel_rfl
theorem handle_ok {W : World} (h : handlesMet Tryz.prog [("errors.errorType", Rows.laid_errors_errorType)] W) : VarOk W 6 (.r [.v rtV]) := by
 obtain ⟨name,u,ty,e1,e2,e3,e4,e5⟩:=h _ (List.mem_singleton.2 rfl)
 have en : name=[101,114,114,111,114]:=(Option.some.inj e1).symm
 subst en
 obtain rfl:=Option.some.inj (rtErr.symm.trans e2)
 have hm : ty ∈ (List.range 285).filter fun t=>Tryz.prog.rowNamed t [101,114,114,111,114]:=List.mem_filter.2 ⟨List.mem_range.2 (by rw [← typesSize]; exact e3),e4⟩
 rw [oneRow] at hm
 obtain rfl:=List.mem_singleton.1 hm
 have hh : typeHandle Tryz.prog 42=.pointer (some ⟨14,42,none⟩):=by kernel_rfl
 rw [hh] at e5
 exact VarOk.of_vals gErr e5 rfl
theorem star_err : "*" ++ "errors.errorString" = "*errors.errorString" := by decide
theorem row_err (u : TypeId) (h : Tryz.prog.typeName? 3 u = some "*errors.errorString") : u = 242 :=
 typeName_ptr_named (nm := "errors.errorString") (by rw [star_err]; kernel_rfl) (by kernel_rfl) (by decide) u (by rw [star_err]; exact h)
theorem v_raingauge_raingaugeref_Fine {W : World} (h : laidMet Tryz.prog [("raingauge/raingaugeref.Fine", Rows.laid_raingauge_raingaugeref_Fine)] W) : VarOk W 0 (.r [.v (.int .i64 0), .v (.int .i64 (-1))]) :=
 VarOk.two (t := 55) (n := "raingauge/raingaugeref.Fine") h (by kernel_rfl) (by kernel_rfl) Tryz.underlying55 (by kernel_rfl) (by kernel_rfl) (by kernel_rfl) (by kernel_rfl) (by kernel_rfl) rfl rfl
theorem v_raingauge_ask_marks {W : World} (h : laidMet Tryz.prog [("raingauge/ask.marks", Rows.laid_raingauge_ask_marks)] W) : VarOk W 1 (.r [.v (.string ⟨#[33, 61]⟩), .v (.string ⟨#[94, 61]⟩), .v (.string ⟨#[33, 94]⟩), .v (.string ⟨#[61]⟩), .v (.string ⟨#[123]⟩), .v (.string ⟨#[125]⟩), .v (.string ⟨#[91]⟩), .v (.string ⟨#[93]⟩), .v (.string ⟨#[40]⟩), .v (.string ⟨#[41]⟩), .v (.string ⟨#[44]⟩), .v (.string ⟨#[43]⟩), .v (.string ⟨#[45]⟩), .v (.string ⟨#[42]⟩), .v (.string ⟨#[47]⟩)]) :=
 VarOk.strs (t := 127) (e := 9) (n := "raingauge/ask.marks") (zs := [[33, 61], [94, 61], [33, 94], [61], [123], [125], [91], [93], [40], [41], [44], [43], [45], [42], [47]]) h (by kernel_rfl) (by kernel_rfl) (by kernel_rfl) (by kernel_rfl) (by kernel_rfl) (by kernel_rfl)
theorem v_raingauge_ask_ops {W : World} (h : laidMet Tryz.prog [("raingauge/ask.ops", Rows.laid_raingauge_ask_ops)] W) : VarOk W 2 (.r [.v (.string ⟨#[61]⟩), .v (.string ⟨#[33, 61]⟩), .v (.string ⟨#[94, 61]⟩), .v (.string ⟨#[33, 94]⟩)]) :=
 VarOk.strs (t := 137) (e := 9) (n := "raingauge/ask.ops") (zs := [[61], [33, 61], [94, 61], [33, 94]]) h (by kernel_rfl) (by kernel_rfl) (by kernel_rfl) (by kernel_rfl) (by kernel_rfl) (by kernel_rfl)
theorem v_raingauge_ask_overs {W : World} (h : laidMet Tryz.prog [("raingauge/ask.overs", Rows.laid_raingauge_ask_overs)] W) : VarOk W 4 (.r [.v (.string ⟨#[99, 111, 117, 110, 116]⟩), .v (.string ⟨#[115, 117, 109]⟩), .v (.string ⟨#[109, 105, 110]⟩), .v (.string ⟨#[109, 97, 120]⟩), .v (.string ⟨#[100, 101, 108, 116, 97]⟩)]) :=
 VarOk.strs (t := 192) (e := 9) (n := "raingauge/ask.overs") (zs := [[99, 111, 117, 110, 116], [115, 117, 109], [109, 105, 110], [109, 97, 120], [100, 101, 108, 116, 97]]) h (by kernel_rfl) (by kernel_rfl) (by kernel_rfl) (by kernel_rfl) (by kernel_rfl) (by kernel_rfl)
theorem v_raingauge_ask_alls {W : World} (h : laidMet Tryz.prog [("raingauge/ask.alls", Rows.laid_raingauge_ask_alls)] W) : VarOk W 5 (.r [.v (.string ⟨#[116, 111, 116, 97, 108]⟩), .v (.string ⟨#[108, 101, 97, 115, 116]⟩), .v (.string ⟨#[109, 111, 115, 116]⟩), .v (.string ⟨#[109, 97, 110, 121]⟩)]) :=
 VarOk.strs (t := 137) (e := 9) (n := "raingauge/ask.alls") (zs := [[116, 111, 116, 97, 108], [108, 101, 97, 115, 116], [109, 111, 115, 116], [109, 97, 110, 121]]) h (by kernel_rfl) (by kernel_rfl) (by kernel_rfl) (by kernel_rfl) (by kernel_rfl) (by kernel_rfl)
theorem v_strconv_ErrRange {W : World} (h : laidMet Tryz.prog [("strconv.ErrRange", Rows.laid_strconv_ErrRange)] W) : VarOk W 10 (.r [.ifc 242 (.r [.v (.string ⟨#[118, 97, 108, 117, 101, 32, 111, 117, 116, 32, 111, 102, 32, 114, 97, 110, 103, 101]⟩)])]) :=
 VarOk.err (t := 42) (n := "strconv.ErrRange") (text := [118, 97, 108, 117, 101, 32, 111, 117, 116, 32, 111, 102, 32, 114, 97, 110, 103, 101]) h (by kernel_rfl) (by kernel_rfl) Tryz.underlying42 row_err Tryz.underlying242 Tryz.underlying244 rfl rfl Tryz.underlying9 (by kernel_rfl) (by kernel_rfl)
theorem v_strconv_ErrSyntax {W : World} (h : laidMet Tryz.prog [("strconv.ErrSyntax", Rows.laid_strconv_ErrSyntax)] W) : VarOk W 9 (.r [.ifc 242 (.r [.v (.string ⟨#[105, 110, 118, 97, 108, 105, 100, 32, 115, 121, 110, 116, 97, 120]⟩)])]) :=
 VarOk.err (t := 42) (n := "strconv.ErrSyntax") (text := [105, 110, 118, 97, 108, 105, 100, 32, 115, 121, 110, 116, 97, 120]) h (by kernel_rfl) (by kernel_rfl) Tryz.underlying42 row_err Tryz.underlying242 Tryz.underlying244 rfl rfl Tryz.underlying9 (by kernel_rfl) (by kernel_rfl)
theorem v_internal_strconv_uint64pow10 {W : World} (h : laidMet Tryz.prog [("internal/strconv.uint64pow10", Rows.laid_internal_strconv_uint64pow10)] W) : VarOk W 11 (.r [.v (.int .u64 1), .v (.int .u64 10), .v (.int .u64 100), .v (.int .u64 1000), .v (.int .u64 10000), .v (.int .u64 100000), .v (.int .u64 1000000), .v (.int .u64 10000000), .v (.int .u64 100000000), .v (.int .u64 1000000000), .v (.int .u64 10000000000), .v (.int .u64 100000000000), .v (.int .u64 1000000000000), .v (.int .u64 10000000000000), .v (.int .u64 100000000000000), .v (.int .u64 1000000000000000), .v (.int .u64 10000000000000000), .v (.int .u64 100000000000000000), .v (.int .u64 1000000000000000000), .v (.int .u64 10000000000000000000)]) :=
 VarOk.ints (t := 252) (e := 153) (n := "internal/strconv.uint64pow10") (k := .u64) (zs := [1, 10, 100, 1000, 10000, 100000, 1000000, 10000000, 100000000, 1000000000, 10000000000, 100000000000, 1000000000000, 10000000000000, 100000000000000, 1000000000000000, 10000000000000000, 100000000000000000, 1000000000000000000, 10000000000000000000]) h (by kernel_rfl) (by kernel_rfl) (by kernel_rfl) (by kernel_rfl) (by kernel_rfl) (by kernel_rfl)
theorem gl_okH {W : World} (hL : laidMetH Tryz.prog rowLaid W) : ∀ H : Hid,H.ro=roOf W→GlOk pg H:=by
 have hL' : laidMet Tryz.prog plainLaid W ∧ handlesMet Tryz.prog [("errors.errorType", Rows.laid_errors_errorType)] W := hL
 obtain ⟨h,hE⟩:=hL'
 replace hE:=handle_ok hE
 refine GlOk.of_vars ?_
 show ∀ x ∈ gl,VarOk W x.1 x.2
 unfold gl
 refine List.forall_mem_cons.2 ⟨v_raingauge_raingaugeref_Fine (h.filter fun x => x.1 == "raingauge/raingaugeref.Fine"), ?_⟩
 refine List.forall_mem_cons.2 ⟨v_raingauge_ask_marks (h.filter fun x => x.1 == "raingauge/ask.marks"), ?_⟩
 refine List.forall_mem_cons.2 ⟨v_raingauge_ask_ops (h.filter fun x => x.1 == "raingauge/ask.ops"), ?_⟩
 refine List.forall_mem_cons.2 ⟨v_raingauge_ask_overs (h.filter fun x => x.1 == "raingauge/ask.overs"), ?_⟩
 refine List.forall_mem_cons.2 ⟨v_raingauge_ask_alls (h.filter fun x => x.1 == "raingauge/ask.alls"), ?_⟩
 refine List.forall_mem_cons.2 ⟨v_strconv_ErrRange (h.filter fun x => x.1 == "strconv.ErrRange"), ?_⟩
 refine List.forall_mem_cons.2 ⟨v_strconv_ErrSyntax (h.filter fun x => x.1 == "strconv.ErrSyntax"), ?_⟩
 refine List.forall_mem_cons.2 ⟨v_internal_strconv_uint64pow10 (h.filter fun x => x.1 == "internal/strconv.uint64pow10"), ?_⟩
 refine List.forall_mem_cons.2 ⟨hE,?_⟩
 exact fun x hx=>by cases hx
noncomputable def wit (os : Os) : World:=(World.doorLaid Tryz.prog 400 os).layVars Tryz.prog plainLaid
theorem wit_os (os : Os) : (wit os).os=os:=World.layVars_os _ _ _
theorem wit_fits (os : Os) : (World.doorLaid Tryz.prog 400 os).layFits Tryz.prog plainLaid []=true:=by kernel_rfl
theorem wit_ifaces (os : Os) : (World.doorLaid Tryz.prog 400 os).layIfaces Tryz.prog plainLaid (wit os)=true:=by kernel_rfl
theorem wit_handle (os : Os) (args : Array Value) : (rowLaid.filter fun x=>x.2.handleName?.isSome).all (handleAtB Tryz.prog ((wit os).forCall (fun _ _=>0) ⟨#[],args,[]⟩).memory)=true:=by kernel_rfl
theorem wit_shaped (os : Os) (args : Array Value) : ((wit os).forCall (fun _ _=>0) ⟨#[],args,[]⟩).Shaped Tryz.prog:=World.shaped_of_ZipB (by kernel_rfl) (by kernel_rfl)
theorem wit_met (os : Os) (args : Array Value) : laidMetH Tryz.prog rowLaid ((wit os).forCall (fun _ _=>0) ⟨#[],args,[]⟩).memory:=by
 have e1 : (plainLaid.filter fun x=>(plainLaid.map (·.1)).contains x.1)=plainLaid:=List.filter_eq_self.2 fun x hx=>List.contains_iff_mem.2 (List.mem_map.2 ⟨x,hx,rfl⟩)
 have e2 : (plainLaid.filter fun x=>!(plainLaid.map (·.1)).contains x.1)=[]:=List.filter_eq_nil_iff.2 fun x hx=>by rw [List.contains_iff_mem.2 (List.mem_map.2 ⟨x,hx,rfl⟩)]; simp
 have h : laidMet Tryz.prog plainLaid (wit os):=laidMet_layVars (w0:=World.doorLaid Tryz.prog 400 os) (plainLaid.map (·.1)) [] (by rw [e1]; rfl) (by rw [e1]; exact wit_fits os) (by rw [e1]; exact wit_ifaces os) (by rw [e2]; exact LaidIn.none)
 have h' : laidMet Tryz.prog plainLaid ((wit os).forCall (fun _ _=>0) ⟨#[],args,[]⟩).memory:=h.of_heap (by simp [World.memory,World.forCall,Input.heap])
 exact laidMetH_of_parts h' (wit_handle os args)
end Go.Proofs.YtkoalgjlkcaonaaGreatDoor
