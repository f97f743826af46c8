/-
  Plain laws: the document's reader of questions: matchers. No program is in sight.
-/
import Derived.Test.YtkoalgjlkcaonaaGreatDoorK11
import Derived.Test.YtkoalgjlkcaonaaGreatDoorK08
import Derived.Test.YtkoalgjlkcaonaaGreatDoorK10
set_option linter.unusedSimpArgs false
namespace Go.PL
open Go Go.GK

theorem isP_takes {l : List Tok} (hE : ToksOk l) {s : ByteArray} (hs : s ≠ ⟨#[]⟩) : isP s l=takesP s l:=by
 obtain ⟨t,r,rfl⟩:=hE.cons
 rw [takesP]
 cases h : isP s (t :: r) with
 | false=>rfl
 | true =>
  have h5 : t.kind ≠ 5:=by
   intro h5
   rw [isP,Bool.and_eq_true,sEq_iff] at h
   rcases (hE.each t List.mem_cons_self).1 with h' | ⟨_,h'⟩
   ·rcases h' with ⟨h',_⟩ | ⟨h',_⟩ | ⟨h',_⟩ | ⟨h',_⟩ <;> omega
   ·exact hs (by rw [← h.1]; exact h')
  show true=(true && decide (t.kind ≠ 5))
  rw [decide_eq_true h5]
  rfl
theorem find_takes {l : List Tok} (hE : ToksOk l) : ∀ {L : List ByteArray},(∀ s ∈ L,s ≠ ⟨#[]⟩)→(L.findIdx? fun s=>isP s l)=L.findIdx? fun s=>takesP s l
 | [],_=>rfl
 | s :: L,h=>by
  rw [List.findIdx?_cons,List.findIdx?_cons,isP_takes hE (h s List.mem_cons_self),find_takes hE fun x hx=>h x (List.mem_cons_of_mem _ hx)]
theorem find_see {l : List Tok} (hE : ToksOk l) {L : List ByteArray} (h : ∀ s ∈ L,s ≠ ⟨#[]⟩) : (L.findIdx? fun s=>rsee s (goodR l))=L.findIdx? fun s=>isP s l:=by
 rw [find_takes hE h]
 congr 1
 exact funext fun s=>rsee_good hE s
theorem ops_some : ∀ s ∈ opsL,s ≠ ⟨#[]⟩:=by decide
theorem overs_some : ∀ s ∈ oversL,s ≠ ⟨#[]⟩:=by decide
theorem alls_some : ∀ s ∈ allsL,s ≠ ⟨#[]⟩:=by decide
theorem find_bad {r : Rd} (h : r.ok=false) (L : List ByteArray) : (L.findIdx? fun s=>rsee s r)=none:=by
 rw [List.findIdx?_eq_none_iff]
 exact fun s _=>rsee_bad h s
theorem rkind_ok {k : Int} {r : Rd} (h : (rkind k r).2.ok=true) : (hdT r.l).kind=k∧(rkind k r).1=(hdT r.l).text:=by
 by_cases h1 : (rkind1 k r).ok=true
 ·refine ⟨?_,by rw [rkind,if_pos h1]⟩
  refine Classical.byContradiction fun hk=>?_
  rw [rkind1,if_neg hk] at h1
  unfold rfail at h1
  cases hr : r.ok with
  | true=>rw [hr,if_pos rfl] at h1; simp [Rd.ok] at h1
  | false=>rw [hr,if_neg Bool.false_ne_true,hr] at h1; cases h1
 ·rw [rkind,if_neg h1] at h
  exact absurd h h1
def rops (r : Rd) : Int × Rd:=match opsL.findIdx? (fun s=>rsee s r) with
 | some k=>(k,rtail r)
 | none=>(-1,r)
def rop5 (r : Rd) : Rd:=if (rops r).1 < 0 then rfail 3 (rops r).2 else (rops r).2
def rsays (s : ByteArray) : ByteArray:=s.extract 1 (s.size - 1)
def rval (p : Int) (s : ByteArray) (r : Rd) : Rd:=if valueF (rsays s) then r else ⟨r.l,4,p⟩
def rrest (n : ByteArray) (r : Rd) : Mt × Rd :=
 if (rkind 3 (rop5 r)).2.ok then (⟨n,(rops r).1,rsays (rkind 3 (rop5 r)).1⟩,rval (hdT (rop5 r).l).pos (rkind 3 (rop5 r)).1 (rkind 3 (rop5 r)).2)
 else (⟨n,(rops r).1,⟨#[]⟩⟩,(rkind 3 (rop5 r)).2)
def rmatcher (r : Rd) : Mt × Rd:=rrest (rname r).1 (rname r).2
theorem rops_bad {r : Rd} (h : r.ok=false) : rops r=(-1,r):=by rw [rops,find_bad h]
theorem rop5_bad {r : Rd} (h : r.ok=false) : rop5 r=r:=by rw [rop5,rops_bad h]; exact rfail_bad h 3
theorem rrest_bad {r : Rd} (h : r.ok=false) (n : ByteArray) : (rrest n r).2=r:=by
 rw [rrest,rop5_bad h,rkind_bad h,if_neg (by rw [h]; exact Bool.false_ne_true)]
theorem rmatcher_bad {r : Rd} (h : r.ok=false) : (rmatcher r).2=r:=by rw [rmatcher,rname_bad h,rrest_bad h]
theorem Agr.bad {α : Type} {e p : Int} {a : α} {r : Rd} (h : Agr (.error (e,p)) a r) : r.ok=false:=h.2.2
theorem rmatcher_good {l : List Tok} (hE : ToksOk l) : Agr (matcherP l) (rmatcher (goodR l)).1 (rmatcher (goodR l)).2:=by
 have h1:=rname_good l
 rw [matcherP,rmatcher]
 cases hn : nameP l with
 | error ep =>
  rw [hn] at h1
  rw [rrest_bad h1.bad]
  exact h1
 | ok v =>
  obtain ⟨n,l1⟩:=v
  rw [hn] at h1
  obtain ⟨hE1⟩ : True:=trivial
  obtain ⟨_,_,hE1⟩:=nameP_wt hn hE
  simp only
  rw [h1.1,h1.2,rrest]
  have hf:=find_see hE1 ops_some
  have hro : rops (goodR l1)=match opsL.findIdx? (fun s=>isP s l1) with | some k=>((k : Int),rtail (goodR l1)) | none=>(-1,goodR l1):=by rw [rops,hf]
  cases hk : opsL.findIdx? fun s=>isP s l1 with
  | none =>
   rw [hk] at hro
   simp only at hro
   have h5 : rop5 (goodR l1)=rfail 3 (goodR l1):=by rw [rop5,hro]; rfl
   have hno:=rfail_not (e:=3) (by decide) l1
   simp only
   rw [h5,rkind_bad hno,if_neg (by rw [hno]; exact Bool.false_ne_true)]
   exact Agr.fail (by decide) l1 _
  | some k =>
   rw [hk] at hro
   simp only at hro
   have h5 : rop5 (goodR l1)=rtail (goodR l1):=by rw [rop5,hro]; exact if_neg (by show ¬ (k : Int) < 0; omega)
   simp only
   obtain ⟨hk1,hk2⟩:=find_isP hk
   have ht : takesP (opsL.getD k ⟨#[]⟩) l1=true:=by
    rw [← isP_takes hE1 (by
     rw [List.getD_eq_getElem?_getD,List.getElem?_eq_getElem hk1]
     exact ops_some _ (List.getElem_mem hk1))]
    exact hk2
   rw [mustP,if_pos ht,h5]
   obtain ⟨t,l2,rfl,_,_,hE2⟩:=takesP_ok ht hE1
   have hg : rtail (goodR (t :: l2))=goodR l2:=rfl
   rw [hg]
   simp only [List.tail_cons]
   have h6:=rkind_good l2 3
   cases ha : anyP 3 l2 with
   | error ep =>
    rw [ha] at h6
    rw [if_neg (by rw [h6.bad]; exact Bool.false_ne_true)]
    exact h6
   | ok v =>
    obtain ⟨s,l3⟩:=v
    rw [ha] at h6
    rw [h6.2,if_pos (ok_good l3),h6.1,hro]
    simp only
    rw [rval,rsays]
    cases hv : valueF (s.extract 1 (s.size - 1)) with
    | true =>
     rw [if_pos rfl,if_pos rfl]
     exact ⟨rfl,rfl⟩
    | false =>
     rw [if_neg Bool.false_ne_true,if_neg Bool.false_ne_true]
     exact ⟨rfl,rfl,rfl⟩
theorem RdOk.op5 {r : Rd} (h : RdOk r) : RdOk (rop5 r)∧RdOk (rops r).2:=by
 have h1 : RdOk (rops r).2:=by
  rw [rops]
  cases hk : opsL.findIdx? (fun s=>rsee s r) with
  | none=>exact h
  | some k =>
   obtain ⟨h1,h2,_⟩:=List.findIdx?_eq_some_iff_getElem.1 hk
   exact h.tl (see_k h2)
 refine ⟨?_,h1⟩
 rw [rop5]
 split
 ·exact h1.fails (by decide)
 ·exact h1
theorem rrest_two (n : ByteArray) (r : Rd) : (rrest n r).2=(rkind 3 (rop5 r)).2∨∃ p s,(rrest n r).2=rval p s (rkind 3 (rop5 r)).2:=by
 by_cases h : (rkind 3 (rop5 r)).2.ok=true
 ·exact .inr ⟨(hdT (rop5 r).l).pos,(rkind 3 (rop5 r)).1,by rw [rrest,if_pos h]⟩
 ·exact .inl (by rw [rrest,if_neg h])
theorem rval_two (p : Int) (s : ByteArray) (r : Rd) : rval p s r=r∨rval p s r=⟨r.l,4,p⟩:=by
 unfold rval
 cases valueF (rsays s) with
 | true=>exact .inl rfl
 | false=>exact .inr rfl
theorem RdOk.matcher {r : Rd} (h : RdOk r) : RdOk (rmatcher r).2:=by
 have h1:=(h.name.op5.1).kind (k:=3) (by decide)
 rw [rmatcher]
 rcases rrest_two (rname r).1 (rname r).2 with e | ⟨p,s,e⟩
 ·rw [e]; exact h1
 ·rw [e]
  rcases rval_two p s (rkind 3 (rop5 (rname r).2)).2 with e | e
  ·rw [e]; exact h1
  ·rw [e]; exact ⟨h1.toks,fun h'=>by simp [Rd.ok] at h'⟩
theorem rops_len (r : Rd) : (rops r).2.l.length≤r.l.length:=by
 rw [rops]
 cases opsL.findIdx? (fun s=>rsee s r) with
 | none=>exact Nat.le_refl _
 | some k=>show (rtail r).l.length≤_; rw [rtail_len]; omega
theorem rop5_len (r : Rd) : (rop5 r).l.length≤r.l.length:=by
 rw [rop5]
 split
 ·rw [rfail_l]; exact rops_len r
 ·exact rops_len r
theorem rmatcher_len (r : Rd) : (rmatcher r).2.l.length≤r.l.length:=by
 have h1:=rname_len r
 have h2:=rop5_len (rname r).2
 have h3:=rkind_len 3 (rop5 (rname r).2)
 rw [rmatcher]
 rcases rrest_two (rname r).1 (rname r).2 with e | ⟨p,s,e⟩
 ·rw [e]; omega
 ·rw [e]
  rcases rval_two p s (rkind 3 (rop5 (rname r).2)).2 with e | e
  ·rw [e]; omega
  ·rw [e]
   show (rkind 3 (rop5 (rname r).2)).2.l.length≤_
   omega
theorem matcherP_less {l l' : List Tok} {m : Mt} (hE : ToksOk l) (h : matcherP l=.ok (m,l')) : l'.length < l.length:=by
 obtain ⟨t,r,rfl⟩:=hE.cons
 rw [matcherP] at h
 cases h1 : nameP (t :: r) with
 | error e=>rw [h1] at h; cases h
 | ok v =>
  obtain ⟨n,l1⟩:=v
  rw [h1] at h
  simp only at h
  obtain ⟨e1,hk⟩:=nameP_is h1
  cases e1
  have hE1:=hE.tail (by omega)
  cases h2 : opsL.findIdx? fun s=>isP s r with
  | none=>rw [h2] at h; cases h
  | some k =>
   rw [h2] at h
   simp only at h
   cases h3 : mustP (opsL.getD k ⟨#[]⟩) r with
   | error e=>rw [h3] at h; cases h
   | ok v =>
    obtain ⟨u,l2⟩:=v
    rw [h3] at h
    simp only at h
    have hl2 : l2.length≤r.length:=by
     by_cases hc : takesP (opsL.getD k ⟨#[]⟩) r=true
     ·rw [mustP,if_pos hc] at h3; cases h3; simp
     ·rw [mustP,if_neg hc] at h3; cases h3
    have hE2:=(mustP_ok h3 hE1).2
    cases h4 : anyP 3 l2 with
    | error e=>rw [h4] at h; cases h
    | ok v =>
     obtain ⟨s,l3⟩:=v
     rw [h4] at h
     simp only at h
     obtain ⟨t3,rfl,_,_,_⟩:=anyP_ok h4 (by decide) hE2
     by_cases hv : valueF (s.extract 1 (s.size - 1))=true
     ·rw [if_pos hv] at h
      cases h
      simp only [List.length_cons] at hl2 ⊢
      omega
     ·rw [if_neg hv] at h; cases h
def rcomma (k : Nat) (r : Rd) : Rd:=if k=0 then r else rmust (bS [44]) r
def rlim (k : Nat) (r : Rd) : Rd:=if k=8 then rfail 4 r else r
theorem RdOk.comma {r : Rd} (h : RdOk r) (k : Nat) : RdOk (rcomma k r):=by
 rw [rcomma]; split
 ·exact h
 ·exact h.must _
theorem RdOk.lim {r : Rd} (h : RdOk r) (k : Nat) : RdOk (rlim k r):=by
 rw [rlim]; split
 ·exact h.fails (by decide)
 ·exact h
theorem rcomma_len (k : Nat) (r : Rd) : (rcomma k r).l.length≤r.l.length:=by
 rw [rcomma]; split
 ·exact Nat.le_refl _
 ·exact rmust_len _ _
theorem rlim_len (k : Nat) (r : Rd) : (rlim k r).l.length≤r.l.length:=by
 rw [rlim]; split
 ·rw [rfail_l]; exact Nat.le_refl _
 ·exact Nat.le_refl _
def rround (acc : List Mt) (r : Rd) : Mt × Rd:=rmatcher (rlim acc.length (rcomma acc.length r))
theorem round_good {acc : List Mt} {l : List Tok} (hE : ToksOk l) (h8 : acc.length≤8) (hn : takesP (bS [125]) l=false) (f : Nat) :
  if (rround acc (goodR l)).2.ok=true then ∃ l',(rround acc (goodR l)).2=goodR l'∧ToksOk l'∧l'.length < l.length∧matchersL (f + 1) acc l=matchersL f (acc++[(rround acc (goodR l)).1]) l'
  else matchersL (f + 1) acc l=.error ((rround acc (goodR l)).2.e,(rround acc (goodR l)).2.p):=by
 have hM : matchersL (f + 1) acc l=(match (if acc.length=0 then .ok ((),l) else mustP (bS [44]) l : PRes Unit) with
   | .error e=>.error e
   | .ok (_,l)=>if 8≤acc.length then failP 4 l else match matcherP l with
    | .error e=>.error e
    | .ok (m,l)=>matchersL f (acc++[m]) l):=by
  rw [matchersL,if_neg (by rw [hn]; exact Bool.false_ne_true)]
  rfl
 rw [hM]
 have hc : Agr (if acc.length=0 then .ok ((),l) else mustP (bS [44]) l : PRes Unit) () (rcomma acc.length (goodR l)):=by
  rw [rcomma]
  split
  ·exact ⟨rfl,rfl⟩
  ·exact rmust_good hE _
 have hl:=rcomma_len acc.length (goodR l)
 have hEc:=(show RdOk (goodR l) from ⟨hE,fun _=>rfl⟩).comma acc.length
 generalize (if acc.length=0 then .ok ((),l) else mustP (bS [44]) l : PRes Unit)=X at hc
 cases X with
 | error ep =>
  have hb:=hc.bad
  have e : (rround acc (goodR l)).2=rcomma acc.length (goodR l):=by
   have e1 : rlim acc.length (rcomma acc.length (goodR l))=rcomma acc.length (goodR l):=by
    rw [rlim]; split
    ·exact rfail_bad hb 4
    ·rfl
   rw [rround,e1,rmatcher_bad hb]
  rw [e,if_neg (by rw [hb]; exact Bool.false_ne_true)]
  obtain ⟨h1,h2,_⟩:=hc
  show Except.error _=_
  rw [h1,h2]
 | ok v =>
  obtain ⟨u,l1⟩:=v
  simp only
  have e1 : rcomma acc.length (goodR l)=goodR l1:=hc.2
  rw [e1] at hl hEc
  replace hl : l1.length≤l.length:=hl
  rw [rround,e1]
  by_cases h88 : 8≤acc.length
  ·rw [if_pos h88]
   have e2 : rlim acc.length (goodR l1)=rfail 4 (goodR l1):=by rw [rlim,if_pos (by omega)]
   have hno:=rfail_not (e:=4) (by decide) l1
   rw [e2,rmatcher_bad hno,if_neg (by rw [hno]; exact Bool.false_ne_true)]
   rfl
  ·rw [if_neg h88]
   have e2 : rlim acc.length (goodR l1)=goodR l1:=by rw [rlim,if_neg (by omega)]
   rw [e2]
   have h3 : Agr (matcherP l1) (rmatcher (goodR l1)).1 (rmatcher (goodR l1)).2:=rmatcher_good hEc.toks
   have hEm:=hEc.matcher
   cases hm : matcherP l1 with
   | error ep =>
    rw [hm] at h3
    obtain ⟨h4,h5,hb⟩:=h3
    rw [if_neg (by rw [hb]; exact Bool.false_ne_true),h4,h5]
   | ok v =>
    obtain ⟨m,l2⟩:=v
    rw [hm] at h3
    rw [h3.2,if_pos (ok_good l2),h3.1]
    rw [h3.2] at hEm
    have h6 : l2.length < l1.length:=matcherP_less hEc.toks hm
    exact ⟨l2,rfl,hEm.toks,by omega,rfl⟩
def rfindN (L : List ByteArray) (j : Nat) (r : Rd) : Int × Rd:=match (L.take j).findIdx? (fun s=>rsee s r) with
 | some k=>(k,rtail r)
 | none=>(-1,r)
theorem rfindN_all (r : Rd) : rfindN opsL 4 r=rops r:=by
 unfold rfindN rops
 rw [List.take_of_length_le (by decide)]
theorem rfindN_step {L : List ByteArray} {j : Nat} (hj : j < L.length) (r : Rd) : rfindN L (j + 1) r=if (rfindN L j r).1 < 0 then (if rsee L[j] r then ((j : Int),rtail r) else (-1,r)) else rfindN L j r:=by
 unfold rfindN
 rw [List.take_succ_eq_append_getElem hj,List.findIdx?_append]
 cases h : (L.take j).findIdx? (fun s=>rsee s r) with
 | some k =>
  rw [if_neg (by show ¬ (k : Int) < 0; omega)]
  rfl
 | none =>
  rw [if_pos (show (-1 : Int) < 0 by decide)]
  have hl : (L.take j).length=j:=by simp; omega
  rw [hl]
  cases hs : rsee L[j] r with
  | true=>simp [List.findIdx?_cons,hs]
  | false=>simp [List.findIdx?_cons,hs]
theorem rfindN_lt {L : List ByteArray} {j : Nat} {r : Rd} (h : (rfindN L j r).1 < 0) : rfindN L j r=(-1,r):=by
 unfold rfindN at h ⊢
 cases hh : (L.take j).findIdx? (fun s=>rsee s r) with
 | some k=>rw [hh] at h; simp only at h; omega
 | none=>rfl
end Go.PL
/-
  Contracts: the document's reader of questions: matchers.
-/
namespace Go.Proofs.YtkoalgjlkcaonaaGreatDoor
open Go.GK Go.RowKit Go.PL
set_option maxRecDepth 100000
structure Rel {α : Type} (P : List Tok→PRes α) (r : Rd) (a : α) (r' : Rd) : Prop where
 ok : RdOk r'
 len : r'.l.length≤r.l.length
 good : r.ok=true→Agr (P r.l) a r'
 less : r.ok=true→r'.ok=true→r'.l.length < r.l.length
 bad : r.ok=false→r'=r
theorem rsx_n {α : Type} {f : FuncId} {args : List GV} {r : Rd} {P : α→Rd→Prop} {G : α→GV} (hG : ∀ a,idb 1 (G a)=true) (h : Hf pg f 1 args (rs r) (fun g σ' n=>∃ a r',P a r'∧g=G a∧Nat.ble 1 n=true∧leσ id (rs r') σ')) : Hf pg f 1 args (rs r) (fun g σ n=>∃ a r',P a r'∧g=G a∧σ=rs r'∧n=1) :=
 h.weak fun g σ' n' ⟨a,r',h0,h1,h2,h3⟩=>⟨id,G a,rs r',1,⟨a,r',h0,rfl,rfl,rfl⟩,by rw [h1,ren_id],h3,by rw [hG]; rfl⟩
theorem some_hf {r : Rd} (hr : RdOk r) (hlen : r.l.length≤1000) : Hf pg 117 1 [.p 0 0] (rs r) (fun g σ n=>∃ m r',Rel matchersP r m r'∧g=.sl 3 (m.map mt)∧σ=rs r'∧n=1):=by
 refine rsx_n (fun _=>rfl) ?_
 refine Hf.of pg_ok Tryz.func117 rfl Tryz.ntmps117 rfl Tryz.results117 Tryz.call117 fun H0 S0 w0 h0 g0=>?_
 refine GOH (rmust_hf hr (bS [123])) id rfl rfl ⟨rfl,trivial⟩ rfl (id_lt rfl) ?_
 rintro g σ' n' ⟨rfl,rfl,rfl⟩
 refine VM 3 ?_
 have hR1:=hr.must (bS [123])
 have hl1:=rmust_len (bS [123]) r
 refine JK.ownNil 3 116 3 rfl ?_
 refine JK.loopE (α:=List Mt × Rd × Nat) (β:=List Mt × Rd) (fun x=>⟨[(0,.p 0 0),(3,.o 1)],[(0,.blk 102 [tks x.2.1.l,gi x.2.1.e,gi x.2.1.p]),(1,.row 116 3 (x.1.map mt))],2⟩)
  (fun x=>RdOk x.2.1∧x.2.1.l.length≤r.l.length∧x.1.length≤9∧(x.2.1.ok=true→x.1.length≤8)∧(r.ok=true→if x.2.1.ok=true then x.2.1.l.length < x.2.2∧x.2.1.l.length < r.l.length∧matchersL x.2.2 x.1 x.2.1.l=matchersP r.l else matchersP r.l=.error (x.2.1.e,x.2.1.p))∧(r.ok=false→x.2.1=r))
  (fun x=>if x.2.1.ok=true then x.2.1.l.length + 1 else 0)
  (fun y=>⟨[(3,.o 1)],[(0,.blk 102 [tks y.2.l,gi y.2.e,gi y.2.p]),(1,.row 116 3 (y.1.map mt))],2⟩) (fun y=>Rel matchersP r y.1 y.2) ([],rmust (bS [123]) r,(rmust (bS [123]) r).l.length + 1) id ?_ ?_ ?_ ?_
 ·exact ⟨⟨rfl,rfl,trivial⟩,⟨rfl,rfl,trivial⟩,rfl⟩
 ·refine ⟨hR1,hl1,Nat.zero_le _,fun _=>Nat.zero_le _,fun ho=>?_,fun ho=>rmust_bad ho _⟩
  have hg:=hr.good ho
  have h1:=rmust_good hr.toks (bS [123])
  rw [← hg] at h1
  have hP : matchersP r.l=match mustP (bS [123]) r.l with | .error e=>.error e | .ok (_,l)=>matchersL (l.length + 1) [] l:=rfl
  rw [hP]
  cases hm : mustP (bS [123]) r.l with
  | error ep =>
   rw [hm] at h1
   obtain ⟨e1,e2,e3⟩:=h1
   rw [if_neg (by rw [e3]; exact Bool.false_ne_true)]
   show Except.error _=_
   rw [e1,e2]
  | ok v =>
   obtain ⟨u,l1⟩:=v
   rw [hm] at h1
   have e1 : rmust (bS [123]) r=goodR l1:=h1.2
   have hlt : l1.length < r.l.length:=by
    by_cases hc : takesP (bS [123]) r.l=true
    ·rw [mustP,if_pos hc] at hm
     cases hm
     obtain ⟨t,l,e⟩:=tks_cons hr
     rw [e]; simp
    ·rw [mustP,if_neg hc] at hm; cases hm
   rw [e1,if_pos (ok_good l1)]
   exact ⟨Nat.lt_succ_self _,hlt,rfl⟩
 ·rintro ⟨acc,r1,f⟩ ⟨hR,hl,h9,h8,hg,hb⟩
  replace hR : RdOk r1:=hR
  replace hl : r1.l.length≤r.l.length:=hl
  replace h9 : acc.length≤9:=h9
  replace h8 : r1.ok=true→acc.length≤8:=h8
  replace hg : r.ok=true→if r1.ok=true then r1.l.length < f∧r1.l.length < r.l.length∧matchersL f acc r1.l=matchersP r.l else matchersP r.l=.error (r1.e,r1.p):=hg
  replace hb : r.ok=false→r1=r:=hb
  have fin : r1.ok=true→takesP (bS [125]) r1.l=false→∀ m r7,rround acc r1=(m,r7)→(RdOk r7∧r7.l.length≤r.l.length∧(acc++[m]).length≤9∧(r7.ok=true→(acc++[m]).length≤8)∧(r.ok=true→if r7.ok=true then r7.l.length < f - 1∧r7.l.length < r.l.length∧matchersL (f - 1) (acc++[m]) r7.l=matchersP r.l else matchersP r.l=.error (r7.e,r7.p))∧(r.ok=false→r7=r))∧(if r7.ok=true then r7.l.length + 1 else 0) < r1.l.length + 1:=by
   intro ho hn m r7 hrr
   have e7 : (rround acc r1).2=r7:=by rw [hrr]
   have em : (rround acc r1).1=m:=by rw [hrr]
   have ha:=h8 ho
   have hlen7 : r7.l.length≤r1.l.length:=by
    rw [← e7,rround]
    exact Nat.le_trans (rmatcher_len _) (Nat.le_trans (rlim_len _ _) (rcomma_len _ _))
   have hro : r.ok=true:=by
    rcases tf r.ok with h | h
    ·exact h
    ·rw [hb h] at ho; rw [ho] at h; cases h
   have hg1:=hg hro
   rw [if_pos ho] at hg1
   obtain ⟨g1,g2,g3⟩:=hg1
   obtain ⟨f,rfl⟩ : ∃ f',f=f' + 1:=⟨f - 1,by omega⟩
   have hrd:=round_good hR.toks ha hn f
   rw [← hR.good ho,e7,em,g3] at hrd
   refine ⟨⟨?_,by omega,by simp; omega,fun h7=>?_,fun _=>?_,fun h=>absurd hro (by rw [h]; exact Bool.false_ne_true)⟩,?_⟩
   ·rw [← e7,rround]
    exact ((hR.comma _).lim _).matcher
   ·rcases Nat.lt_or_ge acc.length 8 with h | h
    ·simp; omega
    ·exfalso
     have e8 : rlim acc.length (rcomma acc.length r1)=rfail 4 (rcomma acc.length r1):=by rw [rlim,if_pos (by omega)]
     have hno : (rfail 4 (rcomma acc.length r1)).ok=false:=by
      rcases tf (rcomma acc.length r1).ok with hc | hc
      ·rw [rfail,if_pos hc]; rfl
      ·rw [rfail_bad hc,hc]
     rw [rround,e8,rmatcher_bad hno] at e7
     rw [← e7,hno] at h7
     cases h7
   ·by_cases h7 : r7.ok=true
    ·rw [if_pos h7] at hrd ⊢
     obtain ⟨l',q1,q2,q3,q4⟩:=hrd
     rw [q1]
     exact ⟨by show l'.length < f; omega,by show l'.length < _; omega,q4.symm⟩
    ·rw [if_neg h7] at hrd ⊢
     exact hrd
   ·by_cases h7 : r7.ok=true
    ·rw [if_pos h7] at hrd ⊢
     obtain ⟨l',q1,q2,q3,q4⟩:=hrd
     rw [q1]
     show l'.length + 1 < _
     omega
    ·rw [if_neg h7]; omega
  refine V ?_
  rcases tf r1.ok with ho | ho
  ·refine GOH (rok_b ho) id rfl rfl ⟨rfl,trivial⟩ rfl (id_lt rfl) ?_
   rintro g σ' n' ⟨rfl,rfl,rfl⟩
   rcases tf (rsee (bS [125]) r1) with hs | hs
   ·refine GOH (take_yes hR hs) id rfl rfl ⟨rfl,trivial⟩ rfl (id_lt rfl) ?_
    rintro g σ' n' ⟨rfl,rfl,rfl⟩
    have hro : r.ok=true:=by
     rcases tf r.ok with h | h
     ·exact h
     ·rw [hb h] at ho; rw [ho] at h; cases h
    have hg1:=hg hro
    rw [if_pos ho] at hg1
    obtain ⟨g1,g2,g3⟩:=hg1
    refine ⟨(acc,rtail r1),id,⟨⟨rfl,trivial⟩,⟨rfl,rfl,trivial⟩,rfl⟩,⟨hR.tl (see_k hs),by show (rtail r1).l.length≤_; rw [rtail_len]; omega,fun _=>?_,fun _ _=>by show (rtail r1).l.length < _; rw [rtail_len]; omega,fun h=>absurd hro (by rw [h]; exact Bool.false_ne_true)⟩⟩
    have ht : takesP (bS [125]) r1.l=true:=by rw [← rsee_good hR.toks,← hR.good ho]; exact hs
    obtain ⟨f,rfl⟩ : ∃ f',f=f' + 1:=⟨f - 1,by omega⟩
    rw [matchersL,if_pos ht] at g3
    rw [← g3]
    exact ⟨rfl,by rw [hR.good ho]; rfl⟩
   ·have fin:=fin ho (by rw [← rsee_good hR.toks,← hR.good ho]; exact hs)
    refine GOJ (take_no hR hs) id rfl rfl ⟨rfl,trivial⟩ rfl (id_lt rfl) ?_
    rintro g σ' n' ⟨rfl,rfl,rfl⟩
    refine VM 13 ?_
    have hk8:=h8 ho
    refine JK.cut (α:=Unit) (fun _=>⟨[(0,.p 0 0),(3,.o 1)],[(0,.blk 102 [tks (rcomma acc.length r1).l,gi (rcomma acc.length r1).e,gi (rcomma acc.length r1).p]),(1,.row 116 3 (acc.map mt))],2⟩) (fun _=>True) ?_ ?_
    ·refine V ?_
     by_cases ha : acc.length=0
     ·refine p2 ?_ (decide_eq_false (by show ¬ ((((acc.map mt).length : Nat) : Int) > 0); rw [List.length_map]; omega))
      exact ⟨(),id,⟨⟨rfl,rfl,trivial⟩,⟨by rw [rcomma,if_pos ha]; rfl,rfl,trivial⟩,rfl⟩,trivial⟩
     ·refine p1 ?_ (decide_eq_true (by show ((((acc.map mt).length : Nat) : Int) > 0); rw [List.length_map]; omega))
      refine GOH (rmust_hf hR (bS [44])) id rfl rfl ⟨rfl,trivial⟩ rfl (id_lt rfl) ?_
      rintro g σ' n' ⟨rfl,rfl,rfl⟩
      exact ⟨(),id,⟨⟨rfl,rfl,trivial⟩,⟨by rw [rcomma,if_neg ha]; rfl,rfl,trivial⟩,rfl⟩,trivial⟩
    rintro _ _
    have hRc:=hR.comma acc.length
    refine VM 7 ?_
    refine JK.cut (α:=Unit) (fun _=>⟨[(0,.p 0 0),(3,.o 1)],[(0,.blk 102 [tks (rlim acc.length (rcomma acc.length r1)).l,gi (rlim acc.length (rcomma acc.length r1)).e,gi (rlim acc.length (rcomma acc.length r1)).p]),(1,.row 116 3 (acc.map mt))],2⟩) (fun _=>True) ?_ ?_
    ·refine V ?_
     by_cases ha : acc.length=8
     ·have c8 : (((acc.map mt).length : Int) == 8)=true:=by simp; omega
      refine p1 ?_ c8
      refine GOH (rfails_hf _ hRc 4) id rfl rfl ⟨rfl,trivial⟩ rfl (id_lt rfl) ?_
      rintro g σ' n' ⟨rfl,rfl,rfl⟩
      exact ⟨(),id,⟨⟨rfl,rfl,trivial⟩,⟨by rw [rlim,if_pos ha]; rfl,rfl,trivial⟩,rfl⟩,trivial⟩
     ·have c8 : (((acc.map mt).length : Int) == 8)=false:=by simp; omega
      refine p2 ?_ c8
      exact ⟨(),id,⟨⟨rfl,rfl,trivial⟩,⟨by rw [rlim,if_neg ha]; rfl,rfl,trivial⟩,rfl⟩,trivial⟩
    rintro _ _
    have hRl:=hRc.lim acc.length
    generalize hr2 : rlim acc.length (rcomma acc.length r1)=r2 at hRl
    refine V ?_
    refine GOJ (rname_hf hRl) id rfl rfl ⟨rfl,trivial⟩ rfl (id_lt rfl) ?_
    rintro g σ' n' ⟨rfl,rfl,rfl⟩
    generalize hnm : (rname r2).1=nm
    have hRn:=hRl.name
    generalize hr3 : (rname r2).2=r3 at hRn
    refine VM 10 ?_
    refine FRZ 3 rfl ?_
    show JK _ _ _ _
    refine JK.loopE (α:=Nat) (β:=Unit) (fun j=>⟨[(0,.p 0 0),(3,.o 1),(4,.p 2 0),(31,.sl 1 (opsL.map fun s=>[gs s])),(32,gi 4),(33,gi j)],[(0,.blk 102 [tks (rfindN opsL j r3).2.l,gi (rfindN opsL j r3).2.e,gi (rfindN opsL j r3).2.p]),(1,.row 116 3 (acc.map mt)),(2,.blk 116 [gs nm,gi (rfindN opsL j r3).1,gs ⟨#[]⟩])],4⟩) (fun j=>j≤4) (fun j=>4 - j)
     (fun _=>⟨[(0,.p 0 0),(3,.o 1),(4,.p 2 0)],[(0,.blk 102 [tks (rops r3).2.l,gi (rops r3).2.e,gi (rops r3).2.p]),(1,.row 116 3 (acc.map mt)),(2,.blk 116 [gs nm,gi (rops r3).1,gs ⟨#[]⟩])],4⟩) (fun _=>True) 0 id ?_ (Nat.zero_le _) ?_ ?_
    ·exact ⟨⟨rfl,rfl,rfl,rfl,rfl,rfl,trivial⟩,⟨rfl,rfl,rfl,trivial⟩,rfl⟩
    ·rintro j hj
     refine V ?_
     by_cases hlt : j < 4
     ·refine p1 ?_ (decide_eq_true (by omega))
      have hjl : j < opsL.length:=hlt
      refine ix (hk:=hjl) (h:=?_)
      have hst:=rfindN_step hjl r3
      by_cases hop : (rfindN opsL j r3).1 < 0
      ·refine p1 ?_ (decide_eq_true hop)
       rw [if_pos hop] at hst
       have e0:=rfindN_lt hop
       rw [e0]
       rcases tf (rsee opsL[j] r3) with hs | hs
       ·rw [if_pos hs] at hst
        refine GOH (take_yes hRn hs) id rfl rfl ⟨rfl,trivial⟩ rfl (id_lt rfl) ?_
        rintro g σ' n' ⟨rfl,rfl,rfl⟩
        exact ⟨j + 1,id,⟨⟨rfl,rfl,rfl,rfl,rfl,succ_gi (by omega),trivial⟩,⟨by rw [hst]; rfl,rfl,by rw [hst]; rfl,trivial⟩,rfl⟩,hlt,by show 4 - (j + 1) < 4 - j; omega⟩
       ·rw [if_neg (by rw [hs]; exact Bool.false_ne_true)] at hst
        refine GOH (take_no hRn hs) id rfl rfl ⟨rfl,trivial⟩ rfl (id_lt rfl) ?_
        rintro g σ' n' ⟨rfl,rfl,rfl⟩
        exact ⟨j + 1,id,⟨⟨rfl,rfl,rfl,rfl,rfl,succ_gi (by omega),trivial⟩,⟨by rw [hst]; rfl,rfl,by rw [hst]; rfl,trivial⟩,rfl⟩,hlt,by show 4 - (j + 1) < 4 - j; omega⟩
      ·refine p2 ?_ (decide_eq_false hop)
       rw [if_neg hop] at hst
       exact ⟨j + 1,id,⟨⟨rfl,rfl,rfl,rfl,rfl,succ_gi (by omega),trivial⟩,⟨by rw [hst]; rfl,rfl,by rw [hst]; rfl,trivial⟩,rfl⟩,hlt,by show 4 - (j + 1) < 4 - j; omega⟩
     ·refine p2 ?_ (decide_eq_false (by omega))
      obtain rfl : j=4:=by omega
      rw [rfindN_all]
      exact ⟨(),id,⟨⟨rfl,rfl,rfl,trivial⟩,⟨rfl,rfl,rfl,trivial⟩,rfl⟩,trivial⟩
    rintro _ _
    obtain ⟨hR5,hR4⟩:=hRn.op5
    refine VM 7 ?_
    refine JK.cut (α:=Unit) (fun _=>⟨[(0,.p 0 0),(3,.o 1),(4,.p 2 0)],[(0,.blk 102 [tks (rop5 r3).l,gi (rop5 r3).e,gi (rop5 r3).p]),(1,.row 116 3 (acc.map mt)),(2,.blk 116 [gs nm,gi (rops r3).1,gs ⟨#[]⟩])],4⟩) (fun _=>True) ?_ ?_
    ·refine V ?_
     by_cases hop : (rops r3).1 < 0
     ·refine p1 ?_ (decide_eq_true hop)
      refine GOH (rfails_hf _ hR4 3) id rfl rfl ⟨rfl,trivial⟩ rfl (id_lt rfl) ?_
      rintro g σ' n' ⟨rfl,rfl,rfl⟩
      exact ⟨(),id,⟨⟨rfl,rfl,rfl,trivial⟩,⟨by rw [rop5,if_pos hop]; rfl,rfl,rfl,trivial⟩,rfl⟩,trivial⟩
     ·refine p2 ?_ (decide_eq_false hop)
      exact ⟨(),id,⟨⟨rfl,rfl,rfl,trivial⟩,⟨by rw [rop5,if_neg hop]; rfl,rfl,rfl,trivial⟩,rfl⟩,trivial⟩
    rintro _ _
    have hrr : rround acc r1=rrest nm r3:=by rw [rround,rmatcher,hr2,hnm,hr3]
    rw [rrest] at hrr
    generalize hr5 : rop5 r3=r5 at hR5 hrr
    generalize (rops r3).1=op at hrr
    obtain ⟨t5,l5,hl5⟩:=tks_cons hR5
    obtain ⟨ll5,e5,p5⟩:=r5
    simp only at hl5
    subst hl5
    refine V ?_
    refine ⟨tokR t5,by decide,rfl,?_⟩
    refine GOH (rkind_hf hR5 3) id rfl rfl ⟨rfl,trivial⟩ rfl (id_lt rfl) ?_
    rintro g σ' n' ⟨rfl,rfl,rfl⟩
    have hRk:=hR5.kind (k:=3) (by decide)
    have hsz:=hR5.toks.each t5 List.mem_cons_self
    have hko:=rkind_ok (k:=3) (r:=⟨t5 :: l5,e5,p5⟩)
    generalize hr6 : (rkind 3 ⟨t5 :: l5,e5,p5⟩).2=r6 at hRk hrr hko
    generalize hss : (rkind 3 ⟨t5 :: l5,e5,p5⟩).1=ss at hrr hko
    rcases tf r6.ok with h6 | h6
    ·rw [if_pos h6] at hrr
     obtain ⟨hk3,hs3⟩:=hko h6
     replace hk3 : t5.kind=3:=hk3
     replace hs3 : ss=t5.text:=hs3
     have hq2:=quo_size hsz.1 hk3
     rw [← hs3] at hq2
     have hsz2:=hsz.2
     rw [← hs3] at hsz2
     refine GOH (rok_b h6) id rfl rfl ⟨rfl,trivial⟩ rfl (id_lt rfl) ?_
     rintro g σ' n' ⟨rfl,rfl,rfl⟩
     have hw : IntKind.i64.wrap ((ss.size : Int) - 1)=((ss.size - 1 : Nat) : Int):=by rw [wrap_id (by omega) (by omega)]; omega
     have hv : ss.extract (1 : Int).toNat (IntKind.i64.wrap ((ss.size : Int) - 1)).toNat=rsays ss:=by rw [hw]; rfl
     have hvs : (ss.extract (1 : Int).toNat (IntKind.i64.wrap ((ss.size : Int) - 1)).toNat).size < 4611686018427387904:=by rw [hv,rsays,ByteArray.size_extract]; omega
     rw [rval,← hv] at hrr
     refine ⟨by decide,by rw [hw]; omega,by rw [hw]; omega,?_⟩
     rcases tf (valueF (ss.extract (1 : Int).toNat (IntKind.i64.wrap ((ss.size : Int) - 1)).toNat)) with hvf | hvf
     ·rw [if_pos hvf] at hrr
      refine GO ((says_rt _ hvs).bt hvf) rfl ?_
      refine ⟨by simp; omega,?_⟩
      obtain ⟨f1,f2⟩:=fin _ _ hrr
      refine ⟨(acc++[⟨nm,op,ss.extract (1 : Int).toNat (IntKind.i64.wrap ((ss.size : Int) - 1)).toNat⟩],r6,f - 1),fun i=>bif Nat.beq i 1 then 6 else i,⟨⟨rfl,rfl,trivial⟩,⟨rfl,?_,trivial⟩,rfl⟩,f1,?_⟩
      ·exact congrArg (fun x=>some (Res.row 116 3 x)) (List.map_append (l₁:=acc) (l₂:=[⟨nm,op,ss.extract (1 : Int).toNat (IntKind.i64.wrap ((ss.size : Int) - 1)).toNat⟩]) (f:=mt)).symm
      ·show (if Rd.ok _=true then _ else 0) < (if Rd.ok r1=true then _ else 0)
       rw [if_pos ho]
       exact f2
     ·rw [if_neg (by rw [hvf]; exact Bool.false_ne_true)] at hrr
      replace hrr : rround acc r1=(⟨nm,op,ss.extract (1 : Int).toNat (IntKind.i64.wrap ((ss.size : Int) - 1)).toNat⟩,⟨r6.l,4,t5.pos⟩):=hrr
      refine GO ((says_rt _ hvs).bt hvf) rfl ?_
      refine ⟨by simp; omega,?_⟩
      obtain ⟨f1,f2⟩:=fin _ _ hrr
      refine ⟨(acc++[⟨nm,op,ss.extract (1 : Int).toNat (IntKind.i64.wrap ((ss.size : Int) - 1)).toNat⟩],⟨r6.l,4,t5.pos⟩,f - 1),fun i=>bif Nat.beq i 1 then 6 else i,⟨⟨rfl,rfl,trivial⟩,⟨rfl,?_,trivial⟩,rfl⟩,f1,?_⟩
      ·exact congrArg (fun x=>some (Res.row 116 3 x)) (List.map_append (l₁:=acc) (l₂:=[⟨nm,op,ss.extract (1 : Int).toNat (IntKind.i64.wrap ((ss.size : Int) - 1)).toNat⟩]) (f:=mt)).symm
      ·show (if Rd.ok _=true then _ else 0) < (if Rd.ok r1=true then _ else 0)
       rw [if_pos ho]
       exact f2
    ·rw [if_neg (by rw [h6]; exact Bool.false_ne_true)] at hrr
     refine GOH (rok_b h6) id rfl rfl ⟨rfl,trivial⟩ rfl (id_lt rfl) ?_
     rintro g σ' n' ⟨rfl,rfl,rfl⟩
     refine ⟨by simp; omega,?_⟩
     obtain ⟨f1,f2⟩:=fin _ _ hrr
     refine ⟨(acc++[⟨nm,op,⟨#[]⟩⟩],r6,f - 1),fun i=>bif Nat.beq i 1 then 6 else i,⟨⟨rfl,rfl,trivial⟩,⟨rfl,?_,trivial⟩,rfl⟩,f1,?_⟩
     ·exact congrArg (fun x=>some (Res.row 116 3 x)) (List.map_append (l₁:=acc) (l₂:=[⟨nm,op,⟨#[]⟩⟩]) (f:=mt)).symm
     ·show (if Rd.ok _=true then _ else 0) < (if Rd.ok r1=true then _ else 0)
      rw [if_pos ho]
      exact f2
  ·refine GOH (rok_b ho) id rfl rfl ⟨rfl,trivial⟩ rfl (id_lt rfl) ?_
   rintro g σ' n' ⟨rfl,rfl,rfl⟩
   refine ⟨(acc,r1),id,⟨⟨rfl,trivial⟩,⟨rfl,rfl,trivial⟩,rfl⟩,⟨hR,hl,fun h=>?_,fun _ h=>?_,hb⟩⟩
   ·have:=hg h
    rw [if_neg (by rw [ho]; exact Bool.false_ne_true)] at this
    show Agr (matchersP r.l) acc r1
    rw [this]
    exact ⟨rfl,rfl,ho⟩
   ·rw [show r1.ok=true from h] at ho; cases ho
 ·rintro ⟨m,r'⟩ hq
  refine FRZ 1 rfl ?_
  exact ⟨m,r',hq,rfl,rfl,⟨rfl,trivial⟩⟩
end Go.Proofs.YtkoalgjlkcaonaaGreatDoor
/-
  Contracts: questions: products and sums; the three of them together. (Printed by gen/gen_ap.py.)
-/
namespace Go.Proofs.YtkoalgjlkcaonaaGreatDoor
open Go.GK Go.RowKit Go.PL
set_option maxRecDepth 100000
theorem product_hx (f : Nat) (ih : ∀ f',f' < f + 1→AskOk f') (n : Nat) (t0 : Tok) (l0 : List Tok) (hn : n≤100) (hE0 : ToksOk (t0 :: l0)) (hl0 : l0.length≤200) (hf : 3 * (l0.length + 1) + 2≤f + 1) : Hx pg 87 1 [.p 0 0,gi n] (ps (t0 :: l0)) (okA (productP (f + 1) n (t0 :: l0)) (l0.length + 1)) (erR (productP (f + 1) n (t0 :: l0))):=by
 refine okA_n ?_
 generalize hP : productP (f + 1) n (t0 :: l0)=P
 rw [productP] at hP
 refine Hx.ofJ pg_ok Tryz.func87 rfl Tryz.ntmps87 rfl Tryz.results87 Tryz.call87 fun H0 S0 w0 h0 g0=>?_
 refine V ?_
 refine GOX (erR P) ((ih f (Nat.lt_succ_self f)).one n t0 l0 hn hE0 hl0 (by omega)) (fun g ⟨e,p,h2,h3⟩=>⟨e,p,by rw [← hP,h2],h3⟩) id rfl rfl ⟨rfl,trivial⟩ rfl (id_lt rfl) ?_
 rintro g σ' n' ⟨q,l1,hq,hne,hE1,hl1,rfl,rfl,rfl⟩
 simp only [hq] at hP
 obtain ⟨t1,l1,rfl⟩:=hE1.cons
 simp only [List.length_cons] at hl1
 cases q with
 | nil=>exact absurd rfl hne
 | mk c nn m sp ns ql qr =>
 refine V ?_
 show JK _ _ _ _
 refine JK.loop (α:=Qn × Tok × List Tok × Nat) (fun x=>⟨[(0,.p 0 0),(1,gi n),(5,qG x.1)],[(0,.blk 87 [tks (x.2.1 :: x.2.2.1)])],1⟩) (fun x=>x.1 ≠ .nil∧ToksOk (x.2.1 :: x.2.2.1)∧3 * (x.2.2.1.length + 1) + 2≤x.2.2.2∧x.2.2.2≤f∧x.2.2.1.length < l0.length∧productL x.2.2.2 n x.1 (x.2.1 :: x.2.2.1)=P) (fun x=>x.2.2.1.length) (.mk c nn m sp ns ql qr,t1,l1,f) id ?_ ?_ ?_
 ·exact ⟨⟨rfl,rfl,rfl,trivial⟩,⟨rfl,trivial⟩,rfl⟩
 ·exact ⟨by simp,hE1,by show 3 * (l1.length + 1) + 2≤f; omega,Nat.le_refl _,by show l1.length < l0.length; omega,hP⟩
 rintro ⟨q,t,l,f2⟩ ⟨hne,hE,hf2,hff,hl,hR⟩
 replace hne : q ≠ .nil:=hne
 replace hE : ToksOk (t :: l):=hE
 replace hf2 : 3 * (l.length + 1) + 2≤f2:=hf2
 replace hff : f2≤f:=hff
 replace hl : l.length < l0.length:=hl
 replace hR : productL f2 n q (t :: l)=P:=hR
 obtain ⟨f2,rfl⟩ : ∃ k,f2=k + 1:=⟨f2 - 1,by omega⟩
 rw [productL] at hR
 cases q with
 | nil=>exact absurd rfl hne
 | mk c nn m sp ns ql qr =>
 refine V ?_
 rcases tf (takesP (bS [42]) (t :: l)) with h1 | h1
 ·rw [if_pos h1] at hR
  have hE2:=hE.tail (takesP_iff.1 h1).2
  obtain ⟨t2,l2,rfl⟩:=hE2.cons
  rw [List.tail_cons] at hR
  simp only [List.length_cons] at hf2 hl
  refine GOH (takes_yes t _ (bS [42]) h1) id rfl rfl ⟨rfl,trivial⟩ rfl (id_lt rfl) ?_
  rintro g σ' n' ⟨rfl,rfl,rfl⟩
  refine GOX (erR P) ((ih f2 (by omega)).one n t2 l2 hn hE2 (by omega) (by omega)) (fun g ⟨e,p,h2,h3⟩=>⟨e,p,by rw [← hR,h2],h3⟩) id rfl rfl ⟨rfl,trivial⟩ rfl (id_lt rfl) ?_
  rintro g σ' n' ⟨q2,l3,hq2,hne2,hE3,hl3,rfl,rfl,rfl⟩
  simp only [hq2] at hR
  obtain ⟨t3,l3,rfl⟩:=hE3.cons
  simp only [List.length_cons] at hl3
  cases q2 with
  | nil=>exact absurd rfl hne2
  | mk c2 nn2 m2 sp2 ns2 ql2 qr2 =>
  refine VM 3 ?_
  show JK _ _ _ _
  refine JK.subBlk 1 [gi 15,gi 0,.sl 3 [],gi 0,.sl 1 [],.r [gi c,gi nn,.sl 3 (m.map mt),gi sp,.sl 1 (ns.map fun s=>[gs s]),qG ql,qG qr],.r [gi c2,gi nn2,.sl 3 (m2.map mt),gi sp2,.sl 1 (ns2.map fun s=>[gs s]),qG ql2,qG qr2]] rfl (sv7 Sub.rfl (Sub.nil 3) (Sub.nil 1)) ?_
  refine JK.freezeB 1 rfl rfl ?_
  refine V ?_
  exact ⟨(.mk 15 0 [] 0 [] (.mk c nn m sp ns ql qr) (.mk c2 nn2 m2 sp2 ns2 ql2 qr2),t3,l3,f2),id,⟨⟨rfl,rfl,rfl,trivial⟩,⟨rfl,trivial⟩,rfl⟩,⟨by simp,hE3,by show 3 * (l3.length + 1) + 2≤f2; omega,by show f2≤f; omega,by show l3.length < l0.length; omega,hR⟩,by show l3.length < l2.length + 1; omega⟩
 rw [if_neg (Bool.eq_false_iff.1 h1)] at hR
 refine GOH (takes_no t l (bS [42]) h1) id rfl rfl ⟨rfl,trivial⟩ rfl (id_lt rfl) ?_
 rintro g σ' n' ⟨rfl,rfl,rfl⟩
 rcases tf (takesP (bS [47]) (t :: l)) with h1 | h1
 ·rw [if_pos h1] at hR
  have hE2:=hE.tail (takesP_iff.1 h1).2
  obtain ⟨t2,l2,rfl⟩:=hE2.cons
  rw [List.tail_cons] at hR
  simp only [List.length_cons] at hf2 hl
  refine GOH (takes_yes t _ (bS [47]) h1) id rfl rfl ⟨rfl,trivial⟩ rfl (id_lt rfl) ?_
  rintro g σ' n' ⟨rfl,rfl,rfl⟩
  refine GOX (erR P) ((ih f2 (by omega)).one n t2 l2 hn hE2 (by omega) (by omega)) (fun g ⟨e,p,h2,h3⟩=>⟨e,p,by rw [← hR,h2],h3⟩) id rfl rfl ⟨rfl,trivial⟩ rfl (id_lt rfl) ?_
  rintro g σ' n' ⟨q2,l3,hq2,hne2,hE3,hl3,rfl,rfl,rfl⟩
  simp only [hq2] at hR
  obtain ⟨t3,l3,rfl⟩:=hE3.cons
  simp only [List.length_cons] at hl3
  cases q2 with
  | nil=>exact absurd rfl hne2
  | mk c2 nn2 m2 sp2 ns2 ql2 qr2 =>
  refine VM 3 ?_
  show JK _ _ _ _
  refine JK.subBlk 1 [gi 16,gi 0,.sl 3 [],gi 0,.sl 1 [],.r [gi c,gi nn,.sl 3 (m.map mt),gi sp,.sl 1 (ns.map fun s=>[gs s]),qG ql,qG qr],.r [gi c2,gi nn2,.sl 3 (m2.map mt),gi sp2,.sl 1 (ns2.map fun s=>[gs s]),qG ql2,qG qr2]] rfl (sv7 Sub.rfl (Sub.nil 3) (Sub.nil 1)) ?_
  refine JK.freezeB 1 rfl rfl ?_
  refine V ?_
  exact ⟨(.mk 16 0 [] 0 [] (.mk c nn m sp ns ql qr) (.mk c2 nn2 m2 sp2 ns2 ql2 qr2),t3,l3,f2),id,⟨⟨rfl,rfl,rfl,trivial⟩,⟨rfl,trivial⟩,rfl⟩,⟨by simp,hE3,by show 3 * (l3.length + 1) + 2≤f2; omega,by show f2≤f; omega,by show l3.length < l0.length; omega,hR⟩,by show l3.length < l2.length + 1; omega⟩
 rw [if_neg (Bool.eq_false_iff.1 h1)] at hR
 refine GOH (takes_no t l (bS [47]) h1) id rfl rfl ⟨rfl,trivial⟩ rfl (id_lt rfl) ?_
 rintro g σ' n' ⟨rfl,rfl,rfl⟩
 exact ⟨Nat.le_of_ble_eq_true rfl,.mk c nn m sp ns ql qr,t :: l,hR.symm,hne,hE,by simp; omega,rfl,rfl⟩
theorem sum_hx (f : Nat) (ih : ∀ f',f' < f + 1→AskOk f') (n : Nat) (t0 : Tok) (l0 : List Tok) (hn : n≤100) (hE0 : ToksOk (t0 :: l0)) (hl0 : l0.length≤200) (hf : 3 * (l0.length + 1) + 3≤f + 1) : Hx pg 48 1 [.p 0 0,gi n] (ps (t0 :: l0)) (okA (sumP (f + 1) n (t0 :: l0)) (l0.length + 1)) (erR (sumP (f + 1) n (t0 :: l0))):=by
 refine okA_n ?_
 generalize hP : sumP (f + 1) n (t0 :: l0)=P
 rw [sumP] at hP
 refine Hx.ofJ pg_ok Tryz.func48 rfl Tryz.ntmps48 rfl Tryz.results48 Tryz.call48 fun H0 S0 w0 h0 g0=>?_
 refine V ?_
 refine GOX (erR P) ((ih f (Nat.lt_succ_self f)).product n t0 l0 hn hE0 hl0 (by omega)) (fun g ⟨e,p,h2,h3⟩=>⟨e,p,by rw [← hP,h2],h3⟩) id rfl rfl ⟨rfl,trivial⟩ rfl (id_lt rfl) ?_
 rintro g σ' n' ⟨q,l1,hq,hne,hE1,hl1,rfl,rfl,rfl⟩
 simp only [hq] at hP
 obtain ⟨t1,l1,rfl⟩:=hE1.cons
 simp only [List.length_cons] at hl1
 cases q with
 | nil=>exact absurd rfl hne
 | mk c nn m sp ns ql qr =>
 refine V ?_
 show JK _ _ _ _
 refine JK.loop (α:=Qn × Tok × List Tok × Nat) (fun x=>⟨[(0,.p 0 0),(1,gi n),(5,qG x.1)],[(0,.blk 87 [tks (x.2.1 :: x.2.2.1)])],1⟩) (fun x=>x.1 ≠ .nil∧ToksOk (x.2.1 :: x.2.2.1)∧3 * (x.2.2.1.length + 1) + 3≤x.2.2.2∧x.2.2.2≤f∧x.2.2.1.length < l0.length∧sumL x.2.2.2 n x.1 (x.2.1 :: x.2.2.1)=P) (fun x=>x.2.2.1.length) (.mk c nn m sp ns ql qr,t1,l1,f) id ?_ ?_ ?_
 ·exact ⟨⟨rfl,rfl,rfl,trivial⟩,⟨rfl,trivial⟩,rfl⟩
 ·exact ⟨by simp,hE1,by show 3 * (l1.length + 1) + 3≤f; omega,Nat.le_refl _,by show l1.length < l0.length; omega,hP⟩
 rintro ⟨q,t,l,f2⟩ ⟨hne,hE,hf2,hff,hl,hR⟩
 replace hne : q ≠ .nil:=hne
 replace hE : ToksOk (t :: l):=hE
 replace hf2 : 3 * (l.length + 1) + 3≤f2:=hf2
 replace hff : f2≤f:=hff
 replace hl : l.length < l0.length:=hl
 replace hR : sumL f2 n q (t :: l)=P:=hR
 obtain ⟨f2,rfl⟩ : ∃ k,f2=k + 1:=⟨f2 - 1,by omega⟩
 rw [sumL] at hR
 cases q with
 | nil=>exact absurd rfl hne
 | mk c nn m sp ns ql qr =>
 refine V ?_
 rcases tf (takesP (bS [43]) (t :: l)) with h1 | h1
 ·rw [if_pos h1] at hR
  have hE2:=hE.tail (takesP_iff.1 h1).2
  obtain ⟨t2,l2,rfl⟩:=hE2.cons
  rw [List.tail_cons] at hR
  simp only [List.length_cons] at hf2 hl
  refine GOH (takes_yes t _ (bS [43]) h1) id rfl rfl ⟨rfl,trivial⟩ rfl (id_lt rfl) ?_
  rintro g σ' n' ⟨rfl,rfl,rfl⟩
  refine GOX (erR P) ((ih f2 (by omega)).product n t2 l2 hn hE2 (by omega) (by omega)) (fun g ⟨e,p,h2,h3⟩=>⟨e,p,by rw [← hR,h2],h3⟩) id rfl rfl ⟨rfl,trivial⟩ rfl (id_lt rfl) ?_
  rintro g σ' n' ⟨q2,l3,hq2,hne2,hE3,hl3,rfl,rfl,rfl⟩
  simp only [hq2] at hR
  obtain ⟨t3,l3,rfl⟩:=hE3.cons
  simp only [List.length_cons] at hl3
  cases q2 with
  | nil=>exact absurd rfl hne2
  | mk c2 nn2 m2 sp2 ns2 ql2 qr2 =>
  refine VM 3 ?_
  show JK _ _ _ _
  refine JK.subBlk 1 [gi 13,gi 0,.sl 3 [],gi 0,.sl 1 [],.r [gi c,gi nn,.sl 3 (m.map mt),gi sp,.sl 1 (ns.map fun s=>[gs s]),qG ql,qG qr],.r [gi c2,gi nn2,.sl 3 (m2.map mt),gi sp2,.sl 1 (ns2.map fun s=>[gs s]),qG ql2,qG qr2]] rfl (sv7 Sub.rfl (Sub.nil 3) (Sub.nil 1)) ?_
  refine JK.freezeB 1 rfl rfl ?_
  refine V ?_
  exact ⟨(.mk 13 0 [] 0 [] (.mk c nn m sp ns ql qr) (.mk c2 nn2 m2 sp2 ns2 ql2 qr2),t3,l3,f2),id,⟨⟨rfl,rfl,rfl,trivial⟩,⟨rfl,trivial⟩,rfl⟩,⟨by simp,hE3,by show 3 * (l3.length + 1) + 3≤f2; omega,by show f2≤f; omega,by show l3.length < l0.length; omega,hR⟩,by show l3.length < l2.length + 1; omega⟩
 rw [if_neg (Bool.eq_false_iff.1 h1)] at hR
 refine GOH (takes_no t l (bS [43]) h1) id rfl rfl ⟨rfl,trivial⟩ rfl (id_lt rfl) ?_
 rintro g σ' n' ⟨rfl,rfl,rfl⟩
 rcases tf (takesP (bS [45]) (t :: l)) with h1 | h1
 ·rw [if_pos h1] at hR
  have hE2:=hE.tail (takesP_iff.1 h1).2
  obtain ⟨t2,l2,rfl⟩:=hE2.cons
  rw [List.tail_cons] at hR
  simp only [List.length_cons] at hf2 hl
  refine GOH (takes_yes t _ (bS [45]) h1) id rfl rfl ⟨rfl,trivial⟩ rfl (id_lt rfl) ?_
  rintro g σ' n' ⟨rfl,rfl,rfl⟩
  refine GOX (erR P) ((ih f2 (by omega)).product n t2 l2 hn hE2 (by omega) (by omega)) (fun g ⟨e,p,h2,h3⟩=>⟨e,p,by rw [← hR,h2],h3⟩) id rfl rfl ⟨rfl,trivial⟩ rfl (id_lt rfl) ?_
  rintro g σ' n' ⟨q2,l3,hq2,hne2,hE3,hl3,rfl,rfl,rfl⟩
  simp only [hq2] at hR
  obtain ⟨t3,l3,rfl⟩:=hE3.cons
  simp only [List.length_cons] at hl3
  cases q2 with
  | nil=>exact absurd rfl hne2
  | mk c2 nn2 m2 sp2 ns2 ql2 qr2 =>
  refine VM 3 ?_
  show JK _ _ _ _
  refine JK.subBlk 1 [gi 14,gi 0,.sl 3 [],gi 0,.sl 1 [],.r [gi c,gi nn,.sl 3 (m.map mt),gi sp,.sl 1 (ns.map fun s=>[gs s]),qG ql,qG qr],.r [gi c2,gi nn2,.sl 3 (m2.map mt),gi sp2,.sl 1 (ns2.map fun s=>[gs s]),qG ql2,qG qr2]] rfl (sv7 Sub.rfl (Sub.nil 3) (Sub.nil 1)) ?_
  refine JK.freezeB 1 rfl rfl ?_
  refine V ?_
  exact ⟨(.mk 14 0 [] 0 [] (.mk c nn m sp ns ql qr) (.mk c2 nn2 m2 sp2 ns2 ql2 qr2),t3,l3,f2),id,⟨⟨rfl,rfl,rfl,trivial⟩,⟨rfl,trivial⟩,rfl⟩,⟨by simp,hE3,by show 3 * (l3.length + 1) + 3≤f2; omega,by show f2≤f; omega,by show l3.length < l0.length; omega,hR⟩,by show l3.length < l2.length + 1; omega⟩
 rw [if_neg (Bool.eq_false_iff.1 h1)] at hR
 refine GOH (takes_no t l (bS [45]) h1) id rfl rfl ⟨rfl,trivial⟩ rfl (id_lt rfl) ?_
 rintro g σ' n' ⟨rfl,rfl,rfl⟩
 exact ⟨Nat.le_of_ble_eq_true rfl,.mk c nn m sp ns ql qr,t :: l,hR.symm,hne,hE,by simp; omega,rfl,rfl⟩
theorem ask_all : ∀ f : Nat,AskOk f:=by
 intro f
 induction f using Nat.strongRecOn with
 | _ f ih =>
  cases f with
  | zero=>exact ⟨fun _ _ _ _ _ _ h=>by omega,fun _ _ _ _ _ _ h=>by omega,fun _ _ _ _ _ _ h=>by omega⟩
  | succ f=>exact ⟨one_hx f (ih f (Nat.lt_succ_self f)),sum_hx f ih,product_hx f ih⟩
end Go.Proofs.YtkoalgjlkcaonaaGreatDoor
/-
  Contracts: the document's reader of questions: rows of one level.
-/
namespace Go.Proofs.YtkoalgjlkcaonaaGreatDoor
open Go.GK Go.RowKit Go.PL
set_option maxRecDepth 100000
abbrev rb (n : Nat) (r : Rd) : Heap:=[(0,.blk 102 [tks r.l,gi r.e,gi r.p]),(1,.blk 100 [.p 0 0]),(2,.blk 3 [gi n])]
def RelQ (P : List Tok→PRes Qn) (r : Rd) (q : Qn) (r' : Rd) : Prop:=Rel P r q r'∧(r'.ok=true→q ≠ .nil)
theorem rbx_n {f : FuncId} {args : List GV} {n : Nat} {r : Rd} {P : Qn→Rd→Prop} (h : Hf pg f 3 args (rb n r) (fun g σ' m=>∃ q r',P q r'∧g=qG q∧Nat.ble 3 m=true∧leσ id (rb n r') σ')) : Hf pg f 3 args (rb n r) (fun g σ m=>∃ q r',P q r'∧g=qG q∧σ=rb n r'∧m=3) :=
 h.weak fun g σ' n' ⟨q,r',h0,h1,h2,h3⟩=>⟨id,qG q,rb n r',3,⟨q,r',h0,rfl,rfl,rfl⟩,by rw [h1,ren_id],h3,by rw [idb_qG]; rfl⟩
theorem rq_n {f : FuncId} {args : List GV} {r : Rd} {P : Qn→Rd→Prop} (h : Hf pg f 1 args (rs r) (fun g σ' m=>∃ q r',P q r'∧g=qG q∧Nat.ble 1 m=true∧leσ id (rs r') σ')) : Hf pg f 1 args (rs r) (fun g σ m=>∃ q r',P q r'∧g=qG q∧σ=rs r'∧m=1) :=
 h.weak fun g σ' n' ⟨q,r',h0,h1,h2,h3⟩=>⟨id,qG q,rs r',1,⟨q,r',h0,rfl,rfl,rfl⟩,by rw [h1,ren_id],h3,by rw [idb_qG]; rfl⟩
def Bel (gF : FuncId) (P : List Tok→PRes Qn) (n : Nat) (r : Rd) : Prop:=Hf pg gF 3 [.p 1 0,.p 2 0] (rb n r) (fun g σ m=>∃ q r',RelQ P r q r'∧g=qG q∧σ=rb n r'∧m=3)
def chainP (X : Nat→List Tok→PRes Qn) (XL : Nat→Qn→List Tok→PRes Qn) (f : Nat) (l : List Tok) : PRes Qn:=match X f l with
 | .error e=>.error e
 | .ok (q,l)=>XL f q l
theorem chain_hf (gF : FuncId) (n : Nat) (a b : ByteArray) (code : Int) (hc0 : 0≤code) (hc1 : code≤100) (k : Nat) (X : Nat→List Tok→PRes Qn) (XL : Nat→Qn→List Tok→PRes Qn)
  (hXL : ∀ f q l,XL (f + 1) q l=if takesP a l=true then (match X f l.tail with | .error e=>.error e | .ok (x,l)=>XL f (.mk code 0 [] 0 [] q x) l) else if takesP b l=true then (match X f l.tail with | .error e=>.error e | .ok (x,l)=>XL f (.mk (code + 1) 0 [] 0 [] q x) l) else .ok (q,l))
  (f : Nat) (hX : ∀ f' r,f'≤f→RdOk r→r.l.length≤300→3 * r.l.length + k≤f'→Bel gF (X f') n r) (r : Rd) (hr : RdOk r) (hlen : r.l.length≤300) (hf : 3 * r.l.length + k≤f) :
  Hf pg 84 3 [.p 0 0,.fn (.func gF) [] [.p 1 0,.p 2 0],gs a,gs b,gi code] (rb n r) (fun g σ m=>∃ q r',RelQ (chainP X XL f) r q r'∧g=qG q∧σ=rb n r'∧m=3):=by
 refine rbx_n ?_
 refine Hf.ofJ pg_ok Tryz.func84 rfl Tryz.ntmps84 rfl Tryz.results84 Tryz.call84 fun H0 S0 w0 h0 g0=>?_
 refine VM 5 ?_
 refine JK.cut (α:=Qn × Rd) (fun x=>⟨[(0,.p 0 0),(1,.fn (.func gF) [] [.p 1 0,.p 2 0]),(2,gs a),(3,gs b),(4,gi code),(11,qG x.1)],rb n x.2,3⟩) (fun x=>RelQ (X f) r x.1 x.2) ?_ ?_
 ·refine V ?_
  refine GOH (hX f r (Nat.le_refl _) hr hlen hf) id rfl rfl ⟨rfl,rfl,rfl,trivial⟩ rfl (id_lt rfl) ?_
  rintro g σ' n' ⟨q0,r0,hq0,rfl,rfl,rfl⟩
  cases q0 with
  | nil=>exact ⟨(.nil,r0),id,⟨⟨rfl,rfl,rfl,rfl,rfl,rfl,trivial⟩,⟨rfl,rfl,rfl,trivial⟩,rfl⟩,hq0⟩
  | mk c nn m sp ns ql qr=>exact ⟨(.mk c nn m sp ns ql qr,r0),id,⟨⟨rfl,rfl,rfl,rfl,rfl,rfl,trivial⟩,⟨rfl,rfl,rfl,trivial⟩,rfl⟩,hq0⟩
 rintro ⟨q0,r0⟩ ⟨hq0,hne0⟩
 replace hq0 : Rel (X f) r q0 r0:=hq0
 replace hne0 : r0.ok=true→q0 ≠ .nil:=hne0
 refine VM 2 ?_
 refine JK.loopE (α:=Qn × Rd × Nat) (β:=Qn × Rd) (fun x=>⟨[(0,.p 0 0),(1,.fn (.func gF) [] [.p 1 0,.p 2 0]),(2,gs a),(3,gs b),(4,gi code),(11,qG x.1)],rb n x.2.1,3⟩)
  (fun x=>RdOk x.2.1∧x.2.1.l.length≤r.l.length∧x.2.2≤f∧(r.ok=true→if x.2.1.ok=true then x.2.1.l.length < r.l.length∧3 * x.2.1.l.length + (k + 3)≤x.2.2∧x.1 ≠ .nil∧XL x.2.2 x.1 x.2.1.l=chainP X XL f r.l else chainP X XL f r.l=.error (x.2.1.e,x.2.1.p))∧(r.ok=false→x.2.1=r))
  (fun x=>if x.2.1.ok=true then x.2.1.l.length + 1 else 0)
  (fun x=>⟨[(11,qG x.1)],rb n x.2,3⟩) (fun y=>RelQ (chainP X XL f) r y.1 y.2) (q0,r0,f) id ?_ ?_ ?_ ?_
 ·cases q0 <;> exact ⟨⟨rfl,rfl,rfl,rfl,rfl,rfl,trivial⟩,⟨rfl,rfl,rfl,trivial⟩,rfl⟩
 ·refine ⟨hq0.ok,hq0.len,Nat.le_refl _,fun ho=>?_,hq0.bad⟩
  have h1:=hq0.good ho
  unfold chainP
  cases hX1 : X f r.l with
  | error ep =>
   rw [hX1] at h1
   obtain ⟨e1,e2,e3⟩:=h1
   rw [if_neg (by rw [e3]; exact Bool.false_ne_true)]
   show Except.error _=Except.error _
   rw [e1,e2]
  | ok v =>
   obtain ⟨x,l1⟩:=v
   rw [hX1] at h1
   obtain ⟨e1,e2⟩:=h1
   have h3 : r0.ok=true:=by rw [e2]; rfl
   have h4:=hq0.less ho h3
   rw [if_pos h3]
   refine ⟨h4,by show 3 * r0.l.length + (k + 3)≤f; omega,hne0 h3,?_⟩
   rw [e2,e1]
   rfl
 ·rintro ⟨q,r1,f1⟩ ⟨hR,hl,hff,hg,hb⟩
  replace hR : RdOk r1:=hR
  replace hl : r1.l.length≤r.l.length:=hl
  replace hff : f1≤f:=hff
  replace hg : r.ok=true→if r1.ok=true then r1.l.length < r.l.length∧3 * r1.l.length + (k + 3)≤f1∧q ≠ .nil∧XL f1 q r1.l=chainP X XL f r.l else chainP X XL f r.l=.error (r1.e,r1.p):=hg
  replace hb : r.ok=false→r1=r:=hb
  refine V ?_
  rcases tf r1.ok with ho | ho
  ·have hro : r.ok=true:=by
    rcases tf r.ok with h | h
    ·exact h
    ·rw [hb h] at ho; rw [ho] at h; cases h
   have hg1:=hg hro
   rw [if_pos ho] at hg1
   obtain ⟨g1,g2,g3,g4⟩:=hg1
   obtain ⟨f2,rfl⟩ : ∃ f',f1=f' + 1:=⟨f1 - 1,by omega⟩
   rw [hXL] at g4
   have hcn : gi (code + 1)=gi (IntKind.i64.wrap (code + 1)):=by rw [wrap_id (by omega) (by omega)]
   cases q with
   | nil=>exact absurd rfl g3
   | mk c nn m sp ns ql qr =>
   refine GOH (rok_b ho) id rfl rfl ⟨rfl,trivial⟩ rfl (id_lt rfl) ?_
   rintro g σ' n' ⟨rfl,rfl,rfl⟩
   rcases tf (rsee a r1) with hs | hs
   ·have ht : takesP a r1.l=true:=by rw [← rsee_good hR.toks,← hR.good ho]; exact hs
    have hRt:=hR.tl (see_k hs)
    have hlt:=rtail_len r1
    refine GOH (take_yes hR hs) id rfl rfl ⟨rfl,trivial⟩ rfl (id_lt rfl) ?_
    rintro g σ' n' ⟨rfl,rfl,rfl⟩
    refine GOJ (hX f2 (rtail r1) (by omega) hRt (by omega) (by omega)) id rfl rfl ⟨rfl,rfl,rfl,trivial⟩ rfl (id_lt rfl) ?_
    rintro g σ' n' ⟨q2,r3,⟨hq2,hne2⟩,rfl,rfl,rfl⟩
    have hx:=hq2.good (show (rtail r1).ok=true from ho)
    have hxl:=hq2.less (show (rtail r1).ok=true from ho)
    have hx3:=hq2.len
    have fin : ∀ Q : Qn,Q ≠ .nil→Q=.mk code 0 [] 0 [] (.mk c nn m sp ns ql qr) q2→(RdOk r3∧r3.l.length≤r.l.length∧f2≤f∧(r.ok=true→if r3.ok=true then r3.l.length < r.l.length∧3 * r3.l.length + (k + 3)≤f2∧Q ≠ .nil∧XL f2 Q r3.l=chainP X XL f r.l else chainP X XL f r.l=.error (r3.e,r3.p))∧(r.ok=false→r3=r))∧(if r3.ok=true then r3.l.length + 1 else 0) < (if r1.ok=true then r1.l.length + 1 else 0):=by
     intro Q hQ hQe
     rw [if_pos ho]
     refine ⟨⟨hq2.ok,by omega,by omega,fun _=>?_,fun h=>absurd hro (by rw [h]; exact Bool.false_ne_true)⟩,?_⟩
     ·have g5 : (match X f2 r1.l.tail with | .error e=>(.error e : PRes Qn) | .ok (x,l)=>XL f2 (.mk code 0 [] 0 [] (.mk c nn m sp ns ql qr) x) l)=chainP X XL f r.l:=by rw [← g4,if_pos ht]
      rw [← g5]
      replace hx : Agr (X f2 r1.l.tail) q2 r3:=hx
      cases hX2 : X f2 r1.l.tail with
      | error ep =>
       rw [hX2] at hx
       rw [if_neg (by rw [hx.bad]; exact Bool.false_ne_true)]
       obtain ⟨z1,z2,_⟩:=hx
       show Except.error _=_
       rw [z1,z2]
      | ok v =>
       obtain ⟨x,l3⟩:=v
       rw [hX2] at hx
       obtain ⟨z1,z2⟩:=hx
       have h3 : r3.ok=true:=by rw [z2]; rfl
       have:=hxl h3
       rw [if_pos h3,hQe,z1,z2]
       rw [z2] at this
       replace this : l3.length < (rtail r1).l.length:=this
       exact ⟨by show l3.length < _; omega,by show 3 * l3.length + (k + 3)≤f2; omega,by simp,rfl⟩
     ·by_cases h3 : r3.ok=true
      ·rw [if_pos h3]
       have:=hxl h3
       omega
      ·rw [if_neg h3]; omega
    cases q2 with
    | nil =>
     refine VM 3 ?_
     show JK _ _ _ _
     refine JK.subBlk 3 [gi code,gi 0,.sl 3 [],gi 0,.sl 1 [],.r [gi c,gi nn,.sl 3 (m.map mt),gi sp,.sl 1 (ns.map fun s=>[gs s]),qG ql,qG qr],.v (.pointer none)] rfl (sv7 Sub.rfl (Sub.nil 3) (Sub.nil 1)) ?_
     refine JK.freezeB 3 rfl rfl ?_
     refine V ?_
     exact ⟨(.mk code 0 [] 0 [] (.mk c nn m sp ns ql qr) (.nil),r3,f2),id,⟨⟨rfl,rfl,rfl,rfl,rfl,rfl,trivial⟩,⟨rfl,rfl,rfl,trivial⟩,rfl⟩,fin _ (by simp) rfl⟩
    | mk c2 nn2 m2 sp2 ns2 ql2 qr2 =>
     refine VM 3 ?_
     show JK _ _ _ _
     refine JK.subBlk 3 [gi code,gi 0,.sl 3 [],gi 0,.sl 1 [],.r [gi c,gi nn,.sl 3 (m.map mt),gi sp,.sl 1 (ns.map fun s=>[gs s]),qG ql,qG qr],.r [gi c2,gi nn2,.sl 3 (m2.map mt),gi sp2,.sl 1 (ns2.map fun s=>[gs s]),qG ql2,qG qr2]] rfl (sv7 Sub.rfl (Sub.nil 3) (Sub.nil 1)) ?_
     refine JK.freezeB 3 rfl rfl ?_
     refine V ?_
     exact ⟨(.mk code 0 [] 0 [] (.mk c nn m sp ns ql qr) (.mk c2 nn2 m2 sp2 ns2 ql2 qr2),r3,f2),id,⟨⟨rfl,rfl,rfl,rfl,rfl,rfl,trivial⟩,⟨rfl,rfl,rfl,trivial⟩,rfl⟩,fin _ (by simp) rfl⟩
   have hta : takesP a r1.l=false:=by rw [← rsee_good hR.toks,← hR.good ho]; exact hs
   refine GOH (take_no hR hs) id rfl rfl ⟨rfl,trivial⟩ rfl (id_lt rfl) ?_
   rintro g σ' n' ⟨rfl,rfl,rfl⟩
   rcases tf (rsee b r1) with hs | hs
   ·have ht : takesP b r1.l=true:=by rw [← rsee_good hR.toks,← hR.good ho]; exact hs
    have hRt:=hR.tl (see_k hs)
    have hlt:=rtail_len r1
    refine GOH (take_yes hR hs) id rfl rfl ⟨rfl,trivial⟩ rfl (id_lt rfl) ?_
    rintro g σ' n' ⟨rfl,rfl,rfl⟩
    refine GOJ (hX f2 (rtail r1) (by omega) hRt (by omega) (by omega)) id rfl rfl ⟨rfl,rfl,rfl,trivial⟩ rfl (id_lt rfl) ?_
    rintro g σ' n' ⟨q2,r3,⟨hq2,hne2⟩,rfl,rfl,rfl⟩
    have hx:=hq2.good (show (rtail r1).ok=true from ho)
    have hxl:=hq2.less (show (rtail r1).ok=true from ho)
    have hx3:=hq2.len
    have fin : ∀ Q : Qn,Q ≠ .nil→Q=.mk (code + 1) 0 [] 0 [] (.mk c nn m sp ns ql qr) q2→(RdOk r3∧r3.l.length≤r.l.length∧f2≤f∧(r.ok=true→if r3.ok=true then r3.l.length < r.l.length∧3 * r3.l.length + (k + 3)≤f2∧Q ≠ .nil∧XL f2 Q r3.l=chainP X XL f r.l else chainP X XL f r.l=.error (r3.e,r3.p))∧(r.ok=false→r3=r))∧(if r3.ok=true then r3.l.length + 1 else 0) < (if r1.ok=true then r1.l.length + 1 else 0):=by
     intro Q hQ hQe
     rw [if_pos ho]
     refine ⟨⟨hq2.ok,by omega,by omega,fun _=>?_,fun h=>absurd hro (by rw [h]; exact Bool.false_ne_true)⟩,?_⟩
     ·have g5 : (match X f2 r1.l.tail with | .error e=>(.error e : PRes Qn) | .ok (x,l)=>XL f2 (.mk (code + 1) 0 [] 0 [] (.mk c nn m sp ns ql qr) x) l)=chainP X XL f r.l:=by rw [← g4,if_neg (by rw [hta]; exact Bool.false_ne_true),if_pos ht]
      rw [← g5]
      replace hx : Agr (X f2 r1.l.tail) q2 r3:=hx
      cases hX2 : X f2 r1.l.tail with
      | error ep =>
       rw [hX2] at hx
       rw [if_neg (by rw [hx.bad]; exact Bool.false_ne_true)]
       obtain ⟨z1,z2,_⟩:=hx
       show Except.error _=_
       rw [z1,z2]
      | ok v =>
       obtain ⟨x,l3⟩:=v
       rw [hX2] at hx
       obtain ⟨z1,z2⟩:=hx
       have h3 : r3.ok=true:=by rw [z2]; rfl
       have:=hxl h3
       rw [if_pos h3,hQe,z1,z2]
       rw [z2] at this
       replace this : l3.length < (rtail r1).l.length:=this
       exact ⟨by show l3.length < _; omega,by show 3 * l3.length + (k + 3)≤f2; omega,by simp,rfl⟩
     ·by_cases h3 : r3.ok=true
      ·rw [if_pos h3]
       have:=hxl h3
       omega
      ·rw [if_neg h3]; omega
    cases q2 with
    | nil =>
     refine VM 3 ?_
     show JK _ _ _ _
     refine JK.subBlk 3 [gi (code + 1),gi 0,.sl 3 [],gi 0,.sl 1 [],.r [gi c,gi nn,.sl 3 (m.map mt),gi sp,.sl 1 (ns.map fun s=>[gs s]),qG ql,qG qr],.v (.pointer none)] rfl (sv7 (Sub.eq hcn) (Sub.nil 3) (Sub.nil 1)) ?_
     refine JK.freezeB 3 rfl rfl ?_
     refine V ?_
     exact ⟨(.mk (code + 1) 0 [] 0 [] (.mk c nn m sp ns ql qr) (.nil),r3,f2),id,⟨⟨rfl,rfl,rfl,rfl,rfl,rfl,trivial⟩,⟨rfl,rfl,rfl,trivial⟩,rfl⟩,fin _ (by simp) rfl⟩
    | mk c2 nn2 m2 sp2 ns2 ql2 qr2 =>
     refine VM 3 ?_
     show JK _ _ _ _
     refine JK.subBlk 3 [gi (code + 1),gi 0,.sl 3 [],gi 0,.sl 1 [],.r [gi c,gi nn,.sl 3 (m.map mt),gi sp,.sl 1 (ns.map fun s=>[gs s]),qG ql,qG qr],.r [gi c2,gi nn2,.sl 3 (m2.map mt),gi sp2,.sl 1 (ns2.map fun s=>[gs s]),qG ql2,qG qr2]] rfl (sv7 (Sub.eq hcn) (Sub.nil 3) (Sub.nil 1)) ?_
     refine JK.freezeB 3 rfl rfl ?_
     refine V ?_
     exact ⟨(.mk (code + 1) 0 [] 0 [] (.mk c nn m sp ns ql qr) (.mk c2 nn2 m2 sp2 ns2 ql2 qr2),r3,f2),id,⟨⟨rfl,rfl,rfl,rfl,rfl,rfl,trivial⟩,⟨rfl,rfl,rfl,trivial⟩,rfl⟩,fin _ (by simp) rfl⟩
   have htb : takesP b r1.l=false:=by rw [← rsee_good hR.toks,← hR.good ho]; exact hs
   refine GOH (take_no hR hs) id rfl rfl ⟨rfl,trivial⟩ rfl (id_lt rfl) ?_
   rintro g σ' n' ⟨rfl,rfl,rfl⟩
   refine ⟨(.mk c nn m sp ns ql qr,r1),id,⟨⟨rfl,trivial⟩,⟨rfl,rfl,rfl,trivial⟩,rfl⟩,⟨⟨hR,hl,fun _=>?_,fun _ _=>g1,fun h=>absurd hro (by rw [show r.ok=false from h]; exact Bool.false_ne_true)⟩,fun _=>by simp⟩⟩
   rw [if_neg (by rw [hta]; exact Bool.false_ne_true),if_neg (by rw [htb]; exact Bool.false_ne_true)] at g4
   show Agr (chainP X XL f r.l) _ _
   rw [← g4]
   exact ⟨rfl,hR.good ho⟩
  ·refine GOH (rok_b ho) id rfl rfl ⟨rfl,trivial⟩ rfl (id_lt rfl) ?_
   rintro g σ' n' ⟨rfl,rfl,rfl⟩
   have fin : RelQ (chainP X XL f) r q r1:=by
    refine ⟨⟨hR,hl,fun h=>?_,fun _ h=>?_,hb⟩,fun h=>?_⟩
    ·have:=hg h
     rw [if_neg (by rw [ho]; exact Bool.false_ne_true)] at this
     show Agr (chainP X XL f r.l) q r1
     rw [this]
     exact ⟨rfl,rfl,ho⟩
    ·rw [show r1.ok=true from h] at ho; cases ho
    ·rw [show r1.ok=true from h] at ho; cases ho
   cases q <;> exact ⟨(_,r1),id,⟨⟨rfl,trivial⟩,⟨rfl,rfl,rfl,trivial⟩,rfl⟩,fin⟩
 ·rintro ⟨q,r'⟩ hq
  cases q with
  | nil =>
   refine V ?_
   exact ⟨.nil,r',hq,rfl,rfl,⟨rfl,rfl,rfl,trivial⟩⟩
  | mk c nn m sp ns ql qr =>
   refine V ?_
   exact ⟨.mk c nn m sp ns ql qr,r',hq,rfl,rfl,⟨rfl,rfl,rfl,trivial⟩⟩
end Go.Proofs.YtkoalgjlkcaonaaGreatDoor
/-
  Contracts: the document's reader of questions: products and sums.
-/
namespace Go.Proofs.YtkoalgjlkcaonaaGreatDoor
open Go.GK Go.RowKit Go.PL
set_option maxRecDepth 100000
def OneOk (f n : Nat) : Prop:=∀ r,RdOk r→r.l.length≤300→3 * r.l.length + 1≤f→Hf pg 86 1 [.p 0 0,gi n] (rs r) (fun g σ m=>∃ q r',RelQ (oneP f n) r q r'∧g=qG q∧σ=rs r'∧m=1)
theorem one_bel {f n : Nat} (h : OneOk f n) (r : Rd) (hr : RdOk r) (hl : r.l.length≤300) (hf : 3 * r.l.length + 1≤f) : Bel 85 (oneP f n) n r:=by
 refine rbx_n ?_
 refine Hf.of pg_ok Tryz.func85 rfl Tryz.ntmps85 rfl Tryz.results85 Tryz.call85 fun H0 S0 w0 h0 g0=>?_
 refine GOH (h r hr hl hf) id rfl rfl ⟨rfl,trivial⟩ rfl (id_lt rfl) ?_
 rintro g σ' n' ⟨q,r',hq,rfl,rfl,rfl⟩
 cases q with
 | nil=>exact ⟨.nil,r',hq,rfl,rfl,⟨rfl,rfl,rfl,trivial⟩⟩
 | mk c nn m sp ns ql qr=>exact ⟨.mk c nn m sp ns ql qr,r',hq,rfl,rfl,⟨rfl,rfl,rfl,trivial⟩⟩
theorem productL_eq (n f : Nat) (q : Qn) (l : List Tok) : productL (f + 1) n q l=if takesP (bS [42]) l=true then (match oneP f n l.tail with | .error e=>.error e | .ok (x,l)=>productL f n (.mk 15 0 [] 0 [] q x) l) else if takesP (bS [47]) l=true then (match oneP f n l.tail with | .error e=>.error e | .ok (x,l)=>productL f n (.mk (15 + 1) 0 [] 0 [] q x) l) else .ok (q,l):=by
 rw [productL]
 rfl
theorem sumL_eq (n f : Nat) (q : Qn) (l : List Tok) : sumL (f + 1) n q l=if takesP (bS [43]) l=true then (match productP f n l.tail with | .error e=>.error e | .ok (x,l)=>sumL f n (.mk 13 0 [] 0 [] q x) l) else if takesP (bS [45]) l=true then (match productP f n l.tail with | .error e=>.error e | .ok (x,l)=>sumL f n (.mk (13 + 1) 0 [] 0 [] q x) l) else .ok (q,l):=by
 rw [sumL]
 rfl
theorem prod_bel {f n : Nat} (h : ∀ f',f' < f→OneOk f' n) (r : Rd) (hr : RdOk r) (hl : r.l.length≤300) (hf : 3 * r.l.length + 2≤f) : Bel 83 (productP f n) n r:=by
 obtain ⟨f,rfl⟩ : ∃ f',f=f' + 1:=⟨f - 1,by omega⟩
 have hc:=chain_hf 85 n (bS [42]) (bS [47]) 15 (by decide) (by decide) 1 (fun f'=>oneP f' n) (fun f'=>productL f' n) (fun f' q l=>productL_eq n f' q l) f (fun f' r' hf' hr' hl' hk=>one_bel (h f' (by omega)) r' hr' hl' hk) r hr hl (by omega)
 have e : chainP (fun f'=>oneP f' n) (fun f'=>productL f' n) f=productP (f + 1) n:=by
  funext l
  rw [productP,chainP]
  rfl
 rw [e] at hc
 refine rbx_n ?_
 refine Hf.of pg_ok Tryz.func83 rfl Tryz.ntmps83 rfl Tryz.results83 Tryz.call83 fun H0 S0 w0 h0 g0=>?_
 refine GOH hc id rfl rfl ⟨rfl,rfl,rfl,trivial⟩ rfl (id_lt rfl) ?_
 rintro g σ' n' ⟨q,r',hq,rfl,rfl,rfl⟩
 cases q with
 | nil=>exact ⟨.nil,r',hq,rfl,rfl,⟨rfl,rfl,rfl,trivial⟩⟩
 | mk c nn m sp ns ql qr=>exact ⟨.mk c nn m sp ns ql qr,r',hq,rfl,rfl,⟨rfl,rfl,rfl,trivial⟩⟩
theorem sum_of {f n : Nat} (h : ∀ f',f' < f→OneOk f' n) (r : Rd) (hr : RdOk r) (hl : r.l.length≤300) (hf : 3 * r.l.length + 3≤f) : Hf pg 44 1 [.p 0 0,gi n] (rs r) (fun g σ m=>∃ q r',RelQ (sumP f n) r q r'∧g=qG q∧σ=rs r'∧m=1):=by
 obtain ⟨f,rfl⟩ : ∃ f',f=f' + 1:=⟨f - 1,by omega⟩
 have hc:=chain_hf 83 n (bS [43]) (bS [45]) 13 (by decide) (by decide) 2 (fun f'=>productP f' n) (fun f'=>sumL f' n) (fun f' q l=>sumL_eq n f' q l) f (fun f' r' hf' hr' hl' hk=>prod_bel (fun f'' hf''=>h f'' (by omega)) r' hr' hl' hk) r hr hl (by omega)
 have e : chainP (fun f'=>productP f' n) (fun f'=>sumL f' n) f=sumP (f + 1) n:=by
  funext l
  rw [sumP,chainP]
  rfl
 rw [e] at hc
 refine rq_n ?_
 refine Hf.of pg_ok Tryz.func44 rfl Tryz.ntmps44 rfl Tryz.results44 Tryz.call44 fun H0 S0 w0 h0 g0=>?_
 refine GOH hc id rfl rfl ⟨rfl,rfl,rfl,trivial⟩ rfl (id_lt rfl) ?_
 rintro g σ' n' ⟨q,r',hq,rfl,rfl,rfl⟩
 cases q with
 | nil=>exact ⟨.nil,r',hq,rfl,rfl,⟨rfl,trivial⟩⟩
 | mk c nn m sp ns ql qr=>exact ⟨.mk c nn m sp ns ql qr,r',hq,rfl,rfl,⟨rfl,trivial⟩⟩
end Go.Proofs.YtkoalgjlkcaonaaGreatDoor
/-
  Plain laws: the document's reader of questions: one after the other. No program is in sight.
-/
namespace Go.PL
open Go Go.GK
def bindP {α β : Type} (X : PRes α) (F : α→List Tok→PRes β) : PRes β:=match X with
 | .error e=>.error e
 | .ok (a,l)=>F a l
theorem Agr.bind {α β : Type} {X : PRes α} {a : α} {r1 : Rd} (h : Agr X a r1) {F : α→List Tok→PRes β} {b : β} {r2 : Rd} (hb : r1.ok=false→r2=r1) (hg : ∀ l,X=.ok (a,l)→r1=goodR l→Agr (F a l) b r2) : Agr (bindP X F) b r2:=by
 cases X with
 | error ep =>
  obtain ⟨h1,h2,h3⟩:=h
  rw [hb h3]
  exact ⟨h1,h2,h3⟩
 | ok v =>
  obtain ⟨x,l⟩:=v
  obtain ⟨h1,h2⟩:=h
  subst h1
  exact hg l rfl h2
def byP (k : Nat) (q : Qn) (l : List Tok) : PRes Qn :=
 if takesP (bS [98,121]) l=true then bindP (mustP (bS [40]) l.tail) fun _ l=>bindP (namesL (l.length + 1) [] l) fun ns l=>bindP (mustP (bS [41]) l) fun _ l=>.ok (.mk (8 + k) 0 [] 0 ns q .nil,l)
 else .ok (.mk (8 + k) 0 [] 0 [] q .nil,l)
theorem one_eq (f n : Nat) (l : List Tok) : oneP (f + 1) n l =
  if 8 < n then failP 4 l
  else if takesP (bS [45]) l=true then bindP (oneP f (n + 1) l.tail) fun q l=>.ok (.mk 12 0 [] 0 [] q .nil,l)
  else if takesP (bS [40]) l=true then bindP (sumP f (n + 1) l.tail) fun q l=>bindP (mustP (bS [41]) l) fun _ l=>.ok (q,l)
  else if (hdT l).kind=2 then bindP (numberP 9223372036854775807 l) fun k l=>.ok (.mk 1 k [] 0 [] .nil .nil,l)
  else if isP (bS [123]) l=true then bindP (matchersP l) fun m l=>.ok (.mk 2 0 m 300 [] .nil .nil,l)
  else match oversL.findIdx? fun s=>isP s l with
   | some k=>bindP (mustP (oversL.getD k ⟨#[]⟩) l) fun _ l=>bindP (mustP (bS [40]) l) fun _ l=>bindP (matchersP l) fun m l=>bindP (mustP (bS [91]) l) fun _ l=>bindP (numberP 1099511627776 l) fun sp l=>bindP (mustP (bS [93]) l) fun _ l=>bindP (mustP (bS [41]) l) fun _ l=>.ok (.mk (3 + k) 0 m (if sp < 1 then 1 else sp) [] .nil .nil,l)
   | none=>match allsL.findIdx? fun s=>isP s l with
    | none=>failP 3 l
    | some k=>bindP (mustP (allsL.getD k ⟨#[]⟩) l) fun _ l=>bindP (mustP (bS [40]) l) fun _ l=>bindP (sumP f (n + 1) l) fun q l=>bindP (mustP (bS [41]) l) fun _ l =>
     byP k q l:=by
 rw [oneP]
 by_cases h1 : 8 < n
 ·rw [if_pos h1,if_pos h1]
 rw [if_neg h1,if_neg h1]
 by_cases h2 : takesP (bS [45]) l=true
 ·rw [if_pos h2,if_pos h2]
  rcases oneP f (n + 1) l.tail with e | ⟨q,l1⟩ <;> rfl
 rw [if_neg h2,if_neg h2]
 by_cases h3 : takesP (bS [40]) l=true
 ·rw [if_pos h3,if_pos h3]
  rcases sumP f (n + 1) l.tail with e | ⟨q,l1⟩
  ·rfl
  simp only [bindP]
  rcases mustP (bS [41]) l1 with e | ⟨u,l2⟩ <;> rfl
 rw [if_neg h3,if_neg h3]
 by_cases h4 : (hdT l).kind=2
 ·rw [if_pos h4,if_pos h4]
  rcases numberP 9223372036854775807 l with e | ⟨q,l1⟩ <;> rfl
 rw [if_neg h4,if_neg h4]
 by_cases h5 : isP (bS [123]) l=true
 ·rw [if_pos h5,if_pos h5]
  rcases matchersP l with e | ⟨q,l1⟩ <;> rfl
 rw [if_neg h5,if_neg h5]
 cases oversL.findIdx? fun s=>isP s l with
 | some k =>
  simp only
  rcases mustP (oversL.getD k ⟨#[]⟩) l with e | ⟨a1,l1⟩
  ·rfl
  simp only [bindP]
  rcases mustP (bS [40]) l1 with e | ⟨a2,l2⟩
  ·rfl
  simp only [bindP]
  rcases matchersP l2 with e | ⟨a3,l3⟩
  ·rfl
  simp only [bindP]
  rcases mustP (bS [91]) l3 with e | ⟨a4,l4⟩
  ·rfl
  simp only [bindP]
  rcases numberP 1099511627776 l4 with e | ⟨a5,l5⟩
  ·rfl
  simp only [bindP]
  rcases mustP (bS [93]) l5 with e | ⟨a6,l6⟩
  ·rfl
  simp only [bindP]
  rcases mustP (bS [41]) l6 with e | ⟨a7,l7⟩ <;> rfl
 | none =>
  simp only
  cases allsL.findIdx? fun s=>isP s l with
  | none=>rfl
  | some k =>
   simp only
   rcases mustP (allsL.getD k ⟨#[]⟩) l with e | ⟨a1,l1⟩
   ·rfl
   simp only [bindP]
   rcases mustP (bS [40]) l1 with e | ⟨a2,l2⟩
   ·rfl
   simp only [bindP]
   rcases sumP f (n + 1) l2 with e | ⟨a3,l3⟩
   ·rfl
   simp only [bindP]
   rcases mustP (bS [41]) l3 with e | ⟨a4,l4⟩
   ·rfl
   simp only [bindP]
   rw [byP]
   by_cases h9 : takesP (bS [98,121]) l4=true
   ·rw [if_pos h9,if_pos h9]
    rcases mustP (bS [40]) l4.tail with e | ⟨a5,l5⟩
    ·rfl
    simp only [bindP]
    rcases namesL (l5.length + 1) [] l5 with e | ⟨a6,l6⟩
    ·rfl
    simp only [bindP]
    rcases mustP (bS [41]) l6 with e | ⟨a7,l7⟩ <;> rfl
   ·rw [if_neg h9,if_neg h9]
theorem rnum_nn {r : Rd} (h : RdOk r) : 0≤rnum r:=by
 unfold rnum
 obtain ⟨t,l,e⟩:=h.toks.cons
 rw [e]
 show 0≤if t.kind=2 then numT t.text else 0
 split
 ·rename_i hk
  have ht:=(h.toks.each t (by rw [e]; exact List.mem_cons_self)).1
  exact (num_tok ht hk).2.1
 ·exact Int.le_refl 0
theorem rnum_span {r : Rd} (h : RdOk r) : (if rnum r=0 then 1 else rnum r)=if rnum r < 1 then 1 else rnum r:=by
 have:=rnum_nn h
 by_cases h0 : rnum r=0
 ·rw [if_pos h0,if_pos (by omega)]
 ·rw [if_neg h0,if_neg (by omega)]
theorem rkind_less {k : Int} {r : Rd} (hr : RdOk r) (h : (rkind k r).2.ok=true) : (rkind k r).2.l.length < r.l.length:=by
 by_cases h1 : (rkind1 k r).ok=true
 ·rw [rkind,if_pos h1]
  obtain ⟨t,l,e⟩:=hr.toks.cons
  show (rtail r).l.length < _
  rw [rtail_len,e]
  simp
 ·rw [rkind,if_neg h1] at h
  exact absurd h h1
theorem rnumber_less {r : Rd} (hr : RdOk r) {m : Int} (h : (rnumber m r).ok=true) : (rnumber m r).l.length < r.l.length:=by
 have h1 : rnumber1 m r=r:=by
  unfold rnumber1
  split
  ·rename_i hc
   exfalso
   have h2 : (rnumber1 m r).ok=false:=by
    unfold rnumber1
    rw [if_pos hc]
    cases ho : r.ok with
    | true=>rw [rfail,if_pos ho]; rfl
    | false=>rw [rfail_bad ho,ho]
   rw [rnumber,rkind_bad h2,h2] at h
   cases h
  ·rfl
 rw [rnumber,h1] at h ⊢
 exact rkind_less hr h
theorem over_fin {l0 : List Tok} (hE : ToksOk l0) {m : List Mt} {r2 r3 r4 r5 r6 r7 : Rd} (h2 : r2=rmust (bS [40]) (goodR l0)) (hok3 : RdOk r3) (hg3 : r2.ok=true→Agr (matchersP r2.l) m r3) (hb3 : r2.ok=false→r3=r2) (hl3 : r3.l.length≤r2.l.length)
  (h4 : r4=rmust (bS [91]) r3) (h5 : r5=rnumber 1099511627776 r4) (h6 : r6=rmust (bS [93]) r5) (h7 : r7=rmust (bS [41]) r6) (k : Nat) :
  Agr (bindP (mustP (bS [40]) l0) fun _ l=>bindP (matchersP l) fun m l=>bindP (mustP (bS [91]) l) fun _ l=>bindP (numberP 1099511627776 l) fun sp l=>bindP (mustP (bS [93]) l) fun _ l=>bindP (mustP (bS [41]) l) fun _ l=>.ok (.mk (3 + k) 0 m (if sp < 1 then 1 else sp) [] .nil .nil,l))
   (Qn.mk (3 + k) 0 m (if rnum r4=0 then 1 else rnum r4) [] .nil .nil) r7∧RdOk r7∧r7.l.length≤l0.length:=by
 have b6 : r6.ok=false→r7=r6:=fun h=>by rw [h7,rmust_bad h]
 have b5 : r5.ok=false→r7=r5:=fun h=>by
  have e : r6=r5:=by rw [h6,rmust_bad h]
  rw [b6 (by rw [e]; exact h),e]
 have b4 : r4.ok=false→r7=r4:=fun h=>by
  have e : r5=r4:=by rw [h5,rnumber_bad h]
  rw [b5 (by rw [e]; exact h),e]
 have b3 : r3.ok=false→r7=r3:=fun h=>by
  have e : r4=r3:=by rw [h4,rmust_bad h]
  rw [b4 (by rw [e]; exact h),e]
 have b2 : r2.ok=false→r7=r2:=fun h=>by
  have e : r3=r2:=hb3 h
  rw [b3 (by rw [e]; exact h),e]
 have o4 : RdOk r4:=by rw [h4]; exact hok3.must _
 have o5 : RdOk r5:=by rw [h5]; exact o4.number _
 have o6 : RdOk r6:=by rw [h6]; exact o5.must _
 have o7 : RdOk r7:=by rw [h7]; exact o6.must _
 refine ⟨?_,o7,?_⟩
 ·have g2:=rmust_good hE (bS [40])
  rw [← h2] at g2
  refine g2.bind b2 fun l2 _ e2=>?_
  have g3:=hg3 (by rw [e2]; rfl)
  rw [e2] at g3
  refine g3.bind b3 fun l3 _ e3=>?_
  have hE3 : ToksOk l3:=by have:=hok3.toks; rw [e3] at this; exact this
  have g4:=rmust_good hE3 (bS [91])
  rw [← e3,← h4] at g4
  refine g4.bind b4 fun l4 _ e4=>?_
  have hE4 : ToksOk l4:=by have:=o4.toks; rw [e4] at this; exact this
  have g5:=rnumber_good l4 1099511627776
  rw [← e4,← h5] at g5
  refine g5.bind b5 fun l5 _ e5=>?_
  have hE5 : ToksOk l5:=by have:=o5.toks; rw [e5] at this; exact this
  have g6:=rmust_good hE5 (bS [93])
  rw [← e5,← h6] at g6
  refine g6.bind b6 fun l6 _ e6=>?_
  have hE6 : ToksOk l6:=by have:=o6.toks; rw [e6] at this; exact this
  have g7:=rmust_good hE6 (bS [41])
  rw [← e6,← h7] at g7
  refine g7.bind (fun _=>rfl) fun l7 _ e7=>?_
  exact ⟨by rw [rnum_span o4],e7⟩
 ·have a2:=rmust_len (bS [40]) (goodR l0)
  have a4:=rmust_len (bS [91]) r3
  have a5:=rnumber_len 1099511627776 r4
  have a6:=rmust_len (bS [93]) r5
  have a7:=rmust_len (bS [41]) r6
  rw [← h2] at a2
  rw [← h4] at a4
  rw [← h5] at a5
  rw [← h6] at a6
  rw [← h7] at a7
  have : (goodR l0).l.length=l0.length:=rfl
  omega
theorem all_fin {X : List Tok→PRes Qn} {l0 : List Tok} (hE : ToksOk l0) {q : Qn} {r2 r3 r4 r7 : Rd} (h2 : r2=rmust (bS [40]) (goodR l0)) (hok3 : RdOk r3) (hg3 : r2.ok=true→Agr (X r2.l) q r3) (hb3 : r2.ok=false→r3=r2)
  (h4 : r4=rmust (bS [41]) r3) (k : Nat) {Q : Qn} (hb4 : r4.ok=false→r7=r4) (hg4 : r4.ok=true→Agr (byP k q r4.l) Q r7) :
  Agr (bindP (mustP (bS [40]) l0) fun _ l=>bindP (X l) fun q l=>bindP (mustP (bS [41]) l) fun _ l=>byP k q l) Q r7:=by
 have b3 : r3.ok=false→r7=r3:=fun h=>by
  have e : r4=r3:=by rw [h4,rmust_bad h]
  rw [hb4 (by rw [e]; exact h),e]
 have b2 : r2.ok=false→r7=r2:=fun h=>by
  have e : r3=r2:=hb3 h
  rw [b3 (by rw [e]; exact h),e]
 have g2:=rmust_good hE (bS [40])
 rw [← h2] at g2
 refine g2.bind b2 fun l2 _ e2=>?_
 have g3:=hg3 (by rw [e2]; rfl)
 rw [e2] at g3
 refine g3.bind b3 fun l3 _ e3=>?_
 have hE3 : ToksOk l3:=by have:=hok3.toks; rw [e3] at this; exact this
 have g4:=rmust_good hE3 (bS [41])
 rw [← e3,← h4] at g4
 refine g4.bind hb4 fun l4 _ e4=>?_
 have:=hg4 (by rw [e4]; rfl)
 rw [e4] at this
 exact this
theorem by_fin {k : Nat} {q : Qn} {l4 : List Tok} (ht : takesP (bS [98,121]) l4=true) (hE : ToksOk l4.tail) {ns : List ByteArray} {r5 r6 r7 : Rd} (h5 : r5=rmust (bS [40]) (goodR l4.tail)) (hok6 : RdOk r6) (hg6 : r5.ok=true→Agr (namesL (r5.l.length + 1) [] r5.l) ns r6) (hb6 : r5.ok=false→r6=r5)
  (h7 : r7=rmust (bS [41]) r6) : Agr (byP k q l4) (.mk (8 + k) 0 [] 0 ns q .nil) r7:=by
 have b6 : r6.ok=false→r7=r6:=fun h=>by rw [h7,rmust_bad h]
 have b5 : r5.ok=false→r7=r5:=fun h=>by
  have e : r6=r5:=hb6 h
  rw [b6 (by rw [e]; exact h),e]
 rw [byP,if_pos ht]
 have g5:=rmust_good hE (bS [40])
 rw [← h5] at g5
 refine g5.bind b5 fun l5 _ e5=>?_
 have g6:=hg6 (by rw [e5]; rfl)
 rw [e5] at g6
 refine g6.bind b6 fun l6 _ e6=>?_
 have hE6 : ToksOk l6:=by have:=hok6.toks; rw [e6] at this; exact this
 have g7:=rmust_good hE6 (bS [41])
 rw [← e6,← h7] at g7
 exact g7.bind (fun _=>rfl) fun l7 _ e7=>⟨rfl,e7⟩
def rnm (acc : List ByteArray) (r : Rd) : ByteArray × Rd:=rname (rlim acc.length r)
theorem names_round {acc : List ByteArray} {l : List Tok} (hE : ToksOk l) (h8 : acc.length≤8) (f : Nat) :
  if (rnm acc (goodR l)).2.ok=true then ∃ l',(rnm acc (goodR l)).2=goodR l'∧ToksOk l'∧l'.length < l.length∧acc.length < 8∧namesL (f + 1) acc l=(if takesP (bS [44]) l'=true then namesL f (acc++[(rnm acc (goodR l)).1]) l'.tail else .ok (acc++[(rnm acc (goodR l)).1],l'))
  else namesL (f + 1) acc l=.error ((rnm acc (goodR l)).2.e,(rnm acc (goodR l)).2.p):=by
 rw [namesL,rnm]
 by_cases h88 : 8≤acc.length
 ·have e2 : rlim acc.length (goodR l)=rfail 4 (goodR l):=by rw [rlim,if_pos (by omega)]
  have hno:=rfail_not (e:=4) (by decide) l
  rw [if_pos h88,e2,rname_bad hno,if_neg (by rw [hno]; exact Bool.false_ne_true)]
  rfl
 ·have e2 : rlim acc.length (goodR l)=goodR l:=by rw [rlim,if_neg (by omega)]
  rw [if_neg h88,e2]
  have h1:=rname_good l
  cases hn : nameP l with
  | error ep =>
   rw [hn] at h1
   obtain ⟨z1,z2,z3⟩:=h1
   rw [if_neg (by rw [z3]; exact Bool.false_ne_true),z1,z2]
  | ok v =>
   obtain ⟨s,l'⟩:=v
   rw [hn] at h1
   obtain ⟨z1,z2⟩:=h1
   obtain ⟨_,_,hE'⟩:=nameP_wt hn hE
   rw [z2,if_pos (ok_good l'),z1]
   obtain ⟨t,r,rfl⟩:=hE.cons
   have h3:=(nameP_is hn).1
   cases h3
   exact ⟨_,rfl,hE',by simp,by omega,rfl⟩
theorem find_first_some {L : List ByteArray} {l : List Tok} {j : Nat} (hj : j < L.length) (h1 : ∀ i (hi : i < L.length),i < j→isP L[i] l=false) (h2 : isP L[j] l=true) : (L.findIdx? fun s=>isP s l)=some j:=by
 rw [List.findIdx?_eq_some_iff_getElem]
 exact ⟨hj,h2,fun i hi=>by rw [h1 i (by omega) hi]; exact Bool.false_ne_true⟩
end Go.PL
/-
  Contracts: the document's reader of questions: one of them.
-/
namespace Go.Proofs.YtkoalgjlkcaonaaGreatDoor
open Go.GK Go.RowKit Go.PL
set_option maxRecDepth 100000
theorem relq {P : List Tok→PRes Qn} {r : Rd} {q : Qn} {r' : Rd} (hro : r.ok=true) (hok : RdOk r') (hlen : r'.l.length≤r.l.length) (hless : r'.ok=true→r'.l.length < r.l.length) (hg : Agr (P r.l) q r') (hq : r'.ok=true→q ≠ .nil) : RelQ P r q r' :=
 ⟨⟨hok,hlen,fun _=>hg,fun _=>hless,fun h=>absurd hro (by rw [h]; exact Bool.false_ne_true)⟩,hq⟩
theorem one_step (f n : Nat) (hn : n≤100) (ih : ∀ f',f' < f + 1→∀ n',n'≤9→OneOk f' n') : OneOk (f + 1) n:=by
 intro r hr hl hf
 refine rq_n ?_
 have hw : IntKind.i64.wrap ((n : Int) + 1)=((n + 1 : Nat) : Int):=by rw [wrap_id (by omega) (by omega)]; rfl
 have hoe:=one_eq f n r.l
 refine Hf.of pg_ok Tryz.func86 rfl Tryz.ntmps86 rfl Tryz.results86 Tryz.call86 fun H0 S0 w0 h0 g0=>?_
 by_cases h8 : 8 < n
 ·rw [if_pos h8] at hoe
  refine p1 ?_ (decide_eq_true (by omega))
  refine GOH (rfails_hf r hr 4) id rfl rfl ⟨rfl,trivial⟩ rfl (id_lt rfl) ?_
  rintro g σ' n' ⟨rfl,rfl,rfl⟩
  have hno : (rfail 4 r).ok=false:=by
   rcases tf r.ok with h | h
   ·rw [rfail,if_pos h]; rfl
   ·rw [rfail_bad h,h]
  refine GOH (rok_b hno) id rfl rfl ⟨rfl,trivial⟩ rfl (id_lt rfl) ?_
  rintro g σ' n' ⟨rfl,rfl,rfl⟩
  refine ⟨.nil,rfail 4 r,⟨⟨hr.fails (by decide),by rw [rfail_l]; exact Nat.le_refl _,fun ho=>?_,fun _ h=>(by rw [hno] at h; cases h),fun h=>rfail_bad h 4⟩,fun h=>(by rw [hno] at h; cases h)⟩,rfl,rfl,⟨rfl,trivial⟩⟩
  rw [hoe]
  have:=Agr.fail (α:=Qn) (e:=4) (by decide) r.l .nil
  rwa [← hr.good ho] at this
 rw [if_neg h8] at hoe
 refine p2 ?_ (decide_eq_false (by omega))
 rcases tf r.ok with ho | ho
 rotate_left
 ·refine GOH (rok_b ho) id rfl rfl ⟨rfl,trivial⟩ rfl (id_lt rfl) ?_
  rintro g σ' n' ⟨rfl,rfl,rfl⟩
  exact ⟨.nil,r,⟨⟨hr,Nat.le_refl _,fun h=>(by rw [ho] at h; cases h),fun h=>(by rw [ho] at h; cases h),fun _=>rfl⟩,fun h=>(by rw [ho] at h; cases h)⟩,rfl,rfl,⟨rfl,trivial⟩⟩
 have hg:=hr.good ho
 have hto : ∀ s,rsee s r=takesP s r.l:=fun s=>by rw [← rsee_good hr.toks,← hg]
 obtain ⟨t0,l0,hl0⟩:=tks_cons hr
 have hlen : l0.length + 1=r.l.length:=by rw [hl0]; rfl
 refine GOH (rok_b ho) id rfl rfl ⟨rfl,trivial⟩ rfl (id_lt rfl) ?_
 rintro g σ' n' ⟨rfl,rfl,rfl⟩
 have htl : rtail r=goodR r.l.tail:=by
  show (⟨r.l.tail,r.e,r.p⟩ : Rd)=_
  rw [hg]
  rfl
 have hlt:=rtail_len r
 -- a sign
 rcases tf (rsee (bS [45]) r) with hs | hs
 ·have ht:=hto (bS [45])
  rw [hs] at ht
  rw [if_pos ht.symm] at hoe
  have hRt:=hr.tl (see_k hs)
  refine GOH (take_yes hr hs) id rfl rfl ⟨rfl,trivial⟩ rfl (id_lt rfl) ?_
  rintro g σ' n' ⟨rfl,rfl,rfl⟩
  refine GOJ (ih f (by omega) (n + 1) (by omega) (rtail r) hRt (by omega) (by omega)) id rfl (congrArg (fun x : Int=>[GV.p 0 0,gi x]) hw) ⟨rfl,trivial⟩ rfl (id_lt rfl) ?_
  rintro g σ' n' ⟨q,r3,⟨hq,hne⟩,rfl,rfl,rfl⟩
  have hq1:=hq.good (show (rtail r).ok=true from ho)
  have hq2:=hq.less (show (rtail r).ok=true from ho)
  have hq3:=hq.len
  have fin : RelQ (oneP (f + 1) n) r (.mk 12 0 [] 0 [] q .nil) r3:=by
   refine relq ho hq.ok (by omega) (fun h=>by have:=hq2 h; omega) ?_ (fun _=>by simp)
   rw [hoe]
   exact hq1.bind (fun _=>rfl) (fun l h1 h2=>⟨rfl,h2⟩)
  cases q with
  | nil =>
   refine VM 4 ?_
   show JK _ _ _ _
   refine JK.subBlk 1 [gi 12,gi 0,.sl 3 [],gi 0,.sl 1 [],.v (.pointer none),.v (.pointer none)] rfl (sv7 Sub.rfl (Sub.nil 3) (Sub.nil 1)) ?_
   refine JK.freezeB 1 rfl rfl ?_
   refine V ?_
   exact ⟨_,_,fin,rfl,rfl,⟨rfl,trivial⟩⟩
  | mk c nn m sp ns ql qr =>
   refine VM 4 ?_
   show JK _ _ _ _
   refine JK.subBlk 1 [gi 12,gi 0,.sl 3 [],gi 0,.sl 1 [],.r [gi c,gi nn,.sl 3 (m.map mt),gi sp,.sl 1 (ns.map fun s=>[gs s]),qG ql,qG qr],.v (.pointer none)] rfl (sv7 Sub.rfl (Sub.nil 3) (Sub.nil 1)) ?_
   refine JK.freezeB 1 rfl rfl ?_
   refine V ?_
   exact ⟨_,_,fin,rfl,rfl,⟨rfl,trivial⟩⟩
 rw [if_neg (by rw [← hto,hs]; exact Bool.false_ne_true)] at hoe
 refine GOH (take_no hr hs) id rfl rfl ⟨rfl,trivial⟩ rfl (id_lt rfl) ?_
 rintro g σ' n' ⟨rfl,rfl,rfl⟩
 -- in ( and )
 rcases tf (rsee (bS [40]) r) with hs | hs
 ·have ht:=hto (bS [40])
  rw [hs] at ht
  rw [if_pos ht.symm] at hoe
  have hRt:=hr.tl (see_k hs)
  refine GOH (take_yes hr hs) id rfl rfl ⟨rfl,trivial⟩ rfl (id_lt rfl) ?_
  rintro g σ' n' ⟨rfl,rfl,rfl⟩
  refine GOJ (sum_of (f:=f) (n:=n + 1) (fun f' hf'=>ih f' (by omega) (n + 1) (by omega)) (rtail r) hRt (by omega) (by omega)) id rfl (congrArg (fun x : Int=>[GV.p 0 0,gi x]) hw) ⟨rfl,trivial⟩ rfl (id_lt rfl) ?_
  rintro g σ' n' ⟨q,r3,⟨hq,hne⟩,rfl,rfl,rfl⟩
  have hq1:=hq.good (show (rtail r).ok=true from ho)
  have hq2:=hq.less (show (rtail r).ok=true from ho)
  have hq3:=hq.len
  have hm1:=rmust_len (bS [41]) r3
  have fin : RelQ (oneP (f + 1) n) r q (rmust (bS [41]) r3):=by
   refine relq ho (hq.ok.must _) (by omega) (fun h=>?_) ?_ (fun h=>?_)
   ·have h3 : r3.ok=true:=by
     rcases tf r3.ok with h' | h'
     ·exact h'
     ·rw [rmust_bad h',h'] at h; cases h
    have:=hq2 h3
    omega
   ·rw [hoe]
    refine hq1.bind (fun h=>rmust_bad h _) (fun l h1 h2=>?_)
    have hE : ToksOk l:=by have:=hq.ok.toks; rw [h2] at this; exact this
    have h4:=rmust_good hE (bS [41])
    rw [h2]
    exact h4.bind (fun _=>rfl) (fun l' h5 h6=>⟨rfl,h6⟩)
   ·refine hne ?_
    rcases tf r3.ok with h' | h'
    ·exact h'
    ·rw [rmust_bad h',h'] at h; cases h
  cases q with
  | nil =>
   refine V ?_
   refine GOH (rmust_hf hq.ok (bS [41])) id rfl rfl ⟨rfl,trivial⟩ rfl (id_lt rfl) ?_
   rintro g σ' n' ⟨rfl,rfl,rfl⟩
   exact ⟨_,_,fin,rfl,rfl,⟨rfl,trivial⟩⟩
  | mk c nn m sp ns ql qr =>
   refine V ?_
   refine GOH (rmust_hf hq.ok (bS [41])) id rfl rfl ⟨rfl,trivial⟩ rfl (id_lt rfl) ?_
   rintro g σ' n' ⟨rfl,rfl,rfl⟩
   exact ⟨_,_,fin,rfl,rfl,⟨rfl,trivial⟩⟩
 rw [if_neg (by rw [← hto,hs]; exact Bool.false_ne_true)] at hoe
 refine GOJ (take_no hr hs) id rfl rfl ⟨rfl,trivial⟩ rfl (id_lt rfl) ?_
 rintro g σ' n' ⟨rfl,rfl,rfl⟩
 -- a number
 obtain ⟨rl,re,rp⟩:=r
 simp only at hl0 hoe hlen
 subst hl0
 have hl' : l0.length + 1≤300:=hl
 have hf' : 3 * (l0.length + 1) + 1≤f + 1:=hf
 refine V ?_
 refine ⟨tokR t0,by decide,rfl,?_⟩
 by_cases hk : t0.kind=2
 ·rw [if_pos (show (hdT (t0 :: l0)).kind=2 from hk)] at hoe
  refine p1 ?_ (by simp [hk])
  refine GOJ (rnumber_hf hr 9223372036854775807) id rfl rfl ⟨rfl,trivial⟩ rfl (id_lt rfl) ?_
  rintro g σ' n' ⟨rfl,rfl,rfl⟩
  have h1:=rnumber_good (t0 :: l0) 9223372036854775807
  rw [show goodR (t0 :: l0)=(⟨t0 :: l0,re,rp⟩ : Rd) from hg.symm] at h1
  have fin : RelQ (oneP (f + 1) n) ⟨t0 :: l0,re,rp⟩ (.mk 1 (rnum ⟨t0 :: l0,re,rp⟩) [] 0 [] .nil .nil) (rnumber 9223372036854775807 ⟨t0 :: l0,re,rp⟩):=by
   refine relq ho (hr.number _) (rnumber_len _ _) (fun h=>rnumber_less hr h) ?_ (fun _=>by simp)
   ·rw [hoe]
    exact h1.bind (fun _=>rfl) (fun l h2 h3=>⟨rfl,h3⟩)
  generalize rnum ⟨t0 :: l0,re,rp⟩=kk at fin
  refine VM 4 ?_
  show JK _ _ _ _
  refine JK.subBlk 1 [gi 1,gi kk,.sl 3 [],gi 0,.sl 1 [],.v (.pointer none),.v (.pointer none)] rfl (sv7 Sub.rfl (Sub.nil 3) (Sub.nil 1)) ?_
  refine JK.freezeB 1 rfl rfl ?_
  refine V ?_
  exact ⟨_,_,fin,rfl,rfl,⟨rfl,trivial⟩⟩
 rw [if_neg (show ¬ (hdT (t0 :: l0)).kind=2 from hk)] at hoe
 refine p2 ?_ (by simp [hk])
 -- series
 rcases tf (rsee (bS [123]) ⟨t0 :: l0,re,rp⟩) with hs | hs
 ·have ht:=hto (bS [123])
  rw [hs] at ht
  have hti : isP (bS [123]) (t0 :: l0)=true:=by rw [isP_takes hr.toks (by decide)]; exact ht.symm
  rw [if_pos hti] at hoe
  refine GOH (see_b hr hs) id rfl rfl ⟨rfl,trivial⟩ rfl (id_lt rfl) ?_
  rintro g σ' n' ⟨rfl,rfl,rfl⟩
  refine GOJ (some_hf hr (by omega)) id rfl rfl ⟨rfl,trivial⟩ rfl (id_lt rfl) ?_
  rintro g σ' n' ⟨m,r3,hq,rfl,rfl,rfl⟩
  have fin : RelQ (oneP (f + 1) n) ⟨t0 :: l0,re,rp⟩ (.mk 2 0 m 300 [] .nil .nil) r3:=by
   refine relq ho hq.ok hq.len (hq.less ho) ?_ (fun _=>by simp)
   rw [hoe]
   exact (hq.good ho).bind (fun _=>rfl) (fun l h2 h3=>⟨rfl,h3⟩)
  refine VM 4 ?_
  show JK _ _ _ _
  refine JK.subBlk 1 [gi 2,gi 0,.sl 3 (m.map mt),gi 300,.sl 1 [],.v (.pointer none),.v (.pointer none)] rfl (sv7 Sub.rfl Sub.rfl (Sub.nil 1)) ?_
  refine JK.freezeB 1 rfl rfl ?_
  refine V ?_
  exact ⟨_,_,fin,rfl,rfl,⟨rfl,trivial⟩⟩
 have hni : isP (bS [123]) (t0 :: l0)=false:=by rw [isP_takes hr.toks (by decide)]; exact (hto _).symm.trans hs
 rw [if_neg (by rw [hni]; exact Bool.false_ne_true)] at hoe
 refine GOJ (see_b hr hs) id rfl rfl ⟨rfl,trivial⟩ rfl (id_lt rfl) ?_
 rintro g σ' n' ⟨rfl,rfl,rfl⟩
 -- over a span
 have hme : (∀ s,s ≠ ⟨#[]⟩→rsee s ⟨t0 :: l0,re,rp⟩=isP s (t0 :: l0)):=fun s hs=>by rw [isP_takes hr.toks hs]; exact hto s
 refine VM 11 ?_
 refine FRZ 1 rfl ?_
 show JK _ _ _ _
 refine JK.loopE (α:=Nat) (β:=Unit) (fun j=>⟨[(0,.p 0 0),(1,gi n),(59,.sl 1 (oversL.map fun s=>[gs s])),(60,gi 5),(61,gi j)],rs ⟨t0 :: l0,re,rp⟩,2⟩) (fun j=>j≤5∧∀ i (hi : i < oversL.length),i < j→isP oversL[i] (t0 :: l0)=false) (fun j=>5 - j)
  (fun _=>⟨[(0,.p 0 0),(1,gi n)],rs ⟨t0 :: l0,re,rp⟩,2⟩) (fun _=>(oversL.findIdx? fun s=>isP s (t0 :: l0))=none) 0 id ?_ ⟨Nat.zero_le _,fun i _ h=>absurd h (by omega)⟩ ?_ ?_
 ·exact ⟨⟨rfl,rfl,rfl,rfl,rfl,trivial⟩,⟨rfl,trivial⟩,rfl⟩
 ·rintro j ⟨hj,hno⟩
  refine V ?_
  by_cases hjl : j < 5
  ·have hjL : j < oversL.length:=hjl
   refine p1 ?_ (decide_eq_true (by omega))
   refine ix (hk:=hjL) (h:=?_)
   have hne : oversL[j] ≠ ⟨#[]⟩:=overs_some _ (List.getElem_mem hjL)
   rcases tf (rsee oversL[j] ⟨t0 :: l0,re,rp⟩) with hs | hs
   ·have hfi:=find_first_some hjL hno (by rw [← hme _ hne]; exact hs)
    simp only [hfi] at hoe
    have hgd : oversL.getD j ⟨#[]⟩=oversL[j]:=by rw [List.getD_eq_getElem?_getD,List.getElem?_eq_getElem hjL]; rfl
    have hmu : mustP (oversL.getD j ⟨#[]⟩) (t0 :: l0)=.ok ((),l0):=by rw [mustP,hgd,if_pos ((hto _).symm.trans hs)]; rfl
    rw [hmu] at hoe
    have hRt:=hr.tl (see_k hs)
    rw [htl] at hRt
    replace hRt : RdOk (goodR l0):=hRt
    have hE0 : ToksOk l0:=hRt.toks
    generalize hr2 : rmust (bS [40]) (goodR l0)=r2
    have o2 : RdOk r2:=by rw [← hr2]; exact hRt.must _
    have a2:=rmust_len (bS [40]) (goodR l0)
    rw [hr2] at a2
    replace a2 : r2.l.length≤l0.length:=a2
    refine GOH (take_yes hr hs) id rfl rfl ⟨rfl,trivial⟩ rfl (id_lt rfl) ?_
    rintro g σ' n' ⟨rfl,rfl,rfl⟩
    rw [htl]
    refine GOH (rmust_hf hRt (bS [40])) id rfl rfl ⟨rfl,trivial⟩ rfl (id_lt rfl) ?_
    rintro g σ' n' ⟨rfl,rfl,rfl⟩
    rw [hr2]
    refine GOH (some_hf o2 (by omega)) id rfl rfl ⟨rfl,trivial⟩ rfl (id_lt rfl) ?_
    rintro g σ' n' ⟨m,r3,hq,rfl,rfl,rfl⟩
    generalize hr4 : rmust (bS [91]) r3=r4
    have o4 : RdOk r4:=by rw [← hr4]; exact hq.ok.must _
    refine GOH (rmust_hf hq.ok (bS [91])) id rfl rfl ⟨rfl,trivial⟩ rfl (id_lt rfl) ?_
    rintro g σ' n' ⟨rfl,rfl,rfl⟩
    rw [hr4]
    refine GOJ (rnumber_hf o4 1099511627776) id rfl rfl ⟨rfl,trivial⟩ rfl (id_lt rfl) ?_
    rintro g σ' n' ⟨rfl,rfl,rfl⟩
    generalize hr5 : rnumber 1099511627776 r4=r5
    have o5 : RdOk r5:=by rw [← hr5]; exact o4.number _
    refine VM 12 ?_
    have hwj : gi (3 + (j : Int))=gi (IntKind.i64.wrap (3 + (j : Int))):=by rw [wrap_id (by omega) (by omega)]
    have hfin:=over_fin hE0 hr2.symm hq.ok hq.good hq.bad hq.len hr4.symm hr5.symm rfl rfl j
    generalize rnum r4=sp at hfin
    refine JK.cut (α:=Unit) (fun _=>⟨[(0,.p 0 0),(8,.p 2 0)],[(0,.blk 102 [tks r5.l,gi r5.e,gi r5.p]),(2,.blk 74 [gi (IntKind.i64.wrap (3 + (j : Int))),gi 0,.sl 3 (m.map mt),gi (if sp=0 then 1 else sp),.v (.slice none 0 0),.v (.pointer none),.v (.pointer none)])],3⟩) (fun _=>True) ?_ ?_
    ·refine V ?_
     by_cases h1 : sp=0
     ·refine p1 ?_ (by simp [h1])
      exact ⟨(),id,⟨⟨rfl,rfl,trivial⟩,⟨rfl,by rw [if_pos h1]; rfl,trivial⟩,rfl⟩,trivial⟩
     ·refine p2 ?_ (by simp [h1])
      exact ⟨(),id,⟨⟨rfl,rfl,trivial⟩,⟨rfl,by rw [if_neg h1]; rfl,trivial⟩,rfl⟩,trivial⟩
    rintro _ _
    refine JK.subBlk 2 [gi (3 + (j : Int)),gi 0,.sl 3 (m.map mt),gi (if sp=0 then 1 else sp),.sl 1 [],.v (.pointer none),.v (.pointer none)] rfl (sv7 (Sub.eq hwj) Sub.rfl (Sub.nil 1)) ?_
    refine JK.freezeB 2 rfl rfl ?_
    refine V ?_
    refine GOH (rmust_hf o5 (bS [93])) id rfl rfl ⟨rfl,trivial⟩ rfl (id_lt rfl) ?_
    rintro g σ' n' ⟨rfl,rfl,rfl⟩
    refine GOH (rmust_hf (o5.must (bS [93])) (bS [41])) id rfl rfl ⟨rfl,trivial⟩ rfl (id_lt rfl) ?_
    rintro g σ' n' ⟨rfl,rfl,rfl⟩
    obtain ⟨f1,f2,f3⟩:=hfin
    refine ⟨.mk (3 + j) 0 m (if sp=0 then 1 else sp) [] .nil .nil,_,relq ho f2 (by show _≤l0.length + 1; omega) (fun _=>by show _ < l0.length + 1; omega) ?_ (fun _=>by simp),rfl,rfl,⟨rfl,trivial⟩⟩
    rw [hoe]
    exact f1
   ·refine GOH (take_no hr hs) id rfl rfl ⟨rfl,trivial⟩ rfl (id_lt rfl) ?_
    rintro g σ' n' ⟨rfl,rfl,rfl⟩
    refine ⟨j + 1,id,⟨⟨rfl,rfl,rfl,rfl,succ_gi (by omega),trivial⟩,⟨rfl,trivial⟩,rfl⟩,⟨hjl,fun i hi h=>?_⟩,by show 5 - (j + 1) < 5 - j; omega⟩
    rcases Nat.lt_succ_iff_lt_or_eq.1 h with h' | h'
    ·exact hno i hi h'
    ·subst h'
     rw [← hme _ hne]
     exact hs
  ·refine p2 ?_ (decide_eq_false (by omega))
   refine ⟨(),id,⟨⟨rfl,rfl,trivial⟩,⟨rfl,trivial⟩,rfl⟩,?_⟩
   show (oversL.findIdx? fun s=>isP s (t0 :: l0))=none
   rw [List.findIdx?_eq_none_iff]
   intro s hs
   obtain ⟨i,hi,rfl⟩:=List.getElem_of_mem hs
   exact hno i hi (by have : i < 5:=hi; omega)
 rintro _ hfo
 replace hfo : (oversL.findIdx? fun s=>isP s (t0 :: l0))=none:=hfo
 simp only [hfo] at hoe
 -- of all
 refine VM 6 ?_
 refine FRZ 2 rfl ?_
 show JK _ _ _ _
 refine JK.loopE (α:=Nat) (β:=Unit) (fun j=>⟨[(0,.p 0 0),(1,gi n),(98,.sl 1 (allsL.map fun s=>[gs s])),(99,gi 4),(100,gi j)],rs ⟨t0 :: l0,re,rp⟩,3⟩) (fun j=>j≤4∧∀ i (hi : i < allsL.length),i < j→isP allsL[i] (t0 :: l0)=false) (fun j=>4 - j)
  (fun _=>⟨[(0,.p 0 0),(1,gi n)],rs ⟨t0 :: l0,re,rp⟩,3⟩) (fun _=>(allsL.findIdx? fun s=>isP s (t0 :: l0))=none) 0 id ?_ ⟨Nat.zero_le _,fun i _ h=>absurd h (by omega)⟩ ?_ ?_
 ·exact ⟨⟨rfl,rfl,rfl,rfl,rfl,trivial⟩,⟨rfl,trivial⟩,rfl⟩
 ·rintro j ⟨hj,hno⟩
  refine V ?_
  by_cases hjl : j < 4
  ·have hjL : j < allsL.length:=hjl
   refine p1 ?_ (decide_eq_true (by omega))
   refine ix (hk:=hjL) (h:=?_)
   have hne : allsL[j] ≠ ⟨#[]⟩:=alls_some _ (List.getElem_mem hjL)
   rcases tf (rsee allsL[j] ⟨t0 :: l0,re,rp⟩) with hs | hs
   ·have hfi:=find_first_some hjL hno (by rw [← hme _ hne]; exact hs)
    simp only [hfi] at hoe
    have hgd : allsL.getD j ⟨#[]⟩=allsL[j]:=by rw [List.getD_eq_getElem?_getD,List.getElem?_eq_getElem hjL]; rfl
    have hmu : mustP (allsL.getD j ⟨#[]⟩) (t0 :: l0)=.ok ((),l0):=by rw [mustP,hgd,if_pos ((hto _).symm.trans hs)]; rfl
    rw [hmu] at hoe
    have hRt:=hr.tl (see_k hs)
    rw [htl] at hRt
    replace hRt : RdOk (goodR l0):=hRt
    have hE0 : ToksOk l0:=hRt.toks
    generalize hr2 : rmust (bS [40]) (goodR l0)=r2
    have o2 : RdOk r2:=by rw [← hr2]; exact hRt.must _
    have a2:=rmust_len (bS [40]) (goodR l0)
    rw [hr2] at a2
    replace a2 : r2.l.length≤l0.length:=a2
    refine GOH (take_yes hr hs) id rfl rfl ⟨rfl,trivial⟩ rfl (id_lt rfl) ?_
    rintro g σ' n' ⟨rfl,rfl,rfl⟩
    rw [htl]
    refine GOH (rmust_hf hRt (bS [40])) id rfl rfl ⟨rfl,trivial⟩ rfl (id_lt rfl) ?_
    rintro g σ' n' ⟨rfl,rfl,rfl⟩
    rw [hr2]
    refine GOJ (sum_of (f:=f) (n:=n + 1) (fun f' hf'=>ih f' (by omega) (n + 1) (by omega)) r2 o2 (by omega) (by omega)) id rfl (congrArg (fun x : Int=>[GV.p 0 0,gi x]) hw) ⟨rfl,trivial⟩ rfl (id_lt rfl) ?_
    rintro g σ' n' ⟨q,r3,⟨hq,hneq⟩,rfl,rfl,rfl⟩
    generalize hr4 : rmust (bS [41]) r3=r4
    have o4 : RdOk r4:=by rw [← hr4]; exact hq.ok.must _
    have a3:=hq.len
    have a4:=rmust_len (bS [41]) r3
    rw [hr4] at a4
    have hfin:=fun (Q : Qn) (r7 : Rd)=>all_fin (X:=fun l=>sumP f (n + 1) l) (Q:=Q) (r7:=r7) hE0 hr2.symm hq.ok hq.good hq.bad hr4.symm j
    have hwj : gi (8 + (j : Int))=gi (IntKind.i64.wrap (8 + (j : Int))):=by rw [wrap_id (by omega) (by omega)]
    have end_ : ∀ (Q : Qn) (r7 : Rd),RdOk r7→r7.l.length≤l0.length→Agr (bindP (mustP (bS [40]) l0) fun _ l=>bindP (sumP f (n + 1) l) fun q l=>bindP (mustP (bS [41]) l) fun _ l=>byP j q l) Q r7→Q ≠ .nil→RelQ (oneP (f + 1) n) ⟨t0 :: l0,re,rp⟩ Q r7:=fun Q r7 z1 z2 z3 z4=>by
     refine relq ho z1 (by show _≤l0.length + 1; omega) (fun _=>by show _ < l0.length + 1; omega) ?_ (fun _=>z4)
     rw [hoe]
     exact z3
    have key : True:=trivial
    cases q with
    | nil =>
     refine VM 4 ?_
     show JK _ _ _ _
     refine JK.subBlk 3 [gi (8 + (j : Int)),gi 0,.sl 3 [],gi 0,.v (.slice none 0 0),.v (.pointer none),.v (.pointer none)] rfl (sv7 (Sub.eq hwj) (Sub.nil 3) Sub.rfl) ?_
     refine V ?_
     refine GOH (rmust_hf hq.ok (bS [41])) id rfl rfl ⟨rfl,trivial⟩ rfl (id_lt rfl) ?_
     rintro g σ' n' ⟨rfl,rfl,rfl⟩
     rw [hr4]
     rcases tf (rsee (bS [98,121]) r4) with hby | hby
     ·refine GOJ (take_yes o4 hby) id rfl rfl ⟨rfl,trivial⟩ rfl (id_lt rfl) ?_
      rintro g σ' n' ⟨rfl,rfl,rfl⟩
      have o4t:=o4.tl (see_k hby)
      have ho4 : r4.ok=true:=by
       rcases tf r4.ok with h | h
       ·exact h
       ·rw [rsee_bad h] at hby; cases hby
      have h4t : rtail r4=goodR r4.l.tail:=by
       rw [rtail]
       have:=o4.good ho4
       rw [this]
       rfl
      have ht4 : takesP (bS [98,121]) r4.l=true:=by rw [← rsee_good o4.toks,← o4.good ho4]; exact hby
      rw [h4t] at o4t ⊢
      generalize hr5 : rmust (bS [40]) (goodR r4.l.tail)=r5
      have o5 : RdOk r5:=by rw [← hr5]; exact o4t.must _
      have a5:=rmust_len (bS [40]) (goodR r4.l.tail)
      rw [hr5] at a5
      replace a5 : r5.l.length≤r4.l.tail.length:=a5
      rw [List.length_tail] at a5
      refine V ?_
      refine GOH (rmust_hf o4t (bS [40])) id rfl rfl ⟨rfl,trivial⟩ rfl (id_lt rfl) ?_
      rintro g σ' n' ⟨rfl,rfl,rfl⟩
      rw [hr5]
      show JK _ _ _ _
      generalize hN : namesL (r5.l.length + 1) [] r5.l=N
      refine JK.ownNilB 3 4 9 1 rfl rfl ?_
      refine JK.loopE (α:=List ByteArray × Rd × Nat) (β:=List ByteArray × Rd) (fun x=>⟨[(0,.p 0 0),(11,.p 3 0)],[(0,.blk 102 [tks (x.2.1).l,gi (x.2.1).e,gi (x.2.1).p]),(3,.blk 74 [gi (8 + (j : Int)),gi 0,.sl 3 [],gi 0,.o 4,.v (.pointer none),.v (.pointer none)]),(4,.row 9 1 ((x.1).map fun s=>[gs s]))],5⟩)
       (fun x=>RdOk x.2.1∧x.2.1.l.length≤r5.l.length∧x.1.length≤8∧(r5.ok=true→x.2.1.ok=true∧x.2.1.l.length < x.2.2∧namesL x.2.2 x.1 x.2.1.l=N)∧(r5.ok=false→x.2.1=r5)) (fun x=>x.2.1.l.length)
       (fun y=>⟨[(0,.p 0 0),(11,.p 3 0)],[(0,.blk 102 [tks (y.2).l,gi (y.2).e,gi (y.2).p]),(3,.blk 74 [gi (8 + (j : Int)),gi 0,.sl 3 [],gi 0,.o 4,.v (.pointer none),.v (.pointer none)]),(4,.row 9 1 ((y.1).map fun s=>[gs s]))],5⟩) (fun y=>RdOk y.2∧y.2.l.length≤r5.l.length∧(r5.ok=true→Agr N y.1 y.2)∧(r5.ok=false→y.2=r5)) ([],r5,r5.l.length + 1) id ?_ ?_ ?_ ?_
      ·exact ⟨⟨rfl,rfl,trivial⟩,⟨rfl,rfl,rfl,trivial⟩,rfl⟩
      ·exact ⟨o5,Nat.le_refl _,Nat.zero_le _,fun h=>⟨h,Nat.lt_succ_self _,hN⟩,fun _=>rfl⟩
      ·rintro ⟨acc,r',f'⟩ ⟨oR,hlR,hac,hgR,hbR⟩
       replace oR : RdOk r':=oR
       replace hlR : r'.l.length≤r5.l.length:=hlR
       replace hac : acc.length≤8:=hac
       replace hgR : r5.ok=true→r'.ok=true∧r'.l.length < f'∧namesL f' acc r'.l=N:=hgR
       replace hbR : r5.ok=false→r'=r5:=hbR
       refine V ?_
       rcases tf r'.ok with ho' | ho'
       ·have h5o : r5.ok=true:=by
         rcases tf r5.ok with h | h
         ·exact h
         ·rw [hbR h] at ho'; rw [ho'] at h; cases h
        obtain ⟨_,g2,g3⟩:=hgR h5o
        obtain ⟨f',rfl⟩ : ∃ z,f'=z + 1:=⟨f' - 1,by omega⟩
        have hrd:=names_round oR.toks hac f'
        rw [← oR.good ho',g3] at hrd
        refine GOJ (rok_b ho') id rfl rfl ⟨rfl,trivial⟩ rfl (id_lt rfl) ?_
        rintro g σ' n' ⟨rfl,rfl,rfl⟩
        have o1 : RdOk (rlim acc.length r'):=oR.lim _
        have hl1:=rlim_len acc.length r'
        refine VM 14 ?_
        refine JK.cut (α:=Unit) (fun _=>⟨[(0,.p 0 0),(11,.p 3 0)],[(0,.blk 102 [tks (rlim acc.length r').l,gi (rlim acc.length r').e,gi (rlim acc.length r').p]),(3,.blk 74 [gi (8 + (j : Int)),gi 0,.sl 3 [],gi 0,.o 4,.v (.pointer none),.v (.pointer none)]),(4,.row 9 1 ((acc).map fun s=>[gs s]))],5⟩) (fun _=>True) ?_ ?_
        ·refine V ?_
         by_cases ha : acc.length=8
         ·have c8 : (((acc.map fun s=>[gs s]).length : Int) == 8)=true:=by simp; omega
          refine p1 ?_ c8
          refine GOH (rfails_hf _ oR 4) id rfl rfl ⟨rfl,trivial⟩ rfl (id_lt rfl) ?_
          rintro g σ' n' ⟨rfl,rfl,rfl⟩
          exact ⟨(),id,⟨⟨rfl,rfl,trivial⟩,⟨by rw [rlim,if_pos ha]; rfl,rfl,rfl,trivial⟩,rfl⟩,trivial⟩
         ·have c8 : (((acc.map fun s=>[gs s]).length : Int) == 8)=false:=by simp; omega
          refine p2 ?_ c8
          exact ⟨(),id,⟨⟨rfl,rfl,trivial⟩,⟨by rw [rlim,if_neg ha]; rfl,rfl,rfl,trivial⟩,rfl⟩,trivial⟩
        rintro _ _
        have hN1 : rnm acc r'=rname (rlim acc.length r'):=rfl
        rw [hN1] at hrd
        have hnh:=rname_hf o1
        have o2':=o1.name
        have hl2:=rname_len (rlim acc.length r')
        generalize (rname (rlim acc.length r')).1=nm at hrd hnh
        generalize (rname (rlim acc.length r')).2=r2' at hrd hnh o2' hl2
        refine V ?_
        show JK _ _ _ _
        refine JK.drawJ [0,3,4] ⟨[(0,.p 0 0),(11,.p 3 0)],[(0,.blk 102 [tks (r2').l,gi (r2').e,gi (r2').p]),(3,.blk 74 [gi (8 + (j : Int)),gi 0,.sl 3 [],gi 0,.o 4,.v (.pointer none),.v (.pointer none)]),(4,.row 9 1 ((acc++[nm]).map fun s=>[gs s]))],5⟩ pg_ok ?_ (fun hk=>?_)
        ·refine V ?_
         rcases tf (rsee (bS [44]) r2') with hcm | hcm
         ·have h2o : r2'.ok=true:=by
           rcases tf r2'.ok with h | h
           ·exact h
           ·rw [rsee_bad h] at hcm; cases hcm
          rw [if_pos h2o] at hrd
          obtain ⟨l',z1,z2,z3,z4,z5⟩:=hrd
          have hct : takesP (bS [44]) l'=true:=by rw [← rsee_good z2,← z1]; exact hcm
          rw [if_pos hct] at z5
          have hz : l'.tail.length=l'.length - 1:=by simp
          have hlz : r2'.l.length=l'.length:=by rw [z1]; rfl
          refine GOH (take_yes o2' hcm) id rfl rfl ⟨rfl,trivial⟩ rfl (id_lt rfl) ?_
          rintro g σ' n' ⟨rfl,rfl,rfl⟩
          refine ⟨(acc++[nm],rtail r2',f'),id,⟨⟨rfl,rfl,trivial⟩,⟨rfl,rfl,rfl,trivial⟩,rfl⟩,⟨o2'.tl (see_k hcm),by show (rtail r2').l.length≤_; rw [rtail_len]; omega,by simp; omega,fun _=>⟨h2o,by show (rtail r2').l.length < f'; rw [rtail_len]; omega,?_⟩,fun h=>absurd h5o (by rw [h]; exact Bool.false_ne_true)⟩,by show (rtail r2').l.length < r'.l.length; rw [rtail_len]; omega⟩
          rw [z5,z1]
          rfl
         ·refine GOH (take_no o2' hcm) id rfl rfl ⟨rfl,trivial⟩ rfl (id_lt rfl) ?_
          rintro g σ' n' ⟨rfl,rfl,rfl⟩
          refine ⟨(acc++[nm],r2'),id,⟨⟨rfl,rfl,trivial⟩,⟨rfl,rfl,rfl,trivial⟩,rfl⟩,⟨o2',by show r2'.l.length≤_; omega,fun _=>?_,fun h=>absurd h5o (by rw [h]; exact Bool.false_ne_true)⟩⟩
          show Agr N (acc++[nm]) r2'
          by_cases h2o : r2'.ok=true
          ·rw [if_pos h2o] at hrd
           obtain ⟨l',z1,z2,z3,z4,z5⟩:=hrd
           have hct : takesP (bS [44]) l'=false:=by rw [← rsee_good z2,← z1]; exact hcm
           rw [if_neg (by rw [hct]; exact Bool.false_ne_true)] at z5
           rw [z5]
           exact ⟨rfl,z1⟩
          ·rw [if_neg h2o] at hrd
           rw [hrd]
           exact ⟨rfl,rfl,by simpa using h2o⟩
        ·refine RA.run (cx:=⟨pg,_,_,_,_,_,_,_⟩) pg_ok (by kernel_rfl) (by intro _ _ h; exact h) (tk [0,1,2,3,5]) (e:=false) (by kernel_rfl) ?_
         refine RA.both 4 6 (eqB_eq (by kernel_rfl)) (Stp.read 4 pg_ok rfl rfl ?_) (Stp.hf 6 hnh id rfl rfl rfl ⟨rfl,trivial⟩ rfl (id_lt rfl) ?_)
         ·refine RGOH 6 false (al [7,8]++tk [9,10]++al [11]) hnh id rfl rfl rfl ⟨rfl,trivial⟩ rfl (id_lt rfl) (by kernel_rfl) ?_
          rintro g σ' n' ⟨rfl,rfl,rfl⟩
          refine ⟨by simp; omega,?_⟩
          exact RA.endJ (fun i=>bif Nat.beq i 4 then 6 else i) (by kernel_rfl) hk ⟨⟨rfl,rfl,trivial⟩,⟨rfl,rfl,congrArg (fun x=>some (Res.row 9 1 x)) (List.map_append (l₁:=acc) (l₂:=[nm])).symm,trivial⟩,rfl⟩
         ·rintro g σ' n' ⟨rfl,rfl,rfl⟩
          refine RA.both 4 7 (eqB_eq (by kernel_rfl)) (Stp.read 4 pg_ok rfl rfl ?_) (Stp.mem 7 pg_ok rfl rfl rfl ?_)
          ·refine RA.run (cx:=⟨pg,_,_,_,_,_,_,_⟩) pg_ok (by kernel_rfl) (by intro _ _ h; exact h) (al [7,8]++tk [9,10]++al [11]) (e:=false) (by kernel_rfl) ?_
           refine ⟨by simp; omega,?_⟩
           exact RA.endJ (fun i=>bif Nat.beq i 4 then 6 else i) (by kernel_rfl) hk ⟨⟨rfl,rfl,trivial⟩,⟨rfl,rfl,congrArg (fun x=>some (Res.row 9 1 x)) (List.map_append (l₁:=acc) (l₂:=[nm])).symm,trivial⟩,rfl⟩
          ·refine RA.run (cx:=⟨pg,_,_,_,_,_,_,_⟩) pg_ok (by kernel_rfl) (by intro _ _ h; exact h) (al [4,8]++tk [9,10]++al [11]) (e:=false) (by kernel_rfl) ?_
           refine ⟨by simp; omega,?_⟩
           exact RA.endJ (fun i=>bif Nat.beq i 4 then 6 else i) (by kernel_rfl) hk ⟨⟨rfl,rfl,trivial⟩,⟨rfl,rfl,congrArg (fun x=>some (Res.row 9 1 x)) (List.map_append (l₁:=acc) (l₂:=[nm])).symm,trivial⟩,rfl⟩
       ·refine GOH (rok_b ho') id rfl rfl ⟨rfl,trivial⟩ rfl (id_lt rfl) ?_
        rintro g σ' n' ⟨rfl,rfl,rfl⟩
        exact ⟨(acc,r'),id,⟨⟨rfl,rfl,trivial⟩,⟨rfl,rfl,rfl,trivial⟩,rfl⟩,⟨oR,hlR,fun h=>(by rw [(hgR h).1] at ho'; cases ho'),hbR⟩⟩
      ·rintro ⟨ns2,r6⟩ ⟨o6,hl6,hg6,hb6⟩
       replace o6 : RdOk r6:=o6
       replace hl6 : r6.l.length≤r5.l.length:=hl6
       replace hg6 : r5.ok=true→Agr N ns2 r6:=hg6
       replace hb6 : r5.ok=false→r6=r5:=hb6
       rw [← hN] at hg6
       have fb:=by_fin (k:=j) (q:=.nil) ht4 o4t.toks hr5.symm o6 hg6 hb6 rfl
       have f1:=hfin (.mk (8 + j) 0 [] 0 ns2 .nil .nil) (rmust (bS [41]) r6) (fun h=>by rw [ho4] at h; cases h) (fun _=>fb)
       have a7:=rmust_len (bS [41]) r6
       refine FRZ 4 rfl ?_
       show JK _ _ _ _
       refine JK.freezeB 3 rfl rfl ?_
       refine V ?_
       refine GOH (rmust_hf o6 (bS [41])) id rfl rfl ⟨rfl,trivial⟩ rfl (id_lt rfl) ?_
       rintro g σ' n' ⟨rfl,rfl,rfl⟩
       exact ⟨_,_,end_ _ _ (o6.must _) (by omega) f1 (by simp),rfl,rfl,⟨rfl,trivial⟩⟩
     ·refine GOJ (take_no o4 hby) id rfl rfl ⟨rfl,trivial⟩ rfl (id_lt rfl) ?_
      rintro g σ' n' ⟨rfl,rfl,rfl⟩
      refine JK.subBlk 3 [gi (8 + (j : Int)),gi 0,.sl 3 [],gi 0,.sl 1 [],.v (.pointer none),.v (.pointer none)] rfl (sv7 Sub.rfl Sub.rfl (Sub.nil 1)) ?_
      refine JK.freezeB 3 rfl rfl ?_
      refine V ?_
      have f1:=hfin (.mk (8 + j) 0 [] 0 [] .nil .nil) r4 (fun _=>rfl) (fun h4=>by
       have h5 : takesP (bS [98,121]) r4.l=false:=by rw [← rsee_good o4.toks,← o4.good h4]; exact hby
       rw [byP,if_neg (by rw [h5]; exact Bool.false_ne_true)]
       exact ⟨rfl,o4.good h4⟩)
      exact ⟨_,_,end_ _ _ o4 (by omega) f1 (by simp),rfl,rfl,⟨rfl,trivial⟩⟩
    | mk c nn mm sp ns ql qr =>
     refine VM 4 ?_
     show JK _ _ _ _
     refine JK.subBlk 3 [gi (8 + (j : Int)),gi 0,.sl 3 [],gi 0,.v (.slice none 0 0),.r [gi c,gi nn,.sl 3 (mm.map mt),gi sp,.sl 1 (ns.map fun s=>[gs s]),qG ql,qG qr],.v (.pointer none)] rfl (sv7 (Sub.eq hwj) (Sub.nil 3) Sub.rfl) ?_
     refine V ?_
     refine GOH (rmust_hf hq.ok (bS [41])) id rfl rfl ⟨rfl,trivial⟩ rfl (id_lt rfl) ?_
     rintro g σ' n' ⟨rfl,rfl,rfl⟩
     rw [hr4]
     rcases tf (rsee (bS [98,121]) r4) with hby | hby
     ·refine GOJ (take_yes o4 hby) id rfl rfl ⟨rfl,trivial⟩ rfl (id_lt rfl) ?_
      rintro g σ' n' ⟨rfl,rfl,rfl⟩
      have o4t:=o4.tl (see_k hby)
      have ho4 : r4.ok=true:=by
       rcases tf r4.ok with h | h
       ·exact h
       ·rw [rsee_bad h] at hby; cases hby
      have h4t : rtail r4=goodR r4.l.tail:=by
       rw [rtail]
       have:=o4.good ho4
       rw [this]
       rfl
      have ht4 : takesP (bS [98,121]) r4.l=true:=by rw [← rsee_good o4.toks,← o4.good ho4]; exact hby
      rw [h4t] at o4t ⊢
      generalize hr5 : rmust (bS [40]) (goodR r4.l.tail)=r5
      have o5 : RdOk r5:=by rw [← hr5]; exact o4t.must _
      have a5:=rmust_len (bS [40]) (goodR r4.l.tail)
      rw [hr5] at a5
      replace a5 : r5.l.length≤r4.l.tail.length:=a5
      rw [List.length_tail] at a5
      refine V ?_
      refine GOH (rmust_hf o4t (bS [40])) id rfl rfl ⟨rfl,trivial⟩ rfl (id_lt rfl) ?_
      rintro g σ' n' ⟨rfl,rfl,rfl⟩
      rw [hr5]
      show JK _ _ _ _
      generalize hN : namesL (r5.l.length + 1) [] r5.l=N
      refine JK.ownNilB 3 4 9 1 rfl rfl ?_
      refine JK.loopE (α:=List ByteArray × Rd × Nat) (β:=List ByteArray × Rd) (fun x=>⟨[(0,.p 0 0),(11,.p 3 0)],[(0,.blk 102 [tks (x.2.1).l,gi (x.2.1).e,gi (x.2.1).p]),(3,.blk 74 [gi (8 + (j : Int)),gi 0,.sl 3 [],gi 0,.o 4,.r [gi c,gi nn,.sl 3 (mm.map mt),gi sp,.sl 1 (ns.map fun s=>[gs s]),qG ql,qG qr],.v (.pointer none)]),(4,.row 9 1 ((x.1).map fun s=>[gs s]))],5⟩)
       (fun x=>RdOk x.2.1∧x.2.1.l.length≤r5.l.length∧x.1.length≤8∧(r5.ok=true→x.2.1.ok=true∧x.2.1.l.length < x.2.2∧namesL x.2.2 x.1 x.2.1.l=N)∧(r5.ok=false→x.2.1=r5)) (fun x=>x.2.1.l.length)
       (fun y=>⟨[(0,.p 0 0),(11,.p 3 0)],[(0,.blk 102 [tks (y.2).l,gi (y.2).e,gi (y.2).p]),(3,.blk 74 [gi (8 + (j : Int)),gi 0,.sl 3 [],gi 0,.o 4,.r [gi c,gi nn,.sl 3 (mm.map mt),gi sp,.sl 1 (ns.map fun s=>[gs s]),qG ql,qG qr],.v (.pointer none)]),(4,.row 9 1 ((y.1).map fun s=>[gs s]))],5⟩) (fun y=>RdOk y.2∧y.2.l.length≤r5.l.length∧(r5.ok=true→Agr N y.1 y.2)∧(r5.ok=false→y.2=r5)) ([],r5,r5.l.length + 1) id ?_ ?_ ?_ ?_
      ·exact ⟨⟨rfl,rfl,trivial⟩,⟨rfl,rfl,rfl,trivial⟩,rfl⟩
      ·exact ⟨o5,Nat.le_refl _,Nat.zero_le _,fun h=>⟨h,Nat.lt_succ_self _,hN⟩,fun _=>rfl⟩
      ·rintro ⟨acc,r',f'⟩ ⟨oR,hlR,hac,hgR,hbR⟩
       replace oR : RdOk r':=oR
       replace hlR : r'.l.length≤r5.l.length:=hlR
       replace hac : acc.length≤8:=hac
       replace hgR : r5.ok=true→r'.ok=true∧r'.l.length < f'∧namesL f' acc r'.l=N:=hgR
       replace hbR : r5.ok=false→r'=r5:=hbR
       refine V ?_
       rcases tf r'.ok with ho' | ho'
       ·have h5o : r5.ok=true:=by
         rcases tf r5.ok with h | h
         ·exact h
         ·rw [hbR h] at ho'; rw [ho'] at h; cases h
        obtain ⟨_,g2,g3⟩:=hgR h5o
        obtain ⟨f',rfl⟩ : ∃ z,f'=z + 1:=⟨f' - 1,by omega⟩
        have hrd:=names_round oR.toks hac f'
        rw [← oR.good ho',g3] at hrd
        refine GOJ (rok_b ho') id rfl rfl ⟨rfl,trivial⟩ rfl (id_lt rfl) ?_
        rintro g σ' n' ⟨rfl,rfl,rfl⟩
        have o1 : RdOk (rlim acc.length r'):=oR.lim _
        have hl1:=rlim_len acc.length r'
        refine VM 14 ?_
        refine JK.cut (α:=Unit) (fun _=>⟨[(0,.p 0 0),(11,.p 3 0)],[(0,.blk 102 [tks (rlim acc.length r').l,gi (rlim acc.length r').e,gi (rlim acc.length r').p]),(3,.blk 74 [gi (8 + (j : Int)),gi 0,.sl 3 [],gi 0,.o 4,.r [gi c,gi nn,.sl 3 (mm.map mt),gi sp,.sl 1 (ns.map fun s=>[gs s]),qG ql,qG qr],.v (.pointer none)]),(4,.row 9 1 ((acc).map fun s=>[gs s]))],5⟩) (fun _=>True) ?_ ?_
        ·refine V ?_
         by_cases ha : acc.length=8
         ·have c8 : (((acc.map fun s=>[gs s]).length : Int) == 8)=true:=by simp; omega
          refine p1 ?_ c8
          refine GOH (rfails_hf _ oR 4) id rfl rfl ⟨rfl,trivial⟩ rfl (id_lt rfl) ?_
          rintro g σ' n' ⟨rfl,rfl,rfl⟩
          exact ⟨(),id,⟨⟨rfl,rfl,trivial⟩,⟨by rw [rlim,if_pos ha]; rfl,rfl,rfl,trivial⟩,rfl⟩,trivial⟩
         ·have c8 : (((acc.map fun s=>[gs s]).length : Int) == 8)=false:=by simp; omega
          refine p2 ?_ c8
          exact ⟨(),id,⟨⟨rfl,rfl,trivial⟩,⟨by rw [rlim,if_neg ha]; rfl,rfl,rfl,trivial⟩,rfl⟩,trivial⟩
        rintro _ _
        have hN1 : rnm acc r'=rname (rlim acc.length r'):=rfl
        rw [hN1] at hrd
        have hnh:=rname_hf o1
        have o2':=o1.name
        have hl2:=rname_len (rlim acc.length r')
        generalize (rname (rlim acc.length r')).1=nm at hrd hnh
        generalize (rname (rlim acc.length r')).2=r2' at hrd hnh o2' hl2
        refine V ?_
        show JK _ _ _ _
        refine JK.drawJ [0,3,4] ⟨[(0,.p 0 0),(11,.p 3 0)],[(0,.blk 102 [tks (r2').l,gi (r2').e,gi (r2').p]),(3,.blk 74 [gi (8 + (j : Int)),gi 0,.sl 3 [],gi 0,.o 4,.r [gi c,gi nn,.sl 3 (mm.map mt),gi sp,.sl 1 (ns.map fun s=>[gs s]),qG ql,qG qr],.v (.pointer none)]),(4,.row 9 1 ((acc++[nm]).map fun s=>[gs s]))],5⟩ pg_ok ?_ (fun hk=>?_)
        ·refine V ?_
         rcases tf (rsee (bS [44]) r2') with hcm | hcm
         ·have h2o : r2'.ok=true:=by
           rcases tf r2'.ok with h | h
           ·exact h
           ·rw [rsee_bad h] at hcm; cases hcm
          rw [if_pos h2o] at hrd
          obtain ⟨l',z1,z2,z3,z4,z5⟩:=hrd
          have hct : takesP (bS [44]) l'=true:=by rw [← rsee_good z2,← z1]; exact hcm
          rw [if_pos hct] at z5
          have hz : l'.tail.length=l'.length - 1:=by simp
          have hlz : r2'.l.length=l'.length:=by rw [z1]; rfl
          refine GOH (take_yes o2' hcm) id rfl rfl ⟨rfl,trivial⟩ rfl (id_lt rfl) ?_
          rintro g σ' n' ⟨rfl,rfl,rfl⟩
          refine ⟨(acc++[nm],rtail r2',f'),id,⟨⟨rfl,rfl,trivial⟩,⟨rfl,rfl,rfl,trivial⟩,rfl⟩,⟨o2'.tl (see_k hcm),by show (rtail r2').l.length≤_; rw [rtail_len]; omega,by simp; omega,fun _=>⟨h2o,by show (rtail r2').l.length < f'; rw [rtail_len]; omega,?_⟩,fun h=>absurd h5o (by rw [h]; exact Bool.false_ne_true)⟩,by show (rtail r2').l.length < r'.l.length; rw [rtail_len]; omega⟩
          rw [z5,z1]
          rfl
         ·refine GOH (take_no o2' hcm) id rfl rfl ⟨rfl,trivial⟩ rfl (id_lt rfl) ?_
          rintro g σ' n' ⟨rfl,rfl,rfl⟩
          refine ⟨(acc++[nm],r2'),id,⟨⟨rfl,rfl,trivial⟩,⟨rfl,rfl,rfl,trivial⟩,rfl⟩,⟨o2',by show r2'.l.length≤_; omega,fun _=>?_,fun h=>absurd h5o (by rw [h]; exact Bool.false_ne_true)⟩⟩
          show Agr N (acc++[nm]) r2'
          by_cases h2o : r2'.ok=true
          ·rw [if_pos h2o] at hrd
           obtain ⟨l',z1,z2,z3,z4,z5⟩:=hrd
           have hct : takesP (bS [44]) l'=false:=by rw [← rsee_good z2,← z1]; exact hcm
           rw [if_neg (by rw [hct]; exact Bool.false_ne_true)] at z5
           rw [z5]
           exact ⟨rfl,z1⟩
          ·rw [if_neg h2o] at hrd
           rw [hrd]
           exact ⟨rfl,rfl,by simpa using h2o⟩
        ·refine RA.run (cx:=⟨pg,_,_,_,_,_,_,_⟩) pg_ok (by kernel_rfl) (by intro _ _ h; exact h) (tk [0,1,2,3,5]) (e:=false) (by kernel_rfl) ?_
         refine RA.both 4 6 (eqB_eq (by kernel_rfl)) (Stp.read 4 pg_ok rfl rfl ?_) (Stp.hf 6 hnh id rfl rfl rfl ⟨rfl,trivial⟩ rfl (id_lt rfl) ?_)
         ·refine RGOH 6 false (al [7,8]++tk [9,10]++al [11]) hnh id rfl rfl rfl ⟨rfl,trivial⟩ rfl (id_lt rfl) (by kernel_rfl) ?_
          rintro g σ' n' ⟨rfl,rfl,rfl⟩
          refine ⟨by simp; omega,?_⟩
          exact RA.endJ (fun i=>bif Nat.beq i 4 then 6 else i) (by kernel_rfl) hk ⟨⟨rfl,rfl,trivial⟩,⟨rfl,rfl,congrArg (fun x=>some (Res.row 9 1 x)) (List.map_append (l₁:=acc) (l₂:=[nm])).symm,trivial⟩,rfl⟩
         ·rintro g σ' n' ⟨rfl,rfl,rfl⟩
          refine RA.both 4 7 (eqB_eq (by kernel_rfl)) (Stp.read 4 pg_ok rfl rfl ?_) (Stp.mem 7 pg_ok rfl rfl rfl ?_)
          ·refine RA.run (cx:=⟨pg,_,_,_,_,_,_,_⟩) pg_ok (by kernel_rfl) (by intro _ _ h; exact h) (al [7,8]++tk [9,10]++al [11]) (e:=false) (by kernel_rfl) ?_
           refine ⟨by simp; omega,?_⟩
           exact RA.endJ (fun i=>bif Nat.beq i 4 then 6 else i) (by kernel_rfl) hk ⟨⟨rfl,rfl,trivial⟩,⟨rfl,rfl,congrArg (fun x=>some (Res.row 9 1 x)) (List.map_append (l₁:=acc) (l₂:=[nm])).symm,trivial⟩,rfl⟩
          ·refine RA.run (cx:=⟨pg,_,_,_,_,_,_,_⟩) pg_ok (by kernel_rfl) (by intro _ _ h; exact h) (al [4,8]++tk [9,10]++al [11]) (e:=false) (by kernel_rfl) ?_
           refine ⟨by simp; omega,?_⟩
           exact RA.endJ (fun i=>bif Nat.beq i 4 then 6 else i) (by kernel_rfl) hk ⟨⟨rfl,rfl,trivial⟩,⟨rfl,rfl,congrArg (fun x=>some (Res.row 9 1 x)) (List.map_append (l₁:=acc) (l₂:=[nm])).symm,trivial⟩,rfl⟩
       ·refine GOH (rok_b ho') id rfl rfl ⟨rfl,trivial⟩ rfl (id_lt rfl) ?_
        rintro g σ' n' ⟨rfl,rfl,rfl⟩
        exact ⟨(acc,r'),id,⟨⟨rfl,rfl,trivial⟩,⟨rfl,rfl,rfl,trivial⟩,rfl⟩,⟨oR,hlR,fun h=>(by rw [(hgR h).1] at ho'; cases ho'),hbR⟩⟩
      ·rintro ⟨ns2,r6⟩ ⟨o6,hl6,hg6,hb6⟩
       replace o6 : RdOk r6:=o6
       replace hl6 : r6.l.length≤r5.l.length:=hl6
       replace hg6 : r5.ok=true→Agr N ns2 r6:=hg6
       replace hb6 : r5.ok=false→r6=r5:=hb6
       rw [← hN] at hg6
       have fb:=by_fin (k:=j) (q:=(.mk c nn mm sp ns ql qr)) ht4 o4t.toks hr5.symm o6 hg6 hb6 rfl
       have f1:=hfin (.mk (8 + j) 0 [] 0 ns2 (.mk c nn mm sp ns ql qr) .nil) (rmust (bS [41]) r6) (fun h=>by rw [ho4] at h; cases h) (fun _=>fb)
       have a7:=rmust_len (bS [41]) r6
       refine FRZ 4 rfl ?_
       show JK _ _ _ _
       refine JK.freezeB 3 rfl rfl ?_
       refine V ?_
       refine GOH (rmust_hf o6 (bS [41])) id rfl rfl ⟨rfl,trivial⟩ rfl (id_lt rfl) ?_
       rintro g σ' n' ⟨rfl,rfl,rfl⟩
       exact ⟨_,_,end_ _ _ (o6.must _) (by omega) f1 (by simp),rfl,rfl,⟨rfl,trivial⟩⟩
     ·refine GOJ (take_no o4 hby) id rfl rfl ⟨rfl,trivial⟩ rfl (id_lt rfl) ?_
      rintro g σ' n' ⟨rfl,rfl,rfl⟩
      refine JK.subBlk 3 [gi (8 + (j : Int)),gi 0,.sl 3 [],gi 0,.sl 1 [],.r [gi c,gi nn,.sl 3 (mm.map mt),gi sp,.sl 1 (ns.map fun s=>[gs s]),qG ql,qG qr],.v (.pointer none)] rfl (sv7 Sub.rfl Sub.rfl (Sub.nil 1)) ?_
      refine JK.freezeB 3 rfl rfl ?_
      refine V ?_
      have f1:=hfin (.mk (8 + j) 0 [] 0 [] (.mk c nn mm sp ns ql qr) .nil) r4 (fun _=>rfl) (fun h4=>by
       have h5 : takesP (bS [98,121]) r4.l=false:=by rw [← rsee_good o4.toks,← o4.good h4]; exact hby
       rw [byP,if_neg (by rw [h5]; exact Bool.false_ne_true)]
       exact ⟨rfl,o4.good h4⟩)
      exact ⟨_,_,end_ _ _ o4 (by omega) f1 (by simp),rfl,rfl,⟨rfl,trivial⟩⟩
   ·refine GOH (take_no hr hs) id rfl rfl ⟨rfl,trivial⟩ rfl (id_lt rfl) ?_
    rintro g σ' n' ⟨rfl,rfl,rfl⟩
    refine ⟨j + 1,id,⟨⟨rfl,rfl,rfl,rfl,succ_gi (by omega),trivial⟩,⟨rfl,trivial⟩,rfl⟩,⟨hjl,fun i hi h=>?_⟩,by show 4 - (j + 1) < 4 - j; omega⟩
    rcases Nat.lt_succ_iff_lt_or_eq.1 h with h' | h'
    ·exact hno i hi h'
    ·subst h'
     rw [← hme _ hne]
     exact hs
  ·refine p2 ?_ (decide_eq_false (by omega))
   refine ⟨(),id,⟨⟨rfl,rfl,trivial⟩,⟨rfl,trivial⟩,rfl⟩,?_⟩
   show (allsL.findIdx? fun s=>isP s (t0 :: l0))=none
   rw [List.findIdx?_eq_none_iff]
   intro s hs
   obtain ⟨i,hi,rfl⟩:=List.getElem_of_mem hs
   exact hno i hi (by have : i < 4:=hi; omega)
 rintro _ hfo
 replace hfo : (allsL.findIdx? fun s=>isP s (t0 :: l0))=none:=hfo
 simp only [hfo] at hoe
 refine V ?_
 refine GOH (rfails_hf _ hr 3) id rfl rfl ⟨rfl,trivial⟩ rfl (id_lt rfl) ?_
 rintro g σ' n' ⟨rfl,rfl,rfl⟩
 have hno : (rfail 3 ⟨t0 :: l0,re,rp⟩).ok=false:=by rw [rfail,if_pos ho]; rfl
 refine ⟨.nil,_,relq ho (hr.fails (by decide)) (by rw [rfail_l]; exact Nat.le_refl _) (fun h=>by rw [hno] at h; cases h) ?_ (fun h=>by rw [hno] at h; cases h),rfl,rfl,⟨rfl,trivial⟩⟩
 rw [hoe]
 have:=Agr.fail (α:=Qn) (e:=3) (by decide) (t0 :: l0) .nil
 rwa [show goodR (t0 :: l0)=(⟨t0 :: l0,re,rp⟩ : Rd) from hg.symm] at this
theorem one_all : ∀ f n,n≤9→OneOk f n:=by
 intro f
 induction f using Nat.strongRecOn with
 | _ f ih =>
  intro n hn
  cases f with
  | zero =>
   intro r hr hl hf
   obtain ⟨t,l,e⟩:=tks_cons hr
   rw [e] at hf
   simp at hf
  | succ f=>exact one_step f n (by omega) fun f' hf' n' hn'=>ih f' hf' n' hn'
theorem rsum_hf (r : Rd) (hr : RdOk r) (hl : r.l.length≤300) : Hf pg 44 1 [.p 0 0,gi 0] (rs r) (fun g σ m=>∃ q r',RelQ (fun l=>sumP (3 * r.l.length + 3) 0 l) r q r'∧g=qG q∧σ=rs r'∧m=1) :=
 sum_of (n:=0) (fun f' _=>one_all f' 0 (Nat.zero_le _)) r hr hl (Nat.le_refl _)
end Go.Proofs.YtkoalgjlkcaonaaGreatDoor
