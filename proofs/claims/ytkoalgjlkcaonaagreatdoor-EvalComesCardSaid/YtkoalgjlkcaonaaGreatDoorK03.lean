/-
  The ghost machine: rows of the call's own: written out, and appended to.
-/
import Derived.Test.YtkoalgjlkcaonaaGreatDoorK02
import Derived.Maps.AppendAt
import Derived.Maps.RangeRun
set_option linter.unusedSimpArgs false
namespace Go.GK
open Go.RowKit

section
variable {p : Pg} {H : Hid} {ρ : Env} {σ : Heap} {a : Act} {w : World}

mutual
theorem Is.toR : ∀ {g : GV} {u : Value},Is H g u→idb 0 g=true→IsR H.ro g u
 | .v x,u,h,_=>by have:=h.inv_v; subst this; exact .v _
 | .b c,u,h,_=>by have:=h.inv_b; subst this; exact .b _
 | .p id off,u,_,hb=>by simp [idb] at hb
 | .e id sz i off,u,_,hb=>by simp [idb] at hb
 | .o id,u,_,hb=>by simp [idb] at hb
 | .r cs,u,h,_=>by cases h with | ro h=>exact h
 | .sl sz rows,u,h,_=>by cases h with | ro h=>exact h
 | .agg cs,u,h,hb=>by
  simp only [idb] at hb
  obtain ⟨us,rfl,hl,hi⟩:=h.inv_agg
  exact .agg hl (Is.toRL cs hi hb)
 | .tup cs,u,h,hb=>by
  simp only [idb] at hb
  obtain ⟨us,rfl,hl,hi⟩:=h.inv_tup
  exact .tup hl (Is.toRL cs hi hb)
 | .fn f aas cs,u,h,hb=>by
  simp only [idb,Bool.and_eq_true] at hb
  obtain ⟨us,vs,rfl,hl,hi,hl',hi'⟩:=h.inv_fn
  exact .fn hl (Is.toRL aas hi hb.1) hl' (Is.toRL cs hi' hb.2)
 | .ifc t x,u,h,hb=>by
  simp only [idb] at hb
  obtain ⟨v,rfl,hi⟩:=h.inv_ifc
  exact .ifc (Is.toR hi hb)
theorem Is.toRL {F : Nat→Value} : ∀ (l : List GV),(∀ (j : Nat) (g : GV),l[j]?=some g→Is H g (F j))→idbL 0 l=true→∀ (j : Nat) (g : GV),l[j]?=some g→IsR H.ro g (F j)
 | [],_,_,j,g,hj=>by simp at hj
 | x :: r,h,hb,0,g,hj=>by
  simp [idbL] at hb
  simp at hj
  subst hj
  exact Is.toR (h 0 _ rfl) hb.1
 | x :: r,h,hb,j + 1,g,hj=>by
  simp [idbL] at hb
  exact Is.toRL (F:=fun j=>F (j + 1)) r (fun j g hj=>h (j + 1) g (by simpa using hj)) hb.2 j g (by simpa using hj)
end

theorem fill_seq (sz : Nat) : ∀ (vs : List (Nat × Value)) (k : Nat) (us : Array Value),(∀ (m : Nat) (x : Nat × Value),vs[m]?=some x→x.1=k + m∧x.2.cells.size=sz)→(k + vs.length) * sz≤us.size →
  ∃ us',Instr.fill (fun i=>some (i * sz,sz)) us vs=some us'∧us'.size=us.size∧(∀ i,i < k * sz→us'.getD i undef=us.getD i undef) ∧
   ∀ (m : Nat) (x : Nat × Value),vs[m]?=some x→∀ j,j < sz→us'.getD ((k + m) * sz + j) undef=x.2.cells.getD j undef
 | [],k,us,_,_=>⟨us,rfl,rfl,fun _ _=>rfl,by simp⟩
 | (i,v) :: vs,k,us,hv,hl=>by
  obtain ⟨hi,hs⟩:=hv 0 (i,v) rfl
  simp only [Nat.add_zero] at hi hs
  subst hi
  obtain ⟨f1,f2⟩:=foldl_set v.cells.toList 0 (i * sz) us
  have hlen : v.cells.toList.length=sz:=by simpa using hs
  simp only [List.length_cons] at hl
  have hmul : (i + (vs.length + 1)) * sz=i * sz + sz + vs.length * sz:=by rw [Nat.add_mul,Nat.add_mul]; omega
  have hone : (i + 1) * sz=i * sz + sz:=by rw [Nat.add_mul]; omega
  have e : v.cells.zipIdx.foldl (fun cs (c,j)=>cs.setIfInBounds (i * sz + j) c) us=(v.cells.toList.zipIdx 0).foldl (fun cs (x : Value × Nat)=>cs.setIfInBounds (i * sz + x.2) x.1) us:=by
   rw [← Array.foldl_toList,Array.toList_zipIdx]
  obtain ⟨us',h1,h2,h3,h4⟩:=fill_seq sz vs (i + 1) ((v.cells.toList.zipIdx 0).foldl (fun cs (x : Value × Nat)=>cs.setIfInBounds (i * sz + x.2) x.1) us)
   (fun m x hm=>by have:=hv (m + 1) x (by simpa using hm); exact ⟨by omega,this.2⟩) (by rw [f1,Nat.add_mul,hone]; omega)
  refine ⟨us',?_,by rw [h2,f1],fun j hj=>?_,fun m x hm j hj=>?_⟩
  ·unfold Instr.fill
   simp only
   rw [if_neg (by simp [hs]; omega),e]
   exact h1
  ·rw [h3 j (by omega),f2 j (by omega),if_neg (by omega)]
  ·cases m with
   | zero =>
    simp at hm
    subst hm
    simp only [Nat.add_zero]
    rw [h3 _ (by omega),f2 _ (by omega),if_pos (by omega)]
    have : i * sz + j - (i * sz + 0)=j:=by omega
    rw [this]
    simp [List.getD,Array.getD_eq_getD_getElem?]
   | succ m =>
    have:=h4 m x (by simpa using hm) j hj
    rwa [show i + 1 + m=i + (m + 1) by omega] at this

theorem seqB_spec {sz : Nat} : ∀ {k : Nat} {gs : List (Nat × GV)},seqB sz k gs=true→∀ (m i : Nat) (g : GV),gs[m]?=some (i,g)→i=k + m∧(cellsOf g).length=sz∧allOne (cellsOf g)=true∧idbL 0 (cellsOf g)=true
 | _,[],_,m,i,g,hm=>by simp at hm
 | k,(i0,g0) :: r,h,m,i,g,hm=>by
  simp only [seqB,Bool.and_eq_true] at h
  obtain ⟨⟨⟨⟨h1,h2⟩,h3⟩,h4⟩,h5⟩:=h
  cases m with
  | zero=>simp at hm; obtain ⟨rfl,rfl⟩:=hm; exact ⟨by simpa using (beq_eq h1).symm,beq_eq h2,h3,h4⟩
  | succ m=>have:=seqB_spec h5 m i g (by simpa using hm); exact ⟨by omega,this.2⟩

theorem Sim.newRow {cx : Cx} {s : St} (h : Sim cx H s w) {ty sz : Nat} {rows : List (List GV)} {us : Array Value} (hr : RowOk H.ro sz rows us.toList) (hm : rows.length≤maxLen) (ρ : Env) :
  Sim cx (H.more w.heap.size (.slice (some ⟨w.heap.size,0,none⟩) rows.length rows.length)) { ρ:=ρ,σ:=(s.n,.row ty sz rows) :: s.σ,n:=s.n + 1 } (w.alloc (.cells us ty)) ∧
   Is (H.more w.heap.size (.slice (some ⟨w.heap.size,0,none⟩) rows.length rows.length)) (.o s.n) (.slice (some ⟨w.heap.size,0,none⟩) rows.length rows.length):=by
 have hle:=H.le_more w.heap.size (.slice (some ⟨w.heap.size,0,none⟩) rows.length rows.length)
 have e : (H.more w.heap.size (.slice (some ⟨w.heap.size,0,none⟩) rows.length rows.length)).sv s.n=.slice (some ⟨w.heap.size,0,none⟩) rows.length rows.length:=by simp [Hid.more,h.n]
 refine ⟨h.grow hle rfl (by simp [Hid.more,h.n]) ((Below.refl _ _).alloc (Nat.le_refl _) _) ?_ (by simp [blocks,e,Value.ownBlock]) (by simp [blocks,e,Value.ownBlock]) ρ,.o (by simp [Hid.more,h.n]) e rfl⟩
 refine ⟨us.toList,?_,hr.mono hle.ro⟩
 rw [e]
 refine ⟨by simpa using hr.len,.inr ⟨w.heap.size,rows.length,us,rfl,Nat.zero_le _,heap_alloc_new w _,Nat.le_refl _,hm,by simpa using hr.len,?_⟩⟩
 rw [← hr.len]
 exact List.take_of_length_le (by simp)

theorem run_buildSlice_of {t e : Nat} {ti : TI} (hu : p.P.underlying t=some (.slice e)) (hti : TyOk p.P e ti) {gs : List (Nat × GV)} {vs : Array (Nat × Value)} {len : Nat} (hl : gs.length=vs.size)
  (hi : ∀ (j : Nat) i g,gs[j]?=some (i,g)→∃ v,vs.toList[j]?=some (i,v)∧Is H g v) (hq : seqB ti.sz 0 gs=true) (hlen : gs.length=len) (hbig : len * ti.sz≤16777216) (hsz : 0 < ti.sz) :
  ∃ us : Array Value,(Instr.buildSlice t len vs).run p.P w=.ok (.slice (some ⟨w.heap.size,0,none⟩) len len) (w.alloc (.cells us e))∧RowOk H.ro ti.sz (gs.map fun x=>cellsOf x.2) us.toList:=by
 obtain ⟨it,z,hit,hsi,_,hz,hzc,hzl⟩:=hti.info
 have hspec:=seqB_spec hq
 have hvs : ∀ (m : Nat) (x : Nat × Value),vs.toList[m]?=some x→∃ g,gs[m]?=some (x.1,g)∧Is H g x.2:=by
  intro m x hm
  have hlt : m < gs.length:=by have:=(List.getElem?_eq_some_iff.1 hm).1; simp at this; omega
  have hgm : gs[m]?=some ((gs[m]'hlt).1,(gs[m]'hlt).2):=by rw [List.getElem?_eq_getElem hlt]
  obtain ⟨v,hv,his⟩:=hi m _ _ hgm
  rw [hv] at hm
  simp at hm
  subst hm
  exact ⟨_,hgm,his⟩
 let zs : Array Value:=if len * ti.sz=0 then #[] else z.cells
 have hinit : ((Array.range (len * ti.sz)).map (zs[· % zs.size]!)).size=len * ti.sz:=by simp
 obtain ⟨us,h1,h2,_,h4⟩:=fill_seq ti.sz vs.toList 0 ((Array.range (len * ti.sz)).map (zs[· % zs.size]!)) (fun m x hm=>by
  obtain ⟨g,hg,his⟩:=hvs m x hm
  obtain ⟨a1,a2,_⟩:=hspec m _ _ hg
  exact ⟨a1,by rw [← (cells_is his).1]; exact a2⟩) (by rw [hinit]; simp; rw [← hl,hlen]; exact Nat.le_refl _)
 refine ⟨us,?_,?_⟩
 ·have hnb : ¬ len * ti.sz > 2 ^ 24:=by omega
  simp only [Instr.buildSlice,Sem.run_bind,run_under hu,Result.andThen_ok,hti.size]
  rw [if_neg hnb]
  by_cases h0 : len * ti.sz=0
  ·have hz0 : zs=#[]:=by simp [zs,h0]
   rw [hz0] at h1
   simp only [h0,↓reduceIte,Sem.run_bind,Sem.run_pure,Result.andThen_ok] at h1 ⊢
   rw [h1]
   simp [newRow]
  ·have hz0 : zs=z.cells:=by simp [zs,h0]
   rw [hz0] at h1
   simp only [h0,↓reduceIte,Sem.run_bind,Sem.run_pure,Result.andThen_ok,zeroValue,run_tinfo hit,hz]
   rw [h1]
   simp [newRow]
 ·refine ⟨by simp [h2,hlen],fun row hr=>?_,fun i row hr j g hj=>?_,fun u hu=>?_⟩
  ·obtain ⟨x,hx,rfl⟩:=List.mem_map.1 hr
   obtain ⟨m,hm⟩:=List.getElem?_of_mem hx
   exact (hspec m x.1 x.2 hm).2.1
  ·simp only [List.getElem?_map,Option.map_eq_some_iff] at hr
   obtain ⟨x,hx,rfl⟩:=hr
   obtain ⟨v,hv,his⟩:=hi i x.1 x.2 hx
   obtain ⟨_,a2,_,a4⟩:=hspec i x.1 x.2 hx
   have hjlt : j < ti.sz:=by rw [← a2]; exact (List.getElem?_eq_some_iff.1 hj).1
   have:=h4 i (x.1,v) hv j hjlt
   simp only [Nat.zero_add] at this
   have hilt : i < len:=by rw [← hlen]; exact (List.getElem?_eq_some_iff.1 hx).1
   have hlt : i * ti.sz + j < us.size:=by
    rw [h2,hinit]
    have:=Nat.mul_le_mul_right ti.sz (show i + 1≤len by omega)
    rw [Nat.add_mul] at this
    omega
   have hc:=cells_is his
   refine ⟨us.getD (i * ti.sz + j) undef,by simp [Array.getD,hlt],?_⟩
   rw [this]
   exact Is.toRL (F:=fun j=>v.cells.getD j undef) _ hc.2 a4 j g hj
  ·obtain ⟨k,hk⟩:=List.getElem?_of_mem hu
   have hkl : k < us.size:=by have:=(List.getElem?_eq_some_iff.1 hk).1; simpa using this
   have hdiv : k=k / ti.sz * ti.sz + k % ti.sz:=by rw [Nat.mul_comm]; exact (Nat.div_add_mod _ _).symm
   have hmod:=Nat.mod_lt k hsz
   have hdl : k / ti.sz < len:=by
    rw [Nat.div_lt_iff_lt_mul hsz]
    rw [h2,hinit] at hkl
    exact hkl
   have hx : gs[k / ti.sz]?=some ((gs[k / ti.sz]'(by omega)).1,(gs[k / ti.sz]'(by omega)).2):=by rw [List.getElem?_eq_getElem (by omega)]
   obtain ⟨v,hv,his⟩:=hi _ _ _ hx
   obtain ⟨_,a2,a3,_⟩:=hspec _ _ _ hx
   have hc:=cells_is his
   have:=h4 _ _ hv (k % ti.sz) hmod
   simp only [Nat.zero_add] at this
   rw [← hdiv] at this
   have hcl : k % ti.sz < v.cells.size:=by rw [← hc.1,a2]; exact hmod
   have hu' : u=us.getD k undef:=by
    simp at hk
    obtain ⟨hh,he⟩:=Array.getElem?_eq_some_iff.1 hk
    simp [Array.getD,hkl,he]
   rw [hu',this]
   refine allOne_one hc a3 _ ?_
   simp [Array.getD,hcl]

theorem RowOk.append {ro : Nat→Option Obj} {sz : Nat} {r1 r2 : List (List GV)} {x1 x2 : List Value} (h : RowOk ro sz r1 x1) (k : RowOk ro sz r2 x2) : RowOk ro sz (r1++r2) (x1++x2):=by
 refine ⟨by simp [h.len,k.len,Nat.add_mul],fun row hr=>?_,fun i row hr j g hj=>?_,fun u hu=>?_⟩
 ·rcases List.mem_append.1 hr with h1 | h1
  ·exact h.each row h1
  ·exact k.each row h1
 ·by_cases hlt : i < r1.length
  ·rw [List.getElem?_append_left hlt] at hr
   obtain ⟨u,hu,his⟩:=h.is i row hr j g hj
   exact ⟨u,by rw [List.getElem?_append_left (List.getElem?_eq_some_iff.1 hu).1]; exact hu,his⟩
  ·rw [List.getElem?_append_right (by omega)] at hr
   obtain ⟨u,hu,his⟩:=k.is _ row hr j g hj
   refine ⟨u,?_,his⟩
   have e : i * sz + j=x1.length + ((i - r1.length) * sz + j):=by
    rw [h.len,Nat.sub_mul]
    have:=Nat.mul_le_mul_right sz (show r1.length≤i by omega)
    omega
   rw [e,List.getElem?_append_right (by omega)]
   rw [show x1.length + ((i - r1.length) * sz + j) - x1.length=(i - r1.length) * sz + j by omega]
   exact hu
 ·rcases List.mem_append.1 hu with h1 | h1
  ·exact h.one u h1
  ·exact k.one u h1

theorem RowOk.nil {ro : Nat→Option Obj} {sz : Nat} : RowOk ro sz [] []:=⟨by simp,by simp,by simp,by simp⟩

theorem srcRows_spec (hs : Sat H σ w) {ty sz : Nat} {g : GV} {u : Value} (h : Is H g u) {rows : List (List GV)} (hr : srcRows σ ty sz g=some rows) (hsz : 0 < sz) :
  ∃ (A : Option Addr) (c : Nat) (xs : List Value),u=.slice A rows.length c∧RowOk H.ro sz rows xs∧(A=none→rows=[])∧∀ ad,A=some ad→∀ j v,xs[j]?=some v→w.cell? (ad.add j)=some v:=by
 unfold srcRows at hr
 split at hr
 ·simp at hr
  subst hr
  exact ⟨none,0,[],h.inv_v,.nil,fun _=>rfl,by simp⟩
 ·rename_i z rows'
  cases hb : Nat.beq z sz with
  | false=>rw [hb] at hr; cases hr
  | true =>
   rw [hb] at hr
   simp at hr
   subst hr
   have:=beq_eq hb
   subst this
   obtain ⟨A,c,us,rfl,hc,hm,he,hne⟩:=h.inv_sl.inv_sl
   by_cases h0 : rows'=[]
   ·subst h0
    exact ⟨A,c,[],rfl,.nil,fun _=>rfl,by simp⟩
   ·obtain ⟨ad,rfl,h1,h2,h3⟩:=hne h0
    have hget : ∀ k,k < rows'.length * z→((List.range (rows'.length * z)).map fun k=>us (k / z) (k % z))[k]?=some (us (k / z) (k % z)):=fun k hk=>by simp [hk]
    have hkk : ∀ i j,j < z→(i * z + j) / z=i∧(i * z + j) % z=j:=fun i j hj=>by
     rw [Nat.mul_comm]
     exact ⟨by rw [Nat.mul_add_div hsz]; simp [Nat.div_eq_of_lt hj],by rw [Nat.mul_add_mod]; exact Nat.mod_eq_of_lt hj⟩
    have hbound : ∀ i j,i < rows'.length→j < z→i * z + j < rows'.length * z:=fun i j hi hj=>by
     have:=Nat.mul_le_mul_right z (show i + 1≤rows'.length by omega)
     rw [Nat.add_mul] at this
     omega
    refine ⟨some ad,c,(List.range (rows'.length * z)).map fun k=>us (k / z) (k % z),rfl,⟨by simp,he,fun i row hr j g hj=>?_,fun v hv=>?_⟩,by simp,fun ad' e j v hj=>?_⟩
    ·have hi:=(List.getElem?_eq_some_iff.1 hr).1
     have hj' : j < z:=by rw [← he row (List.mem_of_getElem? hr)]; exact (List.getElem?_eq_some_iff.1 hj).1
     obtain ⟨e1,e2⟩:=hkk i j hj'
     refine ⟨us i j,?_,h2 i row hr j g hj⟩
     rw [hget _ (hbound i j hi hj'),e1,e2]
    ·obtain ⟨k,_,rfl⟩:=List.mem_map.1 hv
     exact h3 _ _
    ·injection e with e
     subst e
     have hjl:=(List.getElem?_eq_some_iff.1 hj).1
     simp at hjl
     rw [hget j hjl] at hj
     injection hj with hj
     subst hj
     have hdiv : j=j / z * z + j % z:=by rw [Nat.mul_comm]; exact (Nat.div_add_mod _ _).symm
     have hmod:=Nat.mod_lt j hsz
     have hdl : j / z < rows'.length:=by rw [Nat.div_lt_iff_lt_mul hsz]; exact hjl
     have hrow : rows'[j / z]?=some (rows'[j / z]'hdl):=List.getElem?_eq_getElem hdl
     have hrl:=he _ (List.mem_of_getElem? hrow)
     have hcl : (rows'[j / z]'hdl)[j % z]?=some ((rows'[j / z]'hdl)[j % z]'(by omega)):=List.getElem?_eq_getElem _
     have:=h1 _ _ hrow _ _ hcl
     rw [← hdiv] at this
     exact roCell_cell hs.ro this
 ·rename_i id
  split at hr
  ·rename_i t z rows' hl
   cases hb : Nat.beq t ty with
   | false=>rw [hb] at hr; cases hr
   | true =>
    cases hb2 : Nat.beq z sz with
    | false=>rw [hb,hb2] at hr; cases hr
    | true =>
     rw [hb,hb2] at hr
     simp at hr
     subst hr
     have:=beq_eq hb2
     subst this
     obtain ⟨hv,hid⟩:=h.inv_o
     obtain ⟨xs,hown,hrow⟩:=hs.holds _ (hlook_mem hl)
     rcases hown.2 with ⟨e,hn⟩ | ⟨g,cap,cur,e,_,hh,hnc,hcm,hcs,htake⟩
     ·have hr0 : rows'=[]:=List.eq_nil_of_length_eq_zero hn
      subst hr0
      have hx0 : xs=[]:=List.eq_nil_of_length_eq_zero (by simpa using hown.1)
      subst hx0
      exact ⟨none,0,[],by rw [hv,e]; rfl,.nil,fun _=>rfl,by simp⟩
     ·refine ⟨some ⟨g,0,none⟩,cap,xs,by rw [hv,e],hrow,by simp,fun ad ea j v hj=>?_⟩
      injection ea with ea
      subst ea
      exact hown.cells (g:=g) (by rw [e]; rfl) j v hj
  ·cases hr
 ·cases hr

theorem dstRows_spec (hs : Sat H σ w) {ty sz : Nat} {g : GV} {u : Value} (h : Is H g u) {rows : List (List GV)} {σ' : Heap} (hr : dstRows σ ty sz g=some (rows,σ')) :
  ∃ xs,w.ownsRow 0 ty sz u rows.length xs∧RowOk H.ro sz rows xs∧(∀ b ∈ u.ownBlock.toList,b ∈ blks H σ)∧(∀ x ∈ σ',x ∈ σ)∧(blks H σ').Nodup∧∀ b ∈ u.ownBlock.toList,b ∉ blks H σ':=by
 unfold dstRows at hr
 split at hr
 ·simp at hr
  obtain ⟨rfl,rfl⟩:=hr
  have:=h.inv_v
  subst this
  exact ⟨[],World.ownsRow_nil w 0 ty sz,.nil,by simp [Value.ownBlock],fun x hx=>hx,hs.nodup,by simp [Value.ownBlock]⟩
 ·rename_i id
  split at hr
  ·rename_i t z rows' hl
   cases hb : Nat.beq t ty with
   | false=>rw [hb] at hr; cases hr
   | true =>
    cases hb2 : Nat.beq z sz with
    | false=>rw [hb,hb2] at hr; cases hr
    | true =>
     rw [hb,hb2] at hr
     simp at hr
     obtain ⟨rfl,rfl⟩:=hr
     have e1:=beq_eq hb
     have e2:=beq_eq hb2
     subst e1
     subst e2
     obtain ⟨hv,hid⟩:=h.inv_o
     obtain ⟨xs,hown,hrow⟩:=hs.holds _ (hlook_mem hl)
     rw [← hv] at hown
     obtain ⟨l1,l2,es,ed,_⟩:=hlook_split hl
     have hnd:=hs.nodup
     rw [es,blks_append,blks_cons] at hnd
     have n1:=List.nodup_append.1 hnd
     have n2:=List.nodup_append.1 n1.2.1
     have hblk : blocks H (id,Res.row t z rows')=u.ownBlock.toList:=by simp [blocks,hv]
     refine ⟨xs,hown,hrow,fun b hb=>?_,fun x hx=>?_,?_,fun b hb hc=>?_⟩
     ·rw [es,blks_append,blks_cons,hblk]
      simp only [List.mem_append]
      exact .inr (.inl hb)
     ·rw [ed] at hx
      rw [es]
      rcases List.mem_append.1 hx with h1 | h1
      ·exact List.mem_append.2 (.inl h1)
      ·exact List.mem_append.2 (.inr (List.mem_cons_of_mem _ h1))
     ·rw [ed,blks_append]
      exact List.nodup_append.2 ⟨n1.1,n2.2.1,fun b hb c hc=>n1.2.2 b hb c (List.mem_append.2 (.inr hc))⟩
     ·rw [ed,blks_append] at hc
      rw [hblk] at n1 n2
      rcases List.mem_append.1 hc with h1 | h1
      ·exact n1.2.2 b h1 b (List.mem_append.2 (.inl hb)) rfl
      ·exact n2.2.2 b hb b h1 rfl
  ·cases hr
 ·cases hr

theorem Sim.append {cx : Cx} {s : St} (hs : Sim cx H s w) {t e : Nat} {ti : TI} (hu : p.P.underlying t=some (.slice e)) (hti : TyOk p.P e ti) (hsz : 0 < ti.sz) (hby : 0 < ti.by_) {gd gx : GV} {ud ux : Value} (hd : Is H gd ud) (hx : Is H gx ux)
  {rows news : List (List GV)} {σ' : Heap} (hdr : dstRows s.σ e ti.sz gd=some (rows,σ')) (hxr : srcRows s.σ e ti.sz gx=some news) (hb : (rows.length + news.length) * ti.by_≤140737488355328) (ρ : Env) :
  ∃ H' u w',H.le H'∧(Builtin.append_ #[t,t] 0 #[ud,ux]).run p.P w=.ok u w'∧Is H' (.o s.n) u∧Sim cx H' { ρ:=ρ,σ:=(s.n,.row e ti.sz (rows++news)) :: σ',n:=s.n + 1 } w':=by
 obtain ⟨xs,hown,hrow,hin,hsub,hnd,hout⟩:=dstRows_spec hs.sat hd hdr
 obtain ⟨A,c,ys,rfl,hyr,hA,hcell⟩:=srcRows_spec hs.sat hx hxr hsz
 obtain ⟨it,z,hit,hsi,hbi,hz,hzc,hzl⟩:=hti.info
 have h63 : rows.length + news.length≤maxLen:=by
  have : rows.length + news.length≤(rows.length + news.length) * ti.by_:=Nat.le_mul_of_pos_right _ hby
  simp only [maxLen]
  omega
 have hzs : z.cells.size=ti.sz:=by rw [← hzl,← hzc]; simp
 have happ : ∃ u w',(Builtin.append_ #[t,t] 0 #[ud,.slice A news.length c]).run p.P w=.ok u w'∧w'.ownsRow 0 e ti.sz u (rows.length + news.length) (xs++ys)∧w.grownBy w' ud.ownBlock∧(u.ownBlock=ud.ownBlock∨u.ownBlock=some w.heap.size):=by
  cases A with
  | none =>
   have h0:=hA rfl
   subst h0
   have hy0 : ys=[]:=List.eq_nil_of_length_eq_zero (by simpa using hyr.len)
   subst hy0
   refine ⟨ud,w,?_,by simpa using hown,⟨rfl,rfl,rfl,Nat.le_refl _,fun _ _ _=>rfl⟩,.inl rfl⟩
   rcases hown.2 with ⟨rfl,hn⟩ | ⟨g,cap,cur,rfl,_,_,hnc,_⟩
   ·simp [Builtin.append_,run_under hu,sizeOf,typeInfo,hit,Builtin.lenOf,Builtin.firstCells]
   ·simp [Builtin.append_,run_under hu,sizeOf,typeInfo,hit,Builtin.lenOf,Builtin.firstCells,hnc,storeCells]
  | some ad =>
   obtain ⟨v',w',hr,h1,h2,_,h4⟩:=run_append_own_at (P:=p.P) w 0 t 0 e it z ti.sz ti.by_ hu hit hz hsi hbi hzs hsz ud rows.length xs hown ad news.length c ys hyr.len (hcell ad rfl) hyr.one h63 hb (Nat.zero_le _)
   exact ⟨v',w',hr,h1,h2,h4⟩
 obtain ⟨u,w',hr,hown',hgr,hblk⟩:=happ
 have hsl : ∃ A' c',u=.slice A' (rows.length + news.length) c':=by
  rcases hown'.2 with ⟨rfl,hn⟩ | ⟨g,cap,cur,rfl,_⟩
  ·exact ⟨none,0,by rw [hn]⟩
  ·exact ⟨_,_,rfl⟩
 obtain ⟨A',c',hue⟩:=hsl
 have hle:=H.le_more w.heap.size u
 have esv : (H.more w.heap.size u).sv s.n=u:=by simp [Hid.more,hs.n]
 have hn : s.n < (H.more w.heap.size u).n:=by simp [Hid.more,hs.n]
 have hlt : ∀ b ∈ blks H s.σ,b < w.heap.size:=hs.sat.lt
 have hblkin : ∀ b ∈ u.ownBlock.toList,b ∈ ud.ownBlock.toList∨b=w.heap.size:=fun b hb=>by
  rcases hblk with h | h
  ·rw [h] at hb; exact .inl hb
  ·rw [h] at hb; simp at hb; exact .inr hb
 have hsubB : ∀ b ∈ blks H σ',b ∈ blks H s.σ:=fun b hb=>by
  obtain ⟨x,hx,hbx⟩:=List.mem_flatMap.1 hb
  exact List.mem_flatMap.2 ⟨x,hsub x hx,hbx⟩
 have hbl : blks (H.more w.heap.size u) σ'=blks H σ':=blks_le hle (fun x hx=>hs.sat.ids x (hsub x hx))
 have hkeep : ∀ b,b < w.heap.size→b ∉ ud.ownBlock.toList→w'.heap[b]?=w.heap[b]?:=fun b h1 h2=>hgr.block b h1 (fun e=>h2 (by rw [← e]; simp))
 have hblocks : blocks (H.more w.heap.size u) (s.n,Res.row e ti.sz (rows++news))=u.ownBlock.toList:=by simp [blocks,esv]
 refine ⟨H.more w.heap.size u,u,w',hle,hr,?_,?_⟩
 ·rw [hue] at esv ⊢
  exact .o hn esv rfl
 ·have hfr:=hs.fr
  refine ⟨by simp [Hid.more,hs.n],⟨fun b o ho=>?_,fun x hx=>?_,?_,fun b hbm=>?_,fun x hx=>?_⟩,?_⟩
  ·have h1:=hs.sat.ro b o ho
   rw [hkeep b (Array.getElem?_eq_some_iff.1 h1).1 (fun hbx=>by have h2:=hs.sat.free b (hin b hbx); have h3 : H.ro b=some o:=ho; rw [h2] at h3; cases h3)]
   exact h1
  ·rcases List.mem_cons.1 hx with rfl | hx
   ·refine ⟨xs++ys,?_,(hrow.append hyr).mono hle.ro⟩
    rw [esv]
    simpa using hown'
   ·refine holds_congr (w:=w) (fun b hb=>?_) (holds_le hle (hs.sat.ids x (hsub x hx)) (hs.sat.holds x (hsub x hx)))
    rw [blocks_le hle (hs.sat.ids x (hsub x hx))] at hb
    have hbm : b ∈ blks H σ':=List.mem_flatMap.2 ⟨x,hx,hb⟩
    exact hkeep b (hlt b (hsubB b hbm)) (fun hc=>hout b hc hbm)
  ·rw [blks_cons,hbl,hblocks]
   refine List.nodup_append.2 ⟨by cases u.ownBlock <;> simp,hnd,fun b hb c hc e=>?_⟩
   subst e
   rcases hblkin b hb with h | h
   ·exact hout b h hc
   ·have:=hlt b (hsubB b hc); omega
  ·show H.ro b=none
   rw [blks_cons,hbl,hblocks] at hbm
   rcases List.mem_append.1 hbm with h | h
   ·rcases hblkin b h with h | h
    ·exact hs.sat.free b (hin b h)
    ·exact hs.sat.none_size b (by omega)
   ·exact hs.sat.free b (hsubB b h)
  ·rcases List.mem_cons.1 hx with rfl | hx
   ·exact hn
   ·exact Nat.lt_of_lt_of_le (hs.sat.ids x (hsub x hx)) hle.n
  ·refine ⟨hgr.os.trans hfr.os,hgr.tape.trans hfr.tape,hgr.output.trans hfr.output,Nat.le_trans hfr.size hgr.size,fun b h1 h2=>?_,fun b hbm=>?_,hfr.fro,hfr.le.trans hle⟩
   ·rw [hkeep b (Nat.lt_of_lt_of_le h1 hfr.size) (fun hbx=>?_)]
    ·exact hfr.keep b h1 h2
    ·rcases hfr.own b (hin b hbx) with h | h
     ·exact h2 h
     ·omega
   ·simp only at hbm
    rw [blks_cons,hbl,hblocks] at hbm
    rcases List.mem_append.1 hbm with h | h
    ·rcases hblkin b h with h | h
     ·exact hfr.own b (hin b h)
     ·exact .inr (by have:=hfr.size; omega)
    ·exact hfr.own b (hsubB b h)
end
end Go.GK
/-
  The ghost machine: an own row is written to.
-/
namespace Go.GK
open Go.RowKit

theorem idbL_get {n : Nat} : ∀ {l : List GV},idbL n l=true→∀ {j : Nat} {g : GV},l[j]?=some g→idb n g=true
 | [],_,j,g,hj=>by simp at hj
 | x :: r,h,0,g,hj=>by simp [idbL] at h; simp at hj; subst hj; exact h.1
 | x :: r,h,j + 1,g,hj=>by simp [idbL] at h; exact idbL_get h.2 (by simpa using hj)

theorem splice_get {α : Type} (l vs : List α) (a k : Nat) (h : a + vs.length≤l.length) : (l.take a++vs++l.drop (a + vs.length))[k]?=if a≤k∧k < a + vs.length then vs[k - a]? else l[k]?:=by
 have e1 : (l.take a).length=a:=by simp; omega
 by_cases h1 : k < a
 ·rw [if_neg (by omega),List.append_assoc,List.getElem?_append_left (by omega),List.getElem?_take,if_pos h1]
 ·by_cases h2 : k < a + vs.length
  ·rw [if_pos ⟨by omega,h2⟩,List.getElem?_append_left (by simp; omega),List.getElem?_append_right (by omega),e1]
  ·rw [if_neg (by omega),List.getElem?_append_right (by simp; omega),List.getElem?_drop]
   congr 1
   simp
   omega

theorem splice_len {α : Type} (l vs : List α) (a : Nat) (h : a + vs.length≤l.length) : (l.take a++vs++l.drop (a + vs.length)).length=l.length:=by
 simp; omega

theorem splice_mem {α : Type} {l vs : List α} {a b : Nat} {x : α} (h : x ∈ l.take a++vs++l.drop b) : x ∈ l∨x ∈ vs:=by
 rcases List.mem_append.1 h with h | h
 ·rcases List.mem_append.1 h with h | h
  ·exact .inl (List.mem_of_mem_take h)
  ·exact .inr h
 ·exact .inl (List.mem_of_mem_drop h)

theorem splice_take {α : Type} (l vs : List α) (a m : Nat) (h : a + vs.length≤m) (hm : m≤l.length) : (l.take a++vs++l.drop (a + vs.length)).take m=(l.take m).take a++vs++(l.take m).drop (a + vs.length):=by
 refine List.ext_getElem? fun k=>?_
 rw [splice_get _ _ _ _ (by simp; omega),List.getElem?_take,splice_get _ _ _ _ (by omega),List.getElem?_take]
 by_cases h1 : a≤k∧k < a + vs.length
 ·rw [if_pos h1,if_pos h1,if_pos (by omega)]
 ·rw [if_neg h1,if_neg h1]

theorem Sim.storeRow {cx : Cx} {H : Hid} {s : St} {w : World} (h : Sim cx H s w) {id ty sz i off b n c : Nat} {rows : List (List GV)} {row gs : List GV} {vs : Array Value} (hl : hlook s.σ id=some (.row ty sz rows)) (hsv : H.sv id=.slice (some ⟨b,0,none⟩) n c) (hi : rows[i]?=some row) (hg : Cells H gs vs)
  (hle : off + gs.length≤sz) (h1 : allOne gs=true) (h0 : idbL 0 gs=true) (ρ : Env) :
  ∃ w',(∀ P : Program,(storeCells ⟨b,i * sz + off,none⟩ vs.toList).run P w=.ok () w')∧Sim cx H { s with ρ:=ρ,σ:=hset s.σ id (.row ty sz (rows.set i (row.take off++gs++row.drop (off + gs.length)))) } w':=by
 obtain ⟨xs,⟨hxl,hor⟩,hrow⟩:=h.sat.holds _ (hlook_mem hl)
 have hilt : i < rows.length:=(List.getElem?_eq_some_iff.1 hi).1
 have hvl : vs.toList.length=gs.length:=by simp [hg.1]
 have hrl : row.length=sz:=hrow.each row (List.mem_of_getElem? hi)
 have hmul : i * sz + sz≤rows.length * sz:=by
  have : (i + 1) * sz≤rows.length * sz:=Nat.mul_le_mul_right _ hilt
  rwa [Nat.add_mul,Nat.one_mul] at this
 rcases hor with ⟨hn,_⟩ | ⟨g,cap,cur,hsl,hg0,hw,hcap,hmax,hcs,htk⟩
 ·rw [hsv] at hn; cases hn
 ·rw [hsv] at hsl
  simp only [Value.slice.injEq,Option.some.injEq,Addr.mk.injEq,and_true] at hsl
  obtain ⟨rfl,rfl,rfl⟩:=hsl
  have hcapmul : rows.length * sz≤c * sz:=Nat.mul_le_mul_right _ hcap
  have hcl : cur.toList.length=c * sz:=by simpa using hcs
  have hin : i * sz + off + vs.toList.length≤rows.length * sz:=by omega
  refine ⟨w.setRow b (cur.toList.take (i * sz + off)++vs.toList++cur.toList.drop (i * sz + off + vs.toList.length)).toArray,fun P=>?_,?_⟩
  ·exact run_storeCells_at P b (i * sz + off) ty vs.toList 0 cur w hw (by simp only [Array.length_toList] at *; omega) (allOne_one hg h1)
  ·refine h.put (y:=.row ty sz (rows.set i (row.take off++gs++row.drop (off + gs.length)))) (w':=w.setRow b (cur.toList.take (i * sz + off)++vs.toList++cur.toList.drop (i * sz + off + vs.toList.length)).toArray) hl rfl rfl rfl rfl (by simp) (fun b' hb hn=>?_) ?_ ρ
   ·exact setRow_other w _ b' _ (fun e=>hn (by simp [blocks,hsv,Value.ownBlock,e]))
   ·refine ⟨xs.take (i * sz + off)++vs.toList++xs.drop (i * sz + off + vs.toList.length),⟨?_,.inr ⟨b,c,_,by rw [hsv,List.length_set],Nat.zero_le _,setRow_heap w _ cur _ ty (0,0) hw,by rw [List.length_set]; exact hcap,hmax,?_,?_⟩⟩,?_,fun r hr=>?_,fun i' r hr j g' hj=>?_,fun u hu=>?_⟩
    ·rw [splice_len _ _ _ (by rw [hxl]; exact hin),List.length_set,hxl]
    ·rw [← hcs,List.size_toArray,splice_len _ _ _ (by rw [hcl]; omega)]
     simp
    ·rw [List.length_set,← htk]
     show List.take _ (_++_++_)=_
     exact splice_take _ _ _ _ hin (by rw [hcl]; exact hcapmul)
    ·rw [splice_len _ _ _ (by rw [hxl]; exact hin),List.length_set,hxl]
    ·rcases List.mem_or_eq_of_mem_set hr with hr | rfl
     ·exact hrow.each r hr
     ·rw [splice_len _ _ _ (by rw [hrl]; exact hle),hrl]
    ·rw [splice_get _ _ _ _ (by rw [hxl]; exact hin)]
     by_cases hii : i=i'
     ·subst hii
      rw [List.getElem?_set_self hilt] at hr
      simp only [Option.some.injEq] at hr
      subst hr
      rw [splice_get _ _ _ _ (by rw [hrl]; exact hle)] at hj
      by_cases hjj : off≤j∧j < off + gs.length
      ·rw [if_pos hjj] at hj
       rw [if_pos (by omega)]
       have:=hg.2 _ _ hj
       have e : i * sz + j - (i * sz + off)=j - off:=by omega
       have hlt : j - off < vs.size:=by have:=hg.1; omega
       refine ⟨vs.getD (j - off) undef,?_,Is.toR this (idbL_get h0 hj)⟩
       rw [e]
       simp [Array.getD,hlt]
      ·rw [if_neg hjj] at hj
       rw [if_neg (by omega)]
       exact hrow.is i row hi j g' hj
     ·rw [List.getElem?_set_ne hii] at hr
      have hr1:=hrow.each r (List.mem_of_getElem? hr)
      have hjl : j < sz:=by have:=(List.getElem?_eq_some_iff.1 hj).1; omega
      rw [if_neg ?_]
      ·exact hrow.is i' r hr j g' hj
      ·rintro ⟨ha,hb⟩
       rcases Nat.lt_or_gt_of_ne hii with hlt | hlt
       ·have : (i + 1) * sz≤i' * sz:=Nat.mul_le_mul_right _ hlt
        rw [Nat.add_mul,Nat.one_mul] at this
        omega
       ·have : (i' + 1) * sz≤i * sz:=Nat.mul_le_mul_right _ hlt
        rw [Nat.add_mul,Nat.one_mul] at this
        omega
    ·rcases splice_mem hu with hu | hu
     ·exact hrow.one u hu
     ·exact allOne_one hg h1 u hu
end Go.GK
/-
  The ghost machine: maps in memory.
-/
namespace Go.GK
open Go.RowKit

section
variable {H : Hid} {w : World} {kd : Option IntKind} {es : List (Value × GV)} {arr : Array MapEntry} {clock : Nat}

theorem vkey_refl {kd : Option IntKind} {a : Value} (h : sortB kd a=true) : vkey a a=true:=by
 cases kd <;> cases a <;> simp only [sortB,Bool.false_eq_true] at h
 ·exact (MapKept.bytes_beq _ _).2 rfl
 ·simp [vkey]

theorem esIs_put {k : Value} {g : GV} {u : Value} (hi : Is H g u) (c : Nat) : ∀ {es : List (Value × GV)} {l : List MapEntry},esIs H es l→∀ i,
  (∃ j e,fidx k l i=some (i + j,e.val)∧l[j]?=some e∧vkey k e.key=true∧esIs H (mput k g es) (l.modify j fun e=>{ e with key:=k,val:=u })) ∨
  (fidx k l i=none∧(∀ e ∈ l,vkey k e.key=false)∧esIs H (mput k g es) (l++[⟨k,u,c⟩]))
 | [],[],_,i=>.inr ⟨rfl,by simp,rfl,hi,trivial⟩
 | (k',g') :: r,e :: s,h,i=>by
  obtain ⟨h1,h2,h3⟩:=h
  by_cases hv : vkey k k'=true
  ·refine .inl ⟨0,e,?_,rfl,by rw [h1]; exact hv,?_⟩
   ·simp [fidx,h1,hv]
   ·simp only [mput,if_pos hv,List.modify_cons,if_true]
    exact ⟨rfl,hi,h3⟩
  ·rcases esIs_put hi c h3 (i + 1) with ⟨j,e',a1,a2,a3,a4⟩ | ⟨a1,a2,a3⟩
   ·refine .inl ⟨j + 1,e',?_,by simpa using a2,a3,?_⟩
    ·simp only [fidx,h1,if_neg hv,a1]; congr 2; omega
    ·simp only [mput,if_neg hv,List.modify_succ_cons]
     exact ⟨h1,h2,a4⟩
   ·refine .inr ⟨?_,?_,?_⟩
    ·simp only [fidx,h1,if_neg hv,a1]
    ·intro x hx
     rcases List.mem_cons.1 hx with rfl | hx
     ·rw [h1]; simpa using hv
     ·exact a2 x hx
    ·simp only [mput,if_neg hv,List.cons_append]
     exact ⟨h1,h2,a3⟩
 | [],_ :: _,h,_=>h.elim
 | _ :: _,[],h,_=>h.elim

theorem esIs_del {k : Value} : ∀ {es : List (Value × GV)} {l : List MapEntry},esIs H es l→∀ i,
  (∃ j e,fidx k l i=some (i + j,e.val)∧l[j]?=some e∧vkey k e.key=true∧(∀ e' ∈ l.take j,vkey k e'.key=false)∧esIs H (mdel k es) (l.eraseIdx j)) ∨
  (fidx k l i=none∧(∀ e ∈ l,vkey k e.key=false)∧mdel k es=es)
 | [],[],_,i=>.inr ⟨rfl,by simp,rfl⟩
 | (k',g') :: r,e :: s,h,i=>by
  obtain ⟨h1,h2,h3⟩:=h
  by_cases hv : vkey k k'=true
  ·refine .inl ⟨0,e,?_,rfl,by rw [h1]; exact hv,by simp,?_⟩
   ·simp [fidx,h1,hv]
   ·simp only [mdel,if_pos hv,List.eraseIdx_cons_zero]
    exact h3
  ·rcases esIs_del h3 (i + 1) with ⟨j,e',a1,a2,a3,a5,a4⟩ | ⟨a1,a2,a3⟩
   ·refine .inl ⟨j + 1,e',?_,by simpa using a2,a3,?_,?_⟩
    ·simp only [fidx,h1,if_neg hv,a1]; congr 2; omega
    ·intro x hx
     rcases List.mem_cons.1 (by simpa using hx) with rfl | hx
     ·rw [h1]; simpa using hv
     ·exact a5 x hx
    ·simp only [mdel,if_neg hv,List.eraseIdx_cons_succ]
     exact ⟨h1,h2,a4⟩
   ·refine .inr ⟨?_,?_,?_⟩
    ·simp only [fidx,h1,if_neg hv,a1]
    ·intro x hx
     rcases List.mem_cons.1 hx with rfl | hx
     ·rw [h1]; simpa using hv
     ·exact a2 x hx
    ·simp only [mdel,if_neg hv,a3]
 | [],_ :: _,h,_=>h.elim
 | _ :: _,[],h,_=>h.elim

theorem modify_toList (a : Array MapEntry) (j : Nat) (f : MapEntry→MapEntry) : (a.modify j f).toList=a.toList.modify j f:=by
 apply List.ext_getElem?
 intro i
 rw [Array.getElem?_toList,Array.getElem?_modify,List.getElem?_modify,Array.getElem?_toList]
 by_cases h : j=i
 ·simp [h]
 ·simp [h]

theorem erase_toList (a : Array MapEntry) (j : Nat) : (a.eraseIdxIfInBounds j).toList=a.toList.eraseIdx j:=by
 unfold Array.eraseIdxIfInBounds
 split
 ·exact Array.toList_eraseIdx ..
 ·rename_i h
  rw [List.eraseIdx_of_length_le (by simpa using h)]

theorem MapOk.put (h : MapOk H kd es arr clock) {kv : Value} (hk : sortB kd kv=true) {g : GV} {u : Value} (hi : Is H g u) :
  (∃ (j : Nat) (e : MapEntry),fidx kv arr.toList 0=some (j,e.val)∧arr[j]?=some e∧e.key=kv∧MapOk H kd (mput kv g es) (arr.modify j fun e=>{ e with key:=kv,val:=u }) clock) ∨
  (fidx kv arr.toList 0=none∧MapOk H kd (mput kv g es) (arr.push ⟨kv,u,clock⟩) (clock + 1)):=by
 rcases esIs_put (k:=kv) hi clock h.is 0 with ⟨j,e,a1,a2,a3,a4⟩ | ⟨a1,a2,a3⟩
 ·have hj : arr[j]?=some e:=by simpa using a2
  have he : e ∈ arr.toList:=List.mem_of_getElem? a2
  have hkey : e.key=kv:=(vkey_eq hk (h.sorts e he) a3).symm
  refine .inl ⟨j,e,by simpa using a1,hj,hkey,⟨by rw [modify_toList]; exact a4,fun x hx=>?_,?_⟩⟩
  ·rw [modify_toList] at hx
   obtain ⟨i,hi'⟩:=List.getElem?_of_mem hx
   rw [List.getElem?_modify] at hi'
   cases hy : arr.toList[i]? with
   | none=>rw [hy] at hi'; simp at hi'
   | some y =>
    rw [hy] at hi'
    simp only [Option.map_eq_map,Option.map_some,Option.some.injEq] at hi'
    split at hi'
    ·rw [← hi']; exact hk
    ·rw [← hi']; exact h.sorts y (List.mem_of_getElem? hy)
  ·exact MapKept.stamped_modify h.st _ _ (fun _ _=>rfl) (fun e' _ he'=>by rw [hj] at he'; cases he'; exact hkey.symm)
 ·refine .inr ⟨a1,⟨by simpa using a3,fun x hx=>?_,?_⟩⟩
  ·simp only [Array.toList_push,List.mem_append,List.mem_singleton] at hx
   rcases hx with hx | rfl
   ·exact h.sorts x hx
   ·exact hk
  ·exact MapKept.stamped_push h.st (fun x hx e=>by have:=a2 x hx; rw [e,vkey_refl hk] at this; cases this)

theorem MapOk.del (h : MapOk H kd es arr clock) {kv : Value} :
  (∃ (j : Nat) (e : MapEntry),fidx kv arr.toList 0=some (j,e.val)∧arr.toList[j]?=some e∧vkey kv e.key=true∧(∀ e' ∈ arr.toList.take j,vkey kv e'.key=false)∧MapOk H kd (mdel kv es) (arr.eraseIdxIfInBounds j) clock) ∨
  (fidx kv arr.toList 0=none∧(∀ e ∈ arr.toList,vkey kv e.key=false)∧mdel kv es=es):=by
 rcases esIs_del (k:=kv) h.is 0 with ⟨j,e,a1,a2,a3,a5,a4⟩ | ⟨a1,a2,a3⟩
 ·refine .inl ⟨j,e,by simpa using a1,a2,a3,a5,⟨by rw [erase_toList]; exact a4,fun x hx=>?_,MapKept.stamped_erase h.st _⟩⟩
  rw [erase_toList] at hx
  exact h.sorts x ((List.eraseIdx_sublist _ _).subset hx)
 ·exact .inr ⟨a1,a2,a3⟩

def lf (seen : Array Nat) (l : List MapEntry) : List Value:=(l.filter fun e=>!seen.contains e.born).map (·.key)

theorem lf_arr (seen : Array Nat) (arr : Array MapEntry) : ((arr.filter fun e=>!seen.contains e.born).toList.map (·.key))=lf seen arr.toList:=by
 simp [lf]

theorem lf_modify {seen : Array Nat} {kv u : Value} : ∀ {l : List MapEntry} {j : Nat} {e : MapEntry},l[j]?=some e→e.key=kv→lf seen (l.modify j fun e=>{ e with key:=kv,val:=u })=lf seen l
 | [],j,e,h,_=>by simp at h
 | x :: r,0,e,h,hk=>by
  simp at h
  subst h
  simp only [List.modify_cons,if_true,lf,List.filter_cons]
  cases h2 : seen.contains x.born <;> simp [hk]
 | x :: r,j + 1,e,h,hk=>by
  have ih:=lf_modify (seen:=seen) (kv:=kv) (u:=u) (l:=r) (j:=j) (by simpa using h) hk
  simp only [List.modify_succ_cons,lf,List.filter_cons] at ih ⊢
  cases h2 : seen.contains x.born <;> simp only [Bool.not_true,Bool.not_false,Bool.false_eq_true,if_false,if_true,List.map_cons,ih]

theorem kdel_none {k : Value} : ∀ {l : List Value},(∀ x ∈ l,vkey k x=false)→kdel k l=l
 | [],_=>rfl
 | x :: r,h=>by
  unfold kdel
  rw [if_neg (by rw [h x List.mem_cons_self]; simp),kdel_none (fun y hy=>h y (List.mem_cons_of_mem _ hy))]

theorem lf_mem {seen : Array Nat} {l : List MapEntry} {x : Value} (h : x ∈ lf seen l) : ∃ e ∈ l,e.key=x:=by
 simp only [lf,List.mem_map,List.mem_filter] at h
 obtain ⟨e,⟨h1,_⟩,h2⟩:=h
 exact ⟨e,h1,h2⟩

theorem lf_erase {seen : Array Nat} {kv : Value} : ∀ {l : List MapEntry} {j : Nat} {e : MapEntry},l[j]?=some e→vkey kv e.key=true→(∀ e' ∈ l.take j,vkey kv e'.key=false)→(∀ e' ∈ l.drop (j + 1),vkey kv e'.key=false) →
  lf seen (l.eraseIdx j)=kdel kv (lf seen l)
 | [],j,e,h,_,_,_=>by simp at h
 | x :: r,0,e,h,hk,_,hd=>by
  simp at h
  subst h
  simp only [List.eraseIdx_cons_zero,lf,List.filter_cons]
  have hr : kdel kv (lf seen r)=lf seen r:=kdel_none (fun y hy=>by obtain ⟨e',h1,rfl⟩:=lf_mem hy; exact hd e' (by simpa using h1))
  cases h2 : seen.contains x.born with
  | true=>simpa [lf] using hr.symm
  | false=>simp [kdel,hk]
 | x :: r,j + 1,e,h,hk,ht,hd=>by
  have ih:=lf_erase (seen:=seen) (kv:=kv) (l:=r) (j:=j) (by simpa using h) hk (fun e' he=>ht e' (by simp [he])) (fun e' he=>hd e' (by simpa using he))
  have hx : vkey kv x.key=false:=ht x (by simp)
  simp only [List.eraseIdx_cons_succ,lf,List.filter_cons] at ih ⊢
  cases h2 : seen.contains x.born with
  | true=>simpa only [Bool.not_true,Bool.false_eq_true,if_false] using ih
  | false=>simp only [Bool.not_false,if_true,List.map_cons,kdel,hx,Bool.false_eq_true,if_false,ih]

theorem stamped_inj {arr : Array MapEntry} {clock : Nat} (h : MapKept.Stamped arr clock) {i j : Nat} {x y : MapEntry} (hx : arr.toList[i]?=some x) (hy : arr.toList[j]?=some y) (e : x.key=y.key) : i=j:=by
 have hn:=h.2.2
 have h1 : (arr.toList.map (·.key))[i]?=some x.key:=by rw [List.getElem?_map,hx]; rfl
 have h2 : (arr.toList.map (·.key))[j]?=some x.key:=by rw [List.getElem?_map,hy,e]; rfl
 have hlt:=(List.getElem?_eq_some_iff.1 h1).1
 exact (List.getElem?_inj hlt hn).1 (h1.trans h2.symm)

def setB (w : World) (b : Nat) (o : Obj) : World:={ w with heap:=w.heap.setIfInBounds b o }
theorem setB_get {w : World} {b : Nat} {o o' : Obj} (h : w.heap[b]?=some o) : (setB w b o').heap[b]?=some o':=by
 have:=(Array.getElem?_eq_some_iff.1 h).1
 simp [setB,this]
theorem setB_ne {w : World} {b c : Nat} {o : Obj} (h : c ≠ b) : (setB w b o).heap[c]?=w.heap[c]?:=by
 simp [setB,Ne.symm h]
theorem setB_size (w : World) (b : Nat) (o : Obj) : (setB w b o).heap.size=w.heap.size:=by simp [setB]

theorem run_mapUpdate_at {P : Program} {t kt et : TypeId} (hu : P.underlying t=some (.map kt et)) {kd : Option IntKind} (hk : P.underlying kt=some (kdD kd)) {kv u : Value} (hs : sortB kd kv=true) {b clock : Nat} {arr : Array MapEntry} {w : World} (hw : w.heap[b]?=some (.map arr clock))
  (hl : ∀ e ∈ arr.toList,sortB kd e.key=true) :
  (∀ j v e,fidx kv arr.toList 0=some (j,v)→arr[j]?=some e→e.key=kv→(Instr.mapUpdate t (.map (some b)) kv u).run P w=.ok () (setB w b (.map (arr.modify j fun e=>{ e with key:=kv,val:=u }) clock))) ∧
  (fidx kv arr.toList 0=none→(Instr.mapUpdate t (.map (some b)) kv u).run P w=.ok () (setB w b (.map (arr.push ⟨kv,u,clock⟩) (clock + 1)))):=by
 have h1:=run_checkKey hk false 9999 kv w
 have h2:=run_findKey hk hs hl w
 refine ⟨fun j v e hf hj he=>?_,fun hf=>?_⟩
 ·rw [hf] at h2
  have hsb : Instr.sameBits 10000 kv kv=true:=by
   cases kd <;> cases kv <;> simp only [sortB,Bool.false_eq_true] at hs
   ·exact (MapKept.bytes_beq _ _).2 rfl
   ·simp [Instr.sameBits]
  simp [Instr.mapUpdate,run_under hu,getObj,setObj,Sem.run,hw,h1,h2,hj,he,Instr.keyThatStays,hsb]
  rfl
 ·rw [hf] at h2
  simp [Instr.mapUpdate,run_under hu,getObj,setObj,Sem.run,hw,h1,h2]
  rfl

theorem run_mapEntry_at {P : Program} {t kt et : TypeId} (hu : P.underlying t=some (.map kt et)) {kd : Option IntKind} (hk : P.underlying kt=some (kdD kd)) {z : Value} (hz : ∀ w,(zeroValue et).run P w=.ok z w) {kv : Value} (hs : sortB kd kv=true) {b clock : Nat} {arr : Array MapEntry} {w : World} (hw : w.heap[b]?=some (.map arr clock))
  (hl : ∀ e ∈ arr.toList,sortB kd e.key=true) :
  (∀ j v e,fidx kv arr.toList 0=some (j,v)→arr[j]?=some e→e.key=kv→(Instr.mapEntry t (.map (some b)) kv).run P w=.ok (.tuple #[v,goInt e.born]) (setB w b (.map (arr.modify j fun e=>{ e with key:=kv }) clock))) ∧
  (fidx kv arr.toList 0=none→(Instr.mapEntry t (.map (some b)) kv).run P w=.ok (.tuple #[z,goInt clock]) (setB w b (.map (arr.push ⟨kv,z,clock⟩) (clock + 1)))):=by
 have h1:=run_checkKey hk false 9999 kv w
 have h2:=run_findKey hk hs hl w
 refine ⟨fun j v e hf hj he=>?_,fun hf=>?_⟩
 ·rw [hf] at h2
  have hsb : Instr.sameBits 10000 kv kv=true:=by
   cases kd <;> cases kv <;> simp only [sortB,Bool.false_eq_true] at hs
   ·exact (MapKept.bytes_beq _ _).2 rfl
   ·simp [Instr.sameBits]
  simp [Instr.mapEntry,run_under hu,getObj,setObj,Sem.run,hw,h1,h2,hj,he,Instr.keyThatStays,hsb]
  rfl
 ·rw [hf] at h2
  have h3:=hz w
  simp [Instr.mapEntry,run_under hu,getObj,setObj,Sem.run,hw,h1,h2] at h3 ⊢
  simp [h3,hw]
  rfl

theorem run_delete_at {P : Program} {t kt et ty : TypeId} {ts : Array TypeId} (ht : ts[0]?=some t) (hu : P.underlying t=some (.map kt et)) {kd : Option IntKind} (hk : P.underlying kt=some (kdD kd)) {kv : Value} (hs : sortB kd kv=true) {b clock : Nat} {arr : Array MapEntry} {w : World} (hw : w.heap[b]?=some (.map arr clock))
  (hl : ∀ e ∈ arr.toList,sortB kd e.key=true) :
  (Builtin.delete_ ts ty #[.map (some b),kv]).run P w=.ok (.tuple #[]) (setB w b (.map (match fidx kv arr.toList 0 with | some (j,_)=>arr.eraseIdxIfInBounds j | none=>arr) clock)):=by
 have h1:=run_checkKey hk arr.isEmpty 9999 kv w
 have h2:=run_findKey hk hs hl w
 cases hf : fidx kv arr.toList 0 with
 | none =>
  rw [hf] at h2
  simp [Builtin.delete_,ht,run_under hu,getObj,setObj,Sem.run,hw,h1,h2]
  rfl
 | some x =>
  obtain ⟨j,v⟩:=x
  rw [hf] at h2
  simp [Builtin.delete_,ht,run_under hu,getObj,setObj,Sem.run,hw,h1,h2]
  rfl
end

section
variable {cx : Cx} {H : Hid} {s : St} {w : World} {kd : Option IntKind} {es : List (Value × GV)}

theorem Sim.newMap (h : Sim cx H s w) (kd : Option IntKind) (ρ : Env) :
  Sim cx (H.more w.heap.size (.map (some w.heap.size))) { ρ:=ρ,σ:=(s.n,.mp kd []) :: s.σ,n:=s.n + 1 } (w.alloc (.map #[] 0))∧Is (H.more w.heap.size (.map (some w.heap.size))) (.o s.n) (.map (some w.heap.size)):=by
 have hle:=H.le_more w.heap.size (.map (some w.heap.size))
 have e : (H.more w.heap.size (.map (some w.heap.size))).sv s.n=.map (some w.heap.size):=by simp [Hid.more,h.n]
 refine ⟨h.grow hle rfl (by simp [Hid.more,h.n]) ((Below.refl _ _).alloc (Nat.le_refl _) _) ?_ (by simp [blocks,e,mapBlk]) (by simp [blocks,e,mapBlk]) ρ,.o (by simp [Hid.more,h.n]) e rfl⟩
 exact ⟨w.heap.size,#[],0,e,heap_alloc_new w _,⟨trivial,by simp,MapKept.stamped_empty 0⟩⟩

theorem Sim.mapPut (h : Sim cx H s w) {id : Nat} (hl : hlook s.σ id=some (.mp kd es)) {kv : Value} (hk : sortB kd kv=true) {g : GV} {u : Value} (hi : Is H g u) {P : Program} {t kt et : TypeId} (hu : P.underlying t=some (.map kt et)) (hku : P.underlying kt=some (kdD kd)) (ρ : Env) :
  ∃ w',(Instr.mapUpdate t (H.sv id) kv u).run P w=.ok () w'∧Sim cx H { s with ρ:=ρ,σ:=hset s.σ id (.mp kd (mput kv g es)) } w':=by
 obtain ⟨b,arr,clock,hb,hw,hm⟩:=h.sat.holds _ (hlook_mem hl)
 obtain ⟨r1,r2⟩:=run_mapUpdate_at (u:=u) hu hku hk hw hm.sorts
 rw [hb]
 rcases hm.put hk hi with ⟨j,e,a1,a2,a3,a4⟩ | ⟨a1,a2⟩
 ·refine ⟨_,r1 j _ e a1 a2 a3,h.put (y:=.mp kd (mput kv g es)) (w':=setB w b _) hl rfl rfl rfl rfl (Nat.le_of_eq (setB_size _ _ _).symm) (fun c _ hc=>setB_ne (fun e=>hc (by simp [blocks,hb,mapBlk,e]))) ?_ ρ⟩
  exact ⟨b,_,_,hb,setB_get hw,a4⟩
 ·refine ⟨_,r2 a1,h.put (y:=.mp kd (mput kv g es)) (w':=setB w b _) hl rfl rfl rfl rfl (Nat.le_of_eq (setB_size _ _ _).symm) (fun c _ hc=>setB_ne (fun e=>hc (by simp [blocks,hb,mapBlk,e]))) ?_ ρ⟩
  exact ⟨b,_,_,hb,setB_get hw,a2⟩

theorem Sim.mapDel (h : Sim cx H s w) {id : Nat} (hl : hlook s.σ id=some (.mp kd es)) {kv : Value} (hk : sortB kd kv=true) {P : Program} {t kt et ty : TypeId} {ts : Array TypeId} (ht : ts[0]?=some t) (hu : P.underlying t=some (.map kt et)) (hku : P.underlying kt=some (kdD kd)) (ρ : Env) :
  ∃ w',(Builtin.delete_ ts ty #[H.sv id,kv]).run P w=.ok (.tuple #[]) w'∧Sim cx H { s with ρ:=ρ,σ:=hset s.σ id (.mp kd (mdel kv es)) } w':=by
 obtain ⟨b,arr,clock,hb,hw,hm⟩:=h.sat.holds _ (hlook_mem hl)
 have r:=run_delete_at (ty:=ty) ht hu hku hk hw hm.sorts
 rw [hb]
 refine ⟨_,r,h.put (y:=.mp kd (mdel kv es)) (w':=setB w b _) hl rfl rfl rfl rfl (Nat.le_of_eq (setB_size _ _ _).symm) (fun c _ hc=>setB_ne (fun e=>hc (by simp [blocks,hb,mapBlk,e]))) ?_ ρ⟩
 refine ⟨b,_,_,hb,setB_get hw,?_⟩
 rcases hm.del (kv:=kv) with ⟨j,e,a1,_,_,_,a4⟩ | ⟨a1,_,a3⟩
 ·rw [a1]; exact a4
 ·rw [a1,a3]; exact hm

theorem Sim.fresh (h : Sim cx H s w) (v : Value) (ρ : Env) : Sim cx (H.more 0 v) { ρ:=ρ,σ:=s.σ,n:=s.n + 1 } w:=by
 have hle:=H.le_more 0 v
 have e : blks (H.more 0 v) s.σ=blks H s.σ:=blks_le hle h.sat.ids
 have hfr:=h.fr
 refine ⟨by simp [Hid.more,h.n],⟨h.sat.ro,fun x hx=>holds_le hle (h.sat.ids x hx) (h.sat.holds x hx),by rw [e]; exact h.sat.nodup,by rw [e]; exact h.sat.free,fun x hx=>Nat.lt_of_lt_of_le (h.sat.ids x hx) hle.n⟩,?_⟩
 refine ⟨hfr.os,hfr.tape,hfr.output,hfr.size,hfr.keep,fun b hb=>hfr.own b ?_,hfr.fro,hfr.le.trans hle⟩
 rw [← e]
 exact hb

theorem modify_key {arr : Array MapEntry} {j : Nat} {e : MapEntry} {kv : Value} (hj : arr[j]?=some e) : (arr.modify j fun x=>{ x with key:=kv })=arr.modify j fun x=>{ x with key:=kv,val:=e.val }:=by
 apply Array.ext_getElem?
 intro i
 rw [Array.getElem?_modify,Array.getElem?_modify]
 by_cases hij : j=i
 ·subst hij
  rw [if_pos rfl,if_pos rfl,hj]
  rfl
 ·rw [if_neg hij,if_neg hij]

theorem Sim.mapEntry (h : Sim cx H s w) {id : Nat} (hl : hlook s.σ id=some (.mp kd es)) {kv : Value} (hk : sortB kd kv=true) {P : Program} {t kt et : TypeId} (hu : P.underlying t=some (.map kt et)) (hku : P.underlying kt=some (kdD kd)) {z : GV} {zv : Value} (hz : ∀ w,(zeroValue et).run P w=.ok zv w) (hzi : ∀ H : Hid,Is H z zv) (ρ : Env) :
  (∀ g,mfind kv es=some g→∃ (v st : Value) (w' : World),(Instr.mapEntry t (H.sv id) kv).run P w=.ok (.tuple #[v,st]) w'∧Is (H.more 0 st) (.tup [g,.o s.n]) (.tuple #[v,st])∧Sim cx (H.more 0 st) { ρ:=ρ,σ:=hset s.σ id (.me kd (mput kv g es) kv s.n),n:=s.n + 1 } w') ∧
  (mfind kv es=none→∃ (v st : Value) (w' : World),(Instr.mapEntry t (H.sv id) kv).run P w=.ok (.tuple #[v,st]) w'∧Is (H.more 0 st) (.tup [z,.o s.n]) (.tuple #[v,st])∧Sim cx (H.more 0 st) { ρ:=ρ,σ:=hset s.σ id (.me kd (mput kv z es) kv s.n),n:=s.n + 1 } w'):=by
 obtain ⟨b,arr,clock,hb,hw,hm⟩:=h.sat.holds _ (hlook_mem hl)
 have hidn : id < H.n:=h.sat.ids _ (hlook_mem hl)
 obtain ⟨r1,r2⟩:=run_mapEntry_at hu hku hz hk hw hm.sorts
 have tupI : ∀ (v st : Value) (g : GV),Is H g v→ow st=true→Is (H.more 0 st) (.tup [g,.o s.n]) (.tuple #[v,st]):=fun v st g hi ho=>.tup rfl fun j x hj=>by
  match j,hj with
  | 0,hj=>cases hj; exact hi.mono (H.le_more 0 st)
  | 1,hj=>cases hj; exact .o (by simp [Hid.more,h.n]) (by simp [Hid.more,h.n]) ho
 refine ⟨fun g hg=>?_,fun hg=>?_⟩
 ·obtain ⟨j0,e0,f1,f2,f3,f4⟩:=fidx_some (i:=0) hm.is g hg
  rcases hm.put hk f4 with ⟨j,e,a1,a2,a3,a4⟩ | ⟨a1,_⟩
  ·rw [a1] at f1
   have hj0 : j=j0:=by have:=(Prod.mk.inj (Option.some.inj f1)).1; omega
   subst hj0
   have he0 : e=e0:=by
    have : arr.toList[j]?=some e:=by simpa using a2
    rw [f2] at this
    exact (Option.some.inj this).symm
   subst he0
   refine ⟨e.val,goInt e.born,_,by rw [hb]; exact r1 j _ e a1 a2 a3,tupI _ _ _ f4 rfl,?_⟩
   have hf:=h.fresh (goInt e.born) ρ
   have hle:=H.le_more 0 (goInt e.born)
   have hbl : (H.more 0 (goInt e.born)).sv id=.map (some b):=(hle.sv id hidn).trans hb
   refine hf.put (y:=.me kd (mput kv g es) kv s.n) (w':=setB w b _) hl (by simp [blocks]) rfl rfl rfl (Nat.le_of_eq (setB_size _ _ _).symm) (fun c _ hc=>setB_ne (fun e=>hc (by simp [blocks,hbl,mapBlk,e]))) ?_ ρ
   rw [modify_key a2]
   refine ⟨by simp [Hid.more,h.n],b,_,clock,hbl,setB_get hw,a4.le hle,hk,{ e with key:=kv,val:=e.val },?_,rfl,by simp [Hid.more,h.n,goInt]⟩
   rw [modify_toList]
   have hjl : arr.toList[j]?=some e:=by simpa using a2
   refine List.mem_of_getElem? (i:=j) ?_
   rw [List.getElem?_modify,hjl]
   simp
  ·rw [a1] at f1; cases f1
 ·have hn:=fidx_none (i:=0) hm.is hg
  rcases hm.put hk (hzi H) with ⟨j,e,a1,_⟩ | ⟨_,a2⟩
  ·rw [hn] at a1; cases a1
  ·refine ⟨zv,goInt clock,_,by rw [hb]; exact r2 hn,tupI _ _ _ (hzi H) rfl,?_⟩
   have hf:=h.fresh (goInt clock) ρ
   have hle:=H.le_more 0 (goInt clock)
   have hbl : (H.more 0 (goInt clock)).sv id=.map (some b):=(hle.sv id hidn).trans hb
   refine hf.put (y:=.me kd (mput kv z es) kv s.n) (w':=setB w b _) hl (by simp [blocks]) rfl rfl rfl (Nat.le_of_eq (setB_size _ _ _).symm) (fun c _ hc=>setB_ne (fun e=>hc (by simp [blocks,hbl,mapBlk,e]))) ?_ ρ
   exact ⟨by simp [Hid.more,h.n],b,_,clock + 1,hbl,setB_get hw,a2.le hle,hk,⟨kv,zv,clock⟩,by simp,rfl,by simp [Hid.more,h.n,goInt]⟩

theorem born_inj {arr : Array MapEntry} {clock : Nat} (h : MapKept.Stamped arr clock) {i j : Nat} {x y : MapEntry} (hx : arr.toList[i]?=some x) (hy : arr.toList[j]?=some y) (e : x.born=y.born) : i=j:=by
 have hn:=h.2.1
 have h1 : (arr.toList.map (·.born))[i]?=some x.born:=by rw [List.getElem?_map,hx]; rfl
 have h2 : (arr.toList.map (·.born))[j]?=some x.born:=by rw [List.getElem?_map,hy,e]; rfl
 have hlt:=(List.getElem?_eq_some_iff.1 h1).1
 exact (List.getElem?_inj hlt hn).1 (h1.trans h2.symm)

theorem Sim.entryStore (h : Sim cx H s w) {id q : Nat} {kv : Value} (hl : hlook s.σ id=some (.me kd es kv q)) {g : GV} {u : Value} (hi : Is H g u) {P : Program} {t : TypeId} (ρ : Env) :
  ∃ w',(Instr.entryStore t (H.sv id) (H.sv q) u).run P w=.ok () w'∧Sim cx H { s with ρ:=ρ,σ:=hset s.σ id (.mp kd (mput kv g es)) } w':=by
 obtain ⟨_,b,arr,clock,hb,hw,hm,hk,e,he,hek,hq⟩:=h.sat.holds _ (hlook_mem hl)
 obtain ⟨i,hi'⟩:=List.getElem?_of_mem he
 have hfi : arr.findIdx? (fun x=>(x.born : Int) == (e.born : Int))=some i:=by
  rw [Array.findIdx?_eq_some_iff_getElem]
  obtain ⟨hlt,hge⟩:=List.getElem?_eq_some_iff.1 hi'
  refine ⟨by simpa using hlt,?_,fun j hj=>?_⟩
  ·rw [Array.getElem_toList] at hge
   rw [hge]
   simp
  ·have hjl : j < arr.size:=by
    have : i < arr.size:=by simpa using hlt
    omega
   have hjj : arr.toList[j]?=some arr[j]:=by simp [hjl]
   intro hc
   have hc2 : (arr[j].born : Int)=(e.born : Int):=by simpa using hc
   have : arr[j].born=e.born:=by omega
   have:=born_inj hm.st hjj hi' this
   omega
 rcases hm.put hk hi with ⟨j,e2,a1,a2,a3,a4⟩ | ⟨a1,_⟩
 ·have hj2 : arr.toList[j]?=some e2:=by simpa using a2
  have hij : j=i:=stamped_inj hm.st hj2 hi' (a3.trans hek.symm)
  subst hij
  have hmod : (arr.modify j fun x=>{ x with val:=u })=arr.modify j fun x=>{ x with key:=kv,val:=u }:=by
   apply Array.ext_getElem?
   intro i
   rw [Array.getElem?_modify,Array.getElem?_modify]
   by_cases hij : j=i
   ·subst hij
    rw [if_pos rfl,if_pos rfl,a2]
    simp [← a3]
   ·rw [if_neg hij,if_neg hij]
  refine ⟨setB w b (.map (arr.modify j fun x=>{ x with val:=u }) clock),?_,?_⟩
  ·rw [hb,hq]
   simp [Instr.entryStore,getObj,setObj,Sem.run,hw,asInt,asIntOf,hfi]
   rfl
  ·refine h.put (y:=.mp kd (mput kv g es)) (w':=setB w b _) hl (by simp [blocks]) rfl rfl rfl (Nat.le_of_eq (setB_size _ _ _).symm) (fun c _ hc=>setB_ne (fun e=>hc (by simp [blocks,hb,mapBlk,e]))) ?_ ρ
   rw [hmod]
   exact ⟨b,_,_,hb,setB_get hw,a4⟩
 ·exfalso
  have hv : vkey kv e.key=true:=by
   rw [hek]
   cases kd <;> cases kv <;> simp only [sortB,Bool.false_eq_true] at hk
   ·exact (MapKept.bytes_beq _ _).2 rfl
   ·simp [vkey]
  have : ∀ (l : List MapEntry) (n : Nat),e ∈ l→fidx kv l n ≠ none:=by
   intro l
   induction l with
   | nil=>intro _ h; cases h
   | cons x r ih =>
    intro n hm
    unfold fidx
    by_cases hx : vkey kv x.key=true
    ·rw [if_pos hx]; simp
    ·rw [if_neg hx]
     rcases List.mem_cons.1 hm with rfl | hm
     ·exact absurd hv hx
     ·exact ih _ hm
  exact this _ 0 he a1

theorem Sim.mapPutR (h : Sim cx H s w) {id : Nat} {left : List Value} {cur : Option Value} (hl : hlook s.σ id=some (.mr kd es left cur)) {kv : Value} (hk : sortB kd kv=true) {g : GV} {u : Value} (hi : Is H g u) (hin : (mfind kv es).isSome=true) {P : Program} {t kt et : TypeId} (hu : P.underlying t=some (.map kt et)) (hku : P.underlying kt=some (kdD kd)) (ρ : Env) :
  ∃ w',(Instr.mapUpdate t (H.sv id) kv u).run P w=.ok () w'∧Sim cx H { s with ρ:=ρ,σ:=hset s.σ id (.mr kd (mput kv g es) left cur) } w':=by
 obtain ⟨b,arr,clock,seen,hb,hne,hw,hm,hit,hleft,hcur⟩:=h.sat.holds _ (hlook_mem hl)
 obtain ⟨r1,_⟩:=run_mapUpdate_at (u:=u) hu hku hk hw hm.sorts
 rw [hb]
 rcases hm.put hk hi with ⟨j,e,a1,a2,a3,a4⟩ | ⟨a1,a2⟩
 ·refine ⟨_,r1 j _ e a1 a2 a3,h.put (y:=.mr kd (mput kv g es) left cur) (w':=setB w b _) hl rfl rfl rfl rfl (Nat.le_of_eq (setB_size _ _ _).symm) (fun c _ hc=>setB_ne (fun e=>hc (by simp [blocks,hb,mapBlk,e]))) ?_ ρ⟩
  refine ⟨b,_,_,seen,hb,hne,setB_get hw,a4,(setB_ne hne).trans hit,?_,fun k hk'=>?_⟩
  ·rw [hleft,lf_arr,lf_arr,modify_toList,lf_modify (e:=e) (by simpa using a2) a3]
  ·obtain ⟨h1,stamp,h2,h3⟩:=hcur k hk'
   refine ⟨h1,stamp,h2,fun x hx=>?_⟩
   rw [modify_toList] at hx
   obtain ⟨i,hi'⟩:=List.getElem?_of_mem hx
   rw [List.getElem?_modify] at hi'
   cases hy : arr.toList[i]? with
   | none=>rw [hy] at hi'; simp at hi'
   | some y =>
    rw [hy] at hi'
    simp only [Option.map_eq_map,Option.map_some,Option.some.injEq] at hi'
    have:=h3 y (List.mem_of_getElem? hy)
    split at hi'
    ·rename_i hij
     subst hij
     have : y=e:=by
      have h5 : arr.toList[j]?=some e:=by simpa using a2
      rw [h5] at hy
      cases hy
      rfl
     subst this
     rw [← hi']
     simp only
     rw [← a3]
     assumption
    ·rw [← hi']; exact this
 ·obtain ⟨g',hg'⟩:=Option.isSome_iff_exists.1 hin
  obtain ⟨j,e,e1,_⟩:=fidx_some (i:=0) hm.is g' hg'
  rw [a1] at e1
  cases e1

theorem born_find {arr : Array MapEntry} {clock i : Nat} {e : MapEntry} (h : MapKept.Stamped arr clock) (hi : arr.toList[i]?=some e) : arr.findIdx? (fun x=>(x.born : Int) == (e.born : Int))=some i:=by
 rw [Array.findIdx?_eq_some_iff_getElem]
 obtain ⟨hlt,hge⟩:=List.getElem?_eq_some_iff.1 hi
 refine ⟨by simpa using hlt,?_,fun j hj=>?_⟩
 ·rw [Array.getElem_toList] at hge
  rw [hge]
  simp
 ·have hjl : j < arr.size:=by
   have : i < arr.size:=by simpa using hlt
   omega
  have hjj : arr.toList[j]?=some arr[j]:=by simp [hjl]
  intro hc
  have hc2 : (arr[j].born : Int)=(e.born : Int):=by simpa using hc
  have : arr[j].born=e.born:=by omega
  have:=born_inj h hjj hi this
  omega

theorem Sim.mapEntryR (h : Sim cx H s w) {id : Nat} {left : List Value} {cur : Option Value} (hl : hlook s.σ id=some (.mr kd es left cur)) {kv : Value} (hk : sortB kd kv=true) {P : Program} {t kt et : TypeId} (hu : P.underlying t=some (.map kt et)) (hku : P.underlying kt=some (kdD kd)) {zv : Value} (hz : ∀ w,(zeroValue et).run P w=.ok zv w) {g : GV} (hg : mfind kv es=some g) (ρ : Env) :
  ∃ (v st : Value) (w' : World),(Instr.mapEntry t (H.sv id) kv).run P w=.ok (.tuple #[v,st]) w'∧Is (H.more 0 st) (.tup [g,.o s.n]) (.tuple #[v,st])∧Sim cx (H.more 0 st) { ρ:=ρ,σ:=hset s.σ id (.mre kd (mput kv g es) left cur kv s.n),n:=s.n + 1 } w':=by
 obtain ⟨b,arr,clock,seen,hb,hne,hw,hm,hit,hleft,hcur⟩:=h.sat.holds _ (hlook_mem hl)
 have hidn : id < H.n:=h.sat.ids _ (hlook_mem hl)
 obtain ⟨r1,_⟩:=run_mapEntry_at hu hku hz hk hw hm.sorts
 obtain ⟨j0,e0,f1,f2,f3,f4⟩:=fidx_some (i:=0) hm.is g hg
 rcases hm.put hk f4 with ⟨j,e,a1,a2,a3,a4⟩ | ⟨a1,_⟩
 ·rw [a1] at f1
  have hj0 : j=j0:=by have:=(Prod.mk.inj (Option.some.inj f1)).1; omega
  subst hj0
  have hjl : arr.toList[j]?=some e:=by simpa using a2
  have he0 : e=e0:=by
   rw [f2] at hjl
   exact (Option.some.inj hjl).symm
  subst he0
  have tupI : Is (H.more 0 (goInt e.born)) (.tup [g,.o s.n]) (.tuple #[e.val,goInt e.born]):=.tup rfl fun j x hj=>by
   match j,hj with
   | 0,hj=>cases hj; exact f4.mono (H.le_more 0 _)
   | 1,hj=>cases hj; exact .o (by simp [Hid.more,h.n]) (by simp [Hid.more,h.n]) rfl
  refine ⟨e.val,goInt e.born,_,by rw [hb]; exact r1 j _ e a1 a2 a3,tupI,?_⟩
  have hf:=h.fresh (goInt e.born) ρ
  have hle:=H.le_more 0 (goInt e.born)
  have hsv : (H.more 0 (goInt e.born)).sv id=.map (some b):=(hle.sv id hidn).trans hb
  have hbl : (H.more 0 (goInt e.born)).bl id=H.bl id:=hle.bl id hidn
  refine hf.put (y:=.mre kd (mput kv g es) left cur kv s.n) (w':=setB w b _) hl rfl rfl rfl rfl (Nat.le_of_eq (setB_size _ _ _).symm) (fun c _ hc=>setB_ne (fun e=>hc (by simp [blocks,hsv,mapBlk,e]))) ?_ ρ
  rw [modify_key a2]
  have hmem : ∀ x ∈ (arr.modify j fun x=>{ x with key:=kv,val:=e.val }).toList,∃ y ∈ arr.toList,x.key=y.key∧x.born=y.born:=fun x hx=>by
   rw [modify_toList] at hx
   obtain ⟨i,hi'⟩:=List.getElem?_of_mem hx
   rw [List.getElem?_modify] at hi'
   cases hy : arr.toList[i]? with
   | none=>rw [hy] at hi'; simp at hi'
   | some y =>
    rw [hy] at hi'
    simp only [Option.map_eq_map,Option.map_some,Option.some.injEq] at hi'
    refine ⟨y,List.mem_of_getElem? hy,?_⟩
    split at hi'
    ·rename_i hij
     subst hij
     rw [hjl] at hy
     cases hy
     rw [← hi']
     exact ⟨a3.symm,rfl⟩
    ·rw [← hi']; exact ⟨rfl,rfl⟩
  refine ⟨by simp [Hid.more,h.n],b,_,clock,seen,hsv,by rw [hbl]; exact hne,setB_get hw,a4.le hle,?_,?_,fun k hk'=>?_,hk,{ e with key:=kv,val:=e.val },?_,rfl,by simp [Hid.more,h.n,goInt]⟩
  ·rw [hbl]; exact (setB_ne hne).trans hit
  ·rw [hleft,lf_arr,lf_arr,modify_toList,lf_modify (e:=e) hjl a3]
  ·obtain ⟨h1,stamp,h2,h3⟩:=hcur k hk'
   refine ⟨h1,stamp,h2,fun x hx=>?_⟩
   obtain ⟨y,hy,e1,e2⟩:=hmem x hx
   rw [e1,e2]
   exact h3 y hy
  ·rw [modify_toList]
   refine List.mem_of_getElem? (i:=j) ?_
   rw [List.getElem?_modify,hjl]
   simp
 ·rw [a1] at f1; cases f1

theorem Sim.entryStoreR (h : Sim cx H s w) {id q : Nat} {kv : Value} {left : List Value} {cur : Option Value} (hl : hlook s.σ id=some (.mre kd es left cur kv q)) {g : GV} {u : Value} (hi : Is H g u) {P : Program} {t : TypeId} (ρ : Env) :
  ∃ w',(Instr.entryStore t (H.sv id) (H.sv q) u).run P w=.ok () w'∧Sim cx H { s with ρ:=ρ,σ:=hset s.σ id (.mr kd (mput kv g es) left cur) } w':=by
 obtain ⟨_,b,arr,clock,seen,hb,hne,hw,hm,hit,hleft,hcur,hk,e,he,hek,hq⟩:=h.sat.holds _ (hlook_mem hl)
 obtain ⟨i,hi'⟩:=List.getElem?_of_mem he
 have hfi:=born_find hm.st hi'
 rcases hm.put hk hi with ⟨j,e2,a1,a2,a3,a4⟩ | ⟨a1,_⟩
 ·have hj2 : arr.toList[j]?=some e2:=by simpa using a2
  have hij : j=i:=stamped_inj hm.st hj2 hi' (a3.trans hek.symm)
  subst hij
  have hmod : (arr.modify j fun x=>{ x with val:=u })=arr.modify j fun x=>{ x with key:=kv,val:=u }:=by
   apply Array.ext_getElem?
   intro i
   rw [Array.getElem?_modify,Array.getElem?_modify]
   by_cases hij : j=i
   ·subst hij
    rw [if_pos rfl,if_pos rfl,a2]
    simp [← a3]
   ·rw [if_neg hij,if_neg hij]
  refine ⟨setB w b (.map (arr.modify j fun x=>{ x with val:=u }) clock),?_,?_⟩
  ·rw [hb,hq]
   simp [Instr.entryStore,getObj,setObj,Sem.run,hw,asInt,asIntOf,hfi]
   rfl
  ·refine h.put (y:=.mr kd (mput kv g es) left cur) (w':=setB w b _) hl rfl rfl rfl rfl (Nat.le_of_eq (setB_size _ _ _).symm) (fun c _ hc=>setB_ne (fun e=>hc (by simp [blocks,hb,mapBlk,e]))) ?_ ρ
   rw [hmod]
   refine ⟨b,_,clock,seen,hb,hne,setB_get hw,a4,(setB_ne hne).trans hit,?_,fun k hk'=>?_⟩
   ·rw [hleft,lf_arr,lf_arr,modify_toList,lf_modify (e:=e2) hj2 a3]
   ·obtain ⟨h1,stamp,h2,h3⟩:=hcur k hk'
    refine ⟨h1,stamp,h2,fun x hx=>?_⟩
    rw [modify_toList] at hx
    obtain ⟨i,hi2⟩:=List.getElem?_of_mem hx
    rw [List.getElem?_modify] at hi2
    cases hy : arr.toList[i]? with
    | none=>rw [hy] at hi2; simp at hi2
    | some y =>
     rw [hy] at hi2
     simp only [Option.map_eq_map,Option.map_some,Option.some.injEq] at hi2
     have h4:=h3 y (List.mem_of_getElem? hy)
     split at hi2
     ·rename_i hij
      subst hij
      rw [hj2] at hy
      cases hy
      rw [← hi2]
      simp only
      rw [← a3]
      exact h4
     ·rw [← hi2]; exact h4
 ·exfalso
  have hv : vkey kv e.key=true:=by
   rw [hek]
   cases kd <;> cases kv <;> simp only [sortB,Bool.false_eq_true] at hk
   ·exact (MapKept.bytes_beq _ _).2 rfl
   ·simp [vkey]
  have : ∀ (l : List MapEntry) (n : Nat),e ∈ l→fidx kv l n ≠ none:=by
   intro l
   induction l with
   | nil=>intro _ h; cases h
   | cons x r ih =>
    intro n hm
    unfold fidx
    by_cases hx : vkey kv x.key=true
    ·rw [if_pos hx]; simp
    ·rw [if_neg hx]
     rcases List.mem_cons.1 hm with rfl | hm
     ·exact absurd hv hx
     ·exact ih _ hm
  exact this _ 0 he a1

theorem Sim.mapDelR (h : Sim cx H s w) {id : Nat} {left : List Value} {cur : Option Value} (hl : hlook s.σ id=some (.mr kd es left cur)) {kv : Value} (hk : sortB kd kv=true) {P : Program} {t kt et ty : TypeId} {ts : Array TypeId} (ht : ts[0]?=some t) (hu : P.underlying t=some (.map kt et)) (hku : P.underlying kt=some (kdD kd)) (ρ : Env) :
  ∃ w',(Builtin.delete_ ts ty #[H.sv id,kv]).run P w=.ok (.tuple #[]) w'∧Sim cx H { s with ρ:=ρ,σ:=hset s.σ id (.mr kd (mdel kv es) (kdel kv left) cur) } w':=by
 obtain ⟨b,arr,clock,seen,hb,hne,hw,hm,hit,hleft,hcur⟩:=h.sat.holds _ (hlook_mem hl)
 have r:=run_delete_at (ty:=ty) ht hu hku hk hw hm.sorts
 rw [hb]
 refine ⟨_,r,h.put (y:=.mr kd (mdel kv es) (kdel kv left) cur) (w':=setB w b _) hl rfl rfl rfl rfl (Nat.le_of_eq (setB_size _ _ _).symm) (fun c _ hc=>setB_ne (fun e=>hc (by simp [blocks,hb,mapBlk,e]))) ?_ ρ⟩
 rcases hm.del (kv:=kv) with ⟨j,e,a1,a2,a3,a5,a4⟩ | ⟨a1,a2,a3⟩
 ·rw [a1]
  have hek:=vkey_eq hk (hm.sorts e (List.mem_of_getElem? a2)) a3
  have hdrop : ∀ e' ∈ arr.toList.drop (j + 1),vkey kv e'.key=false:=fun e' he'=>by
   obtain ⟨i,hi'⟩:=List.getElem?_of_mem he'
   rw [List.getElem?_drop] at hi'
   cases hv : vkey kv e'.key with
   | false=>rfl
   | true =>
    have h2:=vkey_eq hk (hm.sorts e' (List.mem_of_getElem? hi')) hv
    have:=stamped_inj hm.st a2 hi' (hek.symm.trans h2)
    omega
  refine ⟨b,_,_,seen,hb,hne,setB_get hw,a4,(setB_ne hne).trans hit,?_,fun k hk'=>?_⟩
  ·rw [hleft,lf_arr,lf_arr,erase_toList,lf_erase a2 a3 a5 hdrop]
  ·obtain ⟨h1,stamp,h2,h3⟩:=hcur k hk'
   refine ⟨h1,stamp,h2,fun x hx=>h3 x ?_⟩
   rw [erase_toList] at hx
   exact (List.eraseIdx_sublist _ _).subset hx
 ·rw [a1,a3]
  refine ⟨b,_,_,seen,hb,hne,setB_get hw,hm,(setB_ne hne).trans hit,?_,hcur⟩
  rw [hleft,lf_arr]
  exact kdel_none (fun y hy=>by obtain ⟨e',h1,rfl⟩:=lf_mem hy; exact a2 e' h1)
end
end Go.GK
namespace Go.GK
open Go.RowKit
section
variable {cx : Cx} {H : Hid} {s : St} {w : World} {kd : Option IntKind} {es : List (Value × GV)}

theorem run_range_at {P : Program} {t k e : TypeId} (hu : P.underlying t=some (.map k e)) {b clock : Nat} {arr : Array MapEntry} (hw : w.heap[b]?=some (.map arr clock)) :
  (Instr.range t (.map (some b))).run P w=.ok (.pointer (some ⟨w.heap.size,0,none⟩)) (w.alloc (.mapIter (some b) clock #[] clock)):=by
 simp [Instr.range,run_under hu,getObj,newObj,Sem.run,hw]
theorem run_range_nil {P : Program} {t k e : TypeId} (hu : P.underlying t=some (.map k e)) (w : World) :
  (Instr.range t (.map none)).run P w=.ok (.pointer (some ⟨w.heap.size,0,none⟩)) (w.alloc (.mapIter none 0 #[] 0)):=by
 simp [Instr.range,run_under hu,newObj,Sem.run]

theorem Sim.mapRange (h : Sim cx H s w) {id : Nat} (hl : hlook s.σ id=some (.mp kd es)) {P : Program} {t kt et : TypeId} (hu : P.underlying t=some (.map kt et)) (ρ : Env) :
  ∃ (H' : Hid) (w' : World),H.le H'∧(Instr.range t (H.sv id)).run P w=.ok (.pointer (some ⟨w.heap.size,0,none⟩)) w'∧Is H' (.p s.n 0) (.pointer (some ⟨w.heap.size,0,none⟩))∧Sim cx H' { ρ:=ρ,σ:=(s.n,.mr kd es (es.map (·.1)) none) :: hset s.σ id (.itr s.n),n:=s.n + 1 } w':=by
 obtain ⟨b,arr,clock,hb,hw,hm⟩:=h.sat.holds _ (hlook_mem hl)
 obtain ⟨l1,l2,e1,_,e3⟩:=hlook_split hl
 have hs:=h.sat
 have hfr:=h.fr
 have hle:=H.le_more w.heap.size (.map (some b))
 have hn:=h.n
 have en : (H.more w.heap.size (.map (some b))).bl s.n=w.heap.size:=by simp [Hid.more,hn]
 have es' : (H.more w.heap.size (.map (some b))).sv s.n=.map (some b):=by simp [Hid.more,hn]
 have hid : id < H.n:=hs.ids _ (hlook_mem hl)
 have eid : (H.more w.heap.size (.map (some b))).sv id=.map (some b):=(hle.sv id hid).trans hb
 have hbel : Below w.heap.size w (w.alloc (.mapIter (some b) clock #[] clock)):=(Below.refl _ _).alloc (Nat.le_refl _) _
 have hblt : b < w.heap.size:=(Array.getElem?_eq_some_iff.1 hw).1
 have hin1 : ∀ z ∈ l1,z ∈ s.σ:=fun z hz=>by rw [e1]; exact List.mem_append.2 (.inl hz)
 have hin2 : ∀ z ∈ l2,z ∈ s.σ:=fun z hz=>by rw [e1]; exact List.mem_append.2 (.inr (List.mem_cons_of_mem _ hz))
 have b1 : blks (H.more w.heap.size (.map (some b))) l1=blks H l1:=blks_le hle (fun z hz=>hs.ids z (hin1 z hz))
 have b2 : blks (H.more w.heap.size (.map (some b))) l2=blks H l2:=blks_le hle (fun z hz=>hs.ids z (hin2 z hz))
 have hσb : blks H s.σ=blks H l1++([b]++blks H l2):=by rw [e1,blks_append,blks_cons]; simp [blocks,hb,mapBlk]
 have hnew : blks (H.more w.heap.size (.map (some b))) ((s.n,.mr kd es (es.map (·.1)) none) :: hset s.σ id (.itr s.n))=[b,w.heap.size]++(blks H l1++blks H l2):=by
  rw [e3,blks_cons,blks_append,blks_cons,b1,b2]
  simp [blocks,es',en,mapBlk]
 have hmem : ∀ x,x ∈ blks (H.more w.heap.size (.map (some b))) ((s.n,.mr kd es (es.map (·.1)) none) :: hset s.σ id (.itr s.n)) ↔ x=w.heap.size∨x ∈ blks H s.σ:=fun x=>by
  rw [hnew,hσb]; simp only [List.mem_append,List.mem_cons,List.not_mem_nil,or_false]; grind
 refine ⟨_,_,hle,by rw [hb]; exact run_range_at hu hw,?_,⟨by simp [Hid.more,hn],⟨fun c o hr=>?_,fun z hz=>?_,?_,fun c hc=>?_,fun z hz=>?_⟩,?_⟩⟩
 ·have:=Is.p (H:=H.more w.heap.size (.map (some b))) (id:=s.n) (off:=0) (by simp [Hid.more,hn])
  rwa [en] at this
 ·have:=hs.ro c o hr
  rw [hbel.block c (Array.getElem?_eq_some_iff.1 this).1]
  exact this
 ·rcases List.mem_cons.1 hz with rfl | hz
  ·refine ⟨b,arr,clock,#[],es',by rw [en]; omega,(hbel.block b hblt).trans hw,hm.le hle,by rw [en]; exact heap_alloc_new w _,?_,fun k hk=>by cases hk⟩
   rw [lf_arr]
   simp only [lf]
   rw [List.filter_eq_self.2 (by simp),esIs_keys hm.is]
  ·rw [e3] at hz
   have hold : ∀ y ∈ s.σ,GK.holds (H.more w.heap.size (.map (some b))) (w.alloc (.mapIter (some b) clock #[] clock)) y:=fun y hy =>
    holds_congr (w:=w) (fun c hc=>by
     rw [blocks_le hle (hs.ids y hy)] at hc
     exact hbel.block c (hs.lt c (List.mem_flatMap.2 ⟨y,hy,hc⟩))) (holds_le hle (hs.ids y hy) (hs.holds y hy))
   rcases List.mem_append.1 hz with hz | hz
   ·exact hold z (hin1 z hz)
   ·rcases List.mem_cons.1 hz with rfl | hz
    ·exact ⟨by simp [Hid.more,hn],eid.trans es'.symm,b,es'⟩
    ·exact hold z (hin2 z hz)
 ·have hnd:=hs.nodup
  rw [hσb] at hnd
  rw [hnew]
  have hperm : ([b,w.heap.size]++(blks H l1++blks H l2)).Perm (w.heap.size :: (blks H l1++([b]++blks H l2))):=by
   refine (List.Perm.swap w.heap.size b _).trans (List.Perm.cons _ ?_)
   exact (List.perm_middle (a:=b) (l₁:=blks H l1) (l₂:=blks H l2)).symm
  rw [hperm.nodup_iff]
  refine List.nodup_cons.2 ⟨fun hc=>?_,hnd⟩
  rw [← hσb] at hc
  have:=hs.lt _ hc
  omega
 ·rw [hmem] at hc
  rcases hc with rfl | hc
  ·exact hs.none_size _ (Nat.le_refl _)
  ·exact hs.free c hc
 ·rcases List.mem_cons.1 hz with rfl | hz
  ·simp [Hid.more,hn]
  ·rw [e3] at hz
   rcases List.mem_append.1 hz with hz | hz
   ·exact Nat.lt_of_lt_of_le (hs.ids z (hin1 z hz)) hle.n
   ·rcases List.mem_cons.1 hz with rfl | hz
    ·exact Nat.lt_of_lt_of_le hid hle.n
    ·exact Nat.lt_of_lt_of_le (hs.ids z (hin2 z hz)) hle.n
 ·refine ⟨hbel.os.trans hfr.os,hbel.tape.trans hfr.tape,hbel.output.trans hfr.output,Nat.le_trans hfr.size hbel.size,fun c h1 h2=>(hbel.block c (Nat.lt_of_lt_of_le h1 hfr.size)).trans (hfr.keep c h1 h2),fun c hc=>?_,fun c h1 h2=>hfr.fro c h1 h2,hfr.le.trans hle⟩
  have hc':=(hmem c).1 hc
  rcases hc' with rfl | hc'
  ·exact .inr hfr.size
  ·exact hfr.own c hc'

theorem lf_push {seen : Array Nat} : ∀ {l : List MapEntry} {e : MapEntry},e ∈ l→(l.map (·.born)).Nodup→!seen.contains e.born→∃ l1 l2,lf seen l=l1++e.key :: l2∧lf (seen.push e.born) l=l1++l2
 | [],e,h,_,_=>by cases h
 | x :: r,e,h,hn,hs=>by
  simp only [List.map_cons,List.nodup_cons] at hn
  by_cases hx : x=e
  ·subst hx
   refine ⟨[],lf seen r,?_,?_⟩
   ·simp only [lf,List.filter_cons,hs,if_true,List.map_cons,List.nil_append]
   ·have hc : (seen.push x.born).contains x.born=true:=by simp
    simp only [lf,List.filter_cons,hc,Bool.not_true,Bool.false_eq_true,if_false,List.nil_append]
    refine congrArg (List.map _) (List.filter_congr fun y hy=>?_)
    have hne : y.born ≠ x.born:=fun e=>hn.1 (by rw [← e]; exact List.mem_map_of_mem hy)
    simp [hne]
  ·have hr : e ∈ r:=by
    rcases List.mem_cons.1 h with h | h
    ·exact absurd h.symm hx
    ·exact h
   obtain ⟨l1,l2,h1,h2⟩:=lf_push hr hn.2 hs
   have hne : x.born ≠ e.born:=fun e'=>hn.1 (by rw [e']; exact List.mem_map_of_mem hr)
   have hcc : (seen.push e.born).contains x.born=seen.contains x.born:=by simp [hne]
   simp only [lf,List.filter_cons,hcc] at h1 h2 ⊢
   cases hc : seen.contains x.born with
   | true=>exact ⟨l1,l2,by simpa only [Bool.not_true,Bool.false_eq_true,if_false] using h1,by simpa only [Bool.not_true,Bool.false_eq_true,if_false] using h2⟩
   | false=>exact ⟨x.key :: l1,l2,by simp only [Bool.not_false,if_true,List.map_cons,h1,List.cons_append],by simp only [Bool.not_false,if_true,List.map_cons,h2,List.cons_append]⟩

theorem MapOk.get {arr : Array MapEntry} {clock : Nat} (h : MapOk H kd es arr clock) {e : MapEntry} (he : e ∈ arr.toList) : ∃ g,mfind e.key es=some g∧Is H g e.val:=by
 have hse:=h.sorts e he
 cases hf : mfind e.key es with
 | none =>
  have:=esIs_put (k:=e.key) (g:=.v undef) (u:=undef) (.ro (.v undef)) 0 h.is 0
  rcases this with ⟨j,x,a1,_⟩ | ⟨_,a2,_⟩
  ·rw [fidx_none h.is hf] at a1; cases a1
  ·have:=a2 e he
   rw [vkey_refl hse] at this
   cases this
 | some g =>
  obtain ⟨j,x,e1,e2,e3,e4⟩:=fidx_some (i:=0) h.is g hf
  have hx:=h.sorts x (List.mem_of_getElem? e2)
  have hk:=vkey_eq hse hx e3
  have:=nodup_inj h.st.2.2 he (List.mem_of_getElem? e2) hk
  subst this
  exact ⟨g,rfl,e4⟩

theorem Sim.mapNext (h : Sim cx H s w) {it : Nat} {left : List Value} {cur : Option Value} (hl : hlook s.σ it=some (.mr kd es left cur)) (P : Program) (ty : TypeId) (ρ : Env) :
  (left=[]∧(Instr.next (.pointer (some ⟨H.bl it,0,none⟩)) false ty).run P w=.ok (.tuple #[.bool false]) w) ∨
  ∃ l1 k l2 g v w',left=l1++k :: l2∧mfind k es=some g∧Is H g v∧(Instr.next (.pointer (some ⟨H.bl it,0,none⟩)) false ty).run P w=.ok (.tuple #[.bool true,k,v]) w'∧Sim cx H { s with ρ:=ρ,σ:=hset s.σ it (.mr kd es (l1++l2) (some k)) } w':=by
 obtain ⟨b,arr,clock,seen,hb,hne,hw,hm,hit,hleft,hcur⟩:=h.sat.holds _ (hlook_mem hl)
 rw [lf_arr] at hleft
 rcases Go.run_next_at (P:=P) w ty (H.bl it) b clock clock seen arr clock hit hw hm.st.1 (Nat.le_refl _) with ⟨h0,hr⟩ | ⟨e,he,w1,hw1,hr⟩
 ·refine .inl ⟨?_,hr⟩
  rw [hleft,← lf_arr]
  have : (Array.filter (fun e=>!seen.contains e.born) arr)=#[]:=Array.eq_empty_of_size_eq_zero h0
  rw [this]; rfl
 ·have he2 : e ∈ arr.toList∧(!seen.contains e.born)=true:=by
   have : e ∈ (Array.filter (fun e=>!seen.contains e.born) arr).toList:=he
   simp only [Array.toList_filter,List.mem_filter] at this
   exact this
  obtain ⟨l1,l2,a1,a2⟩:=lf_push he2.1 hm.st.2.1 he2.2
  obtain ⟨g,hg,hgi⟩:=hm.get he2.1
  have hsim1 : Sim cx H s w1:=by
   rcases hw1 with rfl | rfl
   ·exact h
   ·exact h.below (below_drew w)
  have hheap : w1.heap=w.heap:=by rcases hw1 with rfl | rfl <;> rfl
  have hsize : w1.heap.size=w.heap.size:=by rw [hheap]
  refine .inr ⟨l1,e.key,l2,g,e.val,_,hleft.trans a1,hg,hgi,hr,hsim1.put (y:=.mr kd es (l1++l2) (some e.key)) (w':=setB w1 (H.bl it) _) hl rfl rfl rfl rfl (Nat.le_of_eq (setB_size _ _ _).symm) (fun c _ hc=>setB_ne (fun e=>hc (by simp [blocks,e]))) ?_ ρ⟩
  refine ⟨b,arr,clock,seen.push e.born,hb,hne,(setB_ne (Ne.symm hne)).trans (by rw [hheap]; exact hw),hm,setB_get (by rw [hheap]; exact hit),by rw [lf_arr]; exact a2.symm,fun k hk=>?_⟩
  cases hk
  refine ⟨hm.sorts e he2.1,e.born,by simp,fun x hx=>⟨fun hx'=>?_,fun hx'=>?_⟩⟩
  ·rw [nodup_inj hm.st.2.1 hx he2.1 hx']; exact vkey_refl (hm.sorts e he2.1)
  ·have:=vkey_eq (hm.sorts e he2.1) (hm.sorts x hx) hx'
   rw [nodup_inj hm.st.2.2 hx he2.1 this.symm]

theorem Sim.allocObj (h : Sim cx H s w) (o : Obj) (ρ : Env) :
  Sim cx (H.more w.heap.size undef) { ρ:=ρ,σ:=(s.n,.ob o) :: s.σ,n:=s.n + 1 } (w.alloc o)∧Is (H.more w.heap.size undef) (.p s.n 0) (.pointer (some ⟨w.heap.size,0,none⟩)):=by
 have hle:=H.le_more w.heap.size undef
 have e : (H.more w.heap.size undef).bl s.n=w.heap.size:=by simp [Hid.more,h.n]
 refine ⟨h.grow hle rfl (by simp [Hid.more,h.n]) ((Below.refl _ _).alloc (Nat.le_refl _) _) ?_ (by simp [blocks]) (by simp [blocks,e]) ρ,?_⟩
 ·show (w.alloc o).heap[(H.more w.heap.size undef).bl s.n]?=some o
  rw [e]
  exact heap_alloc_new w _
 ·have:=Is.p (H:=H.more w.heap.size undef) (id:=s.n) (off:=0) (by simp [Hid.more,h.n])
  rwa [e] at this

theorem run_next_nil {P : Program} {r since last : Nat} {seen : Array Nat} (hw : w.heap[r]?=some (.mapIter none since seen last)) (ty : TypeId) : (Instr.next (.pointer (some ⟨r,0,none⟩)) false ty).run P w=.ok (.tuple #[.bool false]) w:=by
 simp [Instr.next,getObj,Sem.run,hw]
end
end Go.GK
/-
  The ghost machine is sound.
-/
namespace Go.GK
open Go.RowKit

section
variable {P : Program} {Q : Exit→Act→World→Prop}

theorem cont_ret : ∀ (k : List It) (a : Act) (w : World),cont P Q k .ret a w=Q .ret a w
 | [],_,_=>rfl
 | .code _ :: k,a,w=>cont_ret k a w
 | .blk _ :: k,a,w=>cont_ret k a w
 | .ops false _ _ :: k,a,w=>cont_ret k a w
 | .ops true _ _ :: k,a,w=>cont_ret k a w

theorem cont_panic {ch : List PanicEntry} : ∀ (k : List It) (a : Act) (w : World),cont P Q k (.panic ch) a w=Q (.panic ch) a w
 | [],_,_=>rfl
 | .code _ :: k,a,w=>cont_panic k a w
 | .blk _ :: k,a,w=>cont_panic k a w
 | .ops false _ _ :: k,a,w=>cont_panic k a w
 | .ops true _ _ :: k,a,w=>cont_panic k a w

theorem cont_exit {id : Nat} : ∀ (k : List It) (a : Act) (w : World),cont P Q k (.exit id) a w=match exitTo id k with | some k'=>cont P Q k' .normal a w | none=>Q (.exit id) a w
 | [],_,_=>rfl
 | .code _ :: k,a,w=>cont_exit k a w
 | .blk j :: k,a,w=>by
  unfold exitTo
  simp only [cont]
  cases hb : Nat.beq id j with
  | true=>rw [if_pos (beq_eq hb)]; rfl
  | false=>rw [if_neg (beq_ne hb)]; exact cont_exit k a w
 | .ops false _ _ :: k,a,w=>cont_exit k a w
 | .ops true _ _ :: k,a,w=>cont_exit k a w

theorem cont_code {c : Code} {k : List It} : ∀ (e : Exit) (a : Act) (w : World),cont P Q (.code c :: k) e a w=Exit.then (c.wp P (cont P Q k)) (cont P Q k) e a w
 | .normal,_,_=>rfl
 | .exit _,_,_=>rfl
 | .goto _,_,_=>rfl
 | .ret,_,_=>rfl
 | .panic _,_,_=>rfl
 | .outgrown,_,_=>rfl

theorem cont_blk {id : Nat} {k : List It} : ∀ (e : Exit) (a : Act) (w : World),cont P Q (.blk id :: k) e a w=Exit.inBlock id (cont P Q k) e a w
 | .normal,_,_=>rfl
 | .exit _,_,_=>rfl
 | .goto _,_,_=>rfl
 | .ret,_,_=>rfl
 | .panic _,_,_=>rfl
 | .outgrown,_,_=>rfl

theorem wpList_run {ops : Array Oper} {o : Oper} {rest : List Oper} {a : Act} {w w' : World} {u : Value} (hw : Region.wanted o (yielded ops a.tmps)=true) (hr : (execOp a.eval o).run P w=.ok (.value u) w') (h : wpList P ops Q rest (a.put o.dst u) w') : wpList P ops Q (o :: rest) a w:=by
 unfold wpList
 rw [if_pos hw]
 refine .inl ?_
 unfold Oper.wp
 rw [hr]
 exact h

theorem wpList_skipped {ops : Array Oper} {o : Oper} {rest : List Oper} {a : Act} {w w' : World} (hw : Region.wanted o (yielded ops a.tmps)=true) (hr : (execOp a.eval o).run P w=.ok .skip w') (h : wpList P ops Q rest (a.put o.dst undef) w') : wpList P ops Q (o :: rest) a w:=by
 unfold wpList
 rw [if_pos hw]
 refine .inl ?_
 unfold Oper.wp
 rw [hr]
 exact h

theorem wpList_pass {ops : Array Oper} {o : Oper} {rest : List Oper} {a : Act} {w : World} (hw : Region.wanted o (yielded ops a.tmps)=false) (h : wpList P ops Q rest (a.put o.dst undef) w) : wpList P ops Q (o :: rest) a w:=by
 unfold wpList
 rw [if_neg (by simp [hw])]
 exact h

theorem wpQuiet_run {ops : Array Oper} {C : World→Prop} {R : Act→Prop} {o : Oper} {rest : List Oper} {a : Act} {u : Value} (hw : Region.wanted o (yielded ops a.tmps)=true) (hr : ∀ w,C w→(execOp a.eval o).run P w=.ok (.value u) w) (h : wpQuiet P ops C R rest (a.put o.dst u)) : wpQuiet P ops C R (o :: rest) a:=by
 unfold wpQuiet
 rw [if_pos hw]
 refine ⟨u,fun w hC=>?_,h⟩
 unfold Oper.quietAt
 rw [hr w hC]
 exact ⟨rfl,rfl⟩

theorem wpQuiet_pass {ops : Array Oper} {C : World→Prop} {R : Act→Prop} {o : Oper} {rest : List Oper} {a : Act} (hw : Region.wanted o (yielded ops a.tmps)=false) (h : wpQuiet P ops C R rest (a.put o.dst undef)) : wpQuiet P ops C R (o :: rest) a:=by
 unfold wpQuiet
 rw [if_neg (by simp [hw])]
 exact h
end

section
variable {cx : Cx} {T : Post}

theorem JK.step_mem {all : List Oper} {o : Oper} {rest : List Oper} {k : List It} {H' : Hid} {a : Act} {w w' : World} {s' : St} {u : Value} {g : GV} {ρ : Env} {K : Env→Prop}
  (hg : GlOk cx.pg H') (ha : ActOk cx H' ρ a) (hw : Region.wanted o (yielded all.toArray a.tmps)=true) (hr : (execOp a.eval o).run cx.pg.P w=.ok (.value u) w'∨(execOp a.eval o).run cx.pg.P w=.ok .skip w'∧u=undef) (hi : Is H' g u) (hd : dput cx.N ρ o.dst g K)
  (hs : ∀ ρ',K ρ'→Sim cx H' { s' with ρ:=ρ' } w'∧JK cx T (.ops false all rest :: k) { s' with ρ:=ρ' }) :
  cont cx.pg.P (post cx T) (.ops false all (o :: rest) :: k) .normal a w:=by
 obtain ⟨ρ',ha',hk⟩:=ha.dput hi hd
 obtain ⟨hs',hJ⟩:=hs ρ' hk
 have:=hJ H' (a.put o.dst u) w' hg hs' ha'
 rcases hr with hr | ⟨hr,rfl⟩
 ·exact wpList_run hw hr this
 ·exact wpList_skipped hw hr this

theorem GlOk.re {p : Pg} {H H' : Hid} (h : GlOk p H) (e : H'.ro=H.ro:=by rfl) : GlOk p H':=⟨fun g gv hl=>by rw [e]; exact h.gl g gv hl,fun g cs hl=>by rw [e]; exact h.ex g cs hl⟩
theorem GlOk.up {p : Pg} {H H' : Hid} (h : GlOk p H) (hro : ∀ b o,H.ro b=some o→H'.ro b=some o) : GlOk p H':=⟨fun g gv hgv=>(h g gv hgv).mono hro,fun g cs hg=>by
 obtain ⟨c,ty,fz,e,hs⟩:=h.ex g cs hg
 exact ⟨c,ty,fz,hro _ _ e,hs⟩⟩
theorem GlOk.mono {p : Pg} {H H' : Hid} (h : GlOk p H) (hl : H.le H') : GlOk p H':=⟨fun g gv hgv=>(h g gv hgv).mono hl.ro,fun g cs hg=>by
 obtain ⟨c,ty,fz,e,hs⟩:=h.ex g cs hg
 exact ⟨c,ty,fz,hl.ro _ _ e,hs⟩⟩

theorem cells_vs {H : Hid} (l : List Value) : Cells H (l.map .v) l.toArray:=by
 refine ⟨by simp,fun j g hj=>?_⟩
 simp only [List.getElem?_map,Option.map_eq_some_iff] at hj
 obtain ⟨v,hv,rfl⟩:=hj
 have : l.toArray.getD j undef=v:=by simp [hv]
 rw [this]
 exact .ro (.v v)

theorem evp_is {p : Pg} {H : Hid} (hg : GlOk p H) {ρ : Env} {a : Act} (h : EnvOk H ρ a) : ∀ {xs : List (Nat × Operand)} {gs : List (Nat × GV)},evp p ρ xs=some gs→gs.length=xs.length∧∀ (j i : Nat) (g : GV),gs[j]?=some (i,g)→∃ v,(xs.map fun x=>(x.1,a.eval x.2))[j]?=some (i,v)∧Is H g v
 | [],gs,he=>by simp only [evp,Option.some.injEq] at he; subst he; simp
 | (i0,x) :: r,gs,he=>by
  unfold evp at he
  split at he
  ·rename_i g gs' h1 h2
   simp only [Option.some.injEq] at he
   subst he
   obtain ⟨hl,hi⟩:=evp_is hg h h2
   refine ⟨by simp [hl],fun j i g' hj=>?_⟩
   cases j with
   | zero=>simp at hj; obtain ⟨rfl,rfl⟩:=hj; exact ⟨a.eval x,rfl,ev_is hg h h1⟩
   | succ j=>obtain ⟨v,hv,hi'⟩:=hi j i g' (by simpa using hj); exact ⟨v,by simpa using hv,hi'⟩
  ·cases he

theorem run_build_of {p : Pg} {H : Hid} {t : Nat} {ti : TI} (hti : TyOk p.P t ti) {fs : List (Nat × Nat × Bool)} (hd : ti.d=.struct fs) {gs : List (Nat × GV)} {vs : Array (Nat × Value)} {cs : List GV} (hl : gs.length=vs.size)
  (hi : ∀ (j : Nat) i g,gs[j]?=some (i,g)→∃ v,vs.toList[j]?=some (i,v)∧Is H g v) (hf : gfill fs gs (ti.zero.map .v)=some cs) (w : World) : ∃ us,(Instr.build t vs).run p.P w=.ok (.agg us) w∧Cells H cs us:=by
 have hd':=hti.d
 rw [hd] at hd'
 obtain ⟨fields,hu,hfs,hin⟩:=hd'
 obtain ⟨it,z,hit,hsz,_,hz,hzc,hzl⟩:=hti.info
 have hzcell : Cells H (ti.zero.map .v) z.cells:=by
  have:=cells_vs (H:=H) ti.zero
  rw [← hzc] at this
  simpa [← hzc] using this
 have hplaces : ∃ places,fields.toList.mapM (fun f=>(p.P.info? f.type).map fun i=>(f.offset,i.size))=some places∧∀ (i off sz : Nat) (ag : Bool),fs[i]?=some (off,sz,ag)→places[i]?=some (off,sz):=by
  have key : ∀ (l : List Field),(∀ f ∈ l,(p.P.info? f.type).isSome=true∧(p.P.underlying f.type).isSome=true)→l.mapM (fun f=>(p.P.info? f.type).map fun i=>(f.offset,i.size))=some (l.map fun f=>(f.offset,p.P.cellsOf f.type)):=by
   intro l
   induction l with
   | nil=>intro _; rfl
   | cons f l ih =>
    intro h
    obtain ⟨i,hi⟩:=Option.isSome_iff_exists.1 (h f List.mem_cons_self).1
    have:=ih (fun g hg=>h g (List.mem_cons_of_mem _ hg))
    simp [List.mapM_cons,hi,this,Program.cellsOf]
  refine ⟨_,key _ hin,fun i off sz ag hfi=>?_⟩
  have:=hfs i
  rw [hfi] at this
  simp only [List.getElem?_map]
  rw [Array.getElem?_toList]
  cases hff : fields[i]? with
  | none=>rw [hff] at this; cases this
  | some f =>
   rw [hff] at this
   simp only [Option.map_some,Option.some.injEq,Prod.mk.injEq] at this ⊢
   exact ⟨this.1.symm,this.2.1.symm⟩
 obtain ⟨places,hpl,hpp⟩:=hplaces
 obtain ⟨us,hus,hc⟩:=fill_is (place:=(places.toArray[·]?)) (places:=fs) (by simpa using hpp) (gs:=gs) (vs:=vs.toList) (by simpa using hl) hi hzcell hf
 refine ⟨us,run_build w t vs us ?_,hc⟩
 unfold Program.built
 simp only [hit,hu,hz,hpl]
 exact hus

theorem arrPl_get : ∀ (n sz off i : Nat),(arrPl n sz off)[i]?=if i < n then some (off + i * sz,sz,false) else none
 | 0,sz,off,i=>by simp [arrPl]
 | n + 1,sz,off,0=>by simp [arrPl]
 | n + 1,sz,off,i + 1=>by
  simp only [arrPl,List.getElem?_cons_succ,arrPl_get n sz (off + sz) i,Nat.succ_lt_succ_iff,Nat.add_mul,Nat.one_mul]
  split
  ·congr 2; omega
  ·rfl

theorem run_buildA_of {p : Pg} {H : Hid} {t e n : Nat} {ti te : TI} (hti : TyOk p.P t ti) (hd : ti.d=.array n e) (hte : TyOk p.P e te) {gs : List (Nat × GV)} {vs : Array (Nat × Value)} {cs : List GV} (hl : gs.length=vs.size)
  (hi : ∀ (j : Nat) i g,gs[j]?=some (i,g)→∃ v,vs.toList[j]?=some (i,v)∧Is H g v) (hf : gfill (arrPl n te.sz 0) gs (ti.zero.map .v)=some cs) (w : World) : ∃ us,(Instr.build t vs).run p.P w=.ok (.agg us) w∧Cells H cs us:=by
 have hu:=hti.d
 rw [hd] at hu
 obtain ⟨it,z,hit,hsz,_,hz,hzc,hzl⟩:=hti.info
 have hzcell : Cells H (ti.zero.map .v) z.cells:=by
  have:=cells_vs (H:=H) ti.zero
  rw [← hzc] at this
  simpa [← hzc] using this
 obtain ⟨us,hus,hc⟩:=fill_is (place:=fun i=>some (i * te.sz,te.sz)) (places:=arrPl n te.sz 0) (by
  intro i off sz ag hx
  rw [arrPl_get] at hx
  split at hx
  ·simp only [Option.some.injEq,Prod.mk.injEq] at hx
   obtain ⟨rfl,rfl,_⟩:=hx
   simp
  ·cases hx) (gs:=gs) (vs:=vs.toList) (by simpa using hl) hi hzcell hf
 refine ⟨us,run_build w t vs us ?_,hc⟩
 unfold Program.built
 obtain ⟨ie,ze,hie,hse,_⟩:=hte.info
 simp only [hit,hu,hz,hie,hse]
 exact hus

theorem wanted_none {o : Oper} {y : Nat→Option Bool} (h : o.guard=none) : Region.wanted o y=true:=by simp [Region.wanted,h]

theorem wanted_at {all : List Oper} {o oj : Oper} {j d : Nat} {want t : Bool} {a : Act} (hgd : o.guard=some (j,want)) (hj : all[j]?=some oj) (hd : oj.dst=some d) (hv : a.tmps.getD d undef=.bool t) : Region.wanted o (yielded all.toArray a.tmps)=(t == want):=by
 have hd' : a.tmps[d]?=some (.bool t):=by
  rw [Array.getD_eq_getD_getElem?] at hv
  cases h : a.tmps[d]? with
  | none=>rw [h] at hv; simp [undef] at hv
  | some v=>rw [h] at hv; simp at hv; rw [hv]
 simp [Region.wanted,hgd,yielded,hj,hd,hd']

theorem wanted_not {all : List Oper} {o oj : Oper} {j d : Nat} {want : Bool} {vs : Array Value} {a : Act} (hgd : o.guard=some (j,want)) (hj : all[j]?=some oj) (hd : oj.dst=some d) (hv : a.tmps.getD d undef=.tuple vs) : Region.wanted o (yielded all.toArray a.tmps)=false:=by
 simp [Region.wanted,hgd,yielded,hj,hd]
 rw [Array.getD_eq_getD_getElem?] at hv
 cases h : a.tmps[d]? with
 | none=>simp
 | some v=>rw [h] at hv; simp at hv; simp [hv]

theorem ownSl_pure {p : Pg} {ρ : Env} {o : Op} (h : isPure o=false) : ownSl p ρ o=false:=by
 cases o
 case call c =>
  rcases c with ⟨callee⟩
  cases callee <;> first | rfl | (simp [isPure] at h; done)
 all_goals first | rfl | (simp [isPure] at h; done)

theorem go_mem (hp : cx.pg.Ok) {s : St} {o : Oper} {next : St→Prop} {leaf : Env→Prop} {H : Hid} {a : Act} {w : World} (hg : GlOk cx.pg H) (hs : Sim cx H s w) {ρ : Env} (ha : ActOk cx H ρ a) (hpu : isPure o.op=false) (h : goVC cx false s o next leaf ρ) :
  leaf ρ∨∃ (H' : Hid) (u : Value) (g : GV) (w' : World) (s0 : St),H.le H'∧((execOp a.eval o).run cx.pg.P w=.ok (.value u) w'∨(execOp a.eval o).run cx.pg.P w=.ok .skip w'∧u=undef)∧Is H' g u ∧
   dput cx.N ρ o.dst g (fun ρ'=>next { s0 with ρ:=ρ' })∧∀ ρ',Sim cx H' { s0 with ρ:=ρ' } w':=by
 obtain ⟨ρs,σ,m⟩:=s
 unfold goVC at h
 rw [ownSl_pure hpu,hpu] at h
 simp only [cond_false,nfL_eq,nfN_eq,nfH_eq] at h
 split at h
 ·rename_i t ho
  split at h
  ·rename_i ti hti
   obtain ⟨i,z,hi,hsz,_,hz,hzc,hzl⟩:=(hp.tt _ _ hti).info
   have hc : Cells H (ti.zero.map .v) z.cells:=by
    have:=cells_vs (H:=H) ti.zero
    rw [← hzc] at this
    simpa [← hzc] using this
   obtain ⟨h1,h2⟩:=hs.alloc hc t ρs
   refine .inr ⟨H.more w.heap.size undef,_,_,_,{ ρ:=ρs,σ:=(m,.blk t (ti.zero.map .v)) :: σ,n:=m + 1 },H.le_more _ _,.inl ?_,h2,h,fun ρ'=>h1.ρ ρ'⟩
   simp [execOp,ho,Instr.alloc,zeroValue,run_tinfo hi,hz,newVar,newRow]
  ·exact h.elim
 ·rename_i t x ho
  obtain ⟨g,hx,h⟩:=ons_some h
  have his:=ev_is hg ha.env hx
  obtain ⟨h1,h2⟩:=hs.alloc (cells_is his) t ρs
  refine .inr ⟨H.more w.heap.size undef,_,_,_,{ ρ:=ρs,σ:=(m,.blk t (cellsOf g)) :: σ,n:=m + 1 },H.le_more _ _,.inl ?_,h2,h,fun ρ'=>h1.ρ ρ'⟩
  simp [execOp,ho,Instr.box,newVar,newRow]
 ·rename_i t x y ho
  split at h
  ·rename_i ti id off g hti hx hy
   obtain ⟨hv,hid⟩:=(ev_is hg ha.env hx).inv_p
   have hyi:=ev_is hg ha.env hy
   split at h
   ·rename_i ty cs hl
    cases hb1 : allOne (cellsOf g) with
    | false=>rw [hb1] at h; exact h.elim
    | true =>
     cases hb2 : Nat.beq (cellsOf g).length ti.sz with
     | false=>rw [hb1,hb2] at h; exact h.elim
     | true =>
      cases hb3 : Nat.ble (off + ti.sz) cs.length with
      | false=>rw [hb1,hb2,hb3] at h; exact h.elim
      | true =>
       rw [hb1,hb2,hb3] at h
       simp only [Bool.and_self,cond_true] at h
       have e2:=beq_eq hb2
       have e3:=Nat.le_of_ble_eq_true hb3
       have hc:=cells_is hyi
       rw [← e2] at h e3
       obtain ⟨w',hr,hs'⟩:=hs.store hl hc e3 hb1 ρs
       refine .inr ⟨H,undef,_,_,{ ρ:=ρs,n:=m,σ:=hset σ id (.blk ty (cs.take off++cellsOf g++cs.drop (off + (cellsOf g).length))) },Hid.le.refl H,.inr ⟨?_,rfl⟩,.ro (.v undef),h,fun ρ'=>hs'.ρ ρ'⟩
       have hsz : (a.eval y).cells.size=ti.sz:=by rw [← hc.1,e2]
       simp only [execOp,ho,Instr.storeAt,Instr.sureAddr,hv,Sem.run_bind,Sem.run_pure,Result.andThen_ok,storeVar,(hp.tt _ _ hti).size]
       rw [if_neg (by simp [hsz]),hr]
       rfl
   ·exact h.elim
  ·rename_i ti id sz i off g hti hx hy
   obtain ⟨b,n,c,hv,hsv,hid⟩:=(ev_is hg ha.env hx).inv_e
   have hyi:=ev_is hg ha.env hy
   split at h
   ·rename_i ty z rows hl
    cases hb0 : Nat.beq z sz with
    | false=>rw [hb0] at h; exact h.elim
    | true =>
     cases hb1 : allOne (cellsOf g) with
     | false=>rw [hb0,hb1] at h; exact h.elim
     | true =>
      cases hb4 : idbL 0 (cellsOf g) with
      | false=>rw [hb0,hb1,hb4] at h; exact h.elim
      | true =>
       cases hb2 : Nat.beq (cellsOf g).length ti.sz with
       | false=>rw [hb0,hb1,hb4,hb2] at h; exact h.elim
       | true =>
        cases hb3 : Nat.ble (off + ti.sz) sz with
        | false=>rw [hb0,hb1,hb4,hb2,hb3] at h; exact h.elim
        | true =>
         rw [hb0,hb1,hb4,hb2,hb3] at h
         simp only [Bool.and_self,cond_true] at h
         obtain ⟨row,hrow,h⟩:=h
         have e0:=beq_eq hb0
         subst e0
         have e2:=beq_eq hb2
         have e3:=Nat.le_of_ble_eq_true hb3
         have hc:=cells_is hyi
         rw [← e2] at h e3
         obtain ⟨w',hr,hs'⟩:=hs.storeRow hl hsv hrow hc e3 hb1 hb4 ρs
         refine .inr ⟨H,undef,_,_,{ ρ:=ρs,n:=m,σ:=hset σ id (.row ty z (rows.set i (row.take off++cellsOf g++row.drop (off + (cellsOf g).length)))) },Hid.le.refl H,.inr ⟨?_,rfl⟩,.ro (.v undef),h,fun ρ'=>hs'.ρ ρ'⟩
         have hsz : (a.eval y).cells.size=ti.sz:=by rw [← hc.1,e2]
         simp only [execOp,ho,Instr.storeAt,Instr.sureAddr,hv,Sem.run_bind,Sem.run_pure,Result.andThen_ok,storeVar,(hp.tt _ _ hti).size]
         rw [if_neg (by simp [hsz]),hr]
         rfl
   ·exact h.elim
  ·exact h.elim
 ·rename_i t len parts ho
  split at h
  ·rename_i sz by_ ag z e _q gs hti hx
   obtain ⟨hl,hi⟩:=evp_is hg ha.env hx
   split at h
   ·rename_i ti hte
    cases hb1 : seqB ti.sz 0 gs with
    | false=>rw [hb1] at h; exact h.elim
    | true =>
     cases hb2 : Nat.beq gs.length len with
     | false=>rw [hb1,hb2] at h; exact h.elim
     | true =>
      cases hb3 : Nat.ble (len * ti.sz) 16777216 with
      | false=>rw [hb1,hb2,hb3] at h; exact h.elim
      | true =>
       cases hb4 : Nat.blt 0 ti.sz with
       | false=>rw [hb1,hb2,hb3,hb4] at h; exact h.elim
       | true =>
        rw [hb1,hb2,hb3,hb4] at h
        simp only [Bool.and_self,cond_true] at h
        have e2:=beq_eq hb2
        have e3:=Nat.le_of_ble_eq_true hb3
        have e4 : 0 < ti.sz:=by rw [Nat.blt_eq] at hb4; exact hb4
        obtain ⟨us,hr,hrow⟩:=run_buildSlice_of (w:=w) (hp.tt _ _ hti).d (hp.tt _ _ hte) (vs:=parts.map fun x=>(x.1,a.eval x.2)) (by simpa using hl) (by simpa using hi) hb1 e2 e3 e4
        have hlen : (gs.map fun x=>cellsOf x.2).length=len:=by simp [e2]
        have hsz : len≤maxLen:=by
         have : len≤len * ti.sz:=Nat.le_mul_of_pos_right _ e4
         simp only [maxLen]; omega
        obtain ⟨h1,h2⟩:=hs.newRow (ty:=e) hrow (by rw [hlen]; exact hsz) ρs
        rw [hlen] at h1 h2
        refine .inr ⟨_,_,_,_,{ ρ:=ρs,σ:=(m,.row e ti.sz (gs.map fun x=>cellsOf x.2)) :: σ,n:=m + 1 },H.le_more _ _,.inl ?_,h2,h,fun ρ'=>h1.ρ ρ'⟩
        simp only [execOp,ho,Sem.run_bind,hr,Result.andThen_ok]
        rfl
   ·exact h.elim
  ·exact h.elim
 ·rename_i args ts ho
  split at h
  ·rename_i sz by_ ag z e _q gd gx hti hx
   obtain ⟨x,y,hxy,hi,hj⟩:=evs_two hg ha.env hx
   obtain ⟨t,ht,hok⟩ : ∃ t,ts=#[t,t]∧TyOk cx.pg.P t ⟨sz,by_,ag,z,.slice e,_q⟩:=by
    obtain ⟨l⟩:=ts
    match l,hti with
    | [t,t'],hti =>
     simp only at hti
     cases hb : Nat.beq t t' with
     | false=>rw [hb] at hti; cases hti
     | true =>
      rw [hb] at hti
      have:=beq_eq hb
      subst this
      exact ⟨t,rfl,hp.tt _ _ hti⟩
   split at h
   ·rename_i ti hte
    cases hb1 : Nat.blt 0 ti.sz with
    | false=>rw [hb1] at h; exact h.elim
    | true =>
     cases hb2 : Nat.blt 0 ti.by_ with
     | false=>rw [hb1,hb2] at h; exact h.elim
     | true =>
      rw [hb1,hb2] at h
      simp only [Bool.and_self,cond_true] at h
      split at h
      ·rename_i rows σ' news hdr hxr
       obtain ⟨H',u,w',hle,hr,hiu,hsim⟩:=hs.append hok.d (hp.tt _ _ hte) (by rw [Nat.blt_eq] at hb1; exact hb1) (by rw [Nat.blt_eq] at hb2; exact hb2) hi hj hdr hxr h.1 ρs
       refine .inr ⟨H',u,_,w',{ ρ:=ρs,σ:=(m,.row e ti.sz (rows++news)) :: σ',n:=m + 1 },hle,.inl ?_,hiu,h.2,fun ρ'=>hsim.ρ ρ'⟩
       obtain ⟨q,hq⟩:=run_builtin (p:=cx.pg) (a:=a) rfl o ho w
       rw [hq]
       subst hxy
       subst ht
       have e1 : (Builtin.append_ #[t,t] o.type #[a.eval x,a.eval y]).run cx.pg.P w=.ok u w':=hr
       simp [builtin,e1]
      ·exact h.elim
   ·exact h.elim
  ·exact h.elim
 ·rename_i t parts ho
  split at h
  ·rename_i sz by_ ag z fs _q gs hti hx
   obtain ⟨hl,hi⟩:=evp_is hg ha.env hx
   split at h
   ·rename_i cs hf
    obtain ⟨us,hr,hc⟩:=run_build_of (hp.tt _ _ hti) rfl (vs:=parts.map fun x=>(x.1,a.eval x.2)) (by simpa using hl) (by simpa using hi) hf w
    refine .inr ⟨H,_,_,w,⟨ρs,σ,m⟩,Hid.le.refl H,.inl ?_,.agg hc.1 hc.2,h,fun ρ'=>hs.ρ ρ'⟩
    simp only [execOp,ho,Sem.run_bind,hr,Result.andThen_ok]
    rfl
   ·exact h.elim
  ·rename_i sz by_ ag z len e _q gs hti hx
   obtain ⟨hl,hi⟩:=evp_is hg ha.env hx
   split at h
   ·rename_i te hte
    split at h
    ·rename_i cs hf
     obtain ⟨us,hr,hc⟩:=run_buildA_of (hp.tt _ _ hti) rfl (hp.tt _ _ hte) (vs:=parts.map fun x=>(x.1,a.eval x.2)) (by simpa using hl) (by simpa using hi) hf w
     refine .inr ⟨H,_,_,w,⟨ρs,σ,m⟩,Hid.le.refl H,.inl ?_,.agg hc.1 hc.2,h,fun ρ'=>hs.ρ ρ'⟩
     simp only [execOp,ho,Sem.run_bind,hr,Result.andThen_ok]
     rfl
    ·exact h.elim
   ·exact h.elim
  ·exact h.elim
 ·rename_i t ho
  split at h
  ·rename_i kt et _q hti
   split at h
   ·rename_i kti hkt
    split at h
    ·rename_i kd hkd
     obtain ⟨h1,h2⟩:=hs.newMap kd ρs
     refine .inr ⟨_,_,_,_,{ ρ:=ρs,σ:=(m,.mp kd []) :: σ,n:=m + 1 },H.le_more _ _,.inl ?_,h2,h,fun ρ'=>h1.ρ ρ'⟩
     simp only [execOp,ho,Sem.run_bind]
     rfl
    ·exact h.elim
   ·exact h.elim
  ·exact h.elim
 ·rename_i t x k v ho
  split at h
  ·rename_i kt et _q hti
   split at h
   ·rename_i kti hkt
    split at h
    ·rename_i kd id kv g hkd hx hk hv
     cases hsb : sortB kd kv with
     | false=>rw [hsb] at h; exact h.elim
     | true =>
     rw [hsb] at h
     simp only [cond_true] at h
     have hu:=(hp.tt _ _ hti).d
     have hku:=kdOf_spec (hp.tt _ _ hkt) hkd
     obtain ⟨hxv,hid⟩:=(ev_is hg ha.env hx).inv_o
     have hkv:=(ev_is hg ha.env hk).inv_v
     have hvi:=ev_is hg ha.env hv
     split at h
     ·rename_i kd' es hl
      cases hkk : kdEq kd kd' with
      | false=>rw [hkk] at h; exact h.elim
      | true =>
       rw [hkk] at h
       have:=kdEq_eq hkk
       subst this
       obtain ⟨w',hr,hs'⟩:=hs.mapPut hl hsb hvi hu hku ρs
       refine .inr ⟨H,undef,_,w',{ ρ:=ρs,n:=m,σ:=hset σ id (.mp kd (mput kv g es)) },Hid.le.refl H,.inr ⟨?_,rfl⟩,.ro (.v undef),h,fun ρ'=>hs'.ρ ρ'⟩
       simp only [execOp,ho,hxv,hkv,Sem.run_bind,hr]
       rfl
     ·rename_i q hl
      split at h
      ·rename_i kd' es left cur hl2
       cases hkk : kdEq kd kd' with
       | false=>rw [hkk] at h; exact h.elim
       | true =>
        rw [hkk] at h
        have:=kdEq_eq hkk
        subst this
        obtain ⟨_,he,_⟩:=hs.sat.holds _ (hlook_mem hl)
        obtain ⟨w',hr,hs'⟩:=hs.mapPutR hl2 hsb hvi h.1 hu hku ρs
        refine .inr ⟨H,undef,_,w',{ ρ:=ρs,n:=m,σ:=hset σ q (.mr kd (mput kv g es) left cur) },Hid.le.refl H,.inr ⟨?_,rfl⟩,.ro (.v undef),h.2,fun ρ'=>hs'.ρ ρ'⟩
        rw [← he] at hr
        simp only [execOp,ho,hxv,hkv,Sem.run_bind,hr]
        rfl
      ·exact h.elim
     ·exact h.elim
    ·exact h.elim
   ·exact h.elim
  ·exact h.elim
 ·rename_i t x k ho
  split at h
  ·rename_i kt et _q hti
   split at h
   ·rename_i kti eti hkt het
    split at h
    ·rename_i kd z id kv hkd hz hx hk
     cases hsb : sortB kd kv with
     | false=>rw [hsb] at h; exact h.elim
     | true =>
     rw [hsb] at h
     simp only [cond_true] at h
     have hu:=(hp.tt _ _ hti).d
     have hku:=kdOf_spec (hp.tt _ _ hkt) hkd
     obtain ⟨hxv,hid⟩:=(ev_is hg ha.env hx).inv_o
     have hkv:=(ev_is hg ha.env hk).inv_v
     obtain ⟨zv,hzv,hzi⟩:=run_zero (hp.tt _ _ het) hz
     split at h
     ·rename_i kd' es hl
      cases hkk : kdEq kd kd' with
      | false=>rw [hkk] at h; exact h.elim
      | true =>
       rw [hkk] at h
       have:=kdEq_eq hkk
       subst this
       obtain ⟨m1,m2⟩:=hs.mapEntry hl hsb hu hku hzv hzi ρs
       simp only [cond_true] at h
       cases hf : mfind kv es with
       | some g =>
        obtain ⟨v,st,w',hr,hi,hs'⟩:=m1 g hf
        refine .inr ⟨_,_,_,w',{ ρ:=ρs,σ:=hset σ id (.me kd (mput kv g es) kv m),n:=m + 1 },H.le_more _ _,.inl ?_,hi,h.1 g hf,fun ρ'=>hs'.ρ ρ'⟩
        simp only [execOp,ho,hxv,hkv,Sem.run_bind,hr]
        rfl
       | none =>
        obtain ⟨v,st,w',hr,hi,hs'⟩:=m2 hf
        refine .inr ⟨_,_,_,w',{ ρ:=ρs,σ:=hset σ id (.me kd (mput kv z es) kv m),n:=m + 1 },H.le_more _ _,.inl ?_,hi,h.2 hf,fun ρ'=>hs'.ρ ρ'⟩
        simp only [execOp,ho,hxv,hkv,Sem.run_bind,hr]
        rfl
     ·rename_i it hl0
      split at h
      ·rename_i kd' es left cur hl
       cases hkk : kdEq kd kd' with
       | false=>rw [hkk] at h; exact h.elim
       | true =>
        rw [hkk] at h
        have:=kdEq_eq hkk
        subst this
        simp only [cond_true] at h
        obtain ⟨g,hg0,h⟩:=h
        have hsame:=(hs.sat.holds _ (hlook_mem hl0)).2.1
        obtain ⟨v,st,w',hr,hi,hs'⟩:=hs.mapEntryR hl hsb hu hku hzv hg0 ρs
        refine .inr ⟨_,_,_,w',{ ρ:=ρs,σ:=hset σ it (.mre kd (mput kv g es) left cur kv m),n:=m + 1 },H.le_more _ _,.inl ?_,hi,h,fun ρ'=>hs'.ρ ρ'⟩
        rw [← hsame] at hr
        simp only [execOp,ho,hxv,hkv,Sem.run_bind,hr]
        rfl
      ·exact h.elim
     ·exact h.elim
    ·exact h.elim
   ·exact h.elim
  ·exact h.elim
 ·rename_i t x st v ho
  split at h
  ·rename_i id q g hx hst hv
   obtain ⟨hxv,hid⟩:=(ev_is hg ha.env hx).inv_o
   obtain ⟨hsv,_⟩:=(ev_is hg ha.env hst).inv_o
   have hvi:=ev_is hg ha.env hv
   split at h
   ·rename_i kd es kv q' hl
    cases hqq : Nat.beq q q' with
    | false=>rw [hqq] at h; exact h.elim
    | true =>
     rw [hqq] at h
     have:=beq_eq hqq
     subst this
     obtain ⟨w',hr,hs'⟩:=hs.entryStore (P:=cx.pg.P) (t:=t) hl hvi ρs
     refine .inr ⟨H,undef,_,w',{ ρ:=ρs,n:=m,σ:=hset σ id (.mp kd (mput kv g es)) },Hid.le.refl H,.inr ⟨?_,rfl⟩,.ro (.v undef),h,fun ρ'=>hs'.ρ ρ'⟩
     simp only [execOp,ho,hxv,hsv,Sem.run_bind,hr]
     rfl
   ·rename_i it hl0
    split at h
    ·rename_i kd es left cur kv q' hl
     cases hqq : Nat.beq q q' with
     | false=>rw [hqq] at h; exact h.elim
     | true =>
      rw [hqq] at h
      have:=beq_eq hqq
      subst this
      have hsame:=(hs.sat.holds _ (hlook_mem hl0)).2.1
      obtain ⟨w',hr,hs'⟩:=hs.entryStoreR (P:=cx.pg.P) (t:=t) hl hvi ρs
      refine .inr ⟨H,undef,_,w',{ ρ:=ρs,n:=m,σ:=hset σ it (.mr kd (mput kv g es) left cur) },Hid.le.refl H,.inr ⟨?_,rfl⟩,.ro (.v undef),h,fun ρ'=>hs'.ρ ρ'⟩
      rw [← hsame] at hr
      simp only [execOp,ho,hxv,hsv,Sem.run_bind,hr]
      rfl
    ·exact h.elim
   ·exact h.elim
  ·exact h.elim
 ·rename_i args ts ho
  split at h
  ·rename_i kt et _q id kv hti hx
   obtain ⟨x,y,hxy,hi,hj⟩:=evs_two hg ha.env hx
   obtain ⟨t,ht,hok⟩ : ∃ t,ts[0]?=some t∧TyOk cx.pg.P t _:=by
    obtain ⟨l⟩:=ts
    match l,hti with
    | t :: _,hti=>exact ⟨t,rfl,hp.tt _ _ hti⟩
   split at h
   ·rename_i kti hkt
    split at h
    ·rename_i kd hkd
     cases hsb : sortB kd kv with
     | false=>rw [hsb] at h; exact h.elim
     | true =>
     rw [hsb] at h
     simp only [cond_true] at h
     have hu:=hok.d
     have hku:=kdOf_spec (hp.tt _ _ hkt) hkd
     obtain ⟨hxv,hid⟩:=hi.inv_o
     have hkv:=hj.inv_v
     have fin : ∀ {w' : World},(Builtin.delete_ ts o.type #[H.sv id,kv]).run cx.pg.P w=.ok (.tuple #[]) w'→(execOp a.eval o).run cx.pg.P w=.ok (.value (.tuple #[])) w':=fun hr=>by
      obtain ⟨q,hq⟩:=run_builtin (p:=cx.pg) (a:=a) rfl o ho w
      rw [hq]
      subst hxy
      simp only [builtin,List.map_toArray,List.map_cons,List.map_nil,hxv,hkv,Sem.run_bind,hr]
      rfl
     split at h
     ·rename_i kd' es hl
      cases hkk : kdEq kd kd' with
      | false=>rw [hkk] at h; exact h.elim
      | true =>
       rw [hkk] at h
       have:=kdEq_eq hkk
       subst this
       obtain ⟨w',hr,hs'⟩:=hs.mapDel (ty:=o.type) hl hsb ht hu hku ρs
       exact .inr ⟨H,_,_,w',{ ρ:=ρs,n:=m,σ:=hset σ id (.mp kd (mdel kv es)) },Hid.le.refl H,.inl (fin hr),.ro (.v _),h,fun ρ'=>hs'.ρ ρ'⟩
     ·rename_i q hl
      split at h
      ·rename_i kd' es left cur hl2
       cases hkk : kdEq kd kd' with
       | false=>rw [hkk] at h; exact h.elim
       | true =>
        rw [hkk] at h
        have:=kdEq_eq hkk
        subst this
        obtain ⟨_,he,_⟩:=hs.sat.holds _ (hlook_mem hl)
        obtain ⟨w',hr,hs'⟩:=hs.mapDelR (ty:=o.type) hl2 hsb ht hu hku ρs
        exact .inr ⟨H,_,_,w',{ ρ:=ρs,n:=m,σ:=hset σ q (.mr kd (mdel kv es) (kdel kv left) cur) },Hid.le.refl H,.inl (fin (by rw [he]; exact hr)),.ro (.v _),h,fun ρ'=>hs'.ρ ρ'⟩
      ·exact h.elim
     ·exact h.elim
    ·exact h.elim
   ·exact h.elim
  ·exact h.elim
 ·rename_i t x ho
  split at h
  ·rename_i kt et _q hti
   have hu:=(hp.tt _ _ hti).d
   split at h
   ·rename_i id hx
    obtain ⟨hxv,hid⟩:=(ev_is hg ha.env hx).inv_o
    split at h
    ·rename_i kd es hl
     obtain ⟨H',w',hle,hr,hi,hs'⟩:=hs.mapRange hl hu ρs
     refine .inr ⟨H',_,_,w',{ ρ:=ρs,σ:=(m,.mr kd es (es.map (·.1)) none) :: hset σ id (.itr m),n:=m + 1 },hle,.inl ?_,hi,h,fun ρ'=>hs'.ρ ρ'⟩
     simp only [execOp,ho,hxv,Sem.run_bind,hr]
     rfl
    ·exact h.elim
   ·rename_i hx
    have hxv:=(ev_is hg ha.env hx).inv_v
    obtain ⟨h1,h2⟩:=hs.allocObj (.mapIter none 0 #[] 0) ρs
    refine .inr ⟨_,_,_,_,{ ρ:=ρs,σ:=(m,.ob (.mapIter none 0 #[] 0)) :: σ,n:=m + 1 },H.le_more _ _,.inl ?_,h2,h,fun ρ'=>h1.ρ ρ'⟩
    simp only [execOp,ho,hxv,Sem.run_bind,run_range_nil hu]
    rfl
   ·exact h.elim
  ·exact h.elim
 ·rename_i x ho
  split at h
  ·rename_i it hx
   obtain ⟨hxv,hid⟩:=(ev_is hg ha.env hx).inv_p
   have hfalse : Is H (.tup [.v (.bool false)]) (.tuple #[.bool false]):=.tup rfl (fun j g hj=>by
    match j with
    | 0=>simp at hj; subst hj; exact .ro (.v _)
    | j + 1=>simp at hj)
   split at h
   ·rename_i since seen last hl
    have hw:=hs.sat.holds _ (hlook_mem hl)
    refine .inr ⟨H,_,_,w,⟨ρs,σ,m⟩,Hid.le.refl H,.inl ?_,hfalse,h,fun ρ'=>hs.ρ ρ'⟩
    simp only [execOp,ho,hxv,Sem.run_bind,run_next_nil hw]
    rfl
   ·rename_i kd es left cur hl
    rcases hs.mapNext hl cx.pg.P o.type ρs with ⟨h0,hr⟩ | ⟨l1,k,l2,g,v,w',h0,hf,hi,hr,hs'⟩
    ·refine .inr ⟨H,_,_,w,⟨ρs,σ,m⟩,Hid.le.refl H,.inl ?_,hfalse,h.1 h0,fun ρ'=>hs.ρ ρ'⟩
     simp only [execOp,ho,hxv,Sem.run_bind,hr]
     rfl
    ·refine .inr ⟨H,.tuple #[.bool true,k,v],_,w',{ ρ:=ρs,n:=m,σ:=hset σ it (.mr kd es (l1++l2) (some k)) },Hid.le.refl H,.inl ?_,.tup rfl (fun j g' hj=>?_),h.2 l1 k l2 g h0 hf,fun ρ'=>hs'.ρ ρ'⟩
     ·simp only [execOp,ho,hxv,Sem.run_bind,hr]
      rfl
     ·match j with
      | 0=>simp at hj; subst hj; exact .ro (.v _)
      | 1=>simp at hj; subst hj; exact .ro (.v _)
      | 2=>simp at hj; subst hj; exact hi
      | j + 3=>simp at hj
   ·exact h.elim
  ·exact h.elim
 ·exact .inl h

theorem go_sound (hp : cx.pg.Ok) {q : Bool} {all : List Oper} {o : Oper} {rest : List Oper} {k : List It} {s : St} {next : St→Prop} {leaf : Env→Prop} (hnext : ∀ s',next s'→JK cx T (.ops q all rest :: k) s') (hleaf : ∀ ρ,leaf ρ→JK cx T (.ops q all (o :: rest) :: k) { s with ρ:=ρ })
  {H : Hid} {a : Act} {w : World} (hg : GlOk cx.pg H) (hs : Sim cx H s w) {ρ : Env} (ha : ActOk cx H ρ a) (hw : Region.wanted o (yielded all.toArray a.tmps)=true) (h : goVC cx q s o next leaf ρ) :
  cont cx.pg.P (post cx T) (.ops q all (o :: rest) :: k) .normal a w:=by
 obtain ⟨ρs,σ,m⟩:=s
 unfold goVC at h
 cases hos : ownSl cx.pg ρ o.op with
 | true =>
  rw [hos] at h
  exact hleaf ρ h H a w hg (hs.ρ ρ) ha
 | false =>
 rw [hos] at h
 simp only [cond_false] at h
 cases hpu : isPure o.op with
 | true =>
  rw [hpu] at h
  obtain ⟨u,g,hr,hi,hk⟩:=pv_sound hp hg ha.env hs.sat h
  obtain ⟨ρ',ha',hn⟩:=ha.dput hi hk
  have:=hnext _ hn H (a.put o.dst u) w hg (hs.ρ ρ') ha'
  cases q with
  | false=>exact wpList_run hw (hr w (Agr.refl hs.sat) o rfl) this
  | true=>exact wpQuiet_run hw (fun w' hb=>hr w' (Agr.below hs.sat hb) o rfl) this
 | false =>
  rw [hpu] at h
  cases q with
  | true=>exact hleaf ρ h H a w hg (hs.ρ ρ) ha
  | false =>
   rcases go_mem hp hg hs ha hpu (by unfold goVC; rw [hos,hpu]; exact h) with hl | ⟨H',u,g,w',s0,hle,hr,hi,hd,hsim⟩
   ·exact hleaf ρ hl H a w hg (hs.ρ ρ) ha
   ·exact JK.step_mem (s':=s0) (hg.mono hle) (ha.mono hle) hw hr hi hd (fun ρ' hk=>⟨hsim ρ',hnext _ hk⟩)

theorem vc_sound (hp : cx.pg.Ok) : ∀ (n : Nat) (k : List It) (s : St),vc cx T n k s→JK cx T k s
 | 0,k,s,h=>by simpa [vc] using h
 | n + 1,[],s,h=>fun H a w _ hs ha=>⟨H,s,hs,ha,by simpa [vc] using h⟩
 | n + 1,.blk _ :: k,s,h=>fun H a w hg hs ha=>by
  simp only [vc] at h
  exact vc_sound hp n k s h H a w hg hs ha
 | n + 1,.ops q all [] :: k,s,h=>fun H a w hg hs ha=>by
  simp only [vc] at h
  cases q with
  | false=>exact vc_sound hp n k s h H a w hg hs ha
  | true=>exact fun w' hb=>vc_sound hp n k s h H a w' hg (hs.below hb) ha
 | n + 1,.code c :: k,s,h=>by
  cases c <;> simp only [vc] at h <;> (try exact h)
  case skip=>exact fun H a w hg hs ha=>wp_skip (vc_sound hp n k s h H a w hg hs ha)
  case seq x y =>
   exact fun H a w hg hs ha=>wp_seq (Code.wp_mono (fun e a w hq=>by rw [cont_code] at hq; exact hq) (vc_sound hp n _ s h H a w hg hs ha))
  case region i ops dr =>
   cases dr with
   | false =>
    simp only at h
    exact fun H a w hg hs ha=>wp_region_list (by simpa [cont] using vc_sound hp n _ s h H a w hg hs ha)
   | true =>
    simp only at h
    cases hpu : allPure ops.toList with
    | false=>rw [hpu] at h; exact h
    | true =>
     rw [hpu] at h
     obtain ⟨hB,hv⟩:=h
     intro H a w hg hs ha
     have:=vc_sound hp n _ s hv H a w.drew hg (hs.below (below_drew w)) ha
     refine wp_region_quiet (C:=fun w'=>Below w.drew.heap.size w.drew w') hp.mixed hB (Below.refl _ _) ?_
     simpa [cont] using this
  case cond c x y =>
   split at h
   ·rename_i t hc
    intro H a w hg hs ha
    have hcv:=(ev_is hg ha.env hc).inv_v
    cases t with
    | true=>exact wp_cond_true hcv (vc_sound hp n _ s h H a w hg hs ha)
    | false=>exact wp_cond_false hcv (vc_sound hp n _ s h H a w hg hs ha)
   ·rename_i t hc
    intro H a w hg hs ha
    have hcv:=(ev_is hg ha.env hc).inv_b
    cases t with
    | true=>exact wp_cond_true hcv (vc_sound hp n _ s (h.1 rfl) H a w hg hs ha)
    | false=>exact wp_cond_false hcv (vc_sound hp n _ s (h.2 rfl) H a w hg hs ha)
   ·exact h.elim
  case block id c =>
   exact fun H a w hg hs ha=>wp_block (Code.wp_mono (fun e a w hq=>by rw [cont_blk] at hq; exact hq) (vc_sound hp n _ s h H a w hg hs ha))
  case exit id =>
   intro H a w hg hs ha
   refine wp_exit ?_
   show cont cx.pg.P (post cx T) k (.exit id) a w
   rw [cont_exit]
   cases hx : exitTo id k with
   | none=>rw [hx] at h; exact ⟨H,s,hs,ha,h⟩
   | some k'=>rw [hx] at h; exact vc_sound hp n k' s h H a w hg hs ha
  case ret =>
   intro H a w hg hs ha
   refine wp_ret ?_
   show cont cx.pg.P (post cx T) k .ret a w
   rw [cont_ret]
   exact ⟨H,s,hs,ha,h⟩
 | n + 1,.ops q all (o :: rest) :: k,s,h=>by
  intro H a w hg hs ha
  obtain ⟨ρs,σ,m⟩:=s
  simp only [vc] at h
  have hnext : ∀ s',vc cx T n (.ops q all rest :: k) s'→JK cx T (.ops q all rest :: k) s':=fun s' h'=>vc_sound hp n _ s' h'
  have hskip : ∀ ρ,ActOk cx H ρ a→Region.wanted o (yielded all.toArray a.tmps)=false→(dput cx.N ρ o.dst (.v undef) fun ρ'=>vc cx T n (.ops q all rest :: k) ⟨ρ',σ,m⟩)→cont cx.pg.P (post cx T) (.ops q all (o :: rest) :: k) .normal a w:=by
   intro ρ ha' hw hd
   obtain ⟨ρ',ha'',hk⟩:=ha'.dput (u:=undef) (.ro (.v undef)) hd
   have:=hnext _ hk H _ w hg (hs.ρ ρ') ha''
   cases q with
   | false=>exact wpList_pass hw this
   | true=>exact wpQuiet_pass hw this
  have hgo : ∀ ρ,ActOk cx H ρ a→Region.wanted o (yielded all.toArray a.tmps)=true→goVC cx q ⟨ρs,σ,m⟩ o (fun s'=>vc cx T n (.ops q all rest :: k) s') (fun ρ=>JK cx T (.ops q all (o :: rest) :: k) ⟨ρ,σ,m⟩) ρ→cont cx.pg.P (post cx T) (.ops q all (o :: rest) :: k) .normal a w :=
   fun ρ ha' hw hd=>go_sound hp hnext (fun _ hl=>hl) hg hs ha' hw hd
  unfold guardVC at h
  split at h
  ·rename_i hgd
   exact hgo ρs ha (wanted_none hgd) h
  ·rename_i j want hgd
   split at h
   ·rename_i oj hj
    split at h
    ·rename_i d hd
     split at h
     ·rename_i t hl
      have hv:=(ha.env d _ hl).inv_v
      have hw:=wanted_at hgd hj hd hv
      cases hb : (t == want) with
      | true=>rw [hb] at h hw; exact hgo ρs ha hw h
      | false=>rw [hb] at h hw; exact hskip ρs ha hw h
     ·rename_i t hl
      have hv:=(ha.env d _ hl).inv_b
      have hw:=wanted_at hgd hj hd hv
      have hput : ∀ c,t=c→ActOk cx H ((d,.v (.bool c)) :: ρs) a:=by
       intro c hc
       refine ⟨fun x g hx=>?_,ha.size,ha.defers⟩
       unfold look at hx
       cases hb : Nat.beq d x with
       | true =>
        rw [hb] at hx
        simp at hx
        subst hx
        rw [← beq_eq hb,hv,hc]
        exact .ro (.v _)
       | false=>rw [hb] at hx; exact ha.env x g (by simpa using hx)
      by_cases e : t=want
      ·rw [e] at hw
       exact hgo _ (hput want e) (by simpa using hw) (h.1 e)
      ·have e' : t=!want:=by cases t <;> cases want <;> simp_all
       rw [e'] at hw
       exact hskip _ (hput _ e') (by simpa using hw) (h.2 e')
     ·rename_i vs hl
      exact hskip ρs ha (wanted_not hgd hj hd (ha.env d _ hl).inv_v) h
     ·exact h.elim
    ·exact h.elim
   ·exact h.elim
end
end Go.GK
