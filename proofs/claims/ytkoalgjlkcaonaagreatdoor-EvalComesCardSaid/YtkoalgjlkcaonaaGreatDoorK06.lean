/-
  The ghost machine: a string's bytes appended to own bytes.
-/
import Derived.Test.YtkoalgjlkcaonaaGreatDoorK05
import Derived.Lib.AppendStr
import Derived.Laws.CopyRow
import Derived.Lib.SliceRun
import Derived.Lib.ReflectliteSwap
import Derived.Test.YtkoalgjlkcaonaaGreatDoorK01
import Derived.Shelf.LaysM
import Derived.Shelf.LaysC
import Derived.Shelf.GgSortMore.Stable
import Derived.Test.YtkoalgjlkcaonaaGreatDoorProg
import Derived.Lib.Bytealg
import Derived.Laws.Strings
set_option linter.unusedSimpArgs false
namespace Go.GK
open Go.RowKit
section
variable {p : Pg} {H : Hid} {w : World}
theorem Sim.regrown {cx : Cx} {s : St} (hs : Sim cx H s w) {e sz : Nat} {ud u : Value} {rows news : List (List GV)} {σ' : Heap} {xs ys : List Value} {w' : World}
  (hown' : w'.ownsRow 0 e sz u (rows.length + news.length) (xs++ys)) (hrow : RowOk H.ro sz rows xs) (hyr : RowOk H.ro sz news ys) (hin : ∀ b ∈ ud.ownBlock.toList,b ∈ blks H s.σ) (hsub : ∀ x ∈ σ',x ∈ s.σ) (hnd : (blks H σ').Nodup) (hout : ∀ b ∈ ud.ownBlock.toList,b ∉ blks H σ')
  (hgr : w.grownBy w' ud.ownBlock) (hblk : u.ownBlock=ud.ownBlock∨u.ownBlock=some w.heap.size) (ρ : Env) :
  ∃ H',H.le H'∧Is H' (.o s.n) u∧Sim cx H' { ρ:=ρ,σ:=(s.n,.row e sz (rows++news)) :: σ',n:=s.n + 1 } w':=by
 have hsl : ∃ A' c',u=.slice A' (rows.length + news.length) c':=by
  rcases hown'.2 with ⟨rfl,hn⟩ | ⟨g,cap,cur,rfl,_⟩
  ·exact ⟨none,0,by rw [hn]⟩
  ·exact ⟨_,_,rfl⟩
 obtain ⟨A',c',hue⟩:=hsl
 have hle:=H.le_more w.heap.size u
 have esv : (H.more w.heap.size u).sv s.n=u:=by simp [Hid.more,hs.n]
 have hn : s.n < (H.more w.heap.size u).n:=by simp [Hid.more,hs.n]
 have hlt : ∀ b ∈ blks H s.σ,b < w.heap.size:=hs.sat.lt
 have hblkin : ∀ b ∈ u.ownBlock.toList,b ∈ ud.ownBlock.toList∨b=w.heap.size:=fun b hb=>by
  rcases hblk with h | h
  ·rw [h] at hb; exact .inl hb
  ·rw [h] at hb; simp at hb; exact .inr hb
 have hsubB : ∀ b ∈ blks H σ',b ∈ blks H s.σ:=fun b hb=>by
  obtain ⟨x,hx,hbx⟩:=List.mem_flatMap.1 hb
  exact List.mem_flatMap.2 ⟨x,hsub x hx,hbx⟩
 have hbl : blks (H.more w.heap.size u) σ'=blks H σ':=blks_le hle (fun x hx=>hs.sat.ids x (hsub x hx))
 have hkeep : ∀ b,b < w.heap.size→b ∉ ud.ownBlock.toList→w'.heap[b]?=w.heap[b]?:=fun b h1 h2=>hgr.block b h1 (fun e=>h2 (by rw [← e]; simp))
 have hblocks : blocks (H.more w.heap.size u) (s.n,Res.row e sz (rows++news))=u.ownBlock.toList:=by simp [blocks,esv]
 refine ⟨H.more w.heap.size u,hle,?_,?_⟩
 ·rw [hue] at esv ⊢
  exact .o hn esv rfl
 ·have hfr:=hs.fr
  refine ⟨by simp [Hid.more,hs.n],⟨fun b o ho=>?_,fun x hx=>?_,?_,fun b hbm=>?_,fun x hx=>?_⟩,?_⟩
  ·have h1:=hs.sat.ro b o ho
   rw [hkeep b (Array.getElem?_eq_some_iff.1 h1).1 (fun hbx=>by have h2:=hs.sat.free b (hin b hbx); have h3 : H.ro b=some o:=ho; rw [h2] at h3; cases h3)]
   exact h1
  ·rcases List.mem_cons.1 hx with rfl | hx
   ·refine ⟨xs++ys,?_,(hrow.append hyr).mono hle.ro⟩
    rw [esv]
    simpa using hown'
   ·refine holds_congr (w:=w) (fun b hb=>?_) (holds_le hle (hs.sat.ids x (hsub x hx)) (hs.sat.holds x (hsub x hx)))
    rw [blocks_le hle (hs.sat.ids x (hsub x hx))] at hb
    have hbm : b ∈ blks H σ':=List.mem_flatMap.2 ⟨x,hx,hb⟩
    exact hkeep b (hlt b (hsubB b hbm)) (fun hc=>hout b hc hbm)
  ·rw [blks_cons,hbl,hblocks]
   refine List.nodup_append.2 ⟨by cases u.ownBlock <;> simp,hnd,fun b hb c hc e=>?_⟩
   subst e
   rcases hblkin b hb with h | h
   ·exact hout b h hc
   ·have:=hlt b (hsubB b hc); omega
  ·show H.ro b=none
   rw [blks_cons,hbl,hblocks] at hbm
   rcases List.mem_append.1 hbm with h | h
   ·rcases hblkin b h with h | h
    ·exact hs.sat.free b (hin b h)
    ·exact hs.sat.none_size b (by omega)
   ·exact hs.sat.free b (hsubB b h)
  ·rcases List.mem_cons.1 hx with rfl | hx
   ·exact hn
   ·exact Nat.lt_of_lt_of_le (hs.sat.ids x (hsub x hx)) hle.n
  ·refine ⟨hgr.os.trans hfr.os,hgr.tape.trans hfr.tape,hgr.output.trans hfr.output,Nat.le_trans hfr.size hgr.size,fun b h1 h2=>?_,fun b hbm=>?_,hfr.fro,hfr.le.trans hle⟩
   ·rw [hkeep b (Nat.lt_of_lt_of_le h1 hfr.size) (fun hbx=>?_)]
    ·exact hfr.keep b h1 h2
    ·rcases hfr.own b (hin b hbx) with h | h
     ·exact h2 h
     ·omega
   ·simp only at hbm
    rw [blks_cons,hbl,hblocks] at hbm
    rcases List.mem_append.1 hbm with h | h
    ·rcases hblkin b h with h | h
     ·exact hfr.own b (hin b h)
     ·exact .inr (by have:=hfr.size; omega)
    ·exact hfr.own b (hsubB b h)
end
section
variable {cx : Cx} {T : Post}
end
end Go.GK
/-
  The ghost machine: a piece of an own slice is cleared; an own slice is cut to its beginning.
-/
namespace Go.GK
open Go.RowKit
theorem mid_take {α : Type} (A z : List α) (p r : Nat) (hp : p + z.length≤r) (hr : r≤A.length) : (A.take p++z++A.drop (p + z.length)).take r=(A.take r).take p++z++(A.take r).drop (p + z.length):=by
 apply List.ext_getElem?
 intro q
 rw [List.getElem?_take]
 by_cases hq : q < r
 ·rw [if_pos hq]
  by_cases h1 : q < p
  ·rw [List.append_assoc,List.getElem?_append_left (by simp; omega),List.append_assoc,List.getElem?_append_left (by simp; omega)]
   rw [List.getElem?_take,List.getElem?_take,List.getElem?_take,if_pos h1,if_pos h1,if_pos hq]
  ·by_cases h2 : q < p + z.length
   ·rw [List.getElem?_append_left (by simp; omega),List.getElem?_append_right (by simp; omega)]
    rw [List.getElem?_append_left (by simp; omega),List.getElem?_append_right (by simp; omega)]
    congr 1
    simp
    omega
   ·rw [List.getElem?_append_right (by simp; omega),List.getElem?_append_right (by simp; omega)]
    rw [List.getElem?_drop,List.getElem?_drop,List.getElem?_take,if_pos (by simp; omega)]
    congr 1
    simp
    omega
 ·rw [if_neg hq]
  symm
  apply List.getElem?_eq_none
  simp
  omega
section
variable {p : Pg} {H : Hid} {w : World}
theorem RowOk.vals (ro : Nat→Option Obj) (sz n : Nat) (us : List Value) (hl : us.length=n * sz) (h1 : ∀ u ∈ us,u.oneCell'=true) : ∃ zs : List (List GV),zs.length=n∧RowOk ro sz zs us:=by
 refine ⟨(List.range n).map fun i=>(List.range sz).map fun j=>.v (us.getD (i * sz + j) undef),by simp,by simp [hl],fun row hr=>?_,fun i row hr j g hj=>?_,h1⟩
 ·obtain ⟨i,_,rfl⟩:=List.mem_map.1 hr
  simp
 ·rw [List.getElem?_map] at hr
  obtain ⟨i',hi,rfl⟩:=Option.map_eq_some_iff.1 hr
  have hi1:=(List.getElem?_eq_some_iff.1 hi)
  obtain ⟨hi2,hi3⟩:=hi1
  simp at hi2 hi3
  subst hi3
  rw [List.getElem?_map] at hj
  obtain ⟨j',hj',rfl⟩:=Option.map_eq_some_iff.1 hj
  obtain ⟨hj2,hj3⟩:=List.getElem?_eq_some_iff.1 hj'
  simp at hj2 hj3
  subst hj3
  have hlt : i * sz + j < us.length:=by
   rw [hl]
   have:=Nat.mul_le_mul_right sz (show i + 1≤n by omega)
   rw [Nat.add_mul] at this
   omega
  exact ⟨us.getD (i * sz + j) undef,by simp [hlt],.v _⟩
theorem RowOk.take {ro : Nat→Option Obj} {sz : Nat} {rows : List (List GV)} {xs : List Value} (h : RowOk ro sz rows xs) (m : Nat) : RowOk ro sz (rows.take m) (xs.take (m * sz)):=by
 refine ⟨?_,fun row hr=>h.each row (List.mem_of_mem_take hr),fun i row hr j g hj=>?_,fun u hu=>h.one u (List.mem_of_mem_take hu)⟩
 ·rw [List.length_take,List.length_take,h.len]
  by_cases hm : m≤rows.length
  ·have:=Nat.mul_le_mul_right sz hm
   rw [Nat.min_eq_left hm,Nat.min_eq_left this]
  ·have:=Nat.mul_le_mul_right sz (show rows.length≤m by omega)
   rw [Nat.min_eq_right (show rows.length≤m by omega),Nat.min_eq_right this]
 ·rw [List.getElem?_take] at hr
  split at hr
  ·rename_i hi
   obtain ⟨u,hu,his⟩:=h.is i row hr j g hj
   refine ⟨u,?_,his⟩
   have hj' : j < sz:=by rw [← h.each row (List.mem_of_getElem? hr)]; exact (List.getElem?_eq_some_iff.1 hj).1
   have:=Nat.mul_le_mul_right sz (show i + 1≤m by omega)
   rw [Nat.add_mul] at this
   rw [List.getElem?_take,if_pos (by omega)]
   exact hu
  ·cases hr
theorem RowOk.drop {ro : Nat→Option Obj} {sz : Nat} {rows : List (List GV)} {xs : List Value} (h : RowOk ro sz rows xs) (m : Nat) : RowOk ro sz (rows.drop m) (xs.drop (m * sz)):=by
 refine ⟨?_,fun row hr=>h.each row (List.mem_of_mem_drop hr),fun i row hr j g hj=>?_,fun u hu=>h.one u (List.mem_of_mem_drop hu)⟩
 ·rw [List.length_drop,List.length_drop,h.len,Nat.sub_mul]
 ·rw [List.getElem?_drop] at hr
  obtain ⟨u,hu,his⟩:=h.is (m + i) row hr j g hj
  refine ⟨u,?_,his⟩
  rw [List.getElem?_drop,← hu]
  congr 1
  rw [Nat.add_mul]
  omega
end
section
variable {cx : Cx} {T : Post}
theorem JK.eqNil {all : List Oper} {o : Oper} {rest : List Oper} {k : List It} {s : St} {t e t' : TypeId} {x : Operand} {ti : TI} {sz : Nat} {rows : List (List GV)} (hp : cx.pg.Ok) (ho : o.op=.binOp .eql t x (.const (.slice none 0 0)) t') (hgd : gdOk all s.ρ o.guard=true)
  (ht : tget cx.pg.tt t=some ti) (htd : ti.d=.slice e) (hx : ev cx.pg s.ρ x=some (.sl sz rows))
  (hk1 : rows=[]→dput cx.N s.ρ o.dst (.v (.bool true)) fun ρ'=>JK cx T (.ops false all rest :: k) ⟨ρ',s.σ,s.n⟩)
  (hk2 : dput cx.N s.ρ o.dst (.v (.bool false)) fun ρ'=>JK cx T (.ops false all rest :: k) ⟨ρ',s.σ,s.n⟩) : JK cx T (.ops false all (o :: rest) :: k) s:=by
 intro H a w hg hs ha
 have hw:=gdOk_wanted (o:=o) ha.env hgd
 have hu : cx.pg.P.underlying t=some (.slice e):=by have:=(hp.tt _ _ ht).d; rw [htd] at this; exact this
 obtain ⟨A,c,us,hv,hc,hm,he,hne⟩:=(ev_is hg ha.env hx).inv_sl.inv_sl
 have hrun : (execOp a.eval o).run cx.pg.P w=.ok (.value (.bool A.isNone)) w:=by
  have:=Lib.run_eql_slice_nil (P:=cx.pg.P) w t e A rows.length c 0 0 hu
  have hgd : (eqGuard .eql t x (.const (.slice none 0 0)) (.slice A rows.length c) (.slice none 0 0)).run cx.pg.P w=.ok () w:=by simp [eqGuard]
  have hc : a.eval (.const (.slice none 0 0))=.slice none 0 0:=rfl
  simp only [execOp,ho,hv,hc,Sem.run_bind,hgd,Result.andThen_ok,this]
  rfl
 cases A with
 | none =>
  have hr : rows=[]:=by
   by_cases h : rows=[]
   ·exact h
   ·obtain ⟨ad,h1,_⟩:=hne h; cases h1
  obtain ⟨ρ',ha',hJ⟩:=ha.dput (u:=.bool true) (.ro (.v _)) (hk1 hr)
  exact wpList_run hw hrun (hJ _ (a.put o.dst _) w hg (hs.ρ ρ') ha')
 | some ad =>
  obtain ⟨ρ',ha',hJ⟩:=ha.dput (u:=.bool false) (.ro (.v _)) hk2
  exact wpList_run hw hrun (hJ _ (a.put o.dst _) w hg (hs.ρ ρ') ha')
end
theorem Hf.ofJ {p : Pg} {f : FuncId} {fn : Func} {c : Code} {n0 N : Nat} {args : List GV} {σ : Heap} {Q : GV→Heap→Nat→Prop} (hp : p.Ok) (hf : p.P.funcs[f]?=some fn) (hb : fn.body=some c) (hN : fn.ntmps=N) (hl : Nat.ble args.length N=true) {rs : Array ResultVar} (hr : fn.results=rs)
  (hc : ∀ ar w,(callFunc f ar).run p.P w=.ok (.enter f ar) w)
  (h : ∀ (H0 : Hid) (S0 : List Nat) (w0 : World) (h0 : H0.n=n0) (g0 : GlOk p H0),JK ⟨p,N,n0,H0,S0,w0,h0,g0⟩ (retT p rs.toList Q) [.code c] ⟨argEnv 0 args,σ,n0⟩) : Hf p f n0 args σ Q :=
 ⟨hc,Ct.of_JK hp hf hb hN hl hr h⟩
theorem Rt.ofJ {p : Pg} {f : FuncId} {fn : Func} {c : Code} {N : Nat} {args : List GV} {G : GV} (hp : p.Ok) (hf : p.P.funcs[f]?=some fn) (hb : fn.body=some c) (hN : fn.ntmps=N) (hl : Nat.ble args.length N=true) {rs : Array ResultVar} (hr : fn.results=rs)
  (hc : ∀ ar w,(callFunc f ar).run p.P w=.ok (.enter f ar) w)
  (h : ∀ (H0 : Hid) (S0 : List Nat) (w0 : World) (h0 : H0.n=0) (g0 : GlOk p H0),JK ⟨p,N,0,H0,S0,w0,h0,g0⟩ (retT p rs.toList fun g _ _=>eqG G g∧idb 0 g=true) [.code c] ⟨argEnv 0 args,[],0⟩) : Rt p f args G:=by
 have hq : Rq p f args (eqG G):=⟨hc,Ct.weak (Ct.of_JK hp hf hb hN hl hr h) fun g σ' n' hq=>⟨id,g,[],0,⟨hq,rfl,rfl⟩,(ren_id g).symm,trivial,by simp [hq.2,idbH,hids,distB,fixB]⟩⟩
 refine ⟨hc,fun H us w hn hg hcs hs=>?_⟩
 refine (hq.ct H us w hn hg hcs hs).mono ?_
 rintro e w' ⟨u,g,H',σ',rfl,hi,hs',hfr,hq,h1,h2⟩
 exact ⟨u,G,H',σ',rfl,eqG_is hq.1 hi,hs',hfr,⟨rfl,eqG_idb hq.1 hq.2⟩,h1,h2⟩
def SubR (g' g : GV) : Prop:=∀ {ro : Nat→Option Obj} {u : Value},IsR ro g u→IsR ro g' u
theorem SubR.rfl {g : GV} : SubR g g:=fun h=>h
theorem SubR.nil (sz : Nat) : SubR (.sl sz []) (.v (.slice none 0 0)):=fun {ro u} h=>by
 cases h
 exact .slnil
inductive SubL : List GV→List GV→Prop
 | nil : SubL [] []
 | cons {x y : GV} {xs ys : List GV} (h : SubR x y) (t : SubL xs ys) : SubL (x :: xs) (y :: ys)
inductive SubRows : List (List GV)→List (List GV)→Prop
 | nil : SubRows [] []
 | cons {x y : List GV} {xs ys : List (List GV)} (h : SubL x y) (t : SubRows xs ys) : SubRows (x :: xs) (y :: ys)
theorem SubL.get : ∀ {xs ys : List GV},SubL xs ys→xs.length=ys.length∧∀ (j : Nat) (x : GV),xs[j]?=some x→∃ y,ys[j]?=some y∧SubR x y
 | [],[],_=>⟨_root_.rfl,fun j x h=>by simp at h⟩
 | _ :: _,_ :: _,.cons h t=>by
  obtain ⟨h1,h2⟩:=t.get
  refine ⟨by simp [h1],fun j x hx=>?_⟩
  cases j with
  | zero=>simp at hx; subst hx; exact ⟨_,_root_.rfl,h⟩
  | succ j=>obtain ⟨y,hy,hs⟩:=h2 j x (by simpa using hx); exact ⟨y,by simpa using hy,hs⟩
theorem SubRows.get : ∀ {xs ys : List (List GV)},SubRows xs ys→xs.length=ys.length∧∀ (j : Nat) (x : List GV),xs[j]?=some x→∃ y,ys[j]?=some y∧SubL x y
 | [],[],_=>⟨_root_.rfl,fun j x h=>by simp at h⟩
 | _ :: _,_ :: _,.cons h t=>by
  obtain ⟨h1,h2⟩:=t.get
  refine ⟨by simp [h1],fun j x hx=>?_⟩
  cases j with
  | zero=>simp at hx; subst hx; exact ⟨_,_root_.rfl,h⟩
  | succ j=>obtain ⟨y,hy,hs⟩:=h2 j x (by simpa using hx); exact ⟨y,by simpa using hy,hs⟩
theorem Sub.rows {sz : Nat} {rows rows' : List (List GV)} (h : SubRows rows' rows) : Sub (.sl sz rows') (.sl sz rows):=fun {H u} hi=>by
 have hr:=hi.inv_sl
 obtain ⟨hlen,hget⟩:=h.get
 refine .ro ?_
 cases hr with
 | slnil =>
  have : rows'=[]:=List.length_eq_zero_iff.1 hlen
  subst this
  exact .slnil
 | sl us h0 hc hm h1 h2 h3 =>
  rw [← hlen]
  refine .sl us (fun row hrow=>?_) (by rw [hlen]; exact hc) hm (fun i row hrow j g hj=>?_) (fun i row hrow j g hj=>?_) h3
  ·obtain ⟨i,hi⟩:=List.getElem?_of_mem hrow
   obtain ⟨y,hy,hs⟩:=hget i row hi
   rw [hs.get.1]
   exact h0 y (List.mem_of_getElem? hy)
  ·obtain ⟨y,hy,hs⟩:=hget i row hrow
   obtain ⟨y2,hy2,_⟩:=hs.get.2 j g hj
   exact h1 i y hy j y2 hy2
  ·obtain ⟨y,hy,hs⟩:=hget i row hrow
   obtain ⟨y2,hy2,hs2⟩:=hs.get.2 j g hj
   exact hs2 (h2 i y hy j y2 hy2)
end Go.GK
/-
  The ghost machine: two elements of an own row change places, by the function that reflectlite.Swapper hands out.
-/
namespace Go.GK
open Go.RowKit
theorem setCells_row (g : Nat) (t : TypeId) : ∀ (vs : List Value) (o : Nat) (cur : Array Value) (w : World),w.heap[g]?=some (.cells cur t (0,0))→o + vs.length≤cur.size →
  w.setCells g o vs=w.setRow g (cur.toList.take o++vs++cur.toList.drop (o + vs.length)).toArray
 | [],o,cur,w,hg,_=>by
  simp only [World.setCells,List.append_nil,List.length_nil,Nat.add_zero,List.take_append_drop,Array.toArray_toList]
  exact (setRow_self w g cur t (0,0) hg).symm
 | v :: r,o,cur,w,hg,hl=>by
  simp only [List.length_cons] at hl
  rw [World.setCells,setCell_eq_setRow w g o cur t (0,0) v hg,setCells_row g t r (o + 1) (cur.setIfInBounds o v) (w.setRow g (cur.setIfInBounds o v)) (setRow_heap w g cur _ t _ hg) (by simp; omega),setRow_setRow]
  have e:=list_seg_step cur.toList o v r (by simp; omega)
  simp only [Array.toList_setIfInBounds]
  rw [e]
  rfl
theorem RowOk.one1 {ro : Nat→Option Obj} {sz : Nat} {row : List GV} {vs : List Value} (hl : vs.length=sz) (hr : row.length=sz) (his : ∀ (j : Nat) (g : GV),row[j]?=some g→∃ u,vs[j]?=some u∧IsR ro g u) (h1 : ∀ u ∈ vs,u.oneCell'=true) : RowOk ro sz [row] vs:=by
 refine ⟨by simp [hl],fun r h=>by rw [List.mem_singleton.1 h]; exact hr,fun i r hir j g hj=>?_,h1⟩
 cases i with
 | zero =>
  simp at hir
  subst hir
  simpa using his j g hj
 | succ i=>simp at hir
theorem RowOk.put {ro : Nat→Option Obj} {sz : Nat} {rows : List (List GV)} {xs : List Value} (h : RowOk ro sz rows xs) {i : Nat} (hi : i < rows.length) {row : List GV} {vs : List Value} (hl : vs.length=sz) (hr : row.length=sz) (his : ∀ (j : Nat) (g : GV),row[j]?=some g→∃ u,vs[j]?=some u∧IsR ro g u) (h1 : ∀ u ∈ vs,u.oneCell'=true) :
  RowOk ro sz (rows.set i row) (xs.take (i * sz)++vs++xs.drop (i * sz + vs.length)):=by
 have e : rows.set i row=rows.take i++[row]++rows.drop (i + 1):=by
  rw [List.set_eq_take_append_cons_drop,if_pos hi]
  simp
 have e2 : i * sz + vs.length=(i + 1) * sz:=by rw [hl,Nat.add_mul,Nat.one_mul]
 rw [e,e2]
 exact ((h.take i).append (.one1 hl hr his h1)).append (h.drop (i + 1))
theorem ownsRow_put {w : World} {e sz : Nat} {g n cap : Nat} {cur : Array Value} {xs vs : List Value} {i : Nat} (hgc : w.heap[g]?=some (.cells cur e (0,0))) (hn : n≤cap) (hcs : cur.size=cap * sz) (htk : cur.toList.take (n * sz)=xs) (hi : i < n) (hl : vs.length=sz) :
  ∃ cur' : Array Value,w.setCells g (0 + i * sz) vs=w.setRow g cur'∧(w.setRow g cur').heap[g]?=some (.cells cur' e (0,0))∧cur'.size=cap * sz∧cur'.toList.take (n * sz)=xs.take (i * sz)++vs++xs.drop (i * sz + vs.length):=by
 have h1 : (i + 1) * sz≤n * sz:=Nat.mul_le_mul_right sz hi
 have h2 : n * sz≤cap * sz:=Nat.mul_le_mul_right sz hn
 have h3 : (i + 1) * sz=i * sz + sz:=by rw [Nat.add_mul,Nat.one_mul]
 have hcl : cur.toList.length=cap * sz:=by simpa using hcs
 refine ⟨(cur.toList.take (i * sz)++vs++cur.toList.drop (i * sz + vs.length)).toArray,?_,setRow_heap w g cur _ e _ hgc,?_,?_⟩
 ·rw [Nat.zero_add]
  exact setCells_row g e vs (i * sz) cur w hgc (by rw [hl,hcs]; omega)
 ·rw [List.size_toArray,List.length_append,List.length_append,List.length_take,List.length_drop,hcl,hl,Nat.min_eq_left (by omega)]
  omega
 ·have:=mid_take cur.toList vs (i * sz) (n * sz) (by rw [hl]; omega) (by rw [hcl]; exact h2)
  rw [htk] at this
  exact this
section
variable {cx : Cx} {T : Post}
theorem JK.swapX {all : List Oper} {o : Oper} {rest : List Oper} {k : List It} {s : St} {f : FuncId} {gS : Bool} (hx : ∀ args W,(callFunc f args).run cx.pg.P W=((Extern.ReflectliteSwapper.swap gS args).run cx.pg.P W).andThen fun v w'=>.ok (.value v) w')
  {e : TypeId} {ie : TypeInfo} (hie : cx.pg.P.info? e=some ie) (hagg : ∀ w,(isAgg e).run cx.pg.P w=.ok true w) {id sz : Nat} {rows : List (List GV)} {i j : Nat} {r1 r2 : List GV} (hsz : ie.size=sz)
  (hk : callG cx.pg all s.ρ o=some (f,[.v (.int .i64 (i : Int)),.v (.int .i64 (j : Int)),.o id,.v (typeHandle cx.pg.P e)])) (hl : hlook s.σ id=some (.row e sz rows)) (hi : rows[i]?=some r1) (hj : rows[j]?=some r2)
  (h : dputV cx.N s.ρ o.dst (.tup []) fun ρ'=>nfH (hset s.σ id (.row e sz ((rows.set i r2).set j r1))) fun σ'=>JK cx T (.ops false all rest :: k) ⟨ρ',σ',s.n⟩) : JK cx T (.ops false all (o :: rest) :: k) s:=by
 rw [dputV_eq] at h
 obtain ⟨fo,args,ts,first,caps,gs,ho,hgd,hf,he,hargs⟩:=callG_spec hk
 intro H a w hg hs ha
 have hw:=gdOk_wanted (o:=o) ha.env hgd
 obtain ⟨fs,cs,hv,hfl,hfi,hcl,hci⟩:=(ev_is hg ha.env hf).inv_fn
 have hc : Cells H (first++gs++caps) (fs++args.map a.eval++cs):=cells_app (cells_app ⟨hfl,hfi⟩ (evs_cells hg ha.env he)) ⟨hcl,hci⟩
 rw [hargs] at hc
 generalize hus : fs++args.map a.eval++cs=us at hc
 have g0:=(hc.2 0 _ rfl).inv_v
 have g1:=(hc.2 1 _ rfl).inv_v
 obtain ⟨g2,hid⟩:=(hc.2 2 _ rfl).inv_o
 have g3:=(hc.2 3 _ rfl).inv_v
 have hue : us=#[.int .i64 (i : Int),.int .i64 (j : Int),H.sv id,typeHandle cx.pg.P e]:=by
  have h4 : us.size=4:=hc.1.symm
  apply Array.ext
  ·exact h4
  ·intro q h5 h6
   have hq : us[q]=us.getD q undef:=by simp [Array.getD,h5]
   rw [hq]
   match q,h6 with
   | 0,_=>exact g0
   | 1,_=>exact g1
   | 2,_=>exact g2
   | 3,_=>exact g3
 obtain ⟨xs,hown,hrow⟩:=hs.sat.holds _ (hlook_mem hl)
 have hin : i < rows.length:=(List.getElem?_eq_some_iff.1 hi).1
 have hjn : j < rows.length:=(List.getElem?_eq_some_iff.1 hj).1
 have hxl : xs.length=rows.length * sz:=by simpa using hown.1
 rcases hown.2 with ⟨_,hn⟩ | ⟨g,cap,cur,hsv,_,hgc,hnc,hcm,hcs,htk⟩
 ·omega
 have seg : ∀ q,q < rows.length→q * sz + sz≤rows.length * sz:=fun q hq=>by
  have:=Nat.mul_le_mul_right sz (show q + 1≤rows.length from hq)
  rwa [Nat.add_mul,Nat.one_mul] at this
 have hcapm : rows.length * sz≤cap * sz:=Nat.mul_le_mul_right sz hnc
 have hcurx : ∀ t (ht : t < xs.length),cur[t]?=some xs[t]:=by
  intro t ht
  have h1 : (cur.toList.take (rows.length * sz))[t]?=some xs[t]:=by rw [htk,List.getElem?_eq_getElem ht]
  rw [List.getElem?_take,if_pos (by omega)] at h1
  simpa using h1
 have hcell : ∀ q,q < rows.length→∀ u v,((xs.drop (q * sz)).take sz)[u]?=some v→w.cell? ⟨g,0 + q * sz + u,none⟩=some v:=by
  intro q hq u v huv
  rw [List.getElem?_take] at huv
  split at huv
  ·rename_i hu
   rw [List.getElem?_drop] at huv
   obtain ⟨h1,h2⟩:=List.getElem?_eq_some_iff.1 huv
   simp only [World.cell?,hgc,Nat.zero_add]
   rw [if_neg (by simp),hcurx _ h1,h2]
  ·cases huv
 have hfr : ∀ q u,w.frozen? ⟨g,0 + q * sz + u,none⟩=false:=fun q u=>by simp [World.frozen?,hgc]
 have hlen : ∀ q,q < rows.length→((xs.drop (q * sz)).take sz).length=sz:=fun q hq=>by
  have:=seg q hq
  rw [List.length_take,List.length_drop,hxl]; omega
 have hone : ∀ q,∀ v ∈ (xs.drop (q * sz)).take sz,v.oneCell'=true:=fun q v hv=>hrow.one v (List.mem_of_mem_drop (List.mem_of_mem_take hv))
 have his : ∀ q r,rows[q]?=some r→∀ (t : Nat) (gv : GV),r[t]?=some gv→∃ u,((xs.drop (q * sz)).take sz)[t]?=some u∧IsR H.ro gv u:=fun q r hqr t gv ht=>by
  obtain ⟨u,h1,h2⟩:=hrow.is q r hqr t gv ht
  have hts : t < sz:=by rw [← hrow.each r (List.mem_of_getElem? hqr)]; exact (List.getElem?_eq_some_iff.1 ht).1
  exact ⟨u,by rw [List.getElem?_take,if_pos hts,List.getElem?_drop]; exact h1,h2⟩
 have hsw:=Lib.run_swap_cells (P:=cx.pg.P) gS e ie hie hagg g 0 rows.length cap i j hin hjn ((xs.drop (i * sz)).take sz) ((xs.drop (j * sz)).take sz) (by rw [hsz]; exact hlen i hin) (by rw [hsz]; exact hlen j hjn) (hone i) (hone j) w
  (by rw [hsz]; exact hcell i hin) (by rw [hsz]; exact hcell j hjn) (fun u _=>by rw [hsz]; exact hfr i u) (fun u _=>by rw [hsz]; exact hfr j u)
 rw [hsz] at hsw
 have e1 : rows[i]?=some r1:=hi
 have r1l:=hrow.each r1 (List.mem_of_getElem? hi)
 have r2l:=hrow.each r2 (List.mem_of_getElem? hj)
 obtain ⟨cur1,k1,k2,k3,k4⟩:=ownsRow_put (i:=i) hgc hnc hcs htk hin (hlen j hjn)
 obtain ⟨cur2,m1,m2,m3,m4⟩:=ownsRow_put (i:=j) k2 hnc k3 k4 hjn (hlen i hin)
 rw [k1,m1] at hsw
 have hR1:=hrow.put hin (hlen j hjn) r2l (his j r2 hj) (hone j)
 have hR2:=hR1.put (i:=j) (by simpa using hjn) (hlen i hin) r1l (his i r1 hi) (hone i)
 have hrun : (execOp a.eval o).run cx.pg.P w=.ok (.value (.tuple #[])) ((w.setRow g cur1).setRow g cur2):=by
  simp only [execOp,ho,resolve,hv,Deferred.ofValue,Sem.run_bind,Sem.run_pure,Result.andThen_ok,invoke,hx]
  rw [hus,hue,hsv,hsw]
  rfl
 have hh : GK.holds H ((w.setRow g cur1).setRow g cur2) (id,.row e sz ((rows.set i r2).set j r1)):=by
  refine ⟨_,?_,hR2⟩
  have hl2 : ((rows.set i r2).set j r1).length=rows.length:=by simp
  rw [hl2]
  refine ⟨?_,.inr ⟨g,cap,cur2,hsv,Nat.zero_le _,m2,hnc,hcm,m3,m4⟩⟩
  have:=hR2.len
  rwa [hl2] at this
 obtain ⟨ρ',ha',hJ⟩:=ha.dput (u:=.tuple #[]) (.tup rfl (fun j g h=>by simp at h)) h
 rw [nfH_eq] at hJ
 have hput:=hs.put (y:=.row e sz ((rows.set i r2).set j r1)) (w':=(w.setRow g cur1).setRow g cur2) hl rfl rfl rfl rfl (by simp) (fun b hb hnb=>by
  have hbg : b ≠ g:=fun e=>hnb (by subst e; simp [blocks,hsv,Value.ownBlock])
  rw [setRow_other _ g b _ hbg,setRow_other _ g b _ hbg]) hh ρ'
 exact wpList_run hw hrun (hJ _ (a.put o.dst _) _ hg hput ha')
end
end Go.GK
/-
  Plain laws on buckets: no program is in sight.
-/
namespace Go.PL
open Go

abbrev w64 (x : Int) : Int:=IntKind.i64.wrap x

theorem w64_eq (x : Int) : w64 x=(x + 9223372036854775808) % 18446744073709551616 - 9223372036854775808:=by
 unfold w64; rw [IntKind.wrap_i64]
theorem w64_id {x : Int} (h : -9223372036854775808≤x) (h' : x≤9223372036854775807) : w64 x=x:=by rw [w64_eq]; omega
theorem w64_add_l (x y : Int) : w64 (w64 x + y)=w64 (x + y):=by simp only [w64_eq]; omega
theorem w64_add_r (x y : Int) : w64 (x + w64 y)=w64 (x + y):=by simp only [w64_eq]; omega

structure Bk where
 start : Int
 count : Int
 sum : Int
 min : Int
 max : Int
 deriving DecidableEq
structure Sm where
 time : Int
 value : Int
 deriving DecidableEq

def bothF (a b : Bk) : Bk:=⟨a.start,w64 (a.count + b.count),w64 (a.sum + b.sum),if b.min < a.min then b.min else a.min,if b.max > a.max then b.max else a.max⟩
def addF (l : List Bk) (b : Bk) : List Bk:=match l.getLast? with
 | some x=>if x.start=b.start then l.dropLast++[bothF x b] else l++[b]
 | none=>l++[b]
def floorF (t s : Int) : Int:=if t.tmod s < 0 then w64 (t - w64 (t.tmod s + s)) else w64 (t - t.tmod s)
def oneF (s : Int) (x : Sm) : Bk:=⟨floorF x.time s,1,x.value,x.value,x.value⟩
def addsF (out : List Bk) (l : List Bk) : List Bk:=l.foldl addF out
def upF (l : List Sm) (s : Int) : List Bk:=addsF [] (l.map (oneF s))
theorem addF_nil (b : Bk) : addF [] b=[b]:=rfl
theorem addF_snoc (l : List Bk) (x b : Bk) : addF (l++[x]) b=if x.start=b.start then l++[bothF x b] else l++[x,b]:=by
 unfold addF
 simp
theorem addsF_snoc (out l : List Bk) (b : Bk) : addsF out (l++[b])=addF (addsF out l) b:=by
 unfold addsF; rw [List.foldl_append]; rfl
def cnt (l : List Bk) : Int:=(l.map (·.count)).sum
def sums (l : List Bk) : Int:=(l.map (·.sum)).sum
def vals (l : List Sm) : Int:=(l.map (·.value)).sum

theorem cnt_snoc (l : List Bk) (b : Bk) : cnt (l++[b])=cnt l + b.count:=by simp [cnt]
theorem sums_snoc (l : List Bk) (b : Bk) : sums (l++[b])=sums l + b.sum:=by simp [sums]
theorem vals_snoc (l : List Sm) (b : Sm) : vals (l++[b])=vals l + b.value:=by simp [vals]

theorem snoc_ind {α : Type} {P : List α→Prop} (h0 : P []) (h1 : ∀ l x,P l→P (l++[x])) (l : List α) : P l:=by
 induction hn : l.length generalizing l with
 | zero=>have : l=[]:=List.length_eq_zero_iff.1 hn; subst this; exact h0
 | succ n ih =>
  rcases List.eq_nil_or_concat l with rfl | ⟨l',x,e⟩
  ·exact h0
  ·rw [List.concat_eq_append] at e
   subst e
   exact h1 l' x (ih l' (by simpa using hn))

theorem upF_snoc' (l : List Sm) (x : Sm) (s : Int) : upF (l++[x]) s=addF (upF l s) (oneF s x):=by
 unfold upF; rw [List.map_append]; exact addsF_snoc _ _ _

theorem cnt_nonneg {l : List Bk} (h : ∀ b ∈ l,1≤b.count) : 0≤cnt l:=by
 induction l with
 | nil=>exact Int.le_refl _
 | cons x r ih =>
  have h1:=h x (by simp)
  have h2:=ih fun b hb=>h b (List.mem_cons_of_mem _ hb)
  simp only [cnt,List.map_cons,List.sum_cons] at h2 ⊢
  omega

structure Held (s : Int) (l : List Sm) (o : List Bk) : Prop where
 each : ∀ b ∈ o,1≤b.count∧b.min≤b.max∧∃ x ∈ l,b.start=floorF x.time s
 cnt : cnt o=l.length
 sum : w64 (sums o)=w64 (vals l)

theorem held (s : Int) (l : List Sm) : l.length≤1000000→Held s l (upF l s):=by
 refine snoc_ind (P:=fun l=>l.length≤1000000→Held s l (upF l s)) (fun _=>⟨by simp [upF,addsF],rfl,rfl⟩) (fun l x ih hlen=>?_) l
 simp only [List.length_append,List.length_cons,List.length_nil] at hlen
 obtain ⟨i1,i2,i3⟩:=ih (by omega)
 rw [upF_snoc']
 have hin : ∀ {b : Bk},(∃ y ∈ l,b.start=floorF y.time s)→∃ y ∈ l++[x],b.start=floorF y.time s:=fun ⟨y,hy,e⟩=>⟨y,List.mem_append_left _ hy,e⟩
 rcases List.eq_nil_or_concat (upF l s) with e | ⟨m,y,e⟩
 ·rw [e] at i2 i3 ⊢
  rw [addF_nil]
  refine ⟨fun b hb=>?_,?_,?_⟩
  ·have : b=oneF s x:=by simpa using hb
   subst this
   exact ⟨Int.le_refl _,Int.le_refl _,x,by simp,rfl⟩
  ·simp [PL.cnt,oneF] at i2 ⊢; omega
  ·rw [vals_snoc,← w64_add_l,← i3]
   simp [sums,oneF,w64_add_l]
 ·rw [List.concat_eq_append] at e
  rw [e] at i1 i2 i3 ⊢
  rw [addF_snoc]
  rw [cnt_snoc] at i2
  rw [sums_snoc] at i3
  have hm : 0≤PL.cnt m:=cnt_nonneg fun b hb=>(i1 b (List.mem_append_left _ hb)).1
  have hy:=i1 y (by simp)
  by_cases h : y.start=(oneF s x).start
  ·rw [if_pos h]
   refine ⟨fun b hb=>?_,?_,?_⟩
   ·rcases List.mem_append.1 hb with hb | hb
    ·obtain ⟨a1,a2,a3⟩:=i1 b (List.mem_append_left _ hb)
     exact ⟨a1,a2,hin a3⟩
    ·have : b=bothF y (oneF s x):=by simpa using hb
     subst this
     refine ⟨?_,?_,hin hy.2.2⟩
     ·show 1≤w64 (y.count + 1)
      rw [w64_id (by omega) (by omega)]; omega
     ·show (if x.value < y.min then x.value else y.min)≤(if x.value > y.max then x.value else y.max)
      have:=hy.2.1
      split <;> split <;> omega
   ·rw [cnt_snoc]
    show PL.cnt m + w64 (y.count + 1)=_
    rw [w64_id (by omega) (by omega)]
    simp; omega
   ·rw [sums_snoc,vals_snoc,← w64_add_l (vals l),← i3,w64_add_l]
    show w64 (sums m + w64 (y.sum + x.value))=_
    rw [w64_add_r]
    congr 1; omega
  ·rw [if_neg h]
   rw [show m++[y,oneF s x]=(m++[y])++[oneF s x] by simp]
   refine ⟨fun b hb=>?_,?_,?_⟩
   ·rcases List.mem_append.1 hb with hb | hb
    ·obtain ⟨a1,a2,a3⟩:=i1 b hb
     exact ⟨a1,a2,hin a3⟩
    ·have : b=oneF s x:=by simpa using hb
     subst this
     exact ⟨Int.le_refl _,Int.le_refl _,x,by simp,rfl⟩
   ·rw [cnt_snoc,cnt_snoc]
    show _ + 1=_
    simp; omega
   ·rw [sums_snoc,sums_snoc,vals_snoc,← w64_add_l (vals l),← i3,w64_add_l]
    rfl

structure Ris (l : List Sm) : Prop where
 lo : ∀ x ∈ l,-1099511627776≤x.time
 hi : ∀ x ∈ l,x.time≤1099511627776
 up : l.Pairwise (·.time < ·.time)

open Classical in
noncomputable def okS (l : List Sm) : Bool:=decide (Ris l∧l.length≤2000)
theorem okS_iff (l : List Sm) : okS l=true ↔ Ris l∧l.length≤2000:=by unfold okS; simp
def badAt (l : List Sm) (i : Nat) (x : Sm) : Prop:=x.time < -1099511627776∨x.time > 1099511627776∨(0 < i∧∃ y,l[i - 1]?=some y∧y.time ≥ x.time)
theorem ris_iff (l : List Sm) : Ris l ↔ ∀ i x,l[i]?=some x→¬ badAt l i x:=by
 constructor
 ·rintro ⟨h1,h2,h3⟩ i x hx (h | h | ⟨hi,y,hy,h⟩)
  ·have:=h1 x (List.mem_of_getElem? hx); omega
  ·have:=h2 x (List.mem_of_getElem? hx); omega
  ·obtain ⟨hi1,e1⟩:=List.getElem?_eq_some_iff.1 hx
   obtain ⟨hi2,e2⟩:=List.getElem?_eq_some_iff.1 hy
   have:=List.pairwise_iff_getElem.1 h3 (i - 1) i hi2 hi1 (by omega)
   rw [e1,e2] at this
   omega
 ·intro h
  have step : ∀ i,(hi : i + 1 < l.length)→l[i].time < l[i + 1].time:=fun i hi=>by
   have:=h (i + 1) l[i + 1] (List.getElem?_eq_getElem hi)
   rcases Int.lt_or_le l[i].time l[i + 1].time with h1 | h1
   ·exact h1
   ·exact (this (.inr (.inr ⟨by omega,l[i],by rw [Nat.add_sub_cancel]; exact List.getElem?_eq_getElem (by omega),h1⟩))).elim
  have far : ∀ d i,(hi : i + d + 1 < l.length)→l[i].time < l[i + d + 1].time:=fun d=>by
   induction d with
   | zero=>intro i hi; exact step i hi
   | succ d ih =>
    intro i hi
    have h1:=ih i (by omega)
    have h2:=step (i + d + 1) hi
    exact Int.lt_trans h1 h2
  refine ⟨fun x hx=>?_,fun x hx=>?_,List.pairwise_iff_getElem.2 fun i j hi hj hij=>?_⟩
  ·obtain ⟨i,hi,e⟩:=List.getElem_of_mem hx
   have:=h i x (by rw [List.getElem?_eq_getElem hi,e])
   rcases Int.lt_or_le x.time (-1099511627776) with h1 | h1
   ·exact (this (.inl h1)).elim
   ·exact h1
  ·obtain ⟨i,hi,e⟩:=List.getElem_of_mem hx
   have:=h i x (by rw [List.getElem?_eq_getElem hi,e])
   rcases Int.lt_or_le 1099511627776 x.time with h1 | h1
   ·exact (this (.inr (.inl h1))).elim
   ·exact h1
  ·have:=far (j - i - 1) i (by omega)
   have e : i + (j - i - 1) + 1=j:=by omega
   simp only [e] at this
   exact this
theorem okS_bad (l : List Sm) : okS l=true ↔ (∀ i x,l[i]?=some x→¬ badAt l i x)∧l.length≤2000:=by rw [okS_iff,ris_iff]

theorem Ris.part {a b : List Sm} (h : Ris (a++b)) : Ris a∧Ris b∧∀ x ∈ a,∀ y ∈ b,x.time < y.time:=by
 have hp:=List.pairwise_append.1 h.up
 exact ⟨⟨fun y hy=>h.lo y (by simp [hy]),fun y hy=>h.hi y (by simp [hy]),hp.1⟩,⟨fun y hy=>h.lo y (by simp [hy]),fun y hy=>h.hi y (by simp [hy]),hp.2.1⟩,hp.2.2⟩

end Go.PL
/-
  Plain laws: insertion, and the merge of two sorted pieces in their place, as package sort does them; no program is in sight.
-/
namespace Go.PL
open Go
section
variable {α : Type}
structure WO (lt : α→α→Bool) : Prop where
 asym : ∀ x y,lt x y=true→lt y x=false
 ntrans : ∀ x y z,lt y x=false→lt z y=false→lt z x=false
def Srt (lt : α→α→Bool) (l : List α) : Prop:=l.Pairwise fun x y=>lt y x=false
variable {lt : α→α→Bool}
theorem Srt.app {P Q : List α} : Srt lt (P++Q) ↔ Srt lt P∧Srt lt Q∧∀ x ∈ P,∀ y ∈ Q,lt y x=false:=List.pairwise_append
theorem Srt.last (hO : WO lt) {P : List α} (h : Srt lt P) {z : α} (hz : P.getLast?=some z) : ∀ x ∈ P,lt z x=false:=by
 obtain ⟨Q,rfl⟩:=List.getLast?_eq_some_iff.1 hz
 intro x hx
 rcases List.mem_append.1 hx with h1 | h1
 ·exact (Srt.app.1 h).2.2 x h1 z (by simp)
 ·rw [List.mem_singleton.1 h1]
  cases hb : lt z z with
  | false=>rfl
  | true=>have:=hO.asym z z hb; rw [hb] at this; cases this
theorem Srt.first (hO : WO lt) {P : List α} (h : Srt lt P) {z : α} (hz : P.head?=some z) : ∀ x ∈ P,lt x z=false:=by
 obtain ⟨Q,rfl⟩:=List.head?_eq_some_iff.1 hz
 intro x hx
 rcases List.mem_cons.1 hx with rfl | h1
 ·cases hb : lt x x with
  | false=>rfl
  | true=>have:=hO.asym x x hb; rw [hb] at this; cases this
 ·exact (List.pairwise_cons.1 h).1 x h1
theorem Srt.le_all (hO : WO lt) {P Q : List α} (hP : Srt lt P) (hQ : Srt lt Q) (h : ∀ x ∈ P.getLast?,∀ y ∈ Q.head?,lt y x=false) : ∀ x ∈ P,∀ y ∈ Q,lt y x=false:=by
 intro x hx y hy
 cases hp : P.getLast? with
 | none=>rw [List.getLast?_eq_none_iff.1 hp] at hx; cases hx
 | some u =>
  cases hq : Q.head? with
  | none=>rw [List.head?_eq_none_iff.1 hq] at hy; cases hy
  | some v =>
   have h1:=hP.last hO hp x hx
   have h2:=hQ.first hO hq y hy
   have h3:=h u (by rw [hp]; rfl) v (by rw [hq]; rfl)
   exact hO.ntrans x v y (hO.ntrans x u v h1 h3) h2
theorem Srt.ins (hO : WO lt) {P Q : List α} {x : α} (h : Srt lt (P++Q)) (hP : ∀ z ∈ P.getLast?,lt x z=false) (hQ : ∀ z ∈ Q.head?,lt z x=false) : Srt lt (P++x :: Q):=by
 obtain ⟨h1,h2,h3⟩:=Srt.app.1 h
 have hp : ∀ z ∈ P,lt x z=false:=by
  intro z hz
  have:=h1.le_all hO (Q:=[x]) (List.pairwise_singleton _ _) (fun u hu v hv=>by
   simp at hv; subst hv; exact hP u hu) z hz x (by simp)
  exact this
 have hq : ∀ z ∈ Q,lt z x=false:=by
  intro z hz
  exact Srt.le_all hO (P:=[x]) (List.pairwise_singleton _ _) h2 (fun u hu v hv=>by
   simp at hu; subst hu; exact hQ v hv) x (by simp) z hz
 refine Srt.app.2 ⟨h1,List.pairwise_cons.2 ⟨hq,h2⟩,fun u hu v hv=>?_⟩
 rcases List.mem_cons.1 hv with rfl | hv
 ·exact hp u hu
 ·exact h3 u hu v hv
theorem ins_perm (P Q : List α) (x : α) : (P++x :: Q).Perm (x :: (P++Q)):=List.perm_middle
theorem Srt.cross (hO : WO lt) {X1 X2 Y1 Y2 Z1 Z2 : List α} (hX : Srt lt (X1++X2)) (hY : Srt lt (Y1++Y2)) (h1 : ∀ x ∈ X1.getLast?,∀ y ∈ Y2.head?,lt y x=false) (h2 : ∀ y ∈ Y1.getLast?,∀ x ∈ X2.head?,lt x y=false)
  (p1 : Z1.Perm (X1++Y1)) (p2 : Z2.Perm (X2++Y2)) (s1 : Srt lt Z1) (s2 : Srt lt Z2) : Srt lt (Z1++Z2):=by
 obtain ⟨a1,a2,a3⟩:=Srt.app.1 hX
 obtain ⟨b1,b2,b3⟩:=Srt.app.1 hY
 have c1:=a1.le_all hO b2 h1
 have c2:=b1.le_all hO a2 h2
 refine Srt.app.2 ⟨s1,s2,fun u hu v hv=>?_⟩
 have hu':=p1.mem_iff.1 hu
 have hv':=p2.mem_iff.1 hv
 rcases List.mem_append.1 hu' with h | h <;> rcases List.mem_append.1 hv' with k | k
 ·exact a3 u h v k
 ·exact c1 u h v k
 ·exact c2 u h v k
 ·exact b3 u h v k
theorem cross_perm {X1 X2 Y1 Y2 Z1 Z2 : List α} (p1 : Z1.Perm (X1++Y1)) (p2 : Z2.Perm (X2++Y2)) : (Z1++Z2).Perm (X1++X2++(Y1++Y2)):=by
 refine (p1.append p2).trans ?_
 rw [List.append_assoc,List.append_assoc]
 refine List.Perm.append_left X1 ?_
 rw [← List.append_assoc,← List.append_assoc]
 exact List.Perm.append_right Y2 List.perm_append_comm
theorem swap_at (A M B : List α) (x y : α) {i j : Nat} (hi : i=A.length) (hj : j=A.length + 1 + M.length) : ((A++x :: (M++y :: B)).set i y).set j x=A++y :: (M++x :: B):=by
 subst hi
 subst hj
 rw [List.set_append_right _ _ (Nat.le_refl _),Nat.sub_self,List.set_cons_zero,List.set_append_right _ _ (by omega),show A.length + 1 + M.length - A.length=M.length + 1 by omega,List.set_cons_succ,List.set_append_right _ _ (Nat.le_refl _),Nat.sub_self,List.set_cons_zero]
theorem swap_at' (A M B : List α) (x y : α) {i j : Nat} (hi : i=A.length) (hj : j=A.length + 1 + M.length) : ((A++x :: (M++y :: B)).set j x).set i y=A++y :: (M++x :: B):=by
 rw [List.set_comm _ _ (by omega)]
 exact swap_at A M B x y hi hj
theorem stab_at (A B : List α) (x : α) {i : Nat} (hi : i=A.length) : (A++x :: B)[i]?=some x:=by
 subst hi
 rw [List.getElem?_append_right (Nat.le_refl _),Nat.sub_self]
 rfl
theorem stab_at2 (A M B : List α) (x y : α) {j : Nat} (hj : j=A.length + 1 + M.length) : (A++x :: (M++y :: B))[j]?=some y:=by
 subst hj
 rw [List.getElem?_append_right (by omega),show A.length + 1 + M.length - A.length=M.length + 1 by omega,List.getElem?_cons_succ,List.getElem?_append_right (Nat.le_refl _),Nat.sub_self]
 rfl
end
end Go.PL
/-
  Contracts: package sort: how the elements of an own row change places, and are put in order where they stand (whatever the elements).
-/
namespace Go.Proofs.YtkoalgjlkcaonaaGreatDoor
open Go.GK Go.PL Go.RowKit
set_option maxRecDepth 100000
section
variable {α : Type}
abbrev sgm (enc : α→List GV) (k : Nat) (ty tb : TypeId) (l : List α) : Heap:=[(0,.row ty k (l.map enc)),(1,.blk tb [.o 0])]
def SR (enc : α→List GV) (k : Nat) (ty tb : TypeId) (R : List α→Prop) : GV→Heap→Nat→Prop:=fun G σ n=>G=.tup []∧(∃ l',R l'∧σ=sgm enc k ty tb l')∧n=2
structure SE (enc : α→List GV) (k : Nat) (ty tb : TypeId) (g sw : FuncId) (lt : α→α→Bool) : Prop where
 less : ∀ (l : List α) (i j : Nat) (x y : α),l.length < 1099511627776→l[i]?=some x→l[j]?=some y→Hf pg g 2 [gi i,gi j,.p 1 0] (sgm enc k ty tb l) (fun G σ n=>G=.b (lt x y)∧σ=sgm enc k ty tb l∧n=2)
 swx : ∃ gS : Bool,∀ args W,(callFunc sw args).run pg.P W=((Extern.ReflectliteSwapper.swap gS args).run pg.P W).andThen fun v w'=>.ok (.value v) w'
 ie : ∃ ie : TypeInfo,pg.P.info? ty=some ie∧ie.size=k∧∀ w,(isAgg ty).run pg.P w=.ok true w
noncomputable abbrev dat (ty : TypeId) (g sw : FuncId) : List GV:=[.fn (.func g) [] [.p 1 0],.fn (.func sw) [] [.o 0,.v (typeHandle pg.P ty)]]
variable {enc : α→List GV} {k : Nat} {ty tb : TypeId} {g sw : FuncId} {lt : α→α→Bool}
theorem fin_hf {f : FuncId} {args : List GV} {σ0 : Heap} {R : List α→Prop} (h : Hf pg f 2 args σ0 fun G σ _=>G=.tup []∧∃ l',R l'∧hlook σ 0=some (.row ty k (l'.map enc))∧hlook σ 1=some (.blk tb [.o 0])) : Hf pg f 2 args σ0 (SR enc k ty tb R) :=
 Hf.weak h fun G σ n ⟨hG,l',hR,h0,h1⟩=>⟨id,.tup [],sgm enc k ty tb l',2,⟨rfl,⟨l',hR,rfl⟩,rfl⟩,by rw [hG]; rfl,⟨h0,h1,trivial⟩,rfl⟩
section
variable {N n0 : Nat} {H0 : Hid} {S0 : List Nat} {w0 : World} {h0 : H0.n=n0} {g0 : GlOk pg H0} {T : Post} {kk : List It} {s : St}
theorem LES (E : SE enc k ty tb g sw lt) {all : List Oper} {o : Oper} {rest : List Oper} {l : List α} (i j : Nat) {a b : Int} {x y : α} (hk : callG pg all s.ρ o=some (g,[gi a,gi b,.p 1 0])) (ha : a=i) (hb : b=j) (hlen : l.length < 1099511627776) (hi : l[i]?=some x) (hj : l[j]?=some y)
  (hs0 : hlook s.σ 0=some (.row ty k (l.map enc))) (hs1 : hlook s.σ 1=some (.blk tb [.o 0])) (hn : Nat.ble 2 s.n=true)
  (h : nfH (sgm enc k ty tb l++hrest [0,1] s.σ) fun σ=>dputV N s.ρ o.dst (.b (lt x y)) fun ρ'=>vc ⟨pg,N,n0,H0,S0,w0,h0,g0⟩ T 400 (.ops false all rest :: kk) ⟨ρ',σ,s.n⟩) :
  JK ⟨pg,N,n0,H0,S0,w0,h0,g0⟩ T (.ops false all (o :: rest) :: kk) s:=by
 subst ha
 subst hb
 refine GOH (E.less l i j x y hlen hi hj) id hk (renL_id _).symm ⟨hs0,hs1,trivial⟩ rfl (id_lt hn) ?_
 rintro _ _ _ ⟨rfl,rfl,rfl⟩
 rw [nf_eq,nfH_eq,nfN_eq,← dputV_eq]
 rw [nfH_eq] at h
 exact h
theorem SWP (E : SE enc k ty tb g sw lt) {all : List Oper} {o : Oper} {rest : List Oper} {l : List α} (i j : Nat) {a b : Int} {x y : α} (l' : List α) (hk : callG pg all s.ρ o=some (sw,[gi a,gi b,.o 0,.v (typeHandle pg.P ty)])) (ha : a=i) (hb : b=j) (hi : l[i]?=some x) (hj : l[j]?=some y) (hL : (l.set i y).set j x=l')
  (hs0 : hlook s.σ 0=some (.row ty k (l.map enc)))
  (h : dputV N s.ρ o.dst (.tup []) fun ρ'=>nfH (hset s.σ 0 (.row ty k (l'.map enc))) fun σ=>vc ⟨pg,N,n0,H0,S0,w0,h0,g0⟩ T 400 (.ops false all rest :: kk) ⟨ρ',σ,s.n⟩) :
  JK ⟨pg,N,n0,H0,S0,w0,h0,g0⟩ T (.ops false all (o :: rest) :: kk) s:=by
 subst ha
 subst hb
 obtain ⟨gS,hx⟩:=E.swx
 obtain ⟨ie,hie,hsz,hagg⟩:=E.ie
 refine JK.swapX (r1:=enc x) (r2:=enc y) hx hie hagg hsz hk hs0 (by rw [List.getElem?_map,hi]; rfl) (by rw [List.getElem?_map,hj]; rfl) ?_
 rw [← List.map_set,← List.map_set,hL]
 have conv : ∀ ρ',(nfH (hset s.σ 0 (.row ty k (l'.map enc))) fun σ=>vc ⟨pg,N,n0,H0,S0,w0,h0,g0⟩ T 400 (.ops false all rest :: kk) ⟨ρ',σ,s.n⟩)→nfH (hset s.σ 0 (.row ty k (l'.map enc))) fun σ=>JK ⟨pg,N,n0,H0,S0,w0,h0,g0⟩ T (.ops false all rest :: kk) ⟨ρ',σ,s.n⟩:=fun ρ' h=>by
  rw [nfH_eq] at h ⊢
  exact V h
 revert h
 cases o.dst with
 | none=>exact fun h=>conv _ h
 | some d =>
  simp only [dputV]
  cases Nat.blt d N with
  | false=>exact fun h=>h
  | true=>exact fun h=>conv _ h
theorem CAL {all : List Oper} {o : Oper} {rest : List Oper} {f : FuncId} {gis gis' : List GV} {l : List α} {R : List α→Prop} (hr : Hf pg f 2 (.agg (dat ty g sw) :: gis) (sgm enc k ty tb l) (SR enc k ty tb R)) (hk : callG pg all s.ρ o=some (f,.agg (dat ty g sw) :: gis')) (hg : gis'=gis) (hb : idbL 2 gis=true)
  (hs0 : hlook s.σ 0=some (.row ty k (l.map enc))) (hs1 : hlook s.σ 1=some (.blk tb [.o 0])) (hn : Nat.ble 2 s.n=true)
  (h : ∀ l',R l'→nfH (sgm enc k ty tb l'++hrest [0,1] s.σ) fun σ=>dputV N s.ρ o.dst (.tup []) fun ρ'=>vc ⟨pg,N,n0,H0,S0,w0,h0,g0⟩ T 400 (.ops false all rest :: kk) ⟨ρ',σ,s.n⟩) :
  JK ⟨pg,N,n0,H0,S0,w0,h0,g0⟩ T (.ops false all (o :: rest) :: kk) s:=by
 subst hg
 refine GOH hr id hk (renL_id _).symm ⟨hs0,hs1,trivial⟩ (by simp only [idbL,hb,Bool.and_true,Bool.and_eq_true]; exact ⟨⟨rfl,rfl⟩,rfl⟩) (id_lt hn) ?_
 rintro _ _ _ ⟨rfl,⟨l',hR,rfl⟩,rfl⟩
 have:=h l' hR
 rw [nf_eq,nfH_eq,nfN_eq,← dputV_eq]
 rw [nfH_eq] at this
 exact this
end
theorem nn (a b : Nat) (h : a + b < 4611686018427387904) : IntKind.i64.wrap ((a : Int) + (b : Int))=((a + b : Nat) : Int):=by rw [wrap_id (by omega) (by omega)]; omega
theorem nm (a b : Nat) (h : b≤a) (h' : a < 4611686018427387904) : IntKind.i64.wrap ((a : Int) - (b : Int))=((a - b : Nat) : Int):=by rw [wrap_id (by omega) (by omega)]; omega
theorem swr_hf (E : SE enc k ty tb g sw lt) (A X M Y B : List α) (hXY : X.length=Y.length) (hlen : (A++X++M++Y++B).length < 1099511627776) :
  Hf pg 174 2 [.agg (dat ty g sw),gi A.length,gi ((A.length + X.length + M.length : Nat) : Int),gi X.length] (sgm enc k ty tb (A++X++M++Y++B)) (SR enc k ty tb (·=A++Y++M++X++B)):=by
 simp only [List.length_append] at hlen
 refine fin_hf (Hf.of pg_ok Tryz.func174 rfl Tryz.ntmps174 rfl Tryz.results174 Tryz.call174 fun H0 S0 w0 h0 g0=>?_)
 refine JK.loop (α:=List α × List α × List α × List α) (fun z=>⟨[(1,gi A.length),(2,gi ((A.length + X.length + M.length : Nat) : Int)),(3,gi X.length),(4,.p 2 0),(8,gi z.1.length)],(2,.blk 179 (dat ty g sw)) :: sgm enc k ty tb (A++(z.2.2.1++(z.2.1++(M++(z.1++(z.2.2.2++B)))))),3⟩)
  (fun z=>z.1++z.2.1=X∧z.2.2.1++z.2.2.2=Y∧z.1.length=z.2.2.1.length) (fun z=>z.2.1.length) ([],X,[],Y) id ?_ ⟨rfl,rfl,rfl⟩ ?_
 ·refine ⟨⟨rfl,rfl,rfl,rfl,rfl,trivial⟩,⟨rfl,?_,rfl,trivial⟩,rfl⟩
  simp only [List.append_assoc,List.nil_append]
  rfl
 ·rintro ⟨X1,X2,Y1,Y2⟩ ⟨h1,h2,h3⟩
  simp only at h1 h2 h3
  subst h1
  subst h2
  simp only [List.length_append] at hXY hlen
  refine V ?_
  cases X2 with
  | nil =>
   have hY2 : Y2=[]:=List.length_eq_zero_iff.1 (by simp at hXY; omega)
   subst hY2
   refine p2 ?_ (decide_eq_false (by simp))
   refine V ?_
   exact ⟨rfl,_,rfl,congrArg (fun l : List α=>some (Res.row ty k (l.map enc))) (by simp),rfl⟩
  | cons x X2 =>
   cases Y2 with
   | nil=>simp at hXY; omega
   | cons y Y2 =>
    simp only [List.length_cons] at hXY hlen
    refine p1 ?_ (decide_eq_true (by simp; omega))
    have e1 : A++(Y1++((x :: X2)++(M++(X1++((y :: Y2)++B)))))=(A++Y1)++x :: ((X2++(M++X1))++y :: (Y2++B)):=by simp
    refine SWP E (l:=A++(Y1++((x :: X2)++(M++(X1++((y :: Y2)++B)))))) (A.length + Y1.length) (A.length + (X1.length + (X2.length + 1)) + M.length + X1.length) (x:=x) (y:=y) (A++((Y1++[y])++(X2++(M++((X1++[x])++(Y2++B)))))) rfl ?_ ?_ ?_ ?_ ?_ ?_ ?_
    ·dsimp only; rw [wrap_id (by omega) (by omega)]; omega
    ·simp only [List.length_append,List.length_cons]; rw [wrap_id (by omega) (by omega)]; omega
    ·rw [e1]; exact stab_at _ _ _ (by simp)
    ·rw [e1]; exact stab_at2 _ _ _ _ _ (by simp; omega)
    ·rw [e1,swap_at _ _ _ _ _ (by simp) (by simp; omega)]; simp
    ·rfl
    ·refine ⟨(X1++[x],X2,Y1++[y],Y2),id,⟨⟨rfl,rfl,rfl,rfl,?_,trivial⟩,⟨rfl,rfl,rfl,trivial⟩,rfl⟩,⟨by simp,by simp,by simp; omega⟩,by simp⟩
     simp only [List.length_append,List.length_cons,List.length_nil]
     exact succ_gi (by omega)
theorem gi3 {a b c a' b' c' : Int} (h1 : a=a') (h2 : b=b') (h3 : c=c') : [gi a,gi b,gi c]=[gi a',gi b',gi c']:=by subst h1; subst h2; subst h3; rfl
theorem gi2 {a b a' b' : Int} (h1 : a=a') (h2 : b=b') : [gi a,gi b]=[gi a',gi b']:=by subst h1; subst h2; rfl
theorem row0 {l l' : List α} (h : l=l') : some (Res.row ty k (l.map enc))=some (Res.row ty k (l'.map enc)):=by rw [h]
theorem rot_hf (E : SE enc k ty tb g sw lt) (A X Y B : List α) (hX : X ≠ []) (hY : Y ≠ []) (hlen : (A++X++Y++B).length < 1099511627776) :
  Hf pg 166 2 [.agg (dat ty g sw),gi A.length,gi ((A.length + X.length : Nat) : Int),gi ((A.length + X.length + Y.length : Nat) : Int)] (sgm enc k ty tb (A++X++Y++B)) (SR enc k ty tb (·=A++Y++X++B)):=by
 simp only [List.length_append] at hlen
 refine fin_hf (Hf.of pg_ok Tryz.func166 rfl Tryz.ntmps166 rfl Tryz.results166 Tryz.call166 fun H0 S0 w0 h0 g0=>?_)
 refine JK.loop (α:=List α × List α × List α × List α) (fun z=>⟨[(2,gi ((A.length + X.length : Nat) : Int)),(4,.p 2 0),(8,gi z.2.1.length),(9,gi z.2.2.1.length)],(2,.blk 179 (dat ty g sw)) :: sgm enc k ty tb (z.1++z.2.1++z.2.2.1++z.2.2.2),3⟩)
  (fun z=>z.1.length + z.2.1.length=A.length + X.length∧z.2.1 ≠ []∧z.2.2.1 ≠ []∧z.1++z.2.2.1++z.2.1++z.2.2.2=A++Y++X++B) (fun z=>z.2.1.length + z.2.2.1.length) (A,X,Y,B) id ?_ ⟨rfl,hX,hY,rfl⟩ ?_
 ·refine ⟨⟨rfl,rfl,?_,?_,trivial⟩,⟨rfl,rfl,rfl,trivial⟩,rfl⟩
  ·exact congrArg (fun i=>some (gi i)) (by (try dsimp only); rw [wrap_id (by omega) (by omega)]; omega)
  ·exact congrArg (fun i=>some (gi i)) (by (try dsimp only); rw [wrap_id (by omega) (by omega)]; omega)
 ·rintro ⟨P,U,W,S⟩ ⟨h1,h2,h3,h4⟩
  simp only at h1 h2 h3 h4
  have hl:=congrArg List.length h4
  simp only [List.length_append] at hl
  have hU : 0 < U.length:=List.length_pos_iff.2 h2
  have hW : 0 < W.length:=List.length_pos_iff.2 h3
  refine V ?_
  by_cases hne : U.length=W.length
  ·refine p2 ?_ (by simp [hne])
   refine V ?_
   have hs:=swr_hf E P U [] W S hne (by simp; omega)
   refine CAL (l:=P++U++[]++W++S) hs rfl ?_ rfl ?_ rfl rfl ?_
   ·refine gi3 (by (try dsimp only); rw [wrap_id (by omega) (by omega)]; omega) (by simp only [List.length_nil]; omega) rfl
   ·exact row0 (by simp)
   ·rintro l' rfl
    refine ⟨rfl,_,rfl,row0 ?_,rfl⟩
    rw [← h4,List.append_nil]
  ·refine p1 ?_ (bne_iff_ne.2 (by dsimp only; omega))
   by_cases hgt : W.length < U.length
   ·refine p1 ?_ (decide_eq_true (by dsimp only; omega))
    have hUe : U=U.take W.length++U.drop W.length:=(List.take_append_drop _ _).symm
    have hl1 : (U.take W.length).length=W.length:=by simp; omega
    have hl2 : (U.drop W.length).length=U.length - W.length:=by simp
    have hs:=swr_hf E P (U.take W.length) (U.drop W.length) W S hl1 (by simp; omega)
    refine CAL (l:=P++U.take W.length++U.drop W.length++W++S) hs rfl ?_ rfl ?_ rfl rfl ?_
    ·refine gi3 (by (try dsimp only); rw [wrap_id (by omega) (by omega)]; omega) (by omega) (by rw [hl1])
    ·exact row0 (by simp)
    ·rintro l' rfl
     refine ⟨(P++W,U.drop W.length,U.take W.length,S),id,⟨⟨rfl,rfl,?_,?_,trivial⟩,⟨rfl,row0 ?_,rfl,trivial⟩,rfl⟩,⟨?_,?_,?_,?_⟩,?_⟩
     ·exact congrArg (fun i=>some (gi i)) (by (try dsimp only); rw [wrap_id (by omega) (by omega)]; omega)
     ·exact congrArg (fun i=>some (gi i)) (by dsimp only; omega)
     ·simp
     ·simp; omega
     ·intro e; rw [List.drop_eq_nil_iff] at e; omega
     ·intro e; have e' : (U.take W.length).length=0:=congrArg List.length e; omega
     ·rw [← h4]; conv=>rhs; rw [hUe]
      simp
     ·show (U.drop W.length).length + (U.take W.length).length < U.length + W.length; omega
   ·refine p2 ?_ (decide_eq_false (by dsimp only; omega))
    have hWe : W=W.take (W.length - U.length)++W.drop (W.length - U.length):=(List.take_append_drop _ _).symm
    have hl1 : (W.take (W.length - U.length)).length=W.length - U.length:=by simp
    have hl2 : (W.drop (W.length - U.length)).length=U.length:=by simp; omega
    have hs:=swr_hf E P U (W.take (W.length - U.length)) (W.drop (W.length - U.length)) S hl2.symm (by simp; omega)
    refine CAL (l:=P++U++W.take (W.length - U.length)++W.drop (W.length - U.length)++S) hs rfl ?_ rfl ?_ rfl rfl ?_
    ·refine gi3 (by (try dsimp only); rw [wrap_id (by omega) (by omega)]; omega) (by dsimp only; rw [show IntKind.i64.wrap (((A.length + X.length : Nat) : Int) + (W.length : Int))=((A.length + X.length + W.length : Nat) : Int) from by rw [wrap_id (by omega) (by omega)]; omega,wrap_id (by omega) (by omega)]; omega) rfl
    ·exact row0 (by simp)
    ·rintro l' rfl
     refine ⟨(P,W.drop (W.length - U.length),W.take (W.length - U.length),U++S),id,⟨⟨rfl,rfl,?_,?_,trivial⟩,⟨rfl,row0 ?_,rfl,trivial⟩,rfl⟩,⟨?_,?_,?_,?_⟩,?_⟩
     ·exact congrArg (fun i=>some (gi i)) (by dsimp only; omega)
     ·exact congrArg (fun i=>some (gi i)) (by (try dsimp only); rw [wrap_id (by omega) (by omega)]; omega)
     ·simp
     ·dsimp only; omega
     ·intro e; have e' : (W.drop (W.length - U.length)).length=0:=congrArg List.length e; omega
     ·intro e; have e' : (W.take (W.length - U.length)).length=0:=congrArg List.length e; omega
     ·rw [← h4]; conv=>rhs; rw [hWe]
      simp
     ·show (W.drop (W.length - U.length)).length + (W.take (W.length - U.length)).length < U.length + W.length; omega
end
end Go.Proofs.YtkoalgjlkcaonaaGreatDoor
/-
  Contracts: package sort: insertion.
-/
namespace Go.Proofs.YtkoalgjlkcaonaaGreatDoor
open Go.GK Go.PL Go.RowKit
set_option maxRecDepth 100000
section
variable {α : Type}
variable {enc : α→List GV} {k : Nat} {ty tb : TypeId} {g sw : FuncId} {lt : α→α→Bool}
def Put (lt : α→α→Bool) (A X B : List α) (l' : List α) : Prop:=∃ Z,l'=A++Z++B∧Z.Perm X∧Srt lt Z
theorem ins_hf (E : SE enc k ty tb g sw lt) (hO : WO lt) (A X B : List α) (hlen : (A++X++B).length < 1099511627776) :
  Hf pg 154 2 [.agg (dat ty g sw),gi A.length,gi ((A.length + X.length : Nat) : Int)] (sgm enc k ty tb (A++X++B)) (SR enc k ty tb (Put lt A X B)):=by
 simp only [List.length_append] at hlen
 refine fin_hf (Hf.of pg_ok Tryz.func154 rfl Tryz.ntmps154 rfl Tryz.results154 Tryz.call154 fun H0 S0 w0 h0 g0=>?_)
 cases X with
 | nil =>
  refine JK.loop (α:=Unit) (fun _=>⟨[(2,gi ((A.length + ([] : List α).length : Nat) : Int)),(6,gi ((A.length + 1 : Nat) : Int))],sgm enc k ty tb (A++[]++B),2⟩) (fun _=>True) (fun _=>0) () id ?_ trivial ?_
  ·exact ⟨⟨rfl,succ_gi (by omega),trivial⟩,⟨rfl,rfl,trivial⟩,rfl⟩
  ·rintro _ _
   refine V ?_
   refine p2 ?_ (decide_eq_false (by simp; omega))
   refine V ?_
   exact ⟨rfl,_,⟨[],rfl,.nil,.nil⟩,rfl,rfl⟩
 | cons x0 X =>
  simp only [List.length_cons] at hlen
  refine JK.loop (α:=List α × List α) (fun z=>⟨[(1,gi A.length),(2,gi ((A.length + (x0 :: X).length : Nat) : Int)),(3,.p 2 0),(6,gi ((A.length + z.1.length : Nat) : Int))],(2,.blk 179 (dat ty g sw)) :: sgm enc k ty tb (A++(z.1++(z.2++B))),3⟩)
   (fun z=>Srt lt z.1∧(z.1++z.2).Perm (x0 :: X)) (fun z=>z.2.length) ([x0],X) id ?_ ⟨List.pairwise_singleton _ _,.refl _⟩ ?_
  ·exact ⟨⟨rfl,rfl,rfl,succ_gi (by omega),trivial⟩,⟨rfl,row0 (by simp),rfl,trivial⟩,rfl⟩
  ·rintro ⟨Z,R⟩ ⟨hs,hp⟩
   simp only at hs hp
   have hl:=hp.length_eq
   simp only [List.length_append,List.length_cons] at hl
   refine V ?_
   cases R with
   | nil =>
    simp only [List.length_nil] at hl
    refine p2 ?_ (decide_eq_false (by simp only [List.length_cons]; omega))
    refine V ?_
    exact ⟨rfl,_,⟨Z,rfl,by simpa using hp,hs⟩,row0 (by simp),rfl⟩
   | cons y R =>
    simp only [List.length_cons] at hl
    refine p1 ?_ (decide_eq_true (by simp only [List.length_cons]; omega))
    refine JK.loopE (α:=List α × List α) (β:=List α × List α) (fun z=>⟨[(1,gi A.length),(2,gi ((A.length + (x0 :: X).length : Nat) : Int)),(3,.p 2 0),(6,gi ((A.length + Z.length : Nat) : Int)),(7,gi ((A.length + z.1.length : Nat) : Int))],(2,.blk 179 (dat ty g sw)) :: sgm enc k ty tb (A++(z.1++(y :: (z.2++(R++B))))),3⟩)
     (fun z=>z.1++z.2=Z∧∀ u ∈ z.2,lt y u=true) (fun z=>z.1.length)
     (fun z=>⟨[(1,gi A.length),(2,gi ((A.length + (x0 :: X).length : Nat) : Int)),(3,.p 2 0),(6,gi ((A.length + Z.length : Nat) : Int))],(2,.blk 179 (dat ty g sw)) :: sgm enc k ty tb (A++(z.1++(y :: (z.2++(R++B))))),3⟩)
     (fun z=>z.1++z.2=Z∧(∀ u ∈ z.2,lt y u=true)∧∀ u ∈ z.1.getLast?,lt y u=false) (Z,[]) id ?_ ⟨by simp,by simp⟩ ?_ ?_
    ·exact ⟨⟨rfl,rfl,rfl,rfl,rfl,trivial⟩,⟨rfl,row0 (by simp),rfl,trivial⟩,rfl⟩
    ·rintro ⟨P,Q⟩ ⟨hPQ,hq⟩
     simp only at hPQ hq
     have hl2:=congrArg List.length hPQ
     simp only [List.length_append] at hl2
     refine V ?_
     rcases List.eq_nil_or_concat P with rfl | ⟨P',z,rfl⟩
     ·refine p2 ?_ (decide_eq_false (by simp))
      exact ⟨([],Q),id,⟨⟨rfl,rfl,rfl,rfl,trivial⟩,⟨rfl,rfl,rfl,trivial⟩,rfl⟩,hPQ,hq,by simp⟩
     ·simp only [List.concat_eq_append,List.length_append,List.length_cons,List.length_nil] at hl2 hPQ
      refine p1 ?_ (decide_eq_true (by simp; omega))
      have e1 : A++(List.concat P' z++(y :: (Q++(R++B))))=(A++P')++z :: (([] : List α)++y :: (Q++(R++B))):=by simp
      refine LES E (l:=(A++P')++z :: (([] : List α)++y :: (Q++(R++B)))) (A.length + P'.length + 1) (A.length + P'.length) (x:=y) (y:=z) rfl ?_ ?_ ?_ ?_ ?_ ?_ rfl rfl ?_
      ·simp only [List.concat_eq_append,List.length_append,List.length_cons,List.length_nil]; omega
      ·simp only [List.concat_eq_append,List.length_append,List.length_cons,List.length_nil]; rw [wrap_id (by omega) (by omega)]; omega
      ·simp; omega
      ·exact stab_at2 _ _ _ _ _ (by simp)
      ·exact stab_at _ _ _ (by simp)
      ·exact row0 e1
      ·refine ⟨fun hz=>?_,fun hz=>?_⟩
       ·refine SWP E (l:=(A++P')++z :: (([] : List α)++y :: (Q++(R++B)))) (A.length + P'.length + 1) (A.length + P'.length) (x:=y) (y:=z) ((A++P')++y :: (([] : List α)++z :: (Q++(R++B)))) rfl ?_ ?_ ?_ ?_ ?_ rfl ?_
        ·simp only [List.concat_eq_append,List.length_append,List.length_cons,List.length_nil]; omega
        ·simp only [List.concat_eq_append,List.length_append,List.length_cons,List.length_nil]; rw [wrap_id (by omega) (by omega)]; omega
        ·exact stab_at2 _ _ _ _ _ (by simp)
        ·exact stab_at _ _ _ (by simp)
        ·exact swap_at' _ _ _ _ _ (by simp) (by simp)
        ·refine ⟨(P',z :: Q),id,⟨⟨rfl,rfl,rfl,rfl,?_,trivial⟩,⟨rfl,row0 (by simp),rfl,trivial⟩,rfl⟩,⟨by simp [← hPQ],?_⟩,by simp⟩
         ·simp only [List.concat_eq_append,List.length_append,List.length_cons,List.length_nil]
          exact congrArg (fun i=>some (gi i)) (by rw [wrap_id (by omega) (by omega)]; omega)
         ·intro u hu
          rcases List.mem_cons.1 hu with rfl | hu
          ·exact hz
          ·exact hq u hu
       ·refine ⟨(P'++[z],Q),id,⟨⟨rfl,rfl,rfl,rfl,trivial⟩,⟨rfl,row0 (by simp),rfl,trivial⟩,rfl⟩,hPQ,hq,?_⟩
        intro u hu
        simp at hu
        subst hu
        exact hz
    ·rintro ⟨P,Q⟩ ⟨hPQ,hq,hlast⟩
     simp only at hPQ hq hlast
     have hl2:=congrArg List.length hPQ
     simp only [List.length_append] at hl2
     refine V ?_
     refine ⟨(P++y :: Q,R),id,⟨⟨rfl,rfl,rfl,?_,trivial⟩,⟨rfl,row0 (by simp),rfl,trivial⟩,rfl⟩,⟨?_,?_⟩,by simp⟩
     ·simp only [List.length_append,List.length_cons]
      exact congrArg (fun i=>some (gi i)) (by rw [wrap_id (by omega) (by omega)]; omega)
     ·refine Srt.ins hO (by rw [hPQ]; exact hs) hlast fun u hu=>?_
      have:=hq u (List.mem_of_head? hu)
      exact hO.asym _ _ this
     ·refine List.Perm.trans ?_ hp
      show ((P++y :: Q)++R).Perm (Z++y :: R)
      rw [← hPQ]
      simp only [List.append_assoc,List.cons_append]
      refine List.Perm.append_left P ?_
      exact (List.perm_middle (l₁:=Q) (a:=y) (l₂:=R)).symm
end
end Go.Proofs.YtkoalgjlkcaonaaGreatDoor
/-
  Contracts: package sort: two sorted neighbours are put together in their place.
-/
namespace Go.Proofs.YtkoalgjlkcaonaaGreatDoor
open Go.GK Go.PL Go.RowKit
set_option maxRecDepth 100000
theorem mid_eq {s : Int} (n : Nat) (h : s=(n : Int)) (hn : n < 4611686018427387904) : IntKind.i64.wrap ((IntKind.u64.wrap (IntKind.i64.wrap s)).fdiv (2 ^ (min (1 : Int).toNat IntKind.u64.bits)))=((n / 2 : Nat) : Int):=by
 subst h
 have e0 : IntKind.i64.wrap (n : Int)=(n : Int):=wrap_id (by omega) (by omega)
 rw [e0]
 have e1 : IntKind.u64.wrap (n : Int)=(n : Int):=by rw [IntKind.wrap_u64]; omega
 rw [e1]
 have e2 : (n : Int).fdiv (2 ^ (min (1 : Int).toNat IntKind.u64.bits))=((n / 2 : Nat) : Int):=by
  show (n : Int).fdiv 2=_
  rw [Int.fdiv_eq_ediv_of_nonneg _ (by omega)]
  omega
 rw [e2,wrap_id (by omega) (by omega)]
section
variable {α : Type}
variable {enc : α→List GV} {k : Nat} {ty tb : TypeId} {g sw : FuncId} {lt : α→α→Bool}
theorem last_take {l : List α} {r : Nat} (h : r < l.length) {P : α→Prop} (hp : P l[r]) : ∀ u ∈ (l.take (r + 1)).getLast?,P u:=by
 intro u hu
 rw [List.take_succ_eq_append_getElem h,List.getLast?_append] at hu
 simp at hu
 subst hu
 exact hp
theorem head_drop {l : List α} {r : Nat} (h : r < l.length) {P : α→Prop} (hp : P l[r]) : ∀ u ∈ (l.drop r).head?,P u:=by
 intro u hu
 rw [List.drop_eq_getElem_cons h] at hu
 cases hu
 exact hp
theorem sym1_hf (E : SE enc k ty tb g sw lt) (hO : WO lt) (A : List α) (x : α) (Y B : List α) (hY : Srt lt Y) (hlen : (A++[x]++Y++B).length < 1099511627776) :
  Hf pg 155 2 [.agg (dat ty g sw),gi A.length,gi ((A.length + [x].length : Nat) : Int),gi ((A.length + [x].length + Y.length : Nat) : Int)] (sgm enc k ty tb (A++[x]++Y++B)) (SR enc k ty tb (Put lt A ([x]++Y) B)):=by
 simp only [List.length_append,List.length_cons,List.length_nil,Nat.zero_add] at hlen ⊢
 refine fin_hf (Hf.of pg_ok Tryz.func155 rfl Tryz.ntmps155 rfl Tryz.results155 Tryz.call155 fun H0 S0 w0 h0 g0=>?_)
 refine p1 ?_ (by rw [beq_iff_eq,wrap_id (by omega) (by omega)]; omega)
 refine JK.loopE (α:=Nat × Nat) (β:=Nat) (fun z=>⟨[(1,gi A.length),(4,.p 2 0),(8,gi ((A.length + 1 + z.1 : Nat) : Int)),(9,gi ((A.length + 1 + z.2 : Nat) : Int))],(2,.blk 179 (dat ty g sw)) :: sgm enc k ty tb (A++x :: (([] : List α)++(Y++B))),3⟩)
  (fun z=>z.1≤z.2∧z.2≤Y.length∧(∀ u ∈ (Y.take z.1).getLast?,lt u x=true)∧∀ u ∈ (Y.drop z.2).head?,lt u x=false) (fun z=>z.2 - z.1)
  (fun p=>⟨[(1,gi A.length),(4,.p 2 0),(8,gi ((A.length + 1 + p : Nat) : Int))],(2,.blk 179 (dat ty g sw)) :: sgm enc k ty tb (A++x :: (([] : List α)++(Y++B))),3⟩)
  (fun p=>p≤Y.length∧(∀ u ∈ (Y.take p).getLast?,lt u x=true)∧∀ u ∈ (Y.drop p).head?,lt u x=false) (0,Y.length) id ?_ ⟨Nat.zero_le _,Nat.le_refl _,by simp,by simp⟩ ?_ ?_
 ·exact ⟨⟨rfl,rfl,rfl,rfl,trivial⟩,⟨rfl,row0 (by simp),rfl,trivial⟩,rfl⟩
 ·rintro ⟨p,q⟩ ⟨hpq,hq,hp1,hq1⟩
  simp only at hpq hq hp1 hq1
  refine V ?_
  by_cases hlt : p < q
  ·refine p1 ?_ (decide_eq_true (by dsimp only; omega))
   have hmid:=mid_eq (s:=((A.length + 1 + p : Nat) : Int) + ((A.length + 1 + q : Nat) : Int)) (A.length + 1 + p + (A.length + 1 + q)) (by omega) (by omega)
   have hr : (A.length + 1 + p + (A.length + 1 + q)) / 2=A.length + 1 + (p + q) / 2:=by omega
   rw [hr] at hmid
   have hrY : (p + q) / 2 < Y.length:=by omega
   refine ⟨by omega,?_⟩
   refine LES E (l:=A++x :: (([] : List α)++(Y++B))) (A.length + 1 + (p + q) / 2) A.length (x:=Y[(p + q) / 2]) (y:=x) rfl ?_ rfl ?_ ?_ ?_ rfl rfl rfl ?_
   ·exact hmid
   ·simp; omega
   ·rw [show A++x :: (([] : List α)++(Y++B))=(A++[x])++(Y++B) by simp,List.getElem?_append_right (by simp <;> omega),List.getElem?_append_left (by simp <;> omega),List.getElem?_eq_getElem (by simp <;> omega)]
    simp
   ·exact stab_at _ _ _ rfl
   ·refine ⟨fun hz=>?_,fun hz=>?_⟩
    ·refine ⟨((p + q) / 2 + 1,q),id,⟨⟨rfl,rfl,?_,rfl,trivial⟩,⟨rfl,rfl,rfl,trivial⟩,rfl⟩,⟨by dsimp only; omega,hq,last_take hrY hz,hq1⟩,by dsimp only; omega⟩
     exact congrArg (fun i=>some (gi i)) (by dsimp only; rw [hmid,wrap_id (by omega) (by omega)]; omega)
    ·refine ⟨(p,(p + q) / 2),id,⟨⟨rfl,rfl,rfl,?_,trivial⟩,⟨rfl,rfl,rfl,trivial⟩,rfl⟩,⟨by dsimp only; omega,by dsimp only; omega,hp1,head_drop hrY hz⟩,by dsimp only; omega⟩
     exact congrArg (fun i=>some (gi i)) hmid
  ·refine p2 ?_ (decide_eq_false (by dsimp only; omega))
   obtain rfl : p=q:=by omega
   exact ⟨p,id,⟨⟨rfl,rfl,rfl,trivial⟩,⟨rfl,rfl,rfl,trivial⟩,rfl⟩,hq,hp1,hq1⟩
 ·rintro p ⟨hp,hp1,hp2⟩
  refine V ?_
  refine JK.loop (α:=List α × List α) (fun z=>⟨[(4,.p 2 0),(8,gi ((A.length + 1 + p : Nat) : Int)),(11,gi ((A.length + z.1.length : Nat) : Int))],(2,.blk 179 (dat ty g sw)) :: sgm enc k ty tb (A++(z.1++(x :: (z.2++B)))),3⟩)
   (fun z=>z.1++z.2=Y∧z.1.length≤p) (fun z=>z.2.length) ([],Y) id ?_ ⟨rfl,Nat.zero_le _⟩ ?_
  ·exact ⟨⟨rfl,rfl,rfl,trivial⟩,⟨rfl,rfl,rfl,trivial⟩,rfl⟩
  ·rintro ⟨U,W⟩ ⟨hUW,hU⟩
   simp only at hUW hU
   have hl:=congrArg List.length hUW
   simp only [List.length_append] at hl
   refine V ?_
   by_cases hlt : U.length < p
   ·refine p1 ?_ (decide_eq_true (by dsimp only; rw [wrap_id (by omega) (by omega)]; omega))
    cases W with
    | nil=>simp at hl; omega
    | cons w W =>
     simp only [List.length_cons] at hl
     refine SWP E (l:=A++(U++(x :: ((w :: W)++B)))) (A.length + U.length) (A.length + U.length + 1) (x:=x) (y:=w) (A++((U++[w])++(x :: (W++B)))) rfl rfl ?_ ?_ ?_ ?_ rfl ?_
     ·dsimp only; rw [wrap_id (by omega) (by omega)]; omega
     ·rw [← List.append_assoc]; exact stab_at _ _ _ (by simp)
     ·rw [← List.append_assoc]; exact stab_at2 _ [] _ _ _ (by simp)
     ·rw [← List.append_assoc]
      have:=swap_at (A++U) [] (W++B) x w (i:=A.length + U.length) (j:=A.length + U.length + 1) (by simp) (by simp)
      simp only [List.nil_append] at this
      rw [show (w :: W)++B=w :: (W++B) from rfl,this]
      simp
     ·refine ⟨(U++[w],W),id,⟨⟨rfl,rfl,?_,trivial⟩,⟨rfl,rfl,rfl,trivial⟩,rfl⟩,⟨by simp [← hUW],by simp; omega⟩,by simp⟩
      exact congrArg (fun i=>some (gi i)) (by simp only [List.length_append,List.length_cons,List.length_nil]; rw [wrap_id (by omega) (by omega)]; omega)
   ·refine p2 ?_ (decide_eq_false (by dsimp only; rw [wrap_id (by omega) (by omega)]; omega))
    refine V ?_
    have hUe : U=Y.take p:=by rw [← hUW,List.take_left' (by omega)]
    have hWe : W=Y.drop p:=by rw [← hUW,List.drop_left' (by omega)]
    refine ⟨rfl,_,⟨U++x :: W,rfl,?_,?_⟩,row0 (by simp),rfl⟩
    ·exact (ins_perm U W x).trans (by rw [hUW]; exact .refl _)
    ·refine Srt.ins hO (by rw [hUW]; exact hY) (fun u hu=>hO.asym _ _ (hp1 u (by rw [← hUe]; exact hu))) (fun u hu=>hp2 u (by rw [← hWe]; exact hu))
theorem sym2_hf (E : SE enc k ty tb g sw lt) (hO : WO lt) (A X : List α) (y : α) (B : List α) (hX : Srt lt X) (hX1 : X.length ≠ 1) (hlen : (A++X++[y]++B).length < 1099511627776) :
  Hf pg 155 2 [.agg (dat ty g sw),gi A.length,gi ((A.length + X.length : Nat) : Int),gi ((A.length + X.length + [y].length : Nat) : Int)] (sgm enc k ty tb (A++X++[y]++B)) (SR enc k ty tb (Put lt A (X++[y]) B)):=by
 simp only [List.length_append,List.length_cons,List.length_nil,Nat.zero_add] at hlen ⊢
 refine fin_hf (Hf.of pg_ok Tryz.func155 rfl Tryz.ntmps155 rfl Tryz.results155 Tryz.call155 fun H0 S0 w0 h0 g0=>?_)
 refine p2 ?_ (by rw [beq_eq_false_iff_ne,wrap_id (by omega) (by omega)]; omega)
 refine p1 ?_ (by rw [beq_iff_eq,wrap_id (by omega) (by omega)]; omega)
 refine JK.loopE (α:=Nat × Nat) (β:=Nat) (fun z=>⟨[(1,gi A.length),(2,gi ((A.length + X.length : Nat) : Int)),(4,.p 2 0),(12,gi ((A.length + z.1 : Nat) : Int)),(13,gi ((A.length + z.2 : Nat) : Int))],(2,.blk 179 (dat ty g sw)) :: sgm enc k ty tb (A++(X++(y :: B))),3⟩)
  (fun z=>z.1≤z.2∧z.2≤X.length∧(∀ u ∈ (X.take z.1).getLast?,lt y u=false)∧∀ u ∈ (X.drop z.2).head?,lt y u=true) (fun z=>z.2 - z.1)
  (fun p=>⟨[(2,gi ((A.length + X.length : Nat) : Int)),(4,.p 2 0),(12,gi ((A.length + p : Nat) : Int))],(2,.blk 179 (dat ty g sw)) :: sgm enc k ty tb (A++(X++(y :: B))),3⟩)
  (fun p=>p≤X.length∧(∀ u ∈ (X.take p).getLast?,lt y u=false)∧∀ u ∈ (X.drop p).head?,lt y u=true) (0,X.length) id ?_ ⟨Nat.zero_le _,Nat.le_refl _,by simp,by simp⟩ ?_ ?_
 ·exact ⟨⟨rfl,rfl,rfl,rfl,rfl,trivial⟩,⟨rfl,row0 (by simp),rfl,trivial⟩,rfl⟩
 ·rintro ⟨p,q⟩ ⟨hpq,hq,hp1,hq1⟩
  simp only at hpq hq hp1 hq1
  refine V ?_
  by_cases hlt : p < q
  ·refine p1 ?_ (decide_eq_true (by dsimp only; omega))
   have hmid:=mid_eq (s:=((A.length + p : Nat) : Int) + ((A.length + q : Nat) : Int)) (A.length + p + (A.length + q)) (by omega) (by omega)
   have hr : (A.length + p + (A.length + q)) / 2=A.length + (p + q) / 2:=by omega
   rw [hr] at hmid
   have hrX : (p + q) / 2 < X.length:=by omega
   refine ⟨by omega,?_⟩
   refine LES E (l:=A++(X++(y :: B))) (A.length + X.length) (A.length + (p + q) / 2) (x:=y) (y:=X[(p + q) / 2]) rfl rfl ?_ ?_ ?_ ?_ rfl rfl rfl ?_
   ·exact hmid
   ·simp; omega
   ·rw [← List.append_assoc]; exact stab_at _ _ _ (by simp)
   ·rw [List.getElem?_append_right (by omega),List.getElem?_append_left (by omega),List.getElem?_eq_getElem (by omega)]
    simp
   ·refine ⟨fun hz=>?_,fun hz=>?_⟩
    ·have hz' : lt y X[(p + q) / 2]=false:=by simpa using hz
     refine ⟨((p + q) / 2 + 1,q),id,⟨⟨rfl,rfl,rfl,?_,rfl,trivial⟩,⟨rfl,rfl,rfl,trivial⟩,rfl⟩,⟨by dsimp only; omega,hq,last_take hrX hz',hq1⟩,by dsimp only; omega⟩
     exact congrArg (fun i=>some (gi i)) (by dsimp only; rw [hmid,wrap_id (by omega) (by omega)]; omega)
    ·have hz' : lt y X[(p + q) / 2]=true:=by simpa using hz
     refine ⟨(p,(p + q) / 2),id,⟨⟨rfl,rfl,rfl,rfl,?_,trivial⟩,⟨rfl,rfl,rfl,trivial⟩,rfl⟩,⟨by dsimp only; omega,by dsimp only; omega,hp1,head_drop hrX hz'⟩,by dsimp only; omega⟩
     exact congrArg (fun i=>some (gi i)) hmid
  ·refine p2 ?_ (decide_eq_false (by dsimp only; omega))
   obtain rfl : p=q:=by omega
   exact ⟨p,id,⟨⟨rfl,rfl,rfl,trivial⟩,⟨rfl,rfl,rfl,trivial⟩,rfl⟩,hq,hp1,hq1⟩
 ·rintro p ⟨hp,hp1,hp2⟩
  refine V ?_
  refine JK.loop (α:=List α × List α) (fun z=>⟨[(4,.p 2 0),(12,gi ((A.length + p : Nat) : Int)),(15,gi ((A.length + z.1.length : Nat) : Int))],(2,.blk 179 (dat ty g sw)) :: sgm enc k ty tb (A++(z.1++(y :: (z.2++B)))),3⟩)
   (fun z=>z.1++z.2=X∧p≤z.1.length) (fun z=>z.1.length) (X,[]) id ?_ ⟨by simp,hp⟩ ?_
  ·exact ⟨⟨rfl,rfl,rfl,trivial⟩,⟨rfl,rfl,rfl,trivial⟩,rfl⟩
  ·rintro ⟨U,W⟩ ⟨hUW,hU⟩
   simp only at hUW hU
   have hl:=congrArg List.length hUW
   simp only [List.length_append] at hl
   refine V ?_
   by_cases hlt : p < U.length
   ·refine p1 ?_ (decide_eq_true (by dsimp only; omega))
    rcases List.eq_nil_or_concat U with rfl | ⟨U',z,rfl⟩
    ·simp at hlt
    ·simp only [List.concat_eq_append,List.length_append,List.length_cons,List.length_nil] at hl hlt hUW
     have e1 : A++(List.concat U' z++(y :: (W++B)))=(A++U')++z :: (([] : List α)++y :: (W++B)):=by simp
     refine SWP E (l:=(A++U')++z :: (([] : List α)++y :: (W++B))) (A.length + U'.length + 1) (A.length + U'.length) (x:=y) (y:=z) ((A++U')++y :: (([] : List α)++z :: (W++B))) rfl ?_ ?_ ?_ ?_ ?_ (row0 e1) ?_
     ·simp only [List.concat_eq_append,List.length_append,List.length_cons,List.length_nil]; omega
     ·simp only [List.concat_eq_append,List.length_append,List.length_cons,List.length_nil]; rw [wrap_id (by omega) (by omega)]; omega
     ·exact stab_at2 _ _ _ _ _ (by simp)
     ·exact stab_at _ _ _ (by simp)
     ·exact swap_at' _ _ _ _ _ (by simp) (by simp)
     ·refine ⟨(U',z :: W),id,⟨⟨rfl,rfl,?_,trivial⟩,⟨rfl,row0 (by simp),rfl,trivial⟩,rfl⟩,⟨by simp [← hUW],by dsimp only; omega⟩,by simp⟩
      simp only [List.concat_eq_append,List.length_append,List.length_cons,List.length_nil]
      exact congrArg (fun i=>some (gi i)) (by rw [wrap_id (by omega) (by omega)]; omega)
   ·refine p2 ?_ (decide_eq_false (by dsimp only; omega))
    refine V ?_
    have hUe : U=X.take p:=by rw [← hUW,List.take_left' (by omega)]
    have hWe : W=X.drop p:=by rw [← hUW,List.drop_left' (by omega)]
    refine ⟨rfl,_,⟨U++y :: W,rfl,?_,?_⟩,row0 (by simp),rfl⟩
    ·refine (ins_perm U W y).trans ?_
     rw [hUW]
     exact (List.perm_append_singleton y X).symm
    ·refine Srt.ins hO (by rw [hUW]; exact hX) (fun u hu=>hp1 u (by rw [← hUe]; exact hu)) (fun u hu=>hO.asym _ _ (hp2 u (by rw [← hWe]; exact hu)))
end
end Go.Proofs.YtkoalgjlkcaonaaGreatDoor
/-
  Contracts: package sort: two sorted neighbours are put together in their place: whatever they are.
-/
namespace Go.Proofs.YtkoalgjlkcaonaaGreatDoor
open Go.GK Go.PL Go.RowKit
set_option maxRecDepth 100000
section
variable {α : Type}
variable {enc : α→List GV} {k : Nat} {ty tb : TypeId} {g sw : FuncId} {lt : α→α→Bool}
theorem sym_hf (E : SE enc k ty tb g sw lt) (hO : WO lt) : ∀ (n : Nat) (A X Y B : List α),X.length + Y.length≤n→X ≠ []→Y ≠ []→Srt lt X→Srt lt Y→(A++X++Y++B).length < 1099511627776 →
  Hf pg 155 2 [.agg (dat ty g sw),gi A.length,gi ((A.length + X.length : Nat) : Int),gi ((A.length + X.length + Y.length : Nat) : Int)] (sgm enc k ty tb (A++X++Y++B)) (SR enc k ty tb (Put lt A (X++Y) B)):=by
 intro n
 induction n with
 | zero=>exact fun A X Y B h hX _ _ _ _=>absurd (List.length_eq_zero_iff.1 (by omega)) hX
 | succ n ih =>
  intro A X Y B hn hX hY hsX hsY hlen
  by_cases hX1 : X.length=1
  ·obtain ⟨x,rfl⟩:=List.length_eq_one_iff.1 hX1
   exact sym1_hf E hO A x Y B hsY hlen
  by_cases hY1 : Y.length=1
  ·obtain ⟨y,rfl⟩:=List.length_eq_one_iff.1 hY1
   exact sym2_hf E hO A X y B hsX hX1 hlen
  have hX0 : 0 < X.length:=List.length_pos_iff.2 hX
  have hY0 : 0 < Y.length:=List.length_pos_iff.2 hY
  simp only [List.length_append] at hlen
  obtain ⟨h,hh⟩ : ∃ h,h=(X.length + Y.length) / 2:=⟨_,rfl⟩
  have hmid:=mid_eq (s:=(A.length : Int) + ((A.length + X.length + Y.length : Nat) : Int)) (A.length + (A.length + X.length + Y.length)) (by omega) (by omega)
  rw [show (A.length + (A.length + X.length + Y.length)) / 2=A.length + h by omega] at hmid
  refine fin_hf (Hf.ofJ pg_ok Tryz.func155 rfl Tryz.ntmps155 rfl Tryz.results155 Tryz.call155 fun H0 S0 w0 h0 g0=>?_)
  refine VM 53 ?_
  refine p2 ?_ (by rw [beq_eq_false_iff_ne,wrap_id (by omega) (by omega)]; omega)
  refine p2 ?_ (by rw [beq_eq_false_iff_ne,wrap_id (by omega) (by omega)]; omega)
  refine ⟨by omega,?_⟩
  have hnx : IntKind.i64.wrap (((A.length + h : Nat) : Int) + ((A.length + X.length : Nat) : Int))=((A.length + h + (A.length + X.length) : Nat) : Int):=nn _ _ (by omega)
  refine JK.cut (α:=Unit) (fun _=>⟨[(1,gi A.length),(2,gi ((A.length + X.length : Nat) : Int)),(3,gi ((A.length + X.length + Y.length : Nat) : Int)),(4,.p 2 0),(16,gi ((A.length + h : Nat) : Int)),(17,gi ((A.length + h + (A.length + X.length) : Nat) : Int)),(18,gi ((A.length + (h - Y.length) : Nat) : Int)),(19,gi ((A.length + min h X.length : Nat) : Int))],(2,.blk 179 (dat ty g sw)) :: sgm enc k ty tb (A++X++Y++B),3⟩) (fun _=>True) ?_ ?_
  ·refine V ?_
   by_cases hgt : h < X.length
   ·refine p1 ?_ (decide_eq_true (by rw [hmid]; omega))
    refine ⟨(),id,⟨⟨rfl,rfl,rfl,rfl,?_,?_,?_,?_,trivial⟩,⟨rfl,rfl,rfl,trivial⟩,rfl⟩,trivial⟩
    ·exact congrArg (fun i=>some (gi i)) hmid
    ·exact congrArg (fun i=>some (gi i)) (by rw [hmid,hnx])
    ·exact congrArg (fun i=>some (gi i)) (by rw [hmid,hnx,wrap_id (by omega) (by omega)]; omega)
    ·exact congrArg (fun i=>some (gi i)) (by rw [hmid,Nat.min_eq_left (by omega)])
   ·refine p2 ?_ (decide_eq_false (by rw [hmid]; omega))
    refine ⟨(),id,⟨⟨rfl,rfl,rfl,rfl,?_,?_,?_,?_,trivial⟩,⟨rfl,rfl,rfl,trivial⟩,rfl⟩,trivial⟩
    ·exact congrArg (fun i=>some (gi i)) hmid
    ·exact congrArg (fun i=>some (gi i)) (by rw [hmid,hnx])
    ·exact congrArg (fun i=>some (gi i)) (by omega)
    ·exact congrArg (fun i=>some (gi i)) (by rw [Nat.min_eq_right (by omega)])
  rintro _ _
  refine V ?_
  refine JK.loopE (α:=Nat × Nat) (β:=Nat) (fun z=>⟨[(1,gi A.length),(2,gi ((A.length + X.length : Nat) : Int)),(3,gi ((A.length + X.length + Y.length : Nat) : Int)),(4,.p 2 0),(16,gi ((A.length + h : Nat) : Int)),(17,gi ((A.length + h + (A.length + X.length) : Nat) : Int)),(18,gi ((A.length + z.1 : Nat) : Int)),(19,gi ((A.length + z.2 : Nat) : Int)),(20,gi ((A.length + h + (A.length + X.length) - 1 : Nat) : Int))],(2,.blk 179 (dat ty g sw)) :: sgm enc k ty tb (A++X++Y++B),3⟩)
   (fun z=>h - Y.length≤z.1∧z.1≤z.2∧z.2≤min h X.length∧(z.1=h - Y.length∨∃ u v,Y[h - z.1]?=some u∧X[z.1 - 1]?=some v∧lt u v=false)∧(z.2=min h X.length∨∃ u v,Y[h - z.2 - 1]?=some u∧X[z.2]?=some v∧lt u v=true)) (fun z=>z.2 - z.1)
   (fun s=>⟨[(1,gi A.length),(2,gi ((A.length + X.length : Nat) : Int)),(3,gi ((A.length + X.length + Y.length : Nat) : Int)),(4,.p 2 0),(16,gi ((A.length + h : Nat) : Int)),(17,gi ((A.length + h + (A.length + X.length) : Nat) : Int)),(18,gi ((A.length + s : Nat) : Int))],(2,.blk 179 (dat ty g sw)) :: sgm enc k ty tb (A++X++Y++B),3⟩)
   (fun s=>h - Y.length≤s∧s≤min h X.length∧(s=h - Y.length∨∃ u v,Y[h - s]?=some u∧X[s - 1]?=some v∧lt u v=false)∧(s=min h X.length∨∃ u v,Y[h - s - 1]?=some u∧X[s]?=some v∧lt u v=true)) (h - Y.length,min h X.length) id ?_ ⟨Nat.le_refl _,by dsimp only; omega,Nat.le_refl _,.inl rfl,.inl rfl⟩ ?_ ?_
  ·refine ⟨⟨rfl,rfl,rfl,rfl,rfl,rfl,rfl,rfl,?_,trivial⟩,⟨rfl,rfl,rfl,trivial⟩,rfl⟩
   exact congrArg (fun i=>some (gi i)) (by rw [wrap_id (by omega) (by omega)]; omega)
  ·rintro ⟨p,q⟩ ⟨hp0,hpq,hq0,c1,c2⟩
   simp only at hp0 hpq hq0 c1 c2
   refine V ?_
   by_cases hlt : p < q
   ·refine p1 ?_ (decide_eq_true (by dsimp only; omega))
    have hm2:=mid_eq (s:=((A.length + p : Nat) : Int) + ((A.length + q : Nat) : Int)) (A.length + p + (A.length + q)) (by omega) (by omega)
    rw [show (A.length + p + (A.length + q)) / 2=A.length + (p + q) / 2 by omega] at hm2
    have hcX : (p + q) / 2 < X.length:=by omega
    have hcY : h - (p + q) / 2 - 1 < Y.length:=by omega
    refine ⟨by omega,?_⟩
    refine LES E (l:=A++X++Y++B) (A.length + X.length + (h - (p + q) / 2 - 1)) (A.length + (p + q) / 2) (x:=Y[h - (p + q) / 2 - 1]) (y:=X[(p + q) / 2]) rfl ?_ ?_ ?_ ?_ ?_ rfl rfl rfl ?_
    ·dsimp only; rw [hm2,wrap_id (by omega) (by omega)]; omega
    ·exact hm2
    ·simp; omega
    ·rw [List.getElem?_append_left (by simp; omega),List.getElem?_append_right (by simp),List.getElem?_eq_getElem (by simp; omega)]
     simp
    ·rw [List.append_assoc,List.append_assoc,List.getElem?_append_right (by omega),List.getElem?_append_left (by omega),List.getElem?_eq_getElem (by omega)]
     simp
    ·refine ⟨fun hz=>?_,fun hz=>?_⟩
     ·have hz' : lt Y[h - (p + q) / 2 - 1] X[(p + q) / 2]=false:=by simpa using hz
      refine ⟨((p + q) / 2 + 1,q),id,⟨⟨rfl,rfl,rfl,rfl,rfl,rfl,?_,rfl,rfl,trivial⟩,⟨rfl,rfl,rfl,trivial⟩,rfl⟩,⟨by dsimp only; omega,by dsimp only; omega,hq0,.inr ⟨Y[h - (p + q) / 2 - 1],X[(p + q) / 2],?_,?_,hz'⟩,c2⟩,by dsimp only; omega⟩
      ·exact congrArg (fun i=>some (gi i)) (by dsimp only; rw [hm2,wrap_id (by omega) (by omega)]; omega)
      ·dsimp only; rw [show h - ((p + q) / 2 + 1)=h - (p + q) / 2 - 1 by omega]; exact List.getElem?_eq_getElem hcY
      ·dsimp only; rw [Nat.add_sub_cancel]; exact List.getElem?_eq_getElem hcX
     ·have hz' : lt Y[h - (p + q) / 2 - 1] X[(p + q) / 2]=true:=by simpa using hz
      refine ⟨(p,(p + q) / 2),id,⟨⟨rfl,rfl,rfl,rfl,rfl,rfl,rfl,?_,rfl,trivial⟩,⟨rfl,rfl,rfl,trivial⟩,rfl⟩,⟨hp0,by dsimp only; omega,by dsimp only; omega,c1,.inr ⟨Y[h - (p + q) / 2 - 1],X[(p + q) / 2],List.getElem?_eq_getElem hcY,List.getElem?_eq_getElem hcX,hz'⟩⟩,by dsimp only; omega⟩
      exact congrArg (fun i=>some (gi i)) hm2
   ·refine p2 ?_ (decide_eq_false (by dsimp only; omega))
    obtain rfl : p=q:=by omega
    exact ⟨p,id,⟨⟨rfl,rfl,rfl,rfl,rfl,rfl,rfl,trivial⟩,⟨rfl,rfl,rfl,trivial⟩,rfl⟩,hp0,hq0,c1,c2⟩
  ·rintro s ⟨hs0,hs1,c1,c2⟩
   have hs : s≤X.length∧s≤h:=by omega
   obtain ⟨X1,hX1e⟩ : ∃ X1,X1=X.take s:=⟨_,rfl⟩
   obtain ⟨X2,hX2e⟩ : ∃ X2,X2=X.drop s:=⟨_,rfl⟩
   obtain ⟨Y1,hY1e⟩ : ∃ Y1,Y1=Y.take (h - s):=⟨_,rfl⟩
   obtain ⟨Y2,hY2e⟩ : ∃ Y2,Y2=Y.drop (h - s):=⟨_,rfl⟩
   have hXe : X=X1++X2:=by rw [hX1e,hX2e,List.take_append_drop]
   have hYe : Y=Y1++Y2:=by rw [hY1e,hY2e,List.take_append_drop]
   have lX1 : X1.length=s:=by rw [hX1e,List.length_take]; omega
   have lX2 : X2.length=X.length - s:=by rw [hX2e,List.length_drop]
   have lY1 : Y1.length=h - s:=by rw [hY1e,List.length_take]; omega
   have lY2 : Y2.length=Y.length - (h - s):=by rw [hY2e,List.length_drop]
   have k1 : ∀ x ∈ X1.getLast?,∀ y ∈ Y2.head?,lt y x=false:=by
    intro x hx y hy
    rw [hX1e,List.getLast?_take] at hx
    rw [hY2e,List.head?_drop] at hy
    rcases c1 with c | ⟨u,v,hu,hv,hz⟩
    ·by_cases h0 : s=0
     ·rw [if_pos h0] at hx; cases hx
     ·rw [List.getElem?_eq_none (by omega)] at hy; cases hy
    ·by_cases h0 : s=0
     ·rw [if_pos h0] at hx; cases hx
     ·rw [if_neg h0,hv] at hx
      rw [hu] at hy
      cases hx
      cases hy
      exact hz
   have k2 : ∀ y ∈ Y1.getLast?,∀ x ∈ X2.head?,lt x y=false:=by
    intro y hy x hx
    rw [hY1e,List.getLast?_take] at hy
    rw [hX2e,List.head?_drop] at hx
    by_cases h0 : h - s=0
    ·rw [if_pos h0] at hy; cases hy
    ·rcases c2 with c | ⟨u,v,hu,hv,hz⟩
     ·rw [List.getElem?_eq_none (by omega)] at hx; cases hx
     ·rw [if_neg h0,hu] at hy
      rw [hv] at hx
      cases hx
      cases hy
      exact hO.asym _ _ hz
   have sX:=Srt.app.1 (hXe ▸ hsX)
   have sY:=Srt.app.1 (hYe ▸ hsY)
   clear hX1e hX2e hY1e hY2e c1 c2
   have hend : IntKind.i64.wrap (((A.length + h + (A.length + X.length) : Nat) : Int) - ((A.length + s : Nat) : Int))=((A.length + h + X.length - s : Nat) : Int):=by rw [wrap_id (by omega) (by omega)]; omega
   refine VM 8 ?_
   refine JK.cut (α:=Unit) (fun _=>⟨[(1,gi A.length),(3,gi ((A.length + X.length + Y.length : Nat) : Int)),(4,.p 2 0),(16,gi ((A.length + h : Nat) : Int)),(18,gi ((A.length + s : Nat) : Int)),(22,gi ((A.length + h + X.length - s : Nat) : Int))],(2,.blk 179 (dat ty g sw)) :: sgm enc k ty tb (A++X1++Y1++(X2++(Y2++B))),3⟩) (fun _=>True) ?_ ?_
   ·refine V ?_
    have triv : (X2=[]∨Y1=[])→A++X1++Y1++(X2++(Y2++B))=A++X++Y++B:=by
     rw [hXe,hYe]
     rintro (rfl | rfl) <;> simp
    by_cases q1 : s < X.length
    ·refine p1 ?_ (decide_eq_true (by omega))
     by_cases q2 : s < h
     ·refine p1 ?_ (decide_eq_true (by rw [hend]; omega))
      have hr:=rot_hf E (A++X1) X2 Y1 (Y2++B) (List.length_pos_iff.1 (by omega)) (List.length_pos_iff.1 (by omega)) (by simp only [List.length_append]; omega)
      refine CAL (l:=A++X1++X2++Y1++(Y2++B)) hr rfl ?_ rfl ?_ rfl rfl ?_
      ·refine gi3 (by rw [List.length_append,lX1]) (by simp only [List.length_append]; omega) (by rw [hend]; simp only [List.length_append]; omega)
      ·exact row0 (by rw [hXe,hYe]; simp)
      ·rintro l' rfl
       exact ⟨(),id,⟨⟨rfl,rfl,rfl,rfl,rfl,congrArg (fun i=>some (gi i)) hend,trivial⟩,⟨rfl,row0 (by simp),rfl,trivial⟩,rfl⟩,trivial⟩
     ·refine p2 ?_ (decide_eq_false (by rw [hend]; omega))
      exact ⟨(),id,⟨⟨rfl,rfl,rfl,rfl,rfl,congrArg (fun i=>some (gi i)) hend,trivial⟩,⟨rfl,row0 (triv (.inr (List.length_eq_zero_iff.1 (by omega)))).symm,rfl,trivial⟩,rfl⟩,trivial⟩
    ·refine p2 ?_ (decide_eq_false (by omega))
     exact ⟨(),id,⟨⟨rfl,rfl,rfl,rfl,rfl,congrArg (fun i=>some (gi i)) hend,trivial⟩,⟨rfl,row0 (triv (.inl (List.length_eq_zero_iff.1 (by omega)))).symm,rfl,trivial⟩,rfl⟩,trivial⟩
   rintro _ _
   refine VM 1 ?_
   refine JK.cut (α:=List α) (fun Z1=>⟨[(3,gi ((A.length + X.length + Y.length : Nat) : Int)),(4,.p 2 0),(16,gi ((A.length + h : Nat) : Int)),(22,gi ((A.length + h + X.length - s : Nat) : Int))],(2,.blk 179 (dat ty g sw)) :: sgm enc k ty tb (A++Z1++(X2++(Y2++B))),3⟩) (fun Z1=>Z1.Perm (X1++Y1)∧Srt lt Z1) ?_ ?_
   ·refine V ?_
    have triv : (X1=[]∨Y1=[])→Srt lt (X1++Y1):=by
     rintro (e | e)
     ·rw [e]; exact sY.1
     ·rw [e,List.append_nil]; exact sX.1
    by_cases q1 : 0 < s
    ·refine p1 ?_ (decide_eq_true (by omega))
     by_cases q2 : s < h
     ·refine p1 ?_ (decide_eq_true (by omega))
      have hr:=ih A X1 Y1 (X2++(Y2++B)) (by omega) (List.length_pos_iff.1 (by omega)) (List.length_pos_iff.1 (by omega)) sX.1 sY.1 (by simp only [List.length_append]; omega)
      refine CAL (l:=A++X1++Y1++(X2++(Y2++B))) hr rfl ?_ rfl rfl rfl rfl ?_
      ·exact gi3 rfl (by rw [lX1]) (by rw [lX1,lY1]; omega)
      ·rintro l' ⟨Z1,rfl,hp,hz⟩
       exact ⟨Z1,id,⟨⟨rfl,rfl,rfl,rfl,trivial⟩,⟨rfl,rfl,rfl,trivial⟩,rfl⟩,hp,hz⟩
     ·refine p2 ?_ (decide_eq_false (by omega))
      exact ⟨X1++Y1,id,⟨⟨rfl,rfl,rfl,rfl,trivial⟩,⟨rfl,row0 (by simp),rfl,trivial⟩,rfl⟩,.refl _,triv (.inr (List.length_eq_zero_iff.1 (by omega)))⟩
    ·refine p2 ?_ (decide_eq_false (by omega))
     exact ⟨X1++Y1,id,⟨⟨rfl,rfl,rfl,rfl,trivial⟩,⟨rfl,row0 (by simp),rfl,trivial⟩,rfl⟩,.refl _,triv (.inl (List.length_eq_zero_iff.1 (by omega)))⟩
   rintro Z1 ⟨hp1,hz1⟩
   have lZ1:=hp1.length_eq
   rw [List.length_append] at lZ1
   refine V ?_
   have fin : ∀ Z2 : List α,Z2.Perm (X2++Y2)→Srt lt Z2→Put lt A (X++Y) B (A++Z1++(Z2++B)):=fun Z2 hp2 hz2=>by
    refine ⟨Z1++Z2,by simp,?_,Srt.cross hO (hXe ▸ hsX) (hYe ▸ hsY) k1 k2 hp1 hp2 hz1 hz2⟩
    rw [hXe,hYe]
    exact cross_perm hp1 hp2
   have triv : (X2=[]∨Y2=[])→Srt lt (X2++Y2):=by
    rintro (e | e)
    ·rw [e]; exact sY.2.1
    ·rw [e,List.append_nil]; exact sX.2.1
   by_cases q1 : s < X.length
   ·refine p1 ?_ (decide_eq_true (by omega))
    by_cases q2 : 0 < Y2.length
    ·refine p1 ?_ (decide_eq_true (by omega))
     have hr:=ih (A++Z1) X2 Y2 B (by omega) (List.length_pos_iff.1 (by omega)) (List.length_pos_iff.1 q2) sX.2.1 sY.2.1 (by simp only [List.length_append]; omega)
     refine CAL (l:=A++Z1++X2++Y2++B) hr rfl ?_ rfl ?_ rfl rfl ?_
     ·refine gi3 (by simp only [List.length_append]; omega) (by simp only [List.length_append]; omega) (by simp only [List.length_append]; omega)
     ·exact row0 (by simp)
     ·rintro l' ⟨Z2,rfl,hp2,hz2⟩
      exact ⟨rfl,_,fin Z2 hp2 hz2,row0 (by simp),rfl⟩
    ·refine p2 ?_ (decide_eq_false (by omega))
     exact ⟨rfl,_,fin (X2++Y2) (.refl _) (triv (.inr (List.length_eq_zero_iff.1 (by omega)))),row0 (by simp),rfl⟩
   ·refine p2 ?_ (decide_eq_false (by omega))
    exact ⟨rfl,_,fin (X2++Y2) (.refl _) (triv (.inl (List.length_eq_zero_iff.1 (by omega)))),row0 (by simp),rfl⟩
end
end Go.Proofs.YtkoalgjlkcaonaaGreatDoor
/-
  Contracts: package sort: a whole row put in order where it stands, by blocks.
-/
namespace Go.Proofs.YtkoalgjlkcaonaaGreatDoor
open Go.GK Go.PL Go.RowKit
set_option maxRecDepth 100000
section
variable {α : Type}
variable {enc : α→List GV} {k : Nat} {ty tb : TypeId} {g sw : FuncId} {lt : α→α→Bool}
def Blks (lt : α→α→Bool) (n : Nat) (Bs : List (List α)) : Prop:=∀ B ∈ Bs,B.length=n∧Srt lt B
theorem Blks.len {n : Nat} : ∀ {Bs : List (List α)},Blks lt n Bs→Bs.flatten.length=Bs.length * n
 | [],_=>by simp
 | B :: Bs,h=>by
  have h1:=h B (by simp)
  have h2:=Blks.len (Bs:=Bs) fun C hC=>h C (by simp [hC])
  rw [List.flatten_cons,List.length_append,h1.1,h2,List.length_cons,Nat.add_mul]
  omega
theorem Blks.snoc {n : Nat} {Bs : List (List α)} {Z : List α} (h : Blks lt n Bs) (h1 : Z.length=n) (h2 : Srt lt Z) : Blks lt n (Bs++[Z]):=fun B hB=>by
 rcases List.mem_append.1 hB with hB | hB
 ·exact h B hB
 ·rw [List.mem_singleton.1 hB]; exact ⟨h1,h2⟩
theorem stable_hf (E : SE enc k ty tb g sw lt) (hO : WO lt) (l : List α) (hlen : l.length < 274877906944) :
  Hf pg 123 2 [.agg (dat ty g sw),gi l.length] (sgm enc k ty tb l) (SR enc k ty tb fun l'=>l'.Perm l∧Srt lt l'):=by
 refine fin_hf (Hf.of pg_ok Tryz.func123 rfl Tryz.ntmps123 rfl Tryz.results123 Tryz.call123 fun H0 S0 w0 h0 g0=>?_)
 refine JK.loopE (α:=List (List α) × List α) (β:=List (List α) × List α) (fun z=>⟨[(1,gi l.length),(2,.p 2 0),(4,gi 20),(5,gi z.1.flatten.length),(6,gi ((z.1.flatten.length + 20 : Nat) : Int))],(2,.blk 179 (dat ty g sw)) :: sgm enc k ty tb (z.1.flatten++z.2),3⟩)
  (fun z=>Blks lt 20 z.1∧(z.1.flatten++z.2).Perm l) (fun z=>z.2.length)
  (fun z=>⟨[(1,gi l.length),(2,.p 2 0),(4,gi 20),(5,gi z.1.flatten.length)],(2,.blk 179 (dat ty g sw)) :: sgm enc k ty tb (z.1.flatten++z.2),3⟩)
  (fun z=>Blks lt 20 z.1∧(z.1.flatten++z.2).Perm l∧z.2.length < 20) ([],l) id ?_ ⟨(fun B hB=>(by cases hB)),(by simp)⟩ ?_ ?_
 ·exact ⟨⟨rfl,rfl,rfl,rfl,rfl,trivial⟩,⟨rfl,rfl,rfl,trivial⟩,rfl⟩
 ·rintro ⟨Bs,R⟩ ⟨hB,hp⟩
  simp only at hB hp
  have hl:=hp.length_eq
  rw [List.length_append] at hl
  refine V ?_
  by_cases hlt : 20≤R.length
  ·refine p1 ?_ (decide_eq_true (by dsimp only; omega))
   have hi:=ins_hf E hO Bs.flatten (R.take 20) (R.drop 20) (by simp only [List.length_append,List.length_take,List.length_drop]; omega)
   have h20 : (R.take 20).length=20:=by simp; omega
   refine CAL (l:=Bs.flatten++R.take 20++R.drop 20) hi rfl ?_ rfl ?_ rfl rfl ?_
   ·exact gi2 rfl (by rw [h20])
   ·exact row0 (by simp)
   ·rintro l' ⟨Z,rfl,hzp,hz⟩
    have hzl:=hzp.length_eq
    rw [h20] at hzl
    refine ⟨(Bs++[Z],R.drop 20),id,⟨⟨rfl,rfl,rfl,?_,?_,trivial⟩,⟨rfl,row0 (by simp),rfl,trivial⟩,rfl⟩,⟨hB.snoc hzl hz,?_⟩,by simp; omega⟩
    ·exact congrArg (fun i=>some (gi i)) (by simp [hzl])
    ·exact congrArg (fun i=>some (gi i)) (by dsimp only; rw [wrap_id (by omega) (by omega)]; simp [hzl])
    ·refine List.Perm.trans ?_ hp
     simp only [List.flatten_append,List.flatten_cons,List.flatten_nil,List.append_nil,List.append_assoc]
     refine List.Perm.append_left _ ?_
     conv=>rhs; rw [← List.take_append_drop 20 R]
     exact List.Perm.append_right _ hzp
  ·refine p2 ?_ (decide_eq_false (by dsimp only; omega))
   exact ⟨(Bs,R),id,⟨⟨rfl,rfl,rfl,rfl,trivial⟩,⟨rfl,rfl,rfl,trivial⟩,rfl⟩,hB,hp,by dsimp only; omega⟩
 ·rintro ⟨Bs,R⟩ ⟨hB,hp,hR⟩
  simp only at hB hp hR
  have hl:=hp.length_eq
  rw [List.length_append] at hl
  refine V ?_
  have hi:=ins_hf E hO Bs.flatten R [] (by simp only [List.length_append,List.length_nil]; omega)
  refine CAL (l:=Bs.flatten++R++[]) hi rfl ?_ rfl ?_ rfl rfl ?_
  ·exact gi2 rfl (by omega)
  ·exact row0 (by simp)
  ·rintro l' ⟨Z,rfl,hzp,hz⟩
   have hzl:=hzp.length_eq
   refine JK.loop (α:=Nat × List (List α) × List α) (fun z=>⟨[(1,gi l.length),(2,.p 2 0),(4,gi z.1)],(2,.blk 179 (dat ty g sw)) :: sgm enc k ty tb (z.2.1.flatten++z.2.2),3⟩)
    (fun z=>1≤z.1∧z.1 < 549755813888∧Blks lt z.1 z.2.1∧Srt lt z.2.2∧z.2.2.length < z.1∧(z.2.1.flatten++z.2.2).Perm l) (fun z=>l.length - z.1) (20,Bs,Z) id ?_ ⟨(by dsimp only; omega),(by dsimp only; omega),hB,hz,by dsimp only; omega,(List.Perm.append_left _ hzp).trans hp⟩ ?_
   ·exact ⟨⟨rfl,rfl,rfl,trivial⟩,⟨rfl,row0 (by simp),rfl,trivial⟩,rfl⟩
   ·rintro ⟨bs,Bs,R⟩ ⟨h1,h1',hB,hsR,hR,hp⟩
    simp only at h1 h1' hB hsR hR hp
    have hl:=hp.length_eq
    have hbl:=hB.len
    rw [List.length_append] at hl
    refine V ?_
    by_cases hlt : bs < l.length
    ·refine p1 ?_ (decide_eq_true (by dsimp only; omega))
     have h2 : IntKind.i64.wrap (2 * (bs : Int))=((2 * bs : Nat) : Int):=by rw [wrap_id (by omega) (by omega)]; omega
     refine JK.loopE (α:=List (List α) × List (List α)) (β:=List (List α) × List (List α)) (fun z=>⟨[(1,gi l.length),(2,.p 2 0),(4,gi bs),(5,gi z.1.flatten.length),(6,gi ((z.1.flatten.length + 2 * bs : Nat) : Int))],(2,.blk 179 (dat ty g sw)) :: sgm enc k ty tb (z.1.flatten++(z.2.flatten++R)),3⟩)
      (fun z=>Blks lt (2 * bs) z.1∧Blks lt bs z.2∧(z.1.flatten++(z.2.flatten++R)).Perm l) (fun z=>z.2.length)
      (fun z=>⟨[(1,gi l.length),(2,.p 2 0),(4,gi bs),(5,gi z.1.flatten.length)],(2,.blk 179 (dat ty g sw)) :: sgm enc k ty tb (z.1.flatten++(z.2.flatten++R)),3⟩)
      (fun z=>Blks lt (2 * bs) z.1∧Blks lt bs z.2∧(z.1.flatten++(z.2.flatten++R)).Perm l∧z.2.flatten.length + R.length < 2 * bs) ([],Bs) id ?_ ⟨(fun B hB=>(by cases hB)),hB,(by simpa using hp)⟩ ?_ ?_
     ·refine ⟨⟨rfl,rfl,rfl,rfl,?_,trivial⟩,⟨rfl,row0 (by simp),rfl,trivial⟩,rfl⟩
      exact congrArg (fun i=>some (gi i)) (by dsimp only; rw [h2]; simp)
     ·rintro ⟨Cs,Bs⟩ ⟨hC,hB,hp⟩
      simp only at hC hB hp
      have hl:=hp.length_eq
      have hbl:=hB.len
      simp only [List.length_append] at hl
      refine V ?_
      by_cases hge : 2 * bs≤Bs.flatten.length + R.length
      ·refine p1 ?_ (decide_eq_true (by dsimp only; omega))
       match Bs,hbl,hB,hp,hl,hge with
       | [],hbl,_,_,_,hge=>simp only [List.length_nil,Nat.zero_mul] at hbl; omega
       | [C],hbl,_,_,_,hge=>simp only [List.length_cons,List.length_nil,Nat.zero_add,Nat.one_mul] at hbl; omega
       | C :: D :: Bs,hbl,hB,hp,hl,hge =>
        obtain ⟨lC,sC⟩:=hB C (by simp)
        obtain ⟨lD,sD⟩:=hB D (by simp)
        simp only [List.flatten_cons,List.length_append] at hl hge hbl
        have hs:=sym_hf E hO _ Cs.flatten C D (Bs.flatten++R) (Nat.le_refl _) (List.length_pos_iff.1 (by omega)) (List.length_pos_iff.1 (by omega)) sC sD (by simp only [List.length_append]; omega)
        refine CAL (l:=Cs.flatten++C++D++(Bs.flatten++R)) hs rfl ?_ rfl ?_ rfl rfl ?_
        ·refine gi3 rfl ?_ ?_
         ·dsimp only; rw [wrap_id (by omega) (by omega)]; omega
         ·dsimp only; omega
        ·exact row0 (by simp)
        ·rintro l' ⟨Z,rfl,hzp,hz⟩
         have hzl:=hzp.length_eq
         rw [List.length_append] at hzl
         refine ⟨(Cs++[Z],Bs),id,⟨⟨rfl,rfl,rfl,?_,?_,trivial⟩,⟨rfl,row0 (by simp),rfl,trivial⟩,rfl⟩,⟨hC.snoc (by omega) hz,fun B hb=>hB B (by simp [hb]),?_⟩,by simp only [List.length_cons]; omega⟩
         ·exact congrArg (fun i=>some (gi i)) (by simp only [List.flatten_append,List.flatten_cons,List.flatten_nil,List.append_nil,List.length_append]; omega)
         ·refine congrArg (fun i=>some (gi i)) ?_
          dsimp only
          rw [h2,wrap_id (by omega) (by omega)]
          simp only [List.flatten_append,List.flatten_cons,List.flatten_nil,List.append_nil,List.length_append]
          omega
         ·refine List.Perm.trans ?_ hp
          simp only [List.flatten_append,List.flatten_cons,List.flatten_nil,List.append_nil,List.append_assoc]
          refine List.Perm.append_left _ ?_
          rw [← List.append_assoc C]
          exact List.Perm.append_right _ hzp
      ·refine p2 ?_ (decide_eq_false (by dsimp only; omega))
       exact ⟨(Cs,Bs),id,⟨⟨rfl,rfl,rfl,rfl,trivial⟩,⟨rfl,rfl,rfl,trivial⟩,rfl⟩,hC,hB,hp,by dsimp only; omega⟩
     ·rintro ⟨Cs,Bs⟩ ⟨hC,hB,hp,hlt2⟩
      simp only at hC hB hp hlt2
      have hl:=hp.length_eq
      have hbl:=hB.len
      simp only [List.length_append] at hl
      have h2' : IntKind.i64.wrap ((bs : Int) * 2)=((2 * bs : Nat) : Int):=by rw [wrap_id (by omega) (by omega)]; omega
      refine V ?_
      match Bs,hbl,hB,hp,hl,hlt2 with
      | [],hbl,_,hp,hl,_ =>
       simp only [List.flatten_nil,List.length_nil,List.nil_append] at hl hp
       refine p2 ?_ (decide_eq_false (by dsimp only; rw [wrap_id (by omega) (by omega)]; omega))
       exact ⟨(2 * bs,Cs,R),id,⟨⟨rfl,rfl,congrArg (fun i=>some (gi i)) h2',trivial⟩,⟨rfl,row0 (by simp),rfl,trivial⟩,rfl⟩,⟨by dsimp only; omega,by dsimp only; omega,hC,hsR,by dsimp only; omega,hp⟩,by dsimp only; omega⟩
      | [C],hbl,hB,hp,hl,_ =>
       obtain ⟨lC,sC⟩:=hB C (by simp)
       simp only [List.flatten_cons,List.flatten_nil,List.append_nil] at hl hp
       by_cases hR0 : 0 < R.length
       ·refine p1 ?_ (decide_eq_true (by dsimp only; rw [wrap_id (by omega) (by omega)]; omega))
        have hs:=sym_hf E hO _ Cs.flatten C R [] (Nat.le_refl _) (List.length_pos_iff.1 (by omega)) (List.length_pos_iff.1 (by omega)) sC hsR (by simp only [List.length_append,List.length_nil]; omega)
        refine CAL (l:=Cs.flatten++C++R++[]) hs rfl ?_ rfl ?_ rfl rfl ?_
        ·refine gi3 rfl ?_ ?_
         ·dsimp only; rw [wrap_id (by omega) (by omega)]; omega
         ·omega
        ·exact row0 (by simp)
        ·rintro l' ⟨Z,rfl,hzp,hz⟩
         have hzl:=hzp.length_eq
         rw [List.length_append] at hzl
         exact ⟨(2 * bs,Cs,Z),id,⟨⟨rfl,rfl,congrArg (fun i=>some (gi i)) h2',trivial⟩,⟨rfl,row0 (by simp),rfl,trivial⟩,rfl⟩,⟨by dsimp only; omega,by dsimp only; omega,hC,hz,by dsimp only; omega,(List.Perm.append_left _ hzp).trans hp⟩,by dsimp only; omega⟩
       ·refine p2 ?_ (decide_eq_false (by dsimp only; rw [wrap_id (by omega) (by omega)]; omega))
        have hRe : R=[]:=List.length_eq_zero_iff.1 (by omega)
        exact ⟨(2 * bs,Cs,C),id,⟨⟨rfl,rfl,congrArg (fun i=>some (gi i)) h2',trivial⟩,⟨rfl,row0 (by rw [hRe]; simp),rfl,trivial⟩,rfl⟩,⟨by dsimp only; omega,by dsimp only; omega,hC,sC,by dsimp only; omega,by rw [hRe,List.append_nil] at hp; exact hp⟩,by dsimp only; omega⟩
      | C :: D :: Bs,hbl,hB,hp,hl,hlt2 =>
       simp only [List.length_cons,Nat.add_mul] at hbl
       omega
    ·refine p2 ?_ (decide_eq_false (by dsimp only; omega))
     refine V ?_
     match Bs,hbl,hB,hp,hl with
     | [],_,_,hp,_=>exact ⟨rfl,_,⟨by simpa using hp,hsR⟩,row0 (by simp),rfl⟩
     | [C],hbl,hB,hp,hl =>
      simp only [List.flatten_cons,List.flatten_nil,List.append_nil,List.length_cons,List.length_nil] at hbl hl hp
      have hR0 : R=[]:=List.length_eq_zero_iff.1 (by omega)
      subst hR0
      exact ⟨rfl,C,⟨by simpa using hp,(hB C (by simp)).2⟩,row0 (by simp),rfl⟩
     | C :: D :: Bs,hbl,hB,hp,hl =>
      simp only [List.length_cons,Nat.add_mul] at hbl
      omega
end
end Go.Proofs.YtkoalgjlkcaonaaGreatDoor
/-
  DERIVED: THE SHELF's CONTRACTS AT THIS DUMP, IN PLAIN WORDS (tools/lay-plain.mjs out of 'TryzShelf.lean', which tools/lay-shelf.mjs wrote): THE SAME DECLARATIONS UNDER THE SAME NAMES: 'import', 'namespace', 'open', 'def', 'theorem' AND NOTHING ELSE: no command of the shelf's: FOR A HAND-IN. Each laying: the table of numbers ('.._ren') and one theorem, a field a fact of the dump's own or the kernel's comparison; each contract: ONE APPLICATION.
-/
namespace Go.Proofs
open Go.Shelf
def Tryz.laysGt8_ren : Go.Shelf.Ren:=⟨fun | 8=>92 | 13=>121 | 14=>122 | 16=>124 | 15=>123 | 29=>154 | 30=>155 | 42=>166 | 49=>174 | n=>n,fun | 20=>20 | 26=>152 | 36=>173 | 0=>0 | 38=>175 | 42=>179 | 3=>3 | 4=>4 | 47=>206 | 17=>17 | 33=>170 | 34=>171 | 89=>270 | 12=>12 | 56=>253 | 82=>265 | 5=>5 | 83=>196 | 84=>266 | 85=>241 | 86=>267 | 87=>268 | n=>n,fun | n=>n⟩
theorem Tryz.laysGt8 : Go.Proofs.LaysGt.n8 Tryz.prog Tryz.laysGt8_ren:={
 mixed:=by kernel_rfl
 f8:=Tryz.func92.trans (congrArg some (by kernel_rfl))
 f13:=Tryz.func121.trans (congrArg some (by kernel_rfl))
 f14:=Tryz.func122.trans (congrArg some (by kernel_rfl))
 f15:=Tryz.func123.trans (congrArg some (by kernel_rfl))
 f16:=Tryz.func124.trans (congrArg some (by kernel_rfl))
 f29:=Tryz.func154.trans (congrArg some (by kernel_rfl))
 f30:=Tryz.func155.trans (congrArg some (by kernel_rfl))
 f42:=Tryz.func166.trans (congrArg some (by kernel_rfl))
 f49:=Tryz.func174.trans (congrArg some (by kernel_rfl))
 t0:=Tryz.underlying0
 a0:=Tryz.isAgg0
 z0:=Tryz.sizeOf0
 v0:=Tryz.zeroValue0
 i0:=by kernel_rfl
 t3:=Tryz.underlying3
 a3:=Tryz.isAgg3
 z3:=Tryz.sizeOf3
 v3:=Tryz.zeroValue3
 i3:=by kernel_rfl
 t4:=Tryz.underlying4
 a4:=Tryz.isAgg4
 z4:=Tryz.sizeOf4
 v4:=Tryz.zeroValue4
 i4:=by kernel_rfl
 t5:=Tryz.underlying5
 a5:=Tryz.isAgg5
 z5:=Tryz.sizeOf5
 v5:=Tryz.zeroValue5
 i5:=by kernel_rfl
 t12:=Tryz.underlying12
 a12:=Tryz.isAgg12
 z12:=Tryz.sizeOf12
 v12:=Tryz.zeroValue12
 i12:=by kernel_rfl
 t17:=Tryz.underlying17
 a17:=Tryz.isAgg17
 z17:=Tryz.sizeOf17
 v17:=Tryz.zeroValue17
 i17:=by kernel_rfl
 t20:=Tryz.underlying20
 a20:=Tryz.isAgg20
 z20:=Tryz.sizeOf20
 v20:=Tryz.zeroValue20
 i20:=by kernel_rfl
 t26:=Tryz.underlying152
 a26:=Tryz.isAgg152
 z26:=Tryz.sizeOf152
 v26:=Tryz.zeroValue152
 i26:=by kernel_rfl
 t33:=Tryz.underlying170
 a33:=Tryz.isAgg170
 z33:=Tryz.sizeOf170
 v33:=Tryz.zeroValue170
 i33:=by kernel_rfl
 t34:=Tryz.underlying171
 a34:=Tryz.isAgg171
 z34:=Tryz.sizeOf171
 v34:=Tryz.zeroValue171
 i34:=by kernel_rfl
 t36:=Tryz.underlying173
 a36:=Tryz.isAgg173
 z36:=Tryz.sizeOf173
 v36:=Tryz.zeroValue173
 i36:=by kernel_rfl
 t38:=Tryz.underlying175
 a38:=Tryz.isAgg175
 z38:=Tryz.sizeOf175
 v38:=Tryz.zeroValue175
 i38:=by kernel_rfl
 t42:=Tryz.underlying179
 a42:=Tryz.isAgg179
 z42:=Tryz.sizeOf179
 v42:=Tryz.zeroValue179
 i42:=by kernel_rfl
 t47:=Tryz.underlying206
 a47:=Tryz.isAgg206
 z47:=Tryz.sizeOf206
 v47:=Tryz.zeroValue206
 i47:=by kernel_rfl
 t56:=Tryz.underlying253
 a56:=Tryz.isAgg253
 z56:=Tryz.sizeOf253
 v56:=Tryz.zeroValue253
 i56:=by kernel_rfl
 t82:=Tryz.underlying265
 a82:=Tryz.isAgg265
 z82:=Tryz.sizeOf265
 v82:=Tryz.zeroValue265
 i82:=by kernel_rfl
 t83:=Tryz.underlying196
 a83:=Tryz.isAgg196
 z83:=Tryz.sizeOf196
 v83:=Tryz.zeroValue196
 i83:=by kernel_rfl
 t84:=Tryz.underlying266
 a84:=Tryz.isAgg266
 z84:=Tryz.sizeOf266
 v84:=Tryz.zeroValue266
 i84:=by kernel_rfl
 t85:=Tryz.underlying241
 a85:=Tryz.isAgg241
 z85:=Tryz.sizeOf241
 v85:=Tryz.zeroValue241
 i85:=by kernel_rfl
 t86:=Tryz.underlying267
 a86:=Tryz.isAgg267
 z86:=Tryz.sizeOf267
 v86:=Tryz.zeroValue267
 i86:=by kernel_rfl
 t87:=Tryz.underlying268
 a87:=Tryz.isAgg268
 z87:=Tryz.sizeOf268
 v87:=Tryz.zeroValue268
 i87:=by kernel_rfl
 t89:=Tryz.underlying270
 a89:=Tryz.isAgg270
 z89:=Tryz.sizeOf270
 v89:=Tryz.zeroValue270
 i89:=by kernel_rfl }
end Go.Proofs
/-
  Plain laws: comparisons that tell -1, 0, 1; lists one by one; strings. No program is in sight.
-/
namespace Go.PL
open Go Go.GK

structure IsC {α : Type} (f : α→α→Int) : Prop where
 rng : ∀ a b,f a b=-1∨f a b=0∨f a b=1
 anti : ∀ a b,f b a=-f a b
 eq0 : ∀ a b,f a b=0 ↔ a=b
 trans : ∀ a b c,f a b=-1→f b c=-1→f a c=-1

theorem IsC.self {α : Type} {f : α→α→Int} (h : IsC f) (a : α) : f a a=0:=(h.eq0 a a).2 rfl
def lexC {α : Type} (f : α→α→Int) : List α→List α→Int
 | [],[]=>0
 | [],_ :: _=>-1
 | _ :: _,[]=>1
 | a :: aas,b :: bs=>if f a b=0 then lexC f aas bs else f a b

theorem lexC_is {α : Type} {f : α→α→Int} (h : IsC f) : IsC (lexC f):=by
 refine ⟨?_,?_,?_,?_⟩
 ·intro a
  induction a with
  | nil=>intro b; cases b <;> simp [lexC]
  | cons x a ih =>
   intro b
   cases b with
   | nil=>simp [lexC]
   | cons y b =>
    simp only [lexC]
    split
    ·exact ih b
    ·exact h.rng x y
 ·intro a
  induction a with
  | nil=>intro b; cases b <;> simp [lexC]
  | cons x a ih =>
   intro b
   cases b with
   | nil=>simp [lexC]
   | cons y b =>
    simp only [lexC,h.anti x y]
    by_cases e : f x y=0
    ·rw [if_pos (by rw [e]; rfl),if_pos e]; exact ih b
    ·rw [if_neg (by omega),if_neg e]
 ·intro a
  induction a with
  | nil=>intro b; cases b <;> simp [lexC]
  | cons x a ih =>
   intro b
   cases b with
   | nil=>simp [lexC]
   | cons y b =>
    simp only [lexC]
    by_cases e : f x y=0
    ·rw [if_pos e,ih b,(h.eq0 x y).1 e]
     simp
    ·rw [if_neg e]
     refine ⟨fun k=>(e k).elim,fun k=>?_⟩
     injection k with k1 k2
     exact (e ((h.eq0 x y).2 k1)).elim
 ·intro a
  induction a with
  | nil =>
   intro b c
   cases c with
   | nil=>cases b <;> simp [lexC]
   | cons z c=>intro _ _; rfl
  | cons x a ih =>
   intro b c h1 h2
   cases b with
   | nil=>simp [lexC] at h1
   | cons y b =>
    cases c with
    | nil=>simp [lexC] at h2
    | cons z c =>
     simp only [lexC] at h1 h2 ⊢
     by_cases e1 : f x y=0
     ·rw [if_pos e1] at h1
      have:=(h.eq0 x y).1 e1
      subst this
      by_cases e2 : f x z=0
      ·rw [if_pos e2] at h2 ⊢
       exact ih b c h1 h2
      ·rw [if_neg e2] at h2 ⊢
       exact h2
     ·rw [if_neg e1] at h1
      by_cases e2 : f y z=0
      ·have:=(h.eq0 y z).1 e2
       subst this
       rw [if_neg e1]; exact h1
      ·rw [if_neg e2] at h2
       have:=h.trans x y z h1 h2
       rw [if_neg (by omega)]; exact this

def thenC {α β : Type} (f : α→α→Int) (g : β→β→Int) (a b : α × β) : Int:=if f a.1 b.1=0 then g a.2 b.2 else f a.1 b.1
theorem thenC_is {α β : Type} {f : α→α→Int} {g : β→β→Int} (hf : IsC f) (hg : IsC g) : IsC (thenC f g):=by
 refine ⟨fun a b=>?_,fun a b=>?_,fun a b=>?_,fun a b c h1 h2=>?_⟩
 ·unfold thenC; split
  ·exact hg.rng _ _
  ·exact hf.rng _ _
 ·unfold thenC
  rw [hf.anti a.1 b.1]
  by_cases e : f a.1 b.1=0
  ·rw [if_pos (by omega),if_pos e]; exact hg.anti _ _
  ·rw [if_neg (by omega),if_neg e]
 ·unfold thenC
  obtain ⟨a1,a2⟩:=a
  obtain ⟨b1,b2⟩:=b
  by_cases e : f a1 b1=0
  ·have e1:=(hf.eq0 a1 b1).1 e
   subst e1
   simp only [e,if_true,hg.eq0,Prod.mk.injEq,true_and]
  ·simp only [e,if_false,Prod.mk.injEq,false_iff]
   exact fun k=>e ((hf.eq0 _ _).2 k.1)
 ·unfold thenC at h1 h2 ⊢
  obtain ⟨a1,a2⟩:=a
  obtain ⟨b1,b2⟩:=b
  obtain ⟨c1,c2⟩:=c
  simp only at h1 h2 ⊢
  by_cases e1 : f a1 b1=0
  ·rw [if_pos e1] at h1
   have:=(hf.eq0 _ _).1 e1
   subst this
   by_cases e2 : f a1 c1=0
   ·rw [if_pos e2] at h2 ⊢; exact hg.trans _ _ _ h1 h2
   ·rw [if_neg e2] at h2 ⊢; exact h2
  ·rw [if_neg e1] at h1
   by_cases e2 : f b1 c1=0
   ·have:=(hf.eq0 _ _).1 e2
    subst this
    rw [if_neg e1]; exact h1
   ·rw [if_neg e2] at h2
    have:=hf.trans _ _ _ h1 h2
    rw [if_neg (by omega)]; exact this

def cmpU (a b : UInt8) : Int:=if a < b then -1 else if b < a then 1 else 0
theorem cmpU_is : IsC cmpU:=by
 refine ⟨fun a b=>?_,fun a b=>?_,fun a b=>?_,fun a b c h1 h2=>?_⟩
 ·unfold cmpU
  split
  ·exact .inl rfl
  ·split
   ·exact .inr (.inr rfl)
   ·exact .inr (.inl rfl)
 ·unfold cmpU
  simp only [UInt8.lt_iff_toNat_lt]
  repeat' split <;> first | rfl | omega
 ·unfold cmpU
  simp only [UInt8.lt_iff_toNat_lt,← UInt8.toNat_inj]
  split
  ·exact ⟨fun h=>by simp at h,fun h=>by omega⟩
  ·split
   ·exact ⟨fun h=>by simp at h,fun h=>by omega⟩
   ·exact ⟨fun _=>by omega,fun _=>rfl⟩
 ·unfold cmpU at h1 h2 ⊢
  simp only [UInt8.lt_iff_toNat_lt] at h1 h2 ⊢
  have h1' : a.toNat < b.toNat:=by
   by_cases h : a.toNat < b.toNat
   ·exact h
   ·rw [if_neg h] at h1; split at h1 <;> simp at h1
  have h2' : b.toNat < c.toNat:=by
   by_cases h : b.toNat < c.toNat
   ·exact h
   ·rw [if_neg h] at h2; split at h2 <;> simp at h2
  rw [if_pos (by omega)]

theorem cmpBytes (a b : List UInt8) : Lib.compareBytes a b=lexC cmpU a b:=by
 induction a generalizing b with
 | nil=>cases b <;> rfl
 | cons x a ih =>
  cases b with
  | nil=>rfl
  | cons y b =>
   simp only [Lib.compareBytes,lexC,ih]
   unfold cmpU
   by_cases h1 : x < y
   ·simp [h1]
   ·by_cases h2 : y < x
    ·simp [h1,h2]
    ·simp [h1,h2]

def cmpS (a b : ByteArray) : Int:=lexC cmpU a.data.toList b.data.toList
theorem ba_inj {a b : ByteArray} (h : a.data.toList=b.data.toList) : a=b:=ByteArray.ext (by simpa using h)
theorem cmpS_is : IsC cmpS:=by
 have h:=lexC_is cmpU_is
 exact ⟨fun a b=>h.rng _ _,fun a b=>h.anti _ _,fun a b=>⟨fun e=>ba_inj ((h.eq0 _ _).1 e),fun e=>by rw [e]; exact (h.eq0 _ _).2 rfl⟩,fun a b c=>h.trans _ _ _⟩

abbrev sEq (a b : ByteArray) : Bool:=a.toList == b.toList
abbrev sLt (a b : ByteArray) : Bool:=Op.bytesLess a.toList b.toList
theorem sEq_iff {a b : ByteArray} : sEq a b=true ↔ a=b:=by
 unfold sEq
 rw [ByteArray.toList_eq,ByteArray.toList_eq,beq_iff_eq]
 exact ⟨ba_inj,fun e=>by rw [e]⟩
theorem sEq_false {a b : ByteArray} : sEq a b=false ↔ a ≠ b:=by
 rw [← Bool.not_eq_true,ne_eq,sEq_iff]
theorem bytesLess_cmp : ∀ (a b : List UInt8),Op.bytesLess a b=decide (lexC cmpU a b=-1)
 | [],[]=>rfl
 | [],_ :: _=>rfl
 | _ :: _,[]=>rfl
 | x :: a,y :: b=>by
  simp only [Op.bytesLess,lexC,bytesLess_cmp a b]
  unfold cmpU
  by_cases h1 : x < y
  ·simp [h1]
  ·by_cases h2 : y < x
   ·have : x ≠ y:=fun e=>by subst e; exact h1 h2
    simp [h1,h2,this]
   ·have : x=y:=by
     rw [← UInt8.toNat_inj]
     rw [UInt8.lt_iff_toNat_lt] at h1 h2
     omega
    simp [this]
theorem sLt_cmp (a b : ByteArray) : sLt a b=decide (cmpS a b=-1):=by
 unfold sLt cmpS
 rw [ByteArray.toList_eq,ByteArray.toList_eq,bytesLess_cmp]
end Go.PL
/-
  Plain laws: labels and matchers. No program is in sight.
-/
namespace Go.PL
open Go Go.GK

structure Lb where
 name : ByteArray
 value : ByteArray
structure Mt where
 name : ByteArray
 op : Int
 value : ByteArray
instance : Inhabited Lb:=⟨⟨⟨#[]⟩,⟨#[]⟩⟩⟩
instance : Inhabited Mt:=⟨⟨⟨#[]⟩,0,⟨#[]⟩⟩⟩

def anyB (n : Nat) (p : Nat→Bool) : Bool:=(List.range n).any p
theorem anyB_true {n i : Nat} {p : Nat→Bool} (h : i < n) (hp : p i=true) : anyB n p=true:=List.any_eq_true.2 ⟨i,List.mem_range.2 h,hp⟩
theorem anyB_false {n : Nat} {p : Nat→Bool} (h : ∀ i,i < n→p i=false) : anyB n p=false:=by
 unfold anyB
 rw [List.any_eq_false]
 intro x hx
 rw [h x (List.mem_range.1 hx)]
 decide
theorem anyB_get {n : Nat} {p : Nat→Bool} (h : anyB n p=false) (i : Nat) (hi : i < n) : p i=false:=by
 cases hp : p i with
 | false=>rfl
 | true=>rw [anyB_true hi hp] at h; cases h
def letB (c : UInt8) : Bool:=decide (97≤c.toNat∧c.toNat≤122) || (decide (65≤c.toNat∧c.toNat≤90) || decide (c.toNat=95))
def digB (c : UInt8) : Bool:=decide (48≤c.toNat∧c.toNat≤57)
def nbad (s : ByteArray) (i : Nat) : Bool:=match s[i]? with
 | some c=>!letB c && (i == 0 || !digB c)
 | none=>false
def nameF (s : ByteArray) : Bool:=!anyB s.size (nbad s) && decide (1≤s.size∧s.size≤24)
def vbad (s : ByteArray) (i : Nat) : Bool:=match s[i]? with
 | some c=>decide (c.toNat < 32) || (decide (126 < c.toNat) || (decide (c.toNat=34) || decide (c.toNat=92)))
 | none=>false
def valueF (s : ByteArray) : Bool:=!anyB s.size (vbad s) && decide (s.size≤24)

def lbad (l : List Lb) (i : Nat) : Bool :=
 !nameF (l.getD i default).name || (!valueF (l.getD i default).value || (sEq (l.getD i default).value ⟨#[]⟩ || (decide (0 < i) && !sLt (l.getD (i - 1) default).name (l.getD i default).name)))
def rightF (l : List Lb) : Bool:=!anyB l.length (lbad l) && decide (1≤l.length∧l.length≤8)

def lgetF (l : List Lb) (n : ByteArray) : ByteArray:=match l with
 | []=>⟨#[]⟩
 | x :: r=>if sEq x.name n=true then x.value else lgetF r n

def cmpL1 (a b : Lb) : Int:=thenC cmpS cmpS (a.name,a.value) (b.name,b.value)
def cmpF (a b : List Lb) : Int:=lexC cmpL1 a b
theorem cmpL1_is : IsC cmpL1:=by
 have h:=thenC_is cmpS_is cmpS_is
 refine ⟨fun a b=>h.rng _ _,fun a b=>h.anti _ _,fun a b=>?_,fun a b c=>h.trans _ _ _⟩
 rw [cmpL1,h.eq0]
 obtain ⟨a1,a2⟩:=a
 obtain ⟨b1,b2⟩:=b
 simp
theorem cmpF_is : IsC cmpF:=lexC_is cmpL1_is

def bs (l : List UInt8) : ByteArray:=⟨l.toArray⟩
theorem data_bs (l : List UInt8) : (bs l).data.toList=l:=by simp [bs]
theorem size_data (s : ByteArray) : s.data.toList.length=s.size:=Array.length_toList

def onlyF (l : List Lb) (names : List ByteArray) : List Lb:=l.filter fun x=>names.any fun n=>sEq n x.name

def mbad (m : Mt) : Bool:=!nameF m.name || (!valueF m.value || !decide (0≤m.op∧m.op≤3))
def askedF (l : List Mt) : Bool:=!anyB l.length (fun i=>mbad (l.getD i default)) && decide (l.length≤8)
def prefF (s p : ByteArray) : Bool:=decide (p.size≤s.size) && sEq (s.extract 0 p.size) p
def loneF (l : List Lb) (m : Mt) : Bool :=
 if m.op=0 then sEq (lgetF l m.name) m.value else if m.op=1 then !sEq (lgetF l m.name) m.value else if m.op=2 then prefF (lgetF l m.name) m.value else !prefF (lgetF l m.name) m.value
def allF (l : List Lb) (m : List Mt) : Bool:=m.all (loneF l)

theorem data_take (s : ByteArray) (n : Nat) : (s.extract 0 n).data.toList=s.data.toList.take n:=by
 rw [ByteArray.data_extract,Array.toList_extract]
 rfl
end Go.PL
