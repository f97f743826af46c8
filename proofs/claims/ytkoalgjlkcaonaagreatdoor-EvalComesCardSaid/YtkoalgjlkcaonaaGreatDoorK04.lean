/-
  The ghost machine: weakening, loops.
-/
import Derived.Test.YtkoalgjlkcaonaaGreatDoorK03
import Derived.Deep.LoopGhost
import Derived.OrdersHeld
import Derived.Deep.Slices
import Derived.ProofKit
import Derived.ChangeSame
import Derived.ChangeOld
import Derived.OpenShut
set_option linter.unusedSimpArgs false
namespace Go.GK
open Go.RowKit

theorem and5 {a b c d e : Bool} (h : (a && b && c && d && e)=true) : a=true∧b=true∧c=true∧d=true∧e=true:=by
 cases a <;> cases b <;> cases c <;> cases d <;> cases e <;> simp_all

theorem blt_lt {a b : Nat} (h : Nat.blt a b=true) : a < b:=by rw [Nat.blt_eq] at h; exact h

def Hid.via (H : Hid) (f : Nat→Nat) (n : Nat) : Hid:={ ro:=H.ro,bl:=fun i=>H.bl (f i),sv:=fun i=>H.sv (f i),n:=n }

theorem renL_get (f : Nat→Nat) : ∀ (l : List GV) (j : Nat),(renL f l)[j]?=(l[j]?).map (ren f)
 | [],j=>by simp [renL]
 | g :: r,0=>by simp [renL]
 | g :: r,j + 1=>by simp [renL,renL_get f r j]
theorem renL_len (f : Nat→Nat) : ∀ (l : List GV),(renL f l).length=l.length
 | []=>rfl
 | _ :: r=>by simp [renL,renL_len f r]

mutual
theorem ren_back {H : Hid} {f : Nat→Nat} {n : Nat} : ∀ {g : GV} {u : Value},Is H (ren f g) u→idb n g=true→Is (H.via f n) g u
 | .v x,u,h,_=>by have:=h.inv_v; subst this; exact .ro (.v _)
 | .b c,u,h,_=>by have:=h.inv_b; subst this; exact .ro (.b _)
 | .p id off,u,h,hb=>by
  obtain ⟨rfl,_⟩:=h.inv_p
  simp only [idb] at hb
  exact Is.p (H:=H.via f n) (blt_lt hb)
 | .e id sz i off,u,h,hb=>by
  obtain ⟨g,n',c,rfl,hs,_⟩:=h.inv_e
  simp only [idb] at hb
  exact Is.e (H:=H.via f n) (blt_lt hb) hs
 | .o id,u,h,hb=>by
  simp only [ren] at h
  cases h with
  | ro h=>cases h
  | o hid hs h1=>simp only [idb] at hb; exact Is.o (H:=H.via f n) (blt_lt hb) hs h1
 | .r cs,u,h,_=>by simp only [ren] at h; cases h with | ro h=>exact .ro h
 | .sl sz rows,u,h,_=>by simp only [ren] at h; cases h with | ro h=>exact .ro h
 | .agg cs,u,h,hb=>by
  simp only [ren] at h
  simp only [idb] at hb
  obtain ⟨us,rfl,hl,hi⟩:=h.inv_agg
  exact .agg (by rw [← hl,renL_len]) (renL_back cs (fun j g hj=>hi j g hj) hb)
 | .tup cs,u,h,hb=>by
  simp only [ren] at h
  simp only [idb] at hb
  obtain ⟨us,rfl,hl,hi⟩:=h.inv_tup
  exact .tup (by rw [← hl,renL_len]) (renL_back cs (fun j g hj=>hi j g hj) hb)
 | .fn fv aas cs,u,h,hb=>by
  simp only [ren] at h
  simp only [idb,Bool.and_eq_true] at hb
  obtain ⟨us,vs,rfl,hl,hi,hl',hi'⟩:=h.inv_fn
  exact .fn (by rw [← hl,renL_len]) (renL_back aas (fun j g hj=>hi j g hj) hb.1) (by rw [← hl',renL_len]) (renL_back cs (fun j g hj=>hi' j g hj) hb.2)
 | .ifc t x,u,h,hb=>by
  simp only [ren] at h
  simp only [idb] at hb
  obtain ⟨v,rfl,hi⟩:=h.inv_ifc
  exact .ifc (ren_back hi hb)
theorem renL_back {H : Hid} {f : Nat→Nat} {n : Nat} {F : Nat→Value} : ∀ (l : List GV),(∀ (j : Nat) (g : GV),(renL f l)[j]?=some g→Is H g (F j))→idbL n l=true→∀ (j : Nat) (g : GV),l[j]?=some g→Is (H.via f n) g (F j)
 | [],_,_,j,g,hj=>by simp at hj
 | x :: r,h,hb,0,g,hj=>by
  simp [idbL] at hb
  simp at hj
  subst hj
  exact ren_back (h 0 _ (by simp [renL])) hb.1
 | x :: r,h,hb,j + 1,g,hj=>by
  simp [idbL] at hb
  exact renL_back (F:=fun j=>F (j + 1)) r (fun j g hj=>h (j + 1) g (by simpa [renL] using hj)) hb.2 j g (by simpa using hj)
end

theorem Is.ren {H H' : Hid} {f : Nat→Nat} (hro : ∀ b o,H.ro b=some o→H'.ro b=some o) (hf : ∀ i,i < H.n→f i < H'.n∧H'.bl (f i)=H.bl i∧H'.sv (f i)=H.sv i) {g : GV} {u : Value} (h : Is H g u) : Is H' (GK.ren f g) u:=by
 have hL : ∀ {cs : List GV} {us : Array Value},(∀ (j : Nat) (g : GV),cs[j]?=some g→Is H' (GK.ren f g) (us.getD j undef))→∀ (j : Nat) (g : GV),(renL f cs)[j]?=some g→Is H' g (us.getD j undef):=by
  intro cs us hh j g hj
  rw [renL_get] at hj
  cases hc : cs[j]? with
  | none=>rw [hc] at hj; cases hj
  | some x=>rw [hc] at hj; simp at hj; subst hj; exact hh j x hc
 induction h with
 | ro hr =>
  have hR : ∀ {g : GV} {u : Value},IsR H.ro g u→Is H' (GK.ren f g) u:=by
   intro g u hr
   induction hr with
   | v x=>exact .ro (.v x)
   | b c=>exact .ro (.b c)
   | r us h1 h2 _=>exact .ro ((IsR.r us h1 h2).mono hro)
   | slnil=>exact .ro .slnil
   | sl us h0 hc hm h1 h2 h3 _=>exact .ro ((IsR.sl us h0 hc hm h1 h2 h3).mono hro)
   | agg hl _ ih=>exact .agg (by rw [renL_len]; exact hl) (hL ih)
   | tup hl _ ih=>exact .tup (by rw [renL_len]; exact hl) (hL ih)
   | fn hl _ hl' _ ih ih'=>exact .fn (by rw [renL_len]; exact hl) (hL ih) (by rw [renL_len]; exact hl') (hL ih')
   | ifc _ ih=>exact .ifc ih
  exact hR hr
 | p hid =>
  obtain ⟨h1,h2,_⟩:=hf _ hid
  rw [← h2]
  exact .p h1
 | e hid hs =>
  obtain ⟨h1,_,h3⟩:=hf _ hid
  exact .e h1 (h3.trans hs)
 | o hid hs how =>
  obtain ⟨h1,_,h3⟩:=hf _ hid
  exact .o h1 (h3.trans hs) how
 | agg hl _ ih=>exact .agg (by rw [renL_len]; exact hl) (hL ih)
 | tup hl _ ih=>exact .tup (by rw [renL_len]; exact hl) (hL ih)
 | fn hl _ hl' _ ih ih'=>exact .fn (by rw [renL_len]; exact hl) (hL ih) (by rw [renL_len]; exact hl') (hL ih')
 | ifc _ ih=>exact .ifc ih

theorem memB_mem {x : Nat} : ∀ {l : List Nat},memB x l=true ↔ x ∈ l
 | []=>by simp [memB]
 | y :: r=>by
  simp only [memB,Bool.or_eq_true,List.mem_cons,memB_mem (l:=r)]
  constructor
  ·rintro (h | h)
   ·exact .inl (beq_eq h)
   ·exact .inr h
  ·rintro (h | h)
   ·subst h; exact .inl (by simp)
   ·exact .inr h
theorem distB_nodup : ∀ {l : List Nat},distB l=true→l.Nodup
 | [],_=>List.nodup_nil
 | x :: r,h=>by
  simp only [distB,Bool.and_eq_true,Bool.not_eq_true'] at h
  refine List.nodup_cons.2 ⟨fun hm=>?_,distB_nodup h.2⟩
  rw [memB_mem.2 hm] at h
  cases h.1
theorem fixB_fix {f : Nat→Nat} : ∀ {n : Nat},fixB f n=true→∀ i,i < n→f i=i
 | 0,_,i,hi=>by omega
 | n + 1,h,i,hi=>by
  simp only [fixB,Bool.and_eq_true] at h
  rcases Nat.lt_succ_iff_lt_or_eq.1 hi with h1 | h1
  ·exact fixB_fix h.2 i h1
  ·subst h1; exact beq_eq h.1

theorem blks_apart {H : Hid} {σ : Heap} (hn : (blks H σ).Nodup) {x y : Nat × Res} (hx : x ∈ σ) (hy : y ∈ σ) (hne : x.1 ≠ y.1) : ∀ b ∈ blocks H x,b ∉ blocks H y:=by
 induction σ with
 | nil=>cases hx
 | cons z r ih =>
  rw [blks_cons] at hn
  have h1:=List.nodup_append.1 hn
  intro b hbx hby
  rcases List.mem_cons.1 hx with rfl | hx'
  ·rcases List.mem_cons.1 hy with rfl | hy'
   ·exact hne rfl
   ·exact h1.2.2 b hbx b (List.mem_flatMap.2 ⟨y,hy',hby⟩) rfl
  ·rcases List.mem_cons.1 hy with rfl | hy'
   ·exact h1.2.2 b hby b (List.mem_flatMap.2 ⟨x,hx',hbx⟩) rfl
   ·exact ih h1.2.1 hx' hy' b hbx hby

theorem blocks_nodup {H : Hid} {σ : Heap} (hn : (blks H σ).Nodup) {x : Nat × Res} (hx : x ∈ σ) : (blocks H x).Nodup:=by
 induction σ with
 | nil=>cases hx
 | cons z r ih =>
  rw [blks_cons] at hn
  have h1:=List.nodup_append.1 hn
  rcases List.mem_cons.1 hx with rfl | hx
  ·exact h1.1
  ·exact ih h1.2.1 hx

theorem esIs_back {H : Hid} {f : Nat→Nat} {n : Nat} : ∀ {es : List (Value × GV)} {l : List MapEntry},esIs H (renM f es) l→idbM n es=true→esIs (H.via f n) es l
 | [],[],_,_=>trivial
 | (k,g) :: r,e :: s,h,hb=>by
  simp only [idbM,Bool.and_eq_true] at hb
  exact ⟨h.1,ren_back h.2.1 hb.1,esIs_back (es:=r) h.2.2 hb.2⟩
 | [],_ :: _,h,_=>h.elim
 | _ :: _,[],h,_=>h.elim
theorem MapOk.back {H : Hid} {f : Nat→Nat} {n : Nat} {kd : Option IntKind} {es : List (Value × GV)} {arr : Array MapEntry} {clock : Nat} (h : MapOk H kd (renM f es) arr clock) (hb : idbM n es=true) : MapOk (H.via f n) kd es arr clock :=
 ⟨esIs_back h.is hb,h.sorts,h.st⟩

theorem Sat.part {H : Hid} {σ : Heap} {w : World} (h : Sat H σ w) {f : Nat→Nat} {n : Nat} : ∀ {τ : Heap},leσ f τ σ→idbH n τ=true→distB (hids f τ)=true →
  Sat (H.via f n) τ w∧(∀ b ∈ blks (H.via f n) τ,∃ x ∈ σ,x.1 ∈ hids f τ∧b ∈ blocks H x)
 | [],_,_,_=>⟨⟨h.ro,by simp,by simp [blks],by simp [blks],by simp⟩,by simp [blks]⟩
 | (id,x) :: r,hl,hb,hd=>by
  simp only [leσ] at hl
  simp only [idbH,Bool.and_eq_true] at hb
  have hnd:=distB_nodup hd
  simp only [hids] at hnd hd
  simp only [distB,Bool.and_eq_true] at hd
  obtain ⟨ih,ihb⟩:=Sat.part h hl.2 hb.2 hd.2
  have hmem:=hlook_mem hl.1
  have hh:=h.holds _ hmem
  have hbl : blocks (H.via f n) (id,x)=blocks H (f id,renR f x):=by cases x <;> rfl
  have hid:=blt_lt hb.1.1
  have hx : GK.holds (H.via f n) w (id,x):=by
   cases x with
   | blk ty cs =>
    obtain ⟨us,hw,hlen,hi⟩:=hh
    refine ⟨us,hw,by rw [← hlen,renL_len],?_⟩
    exact renL_back cs hi (by simpa [idbR] using hb.1.2)
   | row ty sz rows=>exact hh
   | ob o=>exact hh
   | ln sz n=>exact hh
   | sub i sz lo n =>
    obtain ⟨hi,r⟩:=hh
    exact ⟨blt_lt hb.1.2,r⟩
   | mp kd es =>
    obtain ⟨b,arr,clock,h1,h2,h3⟩:=hh
    exact ⟨b,arr,clock,h1,h2,h3.back hb.1.2⟩
   | mr kd es left cur =>
    obtain ⟨b,arr,clock,seen,h1,h2,h3,h4,h5⟩:=hh
    exact ⟨b,arr,clock,seen,h1,h2,h3,h4.back hb.1.2,h5⟩
   | me kd es k st =>
    obtain ⟨_,b,arr,clock,h1,h2,h3,h4⟩:=hh
    have hb2:=hb.1.2
    simp only [idbR,Bool.and_eq_true] at hb2
    exact ⟨blt_lt hb2.1,b,arr,clock,h1,h2,h3.back hb2.2,h4⟩
   | ab A=>exact hh
   | mre kd es left cur k st =>
    obtain ⟨_,b,arr,clock,seen,h1,h2,h3,h4,h5⟩:=hh
    have hb2:=hb.1.2
    simp only [idbR,Bool.and_eq_true] at hb2
    exact ⟨blt_lt hb2.1,b,arr,clock,seen,h1,h2,h3,h4.back hb2.2,h5⟩
   | itr m =>
    obtain ⟨_,h2,h3⟩:=hh
    exact ⟨blt_lt hb.1.2,h2,h3⟩
  have hnotin : f id ∉ hids f r:=(List.nodup_cons.1 hnd).1
  refine ⟨⟨h.ro,fun y hy=>?_,?_,fun b hbm=>?_,fun y hy=>?_⟩,fun b hbm=>?_⟩
  ·rcases List.mem_cons.1 hy with rfl | hy
   ·exact hx
   ·exact ih.holds y hy
  ·rw [blks_cons]
   refine List.nodup_append.2 ⟨by rw [hbl]; exact blocks_nodup h.nodup hmem,ih.nodup,fun b hb1 c hc e=>?_⟩
   subst e
   rw [hbl] at hb1
   obtain ⟨y,hy,hyi,hby⟩:=ihb b hc
   exact blks_apart h.nodup hmem hy (fun e=>hnotin (by rw [show f id=y.1 from e]; exact hyi)) b hb1 hby
  ·rw [blks_cons] at hbm
   rcases List.mem_append.1 hbm with h1 | h1
   ·rw [hbl] at h1
    exact h.free b (List.mem_flatMap.2 ⟨_,hmem,h1⟩)
   ·exact ih.free b h1
  ·rcases List.mem_cons.1 hy with rfl | hy
   ·exact hid
   ·exact ih.ids y hy
  ·rw [blks_cons] at hbm
   rcases List.mem_append.1 hbm with h1 | h1
   ·rw [hbl] at h1
    exact ⟨_,hmem,by simp [hids],h1⟩
   ·obtain ⟨y,hy,hyi,hby⟩:=ihb b h1
    exact ⟨y,hy,by simp [hids,hyi],hby⟩

theorem leρ_env {H : Hid} {f : Nat→Nat} {n : Nat} {ρ : Env} {a : Act} (h : EnvOk H ρ a) : ∀ {ρI : Env},leρ f ρI ρ→idbE n ρI=true→EnvOk (H.via f n) ρI a
 | [],_,_=>fun t g hl=>by simp [look] at hl
 | (s,g) :: r,hl,hb=>by
  simp only [leρ] at hl
  simp only [idbE,Bool.and_eq_true] at hb
  have ih:=leρ_env h hl.2 hb.2
  intro t g' hg'
  unfold look at hg'
  cases hbb : Nat.beq s t with
  | true =>
   rw [hbb] at hg'
   have:=beq_eq hbb
   subst this
   simp at hg'
   subst hg'
   exact ren_back (h s _ hl.1) hb.1
  | false=>rw [hbb] at hg'; exact ih t g' (by simpa using hg')

section
variable {cx : Cx} {T : Post}

theorem weaken {H : Hid} {a : Act} {w : World} {f : Nat→Nat} {I s : St} (hg : GlOk cx.pg H) (hs : Sim cx H s w) (ha : ActOk cx H s.ρ a) (hl : Le cx.n0 f I s) : ∃ H',GlOk cx.pg H'∧Sim cx H' I w∧ActOk cx H' I.ρ a:=by
 obtain ⟨h1,h2,h3,h4,h5⟩:=and5 hl.chk
 obtain ⟨hsat,hbl⟩:=hs.sat.part hl.σ h2 h3
 have hfix:=fixB_fix h4
 have hn:=Nat.le_of_ble_eq_true h5
 refine ⟨H.via f I.n,⟨hg.gl,hg.ex⟩,⟨rfl,hsat,?_⟩,⟨leρ_env ha.env hl.ρ h1,ha.size,ha.defers⟩⟩
 have hfr:=hs.fr
 refine ⟨hfr.os,hfr.tape,hfr.output,hfr.size,hfr.keep,fun b hb=>?_,hfr.fro,⟨by rw [cx.h0]; exact hn,hfr.le.ro,fun i hi=>?_,fun i hi=>?_⟩⟩
 ·obtain ⟨x,hx,_,hbx⟩:=hbl b hb
  exact hfr.own b (List.mem_flatMap.2 ⟨x,hx,hbx⟩)
 ·show H.bl (f i)=_
  rw [hfix i (by rw [← cx.h0]; exact hi)]
  exact hfr.le.bl i hi
 ·show H.sv (f i)=_
  rw [hfix i (by rw [← cx.h0]; exact hi)]
  exact hfr.le.sv i hi

theorem JK.weaken {k : List It} {s : St} (f : Nat→Nat) (I : St) (hl : Le cx.n0 f I s) (h : JK cx T k I) : JK cx T k s:=fun H a w hg hs ha=>by
 obtain ⟨H',hg',hs',ha'⟩:=GK.weaken hg hs ha hl
 exact h H' a w hg' hs' ha'

def outT (cx : Cx) (T : Post) (k : List It) (e : Exit) (s : St) : Prop :=
 match e with
 | .normal=>False
 | .exit id=>(match exitTo id k with | some k'=>JK cx T k' s | none=>T (.exit id) s)
 | e=>T e s

theorem cont_out {k : List It} {e : Exit} {H : Hid} {s : St} {a : Act} {w : World} (hg : GlOk cx.pg H) (hs : Sim cx H s w) (ha : ActOk cx H s.ρ a) (h : outT cx T k e s) : cont cx.pg.P (post cx T) k e a w:=by
 cases e with
 | normal=>exact h.elim
 | exit id =>
  rw [cont_exit]
  simp only [outT] at h
  cases hx : exitTo id k with
  | none=>rw [hx] at h; exact ⟨H,s,hs,ha,h⟩
  | some k'=>rw [hx] at h; exact h H a w hg hs ha
 | ret=>rw [cont_ret]; exact ⟨H,s,hs,ha,h⟩
 | panic ch=>rw [cont_panic]; exact ⟨H,s,hs,ha,h⟩
 | goto l =>
  have : ∀ (k : List It),cont cx.pg.P (post cx T) k (.goto l) a w=post cx T (.goto l) a w:=by
   intro k
   induction k with
   | nil=>rfl
   | cons x r ih=>cases x with
    | code c=>exact ih
    | blk i=>exact ih
    | ops q all rest=>cases q <;> exact ih
  rw [this]; exact ⟨H,s,hs,ha,h⟩
 | outgrown =>
  have : ∀ (k : List It),cont cx.pg.P (post cx T) k .outgrown a w=post cx T .outgrown a w:=by
   intro k
   induction k with
   | nil=>rfl
   | cons x r ih=>cases x with
    | code c=>exact ih
    | blk i=>exact ih
    | ops q all rest=>cases q <;> exact ih
  rw [this]; exact ⟨H,s,hs,ha,h⟩

def roundT {α : Type} (cx : Cx) (T : Post) (k : List It) (I : α→St) (pre : α→Prop) (m : α→Nat) (x : α) : Post:=fun e s =>
 match e with
 | .normal=>∃ (y : α) (f : Nat→Nat),Le cx.n0 f (I y) s∧pre y∧m y < m x
 | e=>outT cx T k e s

theorem JK.loop {α : Type} {c : Code} {k : List It} {s : St} (I : α→St) (pre : α→Prop) (m : α→Nat) (x0 : α) (f0 : Nat→Nat) (h0 : Le cx.n0 f0 (I x0) s) (hp : pre x0)
  (body : ∀ x,pre x→JK cx (roundT cx T k I pre m x) [.code c] (I x)) : JK cx T (.code (.loop c) :: k) s:=by
 intro H a w hg hs ha
 obtain ⟨H1,hg1,hs1,ha1⟩:=GK.weaken hg hs ha h0
 refine wp_loop_ghost (fun n a w=>∃ H x,GlOk cx.pg H∧Sim cx H (I x) w∧ActOk cx H (I x).ρ a∧pre x∧m x=n) (m x0) ⟨H1,x0,hg1,hs1,ha1,hp,rfl⟩ ?_
 rintro n a w ⟨H,x,hg,hs,ha,hpx,rfl⟩
 have hb:=body x hpx H a w hg hs ha
 have hgx : ∀ {H' : Hid},Hid.le cx.H0 H'→GlOk cx.pg H':=fun hle=>cx.g0.mono hle
 refine Code.wp_mono (fun e a' w' hq=>?_) hb
 obtain ⟨H',s',hs',ha',hT⟩:=hq
 cases e with
 | normal =>
  obtain ⟨y,f,hl,hpy,hm⟩:=hT
  obtain ⟨H2,hg2,hs2,ha2⟩:=GK.weaken (hgx hs'.fr.le) hs' ha' hl
  exact ⟨m y,hm,H2,y,hg2,hs2,ha2,hpy,rfl⟩
 | exit id=>exact cont_out (hgx hs'.fr.le) hs' ha' hT
 | goto l=>exact cont_out (hgx hs'.fr.le) hs' ha' hT
 | ret=>exact cont_out (hgx hs'.fr.le) hs' ha' hT
 | panic ch=>exact cont_out (hgx hs'.fr.le) hs' ha' hT
 | outgrown=>exact cont_out (hgx hs'.fr.le) hs' ha' hT
end
end Go.GK
/-
  The ghost machine: functions and calls.
-/
namespace Go.GK
open Go.RowKit

theorem getD_of_get? {a : Array Value} {i : Nat} {v : Value} (h : a[i]?=some v) : a.getD i undef=v:=by
 rw [Array.getD_eq_getD_getElem?,h]; rfl

section
variable {p : Pg} {H : Hid} {a : Act} {w : World} {s : St}

theorem resOne_run (hp : p.Ok) (hs : Sat H s.σ w) (ha : EnvOk H s.ρ a) {x : ResultVar} {g : GV} (h : resOne p s x=some g) :
  ∃ u,(match x with | .tmp t=>pure (a.tmps.getD t undef) | .cell c t=>do loadVar t (← asAddr (a.tmps.getD c undef)) : Sem Value).run p.P w=.ok u w∧Is H g u:=by
 cases x with
 | tmp t=>exact ⟨_,rfl,ha t g h⟩
 | cell c t =>
  simp only [resOne] at h
  split at h
  ·rename_i id off ti hx hti
   obtain ⟨hv,hid⟩:=(ha c _ hx).inv_p
   split at h
   ·rename_i ty cs hl
    obtain ⟨us,hw,hlen,his⟩:=hs.holds _ (hlook_mem hl)
    have e : ∀ j g,(cs.drop off)[j]?=some g→cs[off + j]?=some g:=fun j g hj=>by rwa [List.getElem?_drop] at hj
    have hg:=gives_load (p:=p) (H:=H) (σ:=s.σ) (a:=a) (w:=w) (x:=.tmp c) (cs:=cs.drop off) (us:=fun j=>us.getD (off + j) undef) (K:=fun g'=>g'=g) (hp.tt _ _ hti) hv
     (fun w' hb j g hj=>by have hlt:=(List.getElem?_eq_some_iff.1 (e j g hj)).1; exact blk_cell ((hb.blk hl).trans hw) (by omega)) (fun j g hj=>his _ _ (e j g hj)) (by
      cases hag : ti.ag with
      | true =>
       rw [hag] at h
       simp only [cond_true] at h
       cases hb : Nat.ble (off + ti.sz) cs.length with
       | false=>rw [hb] at h; cases h
       | true =>
        rw [hb] at h
        have:=Nat.le_of_ble_eq_true hb
        simp only [cond_true,Option.some.injEq] at h
        exact ⟨by simp; omega,h⟩
      | false =>
       rw [hag] at h
       simp only [cond_false] at h ⊢
       rw [List.getElem?_drop,Nat.add_zero,h]
       rfl)
    obtain ⟨u,g',hr,hi,rfl⟩:=hg
    refine ⟨u,?_,hi⟩
    have h1 := hr w (Agr.refl hs) { dst := none, op := .load t (.tmp c), type := 0, pos := "", after := #[], guard := none } rfl
    have hv' : a.tmps.getD c undef=.pointer (some ⟨H.bl id,off,none⟩):=hv
    simp only [execOp,Instr.loadAt,Act.eval,hv',Instr.sureAddr,Sem.run_bind,Sem.run_pure,Result.andThen_ok] at h1
    simp only [hv',asAddr,Sem.run_bind,Sem.run_pure,Result.andThen_ok]
    cases hl' : (loadVar t { block:=H.bl id,off:=off }).run p.P w with
    | ok v w'=>rw [hl'] at h1; simp at h1; rw [h1.1,h1.2]
    | halt hh w'=>rw [hl'] at h1; simp at h1
   ·cases h
  ·cases h

theorem resAll_run (hp : p.Ok) (hs : Sat H s.σ w) (ha : EnvOk H s.ρ a) : ∀ {rs : List ResultVar} {gs : List GV},resAll p s rs=some gs →
  ∃ us : List Value,(rs.mapM (fun | .tmp t=>pure (a.tmps.getD t undef) | .cell c t=>do loadVar t (← asAddr (a.tmps.getD c undef)) : ResultVar→Sem Value)).run p.P w=.ok us w∧Cells H gs us.toArray
 | [],gs,h=>by simp only [resAll,Option.some.injEq] at h; subst h; exact ⟨[],rfl,rfl,by simp⟩
 | x :: r,gs,h=>by
  simp only [resAll] at h
  split at h
  ·rename_i g gs' h1 h2
   simp only [Option.some.injEq] at h
   subst h
   obtain ⟨u,hu,hi⟩:=resOne_run hp hs ha h1
   obtain ⟨us,hus,hl,hc⟩:=resAll_run hp hs ha h2
   refine ⟨u :: us,?_,by simp at hl ⊢; exact hl,fun j g' hj=>?_⟩
   ·rw [List.mapM_cons]
    simp only [Sem.run_bind]
    have hu':=hu
    cases x <;> simp only [] at hu' ⊢ <;> rw [hu'] <;> simp only [Result.andThen_ok,hus,Sem.run_pure]
   ·cases j with
    | zero=>simp at hj; subst hj; simpa using hi
    | succ j=>have:=hc j g' (by simpa using hj); simpa using this
  ·cases h

theorem argEnv_look {us : Array Value} : ∀ {args : List GV} {i : Nat},(∀ (j : Nat) (g : GV),args[j]?=some g→Is H g (us.getD (i + j) undef))→∀ t g,look (argEnv i args) t=some g→Is H g (us.getD t undef)∧t < i + args.length
 | [],i,_,t,g,h=>by simp [argEnv,look] at h
 | x :: r,i,hh,t,g,h=>by
  simp only [argEnv,look] at h
  cases hb : Nat.beq i t with
  | true =>
   rw [hb] at h
   have:=beq_eq hb
   subst this
   simp at h
   subst h
   exact ⟨hh 0 x rfl,by simp⟩
  | false =>
   rw [hb] at h
   have:=argEnv_look (args:=r) (i:=i + 1) (fun j g hj=>by have:=hh (j + 1) g (by simpa using hj); rwa [show i + (j + 1)=i + 1 + j by omega] at this) t g (by simpa using h)
   exact ⟨this.1,by have:=this.2; simp; omega⟩

theorem Fr.refl (H : Hid) (S : List Nat) (w : World) : Fr H S w H S w :=
 ⟨rfl,rfl,rfl,Nat.le_refl _,fun _ _ _=>rfl,fun _ hb=>.inl hb,fun _ h h'=>(h' h).elim,Hid.le.refl H⟩

theorem Ct.of_JK {f : FuncId} {fn : Func} {c : Code} {n0 N : Nat} {args : List GV} {σ : Heap} {Q : GV→Heap→Nat→Prop} (hp : p.Ok) (hf : p.P.funcs[f]?=some fn) (hb : fn.body=some c) (hN : fn.ntmps=N) (hl : Nat.ble args.length N=true) {rs : Array ResultVar} (hr : fn.results=rs)
  (h : ∀ (H0 : Hid) (S0 : List Nat) (w0 : World) (h0 : H0.n=n0) (g0 : GlOk p H0),JK ⟨p,N,n0,H0,S0,w0,h0,g0⟩ (retT p rs.toList Q) [.code c] ⟨argEnv 0 args,σ,n0⟩) : Ct p f n0 args σ Q:=by
 intro H us w hn hg hc hs
 have hl':=Nat.le_of_ble_eq_true hl
 have hus : us.size=args.length:=hc.1.symm
 refine calls_of_wp hf hb ?_
 have hJ:=h H (blks H σ) w hn hg H { tmps:=us++Array.replicate (fn.ntmps - us.size) undef,defers:=[] } w hg ⟨hn,hs,Fr.refl _ _ _⟩ ⟨fun t g hlk=>?_,by simp [hN,hus]; omega,rfl⟩
 ·refine Code.wp_mono (fun e a w' hq=>?_) hJ
  obtain ⟨H',s',hs',ha',hT⟩:=hq
  have key : (match resAll p s' rs.toList with | some gs=>Q (resG gs) s'.σ s'.n | none=>False)→a.defers=[]∧∃ v,(results fn a.tmps).run p.P w'=.ok v w'∧∃ u g H' σ',Ending.returned v=.returned u∧Is H' g u∧Sat H' σ' w'∧Fr H (blks H σ) w H' (blks H' σ') w'∧Q g σ' H'.n:=by
   intro hk
   cases hra : resAll p s' rs.toList with
   | none=>rw [hra] at hk; exact hk.elim
   | some gs =>
    rw [hra] at hk
    obtain ⟨vs,hvs,hcv⟩:=resAll_run hp hs'.sat ha'.env hra
    refine ⟨ha'.defers,_,?_,(if h : vs.toArray.size=1 then vs.toArray[0] else .tuple vs.toArray),resG gs,H',s'.σ,rfl,?_,hs'.sat,hs'.fr,by rw [hs'.n]; exact hk⟩
    ·have : (fn.results.mapM (fun | .tmp t=>pure (a.tmps.getD t undef) | .cell c t=>do loadVar t (← asAddr (a.tmps.getD c undef)) : ResultVar→Sem Value)).run p.P w'=.ok vs.toArray w':=by
      rw [hr,Array.mapM_eq_mapM_toList,Sem.run_map,hvs]
      rfl
     have e : results fn a.tmps=(fn.results.mapM (fun | .tmp t=>pure (a.tmps.getD t undef) | .cell c t=>do loadVar t (← asAddr (a.tmps.getD c undef)) : ResultVar→Sem Value) >>= fun vs=>pure (if h : vs.size=1 then vs[0] else .tuple vs)):=rfl
     rw [e,Sem.run_bind,this]
     rfl
    ·have hlen:=hcv.1
     simp at hlen
     by_cases h1 : vs.toArray.size=1
     ·rw [dif_pos h1]
      match gs,hcv,hlen with
      | [g],hcv,_ =>
       have:=hcv.2 0 g rfl
       simp at h1
       match vs,h1 with
       | [v],_=>simpa [resG] using this
      | [],_,hlen=>simp at h1 hlen; omega
      | _ :: _ :: _,_,hlen=>simp at h1 hlen; omega
     ·rw [dif_neg h1]
      match gs,hcv,hlen with
      | [g],hcv,hlen=>simp at h1 hlen; omega
      | [],hcv,_=>exact .tup hcv.1 hcv.2
      | _ :: _ :: _,hcv,_=>exact .tup hcv.1 hcv.2
  cases e with
  | normal=>exact key hT
  | ret=>exact key hT
  | exit id=>exact hT.elim
  | goto l=>exact hT.elim
  | panic ch=>exact hT.elim
  | outgrown=>exact hT.elim
 ·obtain ⟨h1,h2⟩:=argEnv_look (H:=H) (us:=us) (args:=args) (i:=0) (fun j g hj=>by simpa using hc.2 j g hj) t g hlk
  have : (us++Array.replicate (fn.ntmps - us.size) undef).getD t undef=us.getD t undef:=by
   have hlt : t < us.size:=by omega
   simp only [Array.getD_eq_getD_getElem?]
   rw [Array.getElem?_append_left hlt]
  rw [this]
  exact h1
end
end Go.GK
/-
  The ghost machine: calls.
-/
namespace Go.GK
open Go.RowKit

mutual
theorem ren_id : ∀ g : GV,ren id g=g
 | .v _ | .b _ | .p _ _ | .e _ _ _ _ | .o _ | .r _ | .sl _ _=>rfl
 | .agg cs=>by simp only [ren,renL_id cs]
 | .tup cs=>by simp only [ren,renL_id cs]
 | .fn f aas cs=>by simp only [ren,renL_id aas,renL_id cs]
 | .ifc t x=>by simp only [ren,ren_id x]
theorem renL_id : ∀ l : List GV,renL id l=l
 | []=>rfl
 | g :: r=>by simp only [renL,ren_id g,renL_id r]
end

theorem gdOk_wanted {H : Hid} {all : List Oper} {ρ : Env} {o : Oper} {a : Act} (ha : EnvOk H ρ a) (h : gdOk all ρ o.guard=true) : Region.wanted o (yielded all.toArray a.tmps)=true:=by
 unfold gdOk at h
 split at h
 ·rename_i hg; exact wanted_none hg
 ·rename_i j want hg
  split at h
  ·rename_i oj hj
   split at h
   ·rename_i d hd
    split at h
    ·rename_i t hl
     rw [wanted_at hg hj hd (ha d _ hl).inv_v]
     exact h
    ·rename_i t hl
     rw [wanted_at hg hj hd (ha d _ hl).inv_b]
     exact h
    ·cases h
   ·cases h
  ·cases h

theorem gdNo_wanted {H : Hid} {all : List Oper} {ρ : Env} {o : Oper} {a : Act} (ha : EnvOk H ρ a) (h : gdNo all ρ o.guard=true) : Region.wanted o (yielded all.toArray a.tmps)=false:=by
 unfold gdNo at h
 split at h
 ·cases h
 ·rename_i j want hg
  split at h
  ·rename_i oj hj
   split at h
   ·rename_i d hd
    split at h
    ·rename_i t hl
     rw [wanted_at hg hj hd (ha d _ hl).inv_v]
     revert h; cases t <;> cases want <;> simp
    ·rename_i t hl
     rw [wanted_at hg hj hd (ha d _ hl).inv_b]
     revert h; cases t <;> cases want <;> simp
    ·rename_i vs hl
     exact wanted_not hg hj hd (ha d _ hl).inv_v
    ·cases h
   ·cases h
  ·cases h

theorem hrest_mem {is : List Nat} : ∀ {σ : Heap} {x : Nat × Res},x ∈ hrest is σ→x ∈ σ∧x.1 ∉ is
 | [],x,h=>by simp [hrest] at h
 | (id,y) :: r,x,h=>by
  unfold hrest at h
  cases hb : memB id is with
  | true=>rw [hb] at h; have:=hrest_mem (σ:=r) (by simpa using h); exact ⟨List.mem_cons_of_mem _ this.1,this.2⟩
  | false =>
   rw [hb] at h
   rcases List.mem_cons.1 (by simpa using h) with rfl | h
   ·exact ⟨List.mem_cons_self,fun hm=>by rw [memB_mem.2 hm] at hb; cases hb⟩
   ·have:=hrest_mem h
    exact ⟨List.mem_cons_of_mem _ this.1,this.2⟩

theorem hrest_nodup {H : Hid} {is : List Nat} : ∀ {σ : Heap},(blks H σ).Nodup→(blks H (hrest is σ)).Nodup
 | [],_=>by simp [hrest,blks]
 | (id,y) :: r,h=>by
  rw [blks_cons] at h
  have h1:=List.nodup_append.1 h
  unfold hrest
  cases hb : memB id is with
  | true=>exact hrest_nodup h1.2.1
  | false =>
   simp only [cond_false]
   rw [blks_cons]
   refine List.nodup_append.2 ⟨h1.1,hrest_nodup h1.2.1,fun b hb1 c hc e=>?_⟩
   obtain ⟨x,hx,hbx⟩:=List.mem_flatMap.1 hc
   exact h1.2.2 b hb1 c (List.mem_flatMap.2 ⟨x,(hrest_mem hx).1,hbx⟩) e

theorem cells_app {H : Hid} {cs gs : List GV} {us vs : Array Value} (h : Cells H cs us) (k : Cells H gs vs) : Cells H (cs++gs) (us++vs):=by
 refine ⟨by simp [h.1,k.1],fun j g hj=>?_⟩
 simp only [Array.getD_eq_getD_getElem?]
 by_cases hlt : j < cs.length
 ·rw [List.getElem?_append_left hlt] at hj
  rw [Array.getElem?_append_left (by rw [← h.1]; exact hlt)]
  have:=h.2 j g hj
  rwa [Array.getD_eq_getD_getElem?] at this
 ·rw [List.getElem?_append_right (by omega)] at hj
  rw [Array.getElem?_append_right (by rw [← h.1]; omega)]
  have:=k.2 _ g hj
  rwa [Array.getD_eq_getD_getElem?,h.1] at this

theorem evs_cells {p : Pg} {H : Hid} (hg : GlOk p H) {ρ : Env} {a : Act} (h : EnvOk H ρ a) {xs : Array Operand} {gs : List GV} (he : evs p ρ xs.toList=some gs) : Cells H gs (xs.map a.eval):=by
 obtain ⟨hl,hi⟩:=evs_is hg h he
 refine ⟨by simpa using hl,fun j g hj=>?_⟩
 obtain ⟨x,hx,his⟩:=hi j g hj
 have : (xs.map a.eval).getD j undef=a.eval x:=by
  have hx' : xs[j]?=some x:=by simpa using hx
  rw [Array.getD_eq_getD_getElem?,Array.getElem?_map,hx']
  rfl
 rw [this]
 exact his

theorem cells_back {H : Hid} {f : Nat→Nat} {n : Nat} {cs : List GV} {us : Array Value} (h : Cells H (renL f cs) us) (hb : idbL n cs=true) : Cells (H.via f n) cs us :=
 ⟨by rw [← h.1,renL_len],renL_back cs h.2 hb⟩

theorem mem_renH {f : Nat→Nat} : ∀ {σ : Heap} {x : Nat × Res},x ∈ renH f σ→∃ y ∈ σ,x=(f y.1,renR f y.2)
 | [],x,h=>by simp [renH] at h
 | (id,r) :: t,x,h=>by
  simp only [renH,List.mem_cons] at h
  rcases h with rfl | h
  ·exact ⟨_,List.mem_cons_self,rfl⟩
  ·obtain ⟨y,hy,e⟩:=mem_renH h
   exact ⟨y,List.mem_cons_of_mem _ hy,e⟩

theorem blks_renH {H H' : Hid} {f : Nat→Nat} (hbl : ∀ i,i < H.n→H'.bl (f i)=H.bl i∧H'.sv (f i)=H.sv i) : ∀ {σ : Heap},(∀ x ∈ σ,x.1 < H.n)→blks H' (renH f σ)=blks H σ
 | [],_=>rfl
 | (id,r) :: t,h=>by
  simp only [renH]
  rw [blks_cons,blks_cons,blks_renH hbl (fun x hx=>h x (List.mem_cons_of_mem _ hx))]
  have:=hbl id (h _ List.mem_cons_self)
  congr 1
  cases r <;> simp [blocks,renR,this.1,this.2]

theorem esIs_ren {H H' : Hid} {f : Nat→Nat} (hro : ∀ b o,H.ro b=some o→H'.ro b=some o) (hf : ∀ i,i < H.n→f i < H'.n∧H'.bl (f i)=H.bl i∧H'.sv (f i)=H.sv i) : ∀ {es : List (Value × GV)} {l : List MapEntry},esIs H es l→esIs H' (renM f es) l
 | [],[],_=>trivial
 | (_,_) :: r,_ :: _,h=>⟨h.1,h.2.1.ren hro hf,esIs_ren hro hf (es:=r) h.2.2⟩
 | [],_ :: _,h=>h.elim
 | _ :: _,[],h=>h.elim
theorem MapOk.ren {H H' : Hid} {f : Nat→Nat} (hro : ∀ b o,H.ro b=some o→H'.ro b=some o) (hf : ∀ i,i < H.n→f i < H'.n∧H'.bl (f i)=H.bl i∧H'.sv (f i)=H.sv i) {kd : Option IntKind} {es : List (Value × GV)} {arr : Array MapEntry} {clock : Nat} (h : MapOk H kd es arr clock) : MapOk H' kd (renM f es) arr clock :=
 ⟨esIs_ren hro hf h.is,h.sorts,h.st⟩
theorem holds_ren {H H' : Hid} {w : World} {f : Nat→Nat} (hro : ∀ b o,H.ro b=some o→H'.ro b=some o) (hf : ∀ i,i < H.n→f i < H'.n∧H'.bl (f i)=H.bl i∧H'.sv (f i)=H.sv i) {x : Nat × Res} (hx : x.1 < H.n) (h : holds H w x) : holds H' w (f x.1,renR f x.2):=by
 obtain ⟨id,r⟩:=x
 obtain ⟨_,h2,h3⟩:=hf id hx
 cases r with
 | blk ty cs =>
  obtain ⟨us,hw,hl,hi⟩:=h
  refine ⟨us,by simp only; rw [h2]; exact hw,by rw [renL_len]; exact hl,fun j g hj=>?_⟩
  rw [renL_get] at hj
  cases hc : cs[j]? with
  | none=>rw [hc] at hj; cases hj
  | some y=>rw [hc] at hj; simp at hj; subst hj; exact (hi j y hc).ren hro hf
 | row ty sz rows =>
  obtain ⟨xs,h4,h5⟩:=h
  exact ⟨xs,by simp only; rw [h3]; exact h4,h5.mono hro⟩
 | ob o=>exact (by show w.heap[H'.bl (f id)]?=some o; rw [h2]; exact h)
 | ln sz n=>obtain ⟨A,c,h4,h5⟩:=h; exact ⟨A,c,by simp only; rw [h3]; exact h4,h5⟩
 | mp kd es =>
  obtain ⟨b,arr,clock,h4,h5,h6⟩:=h
  exact ⟨b,arr,clock,by simp only; rw [h3]; exact h4,h5,MapOk.ren hro hf h6⟩
 | mr kd es left cur =>
  obtain ⟨b,arr,clock,seen,h4,hne,h5,h6,h7,h8⟩:=h
  exact ⟨b,arr,clock,seen,by simp only; rw [h3]; exact h4,by simp only; rw [h2]; exact hne,h5,MapOk.ren hro hf h6,by simp only; rw [h2]; exact h7,h8⟩
 | me kd es k st =>
  obtain ⟨hi,b,arr,clock,h4,h5,h6,h7,e,he,h8,h9⟩:=h
  obtain ⟨g1,_,g3⟩:=hf st hi
  exact ⟨g1,b,arr,clock,by simp only; rw [h3]; exact h4,h5,MapOk.ren hro hf h6,h7,e,he,h8,by rw [g3]; exact h9⟩
 | ab A =>
  show A.P _ (H'.bl (f id)) (H'.sv (f id)) w
  rw [h2,h3]
  exact A.mono _ _ _ _ _ hro h
 | mre kd es left cur k st =>
  obtain ⟨hi,b,arr,clock,seen,h4,hne,h5,h6,h7,h8,h9,h10,e,he,h11,h12⟩:=h
  obtain ⟨g1,_,g3⟩:=hf st hi
  exact ⟨g1,b,arr,clock,seen,by simp only; rw [h3]; exact h4,by simp only; rw [h2]; exact hne,h5,MapOk.ren hro hf h6,by simp only; rw [h2]; exact h7,h8,h9,h10,e,he,h11,by rw [g3]; exact h12⟩
 | itr m =>
  obtain ⟨hi,h4,h5⟩:=h
  obtain ⟨g1,_,g3⟩:=hf m hi
  exact ⟨g1,by simp only; rw [h3,g3]; exact h4,by rw [g3]; exact h5⟩
 | sub i sz lo n =>
  obtain ⟨hi,A,c,h4,h5,h6,hz,h7⟩:=h
  obtain ⟨g1,_,g3⟩:=hf i hi
  refine ⟨g1,A,c,by simp only; rw [h3]; exact h4,h5,h6,hz,fun h0=>?_⟩
  obtain ⟨g,l',c',h8,h9⟩:=h7 h0
  exact ⟨g,l',c',by rw [g3]; exact h8,h9⟩

section
variable {cx : Cx} {T : Post}

theorem Sim.call {s : St} {H : Hid} {w w' : World} (hs : Sim cx H s w) {r : Nat→Nat} {n0 : Nat} {σc σ' : Heap} {H' : Hid} (hσ : leσ r σc s.σ) (hbH : idbH n0 σc=true) (hd : distB (hids r σc)=true) (hr : ∀ i,i < n0→r i < s.n)
  (hs' : Sat H' σ' w') (hfr : Fr (H.via r n0) (blks (H.via r n0) σc) w H' (blks H' σ') w') (ρ : Env) :
  ∃ H'',H.le H''∧(∀ g u,Is H' g u→Is H'' (ren (sh r n0 s.n) g) u)∧Sim cx H'' ⟨ρ,renH (sh r n0 s.n) σ'++hrest (hids r σc) s.σ,s.n + (H'.n - n0)⟩ w':=by
 obtain ⟨hpart,hpb⟩:=hs.sat.part hσ hbH hd
 have hle:=hfr.le
 have hn0 : n0≤H'.n:=hle.n
 have hHn:=hs.n
 let H'' : Hid:={ ro:=H'.ro,bl:=fun i=>if i < s.n then H.bl i else H'.bl (n0 + (i - s.n)),sv:=fun i=>if i < s.n then H.sv i else H'.sv (n0 + (i - s.n)),n:=s.n + (H'.n - n0) }
 have hleH : H.le H'':=⟨by show H.n≤s.n + _; omega,fun b o h=>hle.ro b o h,fun i hi=>by show (if i < s.n then _ else _)=_; rw [if_pos (by omega)],fun i hi=>by show (if i < s.n then _ else _)=_; rw [if_pos (by omega)]⟩
 have hf : ∀ i,i < H'.n→sh r n0 s.n i < H''.n∧H''.bl (sh r n0 s.n i)=H'.bl i∧H''.sv (sh r n0 s.n i)=H'.sv i:=by
  intro i hi
  unfold sh
  cases hb : Nat.blt i n0 with
  | true =>
   have hlt:=blt_lt hb
   have h1:=hr i hlt
   simp only [cond_true]
   refine ⟨by show r i < s.n + _; omega,?_,?_⟩
   ·show (if r i < s.n then H.bl (r i) else _)=_
    rw [if_pos h1]
    exact (hle.bl i hlt).symm
   ·show (if r i < s.n then H.sv (r i) else _)=_
    rw [if_pos h1]
    exact (hle.sv i hlt).symm
  | false =>
   have hge : n0≤i:=by
    rcases Nat.lt_or_ge i n0 with h | h
    ·rw [← Nat.blt_eq] at h; rw [h] at hb; cases hb
    ·exact h
   simp only [cond_false]
   refine ⟨by show s.n + (i - n0) < s.n + _; omega,?_,?_⟩
   ·show (if s.n + (i - n0) < s.n then _ else H'.bl (n0 + (s.n + (i - n0) - s.n)))=_
    rw [if_neg (by omega),show n0 + (s.n + (i - n0) - s.n)=i by omega]
   ·show (if s.n + (i - n0) < s.n then _ else H'.sv (n0 + (s.n + (i - n0) - s.n)))=_
    rw [if_neg (by omega),show n0 + (s.n + (i - n0) - s.n)=i by omega]
 have hro : ∀ b o,H'.ro b=some o→H''.ro b=some o:=fun _ _ h=>h
 have hblσ : blks H'' (renH (sh r n0 s.n) σ')=blks H' σ':=blks_renH (fun i hi=>(hf i hi).2) hs'.ids
 have hblr : blks H'' (hrest (hids r σc) s.σ)=blks H (hrest (hids r σc) s.σ):=blks_le hleH (fun x hx=>hs.sat.ids x (hrest_mem hx).1)
 -- what is left of the caller's own things lies apart from what the callee was given
 have hapart : ∀ b ∈ blks H (hrest (hids r σc) s.σ),b < w.heap.size∧b ∉ blks (H.via r n0) σc∧b ∈ blks H s.σ:=by
  intro b hb
  obtain ⟨x,hx,hbx⟩:=List.mem_flatMap.1 hb
  obtain ⟨hxσ,hxi⟩:=hrest_mem hx
  have hmem : b ∈ blks H s.σ:=List.mem_flatMap.2 ⟨x,hxσ,hbx⟩
  refine ⟨hs.sat.lt b hmem,fun hc=>?_,hmem⟩
  obtain ⟨y,hy,hyi,hby⟩:=hpb b hc
  exact blks_apart hs.sat.nodup hxσ hy (fun e=>hxi (by rw [e]; exact hyi)) b hbx hby
 have hsub : ∀ b ∈ blks (H.via r n0) σc,b ∈ blks H s.σ:=fun b hb=>by
  obtain ⟨y,hy,_,hby⟩:=hpb b hb
  exact List.mem_flatMap.2 ⟨y,hy,hby⟩
 have hcfr:=hs.fr
 refine ⟨H'',hleH,fun g u h=>h.ren hro hf,rfl,⟨hs'.ro,fun x hx=>?_,?_,fun b hb=>?_,fun x hx=>?_⟩,?_⟩
 ·rcases List.mem_append.1 hx with hx | hx
  ·obtain ⟨y,hy,rfl⟩:=mem_renH hx
   exact holds_ren hro hf (hs'.ids y hy) (hs'.holds y hy)
  ·obtain ⟨hxσ,_⟩:=hrest_mem hx
   refine holds_congr (w:=w) (fun b hb=>?_) (holds_le hleH (hs.sat.ids x hxσ) (hs.sat.holds x hxσ))
   rw [blocks_le hleH (hs.sat.ids x hxσ)] at hb
   obtain ⟨h1,h2,_⟩:=hapart b (List.mem_flatMap.2 ⟨x,hx,hb⟩)
   exact hfr.keep b h1 h2
 ·rw [blks_append,hblσ,hblr]
  refine List.nodup_append.2 ⟨hs'.nodup,hrest_nodup hs.sat.nodup,fun b hb c hc e=>?_⟩
  subst e
  obtain ⟨h1,h2,_⟩:=hapart b hc
  rcases hfr.own b hb with h | h
  ·exact h2 h
  ·omega
 ·rw [blks_append,hblσ,hblr] at hb
  rcases List.mem_append.1 hb with hb | hb
  ·exact hs'.free b hb
  ·obtain ⟨h1,h2,h3⟩:=hapart b hb
   show H'.ro b=none
   cases hrb : H'.ro b with
   | none=>rfl
   | some o =>
    rcases hfr.fro b (hs.sat.free b h3) (by rw [hrb]; simp) with h | h
    ·exact (h2 h).elim
    ·omega
 ·rcases List.mem_append.1 hx with hx | hx
  ·obtain ⟨y,hy,rfl⟩:=mem_renH hx
   exact (hf _ (hs'.ids y hy)).1
  ·have:=hs.sat.ids x (hrest_mem hx).1
   show x.1 < s.n + _
   omega
 ·refine ⟨hfr.os.trans hcfr.os,hfr.tape.trans hcfr.tape,hfr.output.trans hcfr.output,Nat.le_trans hcfr.size hfr.size,fun b h1 h2=>?_,fun b hb=>?_,fun b h1 h2=>?_,hcfr.le.trans hleH⟩
  ·rw [hfr.keep b (Nat.lt_of_lt_of_le h1 hcfr.size) (fun hb=>?_)]
   ·exact hcfr.keep b h1 h2
   ·rcases hcfr.own b (hsub b hb) with h | h
    ·exact h2 h
    ·omega
  ·simp only at hb
   rw [blks_append,hblσ,hblr] at hb
   rcases List.mem_append.1 hb with hb | hb
   ·rcases hfr.own b hb with h | h
    ·exact hcfr.own b (hsub b h)
    ·exact .inr (Nat.le_trans hcfr.size h)
   ·exact hcfr.own b (hapart b hb).2.2
  ·by_cases h3 : H.ro b=none
   ·rcases hfr.fro b h3 h2 with h | h
    ·exact hcfr.own b (hsub b h)
    ·exact .inr (Nat.le_trans hcfr.size h)
   ·exact hcfr.fro b h1 h3

theorem execOp_call {p : Pg} {H : Hid} (hg : GlOk p H) {ρ : Env} {a : Act} (ha : EnvOk H ρ a) {fo : Operand} {args : Array Operand} {ts : Array TypeId} {f : FuncId} {first caps gs : List GV} (hf : ev p ρ fo=some (.fn (.func f) first caps)) (he : evs p ρ args.toList=some gs)
  (hcall : ∀ aas w,(callFunc f aas).run p.P w=.ok (.enter f aas) w) : ∃ us,Cells H (first++gs++caps) us∧∀ (o : Oper),o.op=.call { callee:=.value fo,args:=args,argTypes:=ts }→∀ w,(execOp a.eval o).run p.P w=.ok (.enter f us) w:=by
 obtain ⟨fs,cs,hv,hl,hi,hl',hi'⟩:=(ev_is hg ha hf).inv_fn
 refine ⟨fs++args.map a.eval++cs,cells_app (cells_app ⟨hl,hi⟩ (evs_cells hg ha he)) ⟨hl',hi'⟩,fun o ho w=>?_⟩
 simp only [execOp,ho,resolve,hv,Deferred.ofValue,Sem.run_bind,Sem.run_pure,Result.andThen_ok,invoke,hcall]

theorem call_wp {o : Oper} {s : St} {fo : Operand} {args : Array Operand} {ts : Array TypeId} {f : FuncId} {first caps gs : List GV} {n0 : Nat} {cargs : List GV} {σc : Heap} {Q : GV→Heap→Nat→Prop}
  (hct : Ct cx.pg f n0 cargs σc Q) (hcall : ∀ aas w,(callFunc f aas).run cx.pg.P w=.ok (.enter f aas) w) (r : Nat→Nat)
  (ho : o.op=.call { callee:=.value fo,args:=args,argTypes:=ts }) {ρ : Env} (hf : ev cx.pg ρ fo=some (.fn (.func f) first caps)) (he : evs cx.pg ρ args.toList=some gs)
  (hargs : first++gs++caps=renL r cargs) (hσ : leσ r σc s.σ) (chk : (idbL n0 cargs && idbH n0 σc && distB (hids r σc))=true) (hr : ∀ i,i < n0→r i < s.n)
  {H : Hid} {a : Act} {w : World} (hg : GlOk cx.pg H) (hs : Sim cx H s w) (ha : EnvOk H ρ a) {K : Act→World→Prop} {Q' : Exit→Act→World→Prop}
  (hK : ∀ (H'' : Hid) (u : Value) (g : GV) (σ' : Heap) (n' : Nat) (w' : World),H.le H''→Is H'' (ren (sh r n0 s.n) g) u→Q g σ' n'→(∀ ρ,Sim cx H'' ⟨ρ,renH (sh r n0 s.n) σ'++hrest (hids r σc) s.σ,s.n + (n' - n0)⟩ w')→K (a.put o.dst u) w') :
  o.wp cx.pg.P a w K Q':=by
 simp only [Bool.and_eq_true] at chk
 obtain ⟨⟨h1,h2⟩,h3⟩:=chk
 obtain ⟨us,hc,hex⟩:=execOp_call (ts:=ts) hg ha hf he hcall
 rw [hargs] at hc
 have hpart:=(hs.sat.part hσ h2 h3).1
 have hC:=hct (H.via r n0) us w rfl hg.re (cells_back hc h1) hpart
 unfold Oper.wp
 rw [hex o ho w,Oper.upon_enter]
 refine hC.mono ?_
 rintro e w' ⟨u,g,H',σ',rfl,hi,hs',hfr,hQ⟩
 obtain ⟨H'',hle,hren,hsim⟩:=hs.call hσ h2 h3 hr hs' hfr s.ρ
 exact hK H'' u g σ' H'.n w' hle (hren g u hi) hQ (fun ρ=>hsim.ρ ρ)

theorem JK.call {all : List Oper} {o : Oper} {rest : List Oper} {k : List It} {s : St} {fo : Operand} {args : Array Operand} {ts : Array TypeId} {f : FuncId} {first caps gs : List GV} {n0 : Nat} {cargs : List GV} {σc : Heap} {Q : GV→Heap→Nat→Prop}
  (hct : Ct cx.pg f n0 cargs σc Q) (hcall : ∀ aas w,(callFunc f aas).run cx.pg.P w=.ok (.enter f aas) w) (r : Nat→Nat)
  (ho : o.op=.call { callee:=.value fo,args:=args,argTypes:=ts }) (hgd : gdOk all s.ρ o.guard=true) (hf : ev cx.pg s.ρ fo=some (.fn (.func f) first caps)) (he : evs cx.pg s.ρ args.toList=some gs)
  (hargs : first++gs++caps=renL r cargs) (hσ : leσ r σc s.σ) (chk : (idbL n0 cargs && idbH n0 σc && distB (hids r σc))=true) (hr : ∀ i,i < n0→r i < s.n)
  (h : ∀ g σ' n',Q g σ' n'→nf (ren (sh r n0 s.n) g) fun g=>nfH (renH (sh r n0 s.n) σ'++hrest (hids r σc) s.σ) fun σ=>nfN (s.n + (n' - n0)) fun n=>dput cx.N s.ρ o.dst g fun ρ'=>JK cx T (.ops false all rest :: k) ⟨ρ',σ,n⟩) :
  JK cx T (.ops false all (o :: rest) :: k) s:=by
 intro H a w hg hs ha
 have hw:=gdOk_wanted (o:=o) ha.env hgd
 show wpList _ _ _ _ _ _
 unfold wpList
 rw [if_pos hw]
 refine .inl (call_wp hct hcall r ho hf he hargs hσ chk hr hg hs ha.env fun H'' u g σ' n' w' hle hi hQ hsim=>?_)
 have hd:=h g σ' n' hQ
 rw [nf_eq,nfH_eq,nfN_eq] at hd
 obtain ⟨ρ',ha',hJ⟩:=(ha.mono hle).dput hi hd
 exact hJ H'' (a.put o.dst u) w' (hg.mono hle) (hsim ρ') ha'

end
end Go.GK
/-
  The ghost machine: regions that draw their order, and make or write memory.
-/
namespace Go.GK
open Go.RowKit

mutual
def roFree : GV→Bool
 | .r _=>false
 | .sl _ _=>false
 | .agg cs=>roFreeL cs
 | .tup cs=>roFreeL cs
 | .fn _ aas cs=>roFreeL aas && roFreeL cs
 | .ifc _ x=>roFree x
 | .v _=>true
 | .b _=>true
 | .p _ _=>true
 | .e _ _ _ _=>true
 | .o _=>true
def roFreeL : List GV→Bool
 | []=>true
 | g :: r=>roFree g && roFreeL r
end

def Hid.at (H : Hid) (ro : Nat→Option Obj) : Hid:={ H with ro:=ro }

mutual
theorem roFree_at {H : Hid} {ro : Nat→Option Obj} : ∀ {g : GV} {u : Value},Is H g u→roFree g=true→Is (H.at ro) g u
 | .v x,u,h,_=>by have:=h.inv_v; subst this; exact .ro (.v _)
 | .b c,u,h,_=>by have:=h.inv_b; subst this; exact .ro (.b _)
 | .p id off,u,h,_=>by obtain ⟨rfl,hid⟩:=h.inv_p; exact Is.p (H:=H.at ro) hid
 | .e id sz i off,u,h,_=>by obtain ⟨g,n,c,rfl,hs,hid⟩:=h.inv_e; exact Is.e (H:=H.at ro) hid hs
 | .o id,u,h,_=>by
  cases h with
  | ro h=>cases h
  | o hid hs h1=>exact Is.o (H:=H.at ro) hid hs h1
 | .r cs,u,_,hb=>by simp [roFree] at hb
 | .sl sz rows,u,_,hb=>by simp [roFree] at hb
 | .agg cs,u,h,hb=>by
  simp only [roFree] at hb
  obtain ⟨us,rfl,hl,hi⟩:=h.inv_agg
  exact .agg hl (roFreeL_at cs hi hb)
 | .tup cs,u,h,hb=>by
  simp only [roFree] at hb
  obtain ⟨us,rfl,hl,hi⟩:=h.inv_tup
  exact .tup hl (roFreeL_at cs hi hb)
 | .fn f aas cs,u,h,hb=>by
  simp only [roFree,Bool.and_eq_true] at hb
  obtain ⟨us,vs,rfl,hl,hi,hl',hi'⟩:=h.inv_fn
  exact .fn hl (roFreeL_at aas hi hb.1) hl' (roFreeL_at cs hi' hb.2)
 | .ifc t x,u,h,hb=>by
  simp only [roFree] at hb
  obtain ⟨v,rfl,hi⟩:=h.inv_ifc
  exact .ifc (roFree_at hi hb)
theorem roFreeL_at {H : Hid} {ro : Nat→Option Obj} {F : Nat→Value} : ∀ (l : List GV),(∀ (j : Nat) (g : GV),l[j]?=some g→Is H g (F j))→roFreeL l=true→∀ (j : Nat) (g : GV),l[j]?=some g→Is (H.at ro) g (F j)
 | [],_,_,j,g,hj=>by simp at hj
 | x :: r,h,hb,0,g,hj=>by
  simp [roFreeL] at hb
  simp at hj
  subst hj
  exact roFree_at (h 0 _ rfl) hb.1
 | x :: r,h,hb,j + 1,g,hj=>by
  simp [roFreeL] at hb
  exact roFreeL_at (F:=fun j=>F (j + 1)) r (fun j g hj=>h (j + 1) g (by simpa using hj)) hb.2 j g (by simpa using hj)
end

def qdel (d : Nat) : Env→Env
 | []=>[]
 | (s,g) :: r=>bif Nat.beq s d then qdel d r else (s,g) :: qdel d r

theorem qdel_look {d t : Nat} {g : GV} : ∀ {ρ : Env},look (qdel d ρ) t=some g→look ρ t=some g∧d ≠ t
 | [],h=>by simp [qdel,look] at h
 | (s,x) :: r,h=>by
  unfold qdel at h
  unfold look
  cases hb : Nat.beq s d with
  | true =>
   rw [hb] at h
   obtain ⟨h1,h2⟩:=qdel_look (ρ:=r) (by simpa using h)
   have:=beq_eq hb
   subst this
   have hst : Nat.beq s t=false:=by
    cases hst : Nat.beq s t with
    | false=>rfl
    | true=>exact absurd (beq_eq hst) h2
   rw [hst]
   exact ⟨h1,h2⟩
  | false =>
   rw [hb] at h
   simp only [cond_false] at h
   unfold look at h
   cases hst : Nat.beq s t with
   | true =>
    rw [hst] at h
    refine ⟨h,fun e=>?_⟩
    have h1:=beq_eq hst
    have h2:=beq_ne hb
    omega
   | false=>rw [hst] at h; exact qdel_look (by simpa using h)

def qput (ρq : Env) (dst : Option Nat) (g : GV) : Env :=
 match dst with
 | some d=>bif roFree g then (d,g) :: ρq else qdel d ρq
 | none=>ρq

section
variable {cx : Cx} {T : Post}

def Held (S0 : List Nat) (w0 w : World) : Prop:=∀ b,b < w0.heap.size→b ∉ S0→w.heap[b]?=w0.heap[b]?

def RA (cx : Cx) (T : Post) (ops : List Oper) (k : List It) (σs : Heap) (ρq : Env) (fuel : Nat) (listed : List Bool) (s : St) : Prop :=
 ∀ (n0 : Nat) (H0 : Hid) (S0 : List Nat) (w0 : World) (h0 : H0.n=n0) (g0 : GlOk cx.pg H0),Sat H0 σs w0→(∀ b ∈ blks H0 σs,b ∉ S0)→(∀ b ∈ S0,H0.ro b=none) →
  (∀ H s' w',Sim ⟨cx.pg,cx.N,n0,H0,S0,w0,h0,g0⟩ H s' w'→Sim cx H ⟨s'.ρ,s'.σ++σs,s'.n⟩ w') →
  ∀ H a w,Sim ⟨cx.pg,cx.N,n0,H0,S0,w0,h0,g0⟩ H s w→ActOk cx H s.ρ a→EnvOk (H.at H0.ro) ρq a →
   wpAnyH cx.pg.P .any ops.toArray (cont cx.pg.P (post cx T) k) (Held S0 w0) fuel listed.toArray a w

theorem Sim.keeps {n0 N : Nat} {pg : Pg} {H0 : Hid} {S0 : List Nat} {w0 : World} {h0 : H0.n=n0} {g0 : GlOk pg H0} {H : Hid} {s : St} {w : World} (h : Sim ⟨pg,N,n0,H0,S0,w0,h0,g0⟩ H s w) : Held S0 w0 w:=h.fr.keep

theorem RA.done {ops : List Oper} {k : List It} {σs : Heap} {ρq : Env} {fuel : Nat} {listed : List Bool} {s : St} (hr : Region.ready .any ops.toArray listed.toArray=[]) (h : JK cx T k ⟨s.ρ,s.σ++σs,s.n⟩) : RA cx T ops k σs ρq fuel listed s :=
 fun _ _ _ _ _ _ _ _ _ hlink H a w hs ha _=>wpAnyH_done hr (h H a w (cx.g0.mono (hlink H s w hs).fr.le) (hlink H s w hs) ha) fuel

theorem set_list (l : List Bool) (i : Nat) : l.toArray.setIfInBounds i true=(l.set i true).toArray:=by simp

theorem EnvOk.at_put {H H' : Hid} {ro : Nat→Option Obj} {ρq : Env} {a : Act} (h : EnvOk (H.at ro) ρq a) (hle : H.le H') {dst : Option Nat} {g : GV} {u : Value} (hd : ∀ d,dst=some d→d < a.tmps.size) (hi : Is H' g u) : EnvOk (H'.at ro) (qput ρq dst g) (a.put dst u):=by
 have h1 : EnvOk (H'.at ro) ρq a:=fun t g hl=>(h t g hl).mono (show (H.at ro).le (H'.at ro) from ⟨hle.n,fun _ _ h=>h,hle.bl,hle.sv⟩)
 cases dst with
 | none=>exact h1
 | some d =>
  unfold qput
  simp only
  cases hb : roFree g with
  | true=>exact h1.put (hd d rfl) (roFree_at hi hb)
  | false =>
   simp only [cond_false]
   intro t g' hl
   obtain ⟨hl',hne⟩:=qdel_look hl
   have:=h1 t g' hl'
   simp only [Act.put,Array.getD_eq_getD_getElem?] at this ⊢
   rw [Array.getElem?_setIfInBounds_ne hne]
   exact this

def eput (ρq : Env) (dst : Option Nat) (g : GV) : Env :=
 match dst with
 | some d=>(d,g) :: ρq
 | none=>ρq

theorem EnvOk.at_eput {H : Hid} {ro : Nat→Option Obj} {ρq : Env} {a : Act} (h : EnvOk (H.at ro) ρq a) {dst : Option Nat} {g : GV} {u : Value} (hd : ∀ d,dst=some d→d < a.tmps.size) (hi : Is (H.at ro) g u) : EnvOk (H.at ro) (eput ρq dst g) (a.put dst u):=by
 cases dst with
 | none=>exact h
 | some d=>exact h.put (hd d rfl) hi

theorem dput_lt {N : Nat} {ρ : Env} {dst : Option Nat} {g : GV} {K : Env→Prop} (h : dput N ρ dst g K) : ∀ d,dst=some d→d < N:=by
 intro d hd
 subst hd
 simp only [dput] at h
 cases hb : Nat.blt d N with
 | false=>rw [hb] at h; exact h.elim
 | true=>rw [Nat.blt_eq] at hb; exact hb

theorem readSat {n0 N : Nat} {pg : Pg} {H0 : Hid} {S0 : List Nat} {w0 : World} {h0 : H0.n=n0} {g0 : GlOk pg H0} {σs : Heap} {H : Hid} {s : St} {w : World} (hσ : Sat H0 σs w0) (hap : ∀ b ∈ blks H0 σs,b ∉ S0) (hfree : ∀ b ∈ S0,H0.ro b=none)
  (hs : Sim ⟨pg,N,n0,H0,S0,w0,h0,g0⟩ H s w) : Sat (H.at H0.ro) σs w∧∀ w',Held S0 w0 w'→Agr (H.at H0.ro) σs w w':=by
 have hle : H0.le (H.at H0.ro):=⟨hs.fr.le.n,fun _ _ h=>h,hs.fr.le.bl,hs.fr.le.sv⟩
 have hbl : blks (H.at H0.ro) σs=blks H0 σs:=blks_le hle hσ.ids
 have hro : ∀ w',Held S0 w0 w'→∀ b o,H0.ro b=some o→w'.heap[b]?=some o:=fun w' hh b o ho=>by
  have h1:=hσ.ro b o ho
  rw [hh b (Array.getElem?_eq_some_iff.1 h1).1 (fun hc=>by rw [hfree b hc] at ho; cases ho)]
  exact h1
 have hown : ∀ w',Held S0 w0 w'→∀ b ∈ blks H0 σs,w'.heap[b]?=w0.heap[b]?:=fun w' hh b hb=>hh b (hσ.lt b hb) (hap b hb)
 have hk:=hs.keeps
 refine ⟨⟨hro w hk,fun x hx=>?_,by rw [hbl]; exact hσ.nodup,fun b hb=>hσ.free b (by rwa [hbl] at hb),fun x hx=>Nat.lt_of_lt_of_le (hσ.ids x hx) hle.n⟩,fun w' hh=>⟨hro w' hh,fun b hb=>?_⟩⟩
 ·refine holds_congr (w:=w0) (fun b hb=>?_) (holds_le hle (hσ.ids x hx) (hσ.holds x hx))
  rw [blocks_le hle (hσ.ids x hx)] at hb
  exact hown w hk b (List.mem_flatMap.2 ⟨x,hx,hb⟩)
 ·rw [hbl] at hb
  rw [hown w' hh b hb,hown w hk b hb]

theorem GlOk.at {pg : Pg} {H0 H : Hid} (h : GlOk pg H0) : GlOk pg (H.at H0.ro):=⟨h.gl,h.ex⟩

theorem RA.take {ops : List Oper} {k : List It} {σs : Heap} {ρq : Env} {fuel : Nat} {listed : List Bool} {s : St} (i : Nat) {o : Oper} (hp : cx.pg.Ok) (hi : ops[i]?=some o) (hsel : Region.noSelect ops.toArray=true) (hf : Region.free .any ops.toArray listed.toArray i=true)
  (hr : (Region.ready .any ops.toArray listed.toArray).contains i=true) (hT : ∀ ch s,¬ T (.panic ch) s)
  {N : Env→St→Prop} (hN : ∀ ρq s',N ρq s'→RA cx T ops k σs ρq fuel (listed.set i true) s')
  (h : guardVC ops ρq o.guard (fun ρq'=>pv cx.pg ρq' σs o.op fun g=>dput cx.N s.ρ o.dst g fun ρ'=>N (eput ρq' o.dst g) { s with ρ:=ρ' })
   (fun ρq'=>dput cx.N s.ρ o.dst (.v undef) fun ρ'=>N (eput ρq' o.dst (.v undef)) { s with ρ:=ρ' })) : RA cx T ops k σs ρq (fuel + 1) listed s:=by
 intro n0 H0 S0 w0 h0 g0 hσ hap hfree hlink H a w hs ha hq
 obtain ⟨hrs,hagr⟩:=readSat hσ hap hfree hs
 have hpan : ∀ c a w v,cont cx.pg.P (post cx T) k (.panic c) (a.put o.dst v) w→cont cx.pg.P (post cx T) k (.panic c) a w:=fun c a w v hc=>by
  rw [cont_panic] at hc
  obtain ⟨_,s',_,_,ht⟩:=hc
  exact (hT c s' ht).elim
 have hgo : ∀ ρq',EnvOk (H.at H0.ro) ρq' a→Region.wanted o (yielded ops.toArray a.tmps)=true→(pv cx.pg ρq' σs o.op fun g=>dput cx.N s.ρ o.dst g fun ρ'=>N (eput ρq' o.dst g) { s with ρ:=ρ' }) →
   wpAnyH cx.pg.P .any ops.toArray (cont cx.pg.P (post cx T) k) (Held S0 w0) (fuel + 1) listed.toArray a w:=by
  intro ρq' hq' hw hpv
  obtain ⟨u,g,hrun,hiu,hk⟩:=pv_sound hp (GlOk.at g0) hq' hrs hpv
  have hiu' : Is H g u:=hiu.mono (show (H.at H0.ro).le H from ⟨Nat.le_refl _,fun b o ho=>hs.fr.le.ro b o ho,fun _ _=>rfl,fun _ _=>rfl⟩)
  have hlt:=dput_lt hk
  obtain ⟨ρ',ha',hra⟩:=ha.dput hiu' hk
  refine wpAnyH_take (by simpa using hi) hsel hf hr (fun c a w=>hpan c a w u) (.inl ⟨hw,fun w' hh=>hrun w' (hagr w' hh) o rfl⟩) hs.keeps ?_
  rw [set_list]
  refine hN _ _ hra n0 H0 S0 w0 h0 g0 hσ hap hfree hlink H (a.put o.dst u) w (hs.ρ ρ') ha' ?_
  exact EnvOk.at_eput hq' (fun d hd=>by rw [ha.size]; exact hlt d hd) hiu
 have hskip : ∀ ρq',EnvOk (H.at H0.ro) ρq' a→Region.wanted o (yielded ops.toArray a.tmps)=false→(dput cx.N s.ρ o.dst (.v undef) fun ρ'=>N (eput ρq' o.dst (.v undef)) { s with ρ:=ρ' }) →
   wpAnyH cx.pg.P .any ops.toArray (cont cx.pg.P (post cx T) k) (Held S0 w0) (fuel + 1) listed.toArray a w:=by
  intro ρq' hq' hw hk
  have hlt:=dput_lt hk
  obtain ⟨ρ',ha',hra⟩:=ha.dput (u:=undef) (.ro (.v undef)) hk
  refine wpAnyH_take (by simpa using hi) hsel hf hr (fun c a w=>hpan c a w undef) (.inr ⟨hw,rfl⟩) hs.keeps ?_
  rw [set_list]
  refine hN _ _ hra n0 H0 S0 w0 h0 g0 hσ hap hfree hlink H (a.put o.dst undef) w (hs.ρ ρ') ha' ?_
  exact EnvOk.at_eput hq' (fun d hd=>by rw [ha.size]; exact hlt d hd) (.ro (.v undef))
 unfold guardVC at h
 split at h
 ·rename_i hgd
  exact hgo ρq hq (wanted_none hgd) h
 ·rename_i j want hgd
  split at h
  ·rename_i oj hj
   split at h
   ·rename_i d hd
    split at h
    ·rename_i t hl
     have hv:=(hq d _ hl).inv_v
     have hw:=wanted_at hgd hj hd hv
     cases hb : (t == want) with
     | true=>rw [hb] at h hw; exact hgo ρq hq hw h
     | false=>rw [hb] at h hw; exact hskip ρq hq hw h
    ·rename_i t hl
     have hv:=(hq d _ hl).inv_b
     have hw:=wanted_at hgd hj hd hv
     have hput : ∀ c,t=c→EnvOk (H.at H0.ro) ((d,.v (.bool c)) :: ρq) a:=by
      intro c hc x g hx
      unfold look at hx
      cases hb : Nat.beq d x with
      | true =>
       rw [hb] at hx
       simp at hx
       subst hx
       rw [← beq_eq hb,hv,hc]
       exact .ro (.v _)
      | false=>rw [hb] at hx; exact hq x g (by simpa using hx)
     by_cases e : t=want
     ·rw [e] at hw
      exact hgo _ (hput want e) (by simpa using hw) (h.1 e)
     ·have e' : t=!want:=by cases t <;> cases want <;> simp_all
      rw [e'] at hw
      exact hskip _ (hput _ e') (by simpa using hw) (h.2 e')
    ·rename_i vs hl
     exact hskip ρq hq (wanted_not hgd hj hd (hq d _ hl).inv_v) h
    ·exact h.elim
   ·exact h.elim
  ·exact h.elim

theorem RA.only_of {ops : List Oper} {k : List It} {σs : Heap} {ρq : Env} {fuel : Nat} {listed : List Bool} {s : St} (i : Nat) {o : Oper} (hi : ops[i]?=some o) (hr : Region.ready .any ops.toArray listed.toArray=[i]) (hgd : gdOk ops s.ρ o.guard=true)
  (h : ∀ (n0 : Nat) (H0 : Hid) (S0 : List Nat) (w0 : World) (h0 : H0.n=n0) (g0 : GlOk cx.pg H0) (H : Hid) (a : Act) (w : World) (K : Act→World→Prop) (Q' : Exit→Act→World→Prop),GlOk cx.pg H→Sim ⟨cx.pg,cx.N,n0,H0,S0,w0,h0,g0⟩ H s w→ActOk cx H s.ρ a→Sat H (s.σ++σs) w →
   (∀ (H' : Hid) (u : Value) (g : GV) (w' : World) (s' : St) (ρ' : Env),H.le H'→Is H' g u→Sim ⟨cx.pg,cx.N,n0,H0,S0,w0,h0,g0⟩ H' { s' with ρ:=ρ' } w'→ActOk cx H' ρ' (a.put o.dst u)→(∀ d,o.dst=some d→d < cx.N)→RA cx T ops k σs (qput ρq o.dst g) fuel (listed.set i true) { s' with ρ:=ρ' }→K (a.put o.dst u) w') →
   o.wp cx.pg.P a w K Q') : RA cx T ops k σs ρq (fuel + 1) listed s:=by
 intro n0 H0 S0 w0 h0 g0 hσ hap hfree hlink H a w hs ha hq
 refine wpAnyH_all hr (by simp) (fun j hj=>?_)
 have hji : j=i:=by simpa using hj
 subst hji
 unfold wpOp
 have hi' : ops.toArray[j]?=some o:=by simpa using hi
 rw [hi']
 simp only
 have hw:=gdOk_wanted (o:=o) ha.env hgd
 rw [if_pos hw]
 refine .inl (h n0 H0 S0 w0 h0 g0 H a w _ _ (g0.mono hs.fr.le) hs ha (hlink H s w hs).sat fun H' u g w' s' ρ' hle hi hs' ha' hd hra=>?_)
 rw [set_list]
 refine ⟨hs'.keeps,hra n0 H0 S0 w0 h0 g0 hσ hap hfree hlink H' (a.put o.dst u) w' hs' ha' ?_⟩
 exact EnvOk.at_put (H:=H) hq hle (fun d hdd=>by rw [ha.size]; exact hd d hdd) hi

theorem upon_value_wp {P : Program} {o : Oper} {a : Act} {w w' : World} {u : Value} {K : Act→World→Prop} {Q' : Exit→Act→World→Prop} (hr : (execOp a.eval o).run P w=.ok (.value u) w'∨(execOp a.eval o).run P w=.ok .skip w'∧u=undef) (h : K (a.put o.dst u) w') : o.wp P a w K Q':=by
 unfold Oper.wp
 rcases hr with hr | ⟨hr,rfl⟩
 ·rw [hr]; exact h
 ·rw [hr]; exact h

theorem RA.mem {ops : List Oper} {k : List It} {σs : Heap} {ρq : Env} {fuel : Nat} {listed : List Bool} {s : St} (i : Nat) {o : Oper} (hp : cx.pg.Ok) (hi : ops[i]?=some o) (hr : Region.ready .any ops.toArray listed.toArray=[i]) (hgd : gdOk ops s.ρ o.guard=true) (hpu : isPure o.op=false)
  {N : Env→St→Prop} (hN : ∀ ρq s',N ρq s'→RA cx T ops k σs ρq fuel (listed.set i true) s')
  (h : goVC cx false s o (fun s'=>N (qput ρq o.dst (match s'.ρ with | (_,g) :: _=>g | []=>.v undef)) s') (fun _=>False) s.ρ) : RA cx T ops k σs ρq (fuel + 1) listed s:=by
 refine RA.only_of i hi hr hgd fun n0 H0 S0 w0 h0 g0 H a w K Q' hg hs ha _ hK=>?_
 have ha' : ActOk ⟨cx.pg,cx.N,n0,H0,S0,w0,h0,g0⟩ H s.ρ a:=⟨ha.env,ha.size,ha.defers⟩
 have h' : goVC ⟨cx.pg,cx.N,n0,H0,S0,w0,h0,g0⟩ false s o (fun s'=>N (qput ρq o.dst (match s'.ρ with | (_,g) :: _=>g | []=>.v undef)) s') (fun _=>False) s.ρ:=h
 rcases go_mem (cx:=⟨cx.pg,cx.N,n0,H0,S0,w0,h0,g0⟩) hp hg hs ha' hpu h' with hl | ⟨H',u,g,w',s0,hle,hrun,hi,hd,hsim⟩
 ·exact hl.elim
 ·refine upon_value_wp hrun ?_
  have hlt:=dput_lt hd
  cases hdst : o.dst with
  | none =>
   rw [hdst] at hd
   have h1:=hK H' u g w' s0 s.ρ hle hi (hsim s.ρ) (by rw [hdst]; exact ha.mono hle) hlt (by rw [hdst]; exact hN _ _ hd)
   rw [hdst] at h1
   exact h1
  | some d =>
   rw [hdst] at hd
   simp only [dput,nf_eq] at hd
   have hdl:=hlt d hdst
   have hb : Nat.blt d cx.N=true:=by rw [Nat.blt_eq]; exact hdl
   rw [hb] at hd
   have hput : ActOk cx H' ((d,g) :: s.ρ) (a.put (some d) u):=⟨(ha.mono hle).env.put (by rw [ha.size]; exact hdl) hi,by simp [Act.put,ha.size],by simp [Act.put,ha.defers]⟩
   have h1:=hK H' u g w' s0 ((d,g) :: s.ρ) hle hi (hsim _) (by rw [hdst]; exact hput) hlt (by rw [hdst]; exact hN _ _ hd)
   rw [hdst] at h1
   exact h1

theorem RA.read {ops : List Oper} {k : List It} {σs : Heap} {ρq : Env} {fuel : Nat} {listed : List Bool} {s : St} (i : Nat) {o : Oper} (hp : cx.pg.Ok) (hi : ops[i]?=some o) (hr : Region.ready .any ops.toArray listed.toArray=[i]) (hgd : gdOk ops s.ρ o.guard=true)
  {N : Env→St→Prop} (hN : ∀ ρq s',N ρq s'→RA cx T ops k σs ρq fuel (listed.set i true) s')
  (h : pv cx.pg s.ρ (s.σ++σs) o.op fun g=>dput cx.N s.ρ o.dst g fun ρ'=>N (qput ρq o.dst g) { s with ρ:=ρ' }) : RA cx T ops k σs ρq (fuel + 1) listed s:=by
 refine RA.only_of i hi hr hgd fun n0 H0 S0 w0 h0 g0 H a w K Q' hg hs ha hsat hK=>?_
 obtain ⟨u,g,hrun,hiu,hk⟩:=pv_sound hp hg ha.env hsat h
 have hlt:=dput_lt hk
 refine upon_value_wp (u:=u) (.inl (hrun w (Agr.refl hsat) o rfl)) ?_
 obtain ⟨ρ',ha',hra⟩:=ha.dput hiu hk
 exact hK H u g w s ρ' (Hid.le.refl H) hiu (hs.ρ _) ha' hlt (hN _ _ hra)

theorem RA.call {ops : List Oper} {k : List It} {σs : Heap} {ρq : Env} {fuel : Nat} {listed : List Bool} {s : St} (i : Nat) {o : Oper} {fo : Operand} {args : Array Operand} {ts : Array TypeId} {f : FuncId} {first caps gs : List GV} {n0 : Nat} {cargs : List GV} {σc : Heap} {Q : GV→Heap→Nat→Prop}
  (hct : Ct cx.pg f n0 cargs σc Q) (hcall : ∀ aas w,(callFunc f aas).run cx.pg.P w=.ok (.enter f aas) w) (r : Nat→Nat)
  (hi : ops[i]?=some o) (hr : Region.ready .any ops.toArray listed.toArray=[i]) (hgd : gdOk ops s.ρ o.guard=true)
  (ho : o.op=.call { callee:=.value fo,args:=args,argTypes:=ts }) (hf : ev cx.pg s.ρ fo=some (.fn (.func f) first caps)) (he : evs cx.pg s.ρ args.toList=some gs)
  (hargs : first++gs++caps=renL r cargs) (hσ : leσ r σc s.σ) (chk : (idbL n0 cargs && idbH n0 σc && distB (hids r σc))=true) (hrn : ∀ i,i < n0→r i < s.n)
  (h : ∀ g σ' n',Q g σ' n'→nf (ren (sh r n0 s.n) g) fun g=>nfH (renH (sh r n0 s.n) σ'++hrest (hids r σc) s.σ) fun σ=>nfN (s.n + (n' - n0)) fun n=>nfE (qput ρq o.dst g) fun ρq=>dput cx.N s.ρ o.dst g fun ρ'=>RA cx T ops k σs ρq fuel (listed.set i true) ⟨ρ',σ,n⟩) :
  RA cx T ops k σs ρq (fuel + 1) listed s:=by
 refine RA.only_of i hi hr hgd fun m0 H0 S0 w0 h0 g0 H a w K Q' hg hs ha _ hK=>?_
 refine call_wp (cx:=⟨cx.pg,cx.N,m0,H0,S0,w0,h0,g0⟩) hct hcall r ho hf he hargs hσ chk hrn hg hs ha.env fun H'' u g σ' n' w' hle hiu hQ hsim=>?_
 have hd:=h g σ' n' hQ
 rw [nf_eq,nfH_eq,nfN_eq,nfE_eq] at hd
 have hlt:=dput_lt hd
 obtain ⟨ρ',ha',hra⟩:=(ha.mono hle).dput hiu hd
 exact hK H'' u _ w' ⟨ρ',_,_⟩ ρ' hle hiu (hsim ρ') ha' hlt hra

theorem RA.split {ops : List Oper} {k : List It} {σs : Heap} {ρq : Env} {fuel : Nat} {listed : List Bool} {s : St} (d : Nat) {t : Bool} (h1 : look s.ρ d=some (.b t)) (h2 : look ρq d=some (.b t))
  (h : ∀ c,t=c→RA cx T ops k σs ((d,.v (.bool c)) :: ρq) fuel listed { s with ρ:=(d,.v (.bool c)) :: s.ρ }) : RA cx T ops k σs ρq fuel listed s:=by
 intro n0 H0 S0 w0 h0 g0 hσ hap hfree hlink H a w hs ha hq
 have key : ∀ {H : Hid} {ρ : Env},EnvOk H ρ a→look ρ d=some (.b t)→EnvOk H ((d,.v (.bool t)) :: ρ) a:=by
  intro H ρ he hl x g hx
  unfold look at hx
  cases hb : Nat.beq d x with
  | true =>
   rw [hb] at hx
   simp at hx
   subst hx
   rw [← beq_eq hb,(he d _ hl).inv_b]
   exact .ro (.v _)
  | false=>rw [hb] at hx; exact he x g (by simpa using hx)
 exact h t rfl n0 H0 S0 w0 h0 g0 hσ hap hfree hlink H a w (hs.ρ _) ⟨key ha.env h1,ha.size,ha.defers⟩ (key hq h2)

def hsel (is : List Nat) : Heap→Heap
 | []=>[]
 | (id,x) :: r=>bif memB id is then (id,x) :: hsel is r else hsel is r

theorem hsel_mem {is : List Nat} : ∀ {σ : Heap} {x : Nat × Res},x ∈ hsel is σ→x ∈ σ∧x.1 ∈ is
 | [],x,h=>by simp [hsel] at h
 | (id,y) :: r,x,h=>by
  unfold hsel at h
  cases hb : memB id is with
  | false=>rw [hb] at h; have:=hsel_mem (σ:=r) (by simpa using h); exact ⟨List.mem_cons_of_mem _ this.1,this.2⟩
  | true =>
   rw [hb] at h
   rcases List.mem_cons.1 (by simpa using h) with rfl | h
   ·exact ⟨List.mem_cons_self,memB_mem.1 hb⟩
   ·have:=hsel_mem h
    exact ⟨List.mem_cons_of_mem _ this.1,this.2⟩

theorem hsel_nodup {H : Hid} {is : List Nat} : ∀ {σ : Heap},(blks H σ).Nodup→(blks H (hsel is σ)).Nodup
 | [],_=>by simp [hsel,blks]
 | (id,y) :: r,h=>by
  rw [blks_cons] at h
  have h1:=List.nodup_append.1 h
  unfold hsel
  cases hb : memB id is with
  | false=>exact hsel_nodup h1.2.1
  | true =>
   simp only [cond_true]
   rw [blks_cons]
   refine List.nodup_append.2 ⟨h1.1,hsel_nodup h1.2.1,fun b hb1 c hc e=>?_⟩
   obtain ⟨x,hx,hbx⟩:=List.mem_flatMap.1 hc
   exact h1.2.2 b hb1 c (List.mem_flatMap.2 ⟨x,(hsel_mem hx).1,hbx⟩) e

theorem Sat.sub {H : Hid} {σ τ : Heap} {w : World} (h : Sat H σ w) (hm : ∀ x ∈ τ,x ∈ σ) (hn : (blks H τ).Nodup) : Sat H τ w:=by
 refine ⟨h.ro,fun x hx=>h.holds x (hm x hx),hn,fun b hb=>?_,fun x hx=>h.ids x (hm x hx)⟩
 obtain ⟨x,hx,hbx⟩:=List.mem_flatMap.1 hb
 exact h.free b (List.mem_flatMap.2 ⟨x,hm x hx,hbx⟩)

def lns : Heap→Heap
 | []=>[]
 | (id,.row _ sz rows) :: r=>(id,.ln sz rows.length) :: lns r
 | _ :: r=>lns r

theorem lns_blks (H : Hid) : ∀ σ : Heap,blks H (lns σ)=[]
 | []=>rfl
 | (id,.row _ sz rows) :: r=>by simp only [lns]; rw [blks_cons,lns_blks H r]; rfl
 | (id,.blk _ _) :: r=>by simp only [lns]; exact lns_blks H r
 | (id,.ob _) :: r=>by simp only [lns]; exact lns_blks H r
 | (id,.ln _ _) :: r=>by simp only [lns]; exact lns_blks H r
 | (id,.sub _ _ _ _) :: r=>by simp only [lns]; exact lns_blks H r
 | (id,.mp _ _) :: r=>by simp only [lns]; exact lns_blks H r
 | (id,.mr _ _ _ _) :: r=>by simp only [lns]; exact lns_blks H r
 | (id,.itr _) :: r=>by simp only [lns]; exact lns_blks H r
 | (id,.me _ _ _ _) :: r=>by simp only [lns]; exact lns_blks H r
 | (id,.mre _ _ _ _ _ _) :: r=>by simp only [lns]; exact lns_blks H r
 | (id,.ab _) :: r=>by simp only [lns]; exact lns_blks H r

theorem lns_holds {H : Hid} {w : World} : ∀ {σ : Heap},(∀ x ∈ σ,holds H w x)→(∀ x ∈ σ,x.1 < H.n)→∀ x ∈ lns σ,holds H w x∧x.1 < H.n
 | [],_,_,x,hx=>by simp [lns] at hx
 | (id,.row ty sz rows) :: r,h,hi,x,hx=>by
  simp only [lns,List.mem_cons] at hx
  rcases hx with rfl | hx
  ·obtain ⟨xs,hown,_⟩:=h _ List.mem_cons_self
   refine ⟨?_,hi (id,.row ty sz rows) List.mem_cons_self⟩
   rcases hown.2 with ⟨he,hn⟩ | ⟨g,cap,cur,he,_⟩
   ·exact ⟨none,0,by rw [he,hn],fun hlt=>by omega⟩
   ·exact ⟨_,cap,he,fun _=>⟨g,rfl⟩⟩
  ·exact lns_holds (fun x hx=>h x (List.mem_cons_of_mem _ hx)) (fun x hx=>hi x (List.mem_cons_of_mem _ hx)) x hx
 | (id,.blk _ _) :: r,h,hi,x,hx=>lns_holds (fun x hx=>h x (List.mem_cons_of_mem _ hx)) (fun x hx=>hi x (List.mem_cons_of_mem _ hx)) x (by simpa only [lns] using hx)
 | (id,.ob _) :: r,h,hi,x,hx=>lns_holds (fun x hx=>h x (List.mem_cons_of_mem _ hx)) (fun x hx=>hi x (List.mem_cons_of_mem _ hx)) x (by simpa only [lns] using hx)
 | (id,.sub _ _ _ _) :: r,h,hi,x,hx=>lns_holds (fun x hx=>h x (List.mem_cons_of_mem _ hx)) (fun x hx=>hi x (List.mem_cons_of_mem _ hx)) x (by simpa only [lns] using hx)
 | (id,.mp _ _) :: r,h,hi,x,hx=>lns_holds (fun x hx=>h x (List.mem_cons_of_mem _ hx)) (fun x hx=>hi x (List.mem_cons_of_mem _ hx)) x (by simpa only [lns] using hx)
 | (id,.mr _ _ _ _) :: r,h,hi,x,hx=>lns_holds (fun x hx=>h x (List.mem_cons_of_mem _ hx)) (fun x hx=>hi x (List.mem_cons_of_mem _ hx)) x (by simpa only [lns] using hx)
 | (id,.me _ _ _ _) :: r,h,hi,x,hx=>lns_holds (fun x hx=>h x (List.mem_cons_of_mem _ hx)) (fun x hx=>hi x (List.mem_cons_of_mem _ hx)) x (by simpa only [lns] using hx)
 | (id,.mre _ _ _ _ _ _) :: r,h,hi,x,hx=>lns_holds (fun x hx=>h x (List.mem_cons_of_mem _ hx)) (fun x hx=>hi x (List.mem_cons_of_mem _ hx)) x (by simpa only [lns] using hx)
 | (id,.ab _) :: r,h,hi,x,hx=>lns_holds (fun x hx=>h x (List.mem_cons_of_mem _ hx)) (fun x hx=>hi x (List.mem_cons_of_mem _ hx)) x (by simpa only [lns] using hx)
 | (id,.itr _) :: r,h,hi,x,hx=>lns_holds (fun x hx=>h x (List.mem_cons_of_mem _ hx)) (fun x hx=>hi x (List.mem_cons_of_mem _ hx)) x (by simpa only [lns] using hx)
 | (id,.ln _ _) :: r,h,hi,x,hx=>lns_holds (fun x hx=>h x (List.mem_cons_of_mem _ hx)) (fun x hx=>hi x (List.mem_cons_of_mem _ hx)) x (by simpa only [lns] using hx)

theorem lns_le {H H' : Hid} (hl : H.le H') {w w' : World} {σ : Heap} (h : ∀ x ∈ lns σ,holds H w x∧x.1 < H.n) : ∀ x ∈ lns σ,holds H' w' x∧x.1 < H'.n:=by
 intro x hx
 obtain ⟨h1,h2⟩:=h x hx
 refine ⟨?_,Nat.lt_of_lt_of_le h2 hl.n⟩
 refine holds_congr (w:=w) (fun b hb=>?_) (holds_le hl h2 h1)
 have : blks H' (lns σ)=[]:=lns_blks H' σ
 have hm : b ∈ blks H' (lns σ):=List.mem_flatMap.2 ⟨x,hx,hb⟩
 rw [this] at hm
 cases hm

theorem Sat.addLn {H : Hid} {τ σ : Heap} {w : World} (h : Sat H τ w) (hx : ∀ x ∈ lns σ,GK.holds H w x∧x.1 < H.n) : Sat H (τ++lns σ) w:=by
 have e : blks H (τ++lns σ)=blks H τ:=by rw [blks_append,lns_blks,List.append_nil]
 refine ⟨h.ro,fun x hm=>?_,by rw [e]; exact h.nodup,fun b hb=>h.free b (by rwa [e] at hb),fun x hm=>?_⟩
 ·rcases List.mem_append.1 hm with hm | hm
  ·exact h.holds x hm
  ·exact (hx x hm).1
 ·rcases List.mem_append.1 hm with hm | hm
  ·exact h.ids x hm
  ·exact (hx x hm).2

theorem JK.draw {id : Nat} {ops : Array Oper} {k : List It} {s : St} (M : List Nat) (hp : cx.pg.Ok) (h : RA cx T ops.toList k (hrest M s.σ++lns (hsel M s.σ)) s.ρ ops.toList.length (List.replicate ops.toList.length false) ⟨s.ρ,hsel M s.σ,s.n⟩) : JK cx T (.code (.region id ops true) :: k) s:=by
 intro H a w hg hs0 ha
 have hs:=hs0.below (below_drew w)
 refine wp_region_held (S:=Held (blks H (hsel M s.σ)) w.drew) hp.mixed ?_
 have hsub1 : ∀ x ∈ hsel M s.σ,x ∈ s.σ:=fun x hx=>(hsel_mem hx).1
 have hsub2 : ∀ x ∈ hrest M s.σ,x ∈ s.σ:=fun x hx=>(hrest_mem hx).1
 have hsatM:=hs.sat.sub hsub1 (hsel_nodup hs.sat.nodup)
 have hsatR:=hs.sat.sub hsub2 (hrest_nodup hs.sat.nodup)
 have hap : ∀ b ∈ blks H (hrest M s.σ),b ∉ blks H (hsel M s.σ):=by
  intro b hb hc
  obtain ⟨x,hx,hbx⟩:=List.mem_flatMap.1 hb
  obtain ⟨y,hy,hby⟩:=List.mem_flatMap.1 hc
  exact blks_apart hs.sat.nodup (hsub2 x hx) (hsub1 y hy) (fun e=>(hrest_mem hx).2 (by rw [e]; exact (hsel_mem hy).2)) b hbx hby
 have hmono : ∀ {τ : Heap},(∀ x ∈ τ,x ∈ s.σ)→∀ b ∈ blks H τ,b ∈ blks H s.σ:=fun hm b hb=>by
  obtain ⟨x,hx,hbx⟩:=List.mem_flatMap.1 hb
  exact List.mem_flatMap.2 ⟨x,hm x hx,hbx⟩
 have hcfr:=hs.fr
 have hlnx:=lns_holds (σ:=hsel M s.σ) (fun x hx=>hs.sat.holds x (hsub1 x hx)) (fun x hx=>hs.sat.ids x (hsub1 x hx))
 have hsatL:=hsatR.addLn hlnx
 have eL : blks H (hrest M s.σ++lns (hsel M s.σ))=blks H (hrest M s.σ):=by rw [blks_append,lns_blks,List.append_nil]
 have:=h s.n H (blks H (hsel M s.σ)) w.drew hs.n hg hsatL (by rw [eL]; exact hap) (fun b hb=>hs.sat.free b (hmono hsub1 b hb)) (fun H' s' w' hs'=>?_) H a w.drew ⟨hs.n,hsatM,Fr.refl _ _ _⟩ ha (fun t g hl=>ha.env t g hl)
 ·simpa using this
 ·suffices hmain : Sim cx H' ⟨s'.ρ,s'.σ++hrest M s.σ,s'.n⟩ w' by
   have hl2:=lns_le (w':=w') hs'.fr.le hlnx
   have e2 : blks H' ((s'.σ++hrest M s.σ)++lns (hsel M s.σ))=blks H' (s'.σ++hrest M s.σ):=by rw [blks_append,lns_blks,List.append_nil]
   rw [← List.append_assoc]
   exact ⟨hmain.n,hmain.sat.addLn hl2,by simp only; rw [e2]; exact hmain.fr⟩
  have hfr : Fr H (blks H (hsel M s.σ)) w.drew H' (blks H' s'.σ) w':=hs'.fr
  have hle:=hfr.le
  have hblr : blks H' (hrest M s.σ)=blks H (hrest M s.σ):=blks_le hle (fun x hx=>hs.sat.ids x (hsub2 x hx))
  refine ⟨hs'.n,⟨hs'.sat.ro,fun x hx=>?_,?_,fun b hb=>?_,fun x hx=>?_⟩,?_⟩
  ·rcases List.mem_append.1 hx with hx | hx
   ·exact hs'.sat.holds x hx
   ·refine holds_congr (w:=w.drew) (fun b hb=>?_) (holds_le hle (hs.sat.ids x (hsub2 x hx)) (hs.sat.holds x (hsub2 x hx)))
    rw [blocks_le hle (hs.sat.ids x (hsub2 x hx))] at hb
    have hbm : b ∈ blks H (hrest M s.σ):=List.mem_flatMap.2 ⟨x,hx,hb⟩
    exact hfr.keep b (hs.sat.lt b (hmono hsub2 b hbm)) (hap b hbm)
  ·simp only
   rw [blks_append,hblr]
   refine List.nodup_append.2 ⟨hs'.sat.nodup,hsatR.nodup,fun b hb c hc e=>?_⟩
   subst e
   rcases hfr.own b hb with h1 | h1
   ·exact hap b hc h1
   ·have:=hs.sat.lt b (hmono hsub2 b hc); omega
  ·simp only at hb
   rw [blks_append,hblr] at hb
   rcases List.mem_append.1 hb with hb | hb
   ·exact hs'.sat.free b hb
   ·cases hrb : H'.ro b with
    | none=>rfl
    | some o =>
     rcases hfr.fro b (hsatR.free b hb) (by rw [hrb]; simp) with h1 | h1
     ·exact (hap b hb h1).elim
     ·have:=hs.sat.lt b (hmono hsub2 b hb); omega
  ·simp only at hx
   rcases List.mem_append.1 hx with hx | hx
   ·exact hs'.sat.ids x hx
   ·exact Nat.lt_of_lt_of_le (hs.sat.ids x (hsub2 x hx)) hle.n
  ·refine ⟨hfr.os.trans hcfr.os,hfr.tape.trans hcfr.tape,hfr.output.trans hcfr.output,Nat.le_trans hcfr.size hfr.size,fun b h1 h2=>?_,fun b hb=>?_,fun b h1 h2=>?_,hcfr.le.trans hle⟩
   ·rw [hfr.keep b (Nat.lt_of_lt_of_le h1 hcfr.size) (fun hb=>?_)]
    ·exact hcfr.keep b h1 h2
    ·rcases hcfr.own b (hmono hsub1 b hb) with h3 | h3
     ·exact h2 h3
     ·omega
   ·simp only at hb
    rw [blks_append,hblr] at hb
    rcases List.mem_append.1 hb with hb | hb
    ·rcases hfr.own b hb with h3 | h3
     ·exact hcfr.own b (hmono hsub1 b h3)
     ·exact .inr (Nat.le_trans hcfr.size h3)
    ·exact hcfr.own b (hmono hsub2 b hb)
   ·by_cases h3 : H.ro b=none
    ·rcases hfr.fro b h3 h2 with h4 | h4
     ·exact hcfr.own b (hmono hsub1 b h4)
     ·exact .inr (Nat.le_trans hcfr.size h4)
    ·exact hcfr.fro b h1 h3
end
end Go.GK
/-
  The ghost machine: a region that draws its order, walked in one order.
-/
namespace Go.GK
open Go.RowKit

def eqB : List Nat→List Nat→Bool
 | [],[]=>true
 | x :: xs,y :: ys=>Nat.beq x y && eqB xs ys
 | _,_=>false

theorem eqB_eq : ∀ {xs ys : List Nat},eqB xs ys=true→xs=ys
 | [],[],_=>rfl
 | x :: xs,y :: ys,h=>by
  simp only [eqB,Bool.and_eq_true] at h
  rw [beq_eq h.1,eqB_eq h.2]
 | [],_ :: _,h=>by simp [eqB] at h
 | _ :: _,[],h=>by simp [eqB] at h

def ordB (ops : List Oper) (e : Bool) : List (Nat × Bool)→List Bool→Bool
 | [],listed=>bif e then (Region.ready .any ops.toArray listed.toArray).isEmpty else true
 | (i,l) :: r,listed=>match ops[i]? with
  | some o=>(bif isPure o.op && !l then (Region.ready .any ops.toArray listed.toArray).contains i && Region.free .any ops.toArray listed.toArray i else eqB (Region.ready .any ops.toArray listed.toArray) [i]) && ordB ops e r (listed.set i true)
  | none=>false

def rvc (cx : Cx) (T : Post) (ops : List Oper) (k : List It) (σs : Heap) (e : Bool) : List (Nat × Bool)→Nat→List Bool→Env→St→Prop
 | [],fuel,listed,ρq,s=>bif e then (match s with | ⟨ρ,σ,m⟩=>nfH (σ++σs) fun σ=>JK cx T k ⟨ρ,σ,m⟩) else RA cx T ops k σs ρq fuel listed s
 | _ :: _,0,_,_,_=>False
 | (i,l) :: r,fuel + 1,listed,ρq,s=>match s with
  | ⟨ρ,σ,m⟩=>match ops[i]? with
   | some o=>bif isPure o.op && !l then
     guardVC ops ρq o.guard (fun ρq'=>pv cx.pg ρq' σs o.op fun g=>nf g fun g=>dput cx.N ρ o.dst g fun ρ'=>nfE (eput ρq' o.dst g) fun ρq=>rvc cx T ops k σs e r fuel (listed.set i true) ρq ⟨ρ',σ,m⟩)
      (fun ρq'=>dput cx.N ρ o.dst (.v undef) fun ρ'=>nfE (eput ρq' o.dst (.v undef)) fun ρq=>rvc cx T ops k σs e r fuel (listed.set i true) ρq ⟨ρ',σ,m⟩)
    else bif gdOk ops ρ o.guard then bif isPure o.op then
     pv cx.pg ρ (σ++σs) o.op fun g=>nf g fun g=>dput cx.N ρ o.dst g fun ρ'=>nfE (qput ρq o.dst g) fun ρq=>rvc cx T ops k σs e r fuel (listed.set i true) ρq ⟨ρ',σ,m⟩
     else
     goVC cx false ⟨ρ,σ,m⟩ o (fun s'=>nfE (qput ρq o.dst (match s'.ρ with | (_,g) :: _=>g | []=>.v undef)) fun ρq=>rvc cx T ops k σs e r fuel (listed.set i true) ρq s') (fun _=>False) ρ
    else bif gdNo ops ρ o.guard then dput cx.N ρ o.dst (.v undef) fun ρ'=>nfE (eput ρq o.dst (.v undef)) fun ρq=>rvc cx T ops k σs e r fuel (listed.set i true) ρq ⟨ρ',σ,m⟩
    else False
   | none=>False

section
variable {cx : Cx} {T : Post}

theorem RA.skip {ops : List Oper} {k : List It} {σs : Heap} {ρq : Env} {fuel : Nat} {listed : List Bool} {s : St} (i : Nat) {o : Oper} (hi : ops[i]?=some o) (hr : Region.ready .any ops.toArray listed.toArray=[i]) (hgd : gdNo ops s.ρ o.guard=true)
  (h : dput cx.N s.ρ o.dst (.v undef) fun ρ'=>RA cx T ops k σs (eput ρq o.dst (.v undef)) fuel (listed.set i true) { s with ρ:=ρ' }) : RA cx T ops k σs ρq (fuel + 1) listed s:=by
 intro n0 H0 S0 w0 h0 g0 hσ hap hfree hlink H a w hs ha hq
 refine wpAnyH_all hr (by simp) (fun j hj=>?_)
 have hji : j=i:=by simpa using hj
 subst hji
 unfold wpOp
 have hi' : ops.toArray[j]?=some o:=by simpa using hi
 rw [hi']
 simp only
 have hw:=gdNo_wanted (o:=o) ha.env hgd
 rw [if_neg (by simp [hw])]
 have hlt:=dput_lt h
 obtain ⟨ρ',ha',hra⟩:=ha.dput (u:=undef) (.ro (.v undef)) h
 rw [set_list]
 refine ⟨hs.keeps,hra n0 H0 S0 w0 h0 g0 hσ hap hfree hlink H (a.put o.dst undef) w (hs.ρ ρ') ha' ?_⟩
 exact EnvOk.at_eput hq (fun d hd=>by rw [ha.size]; exact hlt d hd) (.ro (.v undef))

theorem RA.run {ops : List Oper} {k : List It} {σs : Heap} {e : Bool} (hp : cx.pg.Ok) (hsel : Region.noSelect ops.toArray=true) (hT : ∀ ch s,¬ T (.panic ch) s) : ∀ (order : List (Nat × Bool)) {fuel : Nat} {listed : List Bool} {ρq : Env} {s : St},ordB ops e order listed=true→rvc cx T ops k σs e order fuel listed ρq s→RA cx T ops k σs ρq fuel listed s
 | [],fuel,listed,ρq,s,hB,h=>by
  simp only [rvc] at h
  cases e with
  | true =>
   simp only [ordB,cond_true,List.isEmpty_iff] at hB
   simp only [cond_true,nfH_eq] at h
   exact RA.done hB h
  | false=>exact h
 | (i,l) :: r,0,_,_,_,_,h=>by simp only [rvc] at h
 | (i,l) :: r,fuel + 1,listed,ρq,s,hB,h=>by
  obtain ⟨ρ,σ,m⟩:=s
  simp only [rvc,nfE_eq,nf_eq] at h
  simp only [ordB] at hB
  cases hi : ops[i]? with
  | none=>rw [hi] at h; exact h.elim
  | some o =>
   rw [hi] at h hB
   simp only [Bool.and_eq_true] at hB h
   obtain ⟨hB1,hB2⟩:=hB
   have ih : ∀ ρq' s',rvc cx T ops k σs e r fuel (listed.set i true) ρq' s'→RA cx T ops k σs ρq' fuel (listed.set i true) s':=fun ρq' s' h'=>RA.run hp hsel hT r hB2 h'
   cases hpu : (isPure o.op && !l) with
   | true =>
    rw [hpu] at h hB1
    simp only [cond_true,Bool.and_eq_true] at h hB1
    exact RA.take i hp hi hsel hB1.2 hB1.1 hT ih h
   | false =>
    rw [hpu] at h hB1
    simp only [cond_false] at h hB1
    cases hgd : gdOk ops ρ o.guard with
    | false =>
     rw [hgd] at h
     cases hgn : gdNo ops ρ o.guard with
     | false=>rw [hgn] at h; exact h.elim
     | true =>
      rw [hgn] at h
      refine RA.skip i hi (eqB_eq hB1) hgn ?_
      revert h
      cases o.dst with
      | none=>exact fun h=>ih _ _ h
      | some d =>
       simp only [dput,cond_true,cond_false]
       cases Nat.blt d cx.N with
       | false=>exact fun h=>h
       | true=>simp only [cond_true,nf_eq]; exact fun h=>ih _ _ h
    | true =>
     rw [hgd] at h
     cases hpp : isPure o.op with
     | true =>
      rw [hpp] at h
      exact RA.read i hp hi (eqB_eq hB1) hgd ih h
     | false =>
      rw [hpp] at h
      exact RA.mem i hp hi (eqB_eq hB1) hgd hpp ih h
end
abbrev tk (l : List Nat) : List (Nat × Bool):=l.map (·,false)
abbrev al (l : List Nat) : List (Nat × Bool):=l.map (·,true)
end Go.GK
/-
  The ghost machine: contracts weakened.
-/
namespace Go.GK
open Go.RowKit

section
variable {p : Pg}

theorem Ct.weak {f : FuncId} {n0 : Nat} {args : List GV} {σ : Heap} {Q Q' : GV→Heap→Nat→Prop} (h : Ct p f n0 args σ Q)
  (hQ : ∀ g σ' n',Q g σ' n'→∃ (r : Nat→Nat) (g0 : GV) (τ : Heap) (m : Nat),Q' g0 τ m∧g=ren r g0∧leσ r τ σ'∧(idb m g0 && idbH m τ && distB (hids r τ) && fixB r n0 && Nat.ble n0 m)=true) : Ct p f n0 args σ Q':=by
 intro H us w hn hg hc hs
 refine Calls.mono (h H us w hn hg hc hs) (fun e w' he=>?_)
 obtain ⟨u,g,H',σ',rfl,hi,hs',hfr,hq⟩:=he
 obtain ⟨r,g0,τ,m,hq',rfl,hl,hchk⟩:=hQ g σ' _ hq
 obtain ⟨h1,h2,h3,h4,h5⟩:=and5 hchk
 obtain ⟨hsat,hbl⟩:=hs'.part hl h2 h3
 have hfix:=fixB_fix h4
 have hm:=Nat.le_of_ble_eq_true h5
 refine ⟨u,g0,H'.via r m,τ,rfl,ren_back hi h1,hsat,?_,hq'⟩
 refine ⟨hfr.os,hfr.tape,hfr.output,hfr.size,hfr.keep,fun b hb=>?_,hfr.fro,⟨by rw [hn]; exact hm,hfr.le.ro,fun i hi=>?_,fun i hi=>?_⟩⟩
 ·obtain ⟨x,hx,_,hbx⟩:=hbl b hb
  exact hfr.own b (List.mem_flatMap.2 ⟨x,hx,hbx⟩)
 ·show H'.bl (r i)=_
  rw [hfix i (by omega)]
  exact hfr.le.bl i hi
 ·show H'.sv (r i)=_
  rw [hfix i (by omega)]
  exact hfr.le.sv i hi

def Val (x : GV→Prop) (g : GV) (σ : Heap) (n : Nat) : Prop:=x g∧σ=[]∧n=0

theorem Ct.val {f : FuncId} {args : List GV} {σ : Heap} {x : GV→Prop} (h : Ct p f 0 args σ fun g _ _=>x g∧idb 0 g=true) : Ct p f 0 args σ (Val x) :=
 h.weak fun g σ' n' hq=>⟨id,g,[],0,⟨hq.1,rfl,rfl⟩,(ren_id g).symm,trivial,by simp [hq.2,idbH,hids,distB,fixB]⟩
end
end Go.GK
/-
  The ghost machine: own rows that nobody writes any more; nil slices.
-/
namespace Go.GK
open Go.RowKit

mutual
def frz (id sz : Nat) (rows : List (List GV)) : GV→GV
 | .o j=>bif Nat.beq j id then .sl sz rows else .o j
 | .agg cs=>.agg (frzL id sz rows cs)
 | .tup cs=>.tup (frzL id sz rows cs)
 | .fn f aas cs=>.fn f (frzL id sz rows aas) (frzL id sz rows cs)
 | .ifc t x=>.ifc t (frz id sz rows x)
 | .v x=>.v x
 | .b c=>.b c
 | .p j off=>.p j off
 | .e j z i off=>.e j z i off
 | .r cs=>.r cs
 | .sl z r=>.sl z r
def frzL (id sz : Nat) (rows : List (List GV)) : List GV→List GV
 | []=>[]
 | g :: r=>frz id sz rows g :: frzL id sz rows r
end

def frzE (id sz : Nat) (rows : List (List GV)) : Env→Env
 | []=>[]
 | (t,g) :: r=>(t,frz id sz rows g) :: frzE id sz rows r

def frzR (id sz : Nat) (rows : List (List GV)) : Res→Res
 | .blk ty cs=>.blk ty (frzL id sz rows cs)
 | .row ty z rs=>.row ty z rs
 | .ob o=>.ob o
 | .ln sz n=>.ln sz n
 | .sub i z lo n=>.sub i z lo n
 | .mp kd es=>.mp kd (es.map fun x=>(x.1,frz id sz rows x.2))
 | .mr kd es left cur=>.mr kd (es.map fun x=>(x.1,frz id sz rows x.2)) left cur
 | .itr m=>.itr m
 | .me kd es k st=>.me kd (es.map fun x=>(x.1,frz id sz rows x.2)) k st
 | .mre kd es left cur k st=>.mre kd (es.map fun x=>(x.1,frz id sz rows x.2)) left cur k st
 | .ab A=>.ab A

def frzH (id sz : Nat) (rows : List (List GV)) : Heap→Heap
 | []=>[]
 | (j,x) :: r=>(j,frzR id sz rows x) :: frzH id sz rows r

theorem frzL_get (id sz : Nat) (rows : List (List GV)) : ∀ (l : List GV) (j : Nat),(frzL id sz rows l)[j]?=(l[j]?).map (frz id sz rows)
 | [],j=>by simp [frzL]
 | g :: r,0=>by simp [frzL]
 | g :: r,j + 1=>by simp [frzL,frzL_get id sz rows r j]
theorem frzL_len (id sz : Nat) (rows : List (List GV)) : ∀ (l : List GV),(frzL id sz rows l).length=l.length
 | []=>rfl
 | _ :: r=>by simp [frzL,frzL_len id sz rows r]

theorem frzE_look (id sz : Nat) (rows : List (List GV)) : ∀ (ρ : Env) (t : Nat),look (frzE id sz rows ρ) t=(look ρ t).map (frz id sz rows)
 | [],t=>rfl
 | (s,g) :: r,t=>by
  simp only [frzE,look]
  cases Nat.beq s t with
  | true=>rfl
  | false=>exact frzE_look id sz rows r t

theorem frzH_mem {id sz : Nat} {rows : List (List GV)} : ∀ {σ : Heap} {x : Nat × Res},x ∈ frzH id sz rows σ→∃ y ∈ σ,x=(y.1,frzR id sz rows y.2)
 | [],_,h=>by simp [frzH] at h
 | (j,y) :: r,x,h=>by
  simp only [frzH,List.mem_cons] at h
  rcases h with rfl | h
  ·exact ⟨_,List.mem_cons_self,rfl⟩
  ·obtain ⟨z,hz,e⟩:=frzH_mem h
   exact ⟨z,List.mem_cons_of_mem _ hz,e⟩

theorem frzH_blks {H H' : Hid} (e1 : H'.bl=H.bl) (e2 : H'.sv=H.sv) {id sz : Nat} {rows : List (List GV)} : ∀ (σ : Heap),blks H' (frzH id sz rows σ)=blks H σ
 | []=>rfl
 | (j,y) :: r=>by
  simp only [frzH,blks_cons,frzH_blks e1 e2 r]
  congr 1
  cases y <;> simp [frzR,blocks,e1,e2]

theorem Is.frz {H H' : Hid} (hro : ∀ b o,H.ro b=some o→H'.ro b=some o) (e1 : H'.bl=H.bl) (e2 : H'.sv=H.sv) (e3 : H'.n=H.n) {id sz : Nat} {rows : List (List GV)} (hs : IsR H'.ro (.sl sz rows) (H.sv id)) {g : GV} {u : Value} (h : Is H g u) : Is H' (GK.frz id sz rows g) u:=by
 have hle : H.le H':=⟨Nat.le_of_eq e3.symm,hro,fun i _=>by rw [e1],fun i _=>by rw [e2]⟩
 have hL : ∀ {cs : List GV} {us : Array Value},(∀ (j : Nat) (g : GV),cs[j]?=some g→Is H' (GK.frz id sz rows g) (us.getD j undef))→∀ (j : Nat) (g : GV),(frzL id sz rows cs)[j]?=some g→Is H' g (us.getD j undef):=by
  intro cs us hh j g hj
  rw [frzL_get] at hj
  cases hc : cs[j]? with
  | none=>rw [hc] at hj; cases hj
  | some x=>rw [hc] at hj; simp at hj; subst hj; exact hh j x hc
 induction h with
 | ro hr =>
  have hR : ∀ {g : GV} {u : Value},IsR H.ro g u→Is H' (GK.frz id sz rows g) u:=by
   intro g u hr
   induction hr with
   | v x=>exact .ro (.v x)
   | b c=>exact .ro (.b c)
   | r us h1 h2 _=>exact .ro ((IsR.r us h1 h2).mono hro)
   | slnil=>exact .ro .slnil
   | sl us h0 hc hm h1 h2 h3 _=>exact .ro ((IsR.sl us h0 hc hm h1 h2 h3).mono hro)
   | agg hl _ ih=>exact .agg (by rw [frzL_len]; exact hl) (hL ih)
   | tup hl _ ih=>exact .tup (by rw [frzL_len]; exact hl) (hL ih)
   | fn hl _ hl' _ ih ih'=>exact .fn (by rw [frzL_len]; exact hl) (hL ih) (by rw [frzL_len]; exact hl') (hL ih')
   | ifc _ ih=>exact .ifc ih
  exact hR hr
 | p hid=>exact (Is.p hid).mono hle
 | e hid hs=>exact (Is.e hid hs).mono hle
 | @o j u hid hsj how =>
  simp only [GK.frz]
  cases hb : Nat.beq j id with
  | true =>
   have:=beq_eq hb
   subst this
   rw [hsj] at hs
   exact .ro hs
  | false=>exact (Is.o hid hsj how).mono hle
 | agg hl _ ih=>exact .agg (by rw [frzL_len]; exact hl) (hL ih)
 | tup hl _ ih=>exact .tup (by rw [frzL_len]; exact hl) (hL ih)
 | fn hl _ hl' _ ih ih'=>exact .fn (by rw [frzL_len]; exact hl) (hL ih) (by rw [frzL_len]; exact hl') (hL ih')
 | ifc _ ih=>exact .ifc ih

theorem esIs_frz {H H' : Hid} {id sz : Nat} {rows : List (List GV)} (hf : ∀ {g : GV} {u : Value},Is H g u→Is H' (GK.frz id sz rows g) u) : ∀ {es : List (Value × GV)} {l : List MapEntry},esIs H es l→esIs H' (es.map fun x=>(x.1,GK.frz id sz rows x.2)) l
 | [],[],_=>trivial
 | (_,_) :: r,_ :: _,h=>⟨h.1,hf h.2.1,esIs_frz hf (es:=r) h.2.2⟩
 | [],_ :: _,h=>h.elim
 | _ :: _,[],h=>h.elim
theorem MapOk.frz {H H' : Hid} {id sz : Nat} {rows : List (List GV)} (hf : ∀ {g : GV} {u : Value},Is H g u→Is H' (GK.frz id sz rows g) u) {kd : Option IntKind} {es : List (Value × GV)} {arr : Array MapEntry} {clock : Nat} (h : MapOk H kd es arr clock) : MapOk H' kd (es.map fun x=>(x.1,GK.frz id sz rows x.2)) arr clock :=
 ⟨esIs_frz hf h.is,h.sorts,h.st⟩

theorem RowOk.sl {ro ro' : Nat→Option Obj} (hro : ∀ b o,ro b=some o→ro' b=some o) {w : World} {ty sz : Nat} {rows : List (List GV)} {xs : List Value} {v : Value} (hr : RowOk ro sz rows xs) (ho : w.ownsRow 0 ty sz v rows.length xs) (hb : ∀ b,v.ownBlock=some b→ro' b=w.heap[b]?) : IsR ro' (.sl sz rows) v:=by
 obtain ⟨hxl,hor⟩:=ho
 rcases hor with ⟨rfl,hn⟩ | ⟨g,cap,cur,rfl,_,hw,hcap,hmax,hcs,htk⟩
 ·have : rows=[]:=List.length_eq_zero_iff.1 hn
  subst this
  exact .slnil
 ·have hbg:=hb g rfl
  rw [hw] at hbg
  have hlk : ∀ (i : Nat) (row : List GV),rows[i]?=some row→∀ (j : Nat) (x : GV),row[j]?=some x→i * sz + j < rows.length * sz:=by
   intro i row hi j x hj
   have h1:=(List.getElem?_eq_some_iff.1 hi).1
   have h2:=(List.getElem?_eq_some_iff.1 hj).1
   rw [hr.each row (List.mem_of_getElem? hi)] at h2
   have : (i + 1) * sz≤rows.length * sz:=Nat.mul_le_mul_right _ h1
   rw [Nat.add_mul,Nat.one_mul] at this
   omega
  refine .sl (fun i j=>(xs[i * sz + j]?).getD (.int .i64 0)) hr.each hcap hmax (fun i row hi j x hj=>?_) (fun i row hi j x hj=>?_) fun i j=>?_
  ·obtain ⟨u,hu,_⟩:=hr.is i row hi j x hj
   have hlt:=hlk i row hi j x hj
   have hc : cur[i * sz + j]?=some u:=by
    rw [← htk,List.getElem?_take,if_pos hlt] at hu
    simpa using hu
   have hbk : ∀ (n : Nat),cur[n]?=some u→roCell ro' ⟨g,n,none⟩=some u:=fun n hn=>by simp [roCell,hbg,hn]
   have hu' : (xs[i * sz + j]?).getD (.int .i64 0)=u:=by rw [hu]; rfl
   rw [hu']
   unfold Addr.add
   split
   ·rename_i h0; exact hbk 0 (by rw [show i * sz + j=0 by simpa using h0] at hc; exact hc)
   ·simpa using hbk _ hc
  ·obtain ⟨u,hu,hi'⟩:=hr.is i row hi j x hj
   simp only [hu,Option.getD_some]
   exact hi'.mono hro
  ·cases hx : xs[i * sz + j]? with
   | none=>rfl
   | some u=>exact hr.one u (List.mem_of_getElem? hx)

section
variable {cx : Cx} {T : Post}

theorem JK.upd {k : List It} {s : St} (s' : St) (h : ∀ H a w,GlOk cx.pg H→Sim cx H s w→ActOk cx H s.ρ a→∃ H',GlOk cx.pg H'∧Sim cx H' s' w∧ActOk cx H' s'.ρ a) (hk : JK cx T k s') : JK cx T k s:=fun H a w hg hs ha=>by
 obtain ⟨H',hg',hs',ha'⟩:=h H a w hg hs ha
 exact hk H' a w hg' hs' ha'

theorem JK.freeze {k : List It} {s : St} (id : Nat) {ty sz : Nat} {rows : List (List GV)} (hl : hlook s.σ id=some (.row ty sz rows)) (h : nfH (frzH id sz rows (hdel s.σ id)) fun σ=>JK cx T k ⟨frzE id sz rows s.ρ,σ,s.n⟩) : JK cx T k s:=by
 rw [nfH_eq] at h
 refine JK.upd _ (fun H a w hg hs ha=>?_) h
 obtain ⟨l1,l2,e1,e2,_⟩:=hlook_split hl
 have hmem:=hlook_mem hl
 obtain ⟨xs,hown,hrow⟩:=hs.sat.holds _ hmem
 let ro' : Nat→Option Obj:=fun b=>if (H.sv id).ownBlock=some b then w.heap[b]? else H.ro b
 have hfree : ∀ b,(H.sv id).ownBlock=some b→H.ro b=none:=fun b hb=>hs.sat.free b (List.mem_flatMap.2 ⟨_,hmem,by simp [blocks,hb]⟩)
 have hro : ∀ b o,H.ro b=some o→ro' b=some o:=by
  intro b o ho
  show (if _ then _ else _)=_
  rw [if_neg (fun hb=>by rw [hfree b hb] at ho; cases ho)]
  exact ho
 let H' : Hid:={ H with ro:=ro' }
 have hle : H.le H':=⟨Nat.le_refl _,hro,fun _ _=>rfl,fun _ _=>rfl⟩
 have hsl : IsR ro' (.sl sz rows) (H.sv id):=hrow.sl hro hown (fun b hb=>by show (if _ then _ else _)=_; rw [if_pos hb])
 have hfz : ∀ {g : GV} {u : Value},Is H g u→Is H' (frz id sz rows g) u:=fun hi=>Is.frz (H':=H') hro rfl rfl rfl hsl hi
 have hfr:=hs.fr
 have hnd:=hs.sat.nodup
 have hbl : blks H' (frzH id sz rows (hdel s.σ id))=blks H (l1++l2):=by rw [e2]; exact frzH_blks rfl rfl _
 rw [e1,blks_append,blks_cons] at hnd
 have n1:=List.nodup_append.1 hnd
 have n2:=List.nodup_append.1 n1.2.1
 have hin : ∀ b ∈ blks H (l1++l2),b ∈ blks H s.σ:=fun b hb=>by
  rw [e1,blks_append,blks_cons]
  rw [blks_append] at hb
  rcases List.mem_append.1 hb with h1 | h1 <;> simp [h1]
 have hnin : ∀ b ∈ blks H (l1++l2),(H.sv id).ownBlock ≠ some b:=fun b hb hc=>by
  have hc' : b ∈ blocks H (id,.row ty sz rows):=by simp [blocks,hc]
  rw [blks_append] at hb
  rcases List.mem_append.1 hb with h1 | h1
  ·exact n1.2.2 b h1 b (by simp [hc']) rfl
  ·exact n2.2.2 b hc' b h1 rfl
 refine ⟨H',hg.up hro,⟨hs.n,⟨fun b o ho=>?_,fun x hx=>?_,?_,fun b hb=>?_,fun x hx=>?_⟩,?_⟩,⟨fun t g hlk=>?_,ha.size,ha.defers⟩⟩
 ·have ho' : (if (H.sv id).ownBlock=some b then w.heap[b]? else H.ro b)=some o:=ho
  split at ho'
  ·exact ho'
  ·exact hs.sat.ro b o ho'
 ·obtain ⟨y,hy,rfl⟩:=frzH_mem hx
  rw [e2] at hy
  have hy' : y ∈ s.σ:=by
   rw [e1]
   rcases List.mem_append.1 hy with h1 | h1 <;> simp [h1]
  have hh:=hs.sat.holds y hy'
  obtain ⟨j,r⟩:=y
  cases r with
  | blk ty cs =>
   obtain ⟨us,hw,hlen,hi⟩:=hh
   refine ⟨us,hw,by rw [frzL_len]; exact hlen,fun j g hj=>?_⟩
   rw [frzL_get] at hj
   cases hc : cs[j]? with
   | none=>rw [hc] at hj; cases hj
   | some x=>rw [hc] at hj; simp at hj; subst hj; exact hfz (hi j x hc)
  | row ty z rs=>obtain ⟨ys,h1,h2⟩:=hh; exact ⟨ys,h1,h2.mono hro⟩
  | ob o=>exact hh
  | ln z n=>exact hh
  | sub i z lo n=>exact hh
  | mp kd es =>
   obtain ⟨b,arr,clock,h1,h2,h3⟩:=hh
   exact ⟨b,arr,clock,h1,h2,h3.frz hfz⟩
  | mr kd es left cur =>
   obtain ⟨b,arr,clock,seen,h1,h2,h3,h4,h5⟩:=hh
   exact ⟨b,arr,clock,seen,h1,h2,h3,h4.frz hfz,h5⟩
  | itr m=>exact hh
  | me kd es k st =>
   obtain ⟨h0,b,arr,clock,h1,h2,h3,h4⟩:=hh
   exact ⟨h0,b,arr,clock,h1,h2,h3.frz hfz,h4⟩
  | ab A=>exact A.mono _ _ _ _ _ hro hh
  | mre kd es left cur k st =>
   obtain ⟨h0,b,arr,clock,seen,h1,h2,h3,h4,h5⟩:=hh
   exact ⟨h0,b,arr,clock,seen,h1,h2,h3,h4.frz hfz,h5⟩
 ·rw [hbl,blks_append]
  exact List.nodup_append.2 ⟨n1.1,n2.2.1,fun b hb c hc e=>n1.2.2 b hb c (by simp [hc]) e⟩
 ·rw [hbl] at hb
  show (if _ then _ else _)=_
  rw [if_neg (hnin b hb)]
  exact hs.sat.free b (hin b hb)
 ·obtain ⟨y,hy,rfl⟩:=frzH_mem hx
  rw [e2] at hy
  refine hs.sat.ids y ?_
  rw [e1]
  rcases List.mem_append.1 hy with h1 | h1 <;> simp [h1]
 ·refine ⟨hfr.os,hfr.tape,hfr.output,hfr.size,hfr.keep,fun b hb=>?_,fun b h1 h2=>?_,hfr.le.trans hle⟩
  ·rw [hbl] at hb
   exact hfr.own b (hin b hb)
  ·have h2' : (if (H.sv id).ownBlock=some b then w.heap[b]? else H.ro b) ≠ none:=h2
   split at h2'
   ·rename_i hb
    exact hfr.own b (List.mem_flatMap.2 ⟨_,hmem,by simp [blocks,hb]⟩)
   ·exact hfr.fro b h1 h2'
 ·rw [frzE_look] at hlk
  cases hc : look s.ρ t with
  | none=>rw [hc] at hlk; cases hlk
  | some x=>rw [hc] at hlk; simp at hlk; subst hlk; exact hfz (ha.env t x hc)
end
end Go.GK
/-
  The ghost machine: nil slices as own rows and as rows that nobody writes; what is known of lengths.
-/
namespace Go.GK
open Go.RowKit

section
variable {cx : Cx} {T : Post}

theorem EnvOk.cons {H : Hid} {ρ : Env} {a : Act} (h : EnvOk H ρ a) {t : Nat} {g : GV} (hg : Is H g (a.tmps.getD t undef)) : EnvOk H ((t,g) :: ρ) a:=by
 intro x g' hx
 unfold look at hx
 cases hb : Nat.beq t x with
 | true=>rw [hb] at hx; have:=beq_eq hb; subst this; simp at hx; subst hx; exact hg
 | false=>rw [hb] at hx; exact h x g' (by simpa using hx)

theorem JK.ownNil {k : List It} {s : St} (t ty sz : Nat) (hl : look s.ρ t=some (.v (.slice none 0 0))) (h : nfN (s.n + 1) fun m=>JK cx T k ⟨(t,.o s.n) :: s.ρ,(s.n,.row ty sz []) :: s.σ,m⟩) : JK cx T k s:=by
 rw [nfN_eq] at h
 refine JK.upd _ (fun H a w hg hs ha=>?_) h
 have hle:=H.le_more 0 (.slice none 0 0)
 have hv : a.tmps.getD t undef=.slice none 0 0:=(ha.env t _ hl).inv_v
 have e : (H.more 0 (.slice none 0 0)).sv s.n=.slice none 0 0:=by simp [Hid.more,hs.n]
 refine ⟨H.more 0 (.slice none 0 0),hg.mono hle,hs.grow hle rfl (by simp [Hid.more,hs.n]) (Below.refl _ _) ?_ (by simp [blocks,e,Value.ownBlock]) (by simp [blocks,e,Value.ownBlock]) _,⟨((ha.mono hle).env).cons ?_,ha.size,ha.defers⟩⟩
 ·exact ⟨[],⟨by simp,.inl ⟨e,rfl⟩⟩,⟨by simp,by simp,by simp,by simp⟩⟩
 ·rw [hv]
  exact .o (by simp [Hid.more,hs.n]) e rfl

theorem JK.roNil {k : List It} {s : St} (t sz : Nat) (hl : look s.ρ t=some (.v (.slice none 0 0))) (h : JK cx T k ⟨(t,.sl sz []) :: s.ρ,s.σ,s.n⟩) : JK cx T k s:=by
 refine JK.upd _ (fun H a w hg hs ha=>⟨H,hg,hs.ρ _,⟨ha.env.cons ?_,ha.size,ha.defers⟩⟩) h
 rw [(ha.env t _ hl).inv_v]
 exact .ro .slnil

theorem IsR.sl_len {ro : Nat→Option Obj} {sz : Nat} {rows : List (List GV)} {u : Value} (h : IsR ro (.sl sz rows) u) : rows.length≤maxLen∧∀ row ∈ rows,row.length=sz:=by
 cases h with
 | slnil=>simp
 | sl us h0 hc hm h1 h2 h3=>exact ⟨Nat.le_trans hc hm,h0⟩

theorem JK.len {k : List It} {s : St} (t : Nat) {sz : Nat} {rows : List (List GV)} (hl : look s.ρ t=some (.sl sz rows)) (h : rows.length≤maxLen→(∀ row ∈ rows,row.length=sz)→JK cx T k s) : JK cx T k s:=fun H a w hg hs ha=>by
 have:=ha.env t _ hl
 cases this with
 | ro hr=>exact h hr.sl_len.1 hr.sl_len.2 H a w hg hs ha

theorem Ct.len {p : Pg} {f : FuncId} {n0 : Nat} {args : List GV} {σ : Heap} {Q : GV→Heap→Nat→Prop} (j : Nat) {sz : Nat} {rows : List (List GV)} (hj : args[j]?=some (.sl sz rows)) (h : rows.length≤maxLen→(∀ row ∈ rows,row.length=sz)→Ct p f n0 args σ Q) : Ct p f n0 args σ Q:=fun H us w hn hg hc hs=>by
 have:=hc.2 j _ hj
 cases this with
 | ro hr=>exact h hr.sl_len.1 hr.sl_len.2 H us w hn hg hc hs

theorem Ct.bool {p : Pg} {f : FuncId} {args : List GV} {σ : Heap} {c : Bool} (h : Ct p f 0 args σ fun g _ _=>g=.v (.bool c)∨g=.b c) : Ct p f 0 args σ (Val fun g=>g=.b c):=fun H us w hn hg hc hs=>by
 refine Calls.mono (h H us w hn hg hc hs) (fun e w' he=>?_)
 obtain ⟨u,g,H',σ',rfl,hi,hs',hfr,hq⟩:=he
 have hu : u=.bool c:=by
  rcases hq with rfl | rfl
  ·exact hi.inv_v
  ·exact hi.inv_b
 subst hu
 have hpart:=hs'.part (f:=id) (n:=0) (τ:=[]) trivial rfl rfl
 refine ⟨_,.b c,H'.via id 0,[],rfl,.ro (.b c),hpart.1,⟨hfr.os,hfr.tape,hfr.output,hfr.size,hfr.keep,by simp [blks],hfr.fro,⟨by rw [hn]; exact Nat.le_refl _,hfr.le.ro,fun i hi=>by omega,fun i hi=>by omega⟩⟩,rfl,rfl,rfl⟩
end
end Go.GK
/-
  The ghost machine: what is read as data, as ghost values; a law's row out of its contract.
-/
namespace Go.GK
open Go.RowKit Go.ChangeShapes Go.WideShapes

inductive Sh where
 | int (k : IntKind) | bool | str
 | slice (cs : List Sh)

mutual
def fits : Sh→GV→Prop
 | .int k,g=>∃ n,g=.v (.int k n)∧(Lit.int k n).wf=true
 | .bool,g=>∃ b,g=.b b
 | .str,g=>∃ s : ByteArray,g=.v (.string s)∧s.size≤maxLen
 | .slice cs,g=>∃ rows,g=.sl cs.length rows∧∀ row ∈ rows,fitsL cs row
def fitsL : List Sh→List GV→Prop
 | [],gs=>gs=[]
 | s :: ss,gs=>∃ g r,gs=g :: r∧fits s g∧fitsL ss r
end

def shF (P : Program) (r : TypeId→Option (List Sh)) : Nat→List Field→Option (List Sh)
 | _,[]=>some []
 | o,f :: fs=>match r f.type with
  | some a=>bif Nat.beq f.offset o && Nat.beq (P.cellsOf f.type) a.length then (match shF P r (o + a.length) fs with | some b=>some (a++b) | none=>none) else none
  | none=>none

def shT (P : Program) : Nat→TypeId→Option (List Sh)
 | 0,_=>none
 | n + 1,t=>match P.underlying t with
  | some (.int k)=>some [.int k]
  | some .bool=>some [.bool]
  | some .string=>some [.str]
  | some (.slice e)=>(match shT P n e with
   | some cs=>bif Nat.beq (P.cellsOf e) cs.length then some [.slice cs] else none
   | none=>none)
  | some (.struct fs)=>(match shF P (shT P n) 0 fs.toList with
   | some cs=>bif Nat.beq (P.cellsOf t) cs.length then some cs else none
   | none=>none)
  | _=>none

theorem fitsL_len : ∀ {ss : List Sh} {gs : List GV},fitsL ss gs→gs.length=ss.length
 | [],gs,h=>by simp only [fitsL] at h; subst h; rfl
 | s :: ss,gs,h=>by
  simp only [fitsL] at h
  obtain ⟨g,r,rfl,_,h⟩:=h
  simp [fitsL_len h]
theorem fitsL_app : ∀ {ss tt : List Sh} {gs hs : List GV},fitsL ss gs→fitsL tt hs→fitsL (ss++tt) (gs++hs)
 | [],tt,gs,hs,h,k=>by simp only [fitsL] at h; subst h; exact k
 | s :: ss,tt,gs,hs,h,k=>by
  simp only [fitsL] at h
  obtain ⟨g,r,rfl,h1,h⟩:=h
  show fitsL (s :: (ss++tt)) _
  simp only [fitsL]
  exact ⟨g,r++hs,rfl,h1,fitsL_app h k⟩

def roOf (w : World) : Nat→Option Obj:=fun b=>w.heap[b]?

section
variable {Hh : Type} {enc : TypeId × Value→Hh} {P : Program} {w : World} {base : Nat} {spare : Nat→Bool} {held : Bool}

def LIs (ro : Nat→Option Obj) (gs : List GV) (cs : List Value) : Prop:=gs.length=cs.length∧∀ (j : Nat) (g : GV),gs[j]?=some g→∃ u,cs[j]?=some u∧IsR ro g u∧u.oneCell'=true

theorem LIs.app {ro : Nat→Option Obj} {gs hs : List GV} {cs ds : List Value} (h : LIs ro gs cs) (k : LIs ro hs ds) : LIs ro (gs++hs) (cs++ds):=by
 refine ⟨by simp [h.1,k.1],fun j g hj=>?_⟩
 by_cases hlt : j < gs.length
 ·rw [List.getElem?_append_left hlt] at hj
  obtain ⟨u,hu,h2⟩:=h.2 j g hj
  exact ⟨u,by rw [List.getElem?_append_left (by rw [← h.1]; exact hlt)]; exact hu,h2⟩
 ·rw [List.getElem?_append_right (by omega)] at hj
  obtain ⟨u,hu,h2⟩:=k.2 _ g hj
  exact ⟨u,by rw [List.getElem?_append_right (by rw [← h.1]; omega),← h.1]; exact hu,h2⟩

theorem LIs.one {ro : Nat→Option Obj} {g : GV} {u : Value} (h : IsR ro g u) (h1 : u.oneCell'=true) : LIs ro [g] [u]:=by
 refine ⟨rfl,fun j g' hj=>?_⟩
 cases j with
 | zero=>simp at hj; subst hj; exact ⟨u,rfl,h,h1⟩
 | succ j=>simp at hj

theorem trod_fields (r : TypeId→Option (List Sh)) (fuel : Nat) (hr : ∀ t cs shs x,DataW.trod enc P w base spare held fuel t cs=some x→r t=some shs→∃ gs,fitsL shs gs∧LIs (roOf w) gs cs) (cs : List Value) :
  ∀ (o : Nat) (fs : List Field) (shs : List Sh),shF P r o fs=some shs→(∀ f ∈ fs,∃ x,DataW.trod enc P w base spare held fuel f.type ((cs.drop f.offset).take (P.cellsOf f.type))=some x) →
   ∃ gs,fitsL shs gs∧LIs (roOf w) gs ((cs.drop o).take shs.length)∧(shs.length=((cs.drop o).take shs.length).length)
 | o,[],shs,h,_=>by
  simp only [shF,Option.some.injEq] at h
  subst h
  exact ⟨[],rfl,⟨rfl,by simp⟩,rfl⟩
 | o,f :: fs,shs,h,hf=>by
  simp only [shF] at h
  cases ha : r f.type with
  | none=>rw [ha] at h; cases h
  | some a =>
   rw [ha] at h
   simp only [] at h
   cases hb : (Nat.beq f.offset o && Nat.beq (P.cellsOf f.type) a.length) with
   | false=>rw [hb] at h; cases h
   | true =>
    rw [hb] at h
    simp only [cond_true] at h
    simp only [Bool.and_eq_true] at hb
    have e1:=beq_eq hb.1
    have e2:=beq_eq hb.2
    cases hs : shF P r (o + a.length) fs with
    | none=>rw [hs] at h; cases h
    | some b =>
     rw [hs] at h
     simp only [Option.some.injEq] at h
     subst h
     obtain ⟨gs,h1,h2,h3⟩:=trod_fields r fuel hr cs (o + a.length) fs b hs (fun g hg=>hf g (List.mem_cons_of_mem _ hg))
     obtain ⟨x,hx⟩:=hf f (by simp)
     rw [e1,e2] at hx
     obtain ⟨gs',k1,k2⟩:=hr _ _ _ _ hx ha
     have hl : a.length=((cs.drop o).take a.length).length:=by rw [← k2.1,fitsL_len k1]
     have e : (cs.drop o).take (a++b).length=(cs.drop o).take a.length++(cs.drop (o + a.length)).take b.length:=by
      rw [List.length_append,List.take_add,List.drop_drop]
     refine ⟨gs'++gs,fitsL_app k1 h1,?_,?_⟩
     ·rw [e]; exact k2.app h2
     ·rw [e,List.length_append,List.length_append,← hl,← h3]

theorem trod_gv : ∀ (n fuel : Nat) (t : TypeId) (cs : List Value) (shs : List Sh) (x : DataW Hh × List MemPlace),DataW.trod enc P w base spare held fuel t cs=some x→shT P n t=some shs→∃ gs,fitsL shs gs∧LIs (roOf w) gs cs
 | 0,_,_,_,_,_,_,h=>by simp [shT] at h
 | n + 1,fuel,t,cs,shs,x,hd,hs=>by
  unfold shT at hs
  cases hu : P.underlying t with
  | none=>rw [hu] at hs; cases hs
  | some d =>
   rw [hu] at hs
   cases d <;> simp only [Option.some.injEq] at hs <;> (try (cases hs; done))
   case int k =>
    subst hs
    obtain ⟨m,rfl,_,hw⟩:=DataW.trod_int hu hd
    exact ⟨[.v (.int k m)],⟨_,_,rfl,⟨m,rfl,hw⟩,rfl⟩,.one (.v _) rfl⟩
   case bool =>
    subst hs
    obtain ⟨b,rfl,_⟩:=DataW.trod_bool hu hd
    exact ⟨[.b b],⟨_,_,rfl,⟨b,rfl⟩,rfl⟩,.one (.b _) rfl⟩
   case string =>
    subst hs
    obtain ⟨s,rfl,_,hw⟩:=DataW.trod_string hu hd
    exact ⟨[.v (.string s)],⟨_,_,rfl,⟨s,rfl,hw⟩,rfl⟩,.one (.v _) rfl⟩
   case slice e =>
    cases he : shT P n e with
    | none=>rw [he] at hs; cases hs
    | some es =>
     rw [he] at hs
     simp only [] at hs
     cases hb : Nat.beq (P.cellsOf e) es.length with
     | false=>rw [hb] at hs; cases hs
     | true =>
      rw [hb] at hs
      simp only [cond_true,Option.some.injEq] at hs
      subst hs
      have hc:=beq_eq hb
      rcases Go.Deep.open_slice hu hd with ⟨rfl,_⟩ | ⟨a,len,cap,m,n',D,Pl,rfl,hba,hl,hmax,hm,_,hi⟩
      ·exact ⟨[.sl es.length []],⟨_,_,rfl,⟨[],rfl,by simp⟩,rfl⟩,.one .slnil rfl⟩
      ·have hlm : len≤m:=by rw [hm]; split <;> omega
       have hex : ∀ i,i < len→∃ y : List GV × List Value,fitsL es y.1∧LIs (roOf w) y.1 y.2∧w.cells? base (a.add (i * es.length)) es.length=some y.2:=fun i hi'=>by
        obtain ⟨cs',h1,h2⟩:=hi i (by omega)
        obtain ⟨gs,h3,h4⟩:=trod_gv n n' e cs' es _ h2 he
        exact ⟨(gs,cs'),h3,h4,by rw [← hc]; exact h1⟩
       obtain ⟨f,hf⟩:=Go.Deep.choose_lt hex
       refine ⟨[.sl es.length ((List.range len).map fun i=>(f i).1)],⟨_,_,rfl,⟨_,rfl,fun row hrow=>?_⟩,rfl⟩,.one ?_ rfl⟩
       ·obtain ⟨i,hi1,rfl⟩:=List.mem_map.1 hrow
        exact (hf i (List.mem_range.1 hi1)).1
       ·have hlen : len=((List.range len).map fun i=>(f i).1).length:=by simp
        have hget : ∀ (i : Nat) (row : List GV),((List.range len).map fun i=>(f i).1)[i]?=some row→i < len∧row=(f i).1:=fun i row hr=>by
         have hi1 : i < len:=by have:=(List.getElem?_eq_some_iff.1 hr).1; simpa using this
         rw [List.getElem?_map,List.getElem?_range hi1] at hr
         simp at hr
         exact ⟨hi1,hr.symm⟩
        have key:=IsR.sl (ro:=roOf w) (ad:=a) (sz:=es.length) (rows:=(List.range len).map fun i=>(f i).1) (c:=cap) (fun i j=>if i < len then (if ((f i).2[j]?.getD (.bool false)).oneCell' then (f i).2[j]?.getD (.bool false) else .bool false) else .bool false) (fun row hrow=>?_) (by simpa using hl) hmax ?_ ?_ ?_
        ·rw [← hlen] at key; exact key
        ·obtain ⟨i,hi1,rfl⟩:=List.mem_map.1 hrow
         exact fitsL_len (hf i (List.mem_range.1 hi1)).1
        ·intro i row hr j g hj
         obtain ⟨hi1,rfl⟩:=hget i row hr
         obtain ⟨h1,h2,h3⟩:=hf i hi1
         obtain ⟨u,hu1,hu2,hu3⟩:=h2.2 j g hj
         obtain ⟨_,hcl,hcc⟩:=World.cells?_some h3
         have hj1 : j < es.length:=by have:=(List.getElem?_eq_some_iff.1 hj).1; rw [fitsL_len h1] at this; exact this
         have:=hcc j hj1
         rw [hu1,Go.Deep.add_add] at this
         simp only [hi1,if_true,hu1,Option.getD_some,hu3]
         exact this
        ·intro i row hr j g hj
         obtain ⟨hi1,rfl⟩:=hget i row hr
         obtain ⟨h1,h2,h3⟩:=hf i hi1
         obtain ⟨u,hu1,hu2,hu3⟩:=h2.2 j g hj
         simp only [hi1,if_true,hu1,Option.getD_some,hu3]
         exact hu2
        ·intro i j
         show Value.oneCell' (if i < len then _ else _)=true
         split
         ·split
          ·assumption
          ·rfl
         ·rfl
   case struct fs =>
    cases he : shF P (shT P n) 0 fs.toList with
    | none=>rw [he] at hs; cases hs
    | some ss =>
     rw [he] at hs
     simp only [] at hs
     cases hb : Nat.beq (P.cellsOf t) ss.length with
     | false=>rw [hb] at hs; cases hs
     | true =>
      rw [hb] at hs
      simp only [cond_true,Option.some.injEq] at hs
      subst hs
      obtain ⟨xs,n',_,_,hcl,hxl,hf⟩:=DataW.trod_struct hu hd
      obtain ⟨gs,h1,h2,h3⟩:=trod_fields (shT P n) n' (fun t cs shs x h h'=>trod_gv n n' t cs shs x h h') cs 0 fs.toList ss he (fun f hfm=>by
       obtain ⟨i,hi,e⟩:=List.getElem_of_mem hfm
       have hi' : i < fs.size:=by simpa using hi
       have e' : fs[i]?=some f:=by rw [Array.getElem?_eq_getElem hi']; rw [← e]; simp
       have hh:=hf i f e'
       have hix : i < xs.length:=by omega
       rw [List.getElem?_eq_getElem hix] at hh
       exact ⟨_,hh⟩)
      refine ⟨gs,h1,?_⟩
      have e : (cs.drop 0).take ss.length=cs:=by rw [List.drop_zero,← beq_eq hb,← hcl,List.take_length]
      rw [e] at h2
      exact h2
end

def shA (P : Program) (n : Nat) : List TypeId→Option (List Sh)
 | []=>some []
 | t :: ts=>match shT P n t,shA P n ts with
  | some [s],some r=>some (s :: r)
  | _,_=>none

theorem trodAll_cons_mk' {Hh : Type} {enc : TypeId × Value→Hh} {P : Program} {w : World} {base : Nat} {spare : Nat→Bool} {held : Bool} {t : TypeId} {ts : List TypeId} {v : Value} {vs : List Value} {d : DataW Hh} {ds : List (DataW Hh)} {p q : List MemPlace}
  (h : DataW.Trod enc P w base spare held t v d p) (k : DataW.TrodAll enc P w base spare held ts vs ds q) : DataW.TrodAll enc P w base spare held (t :: ts) (v :: vs) (d :: ds) (p++q):=⟨p,q,h,k,rfl⟩

theorem trodAll_stays {Hh : Type} {enc : TypeId × Value→Hh} {P : Program} (hl : laidOutB P=true) {W W' : World} (hb : Below W.heap.size W W') {sp : Nat→Bool} : ∀ {ts : List TypeId} {vs : List Value} {ds : List (DataW Hh)} {ps : List MemPlace},
  (∀ t ∈ ts,P.readableRec t=true∧t < P.types.size)→DataW.TrodAll enc P W 0 (fun _=>true) true ts vs ds ps→(∀ p ∈ ps,p.block < W.heap.size∧sp p.block=true)→DataW.TrodAll enc P W' 0 sp true ts vs ds ps
 | [],vs,ds,ps,_,h,_=>by
  obtain ⟨rfl,rfl,rfl⟩:=trodAll_nil h
  exact trodAll_mk0
 | t :: ts,vs,ds,ps,hr,h,hp=>by
  obtain ⟨v,vs',d,ds',p,q,rfl,rfl,rfl,h1,h2⟩:=trodAll_cons h
  obtain ⟨r1,r2⟩:=hr t (by simp)
  exact trodAll_cons_mk' (WideElems.Trod_stays hl r1 r2 h1 (fun x hx=>hb.same (hp x (by simp [hx])).1) (fun x hx=>(hp x (by simp [hx])).2)) (trodAll_stays hl hb (fun t ht=>hr t (by simp [ht])) h2 (fun x hx=>hp x (by simp [hx])))

theorem okWide_cells {P : Program} {w : World} {r : Reach} {b0 : Nat} {t : TypeId} {s : Sh} {n : Nat} {v : Value} (hs : shT P n t=some [s]) (hv : Value.okWide P w r b0 t v) (hst : ∀ fs,P.underlying t ≠ some (.struct fs)) : v.cells=#[v]:=by
 cases n with
 | zero=>simp [shT] at hs
 | succ n =>
  unfold shT at hs
  cases hu : P.underlying t with
  | none=>rw [hu] at hs; cases hs
  | some d =>
   rw [hu] at hs
   cases d <;> simp only [Option.some.injEq] at hs <;> (try (cases hs; done))
   case int k=>obtain ⟨m,rfl⟩:=okWide_int hu hv; rfl
   case bool=>obtain ⟨m,rfl⟩:=okWide_bool hu hv; rfl
   case string=>obtain ⟨m,rfl⟩:=okWide_string hu hv; rfl
   case slice e=>obtain ⟨a,l,c,rfl⟩:=okWide_slice hu hv; rfl
   case struct fs=>exact (hst fs hu).elim

def noStr (P : Program) : List TypeId→Bool
 | []=>true
 | t :: ts=>(match P.underlying t with | some (.struct _)=>false | _=>true) && noStr P ts

theorem args_is {Hh : Type} {enc : TypeId × Value→Hh} {P : Program} {w : World} {base : Nat} {spare : Nat→Bool} {held : Bool} {r : Reach} {b0 : Nat} (n : Nat) : ∀ {ts : List TypeId} {vs : List Value} {ds : List (DataW Hh)} {ps : List MemPlace} {shs : List Sh},
  shA P n ts=some shs→noStr P ts=true→(∀ (j : Nat) t v,ts[j]?=some t→vs[j]?=some v→Value.okWide P w r b0 t v)→DataW.TrodAll enc P w base spare held ts vs ds ps →
   ∃ gs,fitsL shs gs∧LIs (roOf w) gs vs
 | [],vs,ds,ps,shs,hs,_,_,h=>by
  simp only [shA,Option.some.injEq] at hs
  subst hs
  obtain ⟨rfl,_,_⟩:=trodAll_nil h
  exact ⟨[],rfl,rfl,by simp⟩
 | t :: ts,vs,ds,ps,shs,hs,hn,hv,h=>by
  obtain ⟨v,vs',d,ds',p,q,rfl,rfl,rfl,⟨fuel,h1⟩,h2⟩:=trodAll_cons h
  unfold shA at hs
  split at hs
  ·rename_i s r' e1 e2
   simp only [Option.some.injEq] at hs
   subst hs
   simp only [noStr,Bool.and_eq_true] at hn
   obtain ⟨gs,k1,k2⟩:=args_is n e2 hn.2 (fun j t v a b=>hv (j + 1) t v (by simpa using a) (by simpa using b)) h2
   obtain ⟨gs',l1,l2⟩:=trod_gv n fuel t _ _ _ h1 e1
   have hc:=okWide_cells e1 (hv 0 t v rfl rfl) (fun fs hfs=>by rw [hfs] at hn; cases hn.1)
   rw [hc] at l2
   exact ⟨gs'++gs,fitsL_app l1 k1,l2.app k2⟩
  ·cases hs

theorem LIs.cells {H : Hid} {gs : List GV} {us : Array Value} (h : LIs H.ro gs us.toList) : Cells H gs us:=by
 refine ⟨by simpa using h.1,fun j g hj=>?_⟩
 obtain ⟨u,hu,h1,_⟩:=h.2 j g hj
 have : us[j]?=some u:=by simpa using hu
 rw [getD_of_get? this]
 exact .ro h1

theorem arr_ints {Hh : Type} {enc : TypeId × Value→Hh} {P : Program} {w : World} {base : Nat} {spare : Nat→Bool} {held : Bool} {n : Nat} {t e : TypeId} {k : IntKind} (ht : P.underlying t=some (.array n e)) (he : P.underlying e=some (.int k)) (hc : P.cellsOf e=1) {zs : List Int} (hz : zs.length=n) (hct : P.cellsOf t=n) {fuel : Nat} {cs : List Value} {ps : List MemPlace}
  (h : DataW.trod enc P w base spare held fuel t cs=some (.agg (zs.map fun z=>.lit (.int k z)),ps)) : cs=zs.map (Value.int k):=by
 obtain ⟨xs,m1,_,hx,hlen,hn,hel⟩:=DataW.trod_array ht h
 simp only [Prod.mk.injEq,DataW.agg.injEq] at hx
 rw [hct] at hlen
 refine List.ext_getElem (by simp; omega) fun i h1 h2=>?_
 have hi : i < xs.length:=by omega
 have:=hel i (by omega)
 rw [hc,Nat.mul_one,List.getElem?_eq_getElem hi] at this
 obtain ⟨m,e1,e2,_⟩:=DataW.trod_int he this
 have e3 : (cs.drop i).take 1=[cs[i]]:=by rw [List.drop_eq_getElem_cons h1]; rfl
 rw [e3] at e1
 have e4 : (zs.map fun z=>DataW.lit (H:=Hh) (.int k z))[i]?=(xs.map (·.1))[i]?:=by rw [hx.1]
 rw [List.getElem?_map,List.getElem?_map,List.getElem?_eq_getElem hi,List.getElem?_eq_getElem (by omega),e2] at e4
 simp only [Option.map_some,Option.some.injEq,DataW.lit.injEq,Lit.int.injEq,true_and] at e4
 rw [List.getElem_map,e4]
 simpa using e1

theorem Ct.law {pg : Pg} {f : FuncId} {shs : List Sh} (hct : ∀ gs,fitsL shs gs→Ct pg f 0 gs [] (Val fun g=>g=.b true)) {w : World} {us : Array Value} {gs : List GV} (hg : ∀ H : Hid,H.ro=roOf w→GlOk pg H) (hf : fitsL shs gs) (hl : LIs (roOf w) gs us.toList) :
  Calls pg.P f us w fun e w'=>e=.returned (.bool true)∧Below w.heap.size w w':=by
 let H : Hid:=⟨roOf w,fun _=>0,fun _=>.bool false,0⟩
 refine Calls.mono (hct gs hf H us w rfl (hg H rfl) (LIs.cells (H:=H) hl) ⟨fun b o h=>h,by simp,by simp [blks],by simp [blks],by simp⟩) (fun e w' he=>?_)
 obtain ⟨u,g,H',σ',rfl,hi,hs',hfr,⟨rfl,rfl,_⟩⟩:=he
 refine ⟨by rw [hi.inv_b],hfr.os,hfr.tape,hfr.output,hfr.size,fun b hb=>hfr.keep b hb (by simp [blks])⟩

theorem trodAll_len {Hh : Type} {enc : TypeId × Value→Hh} {P : Program} {w : World} {base : Nat} {spare : Nat→Bool} {held : Bool} : ∀ {ts : List TypeId} {vs : List Value} {ds : List (DataW Hh)} {ps : List MemPlace},DataW.TrodAll enc P w base spare held ts vs ds ps→ds.length=ts.length
 | [],vs,ds,ps,h=>by obtain ⟨_,rfl,_⟩:=trodAll_nil h; rfl
 | t :: ts,vs,ds,ps,h=>by
  obtain ⟨v,vs',d,ds',p',q',rfl,rfl,rfl,_,h2⟩:=trodAll_cons h
  simp [trodAll_len h2]

section
variable {Hh : Type} {enc : TypeId × Value→Hh} {pg : Pg}

theorem law_post {fn : Func} {f : FuncId} {s : ChangeSpec} {shs : List Sh} {apart fresh handsOn again : Bool} {tb : TypeId} (ts : List TypeId) (hts : fn.params.toList=ts) (hres : fn.resultTypes=#[tb]) (hb : pg.P.underlying tb=some .bool) (hvars : s.vars=[]) (hsh : shA pg.P 8 ts=some shs) (hns : noStr pg.P ts=true)
  (hlaid : laidOutB pg.P=true) (hread : ts.all (fun t=>pg.P.readableRec t && decide (t < pg.P.types.size))=true) (hfn : ∀ ds : List (DataW Hh),ds.length=ts.length→s.fn Hh ds={ results:=[.lit (.bool true)],args:=ds })
  (hct : ∀ gs,fitsL shs gs→Ct pg f 0 gs [] (Val fun g=>g=.b true))
  {W : World} {base : Nat} {args : Array Value} {ds gs : List (DataW Hh)} {before : List MemPlace} (hgl : ∀ H : Hid,H.ro=roOf W→GlOk pg H)
  (hval : ∀ (j : Nat) t v,fn.params[j]?=some t→args[j]?=some v→Value.okWide pg.P W .any base t v) (hW : DataW.Whole enc pg.P fn.params.toList s.vars apart W args.toList ds gs before) :
  Calls pg.P f args W fun e W'=>∃ v,e=.returned v∧s.post enc pg.P fn apart fresh handsOn again W args v W':=by
 have hW':=hW
 have hlt:=hW.lt
 obtain ⟨p,q,hA,hV,rfl,hfz,hnd⟩:=hW
 rw [hts] at hA
 rw [hvars] at hV
 obtain ⟨rfl,rfl⟩:=trodVars_none hV
 obtain ⟨us,h1,h2⟩:=args_is 8 hsh hns (fun j t v a b=>hval j t v (by rw [← hts] at a; simpa using a) (by simpa using b)) hA
 have hdl:=trodAll_len hA
 refine (Ct.law hct hgl h1 h2).mono fun e W' ⟨he,hbel⟩=>?_
 have hold : ∀ x ∈ p++[],x.block < W.heap.size:=hlt
 have hargs : ∀ sp : Nat→Bool,(∀ x ∈ p,sp x.block=true)→DataW.TrodAll enc pg.P W' 0 sp true fn.params.toList args.toList ds p:=fun sp hsp=>by
  rw [hts]
  refine trodAll_stays hlaid hbel (fun t ht=>?_) hA (fun x hx=>⟨hlt x (by simp [hx]),hsp x hx⟩)
  have:=List.all_eq_true.1 hread t ht
  simpa using this
 have hres' : ∀ (b : Nat) (sp : Nat→Bool) (hd : Bool),DataW.TrodAll enc pg.P W' b sp hd fn.resultTypes.toList ((Value.bool true).resultList fn.resultTypes.size) [.lit (.bool true)] []:=fun b sp hd=>by
  rw [hres]
  exact trodAll_mk1 (p:=[]) ⟨1,by simp [DataW.trod,Value.cells,hb]⟩
 have hvr : ∀ sp : Nat→Bool,DataW.TrodVars enc pg.P W' sp s.vars [] []:=fun sp=>by rw [hvars]; rfl
 have hspec:=hfn ds hdl
 refine ⟨.bool true,he,ds,[],p++[],[],p,[],hW',?_,?_,?_,World.keptBut_mono (fun x hx=>⟨hx,.inr (by simpa using hx)⟩) (hbel.frame (· ∈ p++[])),fun _=>⟨fun j t r hj hr=>?_,.lit (.bool true) :: ds,[],([]++p)++[],⟨[]++p,[],?_,?_,rfl,fun b off hx=>?_,fun ha=>?_⟩,fun x hx _=>by simpa using hx⟩⟩
 ·rw [List.append_nil,hspec]; exact hres' _ _ _
 ·rw [List.append_nil,hspec]; exact hargs _ (fun x hx=>by simpa using hlt x (by simp [hx]))
 ·rw [List.append_nil,hspec]; exact hvr _
 ·rw [hres] at hj hr
  cases j with
  | zero =>
   simp at hj
   subst hj
   simp [Value.resultList] at hr
   subst hr
   exact okWide_bool_mk hb _
  | succ j=>simp at hj
 ·exact trodAll_append (hargs _ (fun _ _=>rfl)) (hres' _ _ _)
 ·exact hvr _
 ·have hin : MemPlace.cell b off ∈ p++[]:=by simpa using hx
  rw [hbel.frozen (hlt _ hin)]
  exact hfz b off hin
 ·simpa using hnd ha
end
end Go.GK
