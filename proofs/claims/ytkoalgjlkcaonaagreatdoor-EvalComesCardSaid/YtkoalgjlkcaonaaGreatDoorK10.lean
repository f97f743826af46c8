/-
  DERIVED: THE SHELF's CONTRACTS AT THIS DUMP, IN PLAIN WORDS (tools/lay-plain.mjs out of 'TryzShelf.lean', which tools/lay-shelf.mjs wrote): THE SAME DECLARATIONS UNDER THE SAME NAMES: 'import', 'namespace', 'open', 'def', 'theorem' AND NOTHING ELSE: no command of the shelf's: FOR A HAND-IN. Each laying: the table of numbers ('.._ren') and one theorem, a field a fact of the dump's own or the kernel's comparison; each contract: ONE APPLICATION.
-/
import Derived.Shelf.LaysM
import Derived.Shelf.LaysC
import Derived.Shelf.Strconv.ParseIntPublic10
import Derived.Test.YtkoalgjlkcaonaaGreatDoorProg
import Derived.Test.YtkoalgjlkcaonaaGreatDoorK09
import Derived.Lib.AppendIntMem
import Derived.Test.YtkoalgjlkcaonaaGreatDoorK08
import Derived.Test.YtkoalgjlkcaonaaGreatDoorK05
import Derived.Test.YtkoalgjlkcaonaaGreatDoorK07
import Derived.Test.YtkoalgjlkcaonaaGreatDoorChecked
import Derived.Shelf.Spec.SlicesInsertGrow
import Derived.Deep.RegionLaw
set_option linter.unusedSimpArgs false
namespace Go.Proofs
open Go.Shelf
def Tryz.laysC174_ren : Go.Shelf.Ren:=⟨fun | 174=>162 | 247=>172 | 245=>173 | 287=>176 | 279=>177 | 280=>178 | 281=>179 | 282=>180 | 321=>181 | 322=>182 | 316=>183 | 171=>185 | 205=>184 | 243=>186 | 246=>187 | 283=>188 | 284=>189 | 285=>190 | 286=>191 | 129=>193 | 317=>192 | 318=>194 | 319=>195 | 320=>196 | 337=>197 | 338=>198 | n=>n,fun | 9=>9 | 3=>3 | 2=>2 | 75=>42 | 85=>209 | 4=>4 | 167=>229 | 5=>5 | 53=>153 | 175=>230 | 46=>206 | 168=>232 | 37=>236 | 0=>0 | 210=>239 | 21=>21 | 127=>241 | 145=>244 | 143=>242 | 171=>246 | 173=>249 | 212=>252 | 51=>253 | 20=>20 | 213=>254 | 232=>257 | 233=>258 | 80=>135 | n=>n,fun | 15=>9 | 16=>10 | 17=>11 | 18=>12 | 19=>13 | n=>n⟩
theorem Tryz.laysC174 : Go.Proofs.LaysC.n174 Tryz.prog Tryz.laysC174_ren:={
 mixed:=by kernel_rfl
 f129:=Tryz.func193.trans (congrArg some (by kernel_rfl))
 f171:=Tryz.func185.trans (congrArg some (by kernel_rfl))
 f174:=Tryz.func162.trans (congrArg some (by kernel_rfl))
 f205:=Tryz.func184.trans (congrArg some (by kernel_rfl))
 f243:=Tryz.func186.trans (congrArg some (by kernel_rfl))
 f245:=Tryz.func173.trans (congrArg some (by kernel_rfl))
 f246:=Tryz.func187.trans (congrArg some (by kernel_rfl))
 f247:=Tryz.func172.trans (congrArg some (by kernel_rfl))
 f279:=Tryz.func177.trans (congrArg some (by kernel_rfl))
 f280:=Tryz.func178.trans (congrArg some (by kernel_rfl))
 f281:=Tryz.func179.trans (congrArg some (by kernel_rfl))
 f282:=Tryz.func180.trans (congrArg some (by kernel_rfl))
 f283:=Tryz.func188.trans (congrArg some (by kernel_rfl))
 f284:=Tryz.func189.trans (congrArg some (by kernel_rfl))
 f285:=Tryz.func190.trans (congrArg some (by kernel_rfl))
 f286:=Tryz.func191.trans (congrArg some (by kernel_rfl))
 f287:=Tryz.func176.trans (congrArg some (by kernel_rfl))
 f316:=Tryz.func183.trans (congrArg some (by kernel_rfl))
 f317:=Tryz.func192.trans (congrArg some (by kernel_rfl))
 f318:=Tryz.func194.trans (congrArg some (by kernel_rfl))
 f319:=Tryz.func195.trans (congrArg some (by kernel_rfl))
 f320:=Tryz.func196.trans (congrArg some (by kernel_rfl))
 f321:=Tryz.func181.trans (congrArg some (by kernel_rfl))
 f322:=Tryz.func182.trans (congrArg some (by kernel_rfl))
 f337:=Tryz.func197.trans (congrArg some (by kernel_rfl))
 f338:=Tryz.func198.trans (congrArg some (by kernel_rfl))
 t0:=Tryz.underlying0
 a0:=Tryz.isAgg0
 z0:=Tryz.sizeOf0
 v0:=Tryz.zeroValue0
 t2:=Tryz.underlying2
 a2:=Tryz.isAgg2
 z2:=Tryz.sizeOf2
 v2:=Tryz.zeroValue2
 t3:=Tryz.underlying3
 a3:=Tryz.isAgg3
 z3:=Tryz.sizeOf3
 v3:=Tryz.zeroValue3
 t4:=Tryz.underlying4
 a4:=Tryz.isAgg4
 z4:=Tryz.sizeOf4
 v4:=Tryz.zeroValue4
 t5:=Tryz.underlying5
 a5:=Tryz.isAgg5
 z5:=Tryz.sizeOf5
 v5:=Tryz.zeroValue5
 t9:=Tryz.underlying9
 a9:=Tryz.isAgg9
 z9:=Tryz.sizeOf9
 v9:=Tryz.zeroValue9
 t20:=Tryz.underlying20
 a20:=Tryz.isAgg20
 z20:=Tryz.sizeOf20
 v20:=Tryz.zeroValue20
 t21:=Tryz.underlying21
 a21:=Tryz.isAgg21
 z21:=Tryz.sizeOf21
 v21:=Tryz.zeroValue21
 t37:=Tryz.underlying236
 a37:=Tryz.isAgg236
 z37:=Tryz.sizeOf236
 v37:=Tryz.zeroValue236
 t46:=Tryz.underlying206
 a46:=Tryz.isAgg206
 z46:=Tryz.sizeOf206
 v46:=Tryz.zeroValue206
 t51:=Tryz.underlying253
 a51:=Tryz.isAgg253
 z51:=Tryz.sizeOf253
 v51:=Tryz.zeroValue253
 t53:=Tryz.underlying153
 a53:=Tryz.isAgg153
 z53:=Tryz.sizeOf153
 v53:=Tryz.zeroValue153
 t75:=Tryz.underlying42
 a75:=Tryz.isAgg42
 z75:=Tryz.sizeOf42
 v75:=Tryz.zeroValue42
 t85:=Tryz.underlying209
 a85:=Tryz.isAgg209
 z85:=Tryz.sizeOf209
 v85:=Tryz.zeroValue209
 t127:=Tryz.underlying241
 a127:=Tryz.isAgg241
 z127:=Tryz.sizeOf241
 v127:=Tryz.zeroValue241
 t143:=Tryz.underlying242
 a143:=Tryz.isAgg242
 z143:=Tryz.sizeOf242
 v143:=Tryz.zeroValue242
 t145:=Tryz.underlying244
 a145:=Tryz.isAgg244
 z145:=Tryz.sizeOf244
 v145:=Tryz.zeroValue244
 t167:=Tryz.underlying229
 a167:=Tryz.isAgg229
 z167:=Tryz.sizeOf229
 v167:=Tryz.zeroValue229
 t168:=Tryz.underlying232
 a168:=Tryz.isAgg232
 z168:=Tryz.sizeOf232
 v168:=Tryz.zeroValue232
 t171:=Tryz.underlying246
 a171:=Tryz.isAgg246
 z171:=Tryz.sizeOf246
 v171:=Tryz.zeroValue246
 t173:=Tryz.underlying249
 a173:=Tryz.isAgg249
 z173:=Tryz.sizeOf249
 v173:=Tryz.zeroValue249
 t175:=Tryz.underlying230
 a175:=Tryz.isAgg230
 z175:=Tryz.sizeOf230
 v175:=Tryz.zeroValue230
 t210:=Tryz.underlying239
 a210:=Tryz.isAgg239
 z210:=Tryz.sizeOf239
 v210:=Tryz.zeroValue239
 t212:=Tryz.underlying252
 a212:=Tryz.isAgg252
 z212:=Tryz.sizeOf252
 v212:=Tryz.zeroValue252
 t213:=Tryz.underlying254
 a213:=Tryz.isAgg254
 z213:=Tryz.sizeOf254
 t232:=Tryz.underlying257
 a232:=Tryz.isAgg257
 z232:=Tryz.sizeOf257
 v232:=Tryz.zeroValue257
 t233:=Tryz.underlying258
 a233:=Tryz.isAgg258
 z233:=Tryz.sizeOf258
 v233:=Tryz.zeroValue258
 g15:=by kernel_rfl
 g16:=by kernel_rfl
 g17:=by kernel_rfl
 g18:=by kernel_rfl
 g19:=by kernel_rfl
 t80:=Tryz.underlying135
 a80:=Tryz.isAgg135
 z80:=Tryz.sizeOf135
 v80:=Tryz.zeroValue135
 i0:=by kernel_rfl
 i2:=by kernel_rfl
 i3:=by kernel_rfl
 i4:=by kernel_rfl
 i5:=by kernel_rfl
 i9:=by kernel_rfl
 i20:=by kernel_rfl
 i21:=by kernel_rfl
 i37:=by kernel_rfl
 i46:=by kernel_rfl
 i51:=by kernel_rfl
 i53:=by kernel_rfl
 i75:=by kernel_rfl
 i80:=by kernel_rfl
 i85:=by kernel_rfl
 i127:=by kernel_rfl
 i143:=by kernel_rfl
 i145:=by kernel_rfl
 i167:=by kernel_rfl
 i168:=by kernel_rfl
 i171:=by kernel_rfl
 i173:=by kernel_rfl
 i175:=by kernel_rfl
 i210:=by kernel_rfl
 i212:=by kernel_rfl
 i232:=by kernel_rfl
 i233:=by kernel_rfl
 m15:=by kernel_rfl
 m16:=by kernel_rfl
 m17:=by kernel_rfl
 m18:=by kernel_rfl
 m19:=by kernel_rfl
 c0:=by kernel_rfl
 c2:=by kernel_rfl
 c3:=by kernel_rfl
 c4:=by kernel_rfl
 c5:=by kernel_rfl
 c9:=by kernel_rfl
 c20:=by kernel_rfl
 c21:=by kernel_rfl
 c37:=by kernel_rfl
 c46:=by kernel_rfl
 c51:=by kernel_rfl
 c53:=by kernel_rfl
 c75:=by kernel_rfl
 c80:=by kernel_rfl
 c85:=by kernel_rfl
 c127:=by kernel_rfl
 c143:=by kernel_rfl
 c145:=by kernel_rfl
 c167:=by kernel_rfl
 c168:=by kernel_rfl
 c171:=by kernel_rfl
 c173:=by kernel_rfl
 c175:=by kernel_rfl
 c210:=by kernel_rfl
 c212:=by kernel_rfl
 c213:=by kernel_rfl
 c232:=by kernel_rfl
 c233:=by kernel_rfl }
open Go.RowKit in
theorem Tryz.strconv_ParseInt_10_at64_ok (s : ByteArray) (hmax : s.size≤9223372036854775806) (v : Int) (h : Lib.parseIntB 64 s.data.toList=.ok v) (w : World) :
  Calls Tryz.prog 162 #[.string s,.int .i64 10,.int .i64 64] w fun e w'=>e=.returned (.tuple #[.int .i64 v,.nilIface])∧(w'=w∨∃ t,w'=Lib.bytesWorld w 5 t):=Any.strconv_ParseInt_10_at64_ok Tryz.laysC174 s hmax v h w
open Go.RowKit in
theorem Tryz.strconv_ParseInt_10_at64_syntax (s : ByteArray) (hlim : s.size≤281474976710656) (h1 : ∀ v,Lib.parseIntB 64 s.data.toList ≠ .ok v) (h2 : Lib.parseIntB 64 s.data.toList ≠ .range) (ev : Value) (w : World) (hv : w.cell? ⟨9,0,none⟩=some ev) (hev : ev=.nilIface∨∃ te pe,ev=.iface te pe) :
  Calls Tryz.prog 162 #[.string s,.int .i64 10,.int .i64 64] w fun e w'=>∃ N,e=.returned (.tuple #[.int .i64 (0),.iface 232 (.pointer (some ⟨N,0,none⟩))])∧w.heap.size≤N∧w'.heap[N]?=some (.cells #[.string ⟨#[80,97,114,115,101,73,110,116]⟩,.string s,ev] 239 (0,0))∧Below w.heap.size w w':=by
 rcases h : Lib.parseIntB 64 s.data.toList with v | _ | _
 ·exact absurd h (h1 v)
 ·exact Any.strconv_ParseInt_10_at64_syntax Tryz.laysC174 s hlim h ev w hv hev
 ·exact absurd h h2
open Go.RowKit in
theorem Tryz.strconv_ParseInt_10_at64_range (s : ByteArray) (hlim : s.size≤281474976710656) (h : Lib.parseIntB 64 s.data.toList=.range) (ev : Value) (w : World) (hv : w.cell? ⟨10,0,none⟩=some ev) (hev : ev=.nilIface∨∃ te pe,ev=.iface te pe) :
  Calls Tryz.prog 162 #[.string s,.int .i64 10,.int .i64 64] w fun e w'=>∃ N,e=.returned (.tuple #[.int .i64 (Lib.intSat 64 s.data.toList),.iface 232 (.pointer (some ⟨N,0,none⟩))])∧w.heap.size≤N∧w'.heap[N]?=some (.cells #[.string ⟨#[80,97,114,115,101,73,110,116]⟩,.string s,ev] 239 (0,0))∧Below w.heap.size w w':=Any.strconv_ParseInt_10_at64_range Tryz.laysC174 s hlim h ev w hv hev
end Go.Proofs
/-
  Contracts: questions: numbers read and written; the first of some words.
-/
namespace Go.Proofs.YtkoalgjlkcaonaaGreatDoor
open Go.GK Go.RowKit Go.PL
set_option maxRecDepth 100000
theorem parseInt_rq (s : ByteArray) (hs : s.size≤1000000) : Rq pg 162 [gs s,gi 10,gi 64] (fun g=>∃ n e,g=.tup [gi n,.v e]∧∀ k,Lib.parseIntB 64 s.data.toList=.ok k→n=k):=by
 refine Rq.callsG (p:=pg) Tryz.call162 [.string s,.int .i64 10,.int .i64 64] _ fun H w hg hro=>?_
 have tup : ∀ (n : Int) (e : Value) (ro : Nat→Option Obj),IsR ro (.tup [gi n,.v e]) (.tuple #[.int .i64 n,e]):=fun n e ro=>.tup rfl fun j g hj=>by
  match j with
  | 0=>simp at hj; subst hj; exact .v _
  | 1=>simp at hj; subst hj; exact .v _
  | j + 2=>simp at hj
 have ev : ∀ {g : Nat} {x : GV} {t : TypeId},GK.look pg.gl g=some (.r [.ifc t x])→∃ ev,w.cell? ⟨g,0,none⟩=some ev∧(ev=.nilIface∨∃ te pe,ev=.iface te pe):=fun hl=>by
  obtain ⟨u,hu,hi⟩:=hg.cellR hro hl (j:=0) rfl
  cases hi with
  | ifc h=>exact ⟨_,hu,.inr ⟨_,_,rfl⟩⟩
 rcases h : Lib.parseIntB 64 s.data.toList with v | _ | _
 ·refine (Tryz.strconv_ParseInt_10_at64_ok s (by omega) v h w).mono ?_
  rintro e w' ⟨rfl,hw⟩
  refine ⟨_,_,rfl,?_,tup v .nilIface,⟨v,_,rfl,fun k hk=>by cases hk; rfl⟩,rfl⟩
  rcases hw with rfl | ⟨t,rfl⟩
  ·exact Below.refl _ _
  ·exact Lib.bytesWorld_below w _ t
 ·obtain ⟨x,hx,hx2⟩:=ev (g:=9) rfl
  refine (Tryz.strconv_ParseInt_10_at64_syntax s (by omega) (fun v hv=>by rw [h] at hv; cases hv) (fun hv=>by rw [h] at hv; cases hv) x w hx hx2).mono ?_
  rintro e w' ⟨N,rfl,_,_,hb⟩
  exact ⟨_,_,rfl,hb,tup 0 _,⟨0,_,rfl,fun k hk=>by cases hk⟩,rfl⟩
 ·obtain ⟨x,hx,hx2⟩:=ev (g:=10) rfl
  refine (Tryz.strconv_ParseInt_10_at64_range s (by omega) h x w hx hx2).mono ?_
  rintro e w' ⟨N,rfl,_,_,hb⟩
  exact ⟨_,_,rfl,hb,tup _ _,⟨_,_,rfl,fun k hk=>by cases hk⟩,rfl⟩
theorem is_b (t : Tok) (l : List Tok) (s : ByteArray) {c : Bool} (h : isP s (t :: l)=c) : Hf pg 76 1 [.p 0 0,gs s] (ps (t :: l)) (fun g σ n=>g=.v (.bool c)∧σ=ps (t :: l)∧n=1) :=
 Hf.eqG (R:=fun σ n=>σ=ps (t :: l)∧n=1) ((is_hf t l s).imp fun _ _ _ ⟨e,r⟩=>⟨by rw [e]; exact h,r⟩)
theorem idxIs_ix (ws : List ByteArray) (hws : ws.length≤100) (t : Tok) (l : List Tok) (n : Nat) (hn : n≤ws.length) (h1 : ∀ i (h : i < ws.length),i < n→isP ws[i] (t :: l)=false) (h2 : ∀ h : n < ws.length,isP ws[n] (t :: l)=true) :
  Hf pg 75 1 [.sl 1 (ws.map fun s=>[gs s]),.fn (.func 76) [.p 0 0] []] (ps (t :: l)) (fun g σ m=>g=gi (if n < ws.length then n else -1)∧σ=ps (t :: l)∧m=1):=by
 refine Hf.of pg_ok Tryz.func75 rfl Tryz.ntmps75 rfl Tryz.results75 Tryz.call75 fun H0 S0 w0 h0 g0=>?_
 have hll : (ws.map fun s=>[gs s]).length=ws.length:=by simp
 refine JK.loop (α:=Nat) (fun i=>⟨[(0,.sl 1 (ws.map fun s=>[gs s])),(1,.fn (.func 76) [.p 0 0] []),(7,gi (ws.map fun s=>[gs s]).length),(8,gi i)],ps (t :: l),1⟩) (fun i=>i≤n) (fun i=>n - i) 0 id ?_ (Nat.zero_le _) ?_
 ·exact ⟨⟨rfl,rfl,rfl,rfl,trivial⟩,⟨rfl,trivial⟩,rfl⟩
 ·intro i hi
  refine V ?_
  by_cases hlt : i < ws.length
  ·refine p1 ?_
   refine ix (h:=?_)
   by_cases hin : i < n
   ·refine GOH (is_b t l ws[i] (h1 i hlt hin)) id rfl rfl ⟨rfl,trivial⟩ rfl (id_lt rfl) ?_
    rintro g σ' n' ⟨rfl,rfl,rfl⟩
    exact ⟨i + 1,id,⟨⟨rfl,rfl,rfl,succ_gi (by omega),trivial⟩,⟨rfl,trivial⟩,rfl⟩,hin,by show n - (i + 1) < n - i; omega⟩
   ·have hin' : i=n:=by omega
    subst hin'
    refine GOH (is_b t l ws[i] (h2 hlt)) id rfl rfl ⟨rfl,trivial⟩ rfl (id_lt rfl) ?_
    rintro g σ' n' ⟨rfl,rfl,rfl⟩
    exact ⟨by rw [if_pos hlt]; rfl,rfl,rfl⟩
  ·refine p2 ?_
   refine V ?_
   exact ⟨by rw [if_neg (by omega)]; rfl,rfl,rfl⟩
theorem findIdx_first {α : Type} {p : α→Bool} : ∀ {l : List α} {n : Nat},n≤l.length→(∀ i (h : i < l.length),i < n→p l[i]=false)→(∀ h : n < l.length,p l[n]=true)→l.findIdx? p=if n < l.length then some n else none
 | [],n,hn,_,_=>by simp
 | a :: l,0,_,_,h2=>by
  have:=h2 (by simp)
  simp only [List.getElem_cons_zero] at this
  simp [List.findIdx?_cons,this]
 | a :: l,n + 1,hn,h1,h2=>by
  have h0:=h1 0 (by simp) (by omega)
  simp only [List.getElem_cons_zero] at h0
  have ih:=findIdx_first (p:=p) (l:=l) (n:=n) (by simpa using hn) (fun i h hh=>h1 (i + 1) (by simpa using h) (by omega)) (fun h=>h2 (by simpa using h))
  rw [List.findIdx?_cons,h0,ih]
  by_cases h : n < l.length <;> simp [h]
theorem idxIs_hf (ws : List ByteArray) (hws : ws.length≤100) (t : Tok) (l : List Tok) : Hf pg 75 1 [.sl 1 (ws.map fun s=>[gs s]),.fn (.func 76) [.p 0 0] []] (ps (t :: l)) (fun g σ n=>g=gi (match ws.findIdx? fun s=>isP s (t :: l) with | some k=>k | none=>-1)∧σ=ps (t :: l)∧n=1):=by
 obtain ⟨n,hn,h1,h2,_⟩:=first_ix ws fun s=>isP s (t :: l)
 refine (idxIs_ix ws hws t l n hn h1 h2).imp fun g σ m ⟨e,r⟩=>⟨?_,r⟩
 rw [e,findIdx_first hn h1 h2]
 by_cases h : n < ws.length <;> simp [h]
theorem number_hx (t : Tok) (l : List Tok) (most : Int) (ht : t.text.size≤1000000) (hd : t.kind=2→Lib.parseIntB 64 t.text.data.toList=.ok (numT t.text)) : Hx pg 141 1 [.p 0 0,gi most] (ps (t :: l)) (fun g σ n=>numberP most (t :: l)=.ok (numT t.text,l)∧t.kind=2∧g=gi (numT t.text)∧σ=ps l∧n=1) (erR (numberP most (t :: l))):=by
 refine Hx.ofJ pg_ok Tryz.func141 rfl Tryz.ntmps141 rfl Tryz.results141 Tryz.call141 fun H0 S0 w0 h0 g0=>?_
 refine V ?_
 refine ⟨tokR t,by decide,rfl,?_⟩
 refine GOQ (parseInt_rq t.text ht) rfl ?_
 rintro g ⟨n,e,rfl,hn⟩
 refine ⟨tokR t,by decide,rfl,?_⟩
 have fin : (¬ (t.kind=2∧most < numT t.text))→numberP most (t :: l)=(match anyP 2 (t :: l) with | .ok (s,l)=>.ok (numT s,l) | .error e=>.error e):=fun h=>if_neg h
 rcases tf (t.kind == 2) with h | h
 ·have hk : t.kind=2:=by simpa using h
  obtain rfl:=hn _ (hd hk)
  refine p1 ?_ h
  rcases tf (decide (most < numT t.text)) with h2 | h2
  ·have h3:=of_decide_eq_true h2
   refine p1 ?_ h2
   refine GOX (erR (numberP most (t :: l))) (fail_hx t l 4) (fun g hg=>⟨4,t.pos,if_pos ⟨hk,h3⟩,hg⟩) id rfl rfl ⟨rfl,trivial⟩ rfl (id_lt rfl) ?_
   exact fun _ _ _ h=>h.elim
  ·have h3:=of_decide_eq_false h2
   refine p2 ?_ h2
   refine GOX (erR (numberP most (t :: l))) (any_hx t l 2) (fun g ⟨e,p,h4,h5⟩=>⟨e,p,by rw [fin (fun h=>h3 h.2),h4],h5⟩) id rfl rfl ⟨rfl,trivial⟩ rfl (id_lt rfl) ?_
   rintro g σ' n' ⟨h4,h5,rfl,rfl,rfl⟩
   refine V ?_
   exact ⟨by rw [fin (fun h=>h3 h.2),h4],hk,rfl,rfl,rfl⟩
 ·have hk : t.kind ≠ 2:=by simpa using h
  refine p2 ?_ h
  repeat (first | refine p1 ?_ | refine p2 ?_ | refine p3 ?_ | refine p4 ?_)
  refine GOX (erR (numberP most (t :: l))) (any_hx t l 2) (fun g ⟨e,p,h4,h5⟩=>⟨e,p,by rw [fin (fun h=>hk h.1),h4],h5⟩) id rfl rfl ⟨rfl,trivial⟩ rfl (id_lt rfl) ?_
  rintro g σ' n' ⟨h4,h5,rfl,rfl,rfl⟩
  exact absurd h5 hk
end Go.Proofs.YtkoalgjlkcaonaaGreatDoor
/-
  Contracts: questions: matchers.
-/
namespace Go.Proofs.YtkoalgjlkcaonaaGreatDoor
open Go.GK Go.RowKit Go.PL
set_option maxRecDepth 100000
def okR {α : Type} (P : PRes α) (G : α→GV) (L : Nat) (g : GV) (σ : Heap) (n : Nat) : Prop:=∃ a l',P=.ok (a,l')∧ToksOk l'∧l'.length < L∧g=G a∧σ=ps l'∧n=1
theorem okR_n {α : Type} {P : PRes α} {G : α→GV} {L : Nat} {f : FuncId} {args : List GV} {σ : Heap} {R : GV→Prop} (h : Hx pg f 1 args σ (fun g σ' n=>1≤n∧∃ a l',P=.ok (a,l')∧ToksOk l'∧l'.length < L∧g=G a∧σ'=ps l') R) (hG : ∀ a,idb 1 (G a)=true) : Hx pg f 1 args σ (okR P G L) R :=
 h.weak (fun _ h=>h) fun g σ' n' ⟨hn,a,l',h1,h4,h5,h2,h3⟩=>⟨id,G a,ps l',1,⟨a,l',h1,h4,h5,rfl,rfl,rfl⟩,by rw [h2,ren_id],by rw [h3]; exact ⟨rfl,trivial⟩,by simp [hG,idbH,idbR,idbL,idb,hids,distB,fixB,memB]⟩
section
variable {N n0 : Nat} {H0 : Hid} {S0 : List Nat} {w0 : World} {h0 : H0.n=n0} {g0 : GlOk pg H0} {T : Post} {k : List It} {s : St}
theorem GOBJ {all : List Oper} {o : Oper} {rest : List Oper} {f : FuncId} {cargs gs : List GV} {G : GV} (hr : Rt pg f cargs G) (hk : callG pg all s.ρ o=some (f,gs)) (hl : lents s.σ gs cargs)
  (h : dputV N s.ρ o.dst G fun ρ'=>JK ⟨pg,N,n0,H0,S0,w0,h0,g0⟩ T (.ops false all rest :: k) ⟨ρ',s.σ,s.n⟩) (hfree : roFree G=true:=by rfl) : JK ⟨pg,N,n0,H0,S0,w0,h0,g0⟩ T (.ops false all (o :: rest) :: k) s:=by
 obtain ⟨fo,args,ts,first,caps,gs',ho,hgd,hf,he,hargs⟩:=callG_spec hk
 refine JK.callB hr.ct hr.call ho hgd hf he (by rw [hargs]; exact hl) (fun g σ' n' hq=>?_) (fun g σ' n' hq=>?_)
 ·obtain ⟨⟨rfl,h1⟩,_,_⟩:=hq
  simp [h1,hfree]
 ·obtain ⟨⟨rfl,h1⟩,_,_⟩:=hq
  rw [nf_eq,← dputV_eq]
  exact h
theorem SLA (vs : List Value) {all : List Oper} {o : Oper} {rest : List Oper} {t e n : Nat} {x : Operand} {ti tie : TI} (ho : o.op=.slice t x none none none) (hgd : gdOk all s.ρ o.guard=true) (ht : tget tyTab t=some ti) (htd : ti.d=.array n e) (hte : tget tyTab e=some tie) (hsz : tie.sz=1) (hx : ev pg s.ρ x=some (.r (vs.map .v))) (hn : vs.length=n) (hne : Nat.ble 1 n=true) (hm : Nat.ble n maxLen=true) (h1 : vs.all (·.oneCell')=true)
  (h : dputV N s.ρ o.dst (.sl 1 (vs.map fun v=>[.v v])) fun ρ'=>JK ⟨pg,N,n0,H0,S0,w0,h0,g0⟩ T (.ops false all rest :: k) ⟨ρ',s.σ,s.n⟩) : JK ⟨pg,N,n0,H0,S0,w0,h0,g0⟩ T (.ops false all (o :: rest) :: k) s:=by
 rw [dputV_eq] at h
 exact JK.sliceArr (cx:=⟨pg,N,n0,H0,S0,w0,h0,g0⟩) pg_ok ho hgd ht htd hte hsz hx hn hne hm h1 h
end
theorem matchers_hx (t0 : Tok) (l0 : List Tok) (hE0 : ToksOk (t0 :: l0)) (hlen : l0.length≤1000) : Hx pg 37 1 [.p 0 0] (ps (t0 :: l0)) (okR (matchersP (t0 :: l0)) (fun m=>.sl 3 (m.map mt)) (l0.length + 1)) (erR (matchersP (t0 :: l0))):=by
 refine okR_n ?_ (fun a=>rfl)
 refine Hx.ofJ pg_ok Tryz.func37 rfl Tryz.ntmps37 rfl Tryz.results37 Tryz.call37 fun H0 S0 w0 h0 g0=>?_
 refine V ?_
 refine GOX (erR (matchersP (t0 :: l0))) (must_hx t0 l0 (bS [123])) (fun g ⟨e,p,h1,h2⟩=>⟨e,p,by rw [matchersP,h1],h2⟩) id rfl rfl ⟨rfl,trivial⟩ rfl (id_lt rfl) ?_
 rintro g σ' n' ⟨hm,htk,rfl,rfl,rfl⟩
 have hk0 : t0.kind ≠ 5:=(takesP_iff.1 htk).2
 have hE1 : ToksOk l0:=hE0.tail hk0
 have hP : matchersP (t0 :: l0)=matchersL (l0.length + 1) [] l0:=by rw [matchersP,hm]
 rw [hP]
 obtain ⟨t1,l1,rfl⟩:=hE1.cons
 refine V ?_
 show JK _ _ _ _
 refine JK.ownNil 3 116 3 rfl ?_
 refine JK.loopE (α:=Bool × List Mt × Tok × List Tok × Nat) (β:=List Mt × List Tok) (fun x=>⟨[(0,.p 0 0),(3,.o 1),(4,.v (.bool x.1))],[(0,.blk 87 [tks (x.2.2.1 :: x.2.2.2.1)]),(1,.row 116 3 (x.2.1.map mt))],2⟩)
  (fun x=>x.1=decide (x.2.1.length=0)∧ToksOk (x.2.2.1 :: x.2.2.2.1)∧x.2.2.2.1.length + 1 < x.2.2.2.2∧x.2.1.length≤8∧x.2.2.2.1.length≤l1.length∧matchersL x.2.2.2.2 x.2.1 (x.2.2.1 :: x.2.2.2.1)=matchersL ((t1 :: l1).length + 1) [] (t1 :: l1)) (fun x=>x.2.2.2.1.length)
  (fun y=>⟨[(3,.o 1)],[(0,.blk 87 [tks y.2]),(1,.row 116 3 (y.1.map mt))],2⟩) (fun y=>matchersL ((t1 :: l1).length + 1) [] (t1 :: l1)=.ok (y.1,y.2)∧ToksOk y.2∧y.2.length≤l1.length) (true,[],t1,l1,(t1 :: l1).length + 1) id ?_ ?_ ?_ ?_
 ·exact ⟨⟨rfl,rfl,rfl,trivial⟩,⟨rfl,rfl,trivial⟩,rfl⟩
 ·exact ⟨rfl,hE1,by simp,by simp,Nat.le_refl _,rfl⟩
 ·rintro ⟨b,acc,t,l,f⟩ ⟨hb,hE,hf,h8,hl,heq⟩
  replace hb : b=decide (acc.length=0):=hb
  replace hE : ToksOk (t :: l):=hE
  replace hf : l.length + 1 < f:=hf
  replace h8 : acc.length≤8:=h8
  replace hl : l.length≤l1.length:=hl
  replace heq : matchersL f acc (t :: l)=matchersL ((t1 :: l1).length + 1) [] (t1 :: l1):=heq
  obtain ⟨f,rfl⟩ : ∃ f',f=f' + 1:=⟨f - 1,by omega⟩
  refine V ?_
  rcases tf (takesP (bS [125]) (t :: l)) with hend | hend
  ·refine GOH (takes_yes t l (bS [125]) hend) id rfl rfl ⟨rfl,trivial⟩ rfl (id_lt rfl) ?_
   rintro g σ' n' ⟨rfl,rfl,rfl⟩
   exact ⟨(acc,l),id,⟨⟨rfl,trivial⟩,⟨rfl,rfl,trivial⟩,rfl⟩,⟨by rw [← heq,matchersL,if_pos hend]; rfl,hE.tail (takesP_iff.1 hend).2,hl⟩⟩
  ·refine GOJ (takes_no t l (bS [125]) hend) id rfl rfl ⟨rfl,trivial⟩ rfl (id_lt rfl) ?_
   rintro g σ' n' ⟨rfl,rfl,rfl⟩
   refine VM 7 ?_
   refine JK.cut (α:=Tok × List Tok) (fun x=>⟨[(0,.p 0 0),(3,.o 1)],[(0,.blk 87 [tks (x.1 :: x.2)]),(1,.row 116 3 (acc.map mt))],2⟩) (fun x=>ToksOk (x.1 :: x.2)∧x.2.length≤l.length∧(if acc.length=0 then .ok ((),t :: l) else mustP (bS [44]) (t :: l))=(.ok ((),x.1 :: x.2) : PRes Unit)) ?_ ?_
   ·cases b with
    | true =>
     have ha : acc.length=0:=of_decide_eq_true hb.symm
     refine V ?_
     exact ⟨(t,l),id,⟨⟨rfl,rfl,trivial⟩,⟨rfl,rfl,trivial⟩,rfl⟩,hE,Nat.le_refl _,by rw [if_pos ha]⟩
    | false =>
     have ha : ¬ acc.length=0:=of_decide_eq_false hb.symm
     refine V ?_
     refine GOX (erR (matchersL ((t1 :: l1).length + 1) [] (t1 :: l1))) (must_hx t l (bS [44])) (fun g ⟨e,p,h1,h2⟩=>⟨e,p,by rw [← heq,matchersL,if_neg (by simp [hend]),if_neg ha,h1],h2⟩) id rfl rfl ⟨rfl,trivial⟩ rfl (id_lt rfl) ?_
     rintro g σ' n' ⟨hm,htk,rfl,rfl,rfl⟩
     have hE2:=hE.tail (takesP_iff.1 htk).2
     obtain ⟨t2,l2,rfl⟩:=hE2.cons
     refine V ?_
     exact ⟨(t2,l2),id,⟨⟨rfl,rfl,trivial⟩,⟨rfl,rfl,trivial⟩,rfl⟩,hE2,by simp,by rw [if_neg ha]; exact hm⟩
   rintro ⟨t2,l2⟩ ⟨hE2,hl2,hc⟩
   replace hE2 : ToksOk (t2 :: l2):=hE2
   replace hl2 : l2.length≤l.length:=hl2
   have hM : matchersL (f + 1) acc (t :: l)=if 8≤acc.length then failP 4 (t2 :: l2) else (match matcherP (t2 :: l2) with | .error e=>.error e | .ok (m,l)=>matchersL f (acc++[m]) l):=by
    replace hc : (if acc.length=0 then .ok ((),t :: l) else mustP (bS [44]) (t :: l))=(.ok ((),t2 :: l2) : PRes Unit):=hc
    rw [matchersL,if_neg (by simp [hend]),hc]
    rfl
   rw [heq] at hM
   refine V ?_
   by_cases h8' : 8≤acc.length
   ·refine p1 ?_ (decide_eq_true (by simp; omega))
    refine GOX (erR (matchersL ((t1 :: l1).length + 1) [] (t1 :: l1))) (fail_hx t2 l2 4) (fun g hg=>⟨4,t2.pos,by rw [hM,if_pos h8']; rfl,hg⟩) id rfl rfl ⟨rfl,trivial⟩ rfl (id_lt rfl) ?_
    exact fun _ _ _ h=>h.elim
   refine p2 ?_ (decide_eq_false (by simp; omega))
   rw [if_neg h8'] at hM
   refine GOX (erR (matchersL ((t1 :: l1).length + 1) [] (t1 :: l1))) (name_hx t2 l2) (fun g ⟨e,p,h1,h2⟩=>⟨e,p,by rw [hM,matcherP,h1],h2⟩) id rfl rfl ⟨rfl,trivial⟩ rfl (id_lt rfl) ?_
   rintro g σ' n' ⟨hn,hk1,rfl,rfl,rfl⟩
   have hE3:=hE2.tail (by omega)
   obtain ⟨t3,l3,rfl⟩:=hE3.cons
   have hPm : matcherP (t2 :: t3 :: l3)=(match opsL.findIdx? fun s=>isP s (t3 :: l3) with
     | none=>failP 3 (t3 :: l3)
     | some k=>match mustP (opsL.getD k ⟨#[]⟩) (t3 :: l3) with
      | .error e=>.error e
      | .ok (_,l)=>match anyP 3 l with
       | .error e=>.error e
       | .ok (s,l')=>if valueF (s.extract 1 (s.size - 1)) then .ok (⟨t2.text,k,s.extract 1 (s.size - 1)⟩,l') else failP 4 l):=by
    rw [matcherP,hn]
    rfl
   rw [hPm] at hM
   refine VM 6 ?_
   refine SLA (opsL.map .string) rfl rfl rfl rfl rfl rfl rfl rfl rfl rfl rfl ?_
   refine V ?_
   cases hfi : opsL.findIdx? fun s=>isP s (t3 :: l3) with
   | none =>
    rw [hfi] at hM
    refine GOH ((idxIs_hf opsL (by decide) t3 l3).imp (Q':=fun g σ n=>g=gi (-1)∧σ=ps (t3 :: l3)∧n=1) fun g σ n ⟨e,r⟩=>⟨by rw [e,hfi],r⟩) id rfl rfl ⟨rfl,trivial⟩ rfl (id_lt rfl) ?_
    rintro g σ' n' ⟨rfl,rfl,rfl⟩
    refine p1 ?_
    refine GOX (erR (matchersL ((t1 :: l1).length + 1) [] (t1 :: l1))) (fail_hx t3 l3 3) (fun g hg=>⟨3,t3.pos,by rw [hM]; rfl,hg⟩) id rfl rfl ⟨rfl,trivial⟩ rfl (id_lt rfl) ?_
    exact fun _ _ _ h=>h.elim
   | some j =>
    rw [hfi] at hM
    have hj : j < 4:=(List.findIdx?_eq_some_iff_getElem.1 hfi).1
    refine GOH ((idxIs_hf opsL (by decide) t3 l3).imp (Q':=fun g σ n=>g=gi j∧σ=ps (t3 :: l3)∧n=1) fun g σ n ⟨e,r⟩=>⟨by rw [e,hfi],r⟩) id rfl rfl ⟨rfl,trivial⟩ rfl (id_lt rfl) ?_
    rintro g σ' n' ⟨rfl,rfl,rfl⟩
    refine p2 ?_
    refine ⟨by omega,by omega,?_⟩
    refine ons_mk (g:=gs (opsL.getD j ⟨#[]⟩)) ?_ ?_
    ·match j,hj with
     | 0,_=>rfl
     | 1,_=>rfl
     | 2,_=>rfl
     | 3,_=>rfl
    refine GOX (erR (matchersL ((t1 :: l1).length + 1) [] (t1 :: l1))) (must_hx t3 l3 (opsL.getD j ⟨#[]⟩)) (fun g ⟨e,p,h1,h2⟩=>⟨e,p,by rw [hM]; simp only [h1],h2⟩) id rfl rfl ⟨rfl,trivial⟩ rfl (id_lt rfl) ?_
    rintro g σ' n' ⟨hmu,htk2,rfl,rfl,rfl⟩
    have hE4:=hE3.tail (takesP_iff.1 htk2).2
    obtain ⟨t4,l4,rfl⟩:=hE4.cons
    simp only [hmu] at hM
    refine V ?_
    refine ⟨tokR t4,by decide,rfl,?_⟩
    refine GOX (erR (matchersL ((t1 :: l1).length + 1) [] (t1 :: l1))) (any_hx t4 l4 3) (fun g ⟨e,p,h1,h2⟩=>⟨e,p,by rw [hM]; simp only [h1],h2⟩) id rfl rfl ⟨rfl,trivial⟩ rfl (id_lt rfl) ?_
    rintro g σ' n' ⟨han,hk3,rfl,rfl,rfl⟩
    have hE5:=hE4.tail (by omega)
    obtain ⟨t5,l5,rfl⟩:=hE5.cons
    have ht4:=(hE4.each t4 List.mem_cons_self)
    have hsz:=quo_size ht4.1 hk3
    have hsz2:=ht4.2
    have hw : IntKind.i64.wrap ((t4.text.size : Int) - 1)=((t4.text.size - 1 : Nat) : Int):=by rw [wrap_id (by omega) (by omega)]; omega
    refine V ?_
    refine ⟨by decide,by rw [hw]; omega,by rw [hw]; omega,?_⟩
    have hv : t4.text.extract (1 : Int).toNat (IntKind.i64.wrap ((t4.text.size : Int) - 1)).toNat=t4.text.extract 1 (t4.text.size - 1):=by rw [hw]; rfl
    have hm1 : (⟨t2.text,j,t4.text.extract (1 : Int).toNat (IntKind.i64.wrap ((t4.text.size : Int) - 1)).toNat⟩ : Mt)=⟨t2.text,j,t4.text.extract 1 (t4.text.size - 1)⟩:=by rw [hv]
    have hSm : Sm2 [(⟨t2.text,j,t4.text.extract (1 : Int).toNat (IntKind.i64.wrap ((t4.text.size : Int) - 1)).toNat⟩ : Mt)]:=fun x hx=>by
     rw [List.mem_singleton.1 hx,hv,ByteArray.size_extract]
     omega
    have hnm : nameF t2.text=true:=nameP_ok hn hk1
    have hask:=asked_one (m:=⟨t2.text,j,t4.text.extract (1 : Int).toNat (IntKind.i64.wrap ((t4.text.size : Int) - 1)).toNat⟩) hnm (by simp) (by simp; omega)
    simp only [han] at hM
    rw [← hm1,← hv] at hM
    rcases tf (valueF (t4.text.extract (1 : Int).toNat (IntKind.i64.wrap ((t4.text.size : Int) - 1)).toNat)) with hvf | hvf
    ·rw [if_pos hvf] at hM
     refine GOB ((lasked_rt _ hSm).bt (hask.trans hvf)) rfl ⟨⟨rfl,rfl⟩,trivial⟩ ?_
     refine ⟨by simp; omega,?_⟩
     refine ⟨(false,acc++[⟨t2.text,j,t4.text.extract (1 : Int).toNat (IntKind.i64.wrap ((t4.text.size : Int) - 1)).toNat⟩],t5,l5,f),fun i=>bif Nat.beq i 1 then 6 else i,⟨⟨rfl,rfl,rfl,trivial⟩,⟨rfl,?_,trivial⟩,rfl⟩,⟨?_,hE5,?_,?_,?_,hM.symm⟩,?_⟩
     ·exact congrArg (fun x=>some (Res.row 116 3 x)) (List.map_append (l₁:=acc) (l₂:=[⟨t2.text,j,t4.text.extract (1 : Int).toNat (IntKind.i64.wrap ((t4.text.size : Int) - 1)).toNat⟩]) (f:=mt)).symm
     ·exact (decide_eq_false (by simp)).symm
     ·show l5.length + 1 < f
      simp at hl2
      omega
     ·show (acc++[_]).length≤8
      simp
      omega
     ·show l5.length≤l1.length
      simp at hl2
      omega
     ·show l5.length < l.length
      simp at hl2
      omega
    ·rw [if_neg (Bool.eq_false_iff.1 hvf)] at hM
     refine GOBJ ((lasked_rt _ hSm).bt (hask.trans hvf)) rfl ⟨⟨rfl,rfl⟩,trivial⟩ ?_
     refine VM 11 ?_
     refine JK.freezeB 5 rfl rfl ?_
     refine JK.throw rfl rfl rfl rfl ?_
     intro v X σ n hX
     exact ⟨v,_,X,rfl,hX,⟨4,t4.pos,hM,rfl⟩,rfl⟩
 ·rintro ⟨acc,l⟩ ⟨hq,hq2,hq3⟩
  refine FRZ 1 rfl ?_
  exact ⟨Nat.le_of_ble_eq_true rfl,acc,l,hq,hq2,by simp; exact Nat.lt_succ_of_le (Nat.le_succ_of_le hq3),rfl,rfl⟩
end Go.Proofs.YtkoalgjlkcaonaaGreatDoor
/-
  Contracts: questions: what is asked of one thing.
-/
namespace Go.Proofs.YtkoalgjlkcaonaaGreatDoor
open Go.GK Go.RowKit Go.PL
set_option maxRecDepth 100000
def qG : Qn→GV
 | .nil=>.v (.pointer none)
 | .mk c n m sp ns l r=>.r [gi c,gi n,.sl 3 (m.map mt),gi sp,.sl 1 (ns.map fun s=>[gs s]),qG l,qG r]
theorem idb_qG : ∀ (q : Qn) (n : Nat),idb n (qG q)=true
 | .nil,_=>rfl
 | .mk ..,_=>rfl
theorem ren_qG (q : Qn) (f : Nat→Nat) : ren f (qG q)=qG q:=ren_none f (idb_qG q 0)
def okA (P : PRes Qn) (L : Nat) (g : GV) (σ : Heap) (n : Nat) : Prop:=∃ q l',P=.ok (q,l')∧q ≠ .nil∧ToksOk l'∧l'.length < L∧g=qG q∧σ=ps l'∧n=1
theorem okA_n {P : PRes Qn} {L : Nat} {f : FuncId} {args : List GV} {σ : Heap} {R : GV→Prop} (h : Hx pg f 1 args σ (fun g σ' n=>1≤n∧∃ q l',P=.ok (q,l')∧q ≠ .nil∧ToksOk l'∧l'.length < L∧g=qG q∧σ'=ps l') R) : Hx pg f 1 args σ (okA P L) R :=
 h.weak (fun _ h=>h) fun g σ' n' ⟨hn,q,l',h1,h0,h4,h5,h2,h3⟩=>⟨id,qG q,ps l',1,⟨q,l',h1,h0,h4,h5,rfl,rfl,rfl⟩,by rw [h2,ren_id],by rw [h3]; exact ⟨rfl,trivial⟩,by simp [idb_qG,idbH,idbR,idbL,idb,hids,distB,fixB,memB]⟩
structure AskOk (f : Nat) : Prop where
 one : ∀ (n : Nat) (t : Tok) (l : List Tok),n≤100→ToksOk (t :: l)→l.length≤200→3 * (l.length + 1) + 1≤f→Hx pg 119 1 [.p 0 0,gi n] (ps (t :: l)) (okA (oneP f n (t :: l)) (l.length + 1)) (erR (oneP f n (t :: l)))
 sum : ∀ (n : Nat) (t : Tok) (l : List Tok),n≤100→ToksOk (t :: l)→l.length≤200→3 * (l.length + 1) + 3≤f→Hx pg 48 1 [.p 0 0,gi n] (ps (t :: l)) (okA (sumP f n (t :: l)) (l.length + 1)) (erR (sumP f n (t :: l)))
 product : ∀ (n : Nat) (t : Tok) (l : List Tok),n≤100→ToksOk (t :: l)→l.length≤200→3 * (l.length + 1) + 2≤f→Hx pg 87 1 [.p 0 0,gi n] (ps (t :: l)) (okA (productP f n (t :: l)) (l.length + 1)) (erR (productP f n (t :: l)))
theorem Sub.eq {x y : GV} (h : x=y) : Sub x y:=h ▸ Sub.rfl
theorem sv7 {a b x d y l r a' x' y' : GV} (ha : Sub a a') (hx : Sub x x') (hy : Sub y y') : SubV [a,b,x,d,y,l,r] [a',b,x',d,y',l,r] :=
 .cons ha (.cons Sub.rfl (.cons hx (.cons Sub.rfl (.cons hy (.cons Sub.rfl (.cons Sub.rfl .nil))))))
theorem one_hx (f : Nat) (ih : AskOk f) (n : Nat) (t : Tok) (l : List Tok) (hn : n≤100) (hE : ToksOk (t :: l)) (hl : l.length≤200) (hf : 3 * (l.length + 1) + 1≤f + 1) : Hx pg 119 1 [.p 0 0,gi n] (ps (t :: l)) (okA (oneP (f + 1) n (t :: l)) (l.length + 1)) (erR (oneP (f + 1) n (t :: l))):=by
 refine okA_n ?_
 have hw : IntKind.i64.wrap ((n : Int) + 1)=((n + 1 : Nat) : Int):=by rw [wrap_id (by omega) (by omega)]; rfl
 generalize hP : oneP (f + 1) n (t :: l)=P
 rw [oneP] at hP
 refine Hx.ofJ pg_ok Tryz.func119 rfl Tryz.ntmps119 rfl Tryz.results119 Tryz.call119 fun H0 S0 w0 h0 g0=>?_
 refine V ?_
 by_cases h8 : 8 < n
 ·rw [if_pos h8] at hP
  refine p1 ?_ (decide_eq_true (by omega))
  refine GOX (erR P) (fail_hx t l 4) (fun g hg=>⟨4,t.pos,by rw [← hP]; rfl,hg⟩) id rfl rfl ⟨rfl,trivial⟩ rfl (id_lt rfl) ?_
  exact fun _ _ _ h=>h.elim
 rw [if_neg h8] at hP
 refine p2 ?_ (decide_eq_false (by omega))
 rcases tf (takesP (bS [45]) (t :: l)) with h1 | h1
 ·rw [if_pos h1] at hP
  have hE2:=hE.tail (takesP_iff.1 h1).2
  refine GOH (takes_yes t l (bS [45]) h1) id rfl rfl ⟨rfl,trivial⟩ rfl (id_lt rfl) ?_
  rintro g σ' n' ⟨rfl,rfl,rfl⟩
  obtain ⟨t2,l2,rfl⟩:=hE2.cons
  have hl2 : l2.length + 1≤200:=hl
  refine GOX (erR P) (ih.one (n + 1) t2 l2 (by omega) hE2 (by omega) (by simp at hf; omega)) (fun g ⟨e,p,h2,h3⟩=>⟨e,p,by rw [← hP,List.tail_cons,h2],h3⟩) id rfl (congrArg (fun x : Int=>[GV.p 0 0,gi x]) hw) ⟨rfl,trivial⟩ rfl (id_lt rfl) ?_
  rintro g σ' n' ⟨q,l3,hq,hne,hE3,hl3,rfl,rfl,rfl⟩
  cases q with
  | nil=>exact absurd rfl hne
  | mk c nn m sp ns ql qr =>
   refine VM 4 ?_
   show JK _ _ _ _
   refine JK.subBlk 1 [gi 12,gi 0,.sl 3 [],gi 0,.sl 1 [],qG (.mk c nn m sp ns ql qr),.v (.pointer none)] rfl (sv7 Sub.rfl (Sub.nil 3) (Sub.nil 1)) ?_
   refine JK.freezeB 1 rfl rfl ?_
   refine V ?_
   exact ⟨Nat.le_of_ble_eq_true rfl,.mk 12 0 [] 0 [] (.mk c nn m sp ns ql qr) .nil,l3,by rw [← hP,List.tail_cons,hq],by simp,hE3,Nat.lt_succ_of_lt hl3,rfl,rfl⟩
 rw [if_neg (Bool.eq_false_iff.1 h1)] at hP
 refine GOH (takes_no t l (bS [45]) h1) id rfl rfl ⟨rfl,trivial⟩ rfl (id_lt rfl) ?_
 rintro g σ' n' ⟨rfl,rfl,rfl⟩
 rcases tf (takesP (bS [40]) (t :: l)) with h1 | h1
 ·rw [if_pos h1] at hP
  have hE2:=hE.tail (takesP_iff.1 h1).2
  refine GOH (takes_yes t l (bS [40]) h1) id rfl rfl ⟨rfl,trivial⟩ rfl (id_lt rfl) ?_
  rintro g σ' n' ⟨rfl,rfl,rfl⟩
  obtain ⟨t2,l2,rfl⟩:=hE2.cons
  have hl2 : l2.length + 1≤200:=hl
  refine GOX (erR P) (ih.sum (n + 1) t2 l2 (by omega) hE2 (by omega) (by simp at hf; omega)) (fun g ⟨e,p,h2,h3⟩=>⟨e,p,by rw [← hP,List.tail_cons,h2],h3⟩) id rfl (congrArg (fun x : Int=>[GV.p 0 0,gi x]) hw) ⟨rfl,trivial⟩ rfl (id_lt rfl) ?_
  rintro g σ' n' ⟨q,l3,hq,hne,hE3,hl3,rfl,rfl,rfl⟩
  rw [List.tail_cons,hq] at hP
  obtain ⟨t3,l3,rfl⟩:=hE3.cons
  cases q with
  | nil=>exact absurd rfl hne
  | mk c nn m sp ns ql qr =>
   refine V ?_
   refine GOX (erR P) (must_hx t3 l3 (bS [41])) (fun g ⟨e,p,h2,h3⟩=>⟨e,p,by rw [← hP]; simp only [h2],h3⟩) id rfl rfl ⟨rfl,trivial⟩ rfl (id_lt rfl) ?_
   rintro g σ' n' ⟨hmu,htk,rfl,rfl,rfl⟩
   refine V ?_
   have hl3' : l3.length + 1 < l2.length + 1:=hl3
   exact ⟨Nat.le_of_ble_eq_true rfl,.mk c nn m sp ns ql qr,l3,by rw [← hP]; simp only [hmu],hne,hE3.tail (takesP_iff.1 htk).2,by simp; omega,rfl,rfl⟩
 rw [if_neg (Bool.eq_false_iff.1 h1)] at hP
 refine GOH (takes_no t l (bS [40]) h1) id rfl rfl ⟨rfl,trivial⟩ rfl (id_lt rfl) ?_
 rintro g σ' n' ⟨rfl,rfl,rfl⟩
 refine ⟨tokR t,by decide,rfl,?_⟩
 have ht:=hE.each t List.mem_cons_self
 by_cases hk : t.kind=2
 ·rw [if_pos (show (hdT (t :: l)).kind=2 from hk)] at hP
  refine p1 ?_ (by simp [hk])
  refine GOX (erR P) (number_hx t l 9223372036854775807 (by have:=ht.2; omega) (fun hk=>(num_tok ht.1 hk).1)) (fun g ⟨e,p,h2,h3⟩=>⟨e,p,by rw [← hP,h2],h3⟩) id rfl rfl ⟨rfl,trivial⟩ rfl (id_lt rfl) ?_
  rintro g σ' n' ⟨hnu,_,rfl,rfl,rfl⟩
  refine VM 4 ?_
  show JK _ _ _ _
  refine JK.subBlk 1 [gi 1,gi (numT t.text),.sl 3 [],gi 0,.sl 1 [],.v (.pointer none),.v (.pointer none)] rfl (sv7 Sub.rfl (Sub.nil 3) (Sub.nil 1)) ?_
  refine JK.freezeB 1 rfl rfl ?_
  refine V ?_
  exact ⟨Nat.le_of_ble_eq_true rfl,.mk 1 (numT t.text) [] 0 [] .nil .nil,l,by rw [← hP,hnu],by simp,hE.tail (by omega),Nat.lt_succ_self _,rfl,rfl⟩
 rw [if_neg (show ¬ (hdT (t :: l)).kind=2 from hk)] at hP
 refine p2 ?_ (by simp [hk])
 rcases tf (isP (bS [123]) (t :: l)) with h1 | h1
 ·rw [if_pos h1] at hP
  refine GOH (is_b t l (bS [123]) h1) id rfl rfl ⟨rfl,trivial⟩ rfl (id_lt rfl) ?_
  rintro g σ' n' ⟨rfl,rfl,rfl⟩
  refine GOX (erR P) (matchers_hx t l hE (by omega)) (fun g ⟨e,p,h2,h3⟩=>⟨e,p,by rw [← hP,h2],h3⟩) id rfl rfl ⟨rfl,trivial⟩ rfl (id_lt rfl) ?_
  rintro g σ' n' ⟨m,l2,hm,hE2,hl2,rfl,rfl,rfl⟩
  refine VM 4 ?_
  show JK _ _ _ _
  refine JK.subBlk 1 [gi 2,gi 0,.sl 3 (m.map mt),gi 300,.sl 1 [],.v (.pointer none),.v (.pointer none)] rfl (sv7 Sub.rfl Sub.rfl (Sub.nil 1)) ?_
  refine JK.freezeB 1 rfl rfl ?_
  refine V ?_
  exact ⟨Nat.le_of_ble_eq_true rfl,.mk 2 0 m 300 [] .nil .nil,l2,by rw [← hP,hm],by simp,hE2,hl2,rfl,rfl⟩
 rw [if_neg (Bool.eq_false_iff.1 h1)] at hP
 refine GOJ (is_b t l (bS [123]) h1) id rfl rfl ⟨rfl,trivial⟩ rfl (id_lt rfl) ?_
 rintro g σ' n' ⟨rfl,rfl,rfl⟩
 refine VM 6 ?_
 refine SLA (oversL.map .string) rfl rfl rfl rfl rfl rfl rfl rfl rfl rfl rfl ?_
 cases hfi : oversL.findIdx? fun s=>isP s (t :: l) with
 | some j =>
  simp only [hfi] at hP
  have hj : j < 5:=(List.findIdx?_eq_some_iff_getElem.1 hfi).1
  refine V ?_
  refine GOH ((idxIs_hf oversL (by decide) t l).imp (Q':=fun g σ n=>g=gi j∧σ=ps (t :: l)∧n=1) fun g σ n ⟨e,r⟩=>⟨by rw [e,hfi],r⟩) id rfl rfl ⟨rfl,trivial⟩ rfl (id_lt rfl) ?_
  rintro g σ' n' ⟨rfl,rfl,rfl⟩
  refine p1 ?_ (decide_eq_true (by omega))
  refine ⟨by omega,by omega,?_⟩
  refine ons_mk (g:=gs (oversL.getD j ⟨#[]⟩)) ?_ ?_
  ·match j,hj with
   | 0,_=>rfl
   | 1,_=>rfl
   | 2,_=>rfl
   | 3,_=>rfl
   | 4,_=>rfl
  refine GOX (erR P) (must_hx t l (oversL.getD j ⟨#[]⟩)) (fun g ⟨e,p,h2,h3⟩=>⟨e,p,by rw [← hP,h2],h3⟩) id rfl rfl ⟨rfl,trivial⟩ rfl (id_lt rfl) ?_
  rintro g σ' n' ⟨hmu,htk,rfl,rfl,rfl⟩
  have hE2:=hE.tail (takesP_iff.1 htk).2
  simp only [hmu] at hP
  obtain ⟨t2,l2,rfl⟩:=hE2.cons
  simp only [List.length_cons] at hl hf
  refine V ?_
  refine GOX (erR P) (must_hx t2 l2 (bS [40])) (fun g ⟨e,p,h2,h3⟩=>⟨e,p,by rw [← hP,h2],h3⟩) id rfl rfl ⟨rfl,trivial⟩ rfl (id_lt rfl) ?_
  rintro g σ' n' ⟨hmu2,htk2,rfl,rfl,rfl⟩
  have hE3:=hE2.tail (takesP_iff.1 htk2).2
  simp only [hmu2] at hP
  obtain ⟨t3,l3,rfl⟩:=hE3.cons
  simp only [List.length_cons] at hl hf
  refine V ?_
  refine GOX (erR P) (matchers_hx t3 l3 hE3 (by omega)) (fun g ⟨e,p,h2,h3⟩=>⟨e,p,by rw [← hP,h2],h3⟩) id rfl rfl ⟨rfl,trivial⟩ rfl (id_lt rfl) ?_
  rintro g σ' n' ⟨m,l4,hm,hE4,hl4,rfl,rfl,rfl⟩
  simp only [hm] at hP
  obtain ⟨t4,l4,rfl⟩:=hE4.cons
  simp only [List.length_cons] at hl4
  refine V ?_
  refine GOX (erR P) (must_hx t4 l4 (bS [91])) (fun g ⟨e,p,h2,h3⟩=>⟨e,p,by rw [← hP,h2],h3⟩) id rfl rfl ⟨rfl,trivial⟩ rfl (id_lt rfl) ?_
  rintro g σ' n' ⟨hmu4,htk4,rfl,rfl,rfl⟩
  have hE5:=hE4.tail (takesP_iff.1 htk4).2
  simp only [hmu4] at hP
  obtain ⟨t5,l5,rfl⟩:=hE5.cons
  simp only [List.length_cons] at hl4
  have ht5:=hE5.each t5 List.mem_cons_self
  refine V ?_
  refine GOX (erR P) (number_hx t5 l5 1099511627776 (by have:=ht5.2; omega) (fun hk=>(num_tok ht5.1 hk).1)) (fun g ⟨e,p,h2,h3⟩=>⟨e,p,by rw [← hP,h2],h3⟩) id rfl rfl ⟨rfl,trivial⟩ rfl (id_lt rfl) ?_
  rintro g σ' n' ⟨hnu,hk5,rfl,rfl,rfl⟩
  have hE6:=hE5.tail (by omega)
  simp only [hnu] at hP
  obtain ⟨t6,l6,rfl⟩:=hE6.cons
  simp only [List.length_cons] at hl4
  refine VM 4 ?_
  have hwj : gi (3 + (j : Int))=gi (IntKind.i64.wrap (3 + (j : Int))):=by rw [wrap_id (by omega) (by omega)]
  refine JK.cut (α:=Unit) (fun _=>⟨[(0,.p 0 0),(7,.p 1 0)],[(0,.blk 87 [tks (t6 :: l6)]),(1,.blk 74 [gi (IntKind.i64.wrap (3 + (j : Int))),gi 0,.sl 3 (m.map mt),gi (if numT t5.text < 1 then 1 else numT t5.text),.v (.slice none 0 0),.v (.pointer none),.v (.pointer none)])],2⟩) (fun _=>True) ?_ ?_
  ·refine V ?_
   by_cases h1 : numT t5.text < 1
   ·refine p1 ?_ (decide_eq_true h1)
    exact ⟨(),id,⟨⟨rfl,rfl,trivial⟩,⟨rfl,by rw [if_pos h1]; rfl,trivial⟩,rfl⟩,trivial⟩
   ·refine p2 ?_ (decide_eq_false h1)
    exact ⟨(),id,⟨⟨rfl,rfl,trivial⟩,⟨rfl,by rw [if_neg h1]; rfl,trivial⟩,rfl⟩,trivial⟩
  rintro _ _
  refine JK.subBlk 1 [gi (3 + (j : Int)),gi 0,.sl 3 (m.map mt),gi (if numT t5.text < 1 then 1 else numT t5.text),.sl 1 [],.v (.pointer none),.v (.pointer none)] rfl (sv7 (Sub.eq hwj) Sub.rfl (Sub.nil 1)) ?_
  refine JK.freezeB 1 rfl rfl ?_
  refine V ?_
  refine GOX (erR P) (must_hx t6 l6 (bS [93])) (fun g ⟨e,p,h2,h3⟩=>⟨e,p,by rw [← hP,h2],h3⟩) id rfl rfl ⟨rfl,trivial⟩ rfl (id_lt rfl) ?_
  rintro g σ' n' ⟨hmu6,htk6,rfl,rfl,rfl⟩
  have hE7:=hE6.tail (takesP_iff.1 htk6).2
  simp only [hmu6] at hP
  obtain ⟨t7,l7,rfl⟩:=hE7.cons
  simp only [List.length_cons] at hl4
  refine V ?_
  refine GOX (erR P) (must_hx t7 l7 (bS [41])) (fun g ⟨e,p,h2,h3⟩=>⟨e,p,by rw [← hP,h2],h3⟩) id rfl rfl ⟨rfl,trivial⟩ rfl (id_lt rfl) ?_
  rintro g σ' n' ⟨hmu7,htk7,rfl,rfl,rfl⟩
  have hE8:=hE7.tail (takesP_iff.1 htk7).2
  simp only [hmu7] at hP
  refine V ?_
  exact ⟨Nat.le_of_ble_eq_true rfl,.mk (3 + j) 0 m (if numT t5.text < 1 then 1 else numT t5.text) [] .nil .nil,l7,hP.symm,by simp,hE8,by simp; omega,rfl,rfl⟩
 | none =>
  simp only [hfi] at hP
  refine VM 2 ?_
  refine GOJ ((idxIs_hf oversL (by decide) t l).imp (Q':=fun g σ n=>g=gi (-1)∧σ=ps (t :: l)∧n=1) fun g σ n ⟨e,r⟩=>⟨by rw [e,hfi],r⟩) id rfl rfl ⟨rfl,trivial⟩ rfl (id_lt rfl) ?_
  rintro g σ' n' ⟨rfl,rfl,rfl⟩
  refine VM 11 ?_
  refine p2 ?_
  show JK _ _ _ _
  refine SLA (allsL.map .string) rfl rfl rfl rfl rfl rfl rfl rfl rfl rfl rfl ?_
  refine V ?_
  cases hfi : allsL.findIdx? fun s=>isP s (t :: l) with
  | none =>
   simp only [hfi] at hP
   refine GOH ((idxIs_hf allsL (by decide) t l).imp (Q':=fun g σ n=>g=gi (-1)∧σ=ps (t :: l)∧n=1) fun g σ n ⟨e,r⟩=>⟨by rw [e,hfi],r⟩) id rfl rfl ⟨rfl,trivial⟩ rfl (id_lt rfl) ?_
   rintro g σ' n' ⟨rfl,rfl,rfl⟩
   refine p1 ?_
   refine GOX (erR P) (fail_hx t l 3) (fun g hg=>⟨3,t.pos,by rw [← hP]; rfl,hg⟩) id rfl rfl ⟨rfl,trivial⟩ rfl (id_lt rfl) ?_
   exact fun _ _ _ h=>h.elim
  | some j =>
   simp only [hfi] at hP
   have hj : j < 4:=(List.findIdx?_eq_some_iff_getElem.1 hfi).1
   refine GOH ((idxIs_hf allsL (by decide) t l).imp (Q':=fun g σ n=>g=gi j∧σ=ps (t :: l)∧n=1) fun g σ n ⟨e,r⟩=>⟨by rw [e,hfi],r⟩) id rfl rfl ⟨rfl,trivial⟩ rfl (id_lt rfl) ?_
   rintro g σ' n' ⟨rfl,rfl,rfl⟩
   refine p2 ?_ (decide_eq_false (by omega))
   refine ⟨by omega,by omega,?_⟩
   refine ons_mk (g:=gs (allsL.getD j ⟨#[]⟩)) ?_ ?_
   ·match j,hj with
    | 0,_=>rfl
    | 1,_=>rfl
    | 2,_=>rfl
    | 3,_=>rfl
   refine GOX (erR P) (must_hx t l (allsL.getD j ⟨#[]⟩)) (fun g ⟨e,p,h2,h3⟩=>⟨e,p,by rw [← hP,h2],h3⟩) id rfl rfl ⟨rfl,trivial⟩ rfl (id_lt rfl) ?_
   rintro g σ' n' ⟨hmu,htk,rfl,rfl,rfl⟩
   have hE2:=hE.tail (takesP_iff.1 htk).2
   simp only [hmu] at hP
   obtain ⟨t2,l2,rfl⟩:=hE2.cons
   simp only [List.length_cons] at hl hf
   refine V ?_
   refine GOX (erR P) (must_hx t2 l2 (bS [40])) (fun g ⟨e,p,h2,h3⟩=>⟨e,p,by rw [← hP,h2],h3⟩) id rfl rfl ⟨rfl,trivial⟩ rfl (id_lt rfl) ?_
   rintro g σ' n' ⟨hmu2,htk2,rfl,rfl,rfl⟩
   have hE3:=hE2.tail (takesP_iff.1 htk2).2
   simp only [hmu2] at hP
   obtain ⟨t3,l3,rfl⟩:=hE3.cons
   simp only [List.length_cons] at hl hf
   refine V ?_
   refine GOX (erR P) (ih.sum (n + 1) t3 l3 (by omega) hE3 (by omega) (by omega)) (fun g ⟨e,p,h2,h3⟩=>⟨e,p,by rw [← hP,h2],h3⟩) id rfl (congrArg (fun x : Int=>[GV.p 0 0,gi x]) hw) ⟨rfl,trivial⟩ rfl (id_lt rfl) ?_
   rintro g σ' n' ⟨q,l4,hq,hne,hE4,hl4,rfl,rfl,rfl⟩
   simp only [hq] at hP
   obtain ⟨t4,l4,rfl⟩:=hE4.cons
   simp only [List.length_cons] at hl4
   cases q with
   | nil=>exact absurd rfl hne
   | mk c nn m sp ns ql qr =>
   refine VM 4 ?_
   show JK _ _ _ _
   have hwj : gi (8 + (j : Int))=gi (IntKind.i64.wrap (8 + (j : Int))):=by rw [wrap_id (by omega) (by omega)]
   refine JK.subBlk 1 [gi (8 + (j : Int)),gi 0,.sl 3 [],gi 0,.v (.slice none 0 0),.r [gi c,gi nn,.sl 3 (m.map mt),gi sp,.sl 1 (ns.map fun s=>[gs s]),qG ql,qG qr],.v (.pointer none)] rfl (sv7 (Sub.eq hwj) (Sub.nil 3) Sub.rfl) ?_
   refine V ?_
   refine GOX (erR P) (must_hx t4 l4 (bS [41])) (fun g ⟨e,p,h2,h3⟩=>⟨e,p,by rw [← hP,h2],h3⟩) id rfl rfl ⟨rfl,trivial⟩ rfl (id_lt rfl) ?_
   rintro g σ' n' ⟨hmu4,htk4,rfl,rfl,rfl⟩
   have hE5:=hE4.tail (takesP_iff.1 htk4).2
   simp only [hmu4] at hP
   obtain ⟨t5,l5,rfl⟩:=hE5.cons
   simp only [List.length_cons] at hl4
   refine V ?_
   rcases tf (takesP (bS [98,121]) (t5 :: l5)) with hby | hby
   ·rw [if_pos hby,List.tail_cons] at hP
    have hE6:=hE5.tail (takesP_iff.1 hby).2
    obtain ⟨t6,l6,rfl⟩:=hE6.cons
    refine GOH (takes_yes t5 _ (bS [98,121]) hby) id rfl rfl ⟨rfl,trivial⟩ rfl (id_lt rfl) ?_
    rintro g σ' n' ⟨rfl,rfl,rfl⟩
    refine GOX (erR P) (must_hx t6 l6 (bS [40])) (fun g ⟨e,p,h2,h3⟩=>⟨e,p,by rw [← hP,h2],h3⟩) id rfl rfl ⟨rfl,trivial⟩ rfl (id_lt rfl) ?_
    rintro g σ' n' ⟨hmu6,htk6,rfl,rfl,rfl⟩
    have hE7:=hE6.tail (takesP_iff.1 htk6).2
    simp only [hmu6] at hP
    obtain ⟨t7,l7,rfl⟩:=hE7.cons
    simp only [List.length_cons] at hl4
    refine V ?_
    show JK _ _ _ _
    generalize hR : namesL ((t7 :: l7).length + 1) [] (t7 :: l7)=R at hP
    refine JK.ownNilB 1 4 9 1 rfl rfl ?_
    refine JK.loopE (α:=Bool × List ByteArray × Tok × List Tok × Nat) (β:=List ByteArray × Tok × List Tok) (fun x=>⟨[(0,.p 0 0),(9,.p 1 0),(10,.v (.bool x.1))],[(0,.blk 87 [tks (x.2.2.1 :: x.2.2.2.1)]),(1,.blk 74 [gi (8 + (j : Int)),gi 0,.sl 3 [],gi 0,.o 2,.r [gi c,gi nn,.sl 3 (m.map mt),gi sp,.sl 1 (ns.map fun s=>[gs s]),qG ql,qG qr],.v (.pointer none)]),(2,.row 9 1 (x.2.1.map fun s=>[gs s]))],3⟩)
     (fun x=>(if x.1=true then x.2.1=[]∧namesL x.2.2.2.2 [] (x.2.2.1 :: x.2.2.2.1)=R else (if takesP (bS [44]) (x.2.2.1 :: x.2.2.2.1)=true then namesL x.2.2.2.2 x.2.1 x.2.2.2.1 else .ok (x.2.1,x.2.2.1 :: x.2.2.2.1))=R)∧ToksOk (x.2.2.1 :: x.2.2.2.1)∧x.2.2.2.1.length < x.2.2.2.2∧x.2.1.length≤8∧x.2.2.2.1.length≤l7.length) (fun x=>x.2.2.2.1.length)
     (fun y=>⟨[(0,.p 0 0),(9,.p 1 0)],[(0,.blk 87 [tks (y.2.1 :: y.2.2)]),(1,.blk 74 [gi (8 + (j : Int)),gi 0,.sl 3 [],gi 0,.o 2,.r [gi c,gi nn,.sl 3 (m.map mt),gi sp,.sl 1 (ns.map fun s=>[gs s]),qG ql,qG qr],.v (.pointer none)]),(2,.row 9 1 (y.1.map fun s=>[gs s]))],3⟩) (fun y=>R=.ok (y.1,y.2.1 :: y.2.2)∧ToksOk (y.2.1 :: y.2.2)∧y.2.2.length≤l7.length) (true,[],t7,l7,(t7 :: l7).length + 1) id ?_ ?_ ?_ ?_
    ·exact ⟨⟨rfl,rfl,rfl,trivial⟩,⟨rfl,rfl,rfl,trivial⟩,rfl⟩
    ·exact ⟨⟨rfl,hR⟩,hE7,by simp; omega,by simp,Nat.le_refl _⟩
    ·rintro ⟨b,acc,t8,l8,f8⟩ ⟨hb,hE8,hf8,h8c,hl8⟩
     replace hE8 : ToksOk (t8 :: l8):=hE8
     replace hf8 : l8.length < f8:=hf8
     replace h8c : acc.length≤8:=h8c
     replace hl8 : l8.length≤l7.length:=hl8
     refine VM 1 ?_
     refine JK.cut (α:=Tok × List Tok × Nat) (fun x=>⟨[(0,.p 0 0),(9,.p 1 0)],[(0,.blk 87 [tks (x.1 :: x.2.1)]),(1,.blk 74 [gi (8 + (j : Int)),gi 0,.sl 3 [],gi 0,.o 2,.r [gi c,gi nn,.sl 3 (m.map mt),gi sp,.sl 1 (ns.map fun s=>[gs s]),qG ql,qG qr],.v (.pointer none)]),(2,.row 9 1 (acc.map fun s=>[gs s]))],3⟩) (fun x=>namesL (x.2.2 + 1) acc (x.1 :: x.2.1)=R∧ToksOk (x.1 :: x.2.1)∧x.2.1.length < x.2.2 + 1∧x.2.1.length≤l8.length) ?_ ?_
     ·obtain ⟨f8,rfl⟩ : ∃ f,f8=f + 1:=⟨f8 - 1,by omega⟩
      cases b with
      | true =>
       obtain ⟨hacc,hb⟩:=hb
       replace hacc : acc=[]:=hacc
       replace hb : namesL (f8 + 1) [] (t8 :: l8)=R:=hb
       refine V ?_
       exact ⟨(t8,l8,f8),id,⟨⟨rfl,rfl,trivial⟩,⟨rfl,rfl,rfl,trivial⟩,rfl⟩,by rw [hacc]; exact hb,hE8,hf8,Nat.le_refl _⟩
      | false =>
       replace hb : (if takesP (bS [44]) (t8 :: l8)=true then namesL (f8 + 1) acc l8 else .ok (acc,t8 :: l8))=R:=hb
       refine V ?_
       rcases tf (takesP (bS [44]) (t8 :: l8)) with hc | hc
       ·rw [if_pos hc] at hb
        have hE9:=hE8.tail (takesP_iff.1 hc).2
        obtain ⟨t9,l9,rfl⟩:=hE9.cons
        refine GOH (takes_yes t8 _ (bS [44]) hc) id rfl rfl ⟨rfl,trivial⟩ rfl (id_lt rfl) ?_
        rintro g σ' n' ⟨rfl,rfl,rfl⟩
        exact ⟨(t9,l9,f8),id,⟨⟨rfl,rfl,trivial⟩,⟨rfl,rfl,rfl,trivial⟩,rfl⟩,hb,hE9,by simp at hf8 ⊢; omega,by simp⟩
       ·rw [if_neg (Bool.eq_false_iff.1 hc)] at hb
        refine GOH (takes_no t8 l8 (bS [44]) hc) id rfl rfl ⟨rfl,trivial⟩ rfl (id_lt rfl) ?_
        rintro g σ' n' ⟨rfl,rfl,rfl⟩
        exact ⟨(acc,t8,l8),id,⟨⟨rfl,rfl,trivial⟩,⟨rfl,rfl,rfl,trivial⟩,rfl⟩,hb.symm,hE8,hl8⟩
     rintro ⟨t9,l9,f9⟩ ⟨hR9,hE9,hf9,hl9⟩
     replace hE9 : ToksOk (t9 :: l9):=hE9
     replace hf9 : l9.length < f9 + 1:=hf9
     replace hl9 : l9.length≤l8.length:=hl9
     replace hR9 : namesL (f9 + 1) acc (t9 :: l9)=R:=hR9
     rw [namesL] at hR9
     refine V ?_
     by_cases h8' : 8≤acc.length
     ·rw [if_pos h8'] at hR9
      refine p1 ?_ (decide_eq_true (by simp; omega))
      refine GOX (erR P) (fail_hx t9 l9 4) (fun g hg=>⟨4,t9.pos,by rw [← hP,← hR9]; rfl,hg⟩) id rfl rfl ⟨rfl,trivial⟩ rfl (id_lt rfl) ?_
      exact fun _ _ _ h=>h.elim
     rw [if_neg h8'] at hR9
     refine p2 ?_ (decide_eq_false (by simp; omega))
     show JK _ _ _ _
     cases hnp : nameP (t9 :: l9) with
     | error ee =>
      obtain ⟨e1,p1⟩:=ee
      simp only [hnp] at hR9
      refine DRAWX [0] false (tk [0,1,2,3,4,5]) (by kernel_rfl) ?_
      refine RGOX (erR P) 6 false [] (name_hx t9 l9) (fun g ⟨e,p,h2,h3⟩=>⟨e,p,by rw [hnp] at h2; rw [← hP,← hR9]; exact congrArg _ (Except.error.inj h2),h3⟩) id rfl rfl rfl ⟨rfl,trivial⟩ rfl (id_lt rfl) (by kernel_rfl) ?_
      rintro g σ' n' ⟨h2,_⟩
      rw [hnp] at h2
      cases h2
     | ok rr =>
      have hH : Hf pg 74 1 [.p 0 0] (ps (t9 :: l9)) (fun g σ n=>nameP (t9 :: l9)=.ok (t9.text,l9)∧t9.kind=1∧g=gs t9.text∧σ=ps l9∧n=1) :=
       ((name_hx t9 l9).imp (R':=fun _=>False) (fun g ⟨e,p,h,_⟩=>by rw [hnp] at h; cases h) (fun _ _ _ h=>h)).hf
      have hn0 : rr=(t9.text,l9)∧t9.kind=1:=nameP_is hnp
      obtain ⟨rfl,hk9⟩:=hn0
      have hE10:=hE9.tail (by omega)
      obtain ⟨t10,l10,rfl⟩:=hE10.cons
      simp only [hnp] at hR9
      simp only [List.length_cons] at hf9 hl9
      have hx1 : l10.length < f9:=by omega
      have hx2 : (acc++[t9.text]).length≤8:=by simp; omega
      have hx3 : l10.length≤l7.length:=by omega
      have hx4 : l10.length < l8.length:=by omega
      refine DRAWX [0,1,2] false (tk [0,1,2,3,5]) (by kernel_rfl) ?_
      refine RA.both 4 6 (eqB_eq (by kernel_rfl)) (Stp.read 4 pg_ok rfl rfl ?_) (Stp.hf 6 hH id rfl rfl rfl ⟨rfl,trivial⟩ rfl (id_lt rfl) ?_)
      ·refine RGOX (erR P) 6 true (al [7,8]++tk [9,10]++al [11]) hH.x (R:=fun _=>False) (fun g h=>h.elim) id rfl rfl rfl ⟨rfl,trivial⟩ rfl (id_lt rfl) (by kernel_rfl) ?_
       rintro g σ' n' ⟨hn1,hn2,rfl,rfl,rfl⟩
       refine ⟨by simp; omega,?_⟩
       refine V ?_
       exact ⟨(false,acc++[t9.text],t10,l10,f9),fun i=>bif Nat.beq i 2 then 4 else i,⟨⟨rfl,rfl,rfl,trivial⟩,⟨rfl,rfl,congrArg (fun x=>some (Res.row 9 1 x)) (List.map_append (l₁:=acc) (l₂:=[t9.text])).symm,trivial⟩,rfl⟩,⟨hR9,hE10,hx1,hx2,hx3⟩,hx4⟩
      ·rintro g σ' n' ⟨hn1,hn2,rfl,rfl,rfl⟩
       refine RA.both 4 7 (eqB_eq (by kernel_rfl)) (Stp.read 4 pg_ok rfl rfl ?_) (Stp.mem 7 pg_ok rfl rfl rfl ?_)
       ·refine RA.runX (cx:=⟨pg,_,_,_,_,_,_,_⟩) pg_ok (by kernel_rfl) (fun _ _ _ _ h=>h) (al [7,8]++tk [9,10]++al [11]) (e:=true) (by kernel_rfl) ?_
        refine ⟨by simp; omega,?_⟩
        refine V ?_
        exact ⟨(false,acc++[t9.text],t10,l10,f9),fun i=>bif Nat.beq i 2 then 4 else i,⟨⟨rfl,rfl,rfl,trivial⟩,⟨rfl,rfl,congrArg (fun x=>some (Res.row 9 1 x)) (List.map_append (l₁:=acc) (l₂:=[t9.text])).symm,trivial⟩,rfl⟩,⟨hR9,hE10,hx1,hx2,hx3⟩,hx4⟩
       ·refine RA.runX (cx:=⟨pg,_,_,_,_,_,_,_⟩) pg_ok (by kernel_rfl) (fun _ _ _ _ h=>h) (al [4,8]++tk [9,10]++al [11]) (e:=true) (by kernel_rfl) ?_
        refine ⟨by simp; omega,?_⟩
        refine V ?_
        exact ⟨(false,acc++[t9.text],t10,l10,f9),fun i=>bif Nat.beq i 2 then 4 else i,⟨⟨rfl,rfl,rfl,trivial⟩,⟨rfl,rfl,congrArg (fun x=>some (Res.row 9 1 x)) (List.map_append (l₁:=acc) (l₂:=[t9.text])).symm,trivial⟩,rfl⟩,⟨hR9,hE10,hx1,hx2,hx3⟩,hx4⟩
    ·rintro ⟨acc,t8,l8⟩ ⟨hq2,hE8,hl8⟩
     replace hE8 : ToksOk (t8 :: l8):=hE8
     replace hl8 : l8.length≤l7.length:=hl8
     replace hq2 : R=.ok (acc,t8 :: l8):=hq2
     simp only [hq2] at hP
     refine FRZ 2 rfl ?_
     show JK _ _ _ _
     refine JK.freezeB 1 rfl rfl ?_
     refine V ?_
     refine GOX (erR P) (must_hx t8 l8 (bS [41])) (fun g ⟨e,p,h2,h3⟩=>⟨e,p,by rw [← hP,h2],h3⟩) id rfl rfl ⟨rfl,trivial⟩ rfl (id_lt rfl) ?_
     rintro g σ' n' ⟨hmu8,htk8,rfl,rfl,rfl⟩
     simp only [hmu8] at hP
     refine V ?_
     exact ⟨Nat.le_of_ble_eq_true rfl,.mk (8 + j) 0 [] 0 acc (.mk c nn m sp ns ql qr) .nil,l8,hP.symm,by simp,hE8.tail (takesP_iff.1 htk8).2,by simp; omega,rfl,rfl⟩
   ·rw [if_neg (Bool.eq_false_iff.1 hby)] at hP
    refine GOJ (takes_no t5 l5 (bS [98,121]) hby) id rfl rfl ⟨rfl,trivial⟩ rfl (id_lt rfl) ?_
    rintro g σ' n' ⟨rfl,rfl,rfl⟩
    refine JK.subBlk 1 [gi (8 + (j : Int)),gi 0,.sl 3 [],gi 0,.sl 1 [],.r [gi c,gi nn,.sl 3 (m.map mt),gi sp,.sl 1 (ns.map fun s=>[gs s]),qG ql,qG qr],.v (.pointer none)] rfl (sv7 Sub.rfl Sub.rfl (Sub.nil 1)) ?_
    refine JK.freezeB 1 rfl rfl ?_
    refine V ?_
    exact ⟨Nat.le_of_ble_eq_true rfl,.mk (8 + j) 0 [] 0 [] (.mk c nn m sp ns ql qr) .nil,t5 :: l5,hP.symm,by simp,hE5,by simp; omega,rfl,rfl⟩
end Go.Proofs.YtkoalgjlkcaonaaGreatDoor
/-
  The ghost machine: what is known when a region that draws its order is under way: all that is told, also what came of calls.
-/
namespace Go.GK
open Go.RowKit
theorem Fr.trans {H0 H1 H2 : Hid} {S0 S1 S2 : List Nat} {w0 w1 w2 : World} (h : Fr H0 S0 w0 H1 S1 w1) (h' : Fr H1 S1 w1 H2 S2 w2) : Fr H0 S0 w0 H2 S2 w2:=by
 refine ⟨h'.os.trans h.os,h'.tape.trans h.tape,h'.output.trans h.output,Nat.le_trans h.size h'.size,fun b hb hn=>?_,fun b hb=>?_,fun b h0 h2=>?_,h.le.trans h'.le⟩
 ·rw [h'.keep b (Nat.lt_of_lt_of_le hb h.size) fun hc=>?_,h.keep b hb hn]
  rcases h.own b hc with h1 | h1
  ·exact hn h1
  ·omega
 ·rcases h'.own b hb with h1 | h1
  ·exact h.own b h1
  ·exact .inr (Nat.le_trans h.size h1)
 ·by_cases h1 : H1.ro b=none
  ·rcases h'.fro b h1 h2 with h3 | h3
   ·exact h.own b h3
   ·exact .inr (Nat.le_trans h.size h3)
  ·exact h.fro b h0 h1
section
variable {cx : Cx} {T : Post}
end
end Go.GK
/-
  Rules: in a region that draws its order, what came of calls is known, too.
-/
namespace Go.Proofs.YtkoalgjlkcaonaaGreatDoor
open Go.GK Go.RowKit
end Go.Proofs.YtkoalgjlkcaonaaGreatDoor
/-
  Contracts: the document's points put together (raingaugeref.groups).
-/
namespace Go.Proofs.YtkoalgjlkcaonaaGreatDoor
open Go.GK Go.PL Go.RowKit
set_option maxRecDepth 100000
def kOk (A : List Pt) (ls : List Lb) (j : Nat) (k : Int) : Prop:=(k=-1∧∀ (n : Nat) (hn : n < A.length),n < j→A[n].labels ≠ ls)∨∃ (n : Nat) (hn : n < A.length),n < j∧k=n∧A[n].labels=ls
theorem groups_rt (c num : Int) (m : List Mt) (sp : Int) (b : List ByteArray) (ql qr : Qn) (l : List Pt) (hl : l.length≤1000) (hlab : LabB l) (hb : b.length≤1000000) :
  Rt pg 57 [qG (.mk c num m sp b ql qr),pts l] (pts (togF c b l)):=by
 refine Rt.of pg_ok Tryz.func57 rfl Tryz.ntmps57 rfl Tryz.results57 Tryz.call57 fun H0 S0 w0 h0 g0=>?_
 have hll : (l.map ptc).length=l.length:=by simp
 refine JK.ownNilB 0 0 47 2 rfl rfl ?_
 refine JK.loopE (α:=Nat) (β:=Unit) (fun i=>⟨[(0,qG (.mk c num m sp b ql qr)),(5,.p 0 0),(13,pts l),(14,gi (l.map ptc).length),(15,gi i)],[(0,.blk 34 [.o 1]),(1,.row 47 2 ((((l.take i).map (grp c b)).foldl (putP c) []).map ptc))],2⟩) (fun i=>i≤l.length) (fun i=>l.length - i)
  (fun _=>⟨[(5,.p 0 0)],[(0,.blk 34 [.o 1]),(1,.row 47 2 (((l.map (grp c b)).foldl (putP c) []).map ptc))],2⟩) (fun _=>True) 0 id ?_ (Nat.zero_le _) ?_ ?_
 ·exact ⟨⟨rfl,rfl,rfl,rfl,rfl,trivial⟩,⟨rfl,rfl,trivial⟩,rfl⟩
 ·intro i hi
  refine V ?_
  by_cases hlt : i < l.length
  ·have hst : ((l.take (i + 1)).map (grp c b)).foldl (putP c) []=putP c (((l.take i).map (grp c b)).foldl (putP c) []) (grp c b l[i]):=by
    rw [List.take_succ_eq_append_getElem hlt,List.map_append,List.foldl_append]
    rfl
   have hdl:=put_dl (c:=c) (by_:=b) (l.take i)
   have hAl : (((l.take i).map (grp c b)).foldl (putP c) []).length≤i:=by
    have:=put_len c ((l.take i).map (grp c b)) []
    rw [List.length_map,List.length_take,List.length_nil] at this
    omega
   have hAb : LabB (((l.take i).map (grp c b)).foldl (putP c) []):=put_lab c _ _ (fun p hp=>by
    obtain ⟨q,hq,rfl⟩:=List.mem_map.1 hp
    exact Nat.le_trans (List.length_filter_le _ _) (hlab q (List.mem_of_mem_take hq))) (fun p hp=>by cases hp)
   generalize ((l.take i).map (grp c b)).foldl (putP c) []=A at hst hdl hAl hAb ⊢
   have hlb:=hlab l[i] (List.getElem_mem hlt)
   have hon:=refOnly_rt l[i].labels b hlb hb
   have hAm : (A.map ptc).length=A.length:=by simp
   refine p1 ?_ (decide_eq_true (by omega))
   refine ix (h:=?_)
   refine FZB 2 rfl rfl ?_
   refine DRAW [] false (tk [0,1,2,3,4,5]) (by kernel_rfl) ?_
   refine RGO 6 true (al [7]) hon rfl rfl (by kernel_rfl) ?_
   refine VM 7 ?_
   refine JK.cut (α:=Unit) (fun _=>⟨[(0,qG (.mk c num m sp b ql qr)),(5,.p 0 0),(13,pts l),(14,gi (l.map ptc).length),(15,gi i),(8,lbs (grp c b l[i]).labels),(9,gi (grp c b l[i]).value)],[(0,.blk 34 [.o 1]),(1,.row 47 2 (A.map ptc))],3⟩) (fun _=>True) ?_ ?_
   ·refine V ?_
    by_cases h11 : c=11
    ·refine p1 ?_ (decide_eq_true h11)
     refine ⟨(),id,⟨⟨rfl,rfl,rfl,rfl,rfl,rfl,?_,trivial⟩,⟨rfl,rfl,trivial⟩,rfl⟩,trivial⟩
     rw [grp,if_pos h11]
     rfl
    ·refine p2 ?_ (decide_eq_false h11)
     refine ⟨(),id,⟨⟨rfl,rfl,rfl,rfl,rfl,rfl,?_,trivial⟩,⟨rfl,rfl,trivial⟩,rfl⟩,trivial⟩
     rw [grp,if_neg h11]
     rfl
   rintro _ _
   have hxl : (grp c b l[i]).labels.length≤1000000:=Nat.le_trans (List.length_filter_le _ _) hlb
   generalize grp c b l[i]=x at hst hxl ⊢
   refine V ?_
   refine JK.loopE (α:=Nat × Int) (β:=Int) (fun z=>⟨[(0,qG (.mk c num m sp b ql qr)),(5,.p 0 0),(13,pts l),(14,gi (l.map ptc).length),(15,gi i),(8,lbs x.labels),(9,gi x.value),(10,gi z.2),(33,.o 1),(34,gi A.length),(35,gi z.1)],[(0,.blk 34 [.o 1]),(1,.row 47 2 (A.map ptc))],3⟩) (fun z=>z.1≤A.length∧kOk A x.labels z.1 z.2) (fun z=>A.length - z.1)
    (fun k=>⟨[(0,qG (.mk c num m sp b ql qr)),(5,.p 0 0),(13,pts l),(14,gi (l.map ptc).length),(15,gi i),(8,lbs x.labels),(9,gi x.value),(10,gi k)],[(0,.blk 34 [.o 1]),(1,.row 47 2 (A.map ptc))],3⟩) (fun k=>kOk A x.labels A.length k) (0,-1) id ?_ ⟨Nat.zero_le _,.inl ⟨rfl,fun n hn h=>absurd h (by omega)⟩⟩ ?_ ?_
   ·exact ⟨⟨rfl,rfl,rfl,rfl,rfl,rfl,rfl,rfl,rfl,congrArg (fun n : Nat=>some (gi (n : Int))) hAm,rfl,trivial⟩,⟨rfl,rfl,trivial⟩,rfl⟩
   ·rintro ⟨j,k⟩ ⟨hj,hk⟩
    simp only at hj hk
    refine V ?_
    by_cases hjl : j < A.length
    ·have hc:=refCompare_rt A[j].labels x.labels (hAb _ (List.getElem_mem hjl)) hxl
     refine p1 ?_ (decide_eq_true (by dsimp only; omega))
     refine ⟨by dsimp only; omega,by dsimp only; omega,?_⟩
     refine ⟨ptc A[j],by simp [hjl],?_⟩
     refine GO hc rfl ?_
     by_cases he : A[j].labels=x.labels
     ·refine p1 ?_ (decide_eq_true ((cmpF_is.eq0 _ _).2 he))
      exact ⟨(j + 1,(j : Int)),id,⟨⟨rfl,rfl,rfl,rfl,rfl,rfl,rfl,rfl,rfl,rfl,succ_gi (by dsimp only; omega),trivial⟩,⟨rfl,rfl,trivial⟩,rfl⟩,⟨hjl,.inr ⟨j,hjl,Nat.lt_succ_self _,rfl,he⟩⟩,by dsimp only; omega⟩
     ·refine p2 ?_ (decide_eq_false fun h=>he ((cmpF_is.eq0 _ _).1 h))
      refine ⟨(j + 1,k),id,⟨⟨rfl,rfl,rfl,rfl,rfl,rfl,rfl,rfl,rfl,rfl,succ_gi (by dsimp only; omega),trivial⟩,⟨rfl,rfl,trivial⟩,rfl⟩,⟨hjl,?_⟩,by dsimp only; omega⟩
      rcases hk with ⟨h1,h2⟩ | ⟨n,hn,h1,h2,h3⟩
      ·refine .inl ⟨h1,fun n hn h=>?_⟩
       rcases Nat.lt_succ_iff_lt_or_eq.1 h with h | h
       ·exact h2 n hn h
       ·subst h; exact he
      ·exact .inr ⟨n,hn,by dsimp only; omega,h2,h3⟩
    ·refine p2 ?_ (decide_eq_false (by dsimp only; omega))
     obtain rfl : j=A.length:=by omega
     exact ⟨k,id,⟨⟨rfl,rfl,rfl,rfl,rfl,rfl,rfl,rfl,trivial⟩,⟨rfl,rfl,trivial⟩,rfl⟩,hk⟩
   ·rintro k hk
    refine V ?_
    rcases hk with ⟨rfl,h2⟩ | ⟨n,hn,_,rfl,h3⟩
    ·refine p1 ?_ rfl
     refine ⟨by simp only [List.length_map,List.length_cons,List.length_nil]; omega,?_⟩
     refine ⟨i + 1,r1 1 4,⟨⟨rfl,rfl,rfl,rfl,succ_gi (by omega),trivial⟩,⟨rfl,?_,trivial⟩,rfl⟩,hlt,by show l.length - (i + 1) < l.length - i; omega⟩
     rw [hst,putP_no (fun y hy=>by
      obtain ⟨n,hn,rfl⟩:=List.getElem_of_mem hy
      exact h2 n hn hn),List.map_append]
     rfl
    ·have hRs : (A.map ptc).set n [lbs A[n].labels,gi (combF c A[n].value x.value)]=(putP c A x).map ptc:=by
      rw [putP_yes hn h3 (fun j hj hjn h=>List.pairwise_iff_getElem.1 hdl j n hj hn hjn (h.trans h3.symm)),List.map_set]
     have hRi : (A.map ptc)[n]?=some (ptc A[n]):=by simp [hn]
     refine p2 ?_ (decide_eq_false (by omega))
     by_cases h9 : c=9
     ·refine p1 ?_ (decide_eq_true h9)
      refine DRAW [1] true (tk [0,1,2,3,4,5,7]++al [6]++tk [8,9,10]++al [11]) (by kernel_rfl) ?_
      refine ⟨by omega,by omega,?_⟩
      refine ⟨_,hRi,?_⟩
      refine ⟨by omega,by omega,?_⟩
      refine ⟨_,hRi,?_⟩
      refine V ?_
      refine ⟨i + 1,id,⟨⟨rfl,rfl,rfl,rfl,succ_gi (by omega),trivial⟩,⟨rfl,?_,trivial⟩,rfl⟩,hlt,by show l.length - (i + 1) < l.length - i; omega⟩
      rw [hst,← hRs]
      exact congrArg (fun z=>some (Res.row 47 2 ((A.map ptc).set n [lbs A[n].labels,gi z]))) (by rw [combF,if_pos h9]; split <;> omega)
     refine p2 ?_ (decide_eq_false h9)
     by_cases h10 : c=10
     ·refine p1 ?_ (decide_eq_true h10)
      refine DRAW [1] true (tk [0,1,2,3,4,5,7]++al [6]++tk [8,9,10]++al [11]) (by kernel_rfl) ?_
      refine ⟨by omega,by omega,?_⟩
      refine ⟨_,hRi,?_⟩
      refine ⟨by omega,by omega,?_⟩
      refine ⟨_,hRi,?_⟩
      refine V ?_
      refine ⟨i + 1,id,⟨⟨rfl,rfl,rfl,rfl,succ_gi (by omega),trivial⟩,⟨rfl,?_,trivial⟩,rfl⟩,hlt,by show l.length - (i + 1) < l.length - i; omega⟩
      rw [hst,← hRs]
      exact congrArg (fun z=>some (Res.row 47 2 ((A.map ptc).set n [lbs A[n].labels,gi z]))) (by rw [combF,if_neg h9,if_pos h10]; split <;> omega)
     refine p2 ?_ (decide_eq_false h10)
     refine ⟨by omega,by omega,?_⟩
     refine ⟨_,hRi,?_⟩
     refine ⟨by omega,by omega,?_⟩
     refine ⟨_,hRi,?_⟩
     refine ⟨i + 1,id,⟨⟨rfl,rfl,rfl,rfl,succ_gi (by omega),trivial⟩,⟨rfl,?_,trivial⟩,rfl⟩,hlt,by show l.length - (i + 1) < l.length - i; omega⟩
     rw [hst,← hRs]
     exact congrArg (fun z=>some (Res.row 47 2 ((A.map ptc).set n [lbs A[n].labels,gi z]))) (by rw [combF,if_neg h9,if_neg h10]; rfl)
  ·refine p2 ?_ (decide_eq_false (by omega))
   obtain rfl : i=l.length:=by omega
   rw [List.take_length]
   exact ⟨(),id,⟨⟨rfl,trivial⟩,⟨rfl,rfl,trivial⟩,rfl⟩,trivial⟩
 ·rintro _ _
  have hAl : ((l.map (grp c b)).foldl (putP c) []).length≤l.length:=by
   have:=put_len c (l.map (grp c b)) []
   rw [List.length_map,List.length_nil] at this
   omega
  have hAb : LabB ((l.map (grp c b)).foldl (putP c) []):=put_lab c _ _ (fun p hp=>by
   obtain ⟨q,hq,rfl⟩:=List.mem_map.1 hp
   exact Nat.le_trans (List.length_filter_le _ _) (hlab q hq)) (fun p hp=>by cases hp)
  have hend:=fun m=>tog_sorted (c:=c) (by_:=b) (l:=l) (m:=m)
  generalize (l.map (grp c b)).foldl (putP c) []=A at hAl hAb hend
  obtain ⟨lB,rfl⟩ : ∃ lB : List PtB,lB.map (·.1)=A:=⟨A.pmap (fun x h=>⟨x,h⟩) (fun x hx=>hAb x hx),by rw [List.map_pmap]; simp⟩
  have hm : ∀ m : List PtB,(m.map (·.1)).map ptc=m.map ptB:=fun m=>by rw [List.map_map]; rfl
  rw [List.length_map] at hAl
  rw [hm]
  refine V ?_
  refine GOJ (points_entry (g:=93) lB (fun l'=>l'.Perm lB∧Srt ltP l') (fun h1=>⟨.refl _,?_⟩) (by omega) (stable_hf points_se wo_ltP lB (by omega))) (rr 1 0) rfl rfl ⟨rfl,rfl,trivial⟩ rfl (rr_lt rfl rfl) ?_
  ·match lB,h1 with
   | [],_=>exact .nil
   | [x],_=>exact List.pairwise_singleton _ _
  ·rintro _ _ _ ⟨rfl,⟨m,⟨hp,hs⟩,rfl⟩,rfl⟩
   have e:=hend (m.map (·.1)) (hp.map _) (by
    rw [List.pairwise_map]
    exact hs.imp fun h=>of_decide_eq_false h)
   refine FRZ 1 rfl ?_
   refine ⟨?_,rfl⟩
   rw [← e]
   show GV.sl 2 (m.map ptB)=GV.sl 2 ((m.map (·.1)).map ptc)
   rw [hm]
end Go.Proofs.YtkoalgjlkcaonaaGreatDoor
/-
  Contracts: what series come to, as asked (eval.series).
-/
namespace Go.Proofs.YtkoalgjlkcaonaaGreatDoor
open Go.GK Go.PL Go.RowKit
set_option maxRecDepth 100000
abbrev srcG (f : FuncId) (S : List Ser) : GV:=.fn (.func f) [] [.r [ses S]]
structure SrcC (f : FuncId) (S : List Ser) (src : List Mt→Int→Int→List Ser) : Prop where
 rt : ∀ m lo hi,m.length≤8→(∀ x ∈ m,0≤x.op∧x.op≤3)→Rt pg f [.sl 3 (m.map mt),gi lo,gi hi,.r [ses S]] (.tup [ses (src m lo hi),.v .nilIface])
 ok : SrcOk 100 src
 small : ∀ m lo hi,∀ x ∈ src m lo hi,x.labels.length≤1000000∧x.samples.length≤100000
theorem pts_snoc (c : Int) (l : List Ser) (i : Nat) (h : i < l.length) : ptsF c (l.take (i + 1))=ptsF c (l.take i)++(if l[i].samples ≠ [] then [⟨l[i].labels,overF c l[i].samples⟩] else []):=by
 unfold ptsF
 rw [List.take_add_one,List.getElem?_eq_getElem h,List.filter_append,List.map_append]
 congr 1
 by_cases h0 : l[i].samples ≠ [] <;> simp [h0]
theorem series_rt {f : FuncId} {S : List Ser} {src : List Mt→Int→Int→List Ser} (hs : SrcC f S src) (c num : Int) (m : List Mt) (sp : Int) (b : List ByteArray) (l r : Qn) (hm : m.length≤8) (hop : ∀ x ∈ m,0≤x.op∧x.op≤3) (t : Int) :
  Rt pg 95 [qG (.mk c num m sp b l r),gi t,srcG f S] (.tup [cameG (ptsF c (src m (wr64 (wr64 (t - sp) + 1)) t),false),.v .nilIface]):=by
 have hrt:=hs.rt m (wr64 (wr64 (t - sp) + 1)) t hm hop
 have hsm:=hs.small m (wr64 (wr64 (t - sp) + 1)) t
 have hln:=hs.ok.len m (wr64 (wr64 (t - sp) + 1)) t
 generalize hL : src m (wr64 (wr64 (t - sp) + 1)) t=L at hrt hsm hln ⊢
 have hll : (L.map se).length=L.length:=by simp
 refine Rt.of pg_ok Tryz.func95 rfl Tryz.ntmps95 rfl Tryz.results95 Tryz.call95 fun H0 S0 w0 h0 g0=>?_
 refine JK.drawJ [] ⟨[(0,qG (.mk c num m sp b l r)),(6,.p 0 0),(8,ses L),(9,.v .nilIface)],[(0,.blk 120 [.v (.slice none 0 0),.v (.bool false)])],1⟩ pg_ok ?_ (fun hk=>?_)
 ·refine V ?_
  refine JK.ownNilB 1 0 47 2 rfl rfl ?_
  refine JK.loopE (α:=Nat) (β:=Unit) (fun i=>⟨[(0,qG (.mk c num m sp b l r)),(6,.p 0 0),(9,.v .nilIface),(10,.p 1 0),(30,ses L),(31,gi (L.map se).length),(32,gi i)],[(1,.blk 120 [.o 2,.v (.bool false)]),(2,.row 47 2 ((ptsF c (L.take i)).map ptc)),(0,.blk 120 [.v (.slice none 0 0),.v (.bool false)])],3⟩) (fun i=>i≤L.length) (fun i=>L.length - i)
   (fun _=>⟨[(6,.p 0 0),(9,.v .nilIface),(10,.p 1 0)],[(1,.blk 120 [.o 2,.v (.bool false)]),(2,.row 47 2 ((ptsF c L).map ptc)),(0,.blk 120 [.v (.slice none 0 0),.v (.bool false)])],3⟩) (fun _=>True) 0 id ?_ (Nat.zero_le _) ?_ ?_
  ·exact ⟨⟨rfl,rfl,rfl,rfl,rfl,rfl,rfl,trivial⟩,⟨rfl,rfl,rfl,trivial⟩,rfl⟩
  ·intro i hi
   refine V ?_
   by_cases hlt : i < L.length
   ·have hx:=hsm L[i] (List.getElem_mem hlt)
    have hpl : (ptsF c (L.take i)).length≤i:=by unfold ptsF; rw [List.length_map]; exact Nat.le_trans (List.length_filter_le _ _) (by rw [List.length_take]; omega)
    refine p1 ?_ (decide_eq_true (by omega))
    refine ix (h:=?_)
    have hsl : (L[i].samples.map sm).length=L[i].samples.length:=by simp
    by_cases h0 : L[i].samples=[]
    ·refine p2 ?_ (decide_eq_false (by rw [hsl,h0]; decide))
     refine ⟨i + 1,id,⟨⟨rfl,rfl,rfl,rfl,rfl,rfl,succ_gi (by omega),trivial⟩,⟨rfl,?_,rfl,trivial⟩,rfl⟩,hlt,by show L.length - (i + 1) < L.length - i; omega⟩
     rw [pts_snoc c L i hlt,if_neg (fun h=>h h0),List.append_nil]
     rfl
    ·have hpos : 0 < L[i].samples.length:=List.length_pos_iff.2 h0
     refine p1 ?_ (decide_eq_true (by rw [hsl]; omega))
     refine FZB 3 rfl rfl ?_
     have hcl:=cloneLb_rt L[i].labels (by omega)
     have hov:=over_rt c L[i].samples h0 (by omega)
     refine JK.drawJ [1,2] ⟨[(0,qG (.mk c num m sp b l r)),(6,.p 0 0),(9,.v .nilIface),(10,.p 1 0),(30,ses L),(31,gi (L.map se).length),(32,gi i)],[(1,.blk 120 [.o 2,.v (.bool false)]),(2,.row 47 2 ((ptsF c (L.take i)).map ptc++[[lbs L[i].labels,gi (overF c L[i].samples)]])),(0,.blk 120 [.v (.slice none 0 0),.v (.bool false)])],3⟩ pg_ok ?_ (fun hk=>?_)
     ·refine V ?_
      refine ⟨i + 1,id,⟨⟨rfl,rfl,rfl,rfl,rfl,rfl,succ_gi (by omega),trivial⟩,⟨rfl,?_,rfl,trivial⟩,rfl⟩,hlt,by show L.length - (i + 1) < L.length - i; omega⟩
      rw [pts_snoc c L i hlt,if_pos h0,List.map_append]
      rfl
     ·refine RA.run (cx:=⟨pg,_,_,_,_,_,_,_⟩) pg_ok (by kernel_rfl) (by intro _ _ h; exact h) (tk [0,2,3,5,6,7,8,9,10]) (e:=false) (by kernel_rfl) ?_
      -- printed
      refine RA.both 1 4 (eqB_eq (by kernel_rfl)) (Stp.read 1 pg_ok rfl rfl ?_) (Stp.rt 4 hcl rfl rfl rfl ?_)
      ·refine RGO 4 false ([]) hcl rfl rfl (by kernel_rfl) ?_
       refine RGO 11 false (al [12,13,14]++tk [15]++al [16]) hov rfl rfl (by kernel_rfl) ?_
       refine ⟨by simp only [List.length_map,List.length_cons,List.length_nil]; omega,?_⟩
       refine RA.endJ (r1 2 5) (by kernel_rfl) hk ⟨⟨by rfl,by rfl,by rfl,by rfl,by rfl,by rfl,by rfl,trivial⟩,⟨by rfl,by rfl,by rfl,trivial⟩,by rfl⟩
      ·refine RA.both 1 11 (eqB_eq (by kernel_rfl)) (Stp.read 1 pg_ok rfl rfl ?_) (Stp.rt 11 hov rfl rfl rfl ?_)
       ·refine RGO 11 false (al [12,13,14]++tk [15]++al [16]) hov rfl rfl (by kernel_rfl) ?_
        refine ⟨by simp only [List.length_map,List.length_cons,List.length_nil]; omega,?_⟩
        refine RA.endJ (r1 2 5) (by kernel_rfl) hk ⟨⟨by rfl,by rfl,by rfl,by rfl,by rfl,by rfl,by rfl,trivial⟩,⟨by rfl,by rfl,by rfl,trivial⟩,by rfl⟩
       ·refine RA.both 1 12 (eqB_eq (by kernel_rfl)) (Stp.read 1 pg_ok rfl rfl ?_) (Stp.mem 12 pg_ok rfl rfl rfl ?_)
        ·refine RA.run (cx:=⟨pg,_,_,_,_,_,_,_⟩) pg_ok (by kernel_rfl) (by intro _ _ h; exact h) (al [12,13,14]++tk [15]++al [16]) (e:=false) (by kernel_rfl) ?_
         refine ⟨by simp only [List.length_map,List.length_cons,List.length_nil]; omega,?_⟩
         refine RA.endJ (r1 2 5) (by kernel_rfl) hk ⟨⟨by rfl,by rfl,by rfl,by rfl,by rfl,by rfl,by rfl,trivial⟩,⟨by rfl,by rfl,by rfl,trivial⟩,by rfl⟩
        ·refine RA.both 1 13 (eqB_eq (by kernel_rfl)) (Stp.read 1 pg_ok rfl rfl ?_) (Stp.mem 13 pg_ok rfl rfl rfl ?_)
         ·refine RA.run (cx:=⟨pg,_,_,_,_,_,_,_⟩) pg_ok (by kernel_rfl) (by intro _ _ h; exact h) (al [13,14]++tk [15]++al [16]) (e:=false) (by kernel_rfl) ?_
          refine ⟨by simp only [List.length_map,List.length_cons,List.length_nil]; omega,?_⟩
          refine RA.endJ (r1 2 5) (by kernel_rfl) hk ⟨⟨by rfl,by rfl,by rfl,by rfl,by rfl,by rfl,by rfl,trivial⟩,⟨by rfl,by rfl,by rfl,trivial⟩,by rfl⟩
         ·refine RA.run (cx:=⟨pg,_,_,_,_,_,_,_⟩) pg_ok (by kernel_rfl) (by intro _ _ h; exact h) (al [1,14]++tk [15]++al [16]) (e:=false) (by kernel_rfl) ?_
          refine ⟨by simp only [List.length_map,List.length_cons,List.length_nil]; omega,?_⟩
          refine RA.endJ (r1 2 5) (by kernel_rfl) hk ⟨⟨by rfl,by rfl,by rfl,by rfl,by rfl,by rfl,by rfl,trivial⟩,⟨by rfl,by rfl,by rfl,trivial⟩,by rfl⟩
      -- end of print
   ·refine p2 ?_ (decide_eq_false (by omega))
    obtain rfl : i=L.length:=by omega
    rw [List.take_length]
    exact ⟨(),id,⟨⟨rfl,rfl,rfl,trivial⟩,⟨rfl,rfl,rfl,trivial⟩,rfl⟩,trivial⟩
  ·rintro _ _
   refine FRZ 2 rfl ?_
   exact ⟨⟨rfl,rfl,trivial⟩,rfl⟩
 ·refine RA.run (cx:=⟨pg,_,_,_,_,_,_,_⟩) pg_ok (by kernel_rfl) (by intro _ _ h; exact h) (tk [0,1,2,3,4,5,6,7,8,9,10,11,12]) (e:=false) (by kernel_rfl) ?_
  refine RGO 13 false (al [14]) hrt rfl rfl (by kernel_rfl) ?_
  refine RA.both 15 16 (eqB_eq (by kernel_rfl)) (Stp.read 15 pg_ok rfl rfl ?_) (Stp.read 16 pg_ok rfl rfl ?_)
  ·refine RA.both 16 17 (eqB_eq (by kernel_rfl)) (Stp.read 16 pg_ok rfl rfl ?_) (Stp.read 17 pg_ok rfl rfl ?_)
   ·refine RA.run (cx:=⟨pg,_,_,_,_,_,_,_⟩) pg_ok (by kernel_rfl) (by intro _ _ h; exact h) (al [17,18]) (e:=false) (by kernel_rfl) ?_
    refine RA.endJ id (by kernel_rfl) hk ⟨⟨by rfl,by rfl,by rfl,by rfl,trivial⟩,⟨by rfl,trivial⟩,by rfl⟩
   ·refine RA.run (cx:=⟨pg,_,_,_,_,_,_,_⟩) pg_ok (by kernel_rfl) (by intro _ _ h; exact h) (al [16,18]) (e:=false) (by kernel_rfl) ?_
    refine RA.endJ id (by kernel_rfl) hk ⟨⟨by rfl,by rfl,by rfl,by rfl,trivial⟩,⟨by rfl,trivial⟩,by rfl⟩
  ·refine RA.run (cx:=⟨pg,_,_,_,_,_,_,_⟩) pg_ok (by kernel_rfl) (by intro _ _ h; exact h) (al [15,17,18]) (e:=false) (by kernel_rfl) ?_
   refine RA.endJ id (by kernel_rfl) hk ⟨⟨by rfl,by rfl,by rfl,by rfl,trivial⟩,⟨by rfl,trivial⟩,by rfl⟩
end Go.Proofs.YtkoalgjlkcaonaaGreatDoor
/-
  slices.Insert of one point: a raw walk, its four roads.
-/
namespace Go.Proofs.YtkoalgjlkcaonaaGreatDoor
open Go.RowKit Go.Lib Go.GK
set_option linter.unusedVariables false
set_option linter.unusedSimpArgs false
set_option maxRecDepth 100000
theorem insp_ty : Tryz.prog.underlying 34=some (.slice 47):=by kernel_rfl
theorem insp_info : ∃ (i : TypeInfo) (z : Value),Tryz.prog.info? 47=some i∧i.size=2∧i.bytes=32∧i.zero=some z∧z.cells.size=2:=by
 obtain ⟨i,z,hi,hisz,hiby,hiz,hzc,hzl⟩:=(pg_ok.tt 47 _ rfl).info
 exact ⟨i,z,hi,hisz,hiby,hiz,by rw [← Array.length_toList,hzc,hzl]⟩
set_option maxHeartbeats 4000000 in
theorem insp_fin (v : Value) (n vb vc : Nat) (xs vs : List Value) (w : World) (hown : w.ownsRow 0 47 2 v n xs) (hvl : vs.length=2) (hvs : ∀ j u,vs[j]?=some u→w.cell? ⟨vb,0 + j,none⟩=some u) (h1v : ∀ u ∈ vs,u.oneCell'=true) (hn : n < 1000000) :
  Calls Tryz.prog 130 #[v,.int .i64 (n : Int),.slice (some ⟨vb,0,none⟩) 1 vc] w fun ev w'=>∃ v',ev=.returned v'∧w'.ownsRow 0 47 2 v' (n + 1) (xs++vs)∧w.grownBy w' v.ownBlock∧(v'.ownBlock=v.ownBlock∨v'.ownBlock=some w.heap.size):=by
 obtain ⟨i,z,hi,hisz,hiby,hiz,hzs⟩:=insp_info
 obtain ⟨v',w',hr,h2,h3,_,h5⟩:=run_append_own_at (P:=Tryz.prog) w 0 34 34 47 i z 2 32 insp_ty hi hiz hisz hiby hzs (by omega) v n xs hown ⟨vb,0,none⟩ 1 vc vs hvl (fun j u hj=>by rw [Addr.add_lit]; exact hvs j u hj) h1v (by unfold maxLen; omega) (by omega) (Nat.zero_le _)
 have u27:=run_underlying insp_ty
 rcases hown.2 with ⟨rfl,rfl⟩ | ⟨g,cap,cur,rfl,hb,hg,hnc,hcm,hrest⟩
 ·go_enter Tryz.func130,Tryz.ntmps130
  go_wp2_with (at_builtin; refine Lib.wpList_append_run _ rfl _ _ _ _ rfl _ _ rfl rfl _ _ hr ?_)
  go_ret
  exact ⟨v',rfl,h2,h3,h5⟩
 ·have hcm' : cap≤9223372036854775807:=by unfold maxLen at hcm; omega
  clear hcm hrest hg hb hown
  go_enter Tryz.func130,Tryz.ntmps130
  go_wp2_with (at_builtin; refine Lib.wpList_append_run _ rfl _ _ _ _ rfl _ _ rfl rfl _ _ hr ?_)
  all_goals (go_ret; exact ⟨v',rfl,h2,h3,h5⟩)
theorem insp_ov (vb b p : Nat) (vc lb cb : Nat) (w : World) (hvb : vb ≠ b) (vcur cur : Array Value) (tv tb : TypeId) (hv : w.heap[vb]?=some (.cells vcur tv (0,0))) (hb : w.heap[b]?=some (.cells cur tb (0,0))) (hk : cur.size ≠ 0) :
  (callFunc 157 #[.slice (some ⟨vb,0,none⟩) 1 vc,.slice (some ⟨b,p,none⟩) lb cb]).run Tryz.prog w=.ok (.value (.bool false)) w:=by
 rw [run_callFunc_extern Tryz.func157 (by kernel_rfl) (by kernel_rfl) (by kernel_rfl) (e:=Extern.SlicesOverlaps.overlaps #[34,34] #[4]) (by kernel_rfl),
  Lib.run_overlaps_apart w 34 4 47 insp_ty 2 (fun w=>by kernel_rfl) ⟨vb,0,none⟩ ⟨b,p,none⟩ 1 vc lb cb hvb tv tb vcur.size cur.size (by simp [World.shape?,hv]) (by simp [World.shape?,hb]) hk (by simp [World.frozen?,hv]) (by simp [World.frozen?,hv])]
 rfl
set_option maxHeartbeats 4000000 in
theorem insp_shift (b n c i vb vc : Nat) (cs vs : List Value) (vcur cur : Array Value) (tv tb : TypeId) (w : World) (hi : i < n) (hroom : n + 1≤c) (hc63 : c≤9223372036854775807) (hvb : vb ≠ b) (hcl : cs.length=n * 2) (hvl : vs.length=2)
  (hv : w.heap[vb]?=some (.cells vcur tv (0,0))) (hb : w.heap[b]?=some (.cells cur tb (0,0))) (hk : cur.size ≠ 0)
  (hcs : ∀ j v,cs[j]?=some v→w.cell? ⟨b,j,none⟩=some v) (hsp : ∀ j,j < (n + 1) * 2→(w.cell? ⟨b,j,none⟩).isSome=true) (hfz : ∀ j,w.frozen? ⟨b,j,none⟩=false)
  (hvs : ∀ j v,vs[j]?=some v→w.cell? ⟨vb,j,none⟩=some v) (h1c : ∀ v ∈ cs,v.oneCell'=true) (h1v : ∀ v ∈ vs,v.oneCell'=true) :
  Calls Tryz.prog 130 #[.slice (some ⟨b,0,none⟩) n c,.int .i64 i,.slice (some ⟨vb,0,none⟩) 1 vc] w fun e w' =>
   e=.returned (.slice (some ⟨b,0,none⟩) (n + 1) c)∧w'=(w.drew.setCells b ((i + 1) * 2) (cs.drop (i * 2))).setCells b (i * 2) vs:=by
 have hsz : (Tryz.prog.info? 47).map (·.size)=some 2:=by
  obtain ⟨i0,z,hi0,h1,_⟩:=insp_info
  rw [hi0]; simp [h1]
 have u27:=run_underlying insp_ty
 have hov : ∀ p lb cb,(callFunc 157 #[.slice (some ⟨vb,0,none⟩) 1 vc,.slice (some ⟨b,p,none⟩) lb cb]).run Tryz.prog w=.ok (.value (.bool false)) w:=fun p lb cb=>insp_ov vb b p vc lb cb w hvb vcur cur tv tb hv hb hk
 have hz2 : ¬ ((i : Int)=(n : Int)):=by omega
 have hdl : (cs.drop (i * 2)).length=(n - i) * 2:=by rw [List.length_drop,hcl,Nat.sub_mul]
 have hw1 : IntKind.i64.wrap ((i : Int) + 1)=(i : Int) + 1:=by rw [IntKind.wrap_i64]; omega
 have hw2 : IntKind.i64.wrap ((n : Int) + 1)=(n : Int) + 1:=by rw [IntKind.wrap_i64]; omega
 have hb1 : (0 : Int)≤(i : Int) + 1:=by omega
 have hb0 : (0 : Int)≤(n : Int) + 1:=by omega
 have hin : i≤n:=by omega
 have htn : ((i : Int) + 1).toNat=i + 1:=by omega
 have htn2 : ((n : Int) + 1).toNat=n + 1:=by omega
 have hb2 : ¬ (c=i + 1):=by omega
 have hb3 : (i : Int)≤(n : Int) + 1:=by omega
 have hb4 : ¬ (c=i):=by omega
 have hb5 : (n : Int) + 1≤(c : Int):=by omega
 have hcp1 : ∀ ty dc sc,(Builtin.copy_ #[34,34] ty #[.slice (some ⟨b,(i + 1) * 2,none⟩) (n - i) dc,.slice (some ⟨b,i * 2,none⟩) (n + 1 - i) sc]).run Tryz.prog w.drew=.ok (goInt ((n - i : Nat))) (w.drew.setCells b ((i + 1) * 2) (cs.drop (i * 2))):=fun ty dc sc =>
  run_copy_k w.drew _ _ ty 47 2 b ((i + 1) * 2) (n - i) dc ⟨b,i * 2,none⟩ (n + 1 - i) sc (n - i) (cs.drop (i * 2)) insp_ty hsz (by simp only [Nat.min_def]; split <;> omega) hdl
   (fun j v hj=>by rw [Addr.add_lit]; exact hcs (i * 2 + j) v (by rwa [List.getElem?_drop] at hj))
   (fun j hj=>hsp _ (by omega)) (fun j hj=>hfz _) (fun v hv=>h1c v (List.mem_of_mem_drop hv))
 obtain ⟨W1,hW1⟩ : ∃ W1,W1=w.drew.setCells b ((i + 1) * 2) (cs.drop (i * 2)):=⟨_,rfl⟩
 have hsp1 : ∀ k,k < (n + 1) * 2→(W1.cell? ⟨b,k,none⟩).isSome=true:=fun k hk=>by
  rw [hW1]
  exact isSome_setCells b (cs.drop (i * 2)) ((i + 1) * 2) w.drew (fun j hj=>hsp _ (by rw [hdl] at hj; omega)) k (hsp k hk)
 have hcp2 : ∀ ty dc,(Builtin.copy_ #[34,34] ty #[.slice (some ⟨b,i * 2,none⟩) (n + 1 - i) dc,.slice (some ⟨vb,0,none⟩) 1 vc]).run Tryz.prog W1=.ok (goInt (1 : Nat)) (W1.setCells b (i * 2) vs):=fun ty dc =>
  run_copy_k W1 _ _ ty 47 2 b (i * 2) (n + 1 - i) dc ⟨vb,0,none⟩ 1 vc 1 vs insp_ty hsz (by simp only [Nat.min_def]; split <;> omega) hvl
   (fun j v hj=>by
    rw [Addr.add_lit,hW1,World.cell?_setCells_out b _ _ _ _ (fun h _=>absurd h hvb),Nat.zero_add]
    exact hvs j v hj)
   (fun j hj=>hsp1 _ (by omega)) (fun j hj=>by rw [hW1,World.frozen?_setCells]; exact hfz _) h1v
 rw [← hW1] at hcp1 ⊢
 clear hv hb hk hsp hsp1 hcs hvs h1c h1v hdl hW1
 go_enter Tryz.func130,Tryz.ntmps130
 go_wp2_with (simp only [hov])
 go_region_law (refine step_copy_runI rfl _ _ 34 34 rfl _ _ (by simp [Act.eval,Act.put]) (by simp [Act.eval,Act.put]) (hcp1 _ _ _) ?_)
 go_wp2_with (at_builtin; refine wpList_copy_runI _ rfl _ _ 34 34 rfl _ _ rfl rfl (hcp2 _ _) ?_)
 go_ret
 exact ⟨rfl,rfl⟩
set_option maxHeartbeats 4000000 in
theorem insp_grow (b n i vb vc : Nat) (cs vs : List Value) (w : World) (i0 : TypeInfo) (z : Value) (hi0 : Tryz.prog.info? 47=some i0) (hzs : i0.size=2) (hzb : i0.bytes=32) (hz0 : i0.zero=some z) (hzc : z.cells.size=2) (hi : i < n) (hn : n < 1000000) (hcl : cs.length=n * 2) (hvl : vs.length=2)
  (hbw : b < w.heap.size) (hvw : vb < w.heap.size) (hcs : ∀ j v,cs[j]?=some v→w.cell? ⟨b,j,none⟩=some v) (hvs : ∀ j v,vs[j]?=some v→w.cell? ⟨vb,j,none⟩=some v) (h1c : ∀ v ∈ cs,v.oneCell'=true) (h1v : ∀ v ∈ vs,v.oneCell'=true) :
  Calls Tryz.prog 130 #[.slice (some ⟨b,0,none⟩) n n,.int .i64 i,.slice (some ⟨vb,0,none⟩) 1 vc] w fun e w' =>
   e=.returned (.slice (some ⟨w.heap.size,0,none⟩) (n + 1) (grownCap w (n + 1) n 47)) ∧
   w'=(((w.alloc (.cells ((cs.take (i * 2)).toArray++Builtin.zeroCells z.cells (n + 1 - i)++Builtin.zeroCells z.cells (grownCap w (n + 1) n 47 - (n + 1))) 47)).drew.setCells w.heap.size (i * 2) vs).drew).setCells w.heap.size ((i + 1) * 2) (cs.drop (i * 2)):=by
 have hsz : (Tryz.prog.info? 47).map (·.size)=some 2:=by rw [hi0]; simp [hzs]
 have u27:=run_underlying insp_ty
 have tint : Tryz.prog.underlying 3=some (.int .i64):=by kernel_rfl
 have hz2 : ¬ ((i : Int)=(n : Int)):=by omega
 have hz3 : (n : Int) < (n : Int) + 1:=by omega
 have hkk : (n : Int) + 1 - (i : Int)=((n + 1 - i : Nat) : Int):=by omega
 have hik : i + (n + 1 - i)=n + 1:=by omega
 have hold : (Builtin.firstCells i0.size i (.slice (some ⟨b,0,none⟩) i n)).run Tryz.prog w.drew=.ok (cs.take (i * 2)).toArray w.drew:=by
  rw [hzs]
  exact run_firstCells_some w.drew 2 i ⟨b,0,none⟩ i n (cs.take (i * 2)) (by rw [List.length_take]; omega) (fun j v hj=>by
   rw [Addr.add_lit,Nat.zero_add]
   rw [List.getElem?_take] at hj
   split at hj
   ·exact hcs j v hj
   ·cases hj)
 have hrz : ∀ ty,(Builtin.append_ #[34,3] ty #[.slice (some ⟨b,0,none⟩) i n,.int .i64 ((n : Int) + 1 - (i : Int))]).run Tryz.prog w =
   .ok (.slice (some ⟨w.heap.size,0,none⟩) (n + 1) (grownCap w (n + 1) n 47)) (w.drew.alloc (.cells ((cs.take (i * 2)).toArray++Builtin.zeroCells z.cells (n + 1 - i)++Builtin.zeroCells z.cells (grownCap w (n + 1) n 47 - (n + 1))) 47)):=fun ty=>by
  have h:=Lib.run_append_grow_zeros (P:=Tryz.prog) w 34 3 ty 47 i0 z .i64 .i64 insp_ty tint hi0 hz0 (some ⟨b,0,none⟩) i n (cs.take (i * 2)) hold (n + 1 - i) (by omega) (by omega) (by omega) (by omega) (by rw [hzb]; omega) (by rw [hzb,hik]; exact growslice_fits (by omega) (by omega))
  rw [hik] at h
  rw [hkk]
  exact h
 obtain ⟨G,hG⟩ : ∃ G,G=grownCap w (n + 1) n 47:=⟨_,rfl⟩
 obtain ⟨ROW,hROW⟩ : ∃ ROW : Array Value,ROW=(cs.take (i * 2)).toArray++Builtin.zeroCells z.cells (n + 1 - i)++Builtin.zeroCells z.cells (G - (n + 1)):=⟨_,rfl⟩
 rw [← hG] at hrz ⊢
 rw [← hROW] at hrz ⊢
 have hRl : (n + 1) * 2≤ROW.size:=by
  rw [hROW]
  simp only [Array.size_append,List.size_toArray,List.length_take,hcl,size_zeroCells,hzc]
  omega
 obtain ⟨W1,hW1⟩ : ∃ W1,W1=w.drew.alloc (.cells ROW 47):=⟨_,rfl⟩
 rw [← hW1] at hrz
 have hN : ∀ j,j < (n + 1) * 2→(W1.cell? ⟨w.heap.size,j,none⟩).isSome=true:=fun j hj=>by
  rw [hW1,World.cell?_alloc_at (w:=w.drew) ROW _ w.heap.size j rfl,Array.getElem?_eq_getElem (by omega)]; rfl
 have hNf : ∀ j,W1.frozen? ⟨w.heap.size,j,none⟩=false:=fun j=>by rw [hW1]; exact World.frozen?_alloc_at (w:=w.drew) ROW _ w.heap.size j rfl
 have hOb : ∀ j v,w.cell? ⟨b,j,none⟩=some v→W1.cell? ⟨b,j,none⟩=some v:=fun j v h=>by rw [hW1,World.cell?_alloc_past (w:=w.drew) _ b j hbw]; exact h
 have hOv : ∀ j v,w.cell? ⟨vb,j,none⟩=some v→W1.cell? ⟨vb,j,none⟩=some v:=fun j v h=>by rw [hW1,World.cell?_alloc_past (w:=w.drew) _ vb j hvw]; exact h
 have hcpA : ∀ (W : World),(∀ x,W.cell? x=W1.cell? x)→(∀ x,W.frozen? x=W1.frozen? x)→∀ ty dc,(Builtin.copy_ #[34,34] ty #[.slice (some ⟨w.heap.size,i * 2,none⟩) (n + 1 - i) dc,.slice (some ⟨vb,0,none⟩) 1 vc]).run Tryz.prog W=.ok (goInt (1 : Nat)) (W.setCells w.heap.size (i * 2) vs):=fun W hWc hWf ty dc =>
  run_copy_k W _ _ ty 47 2 w.heap.size (i * 2) (n + 1 - i) dc ⟨vb,0,none⟩ 1 vc 1 vs insp_ty hsz (by simp only [Nat.min_def]; split <;> omega) hvl
   (fun j v hj=>by rw [Addr.add_lit,hWc,Nat.zero_add]; exact hOv _ v (hvs j v hj))
   (fun j hj=>by rw [hWc]; exact hN _ (by omega)) (fun j hj=>by rw [hWf]; exact hNf _) h1v
 have hGn : n + 1≤G:=by rw [hG]; exact grownCap_ge w _ _ _
 have hG63 : G≤9223372036854775807:=by
  have:=grownCap_le_maxLen w (n + 1) n 47 (by unfold maxLen; omega)
  rw [← hG] at this
  unfold maxLen at this
  omega
 have hGi : ¬ (G=i):=by omega
 have hGim : ¬ (G=i + 1):=by omega
 have hci : ¬ (n=i):=by omega
 have hbN : b ≠ w.heap.size:=by omega
 have hdl : (cs.drop (i * 2)).length=(n - i) * 2:=by rw [List.length_drop,hcl,Nat.sub_mul]
 have hcpB : ∀ (W : World),(∀ x,W.cell? x=(W1.setCells w.heap.size (i * 2) vs).cell? x)→(∀ x,W.frozen? x=(W1.setCells w.heap.size (i * 2) vs).frozen? x)→∀ ty dc sc,(Builtin.copy_ #[34,34] ty #[.slice (some ⟨w.heap.size,(i + 1) * 2,none⟩) (n - i) dc,.slice (some ⟨b,i * 2,none⟩) (n - i) sc]).run Tryz.prog W=.ok (goInt ((n - i : Nat))) (W.setCells w.heap.size ((i + 1) * 2) (cs.drop (i * 2))):=fun W hWc hWf ty dc sc =>
  run_copy_k W _ _ ty 47 2 w.heap.size ((i + 1) * 2) (n - i) dc ⟨b,i * 2,none⟩ (n - i) sc (n - i) (cs.drop (i * 2)) insp_ty hsz (by simp only [Nat.min_def]; split <;> omega) hdl
   (fun j v hj=>by
    rw [Addr.add_lit,hWc,World.cell?_setCells_out _ _ _ _ _ (fun h _=>absurd h hbN)]
    exact hOb _ v (hcs (i * 2 + j) v (by rwa [List.getElem?_drop] at hj)))
   (fun j hj=>by rw [hWc]; exact isSome_setCells _ vs (i * 2) W1 (fun t ht=>hN _ (by rw [hvl] at ht; omega)) _ (hN _ (by rw [hdl] at hj; omega)))
   (fun j hj=>by rw [hWf,World.frozen?_setCells]; exact hNf _) (fun v hv=>h1c v (List.mem_of_mem_drop hv))
 subst hW1
 have hE1 : ∀ x,((w.alloc (.cells ROW 47)).drew).cell? x=(w.drew.alloc (.cells ROW 47)).cell? x:=fun x=>rfl
 have hE2 : ∀ x,((w.alloc (.cells ROW 47)).drew).frozen? x=(w.drew.alloc (.cells ROW 47)).frozen? x:=fun x=>rfl
 have hF1 : ∀ x,(((w.alloc (.cells ROW 47)).drew.setCells w.heap.size (i * 2) vs).drew).cell? x=((w.drew.alloc (.cells ROW 47)).setCells w.heap.size (i * 2) vs).cell? x:=fun x=>rfl
 have hF2 : ∀ x,(((w.alloc (.cells ROW 47)).drew.setCells w.heap.size (i * 2) vs).drew).frozen? x=((w.drew.alloc (.cells ROW 47)).setCells w.heap.size (i * 2) vs).frozen? x:=fun x=>rfl
 have hw1 : IntKind.i64.wrap ((i : Int) + 1)=(i : Int) + 1:=by rw [IntKind.wrap_i64]; omega
 have hw2 : IntKind.i64.wrap ((n : Int) + 1)=(n : Int) + 1:=by rw [IntKind.wrap_i64]; omega
 have hw3 : IntKind.i64.wrap ((n : Int) + 1 - (i : Int))=(n : Int) + 1 - (i : Int):=by rw [IntKind.wrap_i64]; omega
 have hb1 : (0 : Int)≤(i : Int) + 1:=by omega
 have hin : i≤n:=by omega
 have htn : ((i : Int) + 1).toNat=i + 1:=by omega
 have hb3 : (i : Int)≤(n : Int):=by omega
 clear hkk hik hold hROW hG hRl hcs hvs h1c h1v hdl hN hNf hOb hOv tint
 go_enter Tryz.func130,Tryz.ntmps130
 go_wp2_with (first
  | (at_builtin; refine Lib.wpList_append_run _ rfl _ _ _ _ rfl _ _ rfl rfl _ _ (hrz _) ?_)
  | (at_builtin; refine wpList_copy_runI _ rfl _ _ 34 34 rfl _ _ rfl rfl (hcpA _ hE1 hE2 _ _) ?_)
  | (at_builtin; refine wpList_copy_runI _ rfl _ _ 34 34 rfl _ _ rfl rfl (hcpB _ (fun _=>rfl) (fun _=>rfl) _ _ _) ?_))
 go_region_law (refine step_copy_runI rfl _ _ 34 34 rfl (.slice (some ⟨w.heap.size,(i + 1) * 2,none⟩) (n - i) (G - (i + 1))) (.slice (some ⟨b,i * 2,none⟩) (n - i) (n - i)) (by simp [Act.eval,Act.put]) (by simp [Act.eval,Act.put]) (hcpB _ hF1 hF2 3 (G - (i + 1)) (n - i)) ?_)
 go_wp2
 go_ret
 exact ⟨rfl,rfl⟩
theorem insp_says : InsSays Tryz.prog 130 47:=by
 intro v n i vb vc xs vs vcur w hown hi hn hv hvc1 hvc hvs hvt hne h1c h1v
 have hvl : vs.length=2:=by rw [← hvt,List.length_take,Array.length_toList,hvs]; omega
 have hvcell : ∀ j u,vs[j]?=some u→w.cell? ⟨vb,j,none⟩=some u:=fun j u hj=>by
  have hlt : j < vs.length:=(List.getElem?_eq_some_iff.1 hj).1
  rw [← hvt,List.getElem?_take,if_pos (by omega)] at hj
  simp only [World.cell?,hv]
  rw [if_neg (by simp)]
  simpa using hj
 rcases Nat.eq_or_lt_of_le hi with he | hlt
 ·subst he
  have hx : xs.length=i * 2:=hown.1
  rw [← hx,List.take_length,List.drop_length,List.append_nil]
  exact insp_fin v i vb vc xs vs w hown hvl (fun j u hj=>by rw [Nat.zero_add]; exact hvcell j u hj) h1v hn
 ·rcases hown.2 with ⟨_,h0⟩ | ⟨g,cap,cur,rfl,hb,hg,hnc,hcm,hcs,htk⟩
  ·omega
  have hxl : xs.length=n * 2:=hown.1
  have hcap2 : n * 2≤cap * 2:=by omega
  have hcell : ∀ j u,xs[j]?=some u→w.cell? ⟨g,j,none⟩=some u:=fun j u hj=>by
   have hlt : j < xs.length:=(List.getElem?_eq_some_iff.1 hj).1
   rw [← htk,List.getElem?_take,if_pos (by omega)] at hj
   simp only [World.cell?,hg]
   rw [if_neg (by simp)]
   simpa using hj
  have hfz : ∀ j,w.frozen? ⟨g,j,none⟩=false:=fun j=>by simp [World.frozen?,hg]
  have hdl : (xs.drop (i * 2)).length=(n - i) * 2:=by rw [List.length_drop,hxl,Nat.sub_mul]
  have hvb : vb ≠ g:=fun e=>hne (by rw [e]; rfl)
  by_cases hroom : n + 1≤cap
  ·refine (insp_shift g n cap i vb vc xs vs vcur cur _ _ w hlt hroom (by unfold maxLen at hcm; omega) hvb hxl hvl hv hg (by omega) hcell (fun j hj=>?_) hfz hvcell h1c h1v).mono ?_
   ·simp only [World.cell?,hg]
    rw [if_neg (by simp),Array.getElem?_eq_getElem (by omega)]
    rfl
   ·rintro _ w' ⟨rfl,rfl⟩
    have hgd : w.drew.heap[g]?=some (.cells cur 47 (0,0)):=hg
    have e1:=setCells_row g 47 (xs.drop (i * 2)) ((i + 1) * 2) cur w.drew hgd (by rw [hdl,hcs]; omega)
    have hg1:=setRow_heap w.drew g cur (cur.toList.take ((i + 1) * 2)++xs.drop (i * 2)++cur.toList.drop ((i + 1) * 2 + (xs.drop (i * 2)).length)).toArray 47 _ hgd
    have e2:=setCells_row g 47 vs (i * 2) _ _ hg1 (by
     simp only [List.size_toArray,List.length_append,List.length_take,List.length_drop,Array.length_toList,hcs,hxl,hvl]; omega)
    rw [e1,e2,setRow_setRow]
    refine ⟨_,rfl,⟨by rw [List.length_append,List.length_append,List.length_take,List.length_drop,hxl,hvl]; omega,.inr ⟨g,cap,_,rfl,hb,setRow_heap w.drew g cur _ 47 _ hgd,hroom,hcm,?_,?_⟩⟩,⟨rfl,rfl,rfl,by simp,fun k _ hk=>setRow_other w.drew g k _ (fun e=>hk (by simp [Value.ownBlock,e]))⟩,.inl rfl⟩
    ·simp only [List.size_toArray,List.length_append,List.length_take,List.length_drop,Array.length_toList,hcs,hxl,hvl]; omega
    ·have:=ins_take1 cur.toList vs (p:=i * 2) (q:=n * 2) hvl (by omega) (by simp only [Array.length_toList,hcs]; omega)
     rw [htk] at this
     rw [show (n + 1) * 2=n * 2 + 2 by omega,show (i + 1) * 2=i * 2 + 2 by omega]
     simpa using this
  ·obtain rfl : cap=n:=by omega
   obtain ⟨i0,z,hi0,hzs,hzb,hz0,hzc⟩:=insp_info
   have hgw : g < w.heap.size:=(Array.getElem?_eq_some_iff.1 hg).1
   have hvw : vb < w.heap.size:=(Array.getElem?_eq_some_iff.1 hv).1
   refine (insp_grow g cap i vb vc xs vs w i0 z hi0 hzs hzb hz0 hzc hlt hn hxl hvl hgw hvw hcell hvcell h1c h1v).mono ?_
   rintro _ w' ⟨rfl,rfl⟩
   have hge:=grownCap_ge w (cap + 1) cap 47
   have hgm : grownCap w (cap + 1) cap 47≤maxLen:=grownCap_le_maxLen w (cap + 1) cap 47 (by unfold maxLen; omega)
   generalize grownCap w (cap + 1) cap 47=G at hge hgm ⊢
   generalize hR : (xs.take (i * 2)).toArray++Builtin.zeroCells z.cells (cap + 1 - i)++Builtin.zeroCells z.cells (G - (cap + 1))=R
   have hRs : R.size=G * 2:=by
    rw [← hR]
    simp only [Array.size_append,List.size_toArray,List.length_take,hxl,size_zeroCells,hzc]
    omega
   have hRt : R.toList.take (i * 2)=xs.take (i * 2):=by
    rw [← hR]
    simp only [Array.toList_append,List.append_assoc]
    exact List.take_left' (by rw [List.length_take,hxl]; omega)
   have hgd : (w.alloc (.cells R 47)).drew.heap[w.heap.size]?=some (.cells R 47 (0,0)):=heap_alloc_new w _
   have e1:=setCells_row w.heap.size 47 vs (i * 2) R _ hgd (by rw [hvl,hRs]; omega)
   have hg1:=setRow_heap (w.alloc (.cells R 47)).drew w.heap.size R (R.toList.take (i * 2)++vs++R.toList.drop (i * 2 + vs.length)).toArray 47 _ hgd
   have e2:=setCells_row w.heap.size 47 (xs.drop (i * 2)) ((i + 1) * 2) _ ((w.alloc (.cells R 47)).drew.setRow w.heap.size (R.toList.take (i * 2)++vs++R.toList.drop (i * 2 + vs.length)).toArray).drew hg1 (by
    simp only [List.size_toArray,List.length_append,List.length_take,List.length_drop,Array.length_toList,hRs,hxl,hvl]; omega)
   rw [e1,e2]
   refine ⟨_,rfl,⟨by rw [List.length_append,List.length_append,List.length_take,List.length_drop,hxl,hvl]; omega,.inr ⟨w.heap.size,G,_,rfl,Nat.zero_le _,setRow_heap _ w.heap.size _ _ 47 _ hg1,hge,hgm,?_,?_⟩⟩,⟨rfl,rfl,rfl,by simp,fun k hk _=>?_⟩,.inr rfl⟩
   ·simp only [List.size_toArray,List.length_append,List.length_take,List.length_drop,Array.length_toList,hRs,hxl,hvl]; omega
   ·have:=ins_take2 R.toList vs (xs.drop (i * 2)) (p:=i * 2) (q:=cap * 2) hvl (by rw [List.length_drop,hxl]) (by omega) (by simp only [Array.length_toList,hRs]; omega)
    rw [hRt] at this
    rw [show (cap + 1) * 2=cap * 2 + 2 by omega,show (i + 1) * 2=i * 2 + 2 by omega]
    simpa [hRt] using this
   ·rw [setRow_other _ w.heap.size k _ (by omega)]
    show ((w.alloc (.cells R 47)).drew.setRow w.heap.size _).heap[k]?=_
    rw [setRow_other _ w.heap.size k _ (by omega)]
    first | exact heap_alloc_old w _ k hk | exact heap_alloc_old w _ hk
theorem insertP_rt (rows : List (List GV)) (r : List GV) (i : Nat) (hi : i≤rows.length) (hl : rows.length < 1000000) :
  Hf pg 130 2 [.o 0,gi i,.o 1] [(0,.row 47 2 rows),(1,.row 47 2 [r])] fun G σ n=>G=.o 2∧σ=[(2,.row 47 2 (rows.take i++[r]++rows.drop i)),(1,.row 47 2 [r])]∧n=3 :=
 insert_hf (p:=pg) (fun _ _=>by kernel_rfl) insp_says rows r i hi hl
end Go.Proofs.YtkoalgjlkcaonaaGreatDoor
/-
  Contracts: points put together (eval.together).
-/
namespace Go.Proofs.YtkoalgjlkcaonaaGreatDoor
open Go.GK Go.PL Go.RowKit
set_option maxRecDepth 100000
theorem together_rt (c : Int) (by_ : List ByteArray) (l : List Pt) (hl : l.length≤1000) (hlab : ∀ p ∈ l,p.labels.length≤1000000) (hb : by_.length≤1000000) :
  Rt pg 96 [gi c,.sl 1 (by_.map fun s=>[gs s]),pts l] (pts (togF c by_ l)):=by
 refine Rt.of pg_ok Tryz.func96 rfl Tryz.ntmps96 rfl Tryz.results96 Tryz.call96 fun H0 S0 w0 h0 g0=>?_
 have hll : (l.map ptc).length=l.length:=by simp
 refine JK.ownNil 7 47 2 rfl ?_
 refine JK.loopE (α:=Nat) (β:=Unit) (fun i=>⟨[(0,gi c),(1,.sl 1 (by_.map fun s=>[gs s])),(7,.o 0),(13,pts l),(14,gi (l.map ptc).length),(15,gi i)],[(0,.row 47 2 ((togF c by_ (l.take i)).map ptc))],1⟩) (fun i=>i≤l.length) (fun i=>l.length - i)
  (fun _=>⟨[(7,.o 0)],[(0,.row 47 2 ((togF c by_ l).map ptc))],1⟩) (fun _=>True) 0 id ?_ (Nat.zero_le _) ?_ ?_
 ·exact ⟨⟨rfl,rfl,rfl,rfl,rfl,rfl,trivial⟩,⟨rfl,trivial⟩,rfl⟩
 ·intro i hi
  refine V ?_
  by_cases hlt : i < l.length
  ·have hst : togF c by_ (l.take (i + 1))=insP c (togF c by_ (l.take i)) (grp c by_ l[i]):=by
    unfold togF
    rw [List.take_succ_eq_append_getElem hlt,List.map_append,List.foldl_append]
    rfl
   have hA:=tog_ris c by_ (l.take i)
   have hAl : (togF c by_ (l.take i)).length≤i:=Nat.le_trans (tog_len _ _ _) (by rw [List.length_take]; omega)
   generalize togF c by_ (l.take i)=A at hst hA hAl ⊢
   have hrt:=lonly_rt l[i].labels by_ (hlab _ (List.getElem_mem hlt)) hb
   refine p1 ?_ (decide_eq_true (by omega))
   refine ix (h:=?_)
   refine FZB 1 rfl rfl ?_
   refine JK.drawJ [] ⟨[(0,gi c),(7,.o 0),(10,.p 2 0),(1,.sl 1 (by_.map fun s=>[gs s])),(13,pts l),(14,gi (l.map ptc).length),(15,gi i)],[(0,.row 47 2 (A.map ptc)),(2,.blk 47 [lbs (onlyF l[i].labels by_),gi l[i].value])],3⟩ pg_ok ?_ (fun hk=>?_)
   ·refine VM 1 ?_
    refine JK.cut (α:=Unit) (fun _=>⟨[(0,gi c),(7,.o 0),(10,.p 2 0),(1,.sl 1 (by_.map fun s=>[gs s])),(13,pts l),(14,gi (l.map ptc).length),(15,gi i)],[(0,.row 47 2 (A.map ptc)),(2,.blk 47 (ptc (grp c by_ l[i])))],3⟩) (fun _=>True) ?_ ?_
    ·refine V ?_
     by_cases h11 : c=11
     ·refine p1 ?_ (decide_eq_true h11)
      refine ⟨(),id,⟨⟨rfl,rfl,rfl,rfl,rfl,rfl,rfl,trivial⟩,⟨rfl,?_,trivial⟩,rfl⟩,trivial⟩
      rw [grp,if_pos h11]
      rfl
     ·refine p2 ?_ (decide_eq_false h11)
      refine ⟨(),id,⟨⟨rfl,rfl,rfl,rfl,rfl,rfl,rfl,trivial⟩,⟨rfl,?_,trivial⟩,rfl⟩,trivial⟩
      rw [grp,if_neg h11]
      rfl
    rintro _ _
    generalize grp c by_ l[i]=x at hst ⊢
    have hbs:=bsp_rt A x hA (by omega)
    have hpl:=posP_le x.labels A
    have hAm : (A.map ptc).length=A.length:=by simp
    refine V ?_
    cases hh : hasP x.labels A with
    | false =>
     rw [hh] at hbs
     refine GOB hbs rfl ⟨⟨rfl,rfl⟩,⟨rfl,rfl⟩,⟨rfl,rfl⟩,trivial⟩ ?_
     have hins:=insertP_rt (A.map ptc) (ptc x) (posP x.labels A) (by simpa using hpl) (by simp; omega)
     refine GOH hins (rr 0 3) rfl rfl ⟨rfl,rfl,trivial⟩ rfl (rr_lt rfl rfl) ?_
     rintro _ _ _ ⟨rfl,rfl,rfl⟩
     refine ⟨i + 1,fun _=>4,⟨⟨rfl,rfl,rfl,rfl,rfl,succ_gi (by omega),trivial⟩,⟨?_,trivial⟩,rfl⟩,hlt,by show l.length - (i + 1) < l.length - i; omega⟩
     rw [hst,insP_no fun hn h=>by
      unfold hasP at hh
      rw [List.getElem?_eq_getElem hn] at hh
      have hh' : decide (cmpF A[posP x.labels A].labels x.labels=0)=false:=hh
      exact of_decide_eq_false hh' h]
     refine congrArg (fun r=>some (Res.row 47 2 r)) ?_
     simp [List.map_take,List.map_drop]
    | true =>
     rw [hh] at hbs
     refine GOB hbs rfl ⟨⟨rfl,rfl⟩,⟨rfl,rfl⟩,⟨rfl,rfl⟩,trivial⟩ ?_
     obtain ⟨hn,h0⟩ : ∃ hn : posP x.labels A < A.length,cmpF A[posP x.labels A].labels x.labels=0:=by
      unfold hasP at hh
      by_cases hn : posP x.labels A < A.length
      ·rw [List.getElem?_eq_getElem hn] at hh
       exact ⟨hn,of_decide_eq_true hh⟩
      ·rw [List.getElem?_eq_none (by omega)] at hh
       cases hh
     have hRs : (A.map ptc).set (posP x.labels A) [lbs A[posP x.labels A].labels,gi (combF c A[posP x.labels A].value x.value)]=(insP c A x).map ptc:=by
      rw [insP_yes hn h0,List.map_set]
     have hRi : (A.map ptc)[posP x.labels A]?=some (ptc A[posP x.labels A]):=by simp [hn]
     by_cases h9 : c=9
     ·refine p1 ?_ (decide_eq_true h9)
      refine DRAW [0] true (tk [0,1,2,3,4,5,7,8]++al [6]++tk [9,10,11]++al [12]) (by kernel_rfl) ?_
      refine ⟨by omega,by omega,?_⟩
      refine ⟨_,hRi,?_⟩
      refine ⟨by omega,by omega,?_⟩
      refine ⟨_,hRi,?_⟩
      refine V ?_
      refine ⟨i + 1,id,⟨⟨rfl,rfl,rfl,rfl,rfl,succ_gi (by omega),trivial⟩,⟨?_,trivial⟩,rfl⟩,hlt,by show l.length - (i + 1) < l.length - i; omega⟩
      rw [hst,← hRs]
      exact congrArg (fun z=>some (Res.row 47 2 ((A.map ptc).set (posP x.labels A) [lbs A[posP x.labels A].labels,gi z]))) (by rw [combF,if_pos h9]; split <;> omega)
     refine p2 ?_ (decide_eq_false h9)
     by_cases h10 : c=10
     ·refine p1 ?_ (decide_eq_true h10)
      refine DRAW [0] true (tk [0,1,2,3,4,5,7,8]++al [6]++tk [9,10,11]++al [12]) (by kernel_rfl) ?_
      refine ⟨by omega,by omega,?_⟩
      refine ⟨_,hRi,?_⟩
      refine ⟨by omega,by omega,?_⟩
      refine ⟨_,hRi,?_⟩
      refine V ?_
      refine ⟨i + 1,id,⟨⟨rfl,rfl,rfl,rfl,rfl,succ_gi (by omega),trivial⟩,⟨?_,trivial⟩,rfl⟩,hlt,by show l.length - (i + 1) < l.length - i; omega⟩
      rw [hst,← hRs]
      exact congrArg (fun z=>some (Res.row 47 2 ((A.map ptc).set (posP x.labels A) [lbs A[posP x.labels A].labels,gi z]))) (by rw [combF,if_neg h9,if_pos h10]; split <;> omega)
     refine p2 ?_ (decide_eq_false h10)
     refine DRAW [0] true (tk [0,1,2,3,5,6]++al [4]++tk [7,8,9]++al [10]) (by kernel_rfl) ?_
     refine ⟨by omega,by omega,?_⟩
     refine ⟨_,hRi,?_⟩
     refine ⟨by omega,by omega,?_⟩
     refine ⟨_,hRi,?_⟩
     refine V ?_
     refine ⟨i + 1,id,⟨⟨rfl,rfl,rfl,rfl,rfl,succ_gi (by omega),trivial⟩,⟨?_,trivial⟩,rfl⟩,hlt,by show l.length - (i + 1) < l.length - i; omega⟩
     rw [hst,← hRs]
     exact congrArg (fun z=>some (Res.row 47 2 ((A.map ptc).set (posP x.labels A) [lbs A[posP x.labels A].labels,gi z]))) (by rw [combF,if_neg h9,if_neg h10]; rfl)
   ·refine RA.run (cx:=⟨pg,_,_,_,_,_,_,_⟩) pg_ok (by kernel_rfl) (by intro _ _ h; exact h) (tk [0,1,2,4,5]) (e:=false) (by kernel_rfl) ?_
    refine RA.both 3 7 (eqB_eq (by kernel_rfl)) (Stp.rt 3 hrt rfl rfl rfl ?_) (Stp.mem 7 pg_ok rfl rfl rfl ?_)
    ·refine RA.both 6 7 (eqB_eq (by kernel_rfl)) (Stp.mem 6 pg_ok rfl rfl rfl ?_) (Stp.mem 7 pg_ok rfl rfl rfl ?_)
     ·refine RA.run (cx:=⟨pg,_,_,_,_,_,_,_⟩) pg_ok (by kernel_rfl) (by intro _ _ h; exact h) (al [7,8]) (e:=false) (by kernel_rfl) ?_
      refine RA.endJ id (by kernel_rfl) hk ⟨⟨by rfl,by rfl,by rfl,by rfl,by rfl,by rfl,by rfl,trivial⟩,⟨by rfl,by rfl,trivial⟩,by rfl⟩
     ·refine RA.run (cx:=⟨pg,_,_,_,_,_,_,_⟩) pg_ok (by kernel_rfl) (by intro _ _ h; exact h) (al [6,8]) (e:=false) (by kernel_rfl) ?_
      refine RA.endJ id (by kernel_rfl) hk ⟨⟨by rfl,by rfl,by rfl,by rfl,by rfl,by rfl,by rfl,trivial⟩,⟨by rfl,by rfl,trivial⟩,by rfl⟩
    ·refine RGO 3 false (al [6,8]) hrt rfl rfl (by kernel_rfl) ?_
     refine RA.endJ id (by kernel_rfl) hk ⟨⟨by rfl,by rfl,by rfl,by rfl,by rfl,by rfl,by rfl,trivial⟩,⟨by rfl,by rfl,trivial⟩,by rfl⟩
  ·refine p2 ?_ (decide_eq_false (by omega))
   obtain rfl : i=l.length:=by omega
   rw [List.take_length]
   exact ⟨(),id,⟨⟨rfl,trivial⟩,⟨rfl,trivial⟩,rfl⟩,trivial⟩
 ·rintro _ _
  refine FRZ 0 rfl ?_
  exact ⟨rfl,rfl⟩
end Go.Proofs.YtkoalgjlkcaonaaGreatDoor
/-
  Contracts: two results put together (eval.both, its closure).
-/
namespace Go.Proofs.YtkoalgjlkcaonaaGreatDoor
open Go.GK Go.PL Go.RowKit
set_option maxRecDepth 100000
theorem both1_no (c x y : Int) (ls : List Lb) (rows : List (List GV)) (bb : Bool) (hc : countF c x y=none) :
  Hf pg 131 3 [lbs ls,gi x,gi y,.p 0 0,.p 1 0] [(0,.blk 3 [gi c]),(1,.blk 120 [.o 2,.v (.bool bb)]),(2,.row 47 2 rows)]
   (fun g σ n=>g=.tup []∧σ=[(0,.blk 3 [gi c]),(1,.blk 120 [.o 2,.v (.bool bb)]),(2,.row 47 2 rows)]∧n=3):=by
 refine Hf.of pg_ok Tryz.func131 rfl Tryz.ntmps131 rfl Tryz.results131 Tryz.call131 fun H0 S0 w0 h0 g0=>?_
 have h:=count_rt c x y
 rw [hc] at h
 refine GO h rfl ?_
 exact ⟨rfl,rfl,rfl⟩
theorem both1_yes (c x y n : Int) (ls : List Lb) (rows : List (List GV)) (bb : Bool) (hc : countF c x y=some n) (hl : ls.length≤1000000) (hr : rows.length≤1000000) :
  Hf pg 131 3 [lbs ls,gi x,gi y,.p 0 0,.p 1 0] [(0,.blk 3 [gi c]),(1,.blk 120 [.o 2,.v (.bool bb)]),(2,.row 47 2 rows)]
   (fun g σ m=>g=.tup []∧σ=[(0,.blk 3 [gi c]),(1,.blk 120 [.o 3,.v (.bool bb)]),(3,.row 47 2 (rows++[[lbs ls,gi n]]))]∧m=4):=by
 refine Hf.of pg_ok Tryz.func131 rfl Tryz.ntmps131 rfl Tryz.results131 Tryz.call131 fun H0 S0 w0 h0 g0=>?_
 have h:=count_rt c x y
 rw [hc] at h
 have hcl:=cloneLb_rt ls hl
 refine GO h rfl ?_
 refine JK.drawJ [1,2] ⟨[],[(0,.blk 3 [gi c]),(1,.blk 120 [.o 3,.v (.bool bb)]),(3,.row 47 2 (rows++[[lbs ls,gi n]]))],4⟩ pg_ok ?_ (fun hk=>?_)
 ·refine V ?_
  exact ⟨rfl,rfl,rfl⟩
 ·refine RA.run (cx:=⟨pg,_,_,_,_,_,_,_⟩) pg_ok (by kernel_rfl) (by intro _ _ h; exact h) (tk [0,2,4]) (e:=false) (by kernel_rfl) ?_
  refine RA.both 1 3 (eqB_eq (by kernel_rfl)) (Stp.read 1 pg_ok rfl rfl ?_) (Stp.rt 3 hcl rfl rfl rfl ?_)
  ·refine RGO 3 false (al [5,6,7]++tk [8]++al [9]) hcl rfl rfl (by kernel_rfl) ?_
   refine ⟨by simp only [List.length_map,List.length_cons,List.length_nil]; omega,?_⟩
   refine RA.endJ (r1 3 4) (by kernel_rfl) hk ⟨trivial,⟨by rfl,by rfl,by rfl,trivial⟩,by rfl⟩
  ·refine RA.both 1 5 (eqB_eq (by kernel_rfl)) (Stp.read 1 pg_ok rfl rfl ?_) (Stp.mem 5 pg_ok rfl rfl rfl ?_)
   ·refine RA.run (cx:=⟨pg,_,_,_,_,_,_,_⟩) pg_ok (by kernel_rfl) (by intro _ _ h; exact h) (al [5,6,7]++tk [8]++al [9]) (e:=false) (by kernel_rfl) ?_
    refine ⟨by simp only [List.length_map,List.length_cons,List.length_nil]; omega,?_⟩
    refine RA.endJ (r1 3 4) (by kernel_rfl) hk ⟨trivial,⟨by rfl,by rfl,by rfl,trivial⟩,by rfl⟩
   ·refine RA.both 1 6 (eqB_eq (by kernel_rfl)) (Stp.read 1 pg_ok rfl rfl ?_) (Stp.mem 6 pg_ok rfl rfl rfl ?_)
    ·refine RA.run (cx:=⟨pg,_,_,_,_,_,_,_⟩) pg_ok (by kernel_rfl) (by intro _ _ h; exact h) (al [6,7]++tk [8]++al [9]) (e:=false) (by kernel_rfl) ?_
     refine ⟨by simp only [List.length_map,List.length_cons,List.length_nil]; omega,?_⟩
     refine RA.endJ (r1 3 4) (by kernel_rfl) hk ⟨trivial,⟨by rfl,by rfl,by rfl,trivial⟩,by rfl⟩
    ·refine RA.run (cx:=⟨pg,_,_,_,_,_,_,_⟩) pg_ok (by kernel_rfl) (by intro _ _ h; exact h) (al [1,7]++tk [8]++al [9]) (e:=false) (by kernel_rfl) ?_
     refine ⟨by simp only [List.length_map,List.length_cons,List.length_nil]; omega,?_⟩
     refine RA.endJ (r1 3 4) (by kernel_rfl) hk ⟨trivial,⟨by rfl,by rfl,by rfl,trivial⟩,by rfl⟩
end Go.Proofs.YtkoalgjlkcaonaaGreatDoor
