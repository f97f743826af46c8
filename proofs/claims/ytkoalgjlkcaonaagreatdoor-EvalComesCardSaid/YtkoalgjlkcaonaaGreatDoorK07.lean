/-
  DERIVED: THE SHELF's CONTRACTS AT THIS DUMP, IN PLAIN WORDS (tools/lay-plain.mjs out of 'TryzShelf.lean', which tools/lay-shelf.mjs wrote): THE SAME DECLARATIONS UNDER THE SAME NAMES: 'import', 'namespace', 'open', 'def', 'theorem' AND NOTHING ELSE: no command of the shelf's: FOR A HAND-IN. Each laying: the table of numbers ('.._ren') and one theorem, a field a fact of the dump's own or the kernel's comparison; each contract: ONE APPLICATION.
-/
import Derived.Shelf.Strings.Trim
import Derived.Shelf.Small.Strs
import Derived.Shelf.LaysM
import Derived.Shelf.LaysC
import Derived.Test.YtkoalgjlkcaonaaGreatDoorProg
import Derived.Test.YtkoalgjlkcaonaaGreatDoorK05
import Derived.Test.YtkoalgjlkcaonaaGreatDoorK06
import Derived.Shelf.Strings.SlTrimAscii
import Derived.Shelf.Strings.Prefix
import Derived.Lib.SlTrimSet
import Derived.Laws.Strings
import Derived.Lib.AppendZerosOnto
set_option linter.unusedSimpArgs false
namespace Go.Proofs
open Go.Shelf
def Tryz.lays161_ren : Go.Shelf.Ren:=⟨fun | 161=>109 | 231=>102 | 227=>104 | 233=>105 | 235=>107 | 228=>136 | 197=>137 | 151=>138 | 260=>159 | 152=>160 | 137=>67 | 119=>169 | 224=>170 | 225=>171 | 217=>101 | 266=>135 | n=>n,fun | 9=>9 | 4=>4 | 3=>3 | 5=>5 | 117=>163 | 116=>162 | 0=>0 | 124=>166 | 105=>189 | 21=>21 | 119=>221 | 46=>206 | 139=>224 | 138=>223 | n=>n,fun | 3=>7 | 4=>8 | n=>n⟩
theorem Tryz.lays161 : Go.Proofs.Lays.n161 Tryz.prog Tryz.lays161_ren:={
 mixed:=by kernel_rfl
 f119:=Tryz.func169.trans (congrArg some (by kernel_rfl))
 f137:=Tryz.func67.trans (congrArg some (by kernel_rfl))
 f151:=Tryz.func138.trans (congrArg some (by kernel_rfl))
 f152:=Tryz.func160.trans (congrArg some (by kernel_rfl))
 f161:=Tryz.func109.trans (congrArg some (by kernel_rfl))
 f197:=Tryz.func137.trans (congrArg some (by kernel_rfl))
 f217:=Tryz.func101.trans (congrArg some (by kernel_rfl))
 f224:=Tryz.func170.trans (congrArg some (by kernel_rfl))
 f225:=Tryz.func171.trans (congrArg some (by kernel_rfl))
 f227:=Tryz.func104.trans (congrArg some (by kernel_rfl))
 f228:=Tryz.func136.trans (congrArg some (by kernel_rfl))
 f231:=Tryz.func102.trans (congrArg some (by kernel_rfl))
 f233:=Tryz.func105.trans (congrArg some (by kernel_rfl))
 f235:=Tryz.func107.trans (congrArg some (by kernel_rfl))
 f260:=Tryz.func159.trans (congrArg some (by kernel_rfl))
 f266:=Tryz.func135.trans (congrArg some (by kernel_rfl))
 t0:=Tryz.underlying0
 a0:=Tryz.isAgg0
 z0:=Tryz.sizeOf0
 v0:=Tryz.zeroValue0
 t3:=Tryz.underlying3
 a3:=Tryz.isAgg3
 z3:=Tryz.sizeOf3
 v3:=Tryz.zeroValue3
 t4:=Tryz.underlying4
 a4:=Tryz.isAgg4
 z4:=Tryz.sizeOf4
 v4:=Tryz.zeroValue4
 t5:=Tryz.underlying5
 a5:=Tryz.isAgg5
 z5:=Tryz.sizeOf5
 v5:=Tryz.zeroValue5
 t9:=Tryz.underlying9
 a9:=Tryz.isAgg9
 z9:=Tryz.sizeOf9
 v9:=Tryz.zeroValue9
 t21:=Tryz.underlying21
 a21:=Tryz.isAgg21
 z21:=Tryz.sizeOf21
 v21:=Tryz.zeroValue21
 t46:=Tryz.underlying206
 a46:=Tryz.isAgg206
 z46:=Tryz.sizeOf206
 v46:=Tryz.zeroValue206
 t105:=Tryz.underlying189
 a105:=Tryz.isAgg189
 z105:=Tryz.sizeOf189
 v105:=Tryz.zeroValue189
 t116:=Tryz.underlying162
 a116:=Tryz.isAgg162
 z116:=Tryz.sizeOf162
 t117:=Tryz.underlying163
 a117:=Tryz.isAgg163
 z117:=Tryz.sizeOf163
 v117:=Tryz.zeroValue163
 t119:=Tryz.underlying221
 a119:=Tryz.isAgg221
 z119:=Tryz.sizeOf221
 t124:=Tryz.underlying166
 a124:=Tryz.isAgg166
 z124:=Tryz.sizeOf166
 v124:=Tryz.zeroValue166
 t138:=Tryz.underlying223
 a138:=Tryz.isAgg223
 z138:=Tryz.sizeOf223
 v138:=Tryz.zeroValue223
 t139:=Tryz.underlying224
 a139:=Tryz.isAgg224
 z139:=Tryz.sizeOf224
 v139:=Tryz.zeroValue224
 g3:=by kernel_rfl
 g4:=by kernel_rfl }
def Tryz.lays160_ren : Go.Shelf.Ren:=⟨fun | 160=>68 | 232=>103 | 231=>102 | 227=>104 | 234=>106 | 233=>105 | 236=>108 | 235=>107 | 228=>136 | 271=>139 | 151=>138 | 197=>137 | 120=>161 | 152=>160 | 260=>159 | 137=>67 | 119=>169 | 224=>170 | 225=>171 | 217=>101 | 266=>135 | n=>n,fun | 9=>9 | 4=>4 | 3=>3 | 5=>5 | 117=>163 | 116=>162 | 0=>0 | 124=>166 | 21=>21 | 105=>189 | 46=>206 | 119=>221 | 139=>224 | 138=>223 | n=>n,fun | 3=>7 | 4=>8 | n=>n⟩
theorem Tryz.lays160 : Go.Proofs.Lays.n160 Tryz.prog Tryz.lays160_ren:={
 mixed:=by kernel_rfl
 f119:=Tryz.func169.trans (congrArg some (by kernel_rfl))
 f120:=Tryz.func161.trans (congrArg some (by kernel_rfl))
 f137:=Tryz.func67.trans (congrArg some (by kernel_rfl))
 f151:=Tryz.func138.trans (congrArg some (by kernel_rfl))
 f152:=Tryz.func160.trans (congrArg some (by kernel_rfl))
 f160:=Tryz.func68.trans (congrArg some (by kernel_rfl))
 f197:=Tryz.func137.trans (congrArg some (by kernel_rfl))
 f217:=Tryz.func101.trans (congrArg some (by kernel_rfl))
 f224:=Tryz.func170.trans (congrArg some (by kernel_rfl))
 f225:=Tryz.func171.trans (congrArg some (by kernel_rfl))
 f227:=Tryz.func104.trans (congrArg some (by kernel_rfl))
 f228:=Tryz.func136.trans (congrArg some (by kernel_rfl))
 f231:=Tryz.func102.trans (congrArg some (by kernel_rfl))
 f232:=Tryz.func103.trans (congrArg some (by kernel_rfl))
 f233:=Tryz.func105.trans (congrArg some (by kernel_rfl))
 f234:=Tryz.func106.trans (congrArg some (by kernel_rfl))
 f235:=Tryz.func107.trans (congrArg some (by kernel_rfl))
 f236:=Tryz.func108.trans (congrArg some (by kernel_rfl))
 f260:=Tryz.func159.trans (congrArg some (by kernel_rfl))
 f266:=Tryz.func135.trans (congrArg some (by kernel_rfl))
 f271:=Tryz.func139.trans (congrArg some (by kernel_rfl))
 t0:=Tryz.underlying0
 a0:=Tryz.isAgg0
 z0:=Tryz.sizeOf0
 v0:=Tryz.zeroValue0
 t3:=Tryz.underlying3
 a3:=Tryz.isAgg3
 z3:=Tryz.sizeOf3
 v3:=Tryz.zeroValue3
 t4:=Tryz.underlying4
 a4:=Tryz.isAgg4
 z4:=Tryz.sizeOf4
 v4:=Tryz.zeroValue4
 t5:=Tryz.underlying5
 a5:=Tryz.isAgg5
 z5:=Tryz.sizeOf5
 v5:=Tryz.zeroValue5
 t9:=Tryz.underlying9
 a9:=Tryz.isAgg9
 z9:=Tryz.sizeOf9
 v9:=Tryz.zeroValue9
 t21:=Tryz.underlying21
 a21:=Tryz.isAgg21
 z21:=Tryz.sizeOf21
 v21:=Tryz.zeroValue21
 t46:=Tryz.underlying206
 a46:=Tryz.isAgg206
 z46:=Tryz.sizeOf206
 v46:=Tryz.zeroValue206
 t105:=Tryz.underlying189
 a105:=Tryz.isAgg189
 z105:=Tryz.sizeOf189
 v105:=Tryz.zeroValue189
 t116:=Tryz.underlying162
 a116:=Tryz.isAgg162
 z116:=Tryz.sizeOf162
 t117:=Tryz.underlying163
 a117:=Tryz.isAgg163
 z117:=Tryz.sizeOf163
 v117:=Tryz.zeroValue163
 t119:=Tryz.underlying221
 a119:=Tryz.isAgg221
 z119:=Tryz.sizeOf221
 t124:=Tryz.underlying166
 a124:=Tryz.isAgg166
 z124:=Tryz.sizeOf166
 v124:=Tryz.zeroValue166
 t138:=Tryz.underlying223
 a138:=Tryz.isAgg223
 z138:=Tryz.sizeOf223
 v138:=Tryz.zeroValue223
 t139:=Tryz.underlying224
 a139:=Tryz.isAgg224
 z139:=Tryz.sizeOf224
 v139:=Tryz.zeroValue224
 g3:=by kernel_rfl
 g4:=by kernel_rfl }
def Tryz.lays106_ren : Go.Shelf.Ren:=⟨fun | 106=>40 | 213=>79 | 265=>112 | n=>n,fun | 9=>9 | 3=>3 | n=>n,fun | n=>n⟩
theorem Tryz.lays106 : Go.Proofs.Lays.n106 Tryz.prog Tryz.lays106_ren:={
 mixed:=by kernel_rfl
 f106:=Tryz.func40.trans (congrArg some (by kernel_rfl))
 f213:=Tryz.func79.trans (congrArg some (by kernel_rfl))
 f265:=Tryz.func112.trans (congrArg some (by kernel_rfl))
 t3:=Tryz.underlying3
 a3:=Tryz.isAgg3
 z3:=Tryz.sizeOf3
 v3:=Tryz.zeroValue3
 t9:=Tryz.underlying9
 a9:=Tryz.isAgg9
 z9:=Tryz.sizeOf9
 v9:=Tryz.zeroValue9 }
open Go.RowKit in
theorem Tryz.strings_Compare (a b : ByteArray) (w : World) :
  Calls Tryz.prog 40 #[.string a,.string b] w fun e w'=>e=.returned (.int .i64 (Lib.compareBytes a.data.toList b.data.toList))∧w'=w:=Any.strings_Compare Tryz.lays106 a b w
def Tryz.lays137_ren : Go.Shelf.Ren:=⟨fun | 137=>67 | 217=>101 | 266=>135 | n=>n,fun | 9=>9 | 5=>5 | 3=>3 | n=>n,fun | n=>n⟩
theorem Tryz.lays137 : Go.Proofs.Lays.n137 Tryz.prog Tryz.lays137_ren:={
 mixed:=by kernel_rfl
 f137:=Tryz.func67.trans (congrArg some (by kernel_rfl))
 f217:=Tryz.func101.trans (congrArg some (by kernel_rfl))
 f266:=Tryz.func135.trans (congrArg some (by kernel_rfl))
 t3:=Tryz.underlying3
 a3:=Tryz.isAgg3
 z3:=Tryz.sizeOf3
 v3:=Tryz.zeroValue3
 t5:=Tryz.underlying5
 a5:=Tryz.isAgg5
 z5:=Tryz.sizeOf5
 v5:=Tryz.zeroValue5
 t9:=Tryz.underlying9
 a9:=Tryz.isAgg9
 z9:=Tryz.sizeOf9
 v9:=Tryz.zeroValue9 }
open Go.RowKit in
theorem Tryz.strings_IndexByte (s : ByteArray) (c : Int) (w : World) :
  Calls Tryz.prog 67 #[.string s,.int .u8 c] w fun e w'=>e=.returned (.int .i64 (Lib.indexByte s.data.toList c.toNat.toUInt8))∧w'=w:=Any.strings_IndexByte Tryz.lays137 s c w
end Go.Proofs
/-
  Contracts of Go's library on strings: IndexByte, Trim, Compare, Join, HasPrefix; cmp.Compare, cmp.Or of ints; slices.Index, Contains of strings.
-/
namespace Go.Proofs.YtkoalgjlkcaonaaGreatDoor
open Go.GK Go.PL Go.RowKit
set_option maxRecDepth 100000
abbrev gb (c : UInt8) : GV:=.v (.int .u8 (c.toNat : Int))

theorem indexByte_rt (s : ByteArray) (c : UInt8) : Rt pg 67 [gs s,gb c] (gi (Lib.indexByte s.data.toList c)) :=
 Rt.calls Tryz.call67 [.string s,.int .u8 c.toNat] _ fun w=>(Tryz.strings_IndexByte s c.toNat w).mono fun e w' ⟨he,hw⟩=>⟨by rw [he]; simp,by rw [hw]; exact Below.refl _ _⟩
theorem compare_rt (a b : ByteArray) : Rt pg 40 [gs a,gs b] (gi (cmpS a b)) :=
 Rt.calls Tryz.call40 [.string a,.string b] _ fun w=>(Tryz.strings_Compare a b w).mono fun e w' ⟨he,hw⟩=>⟨by rw [he,cmpBytes]; rfl,by rw [hw]; exact Below.refl _ _⟩
theorem trim_rt (s t : ByteArray) (hs : s.size≤1000000) (ht : t.size≤1000) (ha : t.data.toList.all (fun b=>decide (b.toNat < 128))=true) : Rt pg 68 [gs s,gs t] (gs (bs (Lib.trimS s.data.toList t.data.toList))) :=
 Rt.calls Tryz.call68 [.string s,.string t] _ fun w=>(Any.strings_Trim_laid Tryz.lays160 (by kernel_rfl) s t w (by omega) (by omega) (fun _ b hb=>of_decide_eq_true (List.all_eq_true.1 ha b (List.mem_of_getElem? hb)))).mono fun e w' ⟨he,hw⟩=>⟨he,hw⟩
theorem slitePrefix_rt (s p : ByteArray) : Rt pg 110 [gs s,gs p] (.b (prefF s p)):=by
 refine Rt.of pg_ok Tryz.func110 rfl Tryz.ntmps110 rfl Tryz.results110 Tryz.call110 fun H0 S0 w0 h0 g0=>?_
 unfold prefF
 by_cases h : p.size≤s.size
 ·refine p1 ?_
  refine ⟨by omega,by omega,by omega,?_⟩
  exact ⟨by simp [h]; rfl,rfl⟩
 ·refine p2 ?_
  exact ⟨by simp [h]; rfl,rfl⟩
theorem hasPrefix_rt (s p : ByteArray) : Rt pg 70 [gs s,gs p] (.b (prefF s p)):=by
 refine Rt.of pg_ok Tryz.func70 rfl Tryz.ntmps70 rfl Tryz.results70 Tryz.call70 fun H0 S0 w0 h0 g0=>?_
 refine GO (slitePrefix_rt s p) rfl ?_
 exact ⟨rfl,rfl⟩
theorem isNaN_rt (x : Int) : Rt pg 80 [gi x] (.v (.bool false)):=by
 refine Rt.of pg_ok Tryz.func80 rfl Tryz.ntmps80 rfl Tryz.results80 Tryz.call80 fun H0 S0 w0 h0 g0=>?_
 exact ⟨by simp; rfl,rfl⟩
def sgnF (x y : Int) : Int:=if x < y then -1 else if y < x then 1 else 0
theorem cmpInt_rt (x y : Int) : Rt pg 41 [gi x,gi y] (gi (sgnF x y)):=by
 refine Rt.of pg_ok Tryz.func41 rfl Tryz.ntmps41 rfl Tryz.results41 Tryz.call41 fun H0 S0 w0 h0 g0=>?_
 refine GO (isNaN_rt x) rfl ?_
 refine GO (isNaN_rt y) rfl ?_
 unfold sgnF
 by_cases h1 : x < y
 ·refine p1 ?_
  exact ⟨by simp [h1]; rfl,rfl⟩
 ·refine p2 ?_
  by_cases h2 : y < x
  ·refine p1 ?_
   exact ⟨by simp [h1,h2]; rfl,rfl⟩
  ·refine p2 ?_
   exact ⟨by simp [h1,h2]; rfl,rfl⟩
theorem idx_str_rt (l : List ByteArray) (x : ByteArray) (n : Nat) (hn : n≤l.length) (h1 : ∀ i,i < n→sEq x (l.getD i ⟨#[]⟩)=false) (h2 : n < l.length→sEq x (l.getD n ⟨#[]⟩)=true) (hl : l.length < 4611686018427387904) :
  Rt pg 167 [.sl 1 (l.map fun x=>[gs x]),gs x] (gi (if n < l.length then n else -1)):=by
 refine Rt.of pg_ok Tryz.func167 rfl Tryz.ntmps167 rfl Tryz.results167 Tryz.call167 fun H0 S0 w0 h0 g0=>?_
 refine JK.loop (α:=Nat) (fun i=>⟨[(0,.sl 1 (l.map fun x=>[gs x])),(1,gs x),(7,gi (l.map fun x=>[gs x]).length),(8,gi i)],[],0⟩) (fun i=>i≤n) (fun i=>n - i) 0 id ?_ (Nat.zero_le _) ?_
 ·exact ⟨⟨rfl,rfl,rfl,rfl,trivial⟩,trivial,rfl⟩
 ·intro i hi
  refine V ?_
  have hlen : (l.map fun x=>[gs x]).length=l.length:=by simp
  by_cases hlt : i < l.length
  ·have hg : l.getD i ⟨#[]⟩=l[i]:=by simp [hlt]
   refine p1 ?_
   refine ix (h:=?_)
   by_cases hin : i < n
   ·have:=h1 i hin
    rw [hg] at this
    refine p2 ?_
    exact ⟨i + 1,id,⟨⟨rfl,rfl,rfl,succ_gi (by omega),trivial⟩,trivial,rfl⟩,hin,by show n - (i + 1) < n - i; omega⟩
   ·have hin' : i=n:=by omega
    subst hin'
    have:=h2 hlt
    rw [hg] at this
    refine p1 ?_
    exact ⟨by rw [if_pos hlt]; rfl,rfl⟩
  ·refine p2 ?_
   refine V ?_
   exact ⟨by rw [if_neg (by omega)]; rfl,rfl⟩
def conS (l : List ByteArray) (x : ByteArray) : Bool:=l.any fun y=>sEq x y
theorem conS_rt (l : List ByteArray) (x : ByteArray) (hl : l.length < 4611686018427387904) : Rt pg 156 [.sl 1 (l.map fun x=>[gs x]),gs x] (.b (conS l x)):=by
 refine Rt.of pg_ok Tryz.func156 rfl Tryz.ntmps156 rfl Tryz.results156 Tryz.call156 fun H0 S0 w0 h0 g0=>?_
 by_cases h : ∃ n,n < l.length∧sEq x (l.getD n ⟨#[]⟩)=true
 ·obtain ⟨m,hm⟩:=h
  have hw : ∃ n,(n < l.length∧sEq x (l.getD n ⟨#[]⟩)=true)∧∀ i,i < n→¬ (i < l.length∧sEq x (l.getD i ⟨#[]⟩)=true):=by
   induction m using Nat.strongRecOn with
   | ind m ih =>
    by_cases hex : ∃ i,i < m∧i < l.length∧sEq x (l.getD i ⟨#[]⟩)=true
    ·obtain ⟨i,h1,h2⟩:=hex; exact ih i h1 h2
    ·exact ⟨m,hm,fun i hi hc=>hex ⟨i,hi,hc⟩⟩
  obtain ⟨n,⟨h1,h2⟩,h3⟩:=hw
  refine GO (idx_str_rt l x n (by omega) (fun i hi=>by have:=h3 i hi; cases hc : sEq x (l.getD i ⟨#[]⟩) with | false=>rfl | true=>exact (this ⟨by omega,hc⟩).elim) (fun _=>h2) hl) rfl ?_
  refine ⟨?_,rfl⟩
  have hc : conS l x=true:=by
   unfold conS
   rw [List.any_eq_true]
   exact ⟨l[n],List.getElem_mem h1,by simpa [h1] using h2⟩
  show _=conS l x
  rw [hc,if_pos h1]
  exact decide_eq_true (by omega)
 ·refine GO (idx_str_rt l x l.length (Nat.le_refl _) (fun i hi=>by cases hc : sEq x (l.getD i ⟨#[]⟩) with | false=>rfl | true=>exact (h ⟨i,hi,hc⟩).elim) (fun hlt=>absurd hlt (Nat.lt_irrefl _)) hl) rfl ?_
  refine ⟨?_,rfl⟩
  have hc : conS l x=false:=by
   unfold conS
   rw [List.any_eq_false]
   intro y hy he
   obtain ⟨i,hi,e⟩:=List.getElem_of_mem hy
   exact h ⟨i,hi,by simpa [hi,e] using he⟩
  show _=conS l x
  rw [hc,if_neg (Nat.lt_irrefl _)]
  rfl
end Go.Proofs.YtkoalgjlkcaonaaGreatDoor
/-
  Plain laws: what may be a name, by the library's words. No program is in sight.
-/
namespace Go.PL
open Go Go.GK

def lettL : List UInt8:=[97,98,99,100,101,102,103,104,105,106,107,108,109,110,111,112,113,114,115,116,117,118,119,120,121,122,65,66,67,68,69,70,71,72,73,74,75,76,77,78,79,80,81,82,83,84,85,86,87,88,89,90,95]
def digL : List UInt8:=[48,49,50,51,52,53,54,55,56,57]

theorem u8_all {p : UInt8→Bool} (h : ∀ n : Fin 256,p (UInt8.ofNat n.val)=true) (c : UInt8) : p c=true:=by
 have:=h ⟨c.toNat,c.toNat_lt⟩
 simpa using this
theorem lett_iff (c : UInt8) : decide (0≤Lib.indexByte lettL c)=letB c:=by
 have:=u8_all (p:=fun c=>decide (0≤Lib.indexByte lettL c) == letB c) (by decide +kernel) c
 simpa using this
theorem word_iff (c : UInt8) : (lettL++digL).contains c=(letB c || digB c):=by
 have:=u8_all (p:=fun c=>(lettL++digL).contains c == (letB c || digB c)) (by decide +kernel) c
 simpa using this

theorem dropWhile_nil {α : Type} (p : α→Bool) (l : List α) : l.dropWhile p=[] ↔ ∀ x ∈ l,p x=true:=by
 induction l with
 | nil=>simp
 | cons a l ih =>
  simp only [List.dropWhile_cons]
  cases h : p a with
  | true=>simp [ih,h]
  | false=>simp [h]
theorem dropWhile_mem {α : Type} (p : α→Bool) : ∀ (l : List α) (x : α),x ∈ l→x ∈ l.dropWhile p∨p x=true
 | a :: l,x,h=>by
  simp only [List.dropWhile_cons]
  cases hp : p a with
  | true =>
   rcases List.mem_cons.1 h with rfl | h
   ·exact .inr hp
   ·exact dropWhile_mem p l x h
  | false=>exact .inl h
theorem trim_nil (l cs : List UInt8) : Lib.trimS l cs=[] ↔ ∀ x ∈ l,cs.contains x=true:=by
 unfold Lib.trimS Lib.trimLeftS Lib.trimRightS
 rw [dropWhile_nil]
 constructor
 ·intro h x hx
  rcases dropWhile_mem (cs.contains ·) l.reverse x (List.mem_reverse.2 hx) with h1 | h1
  ·exact h x (List.mem_reverse.2 h1)
  ·exact h1
 ·intro h x hx
  refine h x ?_
  have:=(List.dropWhile_sublist (l:=l.reverse) (cs.contains ·)).subset (List.mem_reverse.1 hx)
  exact List.mem_reverse.1 this

theorem nbad_some {s : ByteArray} {i : Nat} (h : i < s.size) : nbad s i=(!letB s[i] && (i == 0 || !digB s[i])):=by
 unfold nbad
 rw [getElem?_pos s i h]

theorem name_prog (s : ByteArray) (h0 : 1≤s.size) (h1 : s.size≤24) : nameF s=(letB (s[0]'h0) && decide (Lib.trimS s.data.toList (lettL++digL)=[])):=by
 unfold nameF
 rw [decide_eq_true (p:=1≤s.size∧s.size≤24) ⟨h0,h1⟩,Bool.and_true,Bool.eq_iff_iff,Bool.not_eq_true',Bool.and_eq_true,decide_eq_true_iff,trim_nil]
 constructor
 ·intro h
  have h2:=anyB_get h
  have h3:=h2 0 h0
  rw [nbad_some h0] at h3
  refine ⟨by simpa using h3,fun x hx=>?_⟩
  obtain ⟨i,hi,rfl⟩:=List.getElem_of_mem hx
  rw [size_data] at hi
  have h4:=h2 i hi
  rw [nbad_some hi] at h4
  rw [word_iff]
  have e : s.data.toList[i]=s[i]:=rfl
  rw [e]
  revert h4
  cases letB s[i] <;> cases digB s[i] <;> simp
 ·rintro ⟨h2,h3⟩
  refine anyB_false fun i hi=>?_
  rw [nbad_some hi]
  have h4:=h3 s[i] (List.getElem_mem (l:=s.data.toList) (by rw [size_data]; exact hi))
  rw [word_iff] at h4
  by_cases hi0 : i=0
  ·subst hi0; rw [h2]; rfl
  ·have : (i == 0)=false:=by simpa using hi0
   rw [this]
   revert h4
   cases letB s[i] <;> cases digB s[i] <;> simp
theorem nameF_no {s : ByteArray} (h : ¬ (1≤s.size∧s.size≤24)) : nameF s=false:=by
 unfold nameF
 rw [decide_eq_false h,Bool.and_false]
end Go.PL
/-
  Contracts: package label: names, values, labels.
-/
namespace Go.Proofs.YtkoalgjlkcaonaaGreatDoor
open Go.GK Go.PL Go.RowKit
set_option maxRecDepth 100000
abbrev lb (x : Lb) : List GV:=[gs x.name,gs x.value]
abbrev mt (x : Mt) : List GV:=[gs x.name,gi x.op,gs x.value]

theorem empty_iff (s : ByteArray) : sEq s ⟨#[]⟩=decide (s.size=0):=by
 rw [Bool.eq_iff_iff,sEq_iff,decide_eq_true_iff]
 exact ⟨fun e=>by rw [e]; rfl,fun h=>ba_inj (List.eq_nil_of_length_eq_zero (by rw [size_data]; exact h))⟩

theorem name_rt (s : ByteArray) : Rt pg 33 [gs s] (.b (nameF s)):=by
 refine Rt.of pg_ok Tryz.func33 rfl Tryz.ntmps33 rfl Tryz.results33 Tryz.call33 fun H0 S0 w0 h0 g0=>?_
 have he:=empty_iff s
 by_cases h0 : s.size=0
 ·rw [decide_eq_true h0] at he
  rw [nameF_no (by omega)]
  refine p2 ?_ (show (!sEq s ⟨#[]⟩)=false by rw [he]; rfl)
  exact ⟨rfl,rfl⟩
 ·rw [decide_eq_false h0] at he
  refine p1 ?_ (show (!sEq s ⟨#[]⟩)=true by rw [he]; rfl)
  by_cases h1 : s.size≤24
  ·refine p1 ?_
   rw [name_prog s (by omega) h1]
   refine sx (i:=0) (h:=?_)
   refine GO (indexByte_rt ⟨lettL.toArray⟩ s[0]) rfl ?_
   have e : decide (0≤Lib.indexByte lettL s[0])=letB s[0]:=lett_iff _
   cases hl : letB s[0] with
   | false =>
    rw [hl] at e
    refine p2 ?_ e
    exact ⟨rfl,rfl⟩
   | true =>
    rw [hl] at e
    refine p1 ?_ e
    refine GO (trim_rt s ⟨(lettL++digL).toArray⟩ (by omega) (by decide) (by decide)) rfl ?_
    refine ⟨?_,rfl⟩
    show sEq _ ⟨#[]⟩=_
    rw [Bool.true_and,Bool.eq_iff_iff,sEq_iff,decide_eq_true_iff]
    refine ⟨fun h=>?_,fun h=>?_⟩
    ·have:=congrArg (fun b : ByteArray=>b.data.toList) h
     simpa only [data_bs] using this
    ·exact congrArg bs h
  ·rw [nameF_no (by omega)]
   refine p2 ?_
   exact ⟨rfl,rfl⟩
theorem lname_rt (s : ByteArray) : Rt pg 11 [gs s] (.b (nameF s)):=by
 refine Rt.of pg_ok Tryz.func11 rfl Tryz.ntmps11 rfl Tryz.results11 Tryz.call11 fun H0 S0 w0 h0 g0=>?_
 refine GO (name_rt s) rfl ?_
 exact ⟨rfl,rfl⟩

theorem vbad_some {s : ByteArray} {i : Nat} (h : i < s.size) : vbad s i=(decide (s[i].toNat < 32) || (decide (126 < s[i].toNat) || (decide (s[i].toNat=34) || decide (s[i].toNat=92)))):=by
 unfold vbad
 rw [getElem?_pos s i h]
theorem value_rt (s : ByteArray) (hs : s.size < 4611686018427387904) : Rt pg 66 [gs s] (.b (valueF s)):=by
 refine Rt.of pg_ok Tryz.func66 rfl Tryz.ntmps66 rfl Tryz.results66 Tryz.call66 fun H0 S0 w0 h0 g0=>?_
 refine JK.loop (α:=Nat) (fun i=>⟨[(0,gs s),(5,gi s.size),(6,gi i)],[],0⟩) (fun i=>i≤s.size∧∀ j,j < i→vbad s j=false) (fun i=>s.size - i) 0 id ?_ ⟨Nat.zero_le _,fun j hj=>absurd hj (by omega)⟩ ?_
 ·exact ⟨⟨rfl,rfl,rfl,trivial⟩,trivial,rfl⟩
 ·rintro i ⟨hi,hgood⟩
  refine V ?_
  by_cases hlt : i < s.size
  ·have hv:=vbad_some hlt
   have hbad : vbad s i=true→valueF s=false:=fun h=>by unfold valueF; rw [anyB_true hlt h]; rfl
   have hnext : vbad s i=false→∀ j,j < i + 1→vbad s j=false:=fun h j hj=>by
    rcases Nat.lt_succ_iff_lt_or_eq.1 hj with h1 | h1
    ·exact hgood j h1
    ·subst h1; exact h
   by_cases h1 : s[i].toNat < 32 <;> by_cases h2 : 126 < s[i].toNat <;> by_cases h3 : s[i].toNat=34 <;> by_cases h4 : s[i].toNat=92 <;>
    simp only [h1,h2,h3,h4,decide_true,decide_false,Bool.true_or,Bool.or_true,Bool.or_false] at hv <;>
    (repeat (first | refine p1 ?_ | refine p2 ?_ | refine p3 ?_ | refine p4 ?_ | refine sx (h:=?_))) <;>
    first | exact ⟨(hbad hv).symm,rfl⟩ | exact ⟨i + 1,id,⟨⟨rfl,rfl,succ_gi (by omega),trivial⟩,trivial,rfl⟩,⟨hlt,hnext hv⟩,by show s.size - (i + 1) < s.size - i; omega⟩
  ·refine p2 ?_
   refine V ?_
   obtain rfl : i=s.size:=by omega
   refine ⟨?_,rfl⟩
   unfold valueF
   rw [anyB_false hgood]
   show decide _=_
   simp only [Bool.not_false,Bool.true_and,decide_eq_decide]
   omega

theorem lbad_at {l : List Lb} {i : Nat} (h : i < l.length) : lbad l i=(!nameF l[i].name || (!valueF l[i].value || (sEq l[i].value ⟨#[]⟩ || (decide (0 < i) && !sLt (l[i - 1]'(by omega)).name l[i].name)))):=by
 unfold lbad
 have e1 : ∀ j (hj : j < l.length),l.getD j default=l[j]:=fun j hj=>by simp [hj]
 rw [e1 i h,e1 (i - 1) (by omega)]
def Sh (l : List Lb) : Prop:=∀ x ∈ l,x.value.size < 4611686018427387904
theorem or_rt (a b : Int) : Rt pg 39 [.sl 1 [[gi a],[gi b]]] (gi (if a=0 then b else a)):=by
 refine Rt.of pg_ok Tryz.func39 rfl Tryz.ntmps39 rfl Tryz.results39 Tryz.call39 fun H0 S0 w0 h0 g0=>?_
 refine JK.loop (α:=Nat) (fun i=>⟨[(3,gi 0),(6,.sl 1 [[gi a],[gi b]]),(7,gi 2),(8,gi i)],[],0⟩) (fun i=>i≤2∧(0 < i→a=0)∧(1 < i→b=0)) (fun i=>2 - i) 0 id ?_ ⟨by omega,by omega,by omega⟩ ?_
 ·exact ⟨⟨rfl,rfl,rfl,rfl,trivial⟩,trivial,rfl⟩
 ·rintro i ⟨hi,h1,h2⟩
  match i,hi,h1,h2 with
  | 0,_,_,_ =>
   refine V ?_
   refine p1 ?_
   refine ⟨[gi a],by decide,rfl,?_⟩
   by_cases h : a=0
   ·refine p2 ?_
    exact ⟨1,id,⟨⟨rfl,rfl,rfl,rfl,trivial⟩,trivial,rfl⟩,⟨by omega,fun _=>h,by omega⟩,by show 2 - 1 < 2; omega⟩
   ·refine p1 ?_
    exact ⟨by rw [if_neg h]; rfl,rfl⟩
  | 1,_,h1,_ =>
   refine V ?_
   refine p1 ?_
   have ha:=h1 (by omega)
   refine ⟨[gi b],by decide,rfl,?_⟩
   by_cases h : b=0
   ·refine p2 ?_
    exact ⟨2,id,⟨⟨rfl,rfl,rfl,rfl,trivial⟩,trivial,rfl⟩,⟨by omega,fun _=>ha,fun _=>h⟩,by show 2 - 2 < 2 - 1; omega⟩
   ·refine p1 ?_
    exact ⟨by rw [if_pos ha]; rfl,rfl⟩
  | 2,_,h1,h2 =>
   refine V ?_
   refine p2 ?_
   refine V ?_
   exact ⟨by rw [if_pos (h1 (by omega)),h2 (by omega)]; rfl,rfl⟩
end Go.Proofs.YtkoalgjlkcaonaaGreatDoor
/-
  Samples and buckets, as the ghost machine holds them.
-/
namespace Go.Proofs.YtkoalgjlkcaonaaGreatDoor
open Go.GK Go.PL
abbrev sm (x : Sm) : List GV:=[gi x.time,gi x.value]
end Go.Proofs.YtkoalgjlkcaonaaGreatDoor
/-
  Plain laws on bits: no program is in sight.
-/
namespace Go.PL
open Go Go.GK


def val8 (f : Nat→Bool) : Nat:=(f 0).toNat * 128 + (f 1).toNat * 64 + (f 2).toNat * 32 + (f 3).toNat * 16 + (f 4).toNat * 8 + (f 5).toNat * 4 + (f 6).toNat * 2 + (f 7).toNat

def bitG (bs : List Bool) (k : Nat) : Bool:=bs[k]?.getD false
def byteN (bs : List Bool) (i : Nat) : Nat:=val8 fun j=>bitG bs (8 * i + j)
def pack (bs : List Bool) : List UInt8:=(List.range ((bs.length + 7) / 8)).map fun i=>UInt8.ofNat (byteN bs i)

def lowBits (u k : Nat) : List Bool:=((List.range k).map fun i=>u.testBit i).reverse
def zigF (n : Int) : Nat:=if n < 0 then (-2 * n - 1).toNat else (2 * n).toNat
def sizeF (k : Nat) : Nat:=[0,4,7,12,20,32,64].getD k 0
def clsF (u : Nat) : Nat:=if u < 1 then 0 else if u < 16 then 1 else if u < 128 then 2 else if u < 4096 then 3 else if u < 1048576 then 4 else if u < 4294967296 then 5 else 6
def pre (k : Nat) : List Bool:=List.replicate k true++(if k < 6 then [false] else [])
def putF (n : Int) : List Bool:=pre (clsF (zigF n))++lowBits (zigF n) (sizeF (clsF (zigF n)))

end Go.PL
/-
  Plain laws on samples in few bits: no program is in sight.
-/
namespace Go.PL
open Go Go.GK

def chunkR : List Sm→Sm→Int→Bool→List Bool
 | [],_,_,_=>[]
 | x :: r,last,step,f=>putF (x.time - last.time - step)++(putF (w64 (x.value - last.value))++chunkR r x (if f then step else x.time - last.time) false)
def chunkF (l : List Sm) : List Bool:=putF l.length++chunkR l ⟨0,0⟩ 0 true
def enc (l : List Sm) : ByteArray:=⟨(pack (chunkF l)).toArray⟩

abbrev In64 (x : Int) : Prop:=-9223372036854775808≤x∧x≤9223372036854775807
def V64 (l : List Sm) : Prop:=∀ x ∈ l,In64 x.value

structure Fit (last : Sm) (step : Int) : Prop where
 t1 : -1099511627776≤last.time
 t2 : last.time≤1099511627776
 s1 : -2199023255552≤step
 s2 : step≤2199023255552

theorem Fit.next {last : Sm} {step : Int} (h : Fit last step) {x : Sm} (h1 : -1099511627776≤x.time) (h2 : x.time≤1099511627776) (f : Bool) : Fit x (if f then step else x.time - last.time):=by
 have:=h.t1; have:=h.t2; have:=h.s1; have:=h.s2
 refine ⟨h1,h2,?_,?_⟩ <;> cases f <;> simp <;> omega
theorem Fit.zero : Fit ⟨0,0⟩ 0:=⟨by decide,by decide,by decide,by decide⟩

end Go.PL
/-
  Plain laws: numbers, texts, labels, series as bytes; no program is in sight.
-/
namespace Go.PL
structure Ser where
 labels : List Lb
 samples : List Sm
end Go.PL
/-
  Plain laws: what is written is what is read, and what was read was written just so; no program is in sight.
-/
namespace Go.PL
open Go
end Go.PL
/-
  Series, as the ghost machine holds them.
-/
namespace Go.Proofs.YtkoalgjlkcaonaaGreatDoor
open Go.GK Go.PL Go.RowKit
abbrev lbs (l : List Lb) : GV:=.sl 2 (l.map lb)
abbrev sms (l : List Sm) : GV:=.sl 2 (l.map sm)
abbrev se (x : Ser) : List GV:=[lbs x.labels,sms x.samples]
abbrev ses (l : List Ser) : GV:=.sl 2 (l.map se)
end Go.Proofs.YtkoalgjlkcaonaaGreatDoor
/-
  Contracts: sort.SliceStable of own series, in an order that a closure gives: its entry, over the library's own laying.
-/
namespace Go.Proofs.YtkoalgjlkcaonaaGreatDoor
open Go.GK Go.PL Go.RowKit Go.Lib Go.Shelf Go.Proofs Go.Sort
set_option maxRecDepth 100000
theorem inv_clo {H : Hid} {g : FuncId} {u : Value} (h : Is H (.fn (.func g) [] [.p 1 0]) u) : u=.func (.func g) #[] #[.pointer (some ⟨H.bl 1,0,none⟩)]:=by
 obtain ⟨us,vs,rfl,h1,_,h3,h4⟩:=h.inv_fn
 have e1 : us=#[]:=Array.eq_empty_of_size_eq_zero h1.symm
 have e2 : vs=#[Value.pointer (some ⟨H.bl 1,0,none⟩)]:=by
  apply Array.ext
  ·simpa using h3.symm
  ·intro i h5 h6
   have hi' : i=0:=by simp at h6; omega
   subst hi'
   have h7:=(h4 0 _ rfl).inv_p.1
   have h8 : vs.getD 0 undef=vs[0]:=by simp [Array.getD,h5]
   rw [h8] at h7
   exact h7
 rw [e1,e2]
section
variable {α : Type} {enc : α→List GV} {k : Nat} {ty tb : TypeId} {g sw f fs : FuncId} {T : TypeId} {lt : α→α→Bool}
theorem entry_hf (hcall : ∀ a w,(callFunc f a).run pg.P w=.ok (.enter f a) w)
  (tiny : ∀ (a : Option Addr) (n c : Nat),n≤1→∀ (lb : Array Value) (w : World),Calls pg.P f #[.iface T (.slice a n c),.func (.func g) #[] lb] w fun e w'=>e=.returned (.tuple #[])∧∃ os,w'=grow w os)
  (big : ∀ (a : Option Addr) (n c : Nat),2≤n→n < 4611686018427387904→∀ (lb : Array Value) (w : World),∃ w1,Below w.heap.size w w1∧∀ R : World→Prop,
   Calls pg.P fs #[.agg #[.func (.func g) #[] lb,.func (.func sw) #[] #[.slice a n c,typeHandle pg.P ty]],.int .i64 n] w1 (fun e w'=>e=.returned (.tuple #[])∧R w')→Calls pg.P f #[.iface T (.slice a n c),.func (.func g) #[] lb] w fun e w'=>e=.returned (.tuple #[])∧R w')
  (l : List α) (R : List α→Prop) (hone : l.length≤1→R l) (hmax : l.length < 4611686018427387904)
  (hst : Hf pg fs 2 [.agg (dat ty g sw),gi l.length] (sgm enc k ty tb l) (SR enc k ty tb R)) :
  Hf pg f 2 [.ifc T (.o 0),.fn (.func g) [] [.p 1 0]] (sgm enc k ty tb l) (SR enc k ty tb R):=by
 refine ⟨hcall,fun H us w hn hg hcs hs=>?_⟩
 obtain ⟨hul,hi⟩:=hcs
 obtain ⟨v0,hv0,hi0⟩:=(hi 0 _ rfl).inv_ifc
 obtain ⟨rfl,h0n⟩:=hi0.inv_o
 have hv1:=inv_clo (hi 1 _ rfl)
 obtain ⟨xs,hown,hrow⟩:=hs.holds (0,.row ty k (l.map enc)) (by simp)
 obtain ⟨us1,hb1,hz1,hbi⟩:=hs.holds (1,.blk tb [.o 0]) (by simp)
 have hus : us=#[.iface T (H.sv 0),.func (.func g) #[] #[.pointer (some ⟨H.bl 1,0,none⟩)]]:=by
  have h2 : us.size=2:=by rw [← hul]; rfl
  apply Array.ext
  ·exact h2
  ·intro i h3 h4
   have : us[i]=us.getD i undef:=by simp [Array.getD,h3]
   rw [this]
   match i,h4 with
   | 0,_=>exact hv0
   | 1,_=>exact hv1
 rw [hus]
 have hsv : ∃ a c,H.sv 0=.slice a l.length c:=by
  rcases hown.2 with ⟨h1,h2⟩ | ⟨gb,cap,cur,h1,_⟩
  ·refine ⟨none,0,?_⟩
   rw [List.length_map] at h2
   rw [h1,h2]
  ·rw [List.length_map] at h1
   exact ⟨_,cap,h1⟩
 obtain ⟨a,c,hsv⟩:=hsv
 rw [hsv]
 by_cases h1 : l.length≤1
 ·refine (tiny a l.length c h1 _ w).mono ?_
  rintro _ w' ⟨rfl,os,rfl⟩
  have hb : Below w.heap.size w (grow w os):=⟨rfl,rfl,rfl,by simp,fun b hb=>heap_grow_old w os hb⟩
  exact ⟨_,.tup [],H,_,rfl,.tup rfl (fun j g h=>by simp at h),hs.below hb,Fr.below (Fr.refl _ _ _) hb,rfl,⟨l,hone h1,rfl⟩,hn⟩
 ·obtain ⟨w1,hb,hbig⟩:=big a l.length c (by omega) hmax #[.pointer (some ⟨H.bl 1,0,none⟩)] w
  have hc : Cells H [.agg (dat ty g sw),gi l.length] #[.agg #[.func (.func g) #[] #[.pointer (some ⟨H.bl 1,0,none⟩)],.func (.func sw) #[] #[.slice a l.length c,typeHandle pg.P ty]],.int .i64 l.length]:=by
   have h1n : 1 < H.n:=by rw [hn]; decide
   refine ⟨rfl,fun j gv hj=>?_⟩
   match j with
   | 0 =>
    simp at hj
    subst hj
    refine .agg rfl fun j gv hj=>?_
    match j with
    | 0 =>
     simp at hj
     subst hj
     refine .fn rfl (fun j g hj=>by simp at hj) rfl (fun j gv hj=>?_)
     match j with
     | 0=>simp at hj; subst hj; exact .p h1n
     | j + 1=>simp at hj
    | 1 =>
     simp at hj
     subst hj
     refine .fn rfl (fun j g hj=>by simp at hj) rfl (fun j gv hj=>?_)
     match j with
     | 0=>simp at hj; subst hj; exact .o h0n hsv rfl
     | 1=>simp at hj; subst hj; exact .ro (.v _)
     | j + 2=>simp at hj
    | j + 2=>simp at hj
   | 1 =>
    simp at hj
    subst hj
    exact .ro (.v _)
   | j + 2=>simp at hj
  have hq:=hst.ct H _ w1 hn hg hc (hs.below hb)
  refine (hbig (fun w'=>∃ H' σ',Sat H' σ' w'∧Fr H (blks H (sgm enc k ty tb l)) w1 H' (blks H' σ') w'∧(∃ l',R l'∧σ'=sgm enc k ty tb l')∧H'.n=2) (hq.mono ?_)).mono ?_
  ·rintro e w' ⟨u,gv,H',σ',rfl,hiu,hs',hfr,rfl,hR,hn'⟩
   obtain ⟨vs,rfl,h2,_⟩:=hiu.inv_tup
   have : vs=#[]:=Array.eq_empty_of_size_eq_zero h2.symm
   subst this
   exact ⟨rfl,H',σ',hs',hfr,hR,hn'⟩
  ·rintro e w' ⟨rfl,H',σ',hs',hfr,hR,hn'⟩
   refine ⟨_,.tup [],H',σ',rfl,.tup rfl (fun j g h=>by simp at h),hs',?_,rfl,hR,hn'⟩
   exact ⟨hfr.os.trans hb.os,hfr.tape.trans hb.tape,hfr.output.trans hb.output,Nat.le_trans hb.size hfr.size,fun b h2 h3=>(hfr.keep b (Nat.lt_of_lt_of_le h2 hb.size) h3).trans (hb.block b h2),fun b h2=>(hfr.own b h2).imp id (Nat.le_trans hb.size),fun b h2 h3=>(hfr.fro b h2 h3).imp id (Nat.le_trans hb.size),hfr.le⟩
end
end Go.Proofs.YtkoalgjlkcaonaaGreatDoor
/-
  Contracts: package label: order, text, matchers.
-/
namespace Go.Proofs.YtkoalgjlkcaonaaGreatDoor
open Go.GK Go.PL Go.RowKit
set_option maxRecDepth 100000
theorem lexC_len {α : Type} (f : α→α→Int) (hf : ∀ a b,f a b=0 ↔ a=b) : ∀ (a b : List α),(∀ i,i < min a.length b.length→a[i]?=b[i]?)→lexC f a b=sgnF a.length b.length
 | [],[],_=>rfl
 | [],_ :: _,_=>by simp [lexC,sgnF]
 | _ :: _,[],_=>by simp [lexC,sgnF]; omega
 | x :: a,y :: b,h=>by
  have h0:=h 0 (by simp)
  simp at h0
  have ih:=lexC_len f hf a b (fun i hi=>by have:=h (i + 1) (by simp at hi ⊢; omega); simpa using this)
  simp only [lexC,(hf x y).2 h0,if_true,ih,sgnF,List.length_cons]
  repeat' split <;> omega
theorem lexC_at {α : Type} (f : α→α→Int) (hf : ∀ a b,f a b=0 ↔ a=b) : ∀ (a b : List α) (i : Nat) (x y : α),(∀ j,j < i→a[j]?=b[j]?)→a[i]?=some x→b[i]?=some y→f x y ≠ 0→lexC f a b=f x y
 | [],b,i,x,y,_,hx,_,_=>by simp at hx
 | _ :: _,[],i,x,y,_,_,hy,_=>by simp at hy
 | u :: a,v :: b,0,x,y,_,hx,hy,hn=>by
  simp at hx hy
  subst hx; subst hy
  simp only [lexC,if_neg hn]
 | u :: a,v :: b,i + 1,x,y,h,hx,hy,hn=>by
  have h0:=h 0 (by omega)
  simp at h0
  simp only [lexC,(hf u v).2 h0,if_true]
  exact lexC_at f hf a b i x y (fun j hj=>by have:=h (j + 1) (by omega); simpa using this) (by simpa using hx) (by simpa using hy) hn
theorem cmpL1_or (x y : Lb) : cmpL1 x y=if cmpS x.name y.name=0 then cmpS x.value y.value else cmpS x.name y.name:=rfl
theorem lcompare_rt (a b : List Lb) : Rt pg 13 [.sl 2 (a.map lb),.sl 2 (b.map lb)] (gi (cmpF a b)):=by
 refine Rt.of pg_ok Tryz.func13 rfl Tryz.ntmps13 rfl Tryz.results13 Tryz.call13 fun H0 S0 w0 h0 g0=>?_
 refine JK.len 0 rfl fun hlen _=>?_
 have hlen' : a.length≤9223372036854775807:=by simpa [maxLen] using hlen
 have hla : (a.map lb).length=a.length:=by simp
 have hlb : (b.map lb).length=b.length:=by simp
 refine JK.loop (α:=Nat) (fun i=>⟨[(0,.sl 2 (a.map lb)),(1,.sl 2 (b.map lb)),(11,gi (min a.length b.length : Nat)),(12,gi i)],[],0⟩) (fun i=>i≤min a.length b.length∧∀ j,j < i→a[j]?=b[j]?) (fun i=>min a.length b.length - i) 0 id ?_ ⟨Nat.zero_le _,fun j hj=>absurd hj (by omega)⟩ ?_
 ·refine ⟨⟨rfl,rfl,?_,rfl,trivial⟩,trivial,rfl⟩
  show some (gi (if ((b.map lb).length : Int) < (a.map lb).length then ((b.map lb).length : Int) else (a.map lb).length))=some (gi (min a.length b.length : Nat))
  congr 2
  split <;> omega
 ·rintro i ⟨hi,hgood⟩
  refine V ?_
  by_cases hlt : i < min a.length b.length
  ·have ha : i < a.length:=by omega
   have hb : i < b.length:=by omega
   refine p1 ?_
   refine DRAW [] false (tk [0,1,2,3,4,5,6,7,8,9,11,12,13,14,15,16,17,18,19,20]) (by kernel_rfl) ?_
   repeat refine ix (h:=?_)
   refine RGO 10 false [] (compare_rt a[i].name b[i].name) rfl rfl (by kernel_rfl) ?_
   refine RGO 21 false (al [22]) (compare_rt a[i].value b[i].value) rfl rfl (by kernel_rfl) ?_
   refine RGOB 23 true (tk [24]) (or_rt (cmpS a[i].name b[i].name) (cmpS a[i].value b[i].value)) rfl rfl ⟨⟨rfl,rfl⟩,trivial⟩ (by kernel_rfl) ?_
   refine V ?_
   have hc:=cmpL1_or a[i] b[i]
   by_cases h : cmpL1 a[i] b[i]=0
   ·refine p2 ?_ (by rw [← hc,h]; rfl)
    exact ⟨i + 1,id,⟨⟨rfl,rfl,rfl,succ_gi (by omega),trivial⟩,trivial,rfl⟩,⟨hlt,fun j hj=>by
     rcases Nat.lt_succ_iff_lt_or_eq.1 hj with h1 | h1
     ·exact hgood j h1
     ·subst h1
      rw [List.getElem?_eq_getElem ha,List.getElem?_eq_getElem hb,(cmpL1_is.eq0 _ _).1 h]⟩,by show min a.length b.length - (i + 1) < min a.length b.length - i; omega⟩
   ·refine p1 ?_ (by rw [← hc]; simpa using h)
    refine ⟨?_,rfl⟩
    show gi _=gi _
    rw [← hc,cmpF,lexC_at cmpL1 cmpL1_is.eq0 a b i a[i] b[i] hgood (List.getElem?_eq_getElem ha) (List.getElem?_eq_getElem hb) h]
  ·refine p2 ?_
   refine V ?_
   refine GO (cmpInt_rt _ _) rfl ?_
   refine ⟨?_,rfl⟩
   show gi _=gi _
   rw [hla,hlb,cmpF,lexC_len cmpL1 cmpL1_is.eq0 a b (fun j hj=>hgood j (by omega))]

structure Hl (l : List Lb) : Prop where
 len : l.length≤1000
 name : ∀ x ∈ l,x.name.size≤1000
 value : ∀ x ∈ l,x.value.size≤1000
end Go.Proofs.YtkoalgjlkcaonaaGreatDoor
/-
  Contracts: package label: Only; matchers.
-/
namespace Go.Proofs.YtkoalgjlkcaonaaGreatDoor
open Go.GK Go.PL Go.RowKit
set_option maxRecDepth 100000
theorem only_snoc (l : List Lb) (ns : List ByteArray) (i : Nat) (h : i < l.length) : onlyF (l.take (i + 1)) ns=onlyF (l.take i) ns++if conS ns l[i].name=true then [l[i]] else []:=by
 have e : (ns.any fun n=>sEq n l[i].name)=conS ns l[i].name:=by
  unfold conS
  congr 1
  funext y
  rw [Bool.eq_iff_iff,sEq_iff,sEq_iff]
  exact ⟨fun h=>h.symm,fun h=>h.symm⟩
 unfold onlyF
 rw [List.take_succ_eq_append_getElem h,List.filter_append]
 congr 1
 rw [List.filter_cons,e]
 rfl
theorem only_len (l : List Lb) (ns : List ByteArray) : (onlyF l ns).length≤l.length:=List.length_filter_le _ _
theorem lonly_rt (l : List Lb) (ns : List ByteArray) (hl : l.length≤1000000) (hn : ns.length≤1000000) : Rt pg 127 [.sl 2 (l.map lb),.sl 1 (ns.map fun x=>[gs x])] (.sl 2 ((onlyF l ns).map lb)):=by
 refine Rt.of pg_ok Tryz.func127 rfl Tryz.ntmps127 rfl Tryz.results127 Tryz.call127 fun H0 S0 w0 h0 g0=>?_
 have hll : (l.map lb).length=l.length:=by simp
 refine JK.ownNil 5 95 2 rfl ?_
 refine JK.loopE (α:=Nat) (β:=Unit) (fun i=>⟨[(1,.sl 1 (ns.map fun x=>[gs x])),(5,.o 0),(8,.sl 2 (l.map lb)),(9,gi (l.map lb).length),(10,gi i)],[(0,.row 95 2 ((onlyF (l.take i) ns).map lb))],1⟩) (fun i=>i≤l.length) (fun i=>l.length - i)
  (fun _=>⟨[(5,.o 0)],[(0,.row 95 2 ((onlyF l ns).map lb))],1⟩) (fun _=>True) 0 id ?_ (Nat.zero_le _) ?_ ?_
 ·exact ⟨⟨rfl,rfl,rfl,rfl,rfl,trivial⟩,⟨rfl,trivial⟩,rfl⟩
 ·rintro i hi
  refine V ?_
  by_cases hlt : i < l.length
  ·have hon:=only_snoc l ns i hlt
   have hlen:=only_len (l.take i) ns
   rw [List.length_take] at hlen
   refine p1 ?_
   refine ix (h:=?_)
   cases h : conS ns l[i].name with
   | true =>
    refine GO ((conS_rt ns l[i].name (by omega)).bt h) rfl ?_
    refine ⟨by simp; omega,?_⟩
    exact ⟨i + 1,fun _=>3,⟨⟨rfl,rfl,rfl,rfl,succ_gi (by omega),trivial⟩,⟨by rw [hon,h,List.map_append]; rfl,trivial⟩,rfl⟩,hlt,by show l.length - (i + 1) < l.length - i; omega⟩
   | false =>
    refine GO ((conS_rt ns l[i].name (by omega)).bt h) rfl ?_
    exact ⟨i + 1,id,⟨⟨rfl,rfl,rfl,rfl,succ_gi (by omega),trivial⟩,⟨by rw [hon,h]; simp; rfl,trivial⟩,rfl⟩,hlt,by show l.length - (i + 1) < l.length - i; omega⟩
  ·refine p2 ?_
   obtain rfl : i=l.length:=by omega
   exact ⟨(),id,⟨⟨rfl,trivial⟩,⟨by rw [List.take_length]; rfl,trivial⟩,rfl⟩,trivial⟩
 ·rintro _ _
  refine FRZ 0 rfl ?_
  exact ⟨rfl,rfl⟩

def Sm2 (l : List Mt) : Prop:=∀ x ∈ l,x.value.size < 4611686018427387904
theorem asked1_rt (m : Mt) (hm : m.value.size < 4611686018427387904) : Rt pg 111 [.agg (mt m)] (.b (mbad m)):=by
 refine Rt.of pg_ok Tryz.func111 rfl Tryz.ntmps111 rfl Tryz.results111 Tryz.call111 fun H0 S0 w0 h0 g0=>?_
 have hval:=value_rt m.value hm
 unfold mbad
 cases h1 : nameF m.name with
 | false =>
  refine GO ((name_rt m.name).bt h1) rfl ?_
  exact ⟨rfl,rfl⟩
 | true =>
  refine GO ((name_rt m.name).bt h1) rfl ?_
  cases h2 : valueF m.value with
  | false =>
   refine GO (hval.bt h2) rfl ?_
   exact ⟨rfl,rfl⟩
  | true =>
   refine GO (hval.bt h2) rfl ?_
   by_cases h3 : m.op < 0
   ·repeat (first | refine p1 ?_ | refine p2 ?_ | refine p3 ?_ | refine p4 ?_)
    exact ⟨by rw [decide_eq_false (by omega : ¬ (0≤m.op∧m.op≤3))]; rfl,rfl⟩
   ·repeat (first | refine p1 ?_ | refine p2 ?_ | refine p3 ?_ | refine p4 ?_)
    refine ⟨?_,rfl⟩
    show decide (m.op > 3)=!decide (0≤m.op∧m.op≤3)
    by_cases h4 : m.op≤3
    ·rw [decide_eq_true (by omega : 0≤m.op∧m.op≤3),decide_eq_false (by omega)]; rfl
    ·rw [decide_eq_false (by omega : ¬ (0≤m.op∧m.op≤3)),decide_eq_true (by omega)]; rfl

theorem idxFunc_rt (l : List Mt) (f : FuncId) (caps : List GV) (hcaps : idbL 0 caps=true) (p : Mt→Bool) (hf : ∀ x ∈ l,Rt pg f (.agg (mt x) :: caps) (.b (p x))) (n : Nat) (hn : n≤l.length) (h1 : ∀ i (h : i < l.length),i < n→p l[i]=false) (h2 : ∀ h : n < l.length,p l[n]=true) (hl : l.length < 4611686018427387904) :
  Rt pg 133 [.sl 3 (l.map mt),.fn (.func f) [] caps] (gi (if n < l.length then n else -1)):=by
 refine Rt.of pg_ok Tryz.func133 rfl Tryz.ntmps133 rfl Tryz.results133 Tryz.call133 fun H0 S0 w0 h0 g0=>?_
 have hll : (l.map mt).length=l.length:=by simp
 refine JK.loop (α:=Nat) (fun i=>⟨[(0,.sl 3 (l.map mt)),(1,.fn (.func f) [] caps),(7,gi (l.map mt).length),(8,gi i)],[],0⟩) (fun i=>i≤n) (fun i=>n - i) 0 id ?_ (Nat.zero_le _) ?_
 ·exact ⟨⟨rfl,by simp only [ren,renL,renL_id]; rfl,rfl,rfl,trivial⟩,trivial,by simp [idbE,idb,idbL,hcaps,idbH,hids,distB,fixB]⟩
 ·intro i hi
  refine V ?_
  by_cases hlt : i < l.length
  ·refine p1 ?_
   refine ix (h:=?_)
   have hp:=hf l[i] (List.getElem_mem hlt)
   by_cases hin : i < n
   ·refine GO (hp.bt (h1 i hlt hin)) rfl ?_ (by simp [idbL,hcaps]; rfl)
    exact ⟨i + 1,id,⟨⟨rfl,by simp only [ren,renL,renL_id]; rfl,rfl,succ_gi (by omega),trivial⟩,trivial,by simp [idbE,idb,idbL,hcaps,idbH,hids,distB,fixB]⟩,hin,by show n - (i + 1) < n - i; omega⟩
   ·have hin' : i=n:=by omega
    subst hin'
    refine GO (hp.bt (h2 hlt)) rfl ?_ (by simp [idbL,hcaps]; rfl)
    exact ⟨by rw [if_pos hlt]; rfl,rfl⟩
  ·refine p2 ?_
   refine V ?_
   exact ⟨by rw [if_neg (by omega)]; rfl,rfl⟩
theorem first_ix {α : Type} (l : List α) (p : α→Bool) : ∃ n,n≤l.length∧(∀ i (h : i < l.length),i < n→p l[i]=false)∧(∀ h : n < l.length,p l[n]=true)∧l.any p=decide (n < l.length):=by
 induction l with
 | nil=>exact ⟨0,Nat.le_refl _,fun i h=>absurd h (by simp),fun h=>absurd h (by simp),by simp⟩
 | cons a l ih =>
  cases hp : p a with
  | true=>exact ⟨0,Nat.zero_le _,fun i h h'=>absurd h' (by omega),fun _=>hp,by simp [hp]⟩
  | false =>
   obtain ⟨n,h1,h2,h3,h4⟩:=ih
   refine ⟨n + 1,by simpa using h1,fun i h h'=>?_,fun h=>?_,by simp [hp,h4]⟩
   ·cases i with
    | zero=>exact hp
    | succ i=>exact h2 i (by simpa using h) (by omega)
   ·exact h3 (by simpa using h)
theorem conFunc_rt (l : List Mt) (f : FuncId) (caps : List GV) (hcaps : idbL 0 caps=true) (p : Mt→Bool) (hf : ∀ x ∈ l,Rt pg f (.agg (mt x) :: caps) (.b (p x))) (hl : l.length < 4611686018427387904) :
  Rt pg 98 [.sl 3 (l.map mt),.fn (.func f) [] caps] (.b (l.any p)):=by
 refine Rt.of pg_ok Tryz.func98 rfl Tryz.ntmps98 rfl Tryz.results98 Tryz.call98 fun H0 S0 w0 h0 g0=>?_
 obtain ⟨n,h1,h2,h3,h4⟩:=first_ix l p
 refine GO (idxFunc_rt l f caps hcaps p hf n h1 h2 h3 hl) rfl ?_ (by simp [idbL,idb,hcaps])
 refine ⟨?_,rfl⟩
 rw [h4]
 show decide _=_
 split
 ·rename_i h; rw [decide_eq_true h]; exact decide_eq_true (by omega)
 ·rename_i h; rw [decide_eq_false h]; rfl
theorem any_anyB {α : Type} [Inhabited α] (l : List α) (p : α→Bool) : l.any p=anyB l.length (fun i=>p (l.getD i default)):=by
 obtain ⟨n,h1,h2,h3,h4⟩:=first_ix l p
 rw [h4]
 by_cases h : n < l.length
 ·rw [decide_eq_true h,anyB_true h]; simpa [h] using h3 h
 ·rw [decide_eq_false h,anyB_false]
  intro i hi
  have:=h2 i hi (by omega)
  simpa [hi] using this
theorem lasked_rt (l : List Mt) (hm : Sm2 l) : Rt pg 78 [.sl 3 (l.map mt)] (.b (askedF l)):=by
 refine Rt.of pg_ok Tryz.func78 rfl Tryz.ntmps78 rfl Tryz.results78 Tryz.call78 fun H0 S0 w0 h0 g0=>?_
 have hll : (l.map mt).length=l.length:=by simp
 unfold askedF
 by_cases h : l.length≤8
 ·refine p1 ?_
  refine GO (conFunc_rt l 111 [] rfl mbad (fun x hx=>asked1_rt x (hm x hx)) (by omega)) rfl ?_
  refine ⟨?_,rfl⟩
  rw [decide_eq_true h,Bool.and_true,← any_anyB l mbad]
  rfl
 ·refine p2 ?_
  exact ⟨by rw [decide_eq_false h,Bool.and_false]; rfl,rfl⟩
end Go.Proofs.YtkoalgjlkcaonaaGreatDoor
/-
  Contracts: the document's answer on labels and matchers (chapter 4).
-/
namespace Go.Proofs.YtkoalgjlkcaonaaGreatDoor
open Go.GK Go.PL Go.RowKit
set_option maxRecDepth 100000
theorem sLt_le (a b : ByteArray) : (Op.bytesLess a.toList b.toList || a.toList == b.toList)=!sLt b a:=by
 show (sLt a b || sEq a b)=_
 have h:=cmpS_is
 rw [sLt_cmp,sLt_cmp,Bool.eq_iff_iff]
 simp only [Bool.or_eq_true,decide_eq_true_iff,sEq_iff,Bool.not_eq_true',decide_eq_false_iff_not]
 rw [h.anti a b,← h.eq0]
 have:=h.rng a b
 omega
theorem in_rt (n a b : Int) : Rt pg 52 [gi n,gi a,gi b] (.b (decide (a≤n∧n≤b))):=by
 refine Rt.of pg_ok Tryz.func52 rfl Tryz.ntmps52 rfl Tryz.results52 Tryz.call52 fun H0 S0 w0 h0 g0=>?_
 by_cases h : a≤n
 ·refine p1 ?_
  exact ⟨by show decide (n≤b)=_; rw [decide_eq_decide]; omega,rfl⟩
 ·refine p2 ?_
  exact ⟨by rw [decide_eq_false (by omega)]; rfl,rfl⟩
theorem letter_rt (c : UInt8) : Rt pg 81 [gb c] (.b (letB c)):=by
 refine Rt.of pg_ok Tryz.func81 rfl Tryz.ntmps81 rfl Tryz.results81 Tryz.call81 fun H0 S0 w0 h0 g0=>?_
 unfold letB
 by_cases h1 : 97≤c.toNat <;> by_cases h2 : c.toNat≤122 <;> by_cases h3 : 65≤c.toNat <;> by_cases h4 : c.toNat≤90 <;> by_cases h5 : c.toNat=95 <;> first | (exfalso; omega) | skip
 all_goals
  simp only [h1,h2,h3,h4,h5,and_self,and_true,and_false,decide_true,decide_false,Bool.or_true,Bool.or_false]
  repeat (first | refine p1 ?_ | refine p2 ?_ | refine p3 ?_ | refine p4 ?_)
  refine ⟨?_,rfl⟩
  first | rfl | (show decide _=_; simp; omega) | (show (_ == _)=_; simp; omega)
theorem digit_rt (c : UInt8) : Rt pg 82 [gb c] (.b (digB c)):=by
 refine Rt.of pg_ok Tryz.func82 rfl Tryz.ntmps82 rfl Tryz.results82 Tryz.call82 fun H0 S0 w0 h0 g0=>?_
 unfold digB
 by_cases h : 48≤c.toNat
 ·refine p1 ?_
  exact ⟨by show decide _=_; rw [decide_eq_decide]; omega,rfl⟩
 ·refine p2 ?_
  exact ⟨by rw [decide_eq_false (by omega)]; rfl,rfl⟩
theorem refName_rt (s : ByteArray) (hs : s.size < 4611686018427387904) : Rt pg 88 [gs s] (.b (nameF s)):=by
 refine Rt.of pg_ok Tryz.func88 rfl Tryz.ntmps88 rfl Tryz.results88 Tryz.call88 fun H0 S0 w0 h0 g0=>?_
 refine JK.loop (α:=Nat) (fun i=>⟨[(0,gs s),(5,gi s.size),(6,gi i)],[],0⟩) (fun i=>i≤s.size∧∀ j,j < i→nbad s j=false) (fun i=>s.size - i) 0 id ?_ ⟨Nat.zero_le _,fun j hj=>absurd hj (by omega)⟩ ?_
 ·exact ⟨⟨rfl,rfl,rfl,trivial⟩,trivial,rfl⟩
 ·rintro i ⟨hi,hgood⟩
  refine V ?_
  by_cases hlt : i < s.size
  ·have hv:=nbad_some hlt
   have hbad : nbad s i=true→nameF s=false:=fun h=>by unfold nameF; rw [anyB_true hlt h]; rfl
   have hnext : nbad s i=false→∀ j,j < i + 1→nbad s j=false:=fun h j hj=>by
    rcases Nat.lt_succ_iff_lt_or_eq.1 hj with h1 | h1
    ·exact hgood j h1
    ·subst h1; exact h
   refine p1 ?_
   refine sx (h:=?_)
   cases h1 : letB s[i] with
   | true =>
    refine GO ((letter_rt s[i]).bt h1) rfl ?_
    exact ⟨i + 1,id,⟨⟨rfl,rfl,succ_gi (by omega),trivial⟩,trivial,rfl⟩,⟨hlt,hnext (by rw [hv,h1]; rfl)⟩,by show s.size - (i + 1) < s.size - i; omega⟩
   | false =>
    refine GO ((letter_rt s[i]).bt h1) rfl ?_
    by_cases h2 : i=0
    ·refine p3 ?_ (by simpa using h2)
     exact ⟨(hbad (by rw [hv,h1,(by simpa using h2 : (i == 0)=true)]; rfl)).symm,rfl⟩
    ·refine p4 ?_ (by simpa using h2)
     refine sx (h:=?_)
     have h2' : (i == 0)=false:=by simpa using h2
     cases h3 : digB s[i] with
     | true =>
      refine GO ((digit_rt s[i]).bt h3) rfl ?_
      exact ⟨i + 1,id,⟨⟨rfl,rfl,succ_gi (by omega),trivial⟩,trivial,rfl⟩,⟨hlt,hnext (by rw [hv,h1,h2',h3]; rfl)⟩,by show s.size - (i + 1) < s.size - i; omega⟩
     | false =>
      refine GO ((digit_rt s[i]).bt h3) rfl ?_
      exact ⟨(hbad (by rw [hv,h1,h2',h3]; rfl)).symm,rfl⟩
  ·refine p2 ?_
   refine V ?_
   refine GO (in_rt s.size 1 24) rfl ?_
   obtain rfl : i=s.size:=by omega
   refine ⟨?_,rfl⟩
   unfold nameF
   rw [anyB_false hgood]
   show decide _=_
   simp only [Bool.not_false,Bool.true_and,decide_eq_decide]
   omega
theorem says_rt (s : ByteArray) (hs : s.size < 4611686018427387904) : Rt pg 89 [gs s] (.b (valueF s)):=by
 refine Rt.of pg_ok Tryz.func89 rfl Tryz.ntmps89 rfl Tryz.results89 Tryz.call89 fun H0 S0 w0 h0 g0=>?_
 refine JK.loop (α:=Nat) (fun i=>⟨[(0,gs s),(5,gi s.size),(6,gi i)],[],0⟩) (fun i=>i≤s.size∧∀ j,j < i→vbad s j=false) (fun i=>s.size - i) 0 id ?_ ⟨Nat.zero_le _,fun j hj=>absurd hj (by omega)⟩ ?_
 ·exact ⟨⟨rfl,rfl,rfl,trivial⟩,trivial,rfl⟩
 ·rintro i ⟨hi,hgood⟩
  refine V ?_
  by_cases hlt : i < s.size
  ·have hv:=vbad_some hlt
   have hbad : vbad s i=true→valueF s=false:=fun h=>by unfold valueF; rw [anyB_true hlt h]; rfl
   have hnext : vbad s i=false→∀ j,j < i + 1→vbad s j=false:=fun h j hj=>by
    rcases Nat.lt_succ_iff_lt_or_eq.1 hj with h1 | h1
    ·exact hgood j h1
    ·subst h1; exact h
   have hc : IntKind.i64.wrap (s[i].toNat : Int)=(s[i].toNat : Int):=wrap_id (by omega) (by have:=s[i].toNat_lt; omega)
   refine p1 ?_
   refine sx (h:=?_)
   by_cases h1 : 32≤s[i].toNat∧s[i].toNat≤126
   ·refine GO ((in_rt (IntKind.i64.wrap (s[i].toNat : Int)) 32 126).bt (d:=true) (by rw [hc]; exact decide_eq_true (by omega))) rfl ?_
    have h6 : ¬ s[i].toNat < 32:=by omega
    have h7 : ¬ 126 < s[i].toNat:=by omega
    by_cases h3 : s[i].toNat=34 <;> by_cases h4 : s[i].toNat=92 <;>
     simp only [h6,h7,h3,h4,decide_true,decide_false,Bool.true_or,Bool.or_true,Bool.or_false] at hv <;>
     (repeat (first | refine p1 ?_ | refine p2 ?_ | refine p3 ?_ | refine p4 ?_ | refine sx (h:=?_))) <;>
     first | exact ⟨(hbad hv).symm,rfl⟩ | exact ⟨i + 1,id,⟨⟨rfl,rfl,succ_gi (by omega),trivial⟩,trivial,rfl⟩,⟨hlt,hnext hv⟩,by show s.size - (i + 1) < s.size - i; omega⟩
   ·refine GO ((in_rt (IntKind.i64.wrap (s[i].toNat : Int)) 32 126).bt (d:=false) (by rw [hc]; exact decide_eq_false (by omega))) rfl ?_
    refine ⟨(hbad ?_).symm,rfl⟩
    rw [hv]
    by_cases h2 : s[i].toNat < 32
    ·rw [decide_eq_true h2]; rfl
    ·rw [decide_eq_true (by omega : 126 < s[i].toNat)]; simp
  ·refine p2 ?_
   refine V ?_
   obtain rfl : i=s.size:=by omega
   refine ⟨?_,rfl⟩
   unfold valueF
   rw [anyB_false hgood]
   show decide _=_
   simp only [Bool.not_false,Bool.true_and,decide_eq_decide]
   omega

theorem labelsW_rt (l : List Lb) (hlen : l.length≤1000000) (hsz : ∀ x ∈ l,x.name.size < 4611686018427387904∧x.value.size < 4611686018427387904) : Rt pg 49 [.sl 2 (l.map lb)] (.b (rightF l)):=by
 refine Rt.of pg_ok Tryz.func49 rfl Tryz.ntmps49 rfl Tryz.results49 Tryz.call49 fun H0 S0 w0 h0 g0=>?_
 have hl1:=hlen
 have hll : (l.map lb).length=l.length:=by simp
 refine JK.loop (α:=Nat) (fun i=>⟨[(0,.sl 2 (l.map lb)),(5,.sl 2 (l.map lb)),(6,gi (l.map lb).length),(7,gi i)],[],0⟩) (fun i=>i≤l.length∧∀ j,j < i→lbad l j=false) (fun i=>l.length - i) 0 id ?_ ⟨Nat.zero_le _,fun j hj=>absurd hj (by omega)⟩ ?_
 ·exact ⟨⟨rfl,rfl,rfl,rfl,trivial⟩,trivial,rfl⟩
 ·rintro i ⟨hi,hgood⟩
  refine V ?_
  by_cases hlt : i < l.length
  ·have hv:=lbad_at hlt
   have hbad : lbad l i=true→rightF l=false:=fun h=>by unfold rightF; rw [anyB_true hlt h]; rfl
   have hnext : lbad l i=false→∀ j,j < i + 1→lbad l j=false:=fun h j hj=>by
    rcases Nat.lt_succ_iff_lt_or_eq.1 hj with h1 | h1
    ·exact hgood j h1
    ·subst h1; exact h
   have hnm:=refName_rt l[i].name (hsz l[i] (List.getElem_mem hlt)).1
   have hval:=says_rt l[i].value (hsz l[i] (List.getElem_mem hlt)).2
   refine p1 ?_
   refine ix (h:=?_)
   refine DRAW [] false (tk [0,1]) (by kernel_rfl) ?_
   cases h1 : nameF l[i].name with
   | false =>
    refine RGO 2 false (tk [3,4,5,6]) (hnm.bt h1) rfl rfl (by kernel_rfl) ?_
    refine RSKIP 7 true (tk [8,9,10,11,12,13,14,15,16,17,18,19,20,21,22,23,24,25,26,27,28,29]) rfl rfl (by kernel_rfl) ?_
    refine V ?_
    exact ⟨(hbad (by rw [hv,h1]; rfl)).symm,rfl⟩
   | true =>
    refine RGO 2 false (tk [3,4,5,6]) (hnm.bt h1) rfl rfl (by kernel_rfl) ?_
    cases h2 : valueF l[i].value with
    | false =>
     refine RGO 7 true (tk [8,9,10,11,12,13,14,15,16,17,18,19,20,21,22,23,24,25,26,27,28,29]) (hval.bt h2) rfl rfl (by kernel_rfl) ?_
     refine V ?_
     exact ⟨(hbad (by rw [hv,h1,h2]; rfl)).symm,rfl⟩
    | true =>
     refine RGO 7 true (tk [8,9,10,11,12,13,14,15,16,17,18,19,20,21,22,23,24,25,26,27,28,29]) (hval.bt h2) rfl rfl (by kernel_rfl) ?_
     rw [h1,h2] at hv
     cases h3 : sEq l[i].value ⟨#[]⟩ with
     | true =>
      repeat (first | refine p1 ?_ | refine p2 ?_ | refine p3 ?_ | refine p4 ?_ | refine V ?_)
      exact ⟨(hbad (by rw [hv,h3]; rfl)).symm,rfl⟩
     | false =>
      rw [h3] at hv
      by_cases h4 : 0 < i
      ·have ew : IntKind.i64.wrap ((i : Int) - 1)=((i - 1 : Nat) : Int):=by rw [wrap_id (by omega) (by omega)]; omega
       have hle:=sLt_le l[i].name (l[i - 1]'(by omega)).name
       cases h5 : sLt (l[i - 1]'(by omega)).name l[i].name with
       | false =>
        rw [h5] at hle
        repeat (first | refine p1 ?_ | refine p2 ?_ | refine p3 ?_ | refine p4 ?_ | refine V ?_ | refine idx (i - 1) ew (by omega) ?_ | refine p1 ?_ hle)
        exact ⟨(hbad (by rw [hv,h5,decide_eq_true h4]; rfl)).symm,rfl⟩
       | true =>
        rw [h5] at hle
        repeat (first | refine p1 ?_ | refine p2 ?_ | refine p3 ?_ | refine p4 ?_ | refine V ?_ | refine idx (i - 1) ew (by omega) ?_ | refine p2 ?_ hle)
        exact ⟨i + 1,id,⟨⟨rfl,rfl,rfl,succ_gi (by omega),trivial⟩,trivial,rfl⟩,⟨hlt,hnext (by rw [hv,h5,decide_eq_true h4]; rfl)⟩,by show l.length - (i + 1) < l.length - i; omega⟩
      ·repeat (first | refine p1 ?_ | refine p2 ?_ | refine p3 ?_ | refine p4 ?_ | refine V ?_)
       exact ⟨i + 1,id,⟨⟨rfl,rfl,rfl,succ_gi (by omega),trivial⟩,trivial,rfl⟩,⟨hlt,hnext (by rw [hv,decide_eq_false h4]; rfl)⟩,by show l.length - (i + 1) < l.length - i; omega⟩
  ·refine p2 ?_
   refine V ?_
   refine GO (in_rt _ 1 8) rfl ?_
   obtain rfl : i=l.length:=by omega
   refine ⟨?_,rfl⟩
   unfold rightF
   rw [anyB_false hgood]
   show decide _=_
   simp only [Bool.not_false,Bool.true_and,decide_eq_decide]
   omega
theorem tell_rt (l : List Lb) (n : ByteArray) : Rt pg 59 [.sl 2 (l.map lb),gs n] (gs (lgetF l n)):=by
 refine Rt.of pg_ok Tryz.func59 rfl Tryz.ntmps59 rfl Tryz.results59 Tryz.call59 fun H0 S0 w0 h0 g0=>?_
 refine JK.len 0 rfl fun hlen _=>?_
 have hlen' : l.length≤9223372036854775807:=by simpa [maxLen] using hlen
 refine JK.loop (α:=Nat) (fun i=>⟨[(1,gs n),(7,.sl 2 (l.map lb)),(8,gi (l.map lb).length),(9,gi i)],[],0⟩) (fun i=>i≤l.length∧lgetF (l.drop i) n=lgetF l n) (fun i=>l.length - i) 0 id ?_ ⟨Nat.zero_le _,rfl⟩ ?_
 ·exact ⟨⟨rfl,rfl,rfl,rfl,trivial⟩,trivial,rfl⟩
 ·rintro i ⟨hi,hgood⟩
  refine V ?_
  have hll : (l.map lb).length=l.length:=by simp
  by_cases hlt : i < l.length
  ·rw [List.drop_eq_getElem_cons hlt] at hgood
   refine p1 ?_
   refine ix (h:=?_)
   cases h1 : sEq l[i].name n with
   | true =>
    refine p1 ?_ h1
    exact ⟨by rw [← hgood,lgetF,if_pos h1]; rfl,rfl⟩
   | false =>
    refine p2 ?_ h1
    exact ⟨i + 1,id,⟨⟨rfl,rfl,rfl,succ_gi (by omega),trivial⟩,trivial,rfl⟩,⟨hlt,by rw [← hgood,lgetF,if_neg (by rw [h1]; decide)]⟩,by show l.length - (i + 1) < l.length - i; omega⟩
  ·refine p2 ?_
   refine V ?_
   obtain rfl : i=l.length:=by omega
   rw [List.drop_length] at hgood
   exact ⟨by rw [← hgood]; rfl,rfl⟩
end Go.Proofs.YtkoalgjlkcaonaaGreatDoor
/-
  Contracts: the document's answer on labels: order, text, Only, Fits; short labels, the same labels.
-/
namespace Go.Proofs.YtkoalgjlkcaonaaGreatDoor
open Go.GK Go.PL Go.RowKit
set_option maxRecDepth 100000
theorem eqLb (a b : Lb) : (sEq a.name b.name && (sEq a.value b.value && true))=decide (cmpL1 a b=0):=by
 rw [Bool.eq_iff_iff,decide_eq_true_iff,cmpL1_is.eq0,Bool.and_true,Bool.and_eq_true,sEq_iff,sEq_iff]
 obtain ⟨a1,a2⟩:=a
 obtain ⟨b1,b2⟩:=b
 simp
theorem refCompare_rt (a b : List Lb) (hla : a.length≤1000000) (_ : b.length≤1000000) : Rt pg 51 [.sl 2 (a.map lb),.sl 2 (b.map lb)] (gi (cmpF a b)):=by
 refine Rt.of pg_ok Tryz.func51 rfl Tryz.ntmps51 rfl Tryz.results51 Tryz.call51 fun H0 S0 w0 h0 g0=>?_
 have ha0 : (a.map lb).length=a.length:=by simp
 have hb0 : (b.map lb).length=b.length:=by simp
 refine JK.loop (α:=Nat) (fun i=>⟨[(0,.sl 2 (a.map lb)),(1,.sl 2 (b.map lb)),(5,gi i)],[],0⟩) (fun i=>i≤a.length∧i≤b.length∧∀ j,j < i→a[j]?=b[j]?) (fun i=>a.length - i) 0 id ?_ ⟨Nat.zero_le _,Nat.zero_le _,fun j hj=>absurd hj (by omega)⟩ ?_
 ·exact ⟨⟨rfl,rfl,rfl,trivial⟩,trivial,rfl⟩
 ·rintro i ⟨hi,hj,hgood⟩
  refine V ?_
  have hlen : (¬ i < a.length∨¬ i < b.length)→cmpF a b=sgnF a.length b.length:=fun h=>by
   rw [cmpF,lexC_len cmpL1 cmpL1_is.eq0 a b (fun k hk=>hgood k (by omega))]
  by_cases ha : i < a.length
  ·by_cases hb : i < b.length
   ·repeat (first | refine p1 ?_ | refine p2 ?_ | refine p3 ?_ | refine p4 ?_)
    refine ⟨by kernel_rfl,?_⟩
    repeat refine ix (h:=?_)
    have he:=eqLb a[i] b[i]
    by_cases h : cmpL1 a[i] b[i]=0
    ·rw [decide_eq_true h] at he
     refine p1 ?_ he
     exact ⟨i + 1,id,⟨⟨rfl,rfl,succ_gi (by omega),trivial⟩,trivial,rfl⟩,⟨ha,hb,fun j hj=>by
      rcases Nat.lt_succ_iff_lt_or_eq.1 hj with h1 | h1
      ·exact hgood j h1
      ·subst h1
       rw [List.getElem?_eq_getElem ha,List.getElem?_eq_getElem hb,(cmpL1_is.eq0 _ _).1 h]⟩,by show a.length - (i + 1) < a.length - i; omega⟩
    ·rw [decide_eq_false h] at he
     refine p2 ?_ he
     refine ⟨by kernel_rfl,?_⟩
     repeat refine ix (h:=?_)
     have hat : cmpF a b=cmpL1 a[i] b[i]:=by rw [cmpF,lexC_at cmpL1 cmpL1_is.eq0 a b i a[i] b[i] hgood (List.getElem?_eq_getElem ha) (List.getElem?_eq_getElem hb) h]
     have hor:=cmpL1_or a[i] b[i]
     have hr:=cmpL1_is.rng a[i] b[i]
     have h1:=sLt_cmp a[i].name b[i].name
     have h2:=sLt_cmp a[i].value b[i].value
     have h3 : sEq a[i].name b[i].name=decide (cmpS a[i].name b[i].name=0):=by rw [Bool.eq_iff_iff,sEq_iff,decide_eq_true_iff,cmpS_is.eq0]
     by_cases hc1 : cmpS a[i].name b[i].name=0
     ·rw [if_pos hc1] at hor
      rw [decide_eq_false (by omega : ¬ cmpS a[i].name b[i].name=-1)] at h1
      rw [decide_eq_true hc1] at h3
      rw [← hor] at h2
      by_cases hc2 : cmpL1 a[i] b[i]=-1
      ·rw [decide_eq_true hc2] at h2
       repeat (first | refine p1 ?_ | refine p2 ?_ | refine p3 ?_ | refine p4 ?_ | refine ix (h:=?_))
       exact ⟨by rw [hat,hc2]; rfl,rfl⟩
      ·rw [decide_eq_false hc2] at h2
       repeat (first | refine p1 ?_ | refine p2 ?_ | refine p3 ?_ | refine p4 ?_ | refine ix (h:=?_))
       exact ⟨by rw [hat,(by omega : cmpL1 a[i] b[i]=1)]; rfl,rfl⟩
     ·rw [if_neg hc1] at hor
      rw [decide_eq_false hc1] at h3
      rw [← hor] at h1
      by_cases hc2 : cmpL1 a[i] b[i]=-1
      ·rw [decide_eq_true hc2] at h1
       repeat (first | refine p1 ?_ | refine p2 ?_ | refine p3 ?_ | refine p4 ?_ | refine ix (h:=?_))
       exact ⟨by rw [hat,hc2]; rfl,rfl⟩
      ·rw [decide_eq_false hc2] at h1
       repeat (first | refine p1 ?_ | refine p2 ?_ | refine p3 ?_ | refine p4 ?_ | refine ix (h:=?_))
       exact ⟨by rw [hat,(by omega : cmpL1 a[i] b[i]=1)]; rfl,rfl⟩
   ·have:=hlen (.inr hb)
    repeat (first | refine p1 ?_ | refine p2 ?_ | refine p3 ?_ | refine p4 ?_)
    exact ⟨by rw [this,sgnF,if_neg (by omega),if_pos (by omega)]; rfl,rfl⟩
  ·have:=hlen (.inl ha)
   by_cases hb : i < b.length
   ·repeat (first | refine p1 ?_ | refine p2 ?_ | refine p3 ?_ | refine p4 ?_)
    exact ⟨by rw [this,sgnF,if_pos (by omega)]; rfl,rfl⟩
   ·repeat (first | refine p1 ?_ | refine p2 ?_ | refine p3 ?_ | refine p4 ?_)
    exact ⟨by rw [this,sgnF,if_neg (by omega),if_neg (by omega)]; rfl,rfl⟩
theorem refOnly_rt (l : List Lb) (ns : List ByteArray) (hl : l.length≤1000000) (hn : ns.length≤1000000) : Rt pg 91 [.sl 2 (l.map lb),.sl 1 (ns.map fun x=>[gs x])] (.sl 2 ((onlyF l ns).map lb)):=by
 refine Rt.of pg_ok Tryz.func91 rfl Tryz.ntmps91 rfl Tryz.results91 Tryz.call91 fun H0 S0 w0 h0 g0=>?_
 have hll : (l.map lb).length=l.length:=by simp
 have hnl : (ns.map fun x=>[gs x]).length=ns.length:=by simp
 refine JK.ownNil 5 95 2 rfl ?_
 refine JK.loopE (α:=Nat) (β:=Unit) (fun i=>⟨[(1,.sl 1 (ns.map fun x=>[gs x])),(5,.o 0),(10,.sl 2 (l.map lb)),(11,gi (l.map lb).length),(12,gi i)],[(0,.row 95 2 ((onlyF (l.take i) ns).map lb))],1⟩) (fun i=>i≤l.length) (fun i=>l.length - i)
  (fun _=>⟨[(5,.o 0)],[(0,.row 95 2 ((onlyF l ns).map lb))],1⟩) (fun _=>True) 0 id ?_ (Nat.zero_le _) ?_ ?_
 ·exact ⟨⟨rfl,rfl,rfl,rfl,rfl,trivial⟩,⟨rfl,trivial⟩,rfl⟩
 ·rintro i hi
  refine V ?_
  by_cases hlt : i < l.length
  ·have hon:=only_snoc l ns i hlt
   have hlen:=only_len (l.take i) ns
   rw [List.length_take] at hlen
   refine p1 ?_
   refine ix (h:=?_)
   refine JK.loopE (α:=Nat) (β:=Unit) (fun j=>⟨[(1,.sl 1 (ns.map fun x=>[gs x])),(5,.o 0),(7,.p 1 0),(10,.sl 2 (l.map lb)),(11,gi (l.map lb).length),(12,gi i),(16,.sl 1 (ns.map fun x=>[gs x])),(17,gi (ns.map fun x=>[gs x]).length),(18,gi j)],[(0,.row 95 2 ((onlyF (l.take i) ns).map lb)),(1,.blk 95 (lb l[i]))],2⟩)
    (fun j=>j≤ns.length∧∀ k (h : k < ns.length),k < j→sEq l[i].name ns[k]=false) (fun j=>ns.length - j)
    (fun _=>⟨[(1,.sl 1 (ns.map fun x=>[gs x])),(5,.o 0),(10,.sl 2 (l.map lb)),(11,gi (l.map lb).length),(12,gi i)],[(0,.row 95 2 ((onlyF (l.take (i + 1)) ns).map lb))],1⟩) (fun _=>True) 0 (fun i=>i) ?_ ⟨Nat.zero_le _,fun k h hk=>absurd hk (by omega)⟩ ?_ ?_
   ·exact ⟨⟨rfl,rfl,rfl,rfl,rfl,rfl,rfl,rfl,rfl,trivial⟩,⟨rfl,rfl,trivial⟩,rfl⟩
   ·rintro j ⟨hj,hg⟩
    refine V ?_
    by_cases hjl : j < ns.length
    ·refine p1 ?_
     refine ix (h:=?_)
     cases h : sEq l[i].name ns[j] with
     | true =>
      have h' : sEq ns[j] l[i].name=true:=sEq_iff.2 (sEq_iff.1 h).symm
      refine p1 ?_ h'
      refine ⟨by simp; omega,?_⟩
      refine ⟨(),fun _=>3,⟨⟨rfl,rfl,rfl,rfl,rfl,trivial⟩,⟨?_,trivial⟩,rfl⟩,trivial⟩
      have hc : conS ns l[i].name=true:=by unfold conS; rw [List.any_eq_true]; exact ⟨ns[j],List.getElem_mem hjl,h⟩
      rw [hon,hc,List.map_append]
      rfl
     | false =>
      have h' : sEq ns[j] l[i].name=false:=sEq_false.2 (fun e=>sEq_false.1 h e.symm)
      refine p2 ?_ h'
      exact ⟨j + 1,id,⟨⟨rfl,rfl,rfl,rfl,rfl,rfl,rfl,rfl,succ_gi (by omega),trivial⟩,⟨rfl,rfl,trivial⟩,rfl⟩,⟨hjl,fun k hk hkj=>by
       rcases Nat.lt_succ_iff_lt_or_eq.1 hkj with h1 | h1
       ·exact hg k hk h1
       ·subst h1; exact h⟩,by show ns.length - (j + 1) < ns.length - j; omega⟩
    ·refine p2 ?_
     refine ⟨(),id,⟨⟨rfl,rfl,rfl,rfl,rfl,trivial⟩,⟨?_,trivial⟩,rfl⟩,trivial⟩
     have hc : conS ns l[i].name=false:=by
      unfold conS; rw [List.any_eq_false]
      intro y hy he
      obtain ⟨k,hk,rfl⟩:=List.getElem_of_mem hy
      rw [hg k hk (by omega)] at he
      cases he
     rw [hon,hc]
     simp
     rfl
   ·rintro _ _
    refine V ?_
    exact ⟨i + 1,id,⟨⟨rfl,rfl,rfl,rfl,succ_gi (by omega),trivial⟩,⟨rfl,trivial⟩,rfl⟩,hlt,by show l.length - (i + 1) < l.length - i; omega⟩
  ·refine p2 ?_
   obtain rfl : i=l.length:=by omega
   exact ⟨(),id,⟨⟨rfl,trivial⟩,⟨by rw [List.take_length]; rfl,trivial⟩,rfl⟩,trivial⟩
 ·rintro _ _
  refine FRZ 0 rfl ?_
  exact ⟨rfl,rfl⟩
theorem fits_rt (l : List Lb) (m : List Mt) (hm : ∀ x ∈ m,0≤x.op∧x.op≤3) (hml : m.length≤1000000) : Rt pg 23 [.sl 2 (l.map lb),.sl 3 (m.map mt)] (.b (allF l m)):=by
 refine Rt.of pg_ok Tryz.func23 rfl Tryz.ntmps23 rfl Tryz.results23 Tryz.call23 fun H0 S0 w0 h0 g0=>?_
 have hll : (m.map mt).length=m.length:=by simp
 refine JK.loop (α:=Nat) (fun i=>⟨[(0,.sl 2 (l.map lb)),(10,.sl 3 (m.map mt)),(11,gi (m.map mt).length),(12,gi i)],[],0⟩) (fun i=>i≤m.length∧allF l (m.take i)=true) (fun i=>m.length - i) 0 id ?_ ⟨Nat.zero_le _,rfl⟩ ?_
 ·exact ⟨⟨rfl,rfl,rfl,rfl,trivial⟩,trivial,rfl⟩
 ·rintro i ⟨hi,hgood⟩
  refine V ?_
  by_cases hlt : i < m.length
  ·have hop:=hm m[i] (List.getElem_mem hlt)
   have hsn : allF l (m.take (i + 1))=loneF l m[i]:=by
    unfold allF at hgood ⊢
    rw [List.take_succ_eq_append_getElem hlt,List.all_append,hgood]
    simp
   have hno : loneF l m[i]=false→allF l m=false:=fun h=>by
    unfold allF
    rw [List.all_eq_false]
    exact ⟨m[i],List.getElem_mem hlt,by rw [h]; decide⟩
   have fin : ∀ (c : Bool),c=loneF l m[i]→(c=true→allF l (m.take (i + 1))=true)∧(c=false→allF l m=false):=fun c e=>⟨fun h=>by rw [hsn,← e,h],fun h=>hno (by rw [← e,h])⟩
   refine p1 ?_
   refine ix (h:=?_)
   refine GO (tell_rt l m[i].name) rfl ?_
   refine ⟨by kernel_rfl,?_⟩
   have hpref : ∀ s p : ByteArray,p.size≤s.size→prefF s p=sEq (s.extract 0 p.size) p:=fun s p h=>by unfold prefF; rw [decide_eq_true h]; rfl
   have hpref0 : ∀ s p : ByteArray,¬ p.size≤s.size→prefF s p=false:=fun s p h=>by unfold prefF; rw [decide_eq_false h]; rfl
   have h4 : m[i].op=0∨m[i].op=1∨m[i].op=2∨m[i].op=3:=by omega
   by_cases hp : m[i].value.size≤(lgetF l m[i].name).size
   ·have hpr:=hpref _ _ hp
    refine p1 ?_
    refine ⟨by omega,by omega,by omega,?_⟩
    rcases h4 with h4 | h4 | h4 | h4
    ·cases hc : sEq (lgetF l m[i].name) m[i].value with
     | true =>
      have hone : loneF l m[i]=true:=by unfold loneF; rw [if_pos h4]; exact hc
      refine ⟨_,by omega,by omega,(by rw [h4]; rfl),?_⟩
      have hc2 : (!(sEq (lgetF l m[i].name) m[i].value))=false:=by rw [hc]; rfl
      have hc3 : (!(!(sEq (lgetF l m[i].name) m[i].value)))=true:=by rw [hc]; rfl
      repeat (first | refine p1 ?_ | refine p2 ?_ | refine p3 ?_ | refine p4 ?_ | refine p1 ?_ hc2 | refine p2 ?_ hc2 | refine p1 ?_ hc3 | refine p2 ?_ hc3)
      exact ⟨i + 1,id,⟨⟨rfl,rfl,rfl,succ_gi (by omega),trivial⟩,trivial,rfl⟩,⟨hlt,hsn.trans hone⟩,by show m.length - (i + 1) < m.length - i; omega⟩
     | false =>
      have hone : loneF l m[i]=false:=by unfold loneF; rw [if_pos h4]; exact hc
      refine ⟨_,by omega,by omega,(by rw [h4]; rfl),?_⟩
      have hc2 : (!(sEq (lgetF l m[i].name) m[i].value))=true:=by rw [hc]; rfl
      have hc3 : (!(!(sEq (lgetF l m[i].name) m[i].value)))=false:=by rw [hc]; rfl
      repeat (first | refine p1 ?_ | refine p2 ?_ | refine p3 ?_ | refine p4 ?_ | refine p1 ?_ hc2 | refine p2 ?_ hc2 | refine p1 ?_ hc3 | refine p2 ?_ hc3)
      exact ⟨(hno hone).symm,rfl⟩
    ·cases hc : sEq (lgetF l m[i].name) m[i].value with
     | true =>
      have hone : loneF l m[i]=false:=by unfold loneF; rw [if_neg (by omega),if_pos h4,hc]; rfl
      refine ⟨_,by omega,by omega,(by rw [h4]; rfl),?_⟩
      have hc2 : (!(sEq (lgetF l m[i].name) m[i].value))=false:=by rw [hc]; rfl
      have hc3 : (!(!(sEq (lgetF l m[i].name) m[i].value)))=true:=by rw [hc]; rfl
      repeat (first | refine p1 ?_ | refine p2 ?_ | refine p3 ?_ | refine p4 ?_ | refine p1 ?_ hc2 | refine p2 ?_ hc2 | refine p1 ?_ hc3 | refine p2 ?_ hc3)
      exact ⟨(hno hone).symm,rfl⟩
     | false =>
      have hone : loneF l m[i]=true:=by unfold loneF; rw [if_neg (by omega),if_pos h4,hc]; rfl
      refine ⟨_,by omega,by omega,(by rw [h4]; rfl),?_⟩
      have hc2 : (!(sEq (lgetF l m[i].name) m[i].value))=true:=by rw [hc]; rfl
      have hc3 : (!(!(sEq (lgetF l m[i].name) m[i].value)))=false:=by rw [hc]; rfl
      repeat (first | refine p1 ?_ | refine p2 ?_ | refine p3 ?_ | refine p4 ?_ | refine p1 ?_ hc2 | refine p2 ?_ hc2 | refine p1 ?_ hc3 | refine p2 ?_ hc3)
      exact ⟨i + 1,id,⟨⟨rfl,rfl,rfl,succ_gi (by omega),trivial⟩,trivial,rfl⟩,⟨hlt,hsn.trans hone⟩,by show m.length - (i + 1) < m.length - i; omega⟩
    ·cases hc : sEq ((lgetF l m[i].name).extract 0 m[i].value.size) m[i].value with
     | true =>
      have hone : loneF l m[i]=true:=by unfold loneF; rw [if_neg (by omega),if_neg (by omega),if_pos h4,hpr,hc]
      refine ⟨_,by omega,by omega,(by rw [h4]; rfl),?_⟩
      have hc2 : (!(sEq ((lgetF l m[i].name).extract 0 m[i].value.size) m[i].value))=false:=by rw [hc]; rfl
      have hc3 : (!(!(sEq ((lgetF l m[i].name).extract 0 m[i].value.size) m[i].value)))=true:=by rw [hc]; rfl
      repeat (first | refine p1 ?_ | refine p2 ?_ | refine p3 ?_ | refine p4 ?_ | refine p1 ?_ hc2 | refine p2 ?_ hc2 | refine p1 ?_ hc3 | refine p2 ?_ hc3)
      exact ⟨i + 1,id,⟨⟨rfl,rfl,rfl,succ_gi (by omega),trivial⟩,trivial,rfl⟩,⟨hlt,hsn.trans hone⟩,by show m.length - (i + 1) < m.length - i; omega⟩
     | false =>
      have hone : loneF l m[i]=false:=by unfold loneF; rw [if_neg (by omega),if_neg (by omega),if_pos h4,hpr,hc]
      refine ⟨_,by omega,by omega,(by rw [h4]; rfl),?_⟩
      have hc2 : (!(sEq ((lgetF l m[i].name).extract 0 m[i].value.size) m[i].value))=true:=by rw [hc]; rfl
      have hc3 : (!(!(sEq ((lgetF l m[i].name).extract 0 m[i].value.size) m[i].value)))=false:=by rw [hc]; rfl
      repeat (first | refine p1 ?_ | refine p2 ?_ | refine p3 ?_ | refine p4 ?_ | refine p1 ?_ hc2 | refine p2 ?_ hc2 | refine p1 ?_ hc3 | refine p2 ?_ hc3)
      exact ⟨(hno hone).symm,rfl⟩
    ·cases hc : sEq ((lgetF l m[i].name).extract 0 m[i].value.size) m[i].value with
     | true =>
      have hone : loneF l m[i]=false:=by unfold loneF; rw [if_neg (by omega),if_neg (by omega),if_neg (by omega),hpr,hc]; rfl
      refine ⟨_,by omega,by omega,(by rw [h4]; rfl),?_⟩
      have hc2 : (!(sEq ((lgetF l m[i].name).extract 0 m[i].value.size) m[i].value))=false:=by rw [hc]; rfl
      have hc3 : (!(!(sEq ((lgetF l m[i].name).extract 0 m[i].value.size) m[i].value)))=true:=by rw [hc]; rfl
      repeat (first | refine p1 ?_ | refine p2 ?_ | refine p3 ?_ | refine p4 ?_ | refine p1 ?_ hc2 | refine p2 ?_ hc2 | refine p1 ?_ hc3 | refine p2 ?_ hc3)
      exact ⟨(hno hone).symm,rfl⟩
     | false =>
      have hone : loneF l m[i]=true:=by unfold loneF; rw [if_neg (by omega),if_neg (by omega),if_neg (by omega),hpr,hc]; rfl
      refine ⟨_,by omega,by omega,(by rw [h4]; rfl),?_⟩
      have hc2 : (!(sEq ((lgetF l m[i].name).extract 0 m[i].value.size) m[i].value))=true:=by rw [hc]; rfl
      have hc3 : (!(!(sEq ((lgetF l m[i].name).extract 0 m[i].value.size) m[i].value)))=false:=by rw [hc]; rfl
      repeat (first | refine p1 ?_ | refine p2 ?_ | refine p3 ?_ | refine p4 ?_ | refine p1 ?_ hc2 | refine p2 ?_ hc2 | refine p1 ?_ hc3 | refine p2 ?_ hc3)
      exact ⟨i + 1,id,⟨⟨rfl,rfl,rfl,succ_gi (by omega),trivial⟩,trivial,rfl⟩,⟨hlt,hsn.trans hone⟩,by show m.length - (i + 1) < m.length - i; omega⟩
   ·have hpr:=hpref0 _ _ hp
    refine p2 ?_
    rcases h4 with h4 | h4 | h4 | h4
    ·cases hc : sEq (lgetF l m[i].name) m[i].value with
     | true =>
      have hone : loneF l m[i]=true:=by unfold loneF; rw [if_pos h4]; exact hc
      refine ⟨_,by omega,by omega,(by rw [h4]; rfl),?_⟩
      have hc2 : (!(sEq (lgetF l m[i].name) m[i].value))=false:=by rw [hc]; rfl
      have hc3 : (!(!(sEq (lgetF l m[i].name) m[i].value)))=true:=by rw [hc]; rfl
      repeat (first | refine p1 ?_ | refine p2 ?_ | refine p3 ?_ | refine p4 ?_)
      exact ⟨i + 1,id,⟨⟨rfl,rfl,rfl,succ_gi (by omega),trivial⟩,trivial,rfl⟩,⟨hlt,hsn.trans hone⟩,by show m.length - (i + 1) < m.length - i; omega⟩
     | false =>
      have hone : loneF l m[i]=false:=by unfold loneF; rw [if_pos h4]; exact hc
      refine ⟨_,by omega,by omega,(by rw [h4]; rfl),?_⟩
      have hc2 : (!(sEq (lgetF l m[i].name) m[i].value))=true:=by rw [hc]; rfl
      have hc3 : (!(!(sEq (lgetF l m[i].name) m[i].value)))=false:=by rw [hc]; rfl
      repeat (first | refine p1 ?_ | refine p2 ?_ | refine p3 ?_ | refine p4 ?_)
      exact ⟨(hno hone).symm,rfl⟩
    ·cases hc : sEq (lgetF l m[i].name) m[i].value with
     | true =>
      have hone : loneF l m[i]=false:=by unfold loneF; rw [if_neg (by omega),if_pos h4,hc]; rfl
      refine ⟨_,by omega,by omega,(by rw [h4]; rfl),?_⟩
      have hc2 : (!(sEq (lgetF l m[i].name) m[i].value))=false:=by rw [hc]; rfl
      have hc3 : (!(!(sEq (lgetF l m[i].name) m[i].value)))=true:=by rw [hc]; rfl
      repeat (first | refine p1 ?_ | refine p2 ?_ | refine p3 ?_ | refine p4 ?_)
      exact ⟨(hno hone).symm,rfl⟩
     | false =>
      have hone : loneF l m[i]=true:=by unfold loneF; rw [if_neg (by omega),if_pos h4,hc]; rfl
      refine ⟨_,by omega,by omega,(by rw [h4]; rfl),?_⟩
      have hc2 : (!(sEq (lgetF l m[i].name) m[i].value))=true:=by rw [hc]; rfl
      have hc3 : (!(!(sEq (lgetF l m[i].name) m[i].value)))=false:=by rw [hc]; rfl
      repeat (first | refine p1 ?_ | refine p2 ?_ | refine p3 ?_ | refine p4 ?_)
      exact ⟨i + 1,id,⟨⟨rfl,rfl,rfl,succ_gi (by omega),trivial⟩,trivial,rfl⟩,⟨hlt,hsn.trans hone⟩,by show m.length - (i + 1) < m.length - i; omega⟩
    ·have hone : loneF l m[i]=false:=by unfold loneF; rw [if_neg (by omega),if_neg (by omega),if_pos h4,hpr]
     refine ⟨_,by omega,by omega,(by rw [h4]; rfl),?_⟩
     repeat (first | refine p1 ?_ | refine p2 ?_ | refine p3 ?_ | refine p4 ?_)
     exact ⟨(hno hone).symm,rfl⟩
    ·have hone : loneF l m[i]=true:=by unfold loneF; rw [if_neg (by omega),if_neg (by omega),if_neg (by omega),hpr]; rfl
     refine ⟨_,by omega,by omega,(by rw [h4]; rfl),?_⟩
     repeat (first | refine p1 ?_ | refine p2 ?_ | refine p3 ?_ | refine p4 ?_)
     exact ⟨i + 1,id,⟨⟨rfl,rfl,rfl,succ_gi (by omega),trivial⟩,trivial,rfl⟩,⟨hlt,hsn.trans hone⟩,by show m.length - (i + 1) < m.length - i; omega⟩
  ·refine p2 ?_
   refine V ?_
   obtain rfl : i=m.length:=by omega
   rw [List.take_length] at hgood
   exact ⟨hgood.symm,rfl⟩

def shL (l : List Lb) : Bool:=decide (l.length≤20) && !anyB l.length (fun i=>decide (60 < (l.getD i default).name.size) || decide (60 < (l.getD i default).value.size))
theorem Hl.sh {l : List Lb} (h : Hl l) : Sh l:=fun x hx=>by have:=h.value x hx; omega
theorem shortL_rt (l : List Lb) : Rt pg 42 [.sl 2 (l.map lb)] (.b (shL l)):=by
 refine Rt.of pg_ok Tryz.func42 rfl Tryz.ntmps42 rfl Tryz.results42 Tryz.call42 fun H0 S0 w0 h0 g0=>?_
 have hll : (l.map lb).length=l.length:=by simp
 unfold shL
 by_cases hl : l.length≤20
 ·refine p2 ?_
  refine JK.loop (α:=Nat) (fun i=>⟨[(0,.sl 2 (l.map lb)),(3,gi i)],[],0⟩) (fun i=>i≤l.length∧∀ j,j < i→(decide (60 < (l.getD j default).name.size) || decide (60 < (l.getD j default).value.size))=false) (fun i=>l.length - i) 0 id ?_ ⟨Nat.zero_le _,fun j hj=>absurd hj (by omega)⟩ ?_
  ·exact ⟨⟨rfl,rfl,trivial⟩,trivial,rfl⟩
  ·rintro i ⟨hi,hgood⟩
   refine V ?_
   by_cases hlt : i < l.length
   ·have hg : l.getD i default=l[i]:=by simp [hlt]
    have hbad : (decide (60 < l[i].name.size) || decide (60 < l[i].value.size))=true→(decide (l.length≤20) && !anyB l.length (fun i=>decide (60 < (l.getD i default).name.size) || decide (60 < (l.getD i default).value.size)))=false:=fun h=>by rw [anyB_true hlt (by rw [hg]; exact h)]; simp
    have hnext : (decide (60 < l[i].name.size) || decide (60 < l[i].value.size))=false→∀ j,j < i + 1→(decide (60 < (l.getD j default).name.size) || decide (60 < (l.getD j default).value.size))=false:=fun h j hj=>by
     rcases Nat.lt_succ_iff_lt_or_eq.1 hj with h1 | h1
     ·exact hgood j h1
     ·subst h1; rw [hg]; exact h
    by_cases h1 : 60 < l[i].name.size
    ·repeat (first | refine p1 ?_ | refine p2 ?_ | refine p3 ?_ | refine p4 ?_ | refine ix (h:=?_))
     exact ⟨(hbad (by rw [decide_eq_true h1]; rfl)).symm,rfl⟩
    ·by_cases h2 : 60 < l[i].value.size
     ·repeat (first | refine p1 ?_ | refine p2 ?_ | refine p3 ?_ | refine p4 ?_ | refine ix (h:=?_))
      exact ⟨(hbad (by rw [decide_eq_true h2,Bool.or_true])).symm,rfl⟩
     ·repeat (first | refine p1 ?_ | refine p2 ?_ | refine p3 ?_ | refine p4 ?_ | refine ix (h:=?_))
      exact ⟨i + 1,id,⟨⟨rfl,succ_gi (by omega),trivial⟩,trivial,rfl⟩,⟨hlt,hnext (by rw [decide_eq_false h1,decide_eq_false h2]; rfl)⟩,by show l.length - (i + 1) < l.length - i; omega⟩
   ·refine p2 ?_
    refine V ?_
    obtain rfl : i=l.length:=by omega
    exact ⟨by rw [anyB_false hgood,decide_eq_true hl]; rfl,rfl⟩
 ·refine p1 ?_
  exact ⟨by rw [decide_eq_false hl]; rfl,rfl⟩
theorem sameL_rt (a b : List Lb) : Rt pg 62 [.sl 2 (a.map lb),.sl 2 (b.map lb)] (.b (decide (cmpF a b=0))):=by
 refine Rt.of pg_ok Tryz.func62 rfl Tryz.ntmps62 rfl Tryz.results62 Tryz.call62 fun H0 S0 w0 h0 g0=>?_
 have hla : (a.map lb).length=a.length:=by simp
 have hlb : (b.map lb).length=b.length:=by simp
 by_cases hl : a.length=b.length
 ·refine p2 ?_
  refine JK.len 0 rfl fun hlen _=>?_
  have hlen' : a.length≤9223372036854775807:=by simpa [maxLen] using hlen
  refine JK.loop (α:=Nat) (fun i=>⟨[(0,.sl 2 (a.map lb)),(1,.sl 2 (b.map lb)),(5,gi i)],[],0⟩) (fun i=>i≤a.length∧∀ j,j < i→a[j]?=b[j]?) (fun i=>a.length - i) 0 id ?_ ⟨Nat.zero_le _,fun j hj=>absurd hj (by omega)⟩ ?_
  ·exact ⟨⟨rfl,rfl,rfl,trivial⟩,trivial,rfl⟩
  ·rintro i ⟨hi,hgood⟩
   refine V ?_
   by_cases ha : i < a.length
   ·have hb : i < b.length:=by omega
    refine p1 ?_
    refine ⟨by kernel_rfl,?_⟩
    repeat refine ix (h:=?_)
    have he:=eqLb a[i] b[i]
    by_cases h : cmpL1 a[i] b[i]=0
    ·rw [decide_eq_true h] at he
     refine p2 ?_ (show (!(sEq a[i].name b[i].name && (sEq a[i].value b[i].value && true)))=false by rw [he]; rfl)
     exact ⟨i + 1,id,⟨⟨rfl,rfl,succ_gi (by omega),trivial⟩,trivial,rfl⟩,⟨ha,fun j hj=>by
      rcases Nat.lt_succ_iff_lt_or_eq.1 hj with h1 | h1
      ·exact hgood j h1
      ·subst h1
       rw [List.getElem?_eq_getElem ha,List.getElem?_eq_getElem hb,(cmpL1_is.eq0 _ _).1 h]⟩,by show a.length - (i + 1) < a.length - i; omega⟩
    ·rw [decide_eq_false h] at he
     refine p1 ?_ (show (!(sEq a[i].name b[i].name && (sEq a[i].value b[i].value && true)))=true by rw [he]; rfl)
     have hat : cmpF a b=cmpL1 a[i] b[i]:=by rw [cmpF,lexC_at cmpL1 cmpL1_is.eq0 a b i a[i] b[i] hgood (List.getElem?_eq_getElem ha) (List.getElem?_eq_getElem hb) h]
     exact ⟨by rw [decide_eq_false (by rw [hat]; exact h)]; rfl,rfl⟩
   ·refine p2 ?_
    refine V ?_
    have : cmpF a b=0:=by rw [cmpF,lexC_len cmpL1 cmpL1_is.eq0 a b (fun k hk=>hgood k (by omega)),sgnF,if_neg (by omega),if_neg (by omega)]
    exact ⟨by rw [decide_eq_true this]; rfl,rfl⟩
 ·refine p1 ?_
  have hne : cmpF a b ≠ 0:=fun h=>hl (by rw [(cmpF_is.eq0 _ _).1 h])
  exact ⟨by rw [decide_eq_false hne]; rfl,rfl⟩
end Go.Proofs.YtkoalgjlkcaonaaGreatDoor
/-
  Plain laws: which blocks may be, their bytes, the block that bytes are; no program is in sight.
-/
namespace Go.PL
open Go
def lastB (to_ : Int) (xs : List Sm) : Bool:=match xs[xs.length - 1]? with
 | some y=>decide (to_ < y.time)
 | none=>false
def prevB (l : List Ser) (i : Nat) (x : Ser) : Bool:=decide (0 < i) && (match l[i - 1]? with
 | some p=>decide (0≤cmpF p.labels x.labels)
 | none=>false)
noncomputable def blkBad (to_ : Int) (l : List Ser) (i : Nat) : Bool:=match l[i]? with
 | none=>false
 | some x=>!rightF x.labels || (!okS x.samples || (decide (x.samples.length=0) || (lastB to_ x.samples || prevB l i x)))
theorem blkBad_at {to_ : Int} {l : List Ser} {i : Nat} (h : i < l.length) : blkBad to_ l i=(!rightF l[i].labels || (!okS l[i].samples || (decide (l[i].samples.length=0) || (lastB to_ l[i].samples || prevB l i l[i])))):=by
 unfold blkBad
 rw [List.getElem?_eq_getElem h]
theorem lastB_at {to_ : Int} {xs : List Sm} (h : xs.length - 1 < xs.length) : lastB to_ xs=decide (to_ < xs[xs.length - 1].time):=by
 unfold lastB
 rw [List.getElem?_eq_getElem h]
theorem prevB_at {l : List Ser} {i : Nat} {x : Ser} (h : i - 1 < l.length) (h0 : 0 < i) : prevB l i x=decide (0≤cmpF l[i - 1].labels x.labels):=by
 unfold prevB
 rw [List.getElem?_eq_getElem h,decide_eq_true h0]
 rfl
noncomputable def blkR (to_ old : Int) (l : List Ser) : Bool:=!anyB l.length (blkBad to_ l) && (decide (-1099511627776≤to_∧to_≤1099511627776) && decide (-1≤old))
theorem blkR_all {to_ old : Int} {l : List Ser} (h : blkR to_ old l=true) : ∀ x ∈ l,rightF x.labels=true∧okS x.samples=true:=by
 unfold blkR at h
 rw [Bool.and_eq_true,Bool.not_eq_true'] at h
 intro x hx
 obtain ⟨i,hi,rfl⟩:=List.getElem_of_mem hx
 have:=anyB_get h.1 i hi
 unfold blkBad at this
 rw [List.getElem?_eq_getElem hi] at this
 simp only [Bool.or_eq_false_iff,Bool.not_eq_false'] at this
 exact ⟨this.1,this.2.1⟩
end Go.PL
/-
  Plain laws: series without what is gone; no program is in sight.
-/
namespace Go.PL
open Go
end Go.PL
/-
  Contracts (printed by gen/gen_find.py): slices.IndexFunc, slices.ContainsFunc, slices.Clone.
-/
namespace Go.Proofs.YtkoalgjlkcaonaaGreatDoor
open Go.GK Go.PL Go.RowKit
set_option maxRecDepth 100000
theorem cloneLb_rt (l : List Lb) (hl : l.length≤1000000) : Rt pg 125 [.sl 2 (l.map lb)] (.sl 2 (l.map lb)):=by
 refine Rt.ofJ pg_ok Tryz.func125 rfl Tryz.ntmps125 rfl Tryz.results125 Tryz.call125 fun H0 S0 w0 h0 g0=>?_
 refine VM 8 ?_
 refine JK.eqNil pg_ok rfl rfl rfl rfl rfl (fun hn=>?_) ?_
 ·have hn' : l.map lb=[]:=hn
  refine VM 6 ?_
  refine JK.roNil 2 2 rfl ?_
  refine V ?_
  rw [hn']
  exact ⟨rfl,rfl⟩
 ·refine VM 10 ?_
  refine ⟨by simp only [List.length_map,List.length_nil]; omega,?_⟩
  refine FRZ 1 rfl ?_
  exact ⟨rfl,rfl⟩
end Go.Proofs.YtkoalgjlkcaonaaGreatDoor
/-
  The ghost machine: a region that draws its order: a struct that is built of values may be built as soon as it may be.
-/
namespace Go.GK
open Go.RowKit
section
variable {cx : Cx} {T : Post}
end
end Go.GK
/-
  The ghost machine: a slice grown from nothing (slices.Grow of nil); a copy of elements of any size.
-/
namespace Go.GK
open Go.RowKit
section
variable {cx : Cx} {T : Post}
end
section
variable {P : Program}
theorem run_copy_k (w : World) (dT sT ty elem : TypeId) (k b o dLen dCap : Nat) (a : Addr) (sLen sCap n : Nat) (cs : List Value)
  (hu : P.underlying dT=some (.slice elem)) (hs : (P.info? elem).map (·.size)=some k) (hn : n=Nat.min sLen dLen) (hl : cs.length=n * k)
  (hsrc : ∀ j v,cs[j]?=some v→w.cell? (a.add j)=some v) (hc : ∀ j,j < cs.length→(w.cell? ⟨b,o + j,none⟩).isSome=true) (hf : ∀ j,j < cs.length→w.frozen? ⟨b,o + j,none⟩=false) (h1 : ∀ v ∈ cs,v.oneCell'=true) :
  (Builtin.copy_ #[dT,sT] ty #[.slice (some ⟨b,o,none⟩) dLen dCap,.slice (some a) sLen sCap]).run P w=.ok (goInt n) (w.setCells b o cs):=by
 have hld:=run_loadCells_list (P:=P) w a cs hsrc
 have hst:=run_storeCells_cells (P:=P) b o cs 0 w (by simpa using hc) (by simpa using hf) h1
 cases hq : P.info? elem with
 | none=>simp [hq] at hs
 | some i =>
  have hi : i.size=k:=by simpa [hq] using hs
  simp [Builtin.copy_,run_underlying hu,Builtin.lenOf,Builtin.firstCells,sizeOf,typeInfo,hq,hi,← hn,← hl,hld,hst]
end
end Go.GK
/-
  The ghost machine: slices.Insert of one element of two cells into an own slice, by what a raw walk says of it.
-/
namespace Go.GK
open Go.RowKit
theorem ins_take1 (A vs : List Value) {p q m : Nat} (hv : vs.length=m) (hpq : p≤q) (hl : q + m≤A.length) :
  ((A.take (p + m)++(A.take q).drop p++A.drop (p + m + ((A.take q).drop p).length)).take p++vs++(A.take (p + m)++(A.take q).drop p++A.drop (p + m + ((A.take q).drop p).length)).drop (p + vs.length)).take (q + m)=(A.take q).take p++vs++(A.take q).drop p:=by
 have e1 : ((A.take q).drop p).length=q - p:=by simp; omega
 have e2 : (A.take (p + m)).length=p + m:=by simp; omega
 rw [e1,hv]
 have a1 : (A.take (p + m)++(A.take q).drop p++A.drop (p + m + (q - p))).take p=A.take p:=by
  rw [List.append_assoc,List.take_append_of_le_length (by omega),List.take_take,Nat.min_eq_left (by omega)]
 have a2 : (A.take (p + m)++(A.take q).drop p++A.drop (p + m + (q - p))).drop (p + m)=(A.take q).drop p++A.drop (p + m + (q - p)):=by
  rw [List.append_assoc,List.drop_left' e2]
 have a3 : (A.take q).take p=A.take p:=by rw [List.take_take,Nat.min_eq_left hpq]
 rw [a1,a2,a3,← List.append_assoc,List.take_left' (by simp; omega)]
theorem ins_take2 (R vs D : List Value) {p q m : Nat} (hv : vs.length=m) (hd : D.length=q - p) (hpq : p≤q) (hl : q + m≤R.length) :
  ((R.take p++vs++R.drop (p + vs.length)).take (p + m)++D++(R.take p++vs++R.drop (p + vs.length)).drop (p + m + D.length)).take (q + m)=R.take p++vs++D:=by
 have a1 : (R.take p++vs++R.drop (p + vs.length)).take (p + m)=R.take p++vs:=List.take_left' (by simp [hv]; omega)
 rw [a1,List.take_left' (by simp [hv,hd]; omega)]
def InsSays (P : Program) (f : FuncId) (e : TypeId) : Prop :=
 ∀ (v : Value) (n i vb vc : Nat) (xs vs : List Value) (vcur : Array Value) (w : World),w.ownsRow 0 e 2 v n xs→i≤n→n < 1000000→w.heap[vb]?=some (.cells vcur e (0,0))→1≤vc→vc≤maxLen→vcur.size=vc * 2→vcur.toList.take 2=vs→v.ownBlock ≠ some vb→(∀ u ∈ xs,u.oneCell'=true)→(∀ u ∈ vs,u.oneCell'=true) →
  Calls P f #[v,.int .i64 (i : Int),.slice (some ⟨vb,0,none⟩) 1 vc] w fun ev w'=>∃ v',ev=.returned v'∧w'.ownsRow 0 e 2 v' (n + 1) (xs.take (i * 2)++vs++xs.drop (i * 2))∧w.grownBy w' v.ownBlock∧(v'.ownBlock=v.ownBlock∨v'.ownBlock=some w.heap.size)
theorem insert_hf {p : Pg} {f : FuncId} {e : TypeId} (hc : ∀ ar w,(callFunc f ar).run p.P w=.ok (.enter f ar) w) (hI : InsSays p.P f e) (rows : List (List GV)) (r : List GV) (i : Nat) (hi : i≤rows.length) (hl : rows.length < 1000000) :
  Hf p f 2 [.o 0,.v (.int .i64 (i : Int)),.o 1] [(0,.row e 2 rows),(1,.row e 2 [r])] fun G σ n=>G=.o 2∧σ=[(2,.row e 2 (rows.take i++[r]++rows.drop i)),(1,.row e 2 [r])]∧n=3:=by
 refine ⟨hc,fun H us w hn hg hcs hs=>?_⟩
 obtain ⟨g0,h0⟩:=(hcs.2 0 _ rfl).inv_o
 have g1:=(hcs.2 1 _ rfl).inv_v
 obtain ⟨g2,h2⟩:=(hcs.2 2 _ rfl).inv_o
 have hue : us=#[H.sv 0,.int .i64 (i : Int),H.sv 1]:=by
  have h4 : us.size=3:=hcs.1.symm
  apply Array.ext
  ·exact h4
  ·intro q h5 h6
   have hq : us[q]=us.getD q undef:=by simp [Array.getD,h5]
   rw [hq]
   match q,h6 with
   | 0,_=>exact g0
   | 1,_=>exact g1
   | 2,_=>exact g2
 obtain ⟨xs,hown,hrow⟩:=hs.holds (0,.row e 2 rows) (by simp)
 obtain ⟨ys,hown1,hrow1⟩:=hs.holds (1,.row e 2 [r]) (by simp)
 rcases hown1.2 with ⟨_,hn1⟩ | ⟨vb,vc,vcur,hsv,_,hgc,hnc,hcm,hcz,htk⟩
 ·simp at hn1
 have hnd:=hs.nodup
 simp only [blks,List.flatMap_cons,List.flatMap_nil,blocks,List.append_nil] at hnd
 have n1:=List.nodup_append.1 hnd
 have hne : (H.sv 0).ownBlock ≠ some vb:=fun e0=>n1.2.2 vb (by rw [e0]; simp) vb (by rw [hsv]; simp [Value.ownBlock]) rfl
 rw [hue]
 have hC:=hI (H.sv 0) rows.length i vb vc xs ys vcur w hown hi hl hgc hnc hcm hcz (by simpa using htk) hne hrow.one hrow1.one
 rw [hsv]
 refine hC.mono ?_
 rintro _ w' ⟨v',rfl,hown',hgr,hblk⟩
 let cx : Cx:=⟨p,0,2,H,blks H [(0,.row e 2 rows),(1,.row e 2 [r])],w,hn,hg⟩
 have hS : Sim cx H ⟨[],[(0,.row e 2 rows),(1,.row e 2 [r])],2⟩ w:=⟨hn,hs,Fr.refl _ _ _⟩
 have hR : RowOk H.ro 2 (rows.take i++[r]++rows.drop i) (xs.take (i * 2)++ys++xs.drop (i * 2)):=((hrow.take i).append hrow1).append (hrow.drop i)
 have hlen : (rows.take i++[r]++rows.drop i).length + ([] : List (List GV)).length=rows.length + 1:=by simp; omega
 obtain ⟨H',hle,hiu,hsim⟩:=hS.regrown (e:=e) (sz:=2) (ud:=H.sv 0) (u:=v') (rows:=rows.take i++[r]++rows.drop i) (news:=[]) (ys:=[]) (σ':=[(1,.row e 2 [r])])
  (by rw [hlen,List.append_nil]; exact hown') hR .nil (fun b hb=>by simp [blks,blocks,hb]) (fun x hx=>by simp at hx; simp [hx]) (by simp only [blks,List.flatMap_cons,List.flatMap_nil,blocks,List.append_nil]; exact n1.2.1)
  (fun b hb hc=>by
   simp only [blks,List.flatMap_cons,List.flatMap_nil,blocks,List.append_nil] at hc
   exact n1.2.2 b hb b hc rfl) hgr hblk []
 rw [List.append_nil] at hsim
 exact ⟨v',.o 2,H',_,rfl,hiu,hsim.sat,hsim.fr,rfl,rfl,hsim.n⟩
section
variable {cx : Cx} {T : Post}
end
end Go.GK
/-
  Plain laws: series of two lists, in order; no program is in sight.
-/
namespace Go.PL
open Go
def mergeL (mg : List Sm→List Sm→List Sm) : List Ser→List Ser→List Ser
 | [],b=>b
 | x :: a,[]=>x :: a
 | x :: a,y :: b =>
  if cmpF x.labels y.labels < 0 then x :: mergeL mg a (y :: b)
  else if cmpF x.labels y.labels=0 then ⟨y.labels,mg x.samples y.samples⟩ :: mergeL mg a b
  else y :: mergeL mg (x :: a) b
termination_by a b=>a.length + b.length
theorem mergeL_nil (mg : List Sm→List Sm→List Sm) (a : List Ser) : mergeL mg a []=a:=by
 cases a with
 | nil=>unfold mergeL; rfl
 | cons x a=>unfold mergeL; rfl
theorem mergeL_nil' (mg : List Sm→List Sm→List Sm) (b : List Ser) : mergeL mg [] b=b:=by unfold mergeL; rfl
theorem cmpF_lt_trans {a b c : List Lb} (h : cmpF a b < 0) (k : cmpF b c < 0) : cmpF a c < 0:=by
 have h1:=cmpF_is.rng a b
 have h2:=cmpF_is.rng b c
 have:=cmpF_is.trans a b c (by omega) (by omega)
 omega
def RisS (l : List Ser) : Prop:=l.Pairwise fun x y=>cmpF x.labels y.labels < 0
theorem mem_mergeL {mg : List Sm→List Sm→List Sm} : ∀ (a b : List Ser) (z : Ser),z ∈ mergeL mg a b→∃ y,(y ∈ a∨y ∈ b)∧y.labels=z.labels
 | [],b,z,h=>by rw [mergeL_nil'] at h; exact ⟨z,.inr h,rfl⟩
 | x :: a,[],z,h=>by rw [mergeL_nil] at h; exact ⟨z,.inl h,rfl⟩
 | x :: a,y :: b,z,h=>by
  unfold mergeL at h
  split at h
  ·rcases List.mem_cons.1 h with rfl | h
   ·exact ⟨z,.inl (by simp),rfl⟩
   ·obtain ⟨w,hw,e⟩:=mem_mergeL a (y :: b) z h
    exact ⟨w,hw.imp (fun h=>by simp [h]) id,e⟩
  ·split at h
   ·rcases List.mem_cons.1 h with rfl | h
    ·exact ⟨y,.inr (by simp),rfl⟩
    ·obtain ⟨w,hw,e⟩:=mem_mergeL a b z h
     exact ⟨w,hw.imp (fun h=>by simp [h]) (fun h=>by simp [h]),e⟩
   ·rcases List.mem_cons.1 h with rfl | h
    ·exact ⟨z,.inr (by simp),rfl⟩
    ·obtain ⟨w,hw,e⟩:=mem_mergeL (x :: a) b z h
     exact ⟨w,hw.imp id (fun h=>by simp [h]),e⟩
termination_by a b=>a.length + b.length
theorem mergeL_ris {mg : List Sm→List Sm→List Sm} : ∀ (a b : List Ser),RisS a→RisS b→RisS (mergeL mg a b)
 | [],b,_,hb=>by rw [mergeL_nil']; exact hb
 | x :: a,[],ha,_=>by rw [mergeL_nil]; exact ha
 | x :: a,y :: b,ha,hb=>by
  obtain ⟨ha1,ha2⟩:=List.pairwise_cons.1 ha
  obtain ⟨hb1,hb2⟩:=List.pairwise_cons.1 hb
  unfold mergeL
  split
  ·rename_i hxy
   refine List.pairwise_cons.2 ⟨fun z hz=>?_,mergeL_ris a (y :: b) ha2 hb⟩
   obtain ⟨w,hw,e⟩:=mem_mergeL _ _ _ hz
   rw [← e]
   rcases hw with hw | hw
   ·exact ha1 w hw
   ·rcases List.mem_cons.1 hw with rfl | hw
    ·exact hxy
    ·exact cmpF_lt_trans hxy (hb1 w hw)
  ·rename_i hxy
   split
   ·rename_i h0
    have hl : x.labels=y.labels:=(cmpF_is.eq0 _ _).1 h0
    refine List.pairwise_cons.2 ⟨fun z hz=>?_,mergeL_ris a b ha2 hb2⟩
    obtain ⟨w,hw,e⟩:=mem_mergeL _ _ _ hz
    show cmpF y.labels z.labels < 0
    rw [← e]
    rcases hw with hw | hw
    ·rw [← hl]; exact ha1 w hw
    ·exact hb1 w hw
   ·rename_i h0
    have hyx : cmpF y.labels x.labels < 0:=by
     have h1:=cmpF_is.anti x.labels y.labels
     have h2:=cmpF_is.rng x.labels y.labels
     omega
    refine List.pairwise_cons.2 ⟨fun z hz=>?_,mergeL_ris (x :: a) b ha hb2⟩
    obtain ⟨w,hw,e⟩:=mem_mergeL _ _ _ hz
    rw [← e]
    rcases hw with hw | hw
    ·rcases List.mem_cons.1 hw with rfl | hw
     ·exact hyx
     ·exact cmpF_lt_trans hyx (ha1 w hw)
    ·exact hb1 w hw
termination_by a b=>a.length + b.length
end Go.PL
/-
  Plain laws: samples put together by a map, in whatever order; two merged; no program is in sight.
-/
namespace Go.PL
open Go

abbrev UpS (l : List Sm) : Prop:=l.Pairwise (·.time < ·.time)
theorem UpS.nodup {l : List Sm} (h : UpS l) : (l.map (·.time)).Nodup:=by
 rw [List.nodup_iff_pairwise_ne,List.pairwise_map]
 exact h.imp fun h=>by omega
end Go.PL
/-
  Plain laws: samples of two lists, as package chunk puts them together; no program is in sight.
-/
namespace Go.PL
open Go
theorem mergeL_cons (mg : List Sm→List Sm→List Sm) (x y : Ser) (a b : List Ser) : mergeL mg (x :: a) (y :: b)=if cmpF x.labels y.labels < 0 then x :: mergeL mg a (y :: b) else if cmpF x.labels y.labels=0 then ⟨y.labels,mg x.samples y.samples⟩ :: mergeL mg a b else y :: mergeL mg (x :: a) b:=by
 conv=>lhs; unfold mergeL
end Go.PL
/-
  Plain laws for BlockSame: a block is read as it was written; what is gone, ahead of a merge or behind it; no program is in sight.
-/
namespace Go.PL
open Go
theorem blkR_ris {to_ old : Int} {l : List Ser} (h : blkR to_ old l=true) : RisS l∧∀ x ∈ l,UpS x.samples∧x.samples ≠ []:=by
 have hall:=blkR_all h
 unfold blkR at h
 rw [Bool.and_eq_true,Bool.not_eq_true'] at h
 have hb:=fun i (hi : i < l.length)=>(blkBad_at (to_:=to_) hi).symm.trans (anyB_get h.1 i hi)
 have hne : ∀ x ∈ l,x.samples ≠ []:=fun x hx=>by
  obtain ⟨i,hi,rfl⟩:=List.getElem_of_mem hx
  have:=hb i hi
  simp only [Bool.or_eq_false_iff,decide_eq_false_iff_not] at this
  exact fun e=>this.2.2.1 (by rw [e]; rfl)
 have hst : ∀ i (hi : i + 1 < l.length),cmpF l[i].labels l[i + 1].labels < 0:=fun i hi=>by
  have:=hb (i + 1) hi
  simp only [Bool.or_eq_false_iff] at this
  have h5:=this.2.2.2.2
  rw [prevB_at (show i + 1 - 1 < l.length by omega) (Nat.succ_pos i)] at h5
  have h6:=of_decide_eq_false h5
  simp only [Nat.add_sub_cancel] at h6
  omega
 refine ⟨?_,fun x hx=>⟨((okS_iff _).1 (hall x hx).2).1.up,hne x hx⟩⟩
 refine List.pairwise_iff_getElem.2 fun i j hi hj hij=>?_
 obtain ⟨d,rfl⟩ : ∃ d,j=i + 1 + d:=⟨j - (i + 1),by omega⟩
 clear hij
 induction d with
 | zero=>exact hst i hj
 | succ d ih=>exact cmpF_lt_trans (ih (by omega)) (hst (i + 1 + d) hj)
end Go.PL
/-
  Plain laws: series of two lists put together one by one, and sorted then; no program is in sight.
-/
namespace Go.PL
open Go
instance decLbs : DecidableEq (List Lb):=fun a b=>decidable_of_iff (cmpF a b=0) (cmpF_is.eq0 a b)
def lookL (ls : List Lb) : List Ser→Option (List Sm)
 | []=>none
 | x :: r=>if x.labels=ls then some x.samples else lookL ls r
def putL (mg : List Sm→List Sm→List Sm) : List Ser→Ser→List Ser
 | [],y=>[y]
 | x :: r,y=>if x.labels=y.labels then ⟨y.labels,mg x.samples y.samples⟩ :: r else x :: putL mg r y
def DL (l : List Ser) : Prop:=(l.map (·.labels)).Nodup
theorem lookL_none {ls : List Lb} : ∀ {l : List Ser},lookL ls l=none ↔ ∀ x ∈ l,x.labels ≠ ls
 | []=>by simp [lookL]
 | x :: r=>by
  unfold lookL
  by_cases h : x.labels=ls
  ·simp [h]
  ·rw [if_neg h,lookL_none (l:=r)]; simp [h]
theorem lookL_some {ls : List Lb} {s : List Sm} : ∀ {l : List Ser},lookL ls l=some s→⟨ls,s⟩ ∈ l
 | x :: r,h=>by
  unfold lookL at h
  split at h
  ·rename_i e; cases h; rw [← e]; simp
  ·have:=lookL_some h; simp [this]
theorem lookL_mem {x : Ser} : ∀ {l : List Ser},DL l→x ∈ l→lookL x.labels l=some x.samples
 | y :: r,hn,hx=>by
  unfold DL at hn
  simp only [List.map_cons,List.nodup_cons] at hn
  unfold lookL
  rcases List.mem_cons.1 hx with rfl | hx
  ·rw [if_pos rfl]
  ·rw [if_neg (fun e=>hn.1 (by rw [e]; exact List.mem_map_of_mem hx)),lookL_mem hn.2 hx]
theorem lookL_perm {ls : List Lb} {l m : List Ser} (hp : l.Perm m) (hd : DL l) : lookL ls l=lookL ls m:=by
 have hd' : DL m:=(hp.map _).nodup_iff.1 hd
 cases h : lookL ls l with
 | none =>
  symm
  rw [lookL_none] at h ⊢
  exact fun x hx=>h x (hp.mem_iff.2 hx)
 | some s=>exact (lookL_mem hd' (hp.mem_iff.1 (lookL_some h))).symm
theorem ris_ext : ∀ {l m : List Ser},RisS l→RisS m→(∀ ls,lookL ls l=lookL ls m)→l=m
 | [],[],_,_,_=>rfl
 | [],y :: m,_,_,h=>by have:=h y.labels; unfold lookL at this; rw [if_pos rfl] at this; cases this
 | x :: l,[],_,_,h=>by have:=h x.labels; unfold lookL at this; rw [if_pos rfl] at this; cases this
 | x :: l,y :: m,hl,hm,h=>by
  obtain ⟨l1,l2⟩:=List.pairwise_cons.1 hl
  obtain ⟨m1,m2⟩:=List.pairwise_cons.1 hm
  have nl : ∀ ls,cmpF ls x.labels < 0∨ls=x.labels→lookL ls l=none:=fun ls hls=>by
   rw [lookL_none]
   intro z hz e
   have:=l1 z hz
   rw [e] at this
   have a:=cmpF_is.anti ls x.labels
   rcases hls with h1 | h1
   ·omega
   ·rw [h1,cmpF_is.self] at this; omega
  have nm : ∀ ls,cmpF ls y.labels < 0∨ls=y.labels→lookL ls m=none:=fun ls hls=>by
   rw [lookL_none]
   intro z hz e
   have:=m1 z hz
   rw [e] at this
   have a:=cmpF_is.anti ls y.labels
   rcases hls with h1 | h1
   ·omega
   ·rw [h1,cmpF_is.self] at this; omega
  have hxy : x.labels=y.labels:=by
   by_cases e : x.labels=y.labels
   ·exact e
   ·have hr:=cmpF_is.rng x.labels y.labels
    have ha:=cmpF_is.anti x.labels y.labels
    have h0 : cmpF x.labels y.labels ≠ 0:=fun h0=>e ((cmpF_is.eq0 _ _).1 h0)
    by_cases hlt : cmpF x.labels y.labels < 0
    ·have:=h x.labels
     unfold lookL at this
     rw [if_pos rfl,if_neg (fun e'=>e e'.symm),nm x.labels (.inl hlt)] at this
     cases this
    ·have:=h y.labels
     unfold lookL at this
     rw [if_pos rfl,if_neg e,nl y.labels (.inl (by omega))] at this
     cases this
  have hs : x.samples=y.samples:=by
   have:=h x.labels
   unfold lookL at this
   rw [if_pos rfl,if_pos hxy.symm] at this
   exact Option.some.inj this
  have ht : l=m:=ris_ext l2 m2 fun ls=>by
   by_cases e : ls=x.labels
   ·rw [nl ls (.inr e),nm ls (.inr (e.trans hxy))]
   ·have:=h ls
    unfold lookL at this
    rwa [if_neg (fun e'=>e e'.symm),if_neg (fun e'=>e (hxy.trans e').symm)] at this
  rw [ht]
  obtain ⟨xl,xs⟩:=x
  obtain ⟨yl,ys⟩:=y
  simp only at hxy hs
  rw [hxy,hs]
def both (mg : List Sm→List Sm→List Sm) : Option (List Sm)→Option (List Sm)→Option (List Sm)
 | none,y=>y
 | some x,none=>some x
 | some x,some y=>some (mg x y)
theorem look_putL (mg : List Sm→List Sm→List Sm) (ls : List Lb) (y : Ser) : ∀ l : List Ser,lookL ls (putL mg l y)=both mg (lookL ls l) (if y.labels=ls then some y.samples else none)
 | []=>by
  unfold putL lookL
  split <;> rfl
 | x :: r=>by
  unfold putL
  by_cases h : x.labels=y.labels
  ·rw [if_pos h]
   unfold lookL
   by_cases h2 : y.labels=ls
   ·rw [if_pos h2,if_pos (h.trans h2),if_pos h2]; rfl
   ·rw [if_neg h2,if_neg (fun e=>h2 (h.symm.trans e)),if_neg h2]
    cases lookL ls r <;> rfl
  ·rw [if_neg h]
   unfold lookL
   by_cases h2 : x.labels=ls
   ·rw [if_pos h2,if_pos h2,if_neg (fun e=>h (h2.trans e.symm))]; rfl
   ·rw [if_neg h2,if_neg h2,look_putL mg ls y r]
theorem putL_labels (mg : List Sm→List Sm→List Sm) (y : Ser) : ∀ l : List Ser,(putL mg l y).map (·.labels)=if lookL y.labels l=none then l.map (·.labels)++[y.labels] else l.map (·.labels)
 | []=>by simp [putL,lookL]
 | x :: r=>by
  unfold putL lookL
  by_cases h : x.labels=y.labels
  ·rw [if_pos h,if_pos h]; simp [h]
  ·rw [if_neg h,if_neg h,List.map_cons,putL_labels mg y r]
   split <;> simp
theorem putL_dl {mg : List Sm→List Sm→List Sm} {y : Ser} {l : List Ser} (h : DL l) : DL (putL mg l y):=by
 unfold DL
 rw [putL_labels]
 split
 ·rename_i hn
  rw [lookL_none] at hn
  refine List.nodup_append.2 ⟨h,by simp,fun a ha b hb e=>?_⟩
  obtain ⟨x,hx,rfl⟩:=List.mem_map.1 ha
  rw [List.mem_singleton.1 hb] at e
  exact hn x hx e
 ·exact h
theorem mergeL_look (mg : List Sm→List Sm→List Sm) (ls : List Lb) : ∀ (a b : List Ser),RisS a→RisS b→lookL ls (mergeL mg a b)=both mg (lookL ls a) (lookL ls b)
 | [],b,_,_=>by rw [mergeL_nil']; rfl
 | x :: a,[],_,_=>by
  rw [mergeL_nil]
  show _=both mg _ none
  cases lookL ls (x :: a) <;> rfl
 | x :: a,y :: b,ha,hb=>by
  obtain ⟨ha1,ha2⟩:=List.pairwise_cons.1 ha
  obtain ⟨hb1,hb2⟩:=List.pairwise_cons.1 hb
  rw [mergeL_cons]
  split
  ·rename_i hxy
   have ih:=mergeL_look mg ls a (y :: b) ha2 hb
   conv=>lhs; unfold lookL
   conv=>rhs; rw [show lookL ls (x :: a)=if x.labels=ls then some x.samples else lookL ls a from rfl]
   by_cases e : x.labels=ls
   ·rw [if_pos e,if_pos e]
    have hn : lookL ls (y :: b)=none:=by
     rw [lookL_none]
     intro z hz e2
     have : cmpF x.labels z.labels < 0:=by
      rcases List.mem_cons.1 hz with rfl | hz
      ·exact hxy
      ·exact cmpF_lt_trans hxy (hb1 z hz)
     rw [e,e2,cmpF_is.self] at this
     omega
    rw [hn]; rfl
   ·rw [if_neg e,if_neg e,ih]
  ·rename_i hxy
   split
   ·rename_i h0
    have hl : x.labels=y.labels:=(cmpF_is.eq0 _ _).1 h0
    have ih:=mergeL_look mg ls a b ha2 hb2
    conv=>lhs; unfold lookL
    conv=>rhs; rw [show lookL ls (x :: a)=if x.labels=ls then some x.samples else lookL ls a from rfl,show lookL ls (y :: b)=if y.labels=ls then some y.samples else lookL ls b from rfl]
    by_cases e : y.labels=ls
    ·rw [if_pos e,if_pos e,if_pos (hl.trans e)]; rfl
    ·rw [if_neg e,if_neg e,if_neg (fun e2=>e (hl.symm.trans e2)),ih]
   ·rename_i h0
    have ih:=mergeL_look mg ls (x :: a) b ha hb2
    have hyx : cmpF y.labels x.labels < 0:=by
     have e1:=cmpF_is.anti x.labels y.labels
     have e2:=cmpF_is.rng x.labels y.labels
     omega
    conv=>lhs; unfold lookL
    conv=>rhs; rw [show lookL ls (y :: b)=if y.labels=ls then some y.samples else lookL ls b from rfl]
    by_cases e : y.labels=ls
    ·rw [if_pos e,if_pos e]
     have hn : lookL ls (x :: a)=none:=by
      rw [lookL_none]
      intro z hz e2
      have : cmpF y.labels z.labels < 0:=by
       rcases List.mem_cons.1 hz with rfl | hz
       ·exact hyx
       ·exact cmpF_lt_trans hyx (ha1 z hz)
      rw [e,e2,cmpF_is.self] at this
      omega
     rw [hn]; rfl
    ·rw [if_neg e,if_neg e,ih]
termination_by a b=>a.length + b.length
theorem sorted_ris {l : List Ser} (hs : l.Pairwise fun x y=>¬ cmpF y.labels x.labels < 0) (hd : DL l) : RisS l:=by
 unfold DL List.Nodup at hd
 rw [List.pairwise_map] at hd
 refine (hs.and hd).imp fun {x y} h=>?_
 have a:=cmpF_is.anti x.labels y.labels
 have r:=cmpF_is.rng x.labels y.labels
 have n : cmpF x.labels y.labels ≠ 0:=fun e=>h.2 ((cmpF_is.eq0 _ _).1 e)
 have:=h.1
 omega
end Go.PL
/-
  Plain laws: a head: what comes, and what is refused; what is cut off, and what stays; no program is in sight.
-/
namespace Go.PL
open Go
structure HOk (S : List Ser) : Prop where
 ris : RisS S
 len : S.length≤60
 each : ∀ x ∈ S,rightF x.labels=true∧okS x.samples=true∧x.samples ≠ []
theorem HOk.nil : HOk []:=⟨.nil,by simp,by simp⟩
end Go.PL
/-
  Contracts: a head's series: where labels stand; samples put together; a copy of its series.
-/
namespace Go.Proofs.YtkoalgjlkcaonaaGreatDoor
open Go.GK Go.PL Go.RowKit
set_option maxRecDepth 100000
theorem midE {s : Int} (n : Nat) (h : s=(n : Int)) (hn : n < 4611686018427387904) : IntKind.i64.wrap ((IntKind.u64.wrap (IntKind.i64.wrap s)).fdiv (2 ^ (min (1 : Int).toNat IntKind.u64.bits)))=((n / 2 : Nat) : Int):=by
 subst h
 have e0 : IntKind.i64.wrap (n : Int)=(n : Int):=wrap_id (by omega) (by omega)
 rw [e0]
 have e1 : IntKind.u64.wrap (n : Int)=(n : Int):=by rw [IntKind.wrap_u64]; omega
 rw [e1]
 have e2 : (n : Int).fdiv (2 ^ (min (1 : Int).toNat IntKind.u64.bits))=((n / 2 : Nat) : Int):=by
  show (n : Int).fdiv 2=_
  rw [Int.fdiv_eq_ediv_of_nonneg _ (by omega)]
  omega
 rw [e2,wrap_id (by omega) (by omega)]
theorem flat_len {α : Type} (L : List (List α)) (i : Nat) : (L.take i).flatten.length≤L.flatten.length:=by
 conv=>rhs; rw [← List.take_append_drop i L,List.flatten_append,List.length_append]
 omega
end Go.Proofs.YtkoalgjlkcaonaaGreatDoor
/-
  Plain laws: labels are written alike just if they are alike. No program is in sight.
-/
namespace Go.PL
open Go Go.GK

end Go.PL
/-
  Plain laws: an index: of each name, and what it says, the series that say so. No program is in sight.
-/
namespace Go.PL
open Go Go.GK

section
variable {α : Type}
def modA (k : ByteArray) (f : α→α) (d : α) : List (ByteArray × α)→List (ByteArray × α)
 | []=>[(k,f d)]
 | (k',a) :: r=>if k'=k then (k',f a) :: r else (k',a) :: modA k f d r
def getA (k : ByteArray) (d : α) : List (ByteArray × α)→α
 | []=>d
 | (k',a) :: r=>if k'=k then a else getA k d r
abbrev keysA (l : List (ByteArray × α)) : List ByteArray:=l.map (·.1)
theorem getA_mod (k k' : ByteArray) (f : α→α) (d : α) : ∀ l,getA k' d (modA k f d l)=if k'=k then f (getA k d l) else getA k' d l
 | []=>by
  unfold modA getA getA
  by_cases h : k=k'
  ·subst h; simp [getA]
  ·rw [if_neg h,if_neg fun e=>h e.symm]
 | (q,a) :: r=>by
  unfold modA
  by_cases h : q=k
  ·subst h
   rw [if_pos rfl]
   unfold getA
   by_cases h' : q=k'
   ·subst h'; rw [if_pos rfl,if_pos rfl,if_pos rfl]
   ·rw [if_neg h',if_neg h',if_neg fun e=>h' e.symm]
  ·rw [if_neg h]
   unfold getA
   rw [getA_mod k k' f d r]
   by_cases h' : q=k'
   ·subst h'; rw [if_pos rfl,if_pos rfl,if_neg h]
   ·rw [if_neg h',if_neg h',if_neg h]
theorem modA_new {k : ByteArray} {f : α→α} {d : α} : ∀ {l : List (ByteArray × α)},k ∉ keysA l→modA k f d l=l++[(k,f d)]
 | [],_=>rfl
 | (q,a) :: r,h=>by
  simp only [keysA,List.map_cons,List.mem_cons,not_or] at h
  unfold modA
  rw [if_neg fun e=>h.1 e.symm,modA_new (l:=r) h.2]
  rfl
theorem modA_old {k : ByteArray} {f : α→α} {d a : α} {l2 : List (ByteArray × α)} : ∀ {l1 : List (ByteArray × α)},k ∉ keysA l1→modA k f d (l1++(k,a) :: l2)=l1++(k,f a) :: l2
 | [],_=>by show modA k f d ((k,a) :: l2)=_; unfold modA; rw [if_pos rfl]; rfl
 | (q,x) :: r,h=>by
  simp only [keysA,List.map_cons,List.mem_cons,not_or] at h
  show modA k f d ((q,x) :: (r++(k,a) :: l2))=_
  unfold modA
  rw [if_neg fun e=>h.1 e.symm,modA_old (l1:=r) h.2]
  rfl
theorem splitA {k : ByteArray} : ∀ {l : List (ByteArray × α)},k ∈ keysA l→∃ l1 a l2,l=l1++(k,a) :: l2∧k ∉ keysA l1
 | [],h=>by cases h
 | (q,a) :: r,h=>by
  by_cases e : q=k
  ·subst e; exact ⟨[],a,r,rfl,by simp⟩
  ·have h' : k ∈ keysA r:=by
    simp only [keysA,List.map_cons,List.mem_cons] at h
    rcases h with h | h
    ·exact absurd h.symm e
    ·exact h
   obtain ⟨l1,b,l2,rfl,hn⟩:=splitA h'
   refine ⟨(q,a) :: l1,b,l2,rfl,?_⟩
   simp only [keysA,List.map_cons,List.mem_cons,not_or]
   exact ⟨fun e'=>e e'.symm,hn⟩
theorem keysA_mod (k : ByteArray) (f : α→α) (d : α) (l : List (ByteArray × α)) : (k ∈ keysA l→keysA (modA k f d l)=keysA l)∧(k ∉ keysA l→keysA (modA k f d l)=keysA l++[k]):=by
 refine ⟨fun h=>?_,fun h=>by rw [modA_new h]; simp [keysA]⟩
 obtain ⟨l1,a,l2,rfl,hn⟩:=splitA h
 rw [modA_old hn]
 simp [keysA]
theorem keysA_mem (k k' : ByteArray) (f : α→α) (d : α) (l : List (ByteArray × α)) : k' ∈ keysA (modA k f d l) ↔ k' ∈ keysA l∨k'=k:=by
 by_cases h : k ∈ keysA l
 ·rw [(keysA_mod k f d l).1 h]
  exact ⟨.inl,fun h'=>h'.elim id fun e=>e ▸ h⟩
 ·rw [(keysA_mod k f d l).2 h]
  simp
theorem keysA_nodup {k : ByteArray} {f : α→α} {d : α} {l : List (ByteArray × α)} (h : (keysA l).Nodup) : (keysA (modA k f d l)).Nodup:=by
 by_cases hk : k ∈ keysA l
 ·rw [(keysA_mod k f d l).1 hk]; exact h
 ·rw [(keysA_mod k f d l).2 hk]
  refine List.nodup_append.2 ⟨h,by simp,fun a ha b hb=>?_⟩
  rw [List.mem_singleton.1 hb]
  exact fun e=>hk (e ▸ ha)
theorem keysA_len (k : ByteArray) (f : α→α) (d : α) (l : List (ByteArray × α)) : (modA k f d l).length≤l.length + 1:=by
 have h1:=keysA_mod k f d l
 by_cases h : k ∈ keysA l
 ·have:=congrArg List.length (h1.1 h); simp only [keysA,List.length_map] at this; omega
 ·have:=congrArg List.length (h1.2 h); simp only [keysA,List.length_map,List.length_append,List.length_singleton] at this; omega
end

abbrev In1:=List (ByteArray × List Int)
abbrev Ix:=List (ByteArray × In1)
def addI (i : Nat) (L : Ix) (y : Lb) : Ix:=modA y.name (fun M=>modA y.value (fun r=>r++[(i : Int)]) [] M) [] L
def rowI (L : Ix) (n v : ByteArray) : List Int:=getA v [] (getA n [] L)
structure IxOk (P : Nat→ByteArray→ByteArray→Prop) (N : Nat) (L : Ix) : Prop where
 nd : (keysA L).Nodup
 nd2 : ∀ x ∈ L,(keysA x.2).Nodup
 names : ∀ n,n ∈ keysA L ↔ ∃ i v,i < N∧P i n v
 vals : ∀ n v,v ∈ keysA (getA n [] L) ↔ ∃ i,i < N∧P i n v
 rows : ∀ n v,(rowI L n v).Pairwise (· < ·)∧∀ z : Int,z ∈ rowI L n v ↔ ∃ i : Nat,z=i∧i < N∧P i n v
theorem mem_modA {α : Type} {k : ByteArray} {f : α→α} {d : α} {x : ByteArray × α} : ∀ {l : List (ByteArray × α)},x ∈ modA k f d l→x ∈ l∨∃ a,x=(k,f a)∧(a=d∨(k,a) ∈ l)
 | [],h=>by
  simp only [modA,List.mem_singleton] at h
  exact .inr ⟨d,h,.inl rfl⟩
 | (q,a) :: r,h=>by
  unfold modA at h
  split at h
  ·rename_i e
   subst e
   rcases List.mem_cons.1 h with rfl | h
   ·exact .inr ⟨a,rfl,.inr (by simp)⟩
   ·exact .inl (by simp [h])
  ·rcases List.mem_cons.1 h with rfl | h
   ·exact .inl (by simp)
   ·rcases mem_modA h with h | ⟨b,e,h | h⟩
    ·exact .inl (by simp [h])
    ·exact .inr ⟨b,e,.inl h⟩
    ·exact .inr ⟨b,e,.inr (by simp [h])⟩
theorem IxOk.nil : IxOk (fun _ _ _=>False) 0 []:=by
 refine ⟨by simp [keysA],by simp,fun n=>?_,fun n v=>?_,fun n v=>⟨.nil,fun z=>?_⟩⟩
 ·simp [keysA]
 ·simp [keysA,getA]
 ·simp [rowI,getA]
theorem IxOk.add {P : Nat→ByteArray→ByteArray→Prop} {i : Nat} {L : Ix} (h : IxOk P (i + 1) L) (y : Lb) (hy : ¬ P i y.name y.value) : IxOk (fun j n v=>P j n v∨(j=i∧n=y.name∧v=y.value)) (i + 1) (addI i L y):=by
 have hg : ∀ n,getA n [] (addI i L y)=if n=y.name then modA y.value (fun r=>r++[(i : Int)]) [] (getA y.name [] L) else getA n [] L:=fun n=>getA_mod _ _ _ _ _
 have hr : ∀ n v,rowI (addI i L y) n v=if n=y.name∧v=y.value then rowI L n v++[(i : Int)] else rowI L n v:=by
  intro n v
  unfold rowI
  rw [hg]
  by_cases h1 : n=y.name
  ·rw [if_pos h1,getA_mod]
   by_cases h2 : v=y.value
   ·rw [if_pos h2,if_pos ⟨h1,h2⟩,h1,h2]
   ·rw [if_neg h2,if_neg fun e=>h2 e.2,h1]
  ·rw [if_neg h1,if_neg fun e=>h1 e.1]
 refine ⟨keysA_nodup h.nd,fun x hx=>?_,fun n=>?_,fun n v=>?_,fun n v=>?_⟩
 ·rcases mem_modA hx with hx | ⟨a,rfl,rfl | ha⟩
  ·exact h.nd2 x hx
  ·exact keysA_nodup (by simp [keysA])
  ·exact keysA_nodup (h.nd2 _ ha)
 ·rw [addI,keysA_mem,h.names]
  constructor
  ·rintro (⟨j,v,h1,h2⟩ | rfl)
   ·exact ⟨j,v,h1,.inl h2⟩
   ·exact ⟨i,y.value,Nat.lt_succ_self i,.inr ⟨rfl,rfl,rfl⟩⟩
  ·rintro ⟨j,v,h1,h2 | ⟨_,rfl,_⟩⟩
   ·exact .inl ⟨j,v,h1,h2⟩
   ·exact .inr rfl
 ·rw [hg]
  by_cases h1 : n=y.name
  ·rw [if_pos h1,keysA_mem,h.vals]
   subst h1
   constructor
   ·rintro (⟨j,h1,h2⟩ | rfl)
    ·exact ⟨j,h1,.inl h2⟩
    ·exact ⟨i,Nat.lt_succ_self i,.inr ⟨rfl,rfl,rfl⟩⟩
   ·rintro ⟨j,h1,h2 | ⟨_,_,rfl⟩⟩
    ·exact .inl ⟨j,h1,h2⟩
    ·exact .inr rfl
  ·rw [if_neg h1,h.vals]
   constructor
   ·rintro ⟨j,h1,h2⟩; exact ⟨j,h1,.inl h2⟩
   ·rintro ⟨j,h2,h3 | ⟨_,e,_⟩⟩
    ·exact ⟨j,h2,h3⟩
    ·exact absurd e h1
 ·obtain ⟨r1,r2⟩:=h.rows n v
  rw [hr]
  by_cases h1 : n=y.name∧v=y.value
  ·rw [if_pos h1]
   obtain ⟨rfl,rfl⟩:=h1
   refine ⟨List.pairwise_append.2 ⟨r1,List.pairwise_singleton _ _,fun a ha b hb=>?_⟩,fun z=>?_⟩
   ·rw [List.mem_singleton.1 hb]
    obtain ⟨j,rfl,hj,hp⟩:=(r2 a).1 ha
    have : j ≠ i:=fun e=>hy (e ▸ hp)
    omega
   ·rw [List.mem_append,r2,List.mem_singleton]
    constructor
    ·rintro (⟨j,h1,h2,h3⟩ | h1)
     ·exact ⟨j,h1,h2,.inl h3⟩
     ·exact ⟨i,h1,Nat.lt_succ_self i,.inr ⟨rfl,rfl,rfl⟩⟩
    ·rintro ⟨j,h1,h2,h3 | ⟨h3,_⟩⟩
     ·exact .inl ⟨j,h1,h2,h3⟩
     ·exact .inr (by rw [h1,h3])
  ·rw [if_neg h1]
   refine ⟨r1,fun z=>?_⟩
   rw [r2]
   constructor
   ·rintro ⟨j,h1,h2,h3⟩; exact ⟨j,h1,h2,.inl h3⟩
   ·rintro ⟨j,h3,h4,h5 | ⟨_,e⟩⟩
    ·exact ⟨j,h3,h4,h5⟩
    ·exact absurd e h1
theorem IxOk.congr {P Q : Nat→ByteArray→ByteArray→Prop} {N M : Nat} {L : Ix} (h : IxOk P N L) (e : ∀ i n v,(i < N∧P i n v) ↔ (i < M∧Q i n v)) : IxOk Q M L:=by
 refine ⟨h.nd,h.nd2,fun n=>?_,fun n v=>?_,fun n v=>⟨(h.rows n v).1,fun z=>?_⟩⟩
 ·rw [h.names]
  exact ⟨fun ⟨i,v,hp⟩=>⟨i,v,(e i n v).1 hp⟩,fun ⟨i,v,hp⟩=>⟨i,v,(e i n v).2 hp⟩⟩
 ·rw [h.vals]
  exact ⟨fun ⟨i,hp⟩=>⟨i,(e i n v).1 hp⟩,fun ⟨i,hp⟩=>⟨i,(e i n v).2 hp⟩⟩
 ·rw [(h.rows n v).2]
  exact ⟨fun ⟨i,hz,hp⟩=>⟨i,hz,(e i n v).1 hp⟩,fun ⟨i,hz,hp⟩=>⟨i,hz,(e i n v).2 hp⟩⟩
def RowsLe (K : Nat) (L : Ix) : Prop:=∀ x ∈ L,∀ y ∈ x.2,y.2.length≤K
theorem RowsLe.add {K : Nat} {L : Ix} (h : RowsLe K L) (i : Nat) (y : Lb) : RowsLe (K + 1) (addI i L y):=fun x hx z hz=>by
 have h1 : ∀ M : In1,(∀ z ∈ M,z.2.length≤K)→∀ z ∈ modA y.value (fun r=>r++[(i : Int)]) [] M,z.2.length≤K + 1:=fun M hM z hz=>by
  rcases mem_modA hz with hz | ⟨a,rfl,rfl | ha⟩
  ·have:=hM z hz; omega
  ·simp
  ·have:=hM _ ha; simp at this ⊢; omega
 rcases mem_modA hx with hx | ⟨a,rfl,rfl | ha⟩
 ·have:=h x hx z hz; omega
 ·exact h1 [] (by simp) z hz
 ·exact h1 a (h _ ha) z hz
end Go.PL
/-
  Plain laws: sets of series' numbers, as rising lists; what an index finds. No program is in sight.
-/
namespace Go.PL
open Go Go.GK

def LenLe (K : Nat) (L : Ix) : Prop:=L.length≤K∧∀ x ∈ L,x.2.length≤K
theorem LenLe.add {K : Nat} {L : Ix} (h : LenLe K L) (i : Nat) (y : Lb) : LenLe (K + 1) (addI i L y):=by
 refine ⟨Nat.le_trans (keysA_len _ _ _ _) (by have:=h.1; omega),fun x hx=>?_⟩
 rcases mem_modA hx with hx | ⟨a,rfl,rfl | ha⟩
 ·have:=h.2 x hx; omega
 ·exact Nat.le_trans (keysA_len _ _ _ _) (by simp)
 ·exact Nat.le_trans (keysA_len _ _ _ _) (by have:=h.2 _ ha; simp at this; omega)
end Go.PL
