/-
  The ghost machine: own rows that nobody writes any more; nil slices.
-/
import Derived.Test.YtaaoljhfepmkjaaDoorGKe
import Derived.Deep.Slices
import Derived.ProofKit
import Derived.ChangeSame
import Derived.ChangeOld
import Derived.OpenShut

namespace Go.GK
open Go.RowKit

mutual
/-- An own row read as one that nobody writes. -/
def frz (id sz : Nat) (rows : List (List GV)) : GV → GV
  | .o j => bif Nat.beq j id then .sl sz rows else .o j
  | .agg cs => .agg (frzL id sz rows cs)
  | .tup cs => .tup (frzL id sz rows cs)
  | .fn f as cs => .fn f (frzL id sz rows as) (frzL id sz rows cs)
  | .ifc t x => .ifc t (frz id sz rows x)
  | .v x => .v x
  | .b c => .b c
  | .p j off => .p j off
  | .e j z i off => .e j z i off
  | .r cs => .r cs
  | .sl z r => .sl z r
def frzL (id sz : Nat) (rows : List (List GV)) : List GV → List GV
  | [] => []
  | g :: r => frz id sz rows g :: frzL id sz rows r
end

def frzE (id sz : Nat) (rows : List (List GV)) : Env → Env
  | [] => []
  | (t, g) :: r => (t, frz id sz rows g) :: frzE id sz rows r

def frzR (id sz : Nat) (rows : List (List GV)) : Res → Res
  | .blk ty cs => .blk ty (frzL id sz rows cs)
  | .row ty z rs => .row ty z rs
  | .ob o => .ob o
  | .ln sz n => .ln sz n
  | .sub i z lo n => .sub i z lo n
  | .mp kd es => .mp kd (es.map fun x => (x.1, frz id sz rows x.2))
  | .mr kd es left cur => .mr kd (es.map fun x => (x.1, frz id sz rows x.2)) left cur
  | .itr m => .itr m
  | .me kd es k st => .me kd (es.map fun x => (x.1, frz id sz rows x.2)) k st
  | .mre kd es left cur k st => .mre kd (es.map fun x => (x.1, frz id sz rows x.2)) left cur k st
  | .ab A => .ab A

def frzH (id sz : Nat) (rows : List (List GV)) : Heap → Heap
  | [] => []
  | (j, x) :: r => (j, frzR id sz rows x) :: frzH id sz rows r

theorem frzL_get (id sz : Nat) (rows : List (List GV)) : ∀ (l : List GV) (j : Nat), (frzL id sz rows l)[j]? = (l[j]?).map (frz id sz rows)
  | [], j => by simp [frzL]
  | g :: r, 0 => by simp [frzL]
  | g :: r, j + 1 => by simp [frzL, frzL_get id sz rows r j]
theorem frzL_len (id sz : Nat) (rows : List (List GV)) : ∀ (l : List GV), (frzL id sz rows l).length = l.length
  | [] => rfl
  | _ :: r => by simp [frzL, frzL_len id sz rows r]

theorem frzE_look (id sz : Nat) (rows : List (List GV)) : ∀ (ρ : Env) (t : Nat), look (frzE id sz rows ρ) t = (look ρ t).map (frz id sz rows)
  | [], t => rfl
  | (s, g) :: r, t => by
    simp only [frzE, look]
    cases Nat.beq s t with
    | true => rfl
    | false => exact frzE_look id sz rows r t

theorem frzH_mem {id sz : Nat} {rows : List (List GV)} : ∀ {σ : Heap} {x : Nat × Res}, x ∈ frzH id sz rows σ → ∃ y ∈ σ, x = (y.1, frzR id sz rows y.2)
  | [], _, h => by simp [frzH] at h
  | (j, y) :: r, x, h => by
    simp only [frzH, List.mem_cons] at h
    rcases h with rfl | h
    · exact ⟨_, List.mem_cons_self, rfl⟩
    · obtain ⟨z, hz, e⟩ := frzH_mem h
      exact ⟨z, List.mem_cons_of_mem _ hz, e⟩

theorem frzH_blks {H H' : Hid} (e1 : H'.bl = H.bl) (e2 : H'.sv = H.sv) {id sz : Nat} {rows : List (List GV)} : ∀ (σ : Heap), blks H' (frzH id sz rows σ) = blks H σ
  | [] => rfl
  | (j, y) :: r => by
    simp only [frzH, blks_cons, frzH_blks e1 e2 r]
    congr 1
    cases y <;> simp [frzR, blocks, e1, e2]

/-- Own slices, other things as they are. -/
theorem Is.frz {H H' : Hid} (hro : ∀ b o, H.ro b = some o → H'.ro b = some o) (e1 : H'.bl = H.bl) (e2 : H'.sv = H.sv) (e3 : H'.n = H.n) {id sz : Nat} {rows : List (List GV)} (hs : IsR H'.ro (.sl sz rows) (H.sv id)) {g : GV} {u : Value} (h : Is H g u) : Is H' (GK.frz id sz rows g) u := by
  have hle : H.le H' := ⟨Nat.le_of_eq e3.symm, hro, fun i _ => by rw [e1], fun i _ => by rw [e2]⟩
  have hL : ∀ {cs : List GV} {us : Array Value}, (∀ (j : Nat) (g : GV), cs[j]? = some g → Is H' (GK.frz id sz rows g) (us.getD j undef)) → ∀ (j : Nat) (g : GV), (frzL id sz rows cs)[j]? = some g → Is H' g (us.getD j undef) := by
    intro cs us hh j g hj
    rw [frzL_get] at hj
    cases hc : cs[j]? with
    | none => rw [hc] at hj; cases hj
    | some x => rw [hc] at hj; simp at hj; subst hj; exact hh j x hc
  induction h with
  | ro hr =>
    have hR : ∀ {g : GV} {u : Value}, IsR H.ro g u → Is H' (GK.frz id sz rows g) u := by
      intro g u hr
      induction hr with
      | v x => exact .ro (.v x)
      | b c => exact .ro (.b c)
      | r us h1 h2 _ => exact .ro ((IsR.r us h1 h2).mono hro)
      | slnil => exact .ro .slnil
      | sl us h0 hc hm h1 h2 h3 _ => exact .ro ((IsR.sl us h0 hc hm h1 h2 h3).mono hro)
      | agg hl _ ih => exact .agg (by rw [frzL_len]; exact hl) (hL ih)
      | tup hl _ ih => exact .tup (by rw [frzL_len]; exact hl) (hL ih)
      | fn hl _ hl' _ ih ih' => exact .fn (by rw [frzL_len]; exact hl) (hL ih) (by rw [frzL_len]; exact hl') (hL ih')
      | ifc _ ih => exact .ifc ih
    exact hR hr
  | p hid => exact (Is.p hid).mono hle
  | e hid hs => exact (Is.e hid hs).mono hle
  | @o j u hid hsj how =>
    simp only [GK.frz]
    cases hb : Nat.beq j id with
    | true =>
      have := beq_eq hb
      subst this
      rw [hsj] at hs
      exact .ro hs
    | false => exact (Is.o hid hsj how).mono hle
  | agg hl _ ih => exact .agg (by rw [frzL_len]; exact hl) (hL ih)
  | tup hl _ ih => exact .tup (by rw [frzL_len]; exact hl) (hL ih)
  | fn hl _ hl' _ ih ih' => exact .fn (by rw [frzL_len]; exact hl) (hL ih) (by rw [frzL_len]; exact hl') (hL ih')
  | ifc _ ih => exact .ifc ih

theorem esIs_frz {H H' : Hid} {id sz : Nat} {rows : List (List GV)} (hf : ∀ {g : GV} {u : Value}, Is H g u → Is H' (GK.frz id sz rows g) u) : ∀ {es : List (Value × GV)} {l : List MapEntry}, esIs H es l → esIs H' (es.map fun x => (x.1, GK.frz id sz rows x.2)) l
  | [], [], _ => trivial
  | (_, _) :: r, _ :: _, h => ⟨h.1, hf h.2.1, esIs_frz hf (es := r) h.2.2⟩
  | [], _ :: _, h => h.elim
  | _ :: _, [], h => h.elim
theorem MapOk.frz {H H' : Hid} {id sz : Nat} {rows : List (List GV)} (hf : ∀ {g : GV} {u : Value}, Is H g u → Is H' (GK.frz id sz rows g) u) {kd : Option IntKind} {es : List (Value × GV)} {arr : Array MapEntry} {clock : Nat} (h : MapOk H kd es arr clock) : MapOk H' kd (es.map fun x => (x.1, GK.frz id sz rows x.2)) arr clock :=
  ⟨esIs_frz hf h.is, h.sorts, h.st⟩

/-- A row of cells, read as one that nobody writes. -/
theorem RowOk.sl {ro ro' : Nat → Option Obj} (hro : ∀ b o, ro b = some o → ro' b = some o) {w : World} {ty sz : Nat} {rows : List (List GV)} {xs : List Value} {v : Value} (hr : RowOk ro sz rows xs) (ho : w.ownsRow 0 ty sz v rows.length xs) (hb : ∀ b, v.ownBlock = some b → ro' b = w.heap[b]?) : IsR ro' (.sl sz rows) v := by
  obtain ⟨hxl, hor⟩ := ho
  rcases hor with ⟨rfl, hn⟩ | ⟨g, cap, cur, rfl, _, hw, hcap, hmax, hcs, htk⟩
  · have : rows = [] := List.length_eq_zero_iff.1 hn
    subst this
    exact .slnil
  · have hbg := hb g rfl
    rw [hw] at hbg
    have hlk : ∀ (i : Nat) (row : List GV), rows[i]? = some row → ∀ (j : Nat) (x : GV), row[j]? = some x → i * sz + j < rows.length * sz := by
      intro i row hi j x hj
      have h1 := (List.getElem?_eq_some_iff.1 hi).1
      have h2 := (List.getElem?_eq_some_iff.1 hj).1
      rw [hr.each row (List.mem_of_getElem? hi)] at h2
      have : (i + 1) * sz ≤ rows.length * sz := Nat.mul_le_mul_right _ h1
      rw [Nat.add_mul, Nat.one_mul] at this
      omega
    refine .sl (fun i j => (xs[i * sz + j]?).getD (.int .i64 0)) hr.each hcap hmax (fun i row hi j x hj => ?_) (fun i row hi j x hj => ?_) fun i j => ?_
    · obtain ⟨u, hu, _⟩ := hr.is i row hi j x hj
      have hlt := hlk i row hi j x hj
      have hc : cur[i * sz + j]? = some u := by
        rw [← htk, List.getElem?_take, if_pos hlt] at hu
        simpa using hu
      have hbk : ∀ (n : Nat), cur[n]? = some u → roCell ro' ⟨g, n, none⟩ = some u := fun n hn => by simp [roCell, hbg, hn]
      have hu' : (xs[i * sz + j]?).getD (.int .i64 0) = u := by rw [hu]; rfl
      rw [hu']
      unfold Addr.add
      split
      · rename_i h0; exact hbk 0 (by rw [show i * sz + j = 0 by simpa using h0] at hc; exact hc)
      · simpa using hbk _ hc
    · obtain ⟨u, hu, hi'⟩ := hr.is i row hi j x hj
      simp only [hu, Option.getD_some]
      exact hi'.mono hro
    · cases hx : xs[i * sz + j]? with
      | none => rfl
      | some u => exact hr.one u (List.mem_of_getElem? hx)

section
variable {cx : Cx} {T : Post}

/-- A state said otherwise. -/
theorem JK.upd {k : List It} {s : St} (s' : St) (h : ∀ H a w, GlOk cx.pg H → Sim cx H s w → ActOk cx H s.ρ a → ∃ H', GlOk cx.pg H' ∧ Sim cx H' s' w ∧ ActOk cx H' s'.ρ a) (hk : JK cx T k s') : JK cx T k s := fun H a w hg hs ha => by
  obtain ⟨H', hg', hs', ha'⟩ := h H a w hg hs ha
  exact hk H' a w hg' hs' ha'

/-- AN OWN ROW IS WRITTEN NO MORE. -/
theorem JK.freeze {k : List It} {s : St} (id : Nat) {ty sz : Nat} {rows : List (List GV)} (hl : hlook s.σ id = some (.row ty sz rows)) (h : nfH (frzH id sz rows (hdel s.σ id)) fun σ => JK cx T k ⟨frzE id sz rows s.ρ, σ, s.n⟩) : JK cx T k s := by
  rw [nfH_eq] at h
  refine JK.upd _ (fun H a w hg hs ha => ?_) h
  obtain ⟨l1, l2, e1, e2, _⟩ := hlook_split hl
  have hmem := hlook_mem hl
  obtain ⟨xs, hown, hrow⟩ := hs.sat.holds _ hmem
  let ro' : Nat → Option Obj := fun b => if (H.sv id).ownBlock = some b then w.heap[b]? else H.ro b
  have hfree : ∀ b, (H.sv id).ownBlock = some b → H.ro b = none := fun b hb => hs.sat.free b (List.mem_flatMap.2 ⟨_, hmem, by simp [blocks, hb]⟩)
  have hro : ∀ b o, H.ro b = some o → ro' b = some o := by
    intro b o ho
    show (if _ then _ else _) = _
    rw [if_neg (fun hb => by rw [hfree b hb] at ho; cases ho)]
    exact ho
  let H' : Hid := { H with ro := ro' }
  have hle : H.le H' := ⟨Nat.le_refl _, hro, fun _ _ => rfl, fun _ _ => rfl⟩
  have hsl : IsR ro' (.sl sz rows) (H.sv id) := hrow.sl hro hown (fun b hb => by show (if _ then _ else _) = _; rw [if_pos hb])
  have hfz : ∀ {g : GV} {u : Value}, Is H g u → Is H' (frz id sz rows g) u := fun hi => Is.frz (H' := H') hro rfl rfl rfl hsl hi
  have hfr := hs.fr
  have hnd := hs.sat.nodup
  have hbl : blks H' (frzH id sz rows (hdel s.σ id)) = blks H (l1 ++ l2) := by rw [e2]; exact frzH_blks rfl rfl _
  rw [e1, blks_append, blks_cons] at hnd
  have n1 := List.nodup_append.1 hnd
  have n2 := List.nodup_append.1 n1.2.1
  have hin : ∀ b ∈ blks H (l1 ++ l2), b ∈ blks H s.σ := fun b hb => by
    rw [e1, blks_append, blks_cons]
    rw [blks_append] at hb
    rcases List.mem_append.1 hb with h1 | h1 <;> simp [h1]
  have hnin : ∀ b ∈ blks H (l1 ++ l2), (H.sv id).ownBlock ≠ some b := fun b hb hc => by
    have hc' : b ∈ blocks H (id, .row ty sz rows) := by simp [blocks, hc]
    rw [blks_append] at hb
    rcases List.mem_append.1 hb with h1 | h1
    · exact n1.2.2 b h1 b (by simp [hc']) rfl
    · exact n2.2.2 b hc' b h1 rfl
  refine ⟨H', fun g gv hgv => (hg g gv hgv).mono hro, ⟨hs.n, ⟨fun b o ho => ?_, fun x hx => ?_, ?_, fun b hb => ?_, fun x hx => ?_⟩, ?_⟩, ⟨fun t g hlk => ?_, ha.size, ha.defers⟩⟩
  · have ho' : (if (H.sv id).ownBlock = some b then w.heap[b]? else H.ro b) = some o := ho
    split at ho'
    · exact ho'
    · exact hs.sat.ro b o ho'
  · obtain ⟨y, hy, rfl⟩ := frzH_mem hx
    rw [e2] at hy
    have hy' : y ∈ s.σ := by
      rw [e1]
      rcases List.mem_append.1 hy with h1 | h1 <;> simp [h1]
    have hh := hs.sat.holds y hy'
    obtain ⟨j, r⟩ := y
    cases r with
    | blk ty cs =>
      obtain ⟨us, hw, hlen, hi⟩ := hh
      refine ⟨us, hw, by rw [frzL_len]; exact hlen, fun j g hj => ?_⟩
      rw [frzL_get] at hj
      cases hc : cs[j]? with
      | none => rw [hc] at hj; cases hj
      | some x => rw [hc] at hj; simp at hj; subst hj; exact hfz (hi j x hc)
    | row ty z rs => obtain ⟨ys, h1, h2⟩ := hh; exact ⟨ys, h1, h2.mono hro⟩
    | ob o => exact hh
    | ln z n => exact hh
    | sub i z lo n => exact hh
    | mp kd es =>
      obtain ⟨b, arr, clock, h1, h2, h3⟩ := hh
      exact ⟨b, arr, clock, h1, h2, h3.frz hfz⟩
    | mr kd es left cur =>
      obtain ⟨b, arr, clock, seen, h1, h2, h3, h4, h5⟩ := hh
      exact ⟨b, arr, clock, seen, h1, h2, h3, h4.frz hfz, h5⟩
    | itr m => exact hh
    | me kd es k st =>
      obtain ⟨h0, b, arr, clock, h1, h2, h3, h4⟩ := hh
      exact ⟨h0, b, arr, clock, h1, h2, h3.frz hfz, h4⟩
    | ab A => exact A.mono _ _ _ _ _ hro hh
    | mre kd es left cur k st =>
      obtain ⟨h0, b, arr, clock, seen, h1, h2, h3, h4, h5⟩ := hh
      exact ⟨h0, b, arr, clock, seen, h1, h2, h3, h4.frz hfz, h5⟩
  · rw [hbl, blks_append]
    exact List.nodup_append.2 ⟨n1.1, n2.2.1, fun b hb c hc e => n1.2.2 b hb c (by simp [hc]) e⟩
  · rw [hbl] at hb
    show (if _ then _ else _) = _
    rw [if_neg (hnin b hb)]
    exact hs.sat.free b (hin b hb)
  · obtain ⟨y, hy, rfl⟩ := frzH_mem hx
    rw [e2] at hy
    refine hs.sat.ids y ?_
    rw [e1]
    rcases List.mem_append.1 hy with h1 | h1 <;> simp [h1]
  · refine ⟨hfr.os, hfr.tape, hfr.output, hfr.size, hfr.keep, fun b hb => ?_, fun b h1 h2 => ?_, hfr.le.trans hle⟩
    · rw [hbl] at hb
      exact hfr.own b (hin b hb)
    · have h2' : (if (H.sv id).ownBlock = some b then w.heap[b]? else H.ro b) ≠ none := h2
      split at h2'
      · rename_i hb
        exact hfr.own b (List.mem_flatMap.2 ⟨_, hmem, by simp [blocks, hb]⟩)
      · exact hfr.fro b h1 h2'
  · rw [frzE_look] at hlk
    cases hc : look s.ρ t with
    | none => rw [hc] at hlk; cases hlk
    | some x => rw [hc] at hlk; simp at hlk; subst hlk; exact hfz (ha.env t x hc)
end
end Go.GK


namespace Go.GK
open Go.RowKit

section
variable {cx : Cx} {T : Post}

theorem EnvOk.cons {H : Hid} {ρ : Env} {a : Act} (h : EnvOk H ρ a) {t : Nat} {g : GV} (hg : Is H g (a.tmps.getD t undef)) : EnvOk H ((t, g) :: ρ) a := by
  intro x g' hx
  unfold look at hx
  cases hb : Nat.beq t x with
  | true => rw [hb] at hx; have := beq_eq hb; subst this; simp at hx; subst hx; exact hg
  | false => rw [hb] at hx; exact h x g' (by simpa using hx)

/-- A nil slice is an own row without elements. -/
theorem JK.ownNil {k : List It} {s : St} (t ty sz : Nat) (hl : look s.ρ t = some (.v (.slice none 0 0))) (h : nfN (s.n + 1) fun m => JK cx T k ⟨(t, .o s.n) :: s.ρ, (s.n, .row ty sz []) :: s.σ, m⟩) : JK cx T k s := by
  rw [nfN_eq] at h
  refine JK.upd _ (fun H a w hg hs ha => ?_) h
  have hle := H.le_more 0 (.slice none 0 0)
  have hv : a.tmps.getD t undef = .slice none 0 0 := (ha.env t _ hl).inv_v
  have e : (H.more 0 (.slice none 0 0)).sv s.n = .slice none 0 0 := by simp [Hid.more, hs.n]
  refine ⟨H.more 0 (.slice none 0 0), hg.mono hle, hs.grow hle rfl (by simp [Hid.more, hs.n]) (Below.refl _ _) ?_ (by simp [blocks, e, Value.ownBlock]) (by simp [blocks, e, Value.ownBlock]) _, ⟨((ha.mono hle).env).cons ?_, ha.size, ha.defers⟩⟩
  · exact ⟨[], ⟨by simp, .inl ⟨e, rfl⟩⟩, ⟨by simp, by simp, by simp, by simp⟩⟩
  · rw [hv]
    exact .o (by simp [Hid.more, hs.n]) e rfl

/-- A nil slice is one that nobody writes. -/
theorem JK.roNil {k : List It} {s : St} (t sz : Nat) (hl : look s.ρ t = some (.v (.slice none 0 0))) (h : JK cx T k ⟨(t, .sl sz []) :: s.ρ, s.σ, s.n⟩) : JK cx T k s := by
  refine JK.upd _ (fun H a w hg hs ha => ⟨H, hg, hs.ρ _, ⟨ha.env.cons ?_, ha.size, ha.defers⟩⟩) h
  rw [(ha.env t _ hl).inv_v]
  exact .ro .slnil

theorem IsR.sl_len {ro : Nat → Option Obj} {sz : Nat} {rows : List (List GV)} {u : Value} (h : IsR ro (.sl sz rows) u) : rows.length ≤ maxLen ∧ ∀ row ∈ rows, row.length = sz := by
  cases h with
  | slnil => simp
  | sl us h0 hc hm h1 h2 h3 => exact ⟨Nat.le_trans hc hm, h0⟩

theorem JK.len {k : List It} {s : St} (t : Nat) {sz : Nat} {rows : List (List GV)} (hl : look s.ρ t = some (.sl sz rows)) (h : rows.length ≤ maxLen → (∀ row ∈ rows, row.length = sz) → JK cx T k s) : JK cx T k s := fun H a w hg hs ha => by
  have := ha.env t _ hl
  cases this with
  | ro hr => exact h hr.sl_len.1 hr.sl_len.2 H a w hg hs ha

theorem JK.lenOwn {k : List It} {s : St} (id : Nat) {ty sz : Nat} {rows : List (List GV)} (hl : hlook s.σ id = some (.row ty sz rows)) (h : rows.length ≤ maxLen → (∀ row ∈ rows, row.length = sz) → JK cx T k s) : JK cx T k s := fun H a w hg hs ha => by
  obtain ⟨xs, ⟨_, hor⟩, hrow⟩ := hs.sat.holds _ (hlook_mem hl)
  refine h ?_ hrow.each H a w hg hs ha
  rcases hor with ⟨_, hn⟩ | ⟨g, cap, cur, _, _, _, hcap, hmax, _⟩
  · rw [hn]; simp
  · exact Nat.le_trans hcap hmax

/-- The same of arguments. -/
theorem Ct.len {p : Pg} {f : FuncId} {n0 : Nat} {args : List GV} {σ : Heap} {Q : GV → Heap → Nat → Prop} (j : Nat) {sz : Nat} {rows : List (List GV)} (hj : args[j]? = some (.sl sz rows)) (h : rows.length ≤ maxLen → (∀ row ∈ rows, row.length = sz) → Ct p f n0 args σ Q) : Ct p f n0 args σ Q := fun H us w hn hg hc hs => by
  have := hc.2 j _ hj
  cases this with
  | ro hr => exact h hr.sl_len.1 hr.sl_len.2 H us w hn hg hc hs

/-- A bool is handed back. -/
theorem Ct.bool {p : Pg} {f : FuncId} {args : List GV} {σ : Heap} {c : Bool} (h : Ct p f 0 args σ fun g _ _ => g = .v (.bool c) ∨ g = .b c) : Ct p f 0 args σ (Val fun g => g = .b c) := fun H us w hn hg hc hs => by
  refine Calls.mono (h H us w hn hg hc hs) (fun e w' he => ?_)
  obtain ⟨u, g, H', σ', rfl, hi, hs', hfr, hq⟩ := he
  have hu : u = .bool c := by
    rcases hq with rfl | rfl
    · exact hi.inv_v
    · exact hi.inv_b
  subst hu
  have hpart := hs'.part (f := id) (n := 0) (τ := []) trivial rfl rfl
  refine ⟨_, .b c, H'.via id 0, [], rfl, .ro (.b c), hpart.1, ⟨hfr.os, hfr.tape, hfr.output, hfr.size, hfr.keep, by simp [blks], hfr.fro, ⟨by rw [hn]; exact Nat.le_refl _, hfr.le.ro, fun i hi => by omega, fun i hi => by omega⟩⟩, rfl, rfl, rfl⟩
end
end Go.GK


namespace Go.GK
open Go.RowKit Go.ChangeShapes Go.WideShapes

/-- The shape of one cell. -/
inductive Sh where
  | int (k : IntKind) | bool | str
  | slice (cs : List Sh)

mutual
def fits : Sh → GV → Prop
  | .int k, g => ∃ n, g = .v (.int k n) ∧ (Lit.int k n).wf = true
  | .bool, g => ∃ b, g = .b b
  | .str, g => ∃ s : ByteArray, g = .v (.string s) ∧ s.size ≤ maxLen
  | .slice cs, g => ∃ rows, g = .sl cs.length rows ∧ ∀ row ∈ rows, fitsL cs row
def fitsL : List Sh → List GV → Prop
  | [], gs => gs = []
  | s :: ss, gs => ∃ g r, gs = g :: r ∧ fits s g ∧ fitsL ss r
end

def shF (P : Program) (r : TypeId → Option (List Sh)) : Nat → List Field → Option (List Sh)
  | _, [] => some []
  | o, f :: fs => match r f.type with
    | some a => bif Nat.beq f.offset o && Nat.beq (P.cellsOf f.type) a.length then (match shF P r (o + a.length) fs with | some b => some (a ++ b) | none => none) else none
    | none => none

/-- A type's cells. -/
def shT (P : Program) : Nat → TypeId → Option (List Sh)
  | 0, _ => none
  | n + 1, t => match P.underlying t with
    | some (.int k) => some [.int k]
    | some .bool => some [.bool]
    | some .string => some [.str]
    | some (.slice e) => (match shT P n e with
      | some cs => bif Nat.beq (P.cellsOf e) cs.length then some [.slice cs] else none
      | none => none)
    | some (.struct fs) => (match shF P (shT P n) 0 fs.toList with
      | some cs => bif Nat.beq (P.cellsOf t) cs.length then some cs else none
      | none => none)
    | _ => none

theorem fitsL_len : ∀ {ss : List Sh} {gs : List GV}, fitsL ss gs → gs.length = ss.length
  | [], gs, h => by simp only [fitsL] at h; subst h; rfl
  | s :: ss, gs, h => by
    simp only [fitsL] at h
    obtain ⟨g, r, rfl, _, h⟩ := h
    simp [fitsL_len h]
theorem fitsL_app : ∀ {ss tt : List Sh} {gs hs : List GV}, fitsL ss gs → fitsL tt hs → fitsL (ss ++ tt) (gs ++ hs)
  | [], tt, gs, hs, h, k => by simp only [fitsL] at h; subst h; exact k
  | s :: ss, tt, gs, hs, h, k => by
    simp only [fitsL] at h
    obtain ⟨g, r, rfl, h1, h⟩ := h
    show fitsL (s :: (ss ++ tt)) _
    simp only [fitsL]
    exact ⟨g, r ++ hs, rfl, h1, fitsL_app h k⟩

/-- All that is there when a law is called: nobody writes it. -/
def roOf (w : World) : Nat → Option Obj := fun b => w.heap[b]?

section
variable {Hh : Type} {enc : TypeId × Value → Hh} {P : Program} {w : World} {base : Nat} {spare : Nat → Bool} {held : Bool}

/-- A list of cells as ghost values. -/
def LIs (ro : Nat → Option Obj) (gs : List GV) (cs : List Value) : Prop := gs.length = cs.length ∧ ∀ (j : Nat) (g : GV), gs[j]? = some g → ∃ u, cs[j]? = some u ∧ IsR ro g u ∧ u.oneCell' = true

theorem LIs.app {ro : Nat → Option Obj} {gs hs : List GV} {cs ds : List Value} (h : LIs ro gs cs) (k : LIs ro hs ds) : LIs ro (gs ++ hs) (cs ++ ds) := by
  refine ⟨by simp [h.1, k.1], fun j g hj => ?_⟩
  by_cases hlt : j < gs.length
  · rw [List.getElem?_append_left hlt] at hj
    obtain ⟨u, hu, h2⟩ := h.2 j g hj
    exact ⟨u, by rw [List.getElem?_append_left (by rw [← h.1]; exact hlt)]; exact hu, h2⟩
  · rw [List.getElem?_append_right (by omega)] at hj
    obtain ⟨u, hu, h2⟩ := k.2 _ g hj
    exact ⟨u, by rw [List.getElem?_append_right (by rw [← h.1]; omega), ← h.1]; exact hu, h2⟩

theorem LIs.one {ro : Nat → Option Obj} {g : GV} {u : Value} (h : IsR ro g u) (h1 : u.oneCell' = true) : LIs ro [g] [u] := by
  refine ⟨rfl, fun j g' hj => ?_⟩
  cases j with
  | zero => simp at hj; subst hj; exact ⟨u, rfl, h, h1⟩
  | succ j => simp at hj

theorem trod_fields (r : TypeId → Option (List Sh)) (fuel : Nat) (hr : ∀ t cs shs x, DataW.trod enc P w base spare held fuel t cs = some x → r t = some shs → ∃ gs, fitsL shs gs ∧ LIs (roOf w) gs cs) (cs : List Value) :
    ∀ (o : Nat) (fs : List Field) (shs : List Sh), shF P r o fs = some shs → (∀ f ∈ fs, ∃ x, DataW.trod enc P w base spare held fuel f.type ((cs.drop f.offset).take (P.cellsOf f.type)) = some x) →
      ∃ gs, fitsL shs gs ∧ LIs (roOf w) gs ((cs.drop o).take shs.length) ∧ (shs.length = ((cs.drop o).take shs.length).length)
  | o, [], shs, h, _ => by
    simp only [shF, Option.some.injEq] at h
    subst h
    exact ⟨[], rfl, ⟨rfl, by simp⟩, rfl⟩
  | o, f :: fs, shs, h, hf => by
    simp only [shF] at h
    cases ha : r f.type with
    | none => rw [ha] at h; cases h
    | some a =>
      rw [ha] at h
      simp only [] at h
      cases hb : (Nat.beq f.offset o && Nat.beq (P.cellsOf f.type) a.length) with
      | false => rw [hb] at h; cases h
      | true =>
        rw [hb] at h
        simp only [cond_true] at h
        simp only [Bool.and_eq_true] at hb
        have e1 := beq_eq hb.1
        have e2 := beq_eq hb.2
        cases hs : shF P r (o + a.length) fs with
        | none => rw [hs] at h; cases h
        | some b =>
          rw [hs] at h
          simp only [Option.some.injEq] at h
          subst h
          obtain ⟨gs, h1, h2, h3⟩ := trod_fields r fuel hr cs (o + a.length) fs b hs (fun g hg => hf g (List.mem_cons_of_mem _ hg))
          obtain ⟨x, hx⟩ := hf f (by simp)
          rw [e1, e2] at hx
          obtain ⟨gs', k1, k2⟩ := hr _ _ _ _ hx ha
          have hl : a.length = ((cs.drop o).take a.length).length := by rw [← k2.1, fitsL_len k1]
          have e : (cs.drop o).take (a ++ b).length = (cs.drop o).take a.length ++ (cs.drop (o + a.length)).take b.length := by
            rw [List.length_append, List.take_add, List.drop_drop]
          refine ⟨gs' ++ gs, fitsL_app k1 h1, ?_, ?_⟩
          · rw [e]; exact k2.app h2
          · rw [e, List.length_append, List.length_append, ← hl, ← h3]

theorem trod_gv : ∀ (n fuel : Nat) (t : TypeId) (cs : List Value) (shs : List Sh) (x : DataW Hh × List MemPlace), DataW.trod enc P w base spare held fuel t cs = some x → shT P n t = some shs → ∃ gs, fitsL shs gs ∧ LIs (roOf w) gs cs
  | 0, _, _, _, _, _, _, h => by simp [shT] at h
  | n + 1, fuel, t, cs, shs, x, hd, hs => by
    unfold shT at hs
    cases hu : P.underlying t with
    | none => rw [hu] at hs; cases hs
    | some d =>
      rw [hu] at hs
      cases d <;> simp only [Option.some.injEq] at hs <;> (try (cases hs; done))
      case int k =>
        subst hs
        obtain ⟨m, rfl, _, hw⟩ := DataW.trod_int hu hd
        exact ⟨[.v (.int k m)], ⟨_, _, rfl, ⟨m, rfl, hw⟩, rfl⟩, .one (.v _) rfl⟩
      case bool =>
        subst hs
        obtain ⟨b, rfl, _⟩ := DataW.trod_bool hu hd
        exact ⟨[.b b], ⟨_, _, rfl, ⟨b, rfl⟩, rfl⟩, .one (.b _) rfl⟩
      case string =>
        subst hs
        obtain ⟨s, rfl, _, hw⟩ := DataW.trod_string hu hd
        exact ⟨[.v (.string s)], ⟨_, _, rfl, ⟨s, rfl, hw⟩, rfl⟩, .one (.v _) rfl⟩
      case slice e =>
        cases he : shT P n e with
        | none => rw [he] at hs; cases hs
        | some es =>
          rw [he] at hs
          simp only [] at hs
          cases hb : Nat.beq (P.cellsOf e) es.length with
          | false => rw [hb] at hs; cases hs
          | true =>
            rw [hb] at hs
            simp only [cond_true, Option.some.injEq] at hs
            subst hs
            have hc := beq_eq hb
            rcases Go.Deep.open_slice hu hd with ⟨rfl, _⟩ | ⟨a, len, cap, m, n', D, Pl, rfl, hba, hl, hmax, hm, _, hi⟩
            · exact ⟨[.sl es.length []], ⟨_, _, rfl, ⟨[], rfl, by simp⟩, rfl⟩, .one .slnil rfl⟩
            · have hlm : len ≤ m := by rw [hm]; split <;> omega
              have hex : ∀ i, i < len → ∃ y : List GV × List Value, fitsL es y.1 ∧ LIs (roOf w) y.1 y.2 ∧ w.cells? base (a.add (i * es.length)) es.length = some y.2 := fun i hi' => by
                obtain ⟨cs', h1, h2⟩ := hi i (by omega)
                obtain ⟨gs, h3, h4⟩ := trod_gv n n' e cs' es _ h2 he
                exact ⟨(gs, cs'), h3, h4, by rw [← hc]; exact h1⟩
              obtain ⟨f, hf⟩ := Go.Deep.choose_lt hex
              refine ⟨[.sl es.length ((List.range len).map fun i => (f i).1)], ⟨_, _, rfl, ⟨_, rfl, fun row hrow => ?_⟩, rfl⟩, .one ?_ rfl⟩
              · obtain ⟨i, hi1, rfl⟩ := List.mem_map.1 hrow
                exact (hf i (List.mem_range.1 hi1)).1
              · have hlen : len = ((List.range len).map fun i => (f i).1).length := by simp
                have hget : ∀ (i : Nat) (row : List GV), ((List.range len).map fun i => (f i).1)[i]? = some row → i < len ∧ row = (f i).1 := fun i row hr => by
                  have hi1 : i < len := by have := (List.getElem?_eq_some_iff.1 hr).1; simpa using this
                  rw [List.getElem?_map, List.getElem?_range hi1] at hr
                  simp at hr
                  exact ⟨hi1, hr.symm⟩
                have key := IsR.sl (ro := roOf w) (ad := a) (sz := es.length) (rows := (List.range len).map fun i => (f i).1) (c := cap) (fun i j => if i < len then (if ((f i).2[j]?.getD (.bool false)).oneCell' then (f i).2[j]?.getD (.bool false) else .bool false) else .bool false) (fun row hrow => ?_) (by simpa using hl) hmax ?_ ?_ ?_
                · rw [← hlen] at key; exact key
                · obtain ⟨i, hi1, rfl⟩ := List.mem_map.1 hrow
                  exact fitsL_len (hf i (List.mem_range.1 hi1)).1
                · intro i row hr j g hj
                  obtain ⟨hi1, rfl⟩ := hget i row hr
                  obtain ⟨h1, h2, h3⟩ := hf i hi1
                  obtain ⟨u, hu1, hu2, hu3⟩ := h2.2 j g hj
                  obtain ⟨_, hcl, hcc⟩ := World.cells?_some h3
                  have hj1 : j < es.length := by have := (List.getElem?_eq_some_iff.1 hj).1; rw [fitsL_len h1] at this; exact this
                  have := hcc j hj1
                  rw [hu1, Go.Deep.add_add] at this
                  simp only [hi1, if_true, hu1, Option.getD_some, hu3]
                  exact this
                · intro i row hr j g hj
                  obtain ⟨hi1, rfl⟩ := hget i row hr
                  obtain ⟨h1, h2, h3⟩ := hf i hi1
                  obtain ⟨u, hu1, hu2, hu3⟩ := h2.2 j g hj
                  simp only [hi1, if_true, hu1, Option.getD_some, hu3]
                  exact hu2
                · intro i j
                  show Value.oneCell' (if i < len then _ else _) = true
                  split
                  · split
                    · assumption
                    · rfl
                  · rfl
      case struct fs =>
        cases he : shF P (shT P n) 0 fs.toList with
        | none => rw [he] at hs; cases hs
        | some ss =>
          rw [he] at hs
          simp only [] at hs
          cases hb : Nat.beq (P.cellsOf t) ss.length with
          | false => rw [hb] at hs; cases hs
          | true =>
            rw [hb] at hs
            simp only [cond_true, Option.some.injEq] at hs
            subst hs
            obtain ⟨xs, n', _, _, hcl, hxl, hf⟩ := DataW.trod_struct hu hd
            obtain ⟨gs, h1, h2, h3⟩ := trod_fields (shT P n) n' (fun t cs shs x h h' => trod_gv n n' t cs shs x h h') cs 0 fs.toList ss he (fun f hfm => by
              obtain ⟨i, hi, e⟩ := List.getElem_of_mem hfm
              have hi' : i < fs.size := by simpa using hi
              have e' : fs[i]? = some f := by rw [Array.getElem?_eq_getElem hi']; rw [← e]; simp
              have hh := hf i f e'
              have hix : i < xs.length := by omega
              rw [List.getElem?_eq_getElem hix] at hh
              exact ⟨_, hh⟩)
            refine ⟨gs, h1, ?_⟩
            have e : (cs.drop 0).take ss.length = cs := by rw [List.drop_zero, ← beq_eq hb, ← hcl, List.take_length]
            rw [e] at h2
            exact h2
end

/-- The arguments' shapes, each of one cell. -/
def shA (P : Program) (n : Nat) : List TypeId → Option (List Sh)
  | [] => some []
  | t :: ts => match shT P n t, shA P n ts with
    | some [s], some r => some (s :: r)
    | _, _ => none

theorem trodAll_cons_mk' {Hh : Type} {enc : TypeId × Value → Hh} {P : Program} {w : World} {base : Nat} {spare : Nat → Bool} {held : Bool} {t : TypeId} {ts : List TypeId} {v : Value} {vs : List Value} {d : DataW Hh} {ds : List (DataW Hh)} {p q : List MemPlace}
    (h : DataW.Trod enc P w base spare held t v d p) (k : DataW.TrodAll enc P w base spare held ts vs ds q) : DataW.TrodAll enc P w base spare held (t :: ts) (v :: vs) (d :: ds) (p ++ q) := ⟨p, q, h, k, rfl⟩

theorem trodAll_stays {Hh : Type} {enc : TypeId × Value → Hh} {P : Program} (hl : laidOutB P = true) {W W' : World} (hb : Below W.heap.size W W') {sp : Nat → Bool} : ∀ {ts : List TypeId} {vs : List Value} {ds : List (DataW Hh)} {ps : List MemPlace},
    (∀ t ∈ ts, P.readableRec t = true ∧ t < P.types.size) → DataW.TrodAll enc P W 0 (fun _ => true) true ts vs ds ps → (∀ p ∈ ps, p.block < W.heap.size ∧ sp p.block = true) → DataW.TrodAll enc P W' 0 sp true ts vs ds ps
  | [], vs, ds, ps, _, h, _ => by
    obtain ⟨rfl, rfl, rfl⟩ := trodAll_nil h
    exact trodAll_mk0
  | t :: ts, vs, ds, ps, hr, h, hp => by
    obtain ⟨v, vs', d, ds', p, q, rfl, rfl, rfl, h1, h2⟩ := trodAll_cons h
    obtain ⟨r1, r2⟩ := hr t (by simp)
    exact trodAll_cons_mk' (WideElems.Trod_stays hl r1 r2 h1 (fun x hx => hb.same (hp x (by simp [hx])).1) (fun x hx => (hp x (by simp [hx])).2)) (trodAll_stays hl hb (fun t ht => hr t (by simp [ht])) h2 (fun x hx => hp x (by simp [hx])))

theorem okWide_cells {P : Program} {w : World} {r : Reach} {b0 : Nat} {t : TypeId} {s : Sh} {n : Nat} {v : Value} (hs : shT P n t = some [s]) (hv : Value.okWide P w r b0 t v) (hst : ∀ fs, P.underlying t ≠ some (.struct fs)) : v.cells = #[v] := by
  cases n with
  | zero => simp [shT] at hs
  | succ n =>
    unfold shT at hs
    cases hu : P.underlying t with
    | none => rw [hu] at hs; cases hs
    | some d =>
      rw [hu] at hs
      cases d <;> simp only [Option.some.injEq] at hs <;> (try (cases hs; done))
      case int k => obtain ⟨m, rfl⟩ := okWide_int hu hv; rfl
      case bool => obtain ⟨m, rfl⟩ := okWide_bool hu hv; rfl
      case string => obtain ⟨m, rfl⟩ := okWide_string hu hv; rfl
      case slice e => obtain ⟨a, l, c, rfl⟩ := okWide_slice hu hv; rfl
      case struct fs => exact (hst fs hu).elim

/-- No parameter is a struct. -/
def noStr (P : Program) : List TypeId → Bool
  | [] => true
  | t :: ts => (match P.underlying t with | some (.struct _) => false | _ => true) && noStr P ts

theorem args_is {Hh : Type} {enc : TypeId × Value → Hh} {P : Program} {w : World} {base : Nat} {spare : Nat → Bool} {held : Bool} {r : Reach} {b0 : Nat} (n : Nat) : ∀ {ts : List TypeId} {vs : List Value} {ds : List (DataW Hh)} {ps : List MemPlace} {shs : List Sh},
    shA P n ts = some shs → noStr P ts = true → (∀ (j : Nat) t v, ts[j]? = some t → vs[j]? = some v → Value.okWide P w r b0 t v) → DataW.TrodAll enc P w base spare held ts vs ds ps →
      ∃ gs, fitsL shs gs ∧ LIs (roOf w) gs vs
  | [], vs, ds, ps, shs, hs, _, _, h => by
    simp only [shA, Option.some.injEq] at hs
    subst hs
    obtain ⟨rfl, _, _⟩ := trodAll_nil h
    exact ⟨[], rfl, rfl, by simp⟩
  | t :: ts, vs, ds, ps, shs, hs, hn, hv, h => by
    obtain ⟨v, vs', d, ds', p, q, rfl, rfl, rfl, ⟨fuel, h1⟩, h2⟩ := trodAll_cons h
    unfold shA at hs
    split at hs
    · rename_i s r' e1 e2
      simp only [Option.some.injEq] at hs
      subst hs
      simp only [noStr, Bool.and_eq_true] at hn
      obtain ⟨gs, k1, k2⟩ := args_is n e2 hn.2 (fun j t v a b => hv (j + 1) t v (by simpa using a) (by simpa using b)) h2
      obtain ⟨gs', l1, l2⟩ := trod_gv n fuel t _ _ _ h1 e1
      have hc := okWide_cells e1 (hv 0 t v rfl rfl) (fun fs hfs => by rw [hfs] at hn; cases hn.1)
      rw [hc] at l2
      exact ⟨gs' ++ gs, fitsL_app l1 k1, l2.app k2⟩
    · cases hs

theorem LIs.cells {H : Hid} {gs : List GV} {us : Array Value} (h : LIs H.ro gs us.toList) : Cells H gs us := by
  refine ⟨by simpa using h.1, fun j g hj => ?_⟩
  obtain ⟨u, hu, h1, _⟩ := h.2 j g hj
  have : us[j]? = some u := by simpa using hu
  rw [getD_of_get? this]
  exact .ro h1

/-- A table of integers, by its datum. -/
theorem arr_ints {Hh : Type} {enc : TypeId × Value → Hh} {P : Program} {w : World} {base : Nat} {spare : Nat → Bool} {held : Bool} {n : Nat} {t e : TypeId} {k : IntKind} (ht : P.underlying t = some (.array n e)) (he : P.underlying e = some (.int k)) (hc : P.cellsOf e = 1) {zs : List Int} (hz : zs.length = n) (hct : P.cellsOf t = n) {fuel : Nat} {cs : List Value} {ps : List MemPlace}
    (h : DataW.trod enc P w base spare held fuel t cs = some (.agg (zs.map fun z => .lit (.int k z)), ps)) : cs = zs.map (Value.int k) := by
  obtain ⟨xs, m1, _, hx, hlen, hn, hel⟩ := DataW.trod_array ht h
  simp only [Prod.mk.injEq, DataW.agg.injEq] at hx
  rw [hct] at hlen
  refine List.ext_getElem (by simp; omega) fun i h1 h2 => ?_
  have hi : i < xs.length := by omega
  have := hel i (by omega)
  rw [hc, Nat.mul_one, List.getElem?_eq_getElem hi] at this
  obtain ⟨m, e1, e2, _⟩ := DataW.trod_int he this
  have e3 : (cs.drop i).take 1 = [cs[i]] := by rw [List.drop_eq_getElem_cons h1]; rfl
  rw [e3] at e1
  have e4 : (zs.map fun z => DataW.lit (H := Hh) (.int k z))[i]? = (xs.map (·.1))[i]? := by rw [hx.1]
  rw [List.getElem?_map, List.getElem?_map, List.getElem?_eq_getElem hi, List.getElem?_eq_getElem (by omega), e2] at e4
  simp only [Option.map_some, Option.some.injEq, DataW.lit.injEq, Lit.int.injEq, true_and] at e4
  rw [List.getElem_map, e4]
  simpa using e1

/-- A package-level table of integers. -/
theorem gl_ints {H : Hid} {w : World} (hro : H.ro = roOf w) {g : Nat} {k : IntKind} {zs : List Int} (h : ∀ i, w.cell? ⟨g, i, none⟩ = (zs.map (Value.int k))[i]?) : IsR H.ro (.r (zs.map fun z => .v (.int k z))) (.pointer (some ⟨g, 0, none⟩)) := by
  refine .r (fun j => ((zs.map (Value.int k))[j]?).getD undef) (fun j gv hj => ?_) (fun j gv hj => ?_)
  · rw [hro, addr_add_none, Nat.zero_add]
    have hj' : j < zs.length := by have := (List.getElem?_eq_some_iff.1 hj).1; simpa using this
    have := h j
    rw [List.getElem?_eq_getElem (by simpa using hj')] at this ⊢
    exact this
  · have hj' : j < zs.length := by have := (List.getElem?_eq_some_iff.1 hj).1; simpa using this
    rw [List.getElem?_map, List.getElem?_eq_getElem hj'] at hj
    simp at hj
    subst hj
    rw [List.getElem?_eq_getElem (by simpa using hj')]
    simp
    exact .v _

/-- A LAW's CONTRACT, OF WHATEVER CAN BE READ. -/
theorem Ct.law {pg : Pg} {f : FuncId} {shs : List Sh} (hct : ∀ gs, fitsL shs gs → Ct pg f 0 gs [] (Val fun g => g = .b true)) {w : World} {us : Array Value} {gs : List GV} (hg : ∀ H : Hid, H.ro = roOf w → GlOk pg H) (hf : fitsL shs gs) (hl : LIs (roOf w) gs us.toList) :
    Calls pg.P f us w fun e w' => e = .returned (.bool true) ∧ Below w.heap.size w w' := by
  let H : Hid := ⟨roOf w, fun _ => 0, fun _ => .bool false, 0⟩
  refine Calls.mono (hct gs hf H us w rfl (hg H rfl) (LIs.cells (H := H) hl) ⟨fun b o h => h, by simp, by simp [blks], by simp [blks], by simp⟩) (fun e w' he => ?_)
  obtain ⟨u, g, H', σ', rfl, hi, hs', hfr, ⟨rfl, rfl, _⟩⟩ := he
  refine ⟨by rw [hi.inv_b], hfr.os, hfr.tape, hfr.output, hfr.size, fun b hb => hfr.keep b hb (by simp [blks])⟩

theorem trodAll_len {Hh : Type} {enc : TypeId × Value → Hh} {P : Program} {w : World} {base : Nat} {spare : Nat → Bool} {held : Bool} : ∀ {ts : List TypeId} {vs : List Value} {ds : List (DataW Hh)} {ps : List MemPlace}, DataW.TrodAll enc P w base spare held ts vs ds ps → ds.length = ts.length
  | [], vs, ds, ps, h => by obtain ⟨_, rfl, _⟩ := trodAll_nil h; rfl
  | t :: ts, vs, ds, ps, h => by
    obtain ⟨v, vs', d, ds', p', q', rfl, rfl, rfl, _, h2⟩ := trodAll_cons h
    simp [trodAll_len h2]

section
variable {Hh : Type} {enc : TypeId × Value → Hh} {pg : Pg}

/-- THE ROW's STEP: 'true; the input reads as it did', of variables none. -/
theorem law_post {fn : Func} {f : FuncId} {s : ChangeSpec} {shs : List Sh} {apart fresh handsOn again : Bool} {tb : TypeId} (ts : List TypeId) (hts : fn.params.toList = ts) (hres : fn.resultTypes = #[tb]) (hb : pg.P.underlying tb = some .bool) (hvars : s.vars = []) (hsh : shA pg.P 8 ts = some shs) (hns : noStr pg.P ts = true)
    (hlaid : laidOutB pg.P = true) (hread : ts.all (fun t => pg.P.readableRec t && decide (t < pg.P.types.size)) = true) (hfn : ∀ ds : List (DataW Hh), ds.length = ts.length → s.fn Hh ds = { results := [.lit (.bool true)], args := ds })
    (hct : ∀ gs, fitsL shs gs → Ct pg f 0 gs [] (Val fun g => g = .b true))
    {W : World} {base : Nat} {args : Array Value} {ds gs : List (DataW Hh)} {before : List MemPlace} (hgl : ∀ H : Hid, H.ro = roOf W → GlOk pg H)
    (hval : ∀ (j : Nat) t v, fn.params[j]? = some t → args[j]? = some v → Value.okWide pg.P W .any base t v) (hW : DataW.Whole enc pg.P fn.params.toList s.vars apart W args.toList ds gs before) :
    Calls pg.P f args W fun e W' => ∃ v, e = .returned v ∧ s.post enc pg.P fn apart fresh handsOn again W args v W' := by
  have hW' := hW
  have hlt := hW.lt
  obtain ⟨p, q, hA, hV, rfl, hfz, hnd⟩ := hW
  rw [hts] at hA
  rw [hvars] at hV
  obtain ⟨rfl, rfl⟩ := trodVars_none hV
  obtain ⟨us, h1, h2⟩ := args_is 8 hsh hns (fun j t v a b => hval j t v (by rw [← hts] at a; simpa using a) (by simpa using b)) hA
  have hdl := trodAll_len hA
  refine (Ct.law hct hgl h1 h2).mono fun e W' ⟨he, hbel⟩ => ?_
  have hold : ∀ x ∈ p ++ [], x.block < W.heap.size := hlt
  have hargs : ∀ sp : Nat → Bool, (∀ x ∈ p, sp x.block = true) → DataW.TrodAll enc pg.P W' 0 sp true fn.params.toList args.toList ds p := fun sp hsp => by
    rw [hts]
    refine trodAll_stays hlaid hbel (fun t ht => ?_) hA (fun x hx => ⟨hlt x (by simp [hx]), hsp x hx⟩)
    have := List.all_eq_true.1 hread t ht
    simpa using this
  have hres' : ∀ (b : Nat) (sp : Nat → Bool) (hd : Bool), DataW.TrodAll enc pg.P W' b sp hd fn.resultTypes.toList ((Value.bool true).resultList fn.resultTypes.size) [.lit (.bool true)] [] := fun b sp hd => by
    rw [hres]
    exact trodAll_mk1 (p := []) ⟨1, by simp [DataW.trod, Value.cells, hb]⟩
  have hvr : ∀ sp : Nat → Bool, DataW.TrodVars enc pg.P W' sp s.vars [] [] := fun sp => by rw [hvars]; rfl
  have hspec := hfn ds hdl
  refine ⟨.bool true, he, ds, [], p ++ [], [], p, [], hW', ?_, ?_, ?_, World.keptBut_mono (fun x hx => ⟨hx, .inr (by simpa using hx)⟩) (hbel.frame (· ∈ p ++ [])), fun _ => ⟨fun j t r hj hr => ?_, .lit (.bool true) :: ds, [], ([] ++ p) ++ [], ⟨[] ++ p, [], ?_, ?_, rfl, fun b off hx => ?_, fun ha => ?_⟩, fun x hx _ => by simpa using hx⟩⟩
  · rw [List.append_nil, hspec]; exact hres' _ _ _
  · rw [List.append_nil, hspec]; exact hargs _ (fun x hx => by simpa using hlt x (by simp [hx]))
  · rw [List.append_nil, hspec]; exact hvr _
  · rw [hres] at hj hr
    cases j with
    | zero =>
      simp at hj
      subst hj
      simp [Value.resultList] at hr
      subst hr
      exact okWide_bool_mk hb _
    | succ j => simp at hj
  · exact trodAll_append (hargs _ (fun _ _ => rfl)) (hres' _ _ _)
  · exact hvr _
  · have hin : MemPlace.cell b off ∈ p ++ [] := by simpa using hx
    rw [hbel.frozen (hlt _ hin)]
    exact hfz b off hin
  · simpa using hnd ha
end
end Go.GK
