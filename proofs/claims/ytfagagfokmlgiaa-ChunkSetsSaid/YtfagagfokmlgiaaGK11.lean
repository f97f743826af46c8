/-
  The ghost machine: own rows that nobody writes any more; nil slices.
-/
import Derived.Test.YtfagagfokmlgiaaGK10
namespace Go.GK
open Go.RowKit

mutual
/-- An own row read as one that nobody writes. -/
def frz (id sz : Nat) (rows : List (List GV)) : GV → GV
  | .o j => bif Nat.beq j id then .sl sz rows else .o j
  | .agg cs => .agg (frzL id sz rows cs)
  | .tup cs => .tup (frzL id sz rows cs)
  | .fn f as cs => .fn f (frzL id sz rows as) (frzL id sz rows cs)
  | .ifc t x => .ifc t (frz id sz rows x)
  | .v x => .v x
  | .b c => .b c
  | .p j off => .p j off
  | .e j z i off => .e j z i off
  | .r cs => .r cs
  | .sl z r => .sl z r
def frzL (id sz : Nat) (rows : List (List GV)) : List GV → List GV
  | [] => []
  | g :: r => frz id sz rows g :: frzL id sz rows r
end

def frzE (id sz : Nat) (rows : List (List GV)) : Env → Env
  | [] => []
  | (t, g) :: r => (t, frz id sz rows g) :: frzE id sz rows r

def frzR (id sz : Nat) (rows : List (List GV)) : Res → Res
  | .blk ty cs => .blk ty (frzL id sz rows cs)
  | .row ty z rs => .row ty z rs
  | .ob o => .ob o
  | .ln sz n => .ln sz n
  | .sub i z lo n => .sub i z lo n
  | .mp kd es => .mp kd (es.map fun x => (x.1, frz id sz rows x.2))
  | .mr kd es left cur => .mr kd (es.map fun x => (x.1, frz id sz rows x.2)) left cur
  | .itr m => .itr m

def frzH (id sz : Nat) (rows : List (List GV)) : Heap → Heap
  | [] => []
  | (j, x) :: r => (j, frzR id sz rows x) :: frzH id sz rows r

theorem frzL_get (id sz : Nat) (rows : List (List GV)) : ∀ (l : List GV) (j : Nat), (frzL id sz rows l)[j]? = (l[j]?).map (frz id sz rows)
  | [], j => by simp [frzL]
  | g :: r, 0 => by simp [frzL]
  | g :: r, j + 1 => by simp [frzL, frzL_get id sz rows r j]
theorem frzL_len (id sz : Nat) (rows : List (List GV)) : ∀ (l : List GV), (frzL id sz rows l).length = l.length
  | [] => rfl
  | _ :: r => by simp [frzL, frzL_len id sz rows r]

theorem frzE_look (id sz : Nat) (rows : List (List GV)) : ∀ (ρ : Env) (t : Nat), look (frzE id sz rows ρ) t = (look ρ t).map (frz id sz rows)
  | [], t => rfl
  | (s, g) :: r, t => by
    simp only [frzE, look]
    cases Nat.beq s t with
    | true => rfl
    | false => exact frzE_look id sz rows r t

theorem frzH_mem {id sz : Nat} {rows : List (List GV)} : ∀ {σ : Heap} {x : Nat × Res}, x ∈ frzH id sz rows σ → ∃ y ∈ σ, x = (y.1, frzR id sz rows y.2)
  | [], _, h => by simp [frzH] at h
  | (j, y) :: r, x, h => by
    simp only [frzH, List.mem_cons] at h
    rcases h with rfl | h
    · exact ⟨_, List.mem_cons_self, rfl⟩
    · obtain ⟨z, hz, e⟩ := frzH_mem h
      exact ⟨z, List.mem_cons_of_mem _ hz, e⟩

theorem frzH_blks {H H' : Hid} (e1 : H'.bl = H.bl) (e2 : H'.sv = H.sv) {id sz : Nat} {rows : List (List GV)} : ∀ (σ : Heap), blks H' (frzH id sz rows σ) = blks H σ
  | [] => rfl
  | (j, y) :: r => by
    simp only [frzH, blks_cons, frzH_blks e1 e2 r]
    congr 1
    cases y <;> simp [frzR, blocks, e1, e2]

/-- Own slices, other things as they are. -/
theorem Is.frz {H H' : Hid} (hro : ∀ b o, H.ro b = some o → H'.ro b = some o) (e1 : H'.bl = H.bl) (e2 : H'.sv = H.sv) (e3 : H'.n = H.n) {id sz : Nat} {rows : List (List GV)} (hs : IsR H'.ro (.sl sz rows) (H.sv id)) {g : GV} {u : Value} (h : Is H g u) : Is H' (GK.frz id sz rows g) u := by
  have hle : H.le H' := ⟨Nat.le_of_eq e3.symm, hro, fun i _ => by rw [e1], fun i _ => by rw [e2]⟩
  have hL : ∀ {cs : List GV} {us : Array Value}, (∀ (j : Nat) (g : GV), cs[j]? = some g → Is H' (GK.frz id sz rows g) (us.getD j undef)) → ∀ (j : Nat) (g : GV), (frzL id sz rows cs)[j]? = some g → Is H' g (us.getD j undef) := by
    intro cs us hh j g hj
    rw [frzL_get] at hj
    cases hc : cs[j]? with
    | none => rw [hc] at hj; cases hj
    | some x => rw [hc] at hj; simp at hj; subst hj; exact hh j x hc
  induction h with
  | ro hr =>
    have hR : ∀ {g : GV} {u : Value}, IsR H.ro g u → Is H' (GK.frz id sz rows g) u := by
      intro g u hr
      induction hr with
      | v x => exact .ro (.v x)
      | b c => exact .ro (.b c)
      | r us h1 h2 _ => exact .ro ((IsR.r us h1 h2).mono hro)
      | slnil => exact .ro .slnil
      | sl us h0 hc hm h1 h2 h3 _ => exact .ro ((IsR.sl us h0 hc hm h1 h2 h3).mono hro)
      | agg hl _ ih => exact .agg (by rw [frzL_len]; exact hl) (hL ih)
      | tup hl _ ih => exact .tup (by rw [frzL_len]; exact hl) (hL ih)
      | fn hl _ hl' _ ih ih' => exact .fn (by rw [frzL_len]; exact hl) (hL ih) (by rw [frzL_len]; exact hl') (hL ih')
      | ifc _ ih => exact .ifc ih
    exact hR hr
  | p hid => exact (Is.p hid).mono hle
  | e hid hs => exact (Is.e hid hs).mono hle
  | @o j u hid hsj how =>
    simp only [GK.frz]
    cases hb : Nat.beq j id with
    | true =>
      have := beq_eq hb
      subst this
      rw [hsj] at hs
      exact .ro hs
    | false => exact (Is.o hid hsj how).mono hle
  | agg hl _ ih => exact .agg (by rw [frzL_len]; exact hl) (hL ih)
  | tup hl _ ih => exact .tup (by rw [frzL_len]; exact hl) (hL ih)
  | fn hl _ hl' _ ih ih' => exact .fn (by rw [frzL_len]; exact hl) (hL ih) (by rw [frzL_len]; exact hl') (hL ih')
  | ifc _ ih => exact .ifc ih

theorem esIs_frz {H H' : Hid} {id sz : Nat} {rows : List (List GV)} (hf : ∀ {g : GV} {u : Value}, Is H g u → Is H' (GK.frz id sz rows g) u) : ∀ {es : List (Value × GV)} {l : List MapEntry}, esIs H es l → esIs H' (es.map fun x => (x.1, GK.frz id sz rows x.2)) l
  | [], [], _ => trivial
  | (_, _) :: r, _ :: _, h => ⟨h.1, hf h.2.1, esIs_frz hf (es := r) h.2.2⟩
  | [], _ :: _, h => h.elim
  | _ :: _, [], h => h.elim
theorem MapOk.frz {H H' : Hid} {id sz : Nat} {rows : List (List GV)} (hf : ∀ {g : GV} {u : Value}, Is H g u → Is H' (GK.frz id sz rows g) u) {kd : Option IntKind} {es : List (Value × GV)} {arr : Array MapEntry} {clock : Nat} (h : MapOk H kd es arr clock) : MapOk H' kd (es.map fun x => (x.1, GK.frz id sz rows x.2)) arr clock :=
  ⟨esIs_frz hf h.is, h.sorts, h.st⟩

/-- A row of cells, read as one that nobody writes. -/
theorem RowOk.sl {ro ro' : Nat → Option Obj} (hro : ∀ b o, ro b = some o → ro' b = some o) {w : World} {ty sz : Nat} {rows : List (List GV)} {xs : List Value} {v : Value} (hr : RowOk ro sz rows xs) (ho : w.ownsRow 0 ty sz v rows.length xs) (hb : ∀ b, v.ownBlock = some b → ro' b = w.heap[b]?) : IsR ro' (.sl sz rows) v := by
  obtain ⟨hxl, hor⟩ := ho
  rcases hor with ⟨rfl, hn⟩ | ⟨g, cap, cur, rfl, _, hw, hcap, hmax, hcs, htk⟩
  · have : rows = [] := List.length_eq_zero_iff.1 hn
    subst this
    exact .slnil
  · have hbg := hb g rfl
    rw [hw] at hbg
    have hlk : ∀ (i : Nat) (row : List GV), rows[i]? = some row → ∀ (j : Nat) (x : GV), row[j]? = some x → i * sz + j < rows.length * sz := by
      intro i row hi j x hj
      have h1 := (List.getElem?_eq_some_iff.1 hi).1
      have h2 := (List.getElem?_eq_some_iff.1 hj).1
      rw [hr.each row (List.mem_of_getElem? hi)] at h2
      have : (i + 1) * sz ≤ rows.length * sz := Nat.mul_le_mul_right _ h1
      rw [Nat.add_mul, Nat.one_mul] at this
      omega
    refine .sl (fun i j => (xs[i * sz + j]?).getD (.int .i64 0)) hr.each hcap hmax (fun i row hi j x hj => ?_) (fun i row hi j x hj => ?_) fun i j => ?_
    · obtain ⟨u, hu, _⟩ := hr.is i row hi j x hj
      have hlt := hlk i row hi j x hj
      have hc : cur[i * sz + j]? = some u := by
        rw [← htk, List.getElem?_take, if_pos hlt] at hu
        simpa using hu
      have hbk : ∀ (n : Nat), cur[n]? = some u → roCell ro' ⟨g, n, none⟩ = some u := fun n hn => by simp [roCell, hbg, hn]
      have hu' : (xs[i * sz + j]?).getD (.int .i64 0) = u := by rw [hu]; rfl
      rw [hu']
      unfold Addr.add
      split
      · rename_i h0; exact hbk 0 (by rw [show i * sz + j = 0 by simpa using h0] at hc; exact hc)
      · simpa using hbk _ hc
    · obtain ⟨u, hu, hi'⟩ := hr.is i row hi j x hj
      simp only [hu, Option.getD_some]
      exact hi'.mono hro
    · cases hx : xs[i * sz + j]? with
      | none => rfl
      | some u => exact hr.one u (List.mem_of_getElem? hx)

section
variable {cx : Cx} {T : Post}

/-- A state said otherwise. -/
theorem JK.upd {k : List It} {s : St} (s' : St) (h : ∀ H a w, GlOk cx.pg H → Sim cx H s w → ActOk cx H s.ρ a → ∃ H', GlOk cx.pg H' ∧ Sim cx H' s' w ∧ ActOk cx H' s'.ρ a) (hk : JK cx T k s') : JK cx T k s := fun H a w hg hs ha => by
  obtain ⟨H', hg', hs', ha'⟩ := h H a w hg hs ha
  exact hk H' a w hg' hs' ha'

/-- AN OWN ROW IS WRITTEN NO MORE. -/
theorem JK.freeze {k : List It} {s : St} (id : Nat) {ty sz : Nat} {rows : List (List GV)} (hl : hlook s.σ id = some (.row ty sz rows)) (h : nfH (frzH id sz rows (hdel s.σ id)) fun σ => JK cx T k ⟨frzE id sz rows s.ρ, σ, s.n⟩) : JK cx T k s := by
  rw [nfH_eq] at h
  refine JK.upd _ (fun H a w hg hs ha => ?_) h
  obtain ⟨l1, l2, e1, e2, _⟩ := hlook_split hl
  have hmem := hlook_mem hl
  obtain ⟨xs, hown, hrow⟩ := hs.sat.holds _ hmem
  let ro' : Nat → Option Obj := fun b => if (H.sv id).ownBlock = some b then w.heap[b]? else H.ro b
  have hfree : ∀ b, (H.sv id).ownBlock = some b → H.ro b = none := fun b hb => hs.sat.free b (List.mem_flatMap.2 ⟨_, hmem, by simp [blocks, hb]⟩)
  have hro : ∀ b o, H.ro b = some o → ro' b = some o := by
    intro b o ho
    show (if _ then _ else _) = _
    rw [if_neg (fun hb => by rw [hfree b hb] at ho; cases ho)]
    exact ho
  let H' : Hid := { H with ro := ro' }
  have hle : H.le H' := ⟨Nat.le_refl _, hro, fun _ _ => rfl, fun _ _ => rfl⟩
  have hsl : IsR ro' (.sl sz rows) (H.sv id) := hrow.sl hro hown (fun b hb => by show (if _ then _ else _) = _; rw [if_pos hb])
  have hfz : ∀ {g : GV} {u : Value}, Is H g u → Is H' (frz id sz rows g) u := fun hi => Is.frz (H' := H') hro rfl rfl rfl hsl hi
  have hfr := hs.fr
  have hnd := hs.sat.nodup
  have hbl : blks H' (frzH id sz rows (hdel s.σ id)) = blks H (l1 ++ l2) := by rw [e2]; exact frzH_blks rfl rfl _
  rw [e1, blks_append, blks_cons] at hnd
  have n1 := List.nodup_append.1 hnd
  have n2 := List.nodup_append.1 n1.2.1
  have hin : ∀ b ∈ blks H (l1 ++ l2), b ∈ blks H s.σ := fun b hb => by
    rw [e1, blks_append, blks_cons]
    rw [blks_append] at hb
    rcases List.mem_append.1 hb with h1 | h1 <;> simp [h1]
  have hnin : ∀ b ∈ blks H (l1 ++ l2), (H.sv id).ownBlock ≠ some b := fun b hb hc => by
    have hc' : b ∈ blocks H (id, .row ty sz rows) := by simp [blocks, hc]
    rw [blks_append] at hb
    rcases List.mem_append.1 hb with h1 | h1
    · exact n1.2.2 b h1 b (by simp [hc']) rfl
    · exact n2.2.2 b hc' b h1 rfl
  refine ⟨H', fun g gv hgv => (hg g gv hgv).mono hro, ⟨hs.n, ⟨fun b o ho => ?_, fun x hx => ?_, ?_, fun b hb => ?_, fun x hx => ?_⟩, ?_⟩, ⟨fun t g hlk => ?_, ha.size, ha.defers⟩⟩
  · have ho' : (if (H.sv id).ownBlock = some b then w.heap[b]? else H.ro b) = some o := ho
    split at ho'
    · exact ho'
    · exact hs.sat.ro b o ho'
  · obtain ⟨y, hy, rfl⟩ := frzH_mem hx
    rw [e2] at hy
    have hy' : y ∈ s.σ := by
      rw [e1]
      rcases List.mem_append.1 hy with h1 | h1 <;> simp [h1]
    have hh := hs.sat.holds y hy'
    obtain ⟨j, r⟩ := y
    cases r with
    | blk ty cs =>
      obtain ⟨us, hw, hlen, hi⟩ := hh
      refine ⟨us, hw, by rw [frzL_len]; exact hlen, fun j g hj => ?_⟩
      rw [frzL_get] at hj
      cases hc : cs[j]? with
      | none => rw [hc] at hj; cases hj
      | some x => rw [hc] at hj; simp at hj; subst hj; exact hfz (hi j x hc)
    | row ty z rs => obtain ⟨ys, h1, h2⟩ := hh; exact ⟨ys, h1, h2.mono hro⟩
    | ob o => exact hh
    | ln z n => exact hh
    | sub i z lo n => exact hh
    | mp kd es =>
      obtain ⟨b, arr, clock, h1, h2, h3⟩ := hh
      exact ⟨b, arr, clock, h1, h2, h3.frz hfz⟩
    | mr kd es left cur =>
      obtain ⟨b, arr, clock, seen, h1, h2, h3, h4, h5⟩ := hh
      exact ⟨b, arr, clock, seen, h1, h2, h3, h4.frz hfz, h5⟩
    | itr m => exact hh
  · rw [hbl, blks_append]
    exact List.nodup_append.2 ⟨n1.1, n2.2.1, fun b hb c hc e => n1.2.2 b hb c (by simp [hc]) e⟩
  · rw [hbl] at hb
    show (if _ then _ else _) = _
    rw [if_neg (hnin b hb)]
    exact hs.sat.free b (hin b hb)
  · obtain ⟨y, hy, rfl⟩ := frzH_mem hx
    rw [e2] at hy
    refine hs.sat.ids y ?_
    rw [e1]
    rcases List.mem_append.1 hy with h1 | h1 <;> simp [h1]
  · refine ⟨hfr.os, hfr.tape, hfr.output, hfr.size, hfr.keep, fun b hb => ?_, fun b h1 h2 => ?_, hfr.le.trans hle⟩
    · rw [hbl] at hb
      exact hfr.own b (hin b hb)
    · have h2' : (if (H.sv id).ownBlock = some b then w.heap[b]? else H.ro b) ≠ none := h2
      split at h2'
      · rename_i hb
        exact hfr.own b (List.mem_flatMap.2 ⟨_, hmem, by simp [blocks, hb]⟩)
      · exact hfr.fro b h1 h2'
  · rw [frzE_look] at hlk
    cases hc : look s.ρ t with
    | none => rw [hc] at hlk; cases hlk
    | some x => rw [hc] at hlk; simp at hlk; subst hlk; exact hfz (ha.env t x hc)
end
end Go.GK
