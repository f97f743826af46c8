/-
  The ghost machine: an own variable that is written no more.
-/
import Derived.Test.YtfagagfokmlgiaaGK11
import Derived.Test.YtfagagfokmlgiaaGK21
namespace Go.GK
open Go.RowKit

mutual
/-- An own row read as one that nobody writes. -/
def fzb (id : Nat) (cs0 : List GV) : GV → GV
  | .o j => .o j
  | .agg cs => .agg (fzbL id cs0 cs)
  | .tup cs => .tup (fzbL id cs0 cs)
  | .fn f as cs => .fn f (fzbL id cs0 as) (fzbL id cs0 cs)
  | .ifc t x => .ifc t (fzb id cs0 x)
  | .v x => .v x
  | .b c => .b c
  | .p j off => bif Nat.beq j id then .r (cs0.drop off) else .p j off
  | .e j z i off => .e j z i off
  | .r cs => .r cs
  | .sl z r => .sl z r
def fzbL (id : Nat) (cs0 : List GV) : List GV → List GV
  | [] => []
  | g :: r => fzb id cs0 g :: fzbL id cs0 r
end

def fzbE (id : Nat) (cs0 : List GV) : Env → Env
  | [] => []
  | (t, g) :: r => (t, fzb id cs0 g) :: fzbE id cs0 r

def fzbR (id : Nat) (cs0 : List GV) : Res → Res
  | .blk ty cs => .blk ty (fzbL id cs0 cs)
  | .row ty z rs => .row ty z rs
  | .ob o => .ob o
  | .ln sz n => .ln sz n
  | .sub i z lo n => .sub i z lo n
  | .mp kd es => .mp kd (es.map fun x => (x.1, fzb id cs0 x.2))
  | .mr kd es left cur => .mr kd (es.map fun x => (x.1, fzb id cs0 x.2)) left cur
  | .itr m => .itr m

def fzbH (id : Nat) (cs0 : List GV) : Heap → Heap
  | [] => []
  | (j, x) :: r => (j, fzbR id cs0 x) :: fzbH id cs0 r

theorem fzbL_get (id : Nat) (cs0 : List GV) : ∀ (l : List GV) (j : Nat), (fzbL id cs0 l)[j]? = (l[j]?).map (fzb id cs0)
  | [], j => by simp [fzbL]
  | g :: r, 0 => by simp [fzbL]
  | g :: r, j + 1 => by simp [fzbL, fzbL_get id cs0 r j]
theorem fzbL_len (id : Nat) (cs0 : List GV) : ∀ (l : List GV), (fzbL id cs0 l).length = l.length
  | [] => rfl
  | _ :: r => by simp [fzbL, fzbL_len id cs0 r]

theorem fzbE_look (id : Nat) (cs0 : List GV) : ∀ (ρ : Env) (t : Nat), look (fzbE id cs0 ρ) t = (look ρ t).map (fzb id cs0)
  | [], t => rfl
  | (s, g) :: r, t => by
    simp only [fzbE, look]
    cases Nat.beq s t with
    | true => rfl
    | false => exact fzbE_look id cs0 r t

theorem fzbH_mem {id : Nat} {cs0 : List GV} : ∀ {σ : Heap} {x : Nat × Res}, x ∈ fzbH id cs0 σ → ∃ y ∈ σ, x = (y.1, fzbR id cs0 y.2)
  | [], _, h => by simp [fzbH] at h
  | (j, y) :: r, x, h => by
    simp only [fzbH, List.mem_cons] at h
    rcases h with rfl | h
    · exact ⟨_, List.mem_cons_self, rfl⟩
    · obtain ⟨z, hz, e⟩ := fzbH_mem h
      exact ⟨z, List.mem_cons_of_mem _ hz, e⟩

theorem fzbH_blks {H H' : Hid} (e1 : H'.bl = H.bl) (e2 : H'.sv = H.sv) {id : Nat} {cs0 : List GV} : ∀ (σ : Heap), blks H' (fzbH id cs0 σ) = blks H σ
  | [] => rfl
  | (j, y) :: r => by
    simp only [fzbH, blks_cons, fzbH_blks e1 e2 r]
    congr 1
    cases y <;> simp [fzbR, blocks, e1, e2]

/-- Own slices, other things as they are. -/
theorem Is.fzb {H H' : Hid} (hro : ∀ b o, H.ro b = some o → H'.ro b = some o) (e1 : H'.bl = H.bl) (e2 : H'.sv = H.sv) (e3 : H'.n = H.n) {id : Nat} {cs0 : List GV} (hs : ∀ off, IsR H'.ro (.r (cs0.drop off)) (.pointer (some ⟨H.bl id, off, none⟩))) {g : GV} {u : Value} (h : Is H g u) : Is H' (GK.fzb id cs0 g) u := by
  have hle : H.le H' := ⟨Nat.le_of_eq e3.symm, hro, fun i _ => by rw [e1], fun i _ => by rw [e2]⟩
  have hL : ∀ {cs : List GV} {us : Array Value}, (∀ (j : Nat) (g : GV), cs[j]? = some g → Is H' (GK.fzb id cs0 g) (us.getD j undef)) → ∀ (j : Nat) (g : GV), (fzbL id cs0 cs)[j]? = some g → Is H' g (us.getD j undef) := by
    intro cs us hh j g hj
    rw [fzbL_get] at hj
    cases hc : cs[j]? with
    | none => rw [hc] at hj; cases hj
    | some x => rw [hc] at hj; simp at hj; subst hj; exact hh j x hc
  induction h with
  | ro hr =>
    have hR : ∀ {g : GV} {u : Value}, IsR H.ro g u → Is H' (GK.fzb id cs0 g) u := by
      intro g u hr
      induction hr with
      | v x => exact .ro (.v x)
      | b c => exact .ro (.b c)
      | r us h1 h2 _ => exact .ro ((IsR.r us h1 h2).mono hro)
      | slnil => exact .ro .slnil
      | sl us h0 hc hm h1 h2 h3 _ => exact .ro ((IsR.sl us h0 hc hm h1 h2 h3).mono hro)
      | agg hl _ ih => exact .agg (by rw [fzbL_len]; exact hl) (hL ih)
      | tup hl _ ih => exact .tup (by rw [fzbL_len]; exact hl) (hL ih)
      | fn hl _ hl' _ ih ih' => exact .fn (by rw [fzbL_len]; exact hl) (hL ih) (by rw [fzbL_len]; exact hl') (hL ih')
      | ifc _ ih => exact .ifc ih
    exact hR hr
  | @p j off hid =>
    simp only [GK.fzb]
    cases hb : Nat.beq j id with
    | true =>
      have := beq_eq hb
      subst this
      exact .ro (hs off)
    | false => exact (Is.p hid).mono hle
  | e hid hs => exact (Is.e hid hs).mono hle
  | o hid hsj how => exact (Is.o hid hsj how).mono hle
  | agg hl _ ih => exact .agg (by rw [fzbL_len]; exact hl) (hL ih)
  | tup hl _ ih => exact .tup (by rw [fzbL_len]; exact hl) (hL ih)
  | fn hl _ hl' _ ih ih' => exact .fn (by rw [fzbL_len]; exact hl) (hL ih) (by rw [fzbL_len]; exact hl') (hL ih')
  | ifc _ ih => exact .ifc ih

theorem esIs_fzb {H H' : Hid} {id : Nat} {cs0 : List GV} (hf : ∀ {g : GV} {u : Value}, Is H g u → Is H' (GK.fzb id cs0 g) u) : ∀ {es : List (Value × GV)} {l : List MapEntry}, esIs H es l → esIs H' (es.map fun x => (x.1, GK.fzb id cs0 x.2)) l
  | [], [], _ => trivial
  | (_, _) :: r, _ :: _, h => ⟨h.1, hf h.2.1, esIs_fzb hf (es := r) h.2.2⟩
  | [], _ :: _, h => h.elim
  | _ :: _, [], h => h.elim
theorem MapOk.fzb {H H' : Hid} {id : Nat} {cs0 : List GV} (hf : ∀ {g : GV} {u : Value}, Is H g u → Is H' (GK.fzb id cs0 g) u) {kd : Option IntKind} {es : List (Value × GV)} {arr : Array MapEntry} {clock : Nat} (h : MapOk H kd es arr clock) : MapOk H' kd (es.map fun x => (x.1, GK.fzb id cs0 x.2)) arr clock :=
  ⟨esIs_fzb hf h.is, h.sorts, h.st⟩


section
variable {cx : Cx} {T : Post}
/-- AN OWN VARIABLE IS WRITTEN NO MORE. -/
theorem JK.freezeB {k : List It} {s : St} (id : Nat) {ty : Nat} {cs0 : List GV} (hl : hlook s.σ id = some (.blk ty cs0)) (hb0 : idbL 0 cs0 = true) (h : nfH (fzbH id cs0 (hdel s.σ id)) fun σ => JK cx T k ⟨fzbE id cs0 s.ρ, σ, s.n⟩) : JK cx T k s := by
  rw [nfH_eq] at h
  refine JK.upd _ (fun H a w hg hs ha => ?_) h
  obtain ⟨l1, l2, e1, e2, _⟩ := hlook_split hl
  have hmem := hlook_mem hl
  obtain ⟨us, hwb, hlen0, his0⟩ := hs.sat.holds _ hmem
  let ro' : Nat → Option Obj := fun b => if H.bl id = b then w.heap[b]? else H.ro b
  have hfree : ∀ b, H.bl id = b → H.ro b = none := fun b hb => hs.sat.free b (List.mem_flatMap.2 ⟨_, hmem, by simp [blocks, hb]⟩)
  have hro : ∀ b o, H.ro b = some o → ro' b = some o := by
    intro b o ho
    show (if _ then _ else _) = _
    rw [if_neg (fun hb => by rw [hfree b hb] at ho; cases ho)]
    exact ho
  let H' : Hid := { H with ro := ro' }
  have hle : H.le H' := ⟨Nat.le_refl _, hro, fun _ _ => rfl, fun _ _ => rfl⟩
  have hsl : ∀ off, IsR ro' (.r (cs0.drop off)) (.pointer (some ⟨H.bl id, off, none⟩)) := fun off => by
    refine .r (fun j => us.getD (off + j) undef) (fun j g hj => ?_) (fun j g hj => ?_)
    · rw [List.getElem?_drop] at hj
      have hlt : off + j < us.size := by rw [← hlen0]; exact (List.getElem?_eq_some_iff.1 hj).1
      rw [addr_add_none]
      unfold roCell
      have hr : ro' (H.bl id) = some (.cells us ty (0, 0)) := by
        show (if H.bl id = H.bl id then w.heap[H.bl id]? else _) = _
        rw [if_pos rfl]; exact hwb
      simp only [hr, Option.isSome_none, Bool.false_eq_true, if_false]
      simp [Array.getD, hlt]
    · rw [List.getElem?_drop] at hj
      exact ((his0 _ g hj).toR (idbL_get hb0 hj)).mono hro
  have hfz : ∀ {g : GV} {u : Value}, Is H g u → Is H' (fzb id cs0 g) u := fun hi => Is.fzb (H' := H') hro rfl rfl rfl hsl hi
  have hfr := hs.fr
  have hnd := hs.sat.nodup
  have hbl : blks H' (fzbH id cs0 (hdel s.σ id)) = blks H (l1 ++ l2) := by rw [e2]; exact fzbH_blks rfl rfl _
  rw [e1, blks_append, blks_cons] at hnd
  have n1 := List.nodup_append.1 hnd
  have n2 := List.nodup_append.1 n1.2.1
  have hin : ∀ b ∈ blks H (l1 ++ l2), b ∈ blks H s.σ := fun b hb => by
    rw [e1, blks_append, blks_cons]
    rw [blks_append] at hb
    rcases List.mem_append.1 hb with h1 | h1 <;> simp [h1]
  have hnin : ∀ b ∈ blks H (l1 ++ l2), H.bl id ≠ b := fun b hb hc => by
    have hc' : b ∈ blocks H (id, .blk ty cs0) := by simp [blocks, hc]
    rw [blks_append] at hb
    rcases List.mem_append.1 hb with h1 | h1
    · exact n1.2.2 b h1 b (by simp [hc']) rfl
    · exact n2.2.2 b hc' b h1 rfl
  refine ⟨H', fun g gv hgv => (hg g gv hgv).mono hro, ⟨hs.n, ⟨fun b o ho => ?_, fun x hx => ?_, ?_, fun b hb => ?_, fun x hx => ?_⟩, ?_⟩, ⟨fun t g hlk => ?_, ha.size, ha.defers⟩⟩
  · have ho' : (if H.bl id = b then w.heap[b]? else H.ro b) = some o := ho
    split at ho'
    · exact ho'
    · exact hs.sat.ro b o ho'
  · obtain ⟨y, hy, rfl⟩ := fzbH_mem hx
    rw [e2] at hy
    have hy' : y ∈ s.σ := by
      rw [e1]
      rcases List.mem_append.1 hy with h1 | h1 <;> simp [h1]
    have hh := hs.sat.holds y hy'
    obtain ⟨j, r⟩ := y
    cases r with
    | blk ty cs =>
      obtain ⟨us, hw, hlen, hi⟩ := hh
      refine ⟨us, hw, by rw [fzbL_len]; exact hlen, fun j g hj => ?_⟩
      rw [fzbL_get] at hj
      cases hc : cs[j]? with
      | none => rw [hc] at hj; cases hj
      | some x => rw [hc] at hj; simp at hj; subst hj; exact hfz (hi j x hc)
    | row ty z rs => obtain ⟨ys, h1, h2⟩ := hh; exact ⟨ys, h1, h2.mono hro⟩
    | ob o => exact hh
    | ln z n => exact hh
    | sub i z lo n => exact hh
    | mp kd es =>
      obtain ⟨b, arr, clock, h1, h2, h3⟩ := hh
      exact ⟨b, arr, clock, h1, h2, h3.fzb hfz⟩
    | mr kd es left cur =>
      obtain ⟨b, arr, clock, seen, h1, h2, h3, h4, h5⟩ := hh
      exact ⟨b, arr, clock, seen, h1, h2, h3, h4.fzb hfz, h5⟩
    | itr m => exact hh
  · rw [hbl, blks_append]
    exact List.nodup_append.2 ⟨n1.1, n2.2.1, fun b hb c hc e => n1.2.2 b hb c (by simp [hc]) e⟩
  · rw [hbl] at hb
    show (if _ then _ else _) = _
    rw [if_neg (hnin b hb)]
    exact hs.sat.free b (hin b hb)
  · obtain ⟨y, hy, rfl⟩ := fzbH_mem hx
    rw [e2] at hy
    refine hs.sat.ids y ?_
    rw [e1]
    rcases List.mem_append.1 hy with h1 | h1 <;> simp [h1]
  · refine ⟨hfr.os, hfr.tape, hfr.output, hfr.size, hfr.keep, fun b hb => ?_, fun b h1 h2 => ?_, hfr.le.trans hle⟩
    · rw [hbl] at hb
      exact hfr.own b (hin b hb)
    · have h2' : (if H.bl id = b then w.heap[b]? else H.ro b) ≠ none := h2
      split at h2'
      · rename_i hb
        exact hfr.own b (List.mem_flatMap.2 ⟨_, hmem, by simp [blocks, hb]⟩)
      · exact hfr.fro b h1 h2'
  · rw [fzbE_look] at hlk
    cases hc : look s.ρ t with
    | none => rw [hc] at hlk; cases hlk
    | some x => rw [hc] at hlk; simp at hlk; subst hlk; exact hfz (ha.env t x hc)
end
end Go.GK
