/-
  The ghost machine: weakening, loops.
-/
import Derived.Test.YtfagagfokmlgiaaGK5
import Derived.Deep.LoopGhost
namespace Go.GK
open Go.RowKit

theorem and5 {a b c d e : Bool} (h : (a && b && c && d && e) = true) : a = true ∧ b = true ∧ c = true ∧ d = true ∧ e = true := by
  cases a <;> cases b <;> cases c <;> cases d <;> cases e <;> simp_all

theorem blt_lt {a b : Nat} (h : Nat.blt a b = true) : a < b := by rw [Nat.blt_eq] at h; exact h

/-- The hidden maps under other numbers. -/
def Hid.via (H : Hid) (f : Nat → Nat) (n : Nat) : Hid := { ro := H.ro, bl := fun i => H.bl (f i), sv := fun i => H.sv (f i), n := n }

theorem renL_get (f : Nat → Nat) : ∀ (l : List GV) (j : Nat), (renL f l)[j]? = (l[j]?).map (ren f)
  | [], j => by simp [renL]
  | g :: r, 0 => by simp [renL]
  | g :: r, j + 1 => by simp [renL, renL_get f r j]
theorem renL_len (f : Nat → Nat) : ∀ (l : List GV), (renL f l).length = l.length
  | [] => rfl
  | _ :: r => by simp [renL, renL_len f r]

mutual
theorem ren_back {H : Hid} {f : Nat → Nat} {n : Nat} : ∀ {g : GV} {u : Value}, Is H (ren f g) u → idb n g = true → Is (H.via f n) g u
  | .v x, u, h, _ => by have := h.inv_v; subst this; exact .ro (.v _)
  | .b c, u, h, _ => by have := h.inv_b; subst this; exact .ro (.b _)
  | .p id off, u, h, hb => by
    obtain ⟨rfl, _⟩ := h.inv_p
    simp only [idb] at hb
    exact Is.p (H := H.via f n) (blt_lt hb)
  | .e id sz i off, u, h, hb => by
    obtain ⟨g, n', c, rfl, hs, _⟩ := h.inv_e
    simp only [idb] at hb
    exact Is.e (H := H.via f n) (blt_lt hb) hs
  | .o id, u, h, hb => by
    simp only [ren] at h
    cases h with
    | ro h => cases h
    | o hid hs h1 => simp only [idb] at hb; exact Is.o (H := H.via f n) (blt_lt hb) hs h1
  | .r cs, u, h, _ => by simp only [ren] at h; cases h with | ro h => exact .ro h
  | .sl sz rows, u, h, _ => by simp only [ren] at h; cases h with | ro h => exact .ro h
  | .agg cs, u, h, hb => by
    simp only [ren] at h
    simp only [idb] at hb
    obtain ⟨us, rfl, hl, hi⟩ := h.inv_agg
    exact .agg (by rw [← hl, renL_len]) (renL_back cs (fun j g hj => hi j g hj) hb)
  | .tup cs, u, h, hb => by
    simp only [ren] at h
    simp only [idb] at hb
    obtain ⟨us, rfl, hl, hi⟩ := h.inv_tup
    exact .tup (by rw [← hl, renL_len]) (renL_back cs (fun j g hj => hi j g hj) hb)
  | .fn fv as cs, u, h, hb => by
    simp only [ren] at h
    simp only [idb, Bool.and_eq_true] at hb
    obtain ⟨us, vs, rfl, hl, hi, hl', hi'⟩ := h.inv_fn
    exact .fn (by rw [← hl, renL_len]) (renL_back as (fun j g hj => hi j g hj) hb.1) (by rw [← hl', renL_len]) (renL_back cs (fun j g hj => hi' j g hj) hb.2)
  | .ifc t x, u, h, hb => by
    simp only [ren] at h
    simp only [idb] at hb
    obtain ⟨v, rfl, hi⟩ := h.inv_ifc
    exact .ifc (ren_back hi hb)
theorem renL_back {H : Hid} {f : Nat → Nat} {n : Nat} {F : Nat → Value} : ∀ (l : List GV), (∀ (j : Nat) (g : GV), (renL f l)[j]? = some g → Is H g (F j)) → idbL n l = true → ∀ (j : Nat) (g : GV), l[j]? = some g → Is (H.via f n) g (F j)
  | [], _, _, j, g, hj => by simp at hj
  | x :: r, h, hb, 0, g, hj => by
    simp [idbL] at hb
    simp at hj
    subst hj
    exact ren_back (h 0 _ (by simp [renL])) hb.1
  | x :: r, h, hb, j + 1, g, hj => by
    simp [idbL] at hb
    exact renL_back (F := fun j => F (j + 1)) r (fun j g hj => h (j + 1) g (by simpa [renL] using hj)) hb.2 j g (by simpa using hj)
end

/-- Forward: the numbers change, what is behind them stays. -/
theorem Is.ren {H H' : Hid} {f : Nat → Nat} (hro : ∀ b o, H.ro b = some o → H'.ro b = some o) (hf : ∀ i, i < H.n → f i < H'.n ∧ H'.bl (f i) = H.bl i ∧ H'.sv (f i) = H.sv i) {g : GV} {u : Value} (h : Is H g u) : Is H' (GK.ren f g) u := by
  have hL : ∀ {cs : List GV} {us : Array Value}, (∀ (j : Nat) (g : GV), cs[j]? = some g → Is H' (GK.ren f g) (us.getD j undef)) → ∀ (j : Nat) (g : GV), (renL f cs)[j]? = some g → Is H' g (us.getD j undef) := by
    intro cs us hh j g hj
    rw [renL_get] at hj
    cases hc : cs[j]? with
    | none => rw [hc] at hj; cases hj
    | some x => rw [hc] at hj; simp at hj; subst hj; exact hh j x hc
  induction h with
  | ro hr =>
    have hR : ∀ {g : GV} {u : Value}, IsR H.ro g u → Is H' (GK.ren f g) u := by
      intro g u hr
      induction hr with
      | v x => exact .ro (.v x)
      | b c => exact .ro (.b c)
      | r us h1 h2 _ => exact .ro ((IsR.r us h1 h2).mono hro)
      | slnil => exact .ro .slnil
      | sl us h0 hc hm h1 h2 h3 _ => exact .ro ((IsR.sl us h0 hc hm h1 h2 h3).mono hro)
      | agg hl _ ih => exact .agg (by rw [renL_len]; exact hl) (hL ih)
      | tup hl _ ih => exact .tup (by rw [renL_len]; exact hl) (hL ih)
      | fn hl _ hl' _ ih ih' => exact .fn (by rw [renL_len]; exact hl) (hL ih) (by rw [renL_len]; exact hl') (hL ih')
      | ifc _ ih => exact .ifc ih
    exact hR hr
  | p hid =>
    obtain ⟨h1, h2, _⟩ := hf _ hid
    rw [← h2]
    exact .p h1
  | e hid hs =>
    obtain ⟨h1, _, h3⟩ := hf _ hid
    exact .e h1 (h3.trans hs)
  | o hid hs how =>
    obtain ⟨h1, _, h3⟩ := hf _ hid
    exact .o h1 (h3.trans hs) how
  | agg hl _ ih => exact .agg (by rw [renL_len]; exact hl) (hL ih)
  | tup hl _ ih => exact .tup (by rw [renL_len]; exact hl) (hL ih)
  | fn hl _ hl' _ ih ih' => exact .fn (by rw [renL_len]; exact hl) (hL ih) (by rw [renL_len]; exact hl') (hL ih')
  | ifc _ ih => exact .ifc ih

theorem memB_mem {x : Nat} : ∀ {l : List Nat}, memB x l = true ↔ x ∈ l
  | [] => by simp [memB]
  | y :: r => by
    simp only [memB, Bool.or_eq_true, List.mem_cons, memB_mem (l := r)]
    constructor
    · rintro (h | h)
      · exact .inl (beq_eq h)
      · exact .inr h
    · rintro (h | h)
      · subst h; exact .inl (by simp)
      · exact .inr h
theorem distB_nodup : ∀ {l : List Nat}, distB l = true → l.Nodup
  | [], _ => List.nodup_nil
  | x :: r, h => by
    simp only [distB, Bool.and_eq_true, Bool.not_eq_true'] at h
    refine List.nodup_cons.2 ⟨fun hm => ?_, distB_nodup h.2⟩
    rw [memB_mem.2 hm] at h
    cases h.1
theorem fixB_fix {f : Nat → Nat} : ∀ {n : Nat}, fixB f n = true → ∀ i, i < n → f i = i
  | 0, _, i, hi => by omega
  | n + 1, h, i, hi => by
    simp only [fixB, Bool.and_eq_true] at h
    rcases Nat.lt_succ_iff_lt_or_eq.1 hi with h1 | h1
    · exact fixB_fix h.2 i h1
    · subst h1; exact beq_eq h.1

/-- Own things at different places lie apart. -/
theorem blks_apart {H : Hid} {σ : Heap} (hn : (blks H σ).Nodup) {x y : Nat × Res} (hx : x ∈ σ) (hy : y ∈ σ) (hne : x.1 ≠ y.1) : ∀ b ∈ blocks H x, b ∉ blocks H y := by
  induction σ with
  | nil => cases hx
  | cons z r ih =>
    rw [blks_cons] at hn
    have h1 := List.nodup_append.1 hn
    intro b hbx hby
    rcases List.mem_cons.1 hx with rfl | hx'
    · rcases List.mem_cons.1 hy with rfl | hy'
      · exact hne rfl
      · exact h1.2.2 b hbx b (List.mem_flatMap.2 ⟨y, hy', hby⟩) rfl
    · rcases List.mem_cons.1 hy with rfl | hy'
      · exact h1.2.2 b hby b (List.mem_flatMap.2 ⟨x, hx', hbx⟩) rfl
      · exact ih h1.2.1 hx' hy' b hbx hby

theorem blocks_nodup {H : Hid} {σ : Heap} (hn : (blks H σ).Nodup) {x : Nat × Res} (hx : x ∈ σ) : (blocks H x).Nodup := by
  induction σ with
  | nil => cases hx
  | cons z r ih =>
    rw [blks_cons] at hn
    have h1 := List.nodup_append.1 hn
    rcases List.mem_cons.1 hx with rfl | hx
    · exact h1.1
    · exact ih h1.2.1 hx

theorem esIs_back {H : Hid} {f : Nat → Nat} {n : Nat} : ∀ {es : List (Value × GV)} {l : List MapEntry}, esIs H (renM f es) l → idbM n es = true → esIs (H.via f n) es l
  | [], [], _, _ => trivial
  | (k, g) :: r, e :: s, h, hb => by
    simp only [idbM, Bool.and_eq_true] at hb
    exact ⟨h.1, ren_back h.2.1 hb.1, esIs_back (es := r) h.2.2 hb.2⟩
  | [], _ :: _, h, _ => h.elim
  | _ :: _, [], h, _ => h.elim
theorem MapOk.back {H : Hid} {f : Nat → Nat} {n : Nat} {kd : Option IntKind} {es : List (Value × GV)} {arr : Array MapEntry} {clock : Nat} (h : MapOk H kd (renM f es) arr clock) (hb : idbM n es = true) : MapOk (H.via f n) kd es arr clock :=
  ⟨esIs_back h.is hb, h.sorts, h.st⟩

/-- A part of an own heap under other numbers. -/
theorem Sat.part {H : Hid} {σ : Heap} {w : World} (h : Sat H σ w) {f : Nat → Nat} {n : Nat} : ∀ {τ : Heap}, leσ f τ σ → idbH n τ = true → distB (hids f τ) = true →
    Sat (H.via f n) τ w ∧ (∀ b ∈ blks (H.via f n) τ, ∃ x ∈ σ, x.1 ∈ hids f τ ∧ b ∈ blocks H x)
  | [], _, _, _ => ⟨⟨h.ro, by simp, by simp [blks], by simp [blks], by simp⟩, by simp [blks]⟩
  | (id, x) :: r, hl, hb, hd => by
    simp only [leσ] at hl
    simp only [idbH, Bool.and_eq_true] at hb
    have hnd := distB_nodup hd
    simp only [hids] at hnd hd
    simp only [distB, Bool.and_eq_true] at hd
    obtain ⟨ih, ihb⟩ := Sat.part h hl.2 hb.2 hd.2
    have hmem := hlook_mem hl.1
    have hh := h.holds _ hmem
    have hbl : blocks (H.via f n) (id, x) = blocks H (f id, renR f x) := by cases x <;> rfl
    have hid := blt_lt hb.1.1
    have hx : GK.holds (H.via f n) w (id, x) := by
      cases x with
      | blk ty cs =>
        obtain ⟨us, hw, hlen, hi⟩ := hh
        refine ⟨us, hw, by rw [← hlen, renL_len], ?_⟩
        exact renL_back cs hi (by simpa [idbR] using hb.1.2)
      | row ty sz rows => exact hh
      | ob o => exact hh
      | ln sz n => exact hh
      | sub i sz lo n =>
        obtain ⟨hi, r⟩ := hh
        exact ⟨blt_lt hb.1.2, r⟩
      | mp kd es =>
        obtain ⟨b, arr, clock, h1, h2, h3⟩ := hh
        exact ⟨b, arr, clock, h1, h2, h3.back hb.1.2⟩
      | mr kd es left cur =>
        obtain ⟨b, arr, clock, seen, h1, h2, h3, h4, h5⟩ := hh
        exact ⟨b, arr, clock, seen, h1, h2, h3, h4.back hb.1.2, h5⟩
      | itr m =>
        obtain ⟨_, h2, h3⟩ := hh
        exact ⟨blt_lt hb.1.2, h2, h3⟩
    have hnotin : f id ∉ hids f r := (List.nodup_cons.1 hnd).1
    refine ⟨⟨h.ro, fun y hy => ?_, ?_, fun b hbm => ?_, fun y hy => ?_⟩, fun b hbm => ?_⟩
    · rcases List.mem_cons.1 hy with rfl | hy
      · exact hx
      · exact ih.holds y hy
    · rw [blks_cons]
      refine List.nodup_append.2 ⟨by rw [hbl]; exact blocks_nodup h.nodup hmem, ih.nodup, fun b hb1 c hc e => ?_⟩
      subst e
      rw [hbl] at hb1
      obtain ⟨y, hy, hyi, hby⟩ := ihb b hc
      exact blks_apart h.nodup hmem hy (fun e => hnotin (by rw [show f id = y.1 from e]; exact hyi)) b hb1 hby
    · rw [blks_cons] at hbm
      rcases List.mem_append.1 hbm with h1 | h1
      · rw [hbl] at h1
        exact h.free b (List.mem_flatMap.2 ⟨_, hmem, h1⟩)
      · exact ih.free b h1
    · rcases List.mem_cons.1 hy with rfl | hy
      · exact hid
      · exact ih.ids y hy
    · rw [blks_cons] at hbm
      rcases List.mem_append.1 hbm with h1 | h1
      · rw [hbl] at h1
        exact ⟨_, hmem, by simp [hids], h1⟩
      · obtain ⟨y, hy, hyi, hby⟩ := ihb b h1
        exact ⟨y, hy, by simp [hids, hyi], hby⟩

theorem leρ_env {H : Hid} {f : Nat → Nat} {n : Nat} {ρ : Env} {a : Act} (h : EnvOk H ρ a) : ∀ {ρI : Env}, leρ f ρI ρ → idbE n ρI = true → EnvOk (H.via f n) ρI a
  | [], _, _ => fun t g hl => by simp [look] at hl
  | (s, g) :: r, hl, hb => by
    simp only [leρ] at hl
    simp only [idbE, Bool.and_eq_true] at hb
    have ih := leρ_env h hl.2 hb.2
    intro t g' hg'
    unfold look at hg'
    cases hbb : Nat.beq s t with
    | true =>
      rw [hbb] at hg'
      have := beq_eq hbb
      subst this
      simp at hg'
      subst hg'
      exact ren_back (h s _ hl.1) hb.1
    | false => rw [hbb] at hg'; exact ih t g' (by simpa using hg')

section
variable {cx : Cx} {T : Post}

theorem weaken {H : Hid} {a : Act} {w : World} {f : Nat → Nat} {I s : St} (hg : GlOk cx.pg H) (hs : Sim cx H s w) (ha : ActOk cx H s.ρ a) (hl : Le cx.n0 f I s) : ∃ H', GlOk cx.pg H' ∧ Sim cx H' I w ∧ ActOk cx H' I.ρ a := by
  obtain ⟨h1, h2, h3, h4, h5⟩ := and5 hl.chk
  obtain ⟨hsat, hbl⟩ := hs.sat.part hl.σ h2 h3
  have hfix := fixB_fix h4
  have hn := Nat.le_of_ble_eq_true h5
  refine ⟨H.via f I.n, hg, ⟨rfl, hsat, ?_⟩, ⟨leρ_env ha.env hl.ρ h1, ha.size, ha.defers⟩⟩
  have hfr := hs.fr
  refine ⟨hfr.os, hfr.tape, hfr.output, hfr.size, hfr.keep, fun b hb => ?_, hfr.fro, ⟨by rw [cx.h0]; exact hn, hfr.le.ro, fun i hi => ?_, fun i hi => ?_⟩⟩
  · obtain ⟨x, hx, _, hbx⟩ := hbl b hb
    exact hfr.own b (List.mem_flatMap.2 ⟨x, hx, hbx⟩)
  · show H.bl (f i) = _
    rw [hfix i (by rw [← cx.h0]; exact hi)]
    exact hfr.le.bl i hi
  · show H.sv (f i) = _
    rw [hfix i (by rw [← cx.h0]; exact hi)]
    exact hfr.le.sv i hi

theorem JK.weaken {k : List It} {s : St} (f : Nat → Nat) (I : St) (hl : Le cx.n0 f I s) (h : JK cx T k I) : JK cx T k s := fun H a w hg hs ha => by
  obtain ⟨H', hg', hs', ha'⟩ := GK.weaken hg hs ha hl
  exact h H' a w hg' hs' ha'

/-- An end that comes from within. -/
def outT (cx : Cx) (T : Post) (k : List It) (e : Exit) (s : St) : Prop :=
  match e with
  | .normal => False
  | .exit id => (match exitTo id k with | some k' => JK cx T k' s | none => T (.exit id) s)
  | e => T e s

theorem cont_out {k : List It} {e : Exit} {H : Hid} {s : St} {a : Act} {w : World} (hg : GlOk cx.pg H) (hs : Sim cx H s w) (ha : ActOk cx H s.ρ a) (h : outT cx T k e s) : cont cx.pg.P (post cx T) k e a w := by
  cases e with
  | normal => exact h.elim
  | exit id =>
    rw [cont_exit]
    simp only [outT] at h
    cases hx : exitTo id k with
    | none => rw [hx] at h; exact ⟨H, s, hs, ha, h⟩
    | some k' => rw [hx] at h; exact h H a w hg hs ha
  | ret => rw [cont_ret]; exact ⟨H, s, hs, ha, h⟩
  | panic ch => rw [cont_panic]; exact ⟨H, s, hs, ha, h⟩
  | goto l =>
    have : ∀ (k : List It), cont cx.pg.P (post cx T) k (.goto l) a w = post cx T (.goto l) a w := by
      intro k
      induction k with
      | nil => rfl
      | cons x r ih => cases x with
        | code c => exact ih
        | blk i => exact ih
        | ops q all rest => cases q <;> exact ih
    rw [this]; exact ⟨H, s, hs, ha, h⟩
  | outgrown =>
    have : ∀ (k : List It), cont cx.pg.P (post cx T) k .outgrown a w = post cx T .outgrown a w := by
      intro k
      induction k with
      | nil => rfl
      | cons x r ih => cases x with
        | code c => exact ih
        | blk i => exact ih
        | ops q all rest => cases q <;> exact ih
    rw [this]; exact ⟨H, s, hs, ha, h⟩

/-- What a round of a loop comes to. -/
def roundT {α : Type} (cx : Cx) (T : Post) (k : List It) (I : α → St) (pre : α → Prop) (m : α → Nat) (x : α) : Post := fun e s =>
  match e with
  | .normal => ∃ (y : α) (f : Nat → Nat), Le cx.n0 f (I y) s ∧ pre y ∧ m y < m x
  | e => outT cx T k e s

/-- A LOOP. 'I': what the state is at its head, of ghost variables 'x' of which 'pre' holds; 'm' goes down. -/
theorem JK.loop {α : Type} {c : Code} {k : List It} {s : St} (I : α → St) (pre : α → Prop) (m : α → Nat) (x0 : α) (f0 : Nat → Nat) (h0 : Le cx.n0 f0 (I x0) s) (hp : pre x0)
    (body : ∀ x, pre x → JK cx (roundT cx T k I pre m x) [.code c] (I x)) : JK cx T (.code (.loop c) :: k) s := by
  intro H a w hg hs ha
  obtain ⟨H1, hg1, hs1, ha1⟩ := GK.weaken hg hs ha h0
  refine wp_loop_ghost (fun n a w => ∃ H x, GlOk cx.pg H ∧ Sim cx H (I x) w ∧ ActOk cx H (I x).ρ a ∧ pre x ∧ m x = n) (m x0) ⟨H1, x0, hg1, hs1, ha1, hp, rfl⟩ ?_
  rintro n a w ⟨H, x, hg, hs, ha, hpx, rfl⟩
  have hb := body x hpx H a w hg hs ha
  have hgx : ∀ {H' : Hid}, Hid.le cx.H0 H' → GlOk cx.pg H' := fun hle => cx.g0.mono hle
  refine Code.wp_mono (fun e a' w' hq => ?_) hb
  obtain ⟨H', s', hs', ha', hT⟩ := hq
  cases e with
  | normal =>
    obtain ⟨y, f, hl, hpy, hm⟩ := hT
    obtain ⟨H2, hg2, hs2, ha2⟩ := GK.weaken (hgx hs'.fr.le) hs' ha' hl
    exact ⟨m y, hm, H2, y, hg2, hs2, ha2, hpy, rfl⟩
  | exit id => exact cont_out (hgx hs'.fr.le) hs' ha' hT
  | goto l => exact cont_out (hgx hs'.fr.le) hs' ha' hT
  | ret => exact cont_out (hgx hs'.fr.le) hs' ha' hT
  | panic ch => exact cont_out (hgx hs'.fr.le) hs' ha' hT
  | outgrown => exact cont_out (hgx hs'.fr.le) hs' ha' hT
end
end Go.GK
