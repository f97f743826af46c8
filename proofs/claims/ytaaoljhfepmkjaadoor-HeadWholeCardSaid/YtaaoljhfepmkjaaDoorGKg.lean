/-
  The ghost machine: nil slices within own variables; bools as arguments.
-/
import Derived.Test.YtaaoljhfepmkjaaDoorGKf
namespace Go.GK
open Go.RowKit

section
variable {cx : Cx} {T : Post}

/-- A nil slice within an own variable is an own row without elements. -/
theorem JK.ownNilB {k : List It} {s : St} (id j ty sz : Nat) {tb : Nat} {cs : List GV} (hl : hlook s.σ id = some (.blk tb cs)) (hj : cs[j]? = some (.v (.slice none 0 0)))
    (h : nfN (s.n + 1) fun m => nfH ((s.n, .row ty sz []) :: hset s.σ id (.blk tb (cs.set j (.o s.n)))) fun σ => JK cx T k ⟨s.ρ, σ, m⟩) : JK cx T k s := by
  rw [nfN_eq, nfH_eq] at h
  refine JK.upd _ (fun H a w hg hs ha => ?_) h
  have hle := H.le_more 0 (.slice none 0 0)
  have e : (H.more 0 (.slice none 0 0)).sv s.n = .slice none 0 0 := by simp [Hid.more, hs.n]
  have hs1 : Sim cx (H.more 0 (.slice none 0 0)) ⟨s.ρ, (s.n, .row ty sz []) :: s.σ, s.n + 1⟩ w := by
    refine hs.grow hle rfl (by simp [Hid.more, hs.n]) (Below.refl _ _) ?_ (by simp [blocks, e, Value.ownBlock]) (by simp [blocks, e, Value.ownBlock]) _
    exact ⟨[], ⟨by simp, .inl ⟨e, rfl⟩⟩, ⟨by simp, by simp, by simp, by simp⟩⟩
  have hid : id < s.n := by have := hs.sat.ids _ (hlook_mem hl); rw [hs.n] at this; exact this
  have hbeq : Nat.beq s.n id = false := by
    cases hb : Nat.beq s.n id with
    | false => rfl
    | true => have := beq_eq hb; omega
  have hl1 : hlook ((s.n, Res.row ty sz []) :: s.σ) id = some (.blk tb cs) := by unfold hlook; rw [hbeq]; exact hl
  have hset1 : hset ((s.n, Res.row ty sz []) :: s.σ) id (.blk tb (cs.set j (.o s.n))) = (s.n, .row ty sz []) :: hset s.σ id (.blk tb (cs.set j (.o s.n))) := by
    rw [hset, hbeq]; rfl
  obtain ⟨us, hw, hlen, his⟩ := hs1.sat.holds _ (hlook_mem hl1)
  have hs2 := hs1.put (y := .blk tb (cs.set j (.o s.n))) (w' := w) hl1 rfl rfl rfl rfl (Nat.le_refl _) (fun _ _ _ => rfl) ⟨us, hw, by simp [hlen], fun i g hi => by
    by_cases hij : j = i
    · subst hij
      have hlt : j < cs.length := (List.getElem?_eq_some_iff.1 hj).1
      rw [List.getElem?_set_self hlt] at hi
      cases hi
      have hv := (his j _ hj).inv_v
      rw [hv]
      exact .o (by simp [Hid.more, hs.n]) e rfl
    · rw [List.getElem?_set_ne hij] at hi
      exact his i g hi⟩ s.ρ
  rw [hset1] at hs2
  exact ⟨_, hg.mono hle, hs2, ha.mono hle⟩
end

/-- A bool that is known, where one that is not is asked for. -/
theorem Ct.bv {p : Pg} {f : FuncId} {n0 : Nat} {pre suf : List GV} {c : Bool} {σ : Heap} {Q : GV → Heap → Nat → Prop} (h : Ct p f n0 (pre ++ .b c :: suf) σ Q) : Ct p f n0 (pre ++ .v (.bool c) :: suf) σ Q := fun H us w hn hg hc hs => by
  refine h H us w hn hg ⟨by simpa using hc.1, fun j g hj => ?_⟩ hs
  rcases Nat.lt_trichotomy j pre.length with hlt | rfl | hlt
  · rw [List.getElem?_append_left hlt] at hj
    exact hc.2 j g (by rw [List.getElem?_append_left hlt]; exact hj)
  · rw [List.getElem?_append_right (Nat.le_refl _), Nat.sub_self] at hj
    simp at hj
    subst hj
    have := hc.2 pre.length (.v (.bool c)) (by rw [List.getElem?_append_right (Nat.le_refl _), Nat.sub_self]; rfl)
    rw [this.inv_v]
    exact .ro (.b c)
  · rw [List.getElem?_append_right (by omega)] at hj
    have e : j - pre.length = (j - pre.length - 1) + 1 := by omega
    rw [e] at hj
    refine hc.2 j g ?_
    rw [List.getElem?_append_right (by omega), e]
    simpa using hj
end Go.GK


namespace Go.GK
open Go.RowKit

section
variable {cx : Cx} {T : Post}

/-- What a round of a loop comes to, where what holds behind the loop is stated: 'E'. -/
def roundE {α β : Type} (cx : Cx) (T : Post) (k : List It) (id : Nat) (I : α → St) (pre : α → Prop) (m : α → Nat) (E : β → St) (q : β → Prop) (x : α) : Post := fun e s =>
  match e with
  | .normal => ∃ (y : α) (f : Nat → Nat), Le cx.n0 f (I y) s ∧ pre y ∧ m y < m x
  | .exit j => bif Nat.beq j id then ∃ (y : β) (f : Nat → Nat), Le cx.n0 f (E y) s ∧ q y else outT cx T k (.exit j) s
  | e => outT cx T k e s

/-- A LOOP with a stated end: all ways out of it by its own block come to 'E'. -/
theorem JK.loopE {α β : Type} {c : Code} {id : Nat} {k : List It} {s : St} (I : α → St) (pre : α → Prop) (m : α → Nat) (E : β → St) (q : β → Prop) (x0 : α) (f0 : Nat → Nat) (h0 : Le cx.n0 f0 (I x0) s) (hp : pre x0)
    (body : ∀ x, pre x → JK cx (roundE cx T (.blk id :: k) id I pre m E q x) [.code c] (I x)) (hE : ∀ y, q y → JK cx T k (E y)) : JK cx T (.code (.loop c) :: .blk id :: k) s := by
  intro H a w hg hs ha
  obtain ⟨H1, hg1, hs1, ha1⟩ := GK.weaken hg hs ha h0
  refine wp_loop_ghost (fun n a w => ∃ H x, GlOk cx.pg H ∧ Sim cx H (I x) w ∧ ActOk cx H (I x).ρ a ∧ pre x ∧ m x = n) (m x0) ⟨H1, x0, hg1, hs1, ha1, hp, rfl⟩ ?_
  rintro n a w ⟨H, x, hg, hs, ha, hpx, rfl⟩
  have hb := body x hpx H a w hg hs ha
  have hgx : ∀ {H' : Hid}, Hid.le cx.H0 H' → GlOk cx.pg H' := fun hle => cx.g0.mono hle
  refine Code.wp_mono (fun e a' w' hq => ?_) hb
  obtain ⟨H', s', hs', ha', hT⟩ := hq
  cases e with
  | normal =>
    obtain ⟨y, f, hl, hpy, hm⟩ := hT
    obtain ⟨H2, hg2, hs2, ha2⟩ := GK.weaken (hgx hs'.fr.le) hs' ha' hl
    exact ⟨m y, hm, H2, y, hg2, hs2, ha2, hpy, rfl⟩
  | exit j =>
    simp only [roundE] at hT
    cases hj : Nat.beq j id with
    | false =>
      rw [hj] at hT
      exact cont_out (hgx hs'.fr.le) hs' ha' hT
    | true =>
      rw [hj] at hT
      have := beq_eq hj
      subst this
      obtain ⟨y, f, hl, hy⟩ := hT
      obtain ⟨H2, hg2, hs2, ha2⟩ := GK.weaken (hgx hs'.fr.le) hs' ha' hl
      show cont _ _ (.blk j :: k) (.exit j) a' w'
      simp only [cont, if_true]
      exact hE y hy H2 a' w' hg2 hs2 ha2
  | goto l => exact cont_out (hgx hs'.fr.le) hs' ha' hT
  | ret => exact cont_out (hgx hs'.fr.le) hs' ha' hT
  | panic ch => exact cont_out (hgx hs'.fr.le) hs' ha' hT
  | outgrown => exact cont_out (hgx hs'.fr.le) hs' ha' hT

/-- Where ways meet: what is left is proved once, from 'E' on. -/
theorem JK.meet {β : Type} {k : List It} {s : St} (E : β → St) (q : β → Prop) (hE : ∀ y, q y → JK cx T k (E y)) (h : ∃ (y : β) (f : Nat → Nat), Le cx.n0 f (E y) s ∧ q y) : JK cx T k s := by
  obtain ⟨y, f, hl, hy⟩ := h
  exact (hE y hy).weaken f (E y) hl
end
end Go.GK


namespace Go.GK
open Go.RowKit

section
variable {cx : Cx} {T : Post}

/-- A PIECE OF AN OWN SLICE. -/
theorem JK.sliceO {all : List Oper} {o : Oper} {rest : List Oper} {k : List It} {s : St} {t e : TypeId} {x : Operand} {lo hi : Option Operand} {id ty sz : Nat} {rows : List (List GV)} (hp : cx.pg.Ok) (ho : o.op = .slice t x lo hi none) (hgd : gdOk all s.ρ o.guard = true)
    {ti tie : TI} (ht : tget cx.pg.tt t = some ti) (htd : ti.d = .slice e) (hte : tget cx.pg.tt e = some tie) (hsz : tie.sz = sz) (hx : ev cx.pg s.ρ x = some (.o id)) (hl : hlook s.σ id = some (.row ty sz rows)) {l h : Int} (hlo : bnd cx.pg s.ρ 0 lo = some l) (hhi : bnd cx.pg s.ρ rows.length hi = some h)
    (h0 : 0 ≤ l) (h1 : l ≤ h) (h2 : h ≤ rows.length)
    (hk : nfN (s.n + 1) fun m => dput cx.N s.ρ o.dst (.o s.n) fun ρ' => JK cx T (.ops false all rest :: k) ⟨ρ', (s.n, .sub id sz l.toNat (h.toNat - l.toNat)) :: s.σ, m⟩) : JK cx T (.ops false all (o :: rest) :: k) s := by
  rw [nfN_eq] at hk
  intro H a w hg hs ha
  have hw := gdOk_wanted (o := o) ha.env hgd
  have hu : cx.pg.P.underlying t = some (.slice e) := by have := (hp.tt _ _ ht).d; rw [htd] at this; exact this
  have hes := (hp.tt _ _ hte).size
  obtain ⟨hv, hid⟩ := (ev_is hg ha.env hx).inv_o
  obtain ⟨xs, hown, hrow⟩ := hs.sat.holds _ (hlook_mem hl)
  have hA : ∃ A c, H.sv id = .slice A rows.length c ∧ rows.length ≤ c ∧ c ≤ maxLen ∧ (A = none → c = 0) ∧ (0 < rows.length → ∃ g, A = some ⟨g, 0, none⟩) := by
    rcases hown.2 with ⟨he, hn⟩ | ⟨g, cap, cur, he, _, _, hc, hm, _⟩
    · exact ⟨none, 0, by rw [he, hn], by omega, by simp [maxLen], fun _ => rfl, fun h => by omega⟩
    · exact ⟨_, cap, he, hc, hm, (fun h => by cases h), fun _ => ⟨g, rfl⟩⟩
  obtain ⟨A, c, hsv, hc, hm, hz, hA⟩ := hA
  have hrun : (execOp a.eval o).run cx.pg.P w = .ok (.value (.slice (if c = l.toNat then A else A.map (·.add (l.toNat * sz))) (h.toNat - l.toNat) (c - l.toNat))) w := by
    have hb := run_bounds (p := cx.pg) (isS := true) hg ha.env hlo hhi h0 h1 h2 hc w
    simp only [execOp, ho, Instr.sliceAt, Sem.run_bind, run_under hu, Result.andThen_ok, Instr.slice, hv, hsv, Option.map_none, hb, hes, hsz]
    rfl
  have hle := H.le_more 0 (.slice (if c = l.toNat then A else A.map (·.add (l.toNat * sz))) (h.toNat - l.toNat) (c - l.toNat))
  have e : (H.more 0 (.slice (if c = l.toNat then A else A.map (·.add (l.toNat * sz))) (h.toNat - l.toNat) (c - l.toNat))).sv s.n = .slice (if c = l.toNat then A else A.map (·.add (l.toNat * sz))) (h.toNat - l.toNat) (c - l.toNat) := by simp [Hid.more, hs.n]
  have hidn : id < s.n := by rw [← hs.n]; exact hid
  have esv : (H.more 0 (.slice (if c = l.toNat then A else A.map (·.add (l.toNat * sz))) (h.toNat - l.toNat) (c - l.toNat))).sv id = H.sv id := hle.sv id hid
  have hs1 := fun ρ => hs.grow (r := .sub id sz l.toNat (h.toNat - l.toNat)) (w' := w) hle rfl (by simp [Hid.more, hs.n]) (Below.refl _ _) (by
    refine ⟨Nat.lt_of_lt_of_le hid hle.n, _, _, e, by omega, by omega, fun hn => ?_, fun hn => ?_⟩
    · have : A = none := by
        split at hn
        · exact hn
        · cases A with
          | none => rfl
          | some a => cases hn
      rw [hz this]; omega
    · obtain ⟨g, rfl⟩ := hA (by omega)
      refine ⟨g, rows.length, c, by rw [esv]; exact hsv, by omega, ?_⟩
      rw [if_neg (by omega)]
      simp [addr_add_none]) (by simp [blocks]) (by simp [blocks]) ρ
  obtain ⟨ρ', ha', hJ⟩ := (ha.mono hle).dput (u := .slice (if c = l.toNat then A else A.map (·.add (l.toNat * sz))) (h.toNat - l.toNat) (c - l.toNat)) (.o (by simp [Hid.more, hs.n]) e rfl) hk
  exact wpList_run hw hrun (hJ _ (a.put o.dst _) w (hg.mono hle) (hs1 ρ') ha')

/-- What is lent: own slices, and pieces of them, as slices that nobody writes. -/
def lent (σ : Heap) : GV → GV → Prop
  | .o m, .sl sz rows => match hlook σ m with
    | some (.row _ z rs) => z = sz ∧ rows = rs
    | some (.sub id z lo n) => z = sz ∧ (match hlook σ id with
      | some (.row _ z' rs) => z' = z ∧ lo + n ≤ rs.length ∧ rows = (rs.drop lo).take n
      | _ => False)
    | _ => False
  | g, g' => g = g' ∧ idb 0 g = true

def lents (σ : Heap) : List GV → List GV → Prop
  | [], [] => True
  | g :: gs, g' :: gs' => lent σ g g' ∧ lents σ gs gs'
  | _, _ => False

theorem lents_spec {σ : Heap} : ∀ {gs cs : List GV}, lents σ gs cs → gs.length = cs.length ∧ ∀ (j : Nat) (c : GV), cs[j]? = some c → ∃ g, gs[j]? = some g ∧ lent σ g c
  | [], [], _ => ⟨rfl, fun j c h => by simp at h⟩
  | g :: gs, c :: cs, h => by
    obtain ⟨h1, h2⟩ := h
    obtain ⟨i1, i2⟩ := lents_spec h2
    refine ⟨by simp [i1], fun j x hx => ?_⟩
    cases j with
    | zero => simp at hx; subst hx; exact ⟨g, rfl, h1⟩
    | succ j => obtain ⟨y, hy, hl⟩ := i2 j x (by simpa using hx); exact ⟨y, by simpa using hy, hl⟩
  | [], _ :: _, h => h.elim
  | _ :: _, [], h => h.elim

/-- What a value without own parts and without slices says, it says anywhere. -/
theorem Is.free {H H' : Hid} {g : GV} {u : Value} (h : Is H g u) (h1 : idb 0 g = true) (h2 : roFree g = true) : Is H' g u := by
  have e1 : Is (H.via id 0) g u := by
    rw [← ren_id g] at h
    exact ren_back h h1
  have e2 : Is ((H.via id 0).at (fun _ => none)) g u := roFree_at e1 h2
  exact e2.mono ⟨Nat.zero_le _, fun b o h => (by cases h), fun i hi => absurd hi (Nat.not_lt_zero _), fun i hi => absurd hi (Nat.not_lt_zero _)⟩

theorem lent_is {H Hb : Hid} {σ : Heap} {w : World} (hs : Sat H σ w) (hro : ∀ b, Hb.ro b = w.heap[b]?) {g c : GV} {u : Value} (hl : lent σ g c) (h : Is H g u) : Is Hb c u := by
  have hmono : ∀ b o, H.ro b = some o → Hb.ro b = some o := fun b o hb => by rw [hro]; exact hs.ro b o hb
  have plain : g = c ∧ idb 0 g = true → Is Hb c u := fun ⟨e, hi⟩ => by
    subst e
    have e1 : Is (H.via id 0) g u := by rw [← ren_id g] at h; exact ren_back h hi
    have hle : (H.via id 0).le Hb := ⟨Nat.zero_le _, hmono, fun i hi => absurd hi (Nat.not_lt_zero _), fun i hi => absurd hi (Nat.not_lt_zero _)⟩
    exact e1.mono hle
  cases g with
  | o m =>
    cases c with
    | sl sz rows =>
      obtain ⟨hv, hm⟩ := h.inv_o
      simp only [lent] at hl
      split at hl
      · rename_i ty z rs hlk
        obtain ⟨rfl, rfl⟩ := hl
        obtain ⟨xs, hown, hrow⟩ := hs.holds _ (hlook_mem hlk)
        rw [hv]
        exact .ro (hrow.sl hmono hown (fun b _ => hro b))
      · rename_i i z lo n hlk
        obtain ⟨rfl, hl⟩ := hl
        split at hl
        · rename_i ty z' rs hlk'
          obtain ⟨rfl, hle, rfl⟩ := hl
          obtain ⟨_, A, c, hsv, hnc, hcm, hz, hA⟩ := hs.holds _ (hlook_mem hlk)
          obtain ⟨xs, hown, hrow⟩ := hs.holds _ (hlook_mem hlk')
          have hsl := hrow.sl (ro' := Hb.ro) hmono hown (fun b _ => hro b)
          obtain ⟨A', c', us, hv', _, _, hrl, hne⟩ := hsl.inv_sl
          have hlen : ((rs.drop lo).take n).length = n := by simp; omega
          rw [hv, hsv]
          by_cases hn : n = 0
          · subst hn
            simp only [List.take_zero]
            cases A with
            | none =>
              rw [hz rfl]
              exact .ro .slnil
            | some ad => exact .ro (.sl (fun _ _ => .bool false) (by simp) (by simp) hcm (fun i row hr => by simp at hr) (fun i row hr => by simp at hr) (fun _ _ => rfl))
          · obtain ⟨g, l', c2, hsi, hll, rfl⟩ := hA (by omega)
            have hrs : rs ≠ [] := fun e => by
              have h0 : rs.length = 0 := by rw [e]; rfl
              omega
            obtain ⟨ad, hA', h3, h4, h5⟩ := hne hrs
            rw [hsi] at hv'
            subst hA'
            injection hv' with e1 e2 e3
            injection e1 with e1
            subst e1
            have hget : ∀ i row, ((rs.drop lo).take n)[i]? = some row → rs[lo + i]? = some row := fun i row hr => by
              rw [List.getElem?_take] at hr
              split at hr
              · rwa [List.getElem?_drop] at hr
              · cases hr
            have key := IsR.sl (ro := Hb.ro) (ad := ⟨g, lo * z', none⟩) (sz := z') (rows := (rs.drop lo).take n) (c := c) (fun i j => us (lo + i) j) (fun row hr => hrl row (List.mem_of_mem_drop (List.mem_of_mem_take hr))) (by rw [hlen]; exact hnc) hcm (fun i row hr j gv hj => by
              have := h3 _ _ (hget i row hr) j gv hj
              rw [addr_add_none] at this ⊢
              rw [show lo * z' + (i * z' + j) = 0 + ((lo + i) * z' + j) by rw [Nat.add_mul]; omega]
              exact this) (fun i row hr j gv hj => h4 _ _ (hget i row hr) j gv hj) (fun i j => h5 _ _)
            rw [hlen] at key
            exact .ro key
        · exact hl.elim
      · exact hl.elim
    | _ => exact plain hl
  | _ => exact plain (by cases c <;> exact hl)

/-- A CALL TO WHICH OWN SLICES ARE LENT: it hands back nothing of them. 'cargs': the arguments, own slices as slices that nobody writes. -/
theorem JK.callB {all : List Oper} {o : Oper} {rest : List Oper} {k : List It} {s : St} {fo : Operand} {args : Array Operand} {ts : Array TypeId} {f : FuncId} {first caps gs : List GV} {cargs : List GV} {Q : GV → Heap → Nat → Prop}
    (hct : Ct cx.pg f 0 cargs [] Q) (hcall : ∀ as w, (callFunc f as).run cx.pg.P w = .ok (.enter f as) w)
    (ho : o.op = .call { callee := .value fo, args := args, argTypes := ts }) (hgd : gdOk all s.ρ o.guard = true) (hf : ev cx.pg s.ρ fo = some (.fn (.func f) first caps)) (he : evs cx.pg s.ρ args.toList = some gs)
    (hl : lents s.σ (first ++ gs ++ caps) cargs) (hQ : ∀ g σ' n', Q g σ' n' → (idb 0 g && roFree g) = true)
    (h : ∀ g σ' n', Q g σ' n' → nf g fun g => dput cx.N s.ρ o.dst g fun ρ' => JK cx T (.ops false all rest :: k) ⟨ρ', s.σ, s.n⟩) :
    JK cx T (.ops false all (o :: rest) :: k) s := by
  intro H a w hg hs ha
  have hw := gdOk_wanted (o := o) ha.env hgd
  obtain ⟨us, hc, hex⟩ := execOp_call (ts := ts) hg ha.env hf he hcall
  let Hb : Hid := ⟨fun b => w.heap[b]?, fun _ => 0, fun _ => .bool false, 0⟩
  obtain ⟨hlen, hlent⟩ := lents_spec hl
  have hcb : Cells Hb cargs us := ⟨by rw [← hlen]; exact hc.1, fun j c hj => by
    obtain ⟨g, hgj, hl⟩ := hlent j c hj
    exact lent_is hs.sat (fun _ => rfl) hl (hc.2 j g hgj)⟩
  have hgb : GlOk cx.pg Hb := fun g gv hgv => (hg g gv hgv).mono (fun b o hb => hs.sat.ro b o hb)
  show wpList _ _ _ _ _ _
  unfold wpList
  rw [if_pos hw]
  refine .inl ?_
  unfold Oper.wp
  rw [hex o ho w, Oper.upon_enter]
  refine (hct Hb us w rfl hgb hcb ⟨fun b o h => h, by simp, by simp [blks], by simp [blks], by simp⟩).mono ?_
  rintro e w' ⟨u, g, H', σ', rfl, hi, hs', hfr, hq⟩
  have hbel : Below w.heap.size w w' := ⟨hfr.os, hfr.tape, hfr.output, hfr.size, fun b hb => hfr.keep b hb (by simp [blks])⟩
  have hchk := hQ g σ' _ hq
  simp only [Bool.and_eq_true] at hchk
  have hi' : Is H g u := hi.free hchk.1 hchk.2
  have hd := h g σ' _ hq
  rw [nf_eq] at hd
  obtain ⟨ρ', ha', hJ⟩ := ha.dput hi' hd
  exact hJ H (a.put o.dst u) w' hg ((hs.below hbel).ρ ρ') ha'
end
end Go.GK


namespace Go.GK
open Go.RowKit

section
variable {p : Pg}

theorem cells_vals {H : Hid} {vs : List Value} {us : Array Value} (h : Cells H (vs.map .v) us) : us = vs.toArray := by
  obtain ⟨hl, hi⟩ := h
  refine Array.ext (by simpa using hl.symm) (fun i h1 h2 => ?_)
  have h2' : i < vs.length := by simpa using h2
  have := (hi i (.v vs[i]) (by simp [h2'])).inv_v
  rw [Array.getD, dif_pos h1] at this
  simpa using this

theorem Fr.of_below {H : Hid} {w w' : World} (hb : Below w.heap.size w w') : Fr H [] w H [] w' :=
  ⟨hb.os, hb.tape, hb.output, hb.size, fun b h _ => hb.block b h, fun _ h => (List.not_mem_nil h).elim, fun _ h1 h2 => (h2 h1).elim, Hid.le.refl H⟩

theorem Ct.of_below {f : FuncId} (vs : List Value) (g : Value) (h : ∀ w, Calls p.P f vs.toArray w fun e w' => e = .returned g ∧ Below w.heap.size w w') : Ct p f 0 (vs.map .v) [] (Val fun x => x = .v g) := by
  intro H us w hn hg hc hs
  rw [cells_vals hc]
  refine Calls.mono (h w) (fun e w' he => ?_)
  obtain ⟨rfl, hb⟩ := he
  exact ⟨g, .v g, H, [], rfl, .ro (.v g), hs.below hb, Fr.of_below hb, rfl, rfl, hn⟩
end
end Go.GK


namespace Go.GK
open Go.RowKit

section
variable {p : Pg}

/-- A package-level variable's one cell. -/
theorem GlOk.cell {H : Hid} {σ : Heap} {w : World} (hg : GlOk p H) (hs : Sat H σ w) {g : Nat} {x : Value} (h : look p.gl g = some (.r [.v x])) : w.cell? ⟨g, 0, none⟩ = some x := by
  have h1 := hg g _ h
  cases h1 with
  | r us h1 h2 =>
    have e := h1 0 (.v x) rfl
    have e2 := h2 0 (.v x) rfl
    cases e2
    rw [show (⟨g, 0, none⟩ : Addr).add 0 = ⟨g, 0, none⟩ from rfl] at e
    rw [roCell_cell hs.ro e]

theorem Ct.set1 {f : FuncId} {t1 t2 ty : TypeId} (m old x r : Value) {G : World → Prop} (hG : ∀ (H : Hid) (σ : Heap) (w : World), GlOk p H → Sat H σ w → G w)
    (h : ∀ t w, G w → w.cell? t = some old → w.frozen? t = false → Calls p.P f #[.iface t1 m, .iface t2 (.pointer (some t))] w fun e w' => e = .returned r ∧ ∃ w5, Below w.heap.size w w5 ∧ w' = w5.setCell t x) :
    Ct p f 1 [.ifc t1 (.v m), .ifc t2 (.p 0 0)] [(0, .blk ty [.v old])] (fun g σ n => g = .v r ∧ σ = [(0, .blk ty [.v x])] ∧ n = 1) := by
  intro H us w hn hg hc hs
  obtain ⟨hl, hi⟩ := hc
  have hu : us = #[.iface t1 m, .iface t2 (.pointer (some ⟨H.bl 0, 0, none⟩))] := by
    have h0 := hi 0 _ rfl
    have h1 := hi 1 _ rfl
    obtain ⟨u0, e0, i0⟩ := h0.inv_ifc
    obtain ⟨u1, e1, i1⟩ := h1.inv_ifc
    have e2 := i0.inv_v
    have e3 := i1.inv_p
    refine Array.ext (by simpa using hl.symm) (fun i h1 h2 => ?_)
    have h2' : i < 2 := by simpa using h2
    have eg : ∀ j (hj : j < us.size), us.getD j undef = us[j] := fun j hj => by rw [Array.getD, dif_pos hj]; rfl
    match i, h2' with
    | 0, _ => rw [← eg 0 h1, e0, e2]; rfl
    | 1, _ => rw [← eg 1 h1, e1, e3.1]; rfl
  subst hu
  have hb := hs.holds (0, .blk ty [.v old]) (by simp)
  obtain ⟨cs, hh, hl2, hi2⟩ := hb
  have hcs : cs = #[old] := by
    have := cells_vals (vs := [old]) (us := cs) ⟨hl2, hi2⟩
    simpa using this
  subst hcs
  have hid : (0 : Nat) < H.n := hs.ids (0, .blk ty [.v old]) (by simp)
  refine Calls.mono (h ⟨H.bl 0, 0, none⟩ w (hG H _ w hg hs) (by unfold World.cell?; rw [hh]; rfl) (by unfold World.frozen?; rw [hh]; rfl)) (fun e w' he => ?_)
  obtain ⟨rfl, w5, hb5, rfl⟩ := he
  have hs5 := hs.below hb5
  have hlt : H.bl 0 < w.heap.size := (Array.getElem?_eq_some_iff.1 hh).1
  have hh5 : w5.heap[H.bl 0]? = some (.cells #[old] ty (0, 0)) := by rw [hb5.block _ hlt]; exact hh
  have hset : (w5.setCell ⟨H.bl 0, 0, none⟩ x).heap[H.bl 0]? = some (.cells #[x] ty (0, 0)) := by
    simp only [World.setCell, Array.getElem?_modify, if_true, hh5]
    rfl
  have hoth : ∀ b, b ≠ H.bl 0 → (w5.setCell ⟨H.bl 0, 0, none⟩ x).heap[b]? = w5.heap[b]? := fun b hb => Below.heap_setCell _ _ _ _ hb
  refine ⟨r, .v r, H, [(0, .blk ty [.v x])], rfl, .ro (.v r), ⟨fun b o hr => ?_, ?_, by simp [blks, blocks], ?_, by simpa using hid⟩, ?_, rfl, rfl, hn⟩
  · rw [hoth b (fun e => ?_)]
    · exact hs5.ro b o hr
    · have := hs.free (H.bl 0) (by simp [blks, blocks])
      rw [← e, hr] at this
      cases this
  · intro y hy
    simp only [List.mem_singleton] at hy
    subst hy
    refine ⟨#[x], hset, rfl, fun j g hj => ?_⟩
    cases j with
    | zero => simp at hj; subst hj; exact .ro (.v x)
    | succ j => simp at hj
  · intro b hb
    exact hs.free b (by simpa [blks, blocks] using hb)
  · refine ⟨hb5.os, hb5.tape, hb5.output, ?_, fun b h1 h2 => ?_, fun b hb => .inl (by simpa [blks, blocks] using hb), fun b h1 h2 => (h2 h1).elim, Hid.le.refl H⟩
    · have := hb5.size
      simpa [World.setCell] using this
    · rw [hoth b (fun e => h2 (by simp [blks, blocks, e]))]
      exact hb5.block b h1
end
end Go.GK


namespace Go.GK
open Go.RowKit

section
variable {cx : Cx} {T : Post}

theorem JK.tassert {all : List Oper} {o : Oper} {rest : List Oper} {k : List It} {s : St} {x : Operand} {xT asserted t : TypeId} {g r : GV} (hf : ∀ (H : Hid) (u : Value) (w : World), Is H g u → ∃ v, (Instr.typeAssert (.iface t u) xT asserted true).run cx.pg.P w = .ok v w ∧ Is H r v)
    (ho : o.op = .typeAssert x xT asserted true) (hgd : gdOk all s.ρ o.guard = true) (hx : ev cx.pg s.ρ x = some (.ifc t g))
    (hk : nf r fun r => dput cx.N s.ρ o.dst r fun ρ' => JK cx T (.ops false all rest :: k) ⟨ρ', s.σ, s.n⟩) : JK cx T (.ops false all (o :: rest) :: k) s := by
  intro H a w hg hs ha
  have hw := gdOk_wanted (o := o) ha.env hgd
  obtain ⟨u, hu, hi⟩ := (ev_is hg ha.env hx).inv_ifc
  obtain ⟨v, hr, hv⟩ := hf H u w hi
  have hrun : (execOp a.eval o).run cx.pg.P w = .ok (.value v) w := by
    simp only [execOp, ho, hu, Sem.run_bind, hr, Result.andThen_ok]
    rfl
  rw [nf_eq] at hk
  obtain ⟨ρ', ha', hJ⟩ := ha.dput hv hk
  exact wpList_run hw hrun (hJ H (a.put o.dst v) w hg (hs.ρ ρ') ha')

theorem gl_one {H : Hid} {w : World} (hro : H.ro = roOf w) {g : Nat} {x : Value} (h : w.cell? ⟨g, 0, none⟩ = some x) : IsR H.ro (.r [.v x]) (.pointer (some ⟨g, 0, none⟩)) := by
  refine .r (fun _ => x) (fun j gv hj => ?_) (fun j gv hj => ?_)
  · cases j with
    | zero =>
      rw [hro]
      exact h
    | succ j => simp at hj
  · cases j with
    | zero => simp at hj; subst hj; exact .v x
    | succ j => simp at hj
end
end Go.GK


namespace Go.GK
open Go.RowKit

mutual
/-- The same, but for how a bool is told. -/
def eqG : GV → GV → Prop
  | .b c, .v (.bool d) => d = c
  | .b c, .b d => d = c
  | .v (.bool c), .b d => d = c
  | .tup xs, .tup ys => eqGs xs ys
  | x, y => y = x
def eqGs : List GV → List GV → Prop
  | [], [] => True
  | x :: xs, y :: ys => eqG x y ∧ eqGs xs ys
  | _, _ => False
end

mutual
theorem eqG_is {H : Hid} : ∀ {x y : GV} {u : Value}, eqG x y → Is H y u → Is H x u
  | .tup xs, .tup ys, u, h, hi => by
    simp only [eqG] at h
    obtain ⟨us, rfl, hl, hi⟩ := hi.inv_tup
    obtain ⟨h1, h2⟩ := eqGs_is xs ys h hi
    exact .tup (by rw [h1]; exact hl) h2
  | .b c, y, u, h, hi => by
    cases y with
    | v x =>
      cases x with
      | bool d => simp only [eqG] at h; subst h; have := hi.inv_v; subst this; exact .ro (.b _)
      | _ => simp only [eqG] at h; cases h
    | b d => simp only [eqG] at h; subst h; exact hi
    | _ => simp only [eqG] at h; cases h
  | .v x, y, u, h, hi => by
    cases x with
    | bool c =>
      cases y with
      | b d => simp only [eqG] at h; subst h; have := hi.inv_b; subst this; exact .ro (.v _)
      | v z => simp only [eqG] at h; rw [← h]; exact hi
      | _ => simp only [eqG] at h; cases h
    | _ => simp only [eqG] at h; rw [← h]; exact hi
  | .tup xs, .v _, _, h, hi | .tup xs, .b _, _, h, hi | .tup xs, .p _ _, _, h, hi | .tup xs, .e _ _ _ _, _, h, hi | .tup xs, .o _, _, h, hi | .tup xs, .r _, _, h, hi | .tup xs, .sl _ _, _, h, hi | .tup xs, .agg _, _, h, hi | .tup xs, .fn _ _ _, _, h, hi | .tup xs, .ifc _ _, _, h, hi => by simp only [eqG] at h; cases h
  | .p _ _, y, _, h, hi | .e _ _ _ _, y, _, h, hi | .o _, y, _, h, hi | .r _, y, _, h, hi | .sl _ _, y, _, h, hi | .agg _, y, _, h, hi | .fn _ _ _, y, _, h, hi | .ifc _ _, y, _, h, hi => by simp only [eqG] at h; rw [← h]; exact hi
theorem eqGs_is {H : Hid} {F : Nat → Value} : ∀ (xs ys : List GV), eqGs xs ys → (∀ (j : Nat) (g : GV), ys[j]? = some g → Is H g (F j)) → xs.length = ys.length ∧ ∀ (j : Nat) (g : GV), xs[j]? = some g → Is H g (F j)
  | [], [], _, _ => ⟨rfl, fun j g hj => by simp at hj⟩
  | x :: xs, y :: ys, h, hi => by
    simp only [eqGs] at h
    obtain ⟨h1, h2⟩ := eqGs_is (F := fun j => F (j + 1)) xs ys h.2 (fun j g hj => hi (j + 1) g (by simpa using hj))
    refine ⟨by simp [h1], fun j g hj => ?_⟩
    cases j with
    | zero => simp at hj; subst hj; exact eqG_is h.1 (hi 0 y rfl)
    | succ j => exact h2 j g (by simpa using hj)
  | [], _ :: _, h, _ => by simp [eqGs] at h
  | _ :: _, [], h, _ => by simp [eqGs] at h
end

mutual
theorem eqG_idb : ∀ {x y : GV}, eqG x y → idb 0 y = true → idb 0 x = true
  | .tup xs, .tup ys, h, hi => by
    simp only [eqG] at h
    simp only [idb] at hi ⊢
    exact eqGs_idb xs ys h hi
  | .b c, y, _, _ => rfl
  | .v x, y, _, _ => rfl
  | .tup xs, .v _, h, hi | .tup xs, .b _, h, hi | .tup xs, .p _ _, h, hi | .tup xs, .e _ _ _ _, h, hi | .tup xs, .o _, h, hi | .tup xs, .r _, h, hi | .tup xs, .sl _ _, h, hi | .tup xs, .agg _, h, hi | .tup xs, .fn _ _ _, h, hi | .tup xs, .ifc _ _, h, hi => by simp only [eqG] at h; cases h
  | .p _ _, y, h, hi | .e _ _ _ _, y, h, hi | .o _, y, h, hi | .r _, y, h, hi | .sl _ _, y, h, hi | .agg _, y, h, hi | .fn _ _ _, y, h, hi | .ifc _ _, y, h, hi => by simp only [eqG] at h; rw [← h]; exact hi
theorem eqGs_idb : ∀ (xs ys : List GV), eqGs xs ys → idbL 0 ys = true → idbL 0 xs = true
  | [], [], _, _ => rfl
  | x :: xs, y :: ys, h, hi => by
    simp only [eqGs] at h
    simp only [idbL, Bool.and_eq_true] at hi ⊢
    exact ⟨eqG_idb h.1 hi.1, eqGs_idb xs ys h.2 hi.2⟩
  | [], _ :: _, h, _ => by simp [eqGs] at h
  | _ :: _, [], h, _ => by simp [eqGs] at h
end

mutual
theorem ren_none (f : Nat → Nat) : ∀ {g : GV}, idb 0 g = true → ren f g = g
  | .v _, _ | .b _, _ | .r _, _ | .sl _ _, _ => rfl
  | .p _ _, h | .e _ _ _ _, h | .o _, h => by simp [idb] at h
  | .agg cs, h => by simp only [idb] at h; simp only [ren, renL_none f cs h]
  | .tup cs, h => by simp only [idb] at h; simp only [ren, renL_none f cs h]
  | .fn g as cs, h => by simp only [idb, Bool.and_eq_true] at h; simp only [ren, renL_none f as h.1, renL_none f cs h.2]
  | .ifc t x, h => by simp only [idb] at h; simp only [ren, ren_none f h]
theorem renL_none (f : Nat → Nat) : ∀ (l : List GV), idbL 0 l = true → renL f l = l
  | [], _ => rfl
  | g :: r, h => by simp only [idbL, Bool.and_eq_true] at h; simp only [renL, ren_none f h.1, renL_none f r h.2]
end

/-- A FUNCTION that is given values, and hands back one of which Q holds; nothing else is changed. -/
structure Rq (p : Pg) (f : FuncId) (args : List GV) (Q : GV → Prop) : Prop where
  call : ∀ as w, (callFunc f as).run p.P w = .ok (.enter f as) w
  ct : Ct p f 0 args [] (Val fun g => Q g ∧ idb 0 g = true)
/-- .. and hands back this. -/
abbrev Rt (p : Pg) (f : FuncId) (args : List GV) (G : GV) : Prop := Rq p f args (· = G)

theorem Rq.of {p : Pg} {f : FuncId} {fn : Func} {c : Code} {N : Nat} {args : List GV} {Q : GV → Prop} (hp : p.Ok) (hf : p.P.funcs[f]? = some fn) (hb : fn.body = some c) (hN : fn.ntmps = N) (hl : Nat.ble args.length N = true) {rs : Array ResultVar} (hr : fn.results = rs)
    (hc : ∀ as w, (callFunc f as).run p.P w = .ok (.enter f as) w)
    (h : ∀ (H0 : Hid) (S0 : List Nat) (w0 : World) (h0 : H0.n = 0) (g0 : GlOk p H0), vc ⟨p, N, 0, H0, S0, w0, h0, g0⟩ (retT p rs.toList fun g _ _ => Q g ∧ idb 0 g = true) 400 [.code c] ⟨argEnv 0 args, [], 0⟩) : Rq p f args Q :=
  ⟨hc, Ct.weak (Ct.of_JK hp hf hb hN hl hr fun H0 S0 w0 h0 g0 => vc_sound hp 400 _ _ (h H0 S0 w0 h0 g0)) fun g σ' n' hq => ⟨id, g, [], 0, ⟨hq, rfl, rfl⟩, (ren_id g).symm, trivial, by simp [hq.2, idbH, hids, distB, fixB]⟩⟩

theorem Rt.of {p : Pg} {f : FuncId} {fn : Func} {c : Code} {N : Nat} {args : List GV} {G : GV} (hp : p.Ok) (hf : p.P.funcs[f]? = some fn) (hb : fn.body = some c) (hN : fn.ntmps = N) (hl : Nat.ble args.length N = true) {rs : Array ResultVar} (hr : fn.results = rs)
    (hc : ∀ as w, (callFunc f as).run p.P w = .ok (.enter f as) w)
    (h : ∀ (H0 : Hid) (S0 : List Nat) (w0 : World) (h0 : H0.n = 0) (g0 : GlOk p H0), vc ⟨p, N, 0, H0, S0, w0, h0, g0⟩ (retT p rs.toList fun g _ _ => eqG G g ∧ idb 0 g = true) 400 [.code c] ⟨argEnv 0 args, [], 0⟩) : Rt p f args G := by
  refine ⟨hc, fun H us w hn hg hcs hs => ?_⟩
  refine ((Rq.of (Q := eqG G) hp hf hb hN hl hr hc h).ct H us w hn hg hcs hs).mono ?_
  rintro e w' ⟨u, g, H', σ', rfl, hi, hs', hfr, hq, h1, h2⟩
  exact ⟨u, G, H', σ', rfl, eqG_is hq.1 hi, hs', hfr, ⟨rfl, eqG_idb hq.1 hq.2⟩, h1, h2⟩

theorem Rq.mono {p : Pg} {f : FuncId} {args : List GV} {Q Q' : GV → Prop} (h : Rq p f args Q) (hq : ∀ g, Q g → Q' g) : Rq p f args Q' :=
  ⟨h.call, fun H us w hn hg hcs hs => (h.ct H us w hn hg hcs hs).mono fun _ _ ⟨u, g, H', σ', e, hi, hs', hfr, hv, r⟩ => ⟨u, g, H', σ', e, hi, hs', hfr, ⟨hq g hv.1, hv.2⟩, r⟩⟩

/-- Callee and arguments of a call that comes up. -/
def callG (p : Pg) (all : List Oper) (ρ : Env) (o : Oper) : Option (FuncId × List GV) :=
  bif gdOk all ρ o.guard then (match o.op with
    | .call { callee := .value fo, args := args, .. } => (match ev p ρ fo, evs p ρ args.toList with
      | some (.fn (.func f) first caps), some gs => some (f, first ++ gs ++ caps)
      | _, _ => none)
    | _ => none) else none

theorem hrest_nil : ∀ σ : Heap, hrest [] σ = σ
  | [] => rfl
  | (id, x) :: r => by simp [hrest, memB, hrest_nil r]

def dputV (N : Nat) (ρ : Env) : Option Nat → GV → (Env → Prop) → Prop
  | some d, g, K => bif Nat.blt d N then K ((d, g) :: ρ) else False
  | none, _, K => K ρ
theorem dputV_eq (N : Nat) (ρ : Env) (d : Option Nat) (g : GV) (K : Env → Prop) : dputV N ρ d g K = dput N ρ d g K := by
  cases d <;> simp [dputV, dput, nf_eq]

section
variable {cx : Cx} {T : Post}

theorem callG_spec {p : Pg} {all : List Oper} {ρ : Env} {o : Oper} {f : FuncId} {cargs : List GV} (h : callG p all ρ o = some (f, cargs)) :
    ∃ fo args ts first caps gs, o.op = .call { callee := .value fo, args := args, argTypes := ts } ∧ gdOk all ρ o.guard = true ∧ ev p ρ fo = some (.fn (.func f) first caps) ∧ evs p ρ args.toList = some gs ∧ first ++ gs ++ caps = cargs := by
  unfold callG at h
  cases hg : gdOk all ρ o.guard with
  | false => rw [hg] at h; cases h
  | true =>
    rw [hg] at h
    simp only [cond_true] at h
    split at h
    · rename_i fo args ts ho
      split at h
      · rename_i f' first caps gs h1 h2
        simp only [Option.some.injEq, Prod.mk.injEq] at h
        obtain ⟨rfl, rfl⟩ := h
        exact ⟨fo, args, ts, first, caps, gs, ho, rfl, h1, h2, rfl⟩
      · cases h
    · cases h

/-- A CALL of a function that is given values. -/
theorem JK.goQ {all : List Oper} {o : Oper} {rest : List Oper} {k : List It} {s : St} {f : FuncId} {cargs : List GV} {Q : GV → Prop} (hp : cx.pg.Ok) (hr : Rq cx.pg f cargs Q) (hk : callG cx.pg all s.ρ o = some (f, cargs)) (hb : idbL 0 cargs = true)
    (h : ∀ g, Q g → dputV cx.N s.ρ o.dst g fun ρ' => vc cx T 400 (.ops false all rest :: k) ⟨ρ', s.σ, s.n⟩) : JK cx T (.ops false all (o :: rest) :: k) s := by
  obtain ⟨fo, args, ts, first, caps, gs, ho, hgd, hf, he, hargs⟩ := callG_spec hk
  intro H a w hg hs ha
  have hw := gdOk_wanted (o := o) ha.env hgd
  show wpList _ _ _ _ _ _
  unfold wpList
  rw [if_pos hw]
  refine .inl (call_wp (r := id) (n0 := 0) (σc := []) hr.ct hr.call ho hf he (by rw [renL_id]; exact hargs) trivial (by simp [hb, idbH, hids, distB]) (by simp) hg hs ha.env fun H'' u g σ' n' w' hle hi hQ hsim => ?_)
  obtain ⟨⟨hq, hidb⟩, rfl, rfl⟩ := hQ
  have hd := h g hq
  rw [dputV_eq] at hd
  rw [ren_none _ hidb] at hi
  have e : hrest (hids id []) s.σ = s.σ := hrest_nil s.σ
  simp only [renH, List.nil_append, e] at hsim
  obtain ⟨ρ', ha', hJ⟩ := (ha.mono hle).dput hi hd
  exact vc_sound hp 400 _ _ hJ H'' (a.put o.dst u) w' (hg.mono hle) (hsim ρ') ha'

theorem JK.go {all : List Oper} {o : Oper} {rest : List Oper} {k : List It} {s : St} {f : FuncId} {cargs : List GV} {G : GV} (hp : cx.pg.Ok) (hr : Rt cx.pg f cargs G) (hk : callG cx.pg all s.ρ o = some (f, cargs)) (hb : idbL 0 cargs = true)
    (h : dputV cx.N s.ρ o.dst G fun ρ' => vc cx T 400 (.ops false all rest :: k) ⟨ρ', s.σ, s.n⟩) : JK cx T (.ops false all (o :: rest) :: k) s :=
  JK.goQ hp hr hk hb fun g hg => by subst hg; exact h

/-- A CALL to which own slices are lent. -/
theorem JK.goB {all : List Oper} {o : Oper} {rest : List Oper} {k : List It} {s : St} {f : FuncId} {cargs gs : List GV} {G : GV} (hp : cx.pg.Ok) (hr : Rt cx.pg f cargs G) (hk : callG cx.pg all s.ρ o = some (f, gs)) (hl : lents s.σ gs cargs) (hfree : roFree G = true)
    (h : dputV cx.N s.ρ o.dst G fun ρ' => vc cx T 400 (.ops false all rest :: k) ⟨ρ', s.σ, s.n⟩) : JK cx T (.ops false all (o :: rest) :: k) s := by
  obtain ⟨fo, args, ts, first, caps, gs', ho, hgd, hf, he, hargs⟩ := callG_spec hk
  refine JK.callB hr.ct hr.call ho hgd hf he (by rw [hargs]; exact hl) (fun g σ' n' hq => ?_) (fun g σ' n' hq => ?_)
  · obtain ⟨⟨rfl, h1⟩, _, _⟩ := hq
    simp [h1, hfree]
  · obtain ⟨⟨rfl, h1⟩, _, _⟩ := hq
    rw [nf_eq, ← dputV_eq]
    revert h
    cases o.dst with
    | none => exact fun h => vc_sound hp 400 _ _ h
    | some d =>
      simp only [dputV]
      cases Nat.blt d cx.N with
      | false => exact fun h => h
      | true => exact fun h => vc_sound hp 400 _ _ h


/-- A call with own things: what it is given, and what it leaves. -/
structure Hf (p : Pg) (f : FuncId) (n0 : Nat) (args : List GV) (σ : Heap) (Q : GV → Heap → Nat → Prop) : Prop where
  call : ∀ as w, (callFunc f as).run p.P w = .ok (.enter f as) w
  ct : Ct p f n0 args σ Q

theorem Hf.of {p : Pg} {f : FuncId} {fn : Func} {c : Code} {n0 N : Nat} {args : List GV} {σ : Heap} {Q : GV → Heap → Nat → Prop} (hp : p.Ok) (hf : p.P.funcs[f]? = some fn) (hb : fn.body = some c) (hN : fn.ntmps = N) (hl : Nat.ble args.length N = true) {rs : Array ResultVar} (hr : fn.results = rs)
    (hc : ∀ as w, (callFunc f as).run p.P w = .ok (.enter f as) w)
    (h : ∀ (H0 : Hid) (S0 : List Nat) (w0 : World) (h0 : H0.n = n0) (g0 : GlOk p H0), vc ⟨p, N, n0, H0, S0, w0, h0, g0⟩ (retT p rs.toList Q) 400 [.code c] ⟨argEnv 0 args, σ, n0⟩) : Hf p f n0 args σ Q :=
  ⟨hc, Ct.of_JK hp hf hb hN hl hr fun H0 S0 w0 h0 g0 => vc_sound hp 400 _ _ (h H0 S0 w0 h0 g0)⟩

theorem Hf.weak {p : Pg} {f : FuncId} {n0 : Nat} {args : List GV} {σ : Heap} {Q Q' : GV → Heap → Nat → Prop} (h : Hf p f n0 args σ Q)
    (hQ : ∀ g σ' n', Q g σ' n' → ∃ (r : Nat → Nat) (g0 : GV) (τ : Heap) (m : Nat), Q' g0 τ m ∧ g = ren r g0 ∧ leσ r τ σ' ∧ (idb m g0 && idbH m τ && distB (hids r τ) && fixB r n0 && Nat.ble n0 m) = true) : Hf p f n0 args σ Q' :=
  ⟨h.call, h.ct.weak hQ⟩

theorem JK.goH {all : List Oper} {o : Oper} {rest : List Oper} {k : List It} {s : St} {f : FuncId} {n0 : Nat} {cargs gs : List GV} {σc : Heap} {Q : GV → Heap → Nat → Prop} (hp : cx.pg.Ok) (hr : Hf cx.pg f n0 cargs σc Q) (r : Nat → Nat) (hk : callG cx.pg all s.ρ o = some (f, gs)) (hargs : gs = renL r cargs) (hσ : leσ r σc s.σ)
    (chk : (idbL n0 cargs && idbH n0 σc && distB (hids r σc)) = true) (hrn : ∀ i, i < n0 → r i < s.n)
    (h : ∀ g σ' n', Q g σ' n' → nf (ren (sh r n0 s.n) g) fun g => nfH (renH (sh r n0 s.n) σ' ++ hrest (hids r σc) s.σ) fun σ => nfN (s.n + (n' - n0)) fun n => dput cx.N s.ρ o.dst g fun ρ' => vc cx T 400 (.ops false all rest :: k) ⟨ρ', σ, n⟩) :
    JK cx T (.ops false all (o :: rest) :: k) s := by
  obtain ⟨fo, args, ts, first, caps, gs', ho, hgd, hf, he, hargs'⟩ := callG_spec hk
  refine JK.call hr.ct hr.call r ho hgd hf he (hargs'.trans hargs) hσ chk hrn (fun g σ' n' hq => ?_)
  have := h g σ' n' hq
  rw [nf_eq, nfH_eq, nfN_eq] at this ⊢
  have key : ∀ {d : Option Nat} {g : GV} {K K' : Env → Prop}, (∀ ρ, K ρ → K' ρ) → dput cx.N s.ρ d g K → dput cx.N s.ρ d g K' := by
    intro d g K K' hKK h
    cases d with
    | none => exact hKK _ h
    | some d =>
      simp only [dput, nf_eq] at h ⊢
      cases hb : Nat.blt d cx.N with
      | false => rw [hb] at h; exact h
      | true => rw [hb] at h; exact hKK _ h
  exact key (fun ρ hv => vc_sound hp 400 _ _ hv) this

/-! regions that draw their order -/
def isCall (o : Op) : Bool := match o with
  | .call { callee := .value _, .. } => true
  | .call { callee := .invoke _ _, .. } => true
  | _ => false

theorem RA.goA {ops : List Oper} {k : List It} {σs : Heap} {ρq : Env} {fuel : Nat} {listed : List Bool} {s : St} (i : Nat) (order : List (Nat × Bool)) (e : Bool) {o : Oper} {f : FuncId} {cargs : List GV} {G : GV} (hp : cx.pg.Ok) (hsel : Region.noSelect ops.toArray = true) (hT : ∀ ch s, ¬ T (.panic ch) s) (hr : Rt cx.pg f cargs G) (hi : ops[i]? = some o) (hk : callG cx.pg ops s.ρ o = some (f, cargs)) (hb : idbL 0 cargs = true)
    (hB : (eqB (Region.ready .any ops.toArray listed.toArray) [i] && ordB ops e order (listed.set i true)) = true)
    (h : dputV cx.N s.ρ o.dst G fun ρ' => nfE (qput ρq o.dst G) fun ρq => rvc cx T ops k σs e order fuel (listed.set i true) ρq ⟨ρ', s.σ, s.n⟩) : RA cx T ops k σs ρq (fuel + 1) listed s := by
  obtain ⟨fo, args, ts, first, caps, gs, ho', hgd, hf, he, hargs⟩ := callG_spec hk
  simp only [Bool.and_eq_true] at hB
  refine RA.call (n0 := 0) (r := id) (σc := []) i hr.ct hr.call hi (eqB_eq hB.1) hgd ho' hf he (by rw [renL_id]; exact hargs) trivial (by simp [hb, idbH, hids, distB]) (by simp) ?_
  rintro g σ' n' ⟨⟨rfl, hidb⟩, rfl, rfl⟩
  rw [nf_eq, nfH_eq, nfN_eq, nfE_eq]
  rw [ren_none _ hidb, ← dputV_eq]
  simp only [nfE_eq] at h
  have e1 : renH (sh id 0 s.n) [] ++ hrest (hids id []) s.σ = s.σ := by rw [show hids id [] = [] from rfl, hrest_nil]; rfl
  rw [e1]
  revert h
  cases o.dst with
  | none => exact fun h => RA.run hp hsel hT order hB.2 h
  | some d =>
    simp only [dputV]
    cases Nat.blt d cx.N with
    | false => exact fun h => h
    | true => exact fun h => RA.run hp hsel hT order hB.2 h

theorem RA.skipA {ops : List Oper} {k : List It} {σs : Heap} {ρq : Env} {fuel : Nat} {listed : List Bool} {s : St} (i : Nat) (order : List (Nat × Bool)) (e : Bool) {o : Oper} (hp : cx.pg.Ok) (hsel : Region.noSelect ops.toArray = true) (hT : ∀ ch s, ¬ T (.panic ch) s) (hi : ops[i]? = some o) (hgd : gdNo ops s.ρ o.guard = true)
    (hB : (eqB (Region.ready .any ops.toArray listed.toArray) [i] && ordB ops e order (listed.set i true)) = true)
    (h : dputV cx.N s.ρ o.dst (.v undef) fun ρ' => nfE (eput ρq o.dst (.v undef)) fun ρq => rvc cx T ops k σs e order fuel (listed.set i true) ρq ⟨ρ', s.σ, s.n⟩) : RA cx T ops k σs ρq (fuel + 1) listed s := by
  simp only [Bool.and_eq_true] at hB
  refine RA.skip i hi (eqB_eq hB.1) hgd ?_
  rw [← dputV_eq]
  simp only [nfE_eq] at h
  revert h
  cases o.dst with
  | none => exact fun h => RA.run hp hsel hT order hB.2 h
  | some d =>
    simp only [dputV]
    cases Nat.blt d cx.N with
    | false => exact fun h => h
    | true => exact fun h => RA.run hp hsel hT order hB.2 h
end
end Go.GK


namespace Go.GK
open Go.RowKit
section
variable {p : Pg}

theorem Rt.calls {f : FuncId} (hc : ∀ a w, (callFunc f a).run p.P w = .ok (.enter f a) w) (vs : List Value) (g : Value) (h : ∀ w, Calls p.P f vs.toArray w fun e w' => e = .returned g ∧ Below w.heap.size w w') : Rt p f (vs.map .v) (.v g) :=
  ⟨hc, fun H us w hn hg hcs hs => (Ct.of_below vs g h H us w hn hg hcs hs).mono fun _ _ ⟨u, g', H', σ', e', hi', hs', hfr, hv, r⟩ => ⟨u, g', H', σ', e', hi', hs', hfr, ⟨hv, by rw [hv]; rfl⟩, r⟩⟩

/-- What a slice of values is in a world. -/
structure SlAt (w : World) (A : Option Addr) (c : Nat) (xs : List Value) : Prop where
  cap : xs.length ≤ c
  max : c ≤ maxLen
  at_ : xs = [] ∨ ∃ b o, A = some ⟨b, o, none⟩ ∧ b < w.heap.size ∧ ∀ (j : Nat) (x : Value), xs[j]? = some x → w.cell? ⟨b, o + j, none⟩ = some x

theorem SlAt.of {ro : Nat → Option Obj} {w : World} (hro : ∀ b o, ro b = some o → w.heap[b]? = some o) {xs : List Value} {u : Value} (h : IsR ro (.sl 1 (xs.map fun x => [.v x])) u) : ∃ A c, u = .slice A xs.length c ∧ SlAt w A c xs := by
  obtain ⟨A, c, us, rfl, hlc, hcm, _, hne⟩ := h.inv_sl
  simp only [List.length_map] at hlc ⊢
  refine ⟨A, c, rfl, ⟨hlc, hcm, ?_⟩⟩
  cases xs with
  | nil => exact .inl rfl
  | cons x0 r =>
    obtain ⟨⟨b, o, sp⟩, rfl, h1, h2, _⟩ := hne (by simp)
    refine .inr ?_
    have h00 := h1 0 [.v x0] rfl 0 (.v x0) rfl
    have hsp : sp = none := by
      have : ({ block := b, off := o, spot := sp } : Addr).add (0 * 1 + 0) = ⟨b, o, sp⟩ := by simp [Addr.add]
      rw [this] at h00
      unfold roCell at h00
      split at h00
      · split at h00
        · cases h00
        · rename_i hs; simpa using hs
      · cases h00
    subst hsp
    have hcell := roCell_cell hro h00
    refine ⟨b, o, rfl, ?_, fun j x hj => ?_⟩
    · have := World.block_lt_of_cell? w _ hcell
      rwa [addr_add_block] at this
    · have hr : ((x0 :: r).map fun x => [GV.v x])[j]? = some [.v x] := by rw [List.getElem?_map, hj]; rfl
      have e1 := roCell_cell hro (h1 j [.v x] hr 0 (.v x) rfl)
      have e2 := h2 j [.v x] hr 0 (.v x) rfl
      cases e2
      rw [addr_add_none] at e1
      simpa using e1

theorem Rt.slice {f : FuncId} (hc : ∀ a w, (callFunc f a).run p.P w = .ok (.enter f a) w) (xs vs : List Value) (g : Value) (h : ∀ (A : Option Addr) (c : Nat) (w : World), SlAt w A c xs → Calls p.P f (#[.slice A xs.length c] ++ vs.toArray) w fun e w' => e = .returned g ∧ Below w.heap.size w w') :
    Rt p f (.sl 1 (xs.map fun x => [.v x]) :: vs.map .v) (.v g) := by
  refine ⟨hc, fun H us w hn hg hcs hs => ?_⟩
  obtain ⟨hl, hi⟩ := hcs
  have h0 : us.size = vs.length + 1 := by rw [← hl]; simp
  obtain ⟨A, c, hu0, hat⟩ := SlAt.of hs.ro (hi 0 _ rfl).inv_sl
  have hus : us = #[.slice A xs.length c] ++ vs.toArray := by
    apply Array.ext_getElem?
    intro i
    cases i with
    | zero =>
      have : us[0]? = some (us.getD 0 undef) := by simp [Array.getD, h0]
      rw [this, hu0]
      simp
    | succ i =>
      by_cases hlt : i < vs.length
      · have h1 := (hi (i + 1) (.v vs[i]) (by simp [hlt])).inv_v
        have : us[i + 1]? = some (us.getD (i + 1) undef) := by simp [Array.getD, h0, hlt]
        rw [this, h1]
        simp [hlt]
      · rw [Array.getElem?_eq_none (by omega), Array.getElem?_eq_none (by simp; omega)]
  rw [hus]
  refine (h A c w hat).mono ?_
  rintro e w' ⟨rfl, hb⟩
  exact ⟨g, .v g, H, [], rfl, .ro (.v g), hs.below hb, Fr.below (Fr.refl _ _ _) hb, ⟨rfl, rfl⟩, rfl, hn⟩
end
end Go.GK


namespace Go.GK
open Go.RowKit

mutual
/-- An own row read as one that nobody writes. -/
def fzb (id : Nat) (cs0 : List GV) : GV → GV
  | .o j => .o j
  | .agg cs => .agg (fzbL id cs0 cs)
  | .tup cs => .tup (fzbL id cs0 cs)
  | .fn f as cs => .fn f (fzbL id cs0 as) (fzbL id cs0 cs)
  | .ifc t x => .ifc t (fzb id cs0 x)
  | .v x => .v x
  | .b c => .b c
  | .p j off => bif Nat.beq j id then .r (cs0.drop off) else .p j off
  | .e j z i off => .e j z i off
  | .r cs => .r cs
  | .sl z r => .sl z r
def fzbL (id : Nat) (cs0 : List GV) : List GV → List GV
  | [] => []
  | g :: r => fzb id cs0 g :: fzbL id cs0 r
end

def fzbE (id : Nat) (cs0 : List GV) : Env → Env
  | [] => []
  | (t, g) :: r => (t, fzb id cs0 g) :: fzbE id cs0 r

def fzbR (id : Nat) (cs0 : List GV) : Res → Res
  | .blk ty cs => .blk ty (fzbL id cs0 cs)
  | .row ty z rs => .row ty z rs
  | .ob o => .ob o
  | .ln sz n => .ln sz n
  | .sub i z lo n => .sub i z lo n
  | .mp kd es => .mp kd (es.map fun x => (x.1, fzb id cs0 x.2))
  | .mr kd es left cur => .mr kd (es.map fun x => (x.1, fzb id cs0 x.2)) left cur
  | .itr m => .itr m
  | .me kd es k st => .me kd (es.map fun x => (x.1, fzb id cs0 x.2)) k st
  | .mre kd es left cur k st => .mre kd (es.map fun x => (x.1, fzb id cs0 x.2)) left cur k st
  | .ab A => .ab A

def fzbH (id : Nat) (cs0 : List GV) : Heap → Heap
  | [] => []
  | (j, x) :: r => (j, fzbR id cs0 x) :: fzbH id cs0 r

theorem fzbL_get (id : Nat) (cs0 : List GV) : ∀ (l : List GV) (j : Nat), (fzbL id cs0 l)[j]? = (l[j]?).map (fzb id cs0)
  | [], j => by simp [fzbL]
  | g :: r, 0 => by simp [fzbL]
  | g :: r, j + 1 => by simp [fzbL, fzbL_get id cs0 r j]
theorem fzbL_len (id : Nat) (cs0 : List GV) : ∀ (l : List GV), (fzbL id cs0 l).length = l.length
  | [] => rfl
  | _ :: r => by simp [fzbL, fzbL_len id cs0 r]

theorem fzbE_look (id : Nat) (cs0 : List GV) : ∀ (ρ : Env) (t : Nat), look (fzbE id cs0 ρ) t = (look ρ t).map (fzb id cs0)
  | [], t => rfl
  | (s, g) :: r, t => by
    simp only [fzbE, look]
    cases Nat.beq s t with
    | true => rfl
    | false => exact fzbE_look id cs0 r t

theorem fzbH_mem {id : Nat} {cs0 : List GV} : ∀ {σ : Heap} {x : Nat × Res}, x ∈ fzbH id cs0 σ → ∃ y ∈ σ, x = (y.1, fzbR id cs0 y.2)
  | [], _, h => by simp [fzbH] at h
  | (j, y) :: r, x, h => by
    simp only [fzbH, List.mem_cons] at h
    rcases h with rfl | h
    · exact ⟨_, List.mem_cons_self, rfl⟩
    · obtain ⟨z, hz, e⟩ := fzbH_mem h
      exact ⟨z, List.mem_cons_of_mem _ hz, e⟩

theorem fzbH_blks {H H' : Hid} (e1 : H'.bl = H.bl) (e2 : H'.sv = H.sv) {id : Nat} {cs0 : List GV} : ∀ (σ : Heap), blks H' (fzbH id cs0 σ) = blks H σ
  | [] => rfl
  | (j, y) :: r => by
    simp only [fzbH, blks_cons, fzbH_blks e1 e2 r]
    congr 1
    cases y <;> simp [fzbR, blocks, e1, e2]

/-- Own slices, other things as they are. -/
theorem Is.fzb {H H' : Hid} (hro : ∀ b o, H.ro b = some o → H'.ro b = some o) (e1 : H'.bl = H.bl) (e2 : H'.sv = H.sv) (e3 : H'.n = H.n) {id : Nat} {cs0 : List GV} (hs : ∀ off, IsR H'.ro (.r (cs0.drop off)) (.pointer (some ⟨H.bl id, off, none⟩))) {g : GV} {u : Value} (h : Is H g u) : Is H' (GK.fzb id cs0 g) u := by
  have hle : H.le H' := ⟨Nat.le_of_eq e3.symm, hro, fun i _ => by rw [e1], fun i _ => by rw [e2]⟩
  have hL : ∀ {cs : List GV} {us : Array Value}, (∀ (j : Nat) (g : GV), cs[j]? = some g → Is H' (GK.fzb id cs0 g) (us.getD j undef)) → ∀ (j : Nat) (g : GV), (fzbL id cs0 cs)[j]? = some g → Is H' g (us.getD j undef) := by
    intro cs us hh j g hj
    rw [fzbL_get] at hj
    cases hc : cs[j]? with
    | none => rw [hc] at hj; cases hj
    | some x => rw [hc] at hj; simp at hj; subst hj; exact hh j x hc
  induction h with
  | ro hr =>
    have hR : ∀ {g : GV} {u : Value}, IsR H.ro g u → Is H' (GK.fzb id cs0 g) u := by
      intro g u hr
      induction hr with
      | v x => exact .ro (.v x)
      | b c => exact .ro (.b c)
      | r us h1 h2 _ => exact .ro ((IsR.r us h1 h2).mono hro)
      | slnil => exact .ro .slnil
      | sl us h0 hc hm h1 h2 h3 _ => exact .ro ((IsR.sl us h0 hc hm h1 h2 h3).mono hro)
      | agg hl _ ih => exact .agg (by rw [fzbL_len]; exact hl) (hL ih)
      | tup hl _ ih => exact .tup (by rw [fzbL_len]; exact hl) (hL ih)
      | fn hl _ hl' _ ih ih' => exact .fn (by rw [fzbL_len]; exact hl) (hL ih) (by rw [fzbL_len]; exact hl') (hL ih')
      | ifc _ ih => exact .ifc ih
    exact hR hr
  | @p j off hid =>
    simp only [GK.fzb]
    cases hb : Nat.beq j id with
    | true =>
      have := beq_eq hb
      subst this
      exact .ro (hs off)
    | false => exact (Is.p hid).mono hle
  | e hid hs => exact (Is.e hid hs).mono hle
  | o hid hsj how => exact (Is.o hid hsj how).mono hle
  | agg hl _ ih => exact .agg (by rw [fzbL_len]; exact hl) (hL ih)
  | tup hl _ ih => exact .tup (by rw [fzbL_len]; exact hl) (hL ih)
  | fn hl _ hl' _ ih ih' => exact .fn (by rw [fzbL_len]; exact hl) (hL ih) (by rw [fzbL_len]; exact hl') (hL ih')
  | ifc _ ih => exact .ifc ih

theorem esIs_fzb {H H' : Hid} {id : Nat} {cs0 : List GV} (hf : ∀ {g : GV} {u : Value}, Is H g u → Is H' (GK.fzb id cs0 g) u) : ∀ {es : List (Value × GV)} {l : List MapEntry}, esIs H es l → esIs H' (es.map fun x => (x.1, GK.fzb id cs0 x.2)) l
  | [], [], _ => trivial
  | (_, _) :: r, _ :: _, h => ⟨h.1, hf h.2.1, esIs_fzb hf (es := r) h.2.2⟩
  | [], _ :: _, h => h.elim
  | _ :: _, [], h => h.elim
theorem MapOk.fzb {H H' : Hid} {id : Nat} {cs0 : List GV} (hf : ∀ {g : GV} {u : Value}, Is H g u → Is H' (GK.fzb id cs0 g) u) {kd : Option IntKind} {es : List (Value × GV)} {arr : Array MapEntry} {clock : Nat} (h : MapOk H kd es arr clock) : MapOk H' kd (es.map fun x => (x.1, GK.fzb id cs0 x.2)) arr clock :=
  ⟨esIs_fzb hf h.is, h.sorts, h.st⟩


section
variable {cx : Cx} {T : Post}
/-- AN OWN VARIABLE IS WRITTEN NO MORE. -/
theorem JK.freezeB {k : List It} {s : St} (id : Nat) {ty : Nat} {cs0 : List GV} (hl : hlook s.σ id = some (.blk ty cs0)) (hb0 : idbL 0 cs0 = true) (h : nfH (fzbH id cs0 (hdel s.σ id)) fun σ => JK cx T k ⟨fzbE id cs0 s.ρ, σ, s.n⟩) : JK cx T k s := by
  rw [nfH_eq] at h
  refine JK.upd _ (fun H a w hg hs ha => ?_) h
  obtain ⟨l1, l2, e1, e2, _⟩ := hlook_split hl
  have hmem := hlook_mem hl
  obtain ⟨us, hwb, hlen0, his0⟩ := hs.sat.holds _ hmem
  let ro' : Nat → Option Obj := fun b => if H.bl id = b then w.heap[b]? else H.ro b
  have hfree : ∀ b, H.bl id = b → H.ro b = none := fun b hb => hs.sat.free b (List.mem_flatMap.2 ⟨_, hmem, by simp [blocks, hb]⟩)
  have hro : ∀ b o, H.ro b = some o → ro' b = some o := by
    intro b o ho
    show (if _ then _ else _) = _
    rw [if_neg (fun hb => by rw [hfree b hb] at ho; cases ho)]
    exact ho
  let H' : Hid := { H with ro := ro' }
  have hle : H.le H' := ⟨Nat.le_refl _, hro, fun _ _ => rfl, fun _ _ => rfl⟩
  have hsl : ∀ off, IsR ro' (.r (cs0.drop off)) (.pointer (some ⟨H.bl id, off, none⟩)) := fun off => by
    refine .r (fun j => us.getD (off + j) undef) (fun j g hj => ?_) (fun j g hj => ?_)
    · rw [List.getElem?_drop] at hj
      have hlt : off + j < us.size := by rw [← hlen0]; exact (List.getElem?_eq_some_iff.1 hj).1
      rw [addr_add_none]
      unfold roCell
      have hr : ro' (H.bl id) = some (.cells us ty (0, 0)) := by
        show (if H.bl id = H.bl id then w.heap[H.bl id]? else _) = _
        rw [if_pos rfl]; exact hwb
      simp only [hr, Option.isSome_none, Bool.false_eq_true, if_false]
      simp [Array.getD, hlt]
    · rw [List.getElem?_drop] at hj
      exact ((his0 _ g hj).toR (idbL_get hb0 hj)).mono hro
  have hfz : ∀ {g : GV} {u : Value}, Is H g u → Is H' (fzb id cs0 g) u := fun hi => Is.fzb (H' := H') hro rfl rfl rfl hsl hi
  have hfr := hs.fr
  have hnd := hs.sat.nodup
  have hbl : blks H' (fzbH id cs0 (hdel s.σ id)) = blks H (l1 ++ l2) := by rw [e2]; exact fzbH_blks rfl rfl _
  rw [e1, blks_append, blks_cons] at hnd
  have n1 := List.nodup_append.1 hnd
  have n2 := List.nodup_append.1 n1.2.1
  have hin : ∀ b ∈ blks H (l1 ++ l2), b ∈ blks H s.σ := fun b hb => by
    rw [e1, blks_append, blks_cons]
    rw [blks_append] at hb
    rcases List.mem_append.1 hb with h1 | h1 <;> simp [h1]
  have hnin : ∀ b ∈ blks H (l1 ++ l2), H.bl id ≠ b := fun b hb hc => by
    have hc' : b ∈ blocks H (id, .blk ty cs0) := by simp [blocks, hc]
    rw [blks_append] at hb
    rcases List.mem_append.1 hb with h1 | h1
    · exact n1.2.2 b h1 b (by simp [hc']) rfl
    · exact n2.2.2 b hc' b h1 rfl
  refine ⟨H', fun g gv hgv => (hg g gv hgv).mono hro, ⟨hs.n, ⟨fun b o ho => ?_, fun x hx => ?_, ?_, fun b hb => ?_, fun x hx => ?_⟩, ?_⟩, ⟨fun t g hlk => ?_, ha.size, ha.defers⟩⟩
  · have ho' : (if H.bl id = b then w.heap[b]? else H.ro b) = some o := ho
    split at ho'
    · exact ho'
    · exact hs.sat.ro b o ho'
  · obtain ⟨y, hy, rfl⟩ := fzbH_mem hx
    rw [e2] at hy
    have hy' : y ∈ s.σ := by
      rw [e1]
      rcases List.mem_append.1 hy with h1 | h1 <;> simp [h1]
    have hh := hs.sat.holds y hy'
    obtain ⟨j, r⟩ := y
    cases r with
    | blk ty cs =>
      obtain ⟨us, hw, hlen, hi⟩ := hh
      refine ⟨us, hw, by rw [fzbL_len]; exact hlen, fun j g hj => ?_⟩
      rw [fzbL_get] at hj
      cases hc : cs[j]? with
      | none => rw [hc] at hj; cases hj
      | some x => rw [hc] at hj; simp at hj; subst hj; exact hfz (hi j x hc)
    | row ty z rs => obtain ⟨ys, h1, h2⟩ := hh; exact ⟨ys, h1, h2.mono hro⟩
    | ob o => exact hh
    | ln z n => exact hh
    | sub i z lo n => exact hh
    | mp kd es =>
      obtain ⟨b, arr, clock, h1, h2, h3⟩ := hh
      exact ⟨b, arr, clock, h1, h2, h3.fzb hfz⟩
    | mr kd es left cur =>
      obtain ⟨b, arr, clock, seen, h1, h2, h3, h4, h5⟩ := hh
      exact ⟨b, arr, clock, seen, h1, h2, h3, h4.fzb hfz, h5⟩
    | itr m => exact hh
    | me kd es k st =>
      obtain ⟨h0, b, arr, clock, h1, h2, h3, h4⟩ := hh
      exact ⟨h0, b, arr, clock, h1, h2, h3.fzb hfz, h4⟩
    | ab A => exact A.mono _ _ _ _ _ hro hh
    | mre kd es left cur k st =>
      obtain ⟨h0, b, arr, clock, seen, h1, h2, h3, h4, h5⟩ := hh
      exact ⟨h0, b, arr, clock, seen, h1, h2, h3, h4.fzb hfz, h5⟩
  · rw [hbl, blks_append]
    exact List.nodup_append.2 ⟨n1.1, n2.2.1, fun b hb c hc e => n1.2.2 b hb c (by simp [hc]) e⟩
  · rw [hbl] at hb
    show (if _ then _ else _) = _
    rw [if_neg (hnin b hb)]
    exact hs.sat.free b (hin b hb)
  · obtain ⟨y, hy, rfl⟩ := fzbH_mem hx
    rw [e2] at hy
    refine hs.sat.ids y ?_
    rw [e1]
    rcases List.mem_append.1 hy with h1 | h1 <;> simp [h1]
  · refine ⟨hfr.os, hfr.tape, hfr.output, hfr.size, hfr.keep, fun b hb => ?_, fun b h1 h2 => ?_, hfr.le.trans hle⟩
    · rw [hbl] at hb
      exact hfr.own b (hin b hb)
    · have h2' : (if H.bl id = b then w.heap[b]? else H.ro b) ≠ none := h2
      split at h2'
      · rename_i hb
        exact hfr.own b (List.mem_flatMap.2 ⟨_, hmem, by simp [blocks, hb]⟩)
      · exact hfr.fro b h1 h2'
  · rw [fzbE_look] at hlk
    cases hc : look s.ρ t with
    | none => rw [hc] at hlk; cases hlk
    | some x => rw [hc] at hlk; simp at hlk; subst hlk; exact hfz (ha.env t x hc)
end
end Go.GK


namespace Go.GK
open Go.RowKit
section
variable {cx : Cx} {T : Post}

theorem call_wpB {o : Oper} {s : St} {fo : Operand} {args : Array Operand} {ts : Array TypeId} {f : FuncId} {first caps gs : List GV} {cargs : List GV} {Q : GV → Heap → Nat → Prop}
    (hct : Ct cx.pg f 0 cargs [] Q) (hcall : ∀ as w, (callFunc f as).run cx.pg.P w = .ok (.enter f as) w)
    (ho : o.op = .call { callee := .value fo, args := args, argTypes := ts }) {ρ : Env} (hf : ev cx.pg ρ fo = some (.fn (.func f) first caps)) (he : evs cx.pg ρ args.toList = some gs) {σ0 : Heap}
    (hl : lents σ0 (first ++ gs ++ caps) cargs) (hQ : ∀ g σ' n', Q g σ' n' → (idb 0 g && roFree g) = true)
    {H : Hid} {a : Act} {w : World} (hg : GlOk cx.pg H) (hs : Sim cx H s w) (hsat : Sat H σ0 w) (ha : EnvOk H ρ a) {K : Act → World → Prop} {Q' : Exit → Act → World → Prop}
    (hK : ∀ (u : Value) (g : GV) (w' : World) (σ' : Heap) (n' : Nat), Is H g u → Q g σ' n' → Sim cx H s w' → K (a.put o.dst u) w') : o.wp cx.pg.P a w K Q' := by
  obtain ⟨us, hc, hex⟩ := execOp_call (ts := ts) hg ha hf he hcall
  let Hb : Hid := ⟨fun b => w.heap[b]?, fun _ => 0, fun _ => .bool false, 0⟩
  obtain ⟨hlen, hlent⟩ := lents_spec hl
  have hcb : Cells Hb cargs us := ⟨by rw [← hlen]; exact hc.1, fun j c hj => by
    obtain ⟨g, hgj, hl⟩ := hlent j c hj
    exact lent_is hsat (fun _ => rfl) hl (hc.2 j g hgj)⟩
  have hgb : GlOk cx.pg Hb := fun g gv hgv => (hg g gv hgv).mono (fun b o hb => hs.sat.ro b o hb)
  unfold Oper.wp
  rw [hex o ho w, Oper.upon_enter]
  refine (hct Hb us w rfl hgb hcb ⟨fun b o h => h, by simp, by simp [blks], by simp [blks], by simp⟩).mono ?_
  rintro e w' ⟨u, g, H', σ', rfl, hi, hs', hfr, hq⟩
  have hbel : Below w.heap.size w w' := ⟨hfr.os, hfr.tape, hfr.output, hfr.size, fun b hb => hfr.keep b hb (by simp [blks])⟩
  have hchk := hQ g σ' _ hq
  simp only [Bool.and_eq_true] at hchk
  exact hK u g w' σ' _ (hi.free hchk.1 hchk.2) hq (hs.below hbel)

theorem RA.goB {ops : List Oper} {k : List It} {σs : Heap} {ρq : Env} {fuel : Nat} {listed : List Bool} {s : St} (i : Nat) (order : List (Nat × Bool)) (e : Bool) {o : Oper} {f : FuncId} {cargs gs : List GV} {G : GV} (hp : cx.pg.Ok) (hsel : Region.noSelect ops.toArray = true) (hT : ∀ ch s, ¬ T (.panic ch) s) (hr : Rt cx.pg f cargs G) (hi : ops[i]? = some o) (hk : callG cx.pg ops s.ρ o = some (f, gs)) (hl : lents (s.σ ++ σs) gs cargs) (hfree : roFree G = true)
    (hB : (eqB (Region.ready .any ops.toArray listed.toArray) [i] && ordB ops e order (listed.set i true)) = true)
    (h : dputV cx.N s.ρ o.dst G fun ρ' => nfE (qput ρq o.dst G) fun ρq => rvc cx T ops k σs e order fuel (listed.set i true) ρq ⟨ρ', s.σ, s.n⟩) : RA cx T ops k σs ρq (fuel + 1) listed s := by
  obtain ⟨fo, args, ts, first, caps, gs', ho', hgd, hf, he, hargs⟩ := callG_spec hk
  simp only [Bool.and_eq_true] at hB
  refine RA.only_of i hi (eqB_eq hB.1) hgd fun m0 H0 S0 w0 h0 g0 H a w K Q' hg hs ha hsat hK => ?_
  refine call_wpB (cx := ⟨cx.pg, cx.N, m0, H0, S0, w0, h0, g0⟩) hr.ct hr.call ho' hf he (σ0 := s.σ ++ σs) (by rw [hargs]; exact hl) (fun g σ' n' hq => ?_) hg hs hsat ha.env fun u g w' σ' n' hiu hq hsim => ?_
  · obtain ⟨⟨rfl, h1⟩, _, _⟩ := hq
    simp [h1, hfree]
  · obtain ⟨⟨rfl, _⟩, _, _⟩ := hq
    simp only [nfE_eq] at h
    rw [dputV_eq] at h
    have hlt := dput_lt h
    obtain ⟨ρ', ha', hra⟩ := ha.dput hiu h
    exact hK H u g w' s ρ' (Hid.le.refl H) hiu (hsim.ρ ρ') ha' hlt (RA.run hp hsel hT order hB.2 hra)
end
end Go.GK
