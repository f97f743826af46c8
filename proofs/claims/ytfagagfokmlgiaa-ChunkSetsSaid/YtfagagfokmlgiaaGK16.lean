/-
  The ghost machine: pieces of own slices; own slices lent to a function that only reads them.
-/
import Derived.Test.YtfagagfokmlgiaaGK15
namespace Go.GK
open Go.RowKit

section
variable {cx : Cx} {T : Post}

/-- A PIECE OF AN OWN SLICE. -/
theorem JK.sliceO {all : List Oper} {o : Oper} {rest : List Oper} {k : List It} {s : St} {t e : TypeId} {x : Operand} {lo hi : Option Operand} {id ty sz : Nat} {rows : List (List GV)} (hp : cx.pg.Ok) (ho : o.op = .slice t x lo hi none) (hgd : gdOk all s.ρ o.guard = true)
    {ti tie : TI} (ht : tget cx.pg.tt t = some ti) (htd : ti.d = .slice e) (hte : tget cx.pg.tt e = some tie) (hsz : tie.sz = sz) (hx : ev cx.pg s.ρ x = some (.o id)) (hl : hlook s.σ id = some (.row ty sz rows)) {l h : Int} (hlo : bnd cx.pg s.ρ 0 lo = some l) (hhi : bnd cx.pg s.ρ rows.length hi = some h)
    (h0 : 0 ≤ l) (h1 : l ≤ h) (h2 : h ≤ rows.length)
    (hk : nfN (s.n + 1) fun m => dput cx.N s.ρ o.dst (.o s.n) fun ρ' => JK cx T (.ops false all rest :: k) ⟨ρ', (s.n, .sub id sz l.toNat (h.toNat - l.toNat)) :: s.σ, m⟩) : JK cx T (.ops false all (o :: rest) :: k) s := by
  rw [nfN_eq] at hk
  intro H a w hg hs ha
  have hw := gdOk_wanted (o := o) ha.env hgd
  have hu : cx.pg.P.underlying t = some (.slice e) := by have := (hp.tt _ _ ht).d; rw [htd] at this; exact this
  have hes := (hp.tt _ _ hte).size
  obtain ⟨hv, hid⟩ := (ev_is hg ha.env hx).inv_o
  obtain ⟨xs, hown, hrow⟩ := hs.sat.holds _ (hlook_mem hl)
  have hA : ∃ A c, H.sv id = .slice A rows.length c ∧ rows.length ≤ c ∧ c ≤ maxLen ∧ (A = none → c = 0) ∧ (0 < rows.length → ∃ g, A = some ⟨g, 0, none⟩) := by
    rcases hown.2 with ⟨he, hn⟩ | ⟨g, cap, cur, he, _, _, hc, hm, _⟩
    · exact ⟨none, 0, by rw [he, hn], by omega, by simp [maxLen], fun _ => rfl, fun h => by omega⟩
    · exact ⟨_, cap, he, hc, hm, (fun h => by cases h), fun _ => ⟨g, rfl⟩⟩
  obtain ⟨A, c, hsv, hc, hm, hz, hA⟩ := hA
  have hrun : (execOp a.eval o).run cx.pg.P w = .ok (.value (.slice (if c = l.toNat then A else A.map (·.add (l.toNat * sz))) (h.toNat - l.toNat) (c - l.toNat))) w := by
    have hb := run_bounds (p := cx.pg) (isS := true) hg ha.env hlo hhi h0 h1 h2 hc w
    simp only [execOp, ho, Instr.sliceAt, Sem.run_bind, run_under hu, Result.andThen_ok, Instr.slice, hv, hsv, Option.map_none, hb, hes, hsz]
    rfl
  have hle := H.le_more 0 (.slice (if c = l.toNat then A else A.map (·.add (l.toNat * sz))) (h.toNat - l.toNat) (c - l.toNat))
  have e : (H.more 0 (.slice (if c = l.toNat then A else A.map (·.add (l.toNat * sz))) (h.toNat - l.toNat) (c - l.toNat))).sv s.n = .slice (if c = l.toNat then A else A.map (·.add (l.toNat * sz))) (h.toNat - l.toNat) (c - l.toNat) := by simp [Hid.more, hs.n]
  have hidn : id < s.n := by rw [← hs.n]; exact hid
  have esv : (H.more 0 (.slice (if c = l.toNat then A else A.map (·.add (l.toNat * sz))) (h.toNat - l.toNat) (c - l.toNat))).sv id = H.sv id := hle.sv id hid
  have hs1 := fun ρ => hs.grow (r := .sub id sz l.toNat (h.toNat - l.toNat)) (w' := w) hle rfl (by simp [Hid.more, hs.n]) (Below.refl _ _) (by
    refine ⟨Nat.lt_of_lt_of_le hid hle.n, _, _, e, by omega, by omega, fun hn => ?_, fun hn => ?_⟩
    · have : A = none := by
        split at hn
        · exact hn
        · cases A with
          | none => rfl
          | some a => cases hn
      rw [hz this]; omega
    · obtain ⟨g, rfl⟩ := hA (by omega)
      refine ⟨g, rows.length, c, by rw [esv]; exact hsv, by omega, ?_⟩
      rw [if_neg (by omega)]
      simp [addr_add_none]) (by simp [blocks]) (by simp [blocks]) ρ
  obtain ⟨ρ', ha', hJ⟩ := (ha.mono hle).dput (u := .slice (if c = l.toNat then A else A.map (·.add (l.toNat * sz))) (h.toNat - l.toNat) (c - l.toNat)) (.o (by simp [Hid.more, hs.n]) e rfl) hk
  exact wpList_run hw hrun (hJ _ (a.put o.dst _) w (hg.mono hle) (hs1 ρ') ha')

/-- What is lent: own slices, and pieces of them, as slices that nobody writes. -/
def lent (σ : Heap) : GV → GV → Prop
  | .o m, .sl sz rows => match hlook σ m with
    | some (.row _ z rs) => z = sz ∧ rows = rs
    | some (.sub id z lo n) => z = sz ∧ (match hlook σ id with
      | some (.row _ z' rs) => z' = z ∧ lo + n ≤ rs.length ∧ rows = (rs.drop lo).take n
      | _ => False)
    | _ => False
  | g, g' => g = g' ∧ idb 0 g = true

def lents (σ : Heap) : List GV → List GV → Prop
  | [], [] => True
  | g :: gs, g' :: gs' => lent σ g g' ∧ lents σ gs gs'
  | _, _ => False

theorem lents_spec {σ : Heap} : ∀ {gs cs : List GV}, lents σ gs cs → gs.length = cs.length ∧ ∀ (j : Nat) (c : GV), cs[j]? = some c → ∃ g, gs[j]? = some g ∧ lent σ g c
  | [], [], _ => ⟨rfl, fun j c h => by simp at h⟩
  | g :: gs, c :: cs, h => by
    obtain ⟨h1, h2⟩ := h
    obtain ⟨i1, i2⟩ := lents_spec h2
    refine ⟨by simp [i1], fun j x hx => ?_⟩
    cases j with
    | zero => simp at hx; subst hx; exact ⟨g, rfl, h1⟩
    | succ j => obtain ⟨y, hy, hl⟩ := i2 j x (by simpa using hx); exact ⟨y, by simpa using hy, hl⟩
  | [], _ :: _, h => h.elim
  | _ :: _, [], h => h.elim

/-- What a value without own parts and without slices says, it says anywhere. -/
theorem Is.free {H H' : Hid} {g : GV} {u : Value} (h : Is H g u) (h1 : idb 0 g = true) (h2 : roFree g = true) : Is H' g u := by
  have e1 : Is (H.via id 0) g u := by
    rw [← ren_id g] at h
    exact ren_back h h1
  have e2 : Is ((H.via id 0).at (fun _ => none)) g u := roFree_at e1 h2
  exact e2.mono ⟨Nat.zero_le _, fun b o h => (by cases h), fun i hi => absurd hi (Nat.not_lt_zero _), fun i hi => absurd hi (Nat.not_lt_zero _)⟩

theorem lent_is {H Hb : Hid} {σ : Heap} {w : World} (hs : Sat H σ w) (hro : ∀ b, Hb.ro b = w.heap[b]?) {g c : GV} {u : Value} (hl : lent σ g c) (h : Is H g u) : Is Hb c u := by
  have hmono : ∀ b o, H.ro b = some o → Hb.ro b = some o := fun b o hb => by rw [hro]; exact hs.ro b o hb
  have plain : g = c ∧ idb 0 g = true → Is Hb c u := fun ⟨e, hi⟩ => by
    subst e
    have e1 : Is (H.via id 0) g u := by rw [← ren_id g] at h; exact ren_back h hi
    have hle : (H.via id 0).le Hb := ⟨Nat.zero_le _, hmono, fun i hi => absurd hi (Nat.not_lt_zero _), fun i hi => absurd hi (Nat.not_lt_zero _)⟩
    exact e1.mono hle
  cases g with
  | o m =>
    cases c with
    | sl sz rows =>
      obtain ⟨hv, hm⟩ := h.inv_o
      simp only [lent] at hl
      split at hl
      · rename_i ty z rs hlk
        obtain ⟨rfl, rfl⟩ := hl
        obtain ⟨xs, hown, hrow⟩ := hs.holds _ (hlook_mem hlk)
        rw [hv]
        exact .ro (hrow.sl hmono hown (fun b _ => hro b))
      · rename_i i z lo n hlk
        obtain ⟨rfl, hl⟩ := hl
        split at hl
        · rename_i ty z' rs hlk'
          obtain ⟨rfl, hle, rfl⟩ := hl
          obtain ⟨_, A, c, hsv, hnc, hcm, hz, hA⟩ := hs.holds _ (hlook_mem hlk)
          obtain ⟨xs, hown, hrow⟩ := hs.holds _ (hlook_mem hlk')
          have hsl := hrow.sl (ro' := Hb.ro) hmono hown (fun b _ => hro b)
          obtain ⟨A', c', us, hv', _, _, hrl, hne⟩ := hsl.inv_sl
          have hlen : ((rs.drop lo).take n).length = n := by simp; omega
          rw [hv, hsv]
          by_cases hn : n = 0
          · subst hn
            simp only [List.take_zero]
            cases A with
            | none =>
              rw [hz rfl]
              exact .ro .slnil
            | some ad => exact .ro (.sl (fun _ _ => .bool false) (by simp) (by simp) hcm (fun i row hr => by simp at hr) (fun i row hr => by simp at hr) (fun _ _ => rfl))
          · obtain ⟨g, l', c2, hsi, hll, rfl⟩ := hA (by omega)
            have hrs : rs ≠ [] := fun e => by
              have h0 : rs.length = 0 := by rw [e]; rfl
              omega
            obtain ⟨ad, hA', h3, h4, h5⟩ := hne hrs
            rw [hsi] at hv'
            subst hA'
            injection hv' with e1 e2 e3
            injection e1 with e1
            subst e1
            have hget : ∀ i row, ((rs.drop lo).take n)[i]? = some row → rs[lo + i]? = some row := fun i row hr => by
              rw [List.getElem?_take] at hr
              split at hr
              · rwa [List.getElem?_drop] at hr
              · cases hr
            have key := IsR.sl (ro := Hb.ro) (ad := ⟨g, lo * z', none⟩) (sz := z') (rows := (rs.drop lo).take n) (c := c) (fun i j => us (lo + i) j) (fun row hr => hrl row (List.mem_of_mem_drop (List.mem_of_mem_take hr))) (by rw [hlen]; exact hnc) hcm (fun i row hr j gv hj => by
              have := h3 _ _ (hget i row hr) j gv hj
              rw [addr_add_none] at this ⊢
              rw [show lo * z' + (i * z' + j) = 0 + ((lo + i) * z' + j) by rw [Nat.add_mul]; omega]
              exact this) (fun i row hr j gv hj => h4 _ _ (hget i row hr) j gv hj) (fun i j => h5 _ _)
            rw [hlen] at key
            exact .ro key
        · exact hl.elim
      · exact hl.elim
    | _ => exact plain hl
  | _ => exact plain (by cases c <;> exact hl)

/-- A CALL TO WHICH OWN SLICES ARE LENT: it hands back nothing of them. 'cargs': the arguments, own slices as slices that nobody writes. -/
theorem JK.callB {all : List Oper} {o : Oper} {rest : List Oper} {k : List It} {s : St} {fo : Operand} {args : Array Operand} {ts : Array TypeId} {f : FuncId} {first caps gs : List GV} {cargs : List GV} {Q : GV → Heap → Nat → Prop}
    (hct : Ct cx.pg f 0 cargs [] Q) (hcall : ∀ as w, (callFunc f as).run cx.pg.P w = .ok (.enter f as) w)
    (ho : o.op = .call { callee := .value fo, args := args, argTypes := ts }) (hgd : gdOk all s.ρ o.guard = true) (hf : ev cx.pg s.ρ fo = some (.fn (.func f) first caps)) (he : evs cx.pg s.ρ args.toList = some gs)
    (hl : lents s.σ (first ++ gs ++ caps) cargs) (hQ : ∀ g σ' n', Q g σ' n' → (idb 0 g && roFree g) = true)
    (h : ∀ g σ' n', Q g σ' n' → nf g fun g => dput cx.N s.ρ o.dst g fun ρ' => JK cx T (.ops false all rest :: k) ⟨ρ', s.σ, s.n⟩) :
    JK cx T (.ops false all (o :: rest) :: k) s := by
  intro H a w hg hs ha
  have hw := gdOk_wanted (o := o) ha.env hgd
  obtain ⟨us, hc, hex⟩ := execOp_call (ts := ts) hg ha.env hf he hcall
  let Hb : Hid := ⟨fun b => w.heap[b]?, fun _ => 0, fun _ => .bool false, 0⟩
  obtain ⟨hlen, hlent⟩ := lents_spec hl
  have hcb : Cells Hb cargs us := ⟨by rw [← hlen]; exact hc.1, fun j c hj => by
    obtain ⟨g, hgj, hl⟩ := hlent j c hj
    exact lent_is hs.sat (fun _ => rfl) hl (hc.2 j g hgj)⟩
  have hgb : GlOk cx.pg Hb := fun g gv hgv => (hg g gv hgv).mono (fun b o hb => hs.sat.ro b o hb)
  show wpList _ _ _ _ _ _
  unfold wpList
  rw [if_pos hw]
  refine .inl ?_
  unfold Oper.wp
  rw [hex o ho w, Oper.upon_enter]
  refine (hct Hb us w rfl hgb hcb ⟨fun b o h => h, by simp, by simp [blks], by simp [blks], by simp⟩).mono ?_
  rintro e w' ⟨u, g, H', σ', rfl, hi, hs', hfr, hq⟩
  have hbel : Below w.heap.size w w' := ⟨hfr.os, hfr.tape, hfr.output, hfr.size, fun b hb => hfr.keep b hb (by simp [blks])⟩
  have hchk := hQ g σ' _ hq
  simp only [Bool.and_eq_true] at hchk
  have hi' : Is H g u := hi.free hchk.1 hchk.2
  have hd := h g σ' _ hq
  rw [nf_eq] at hd
  obtain ⟨ρ', ha', hJ⟩ := ha.dput hi' hd
  exact hJ H (a.put o.dst u) w' hg ((hs.below hbel).ρ ρ') ha'
end
end Go.GK
