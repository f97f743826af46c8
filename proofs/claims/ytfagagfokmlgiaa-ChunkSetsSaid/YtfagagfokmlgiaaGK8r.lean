/-
  The ghost machine: regions that draw their order, and make or write memory.
-/
import Derived.Test.YtfagagfokmlgiaaGK8
import Derived.OrdersHeld
namespace Go.GK
open Go.RowKit

mutual
def roFree : GV → Bool
  | .r _ => false
  | .sl _ _ => false
  | .agg cs => roFreeL cs
  | .tup cs => roFreeL cs
  | .fn _ as cs => roFreeL as && roFreeL cs
  | .ifc _ x => roFree x
  | .v _ => true
  | .b _ => true
  | .p _ _ => true
  | .e _ _ _ _ => true
  | .o _ => true
def roFreeL : List GV → Bool
  | [] => true
  | g :: r => roFree g && roFreeL r
end

/-- The hidden maps with what nobody wrote when the region began. -/
def Hid.at (H : Hid) (ro : Nat → Option Obj) : Hid := { H with ro := ro }

mutual
theorem roFree_at {H : Hid} {ro : Nat → Option Obj} : ∀ {g : GV} {u : Value}, Is H g u → roFree g = true → Is (H.at ro) g u
  | .v x, u, h, _ => by have := h.inv_v; subst this; exact .ro (.v _)
  | .b c, u, h, _ => by have := h.inv_b; subst this; exact .ro (.b _)
  | .p id off, u, h, _ => by obtain ⟨rfl, hid⟩ := h.inv_p; exact Is.p (H := H.at ro) hid
  | .e id sz i off, u, h, _ => by obtain ⟨g, n, c, rfl, hs, hid⟩ := h.inv_e; exact Is.e (H := H.at ro) hid hs
  | .o id, u, h, _ => by
    cases h with
    | ro h => cases h
    | o hid hs h1 => exact Is.o (H := H.at ro) hid hs h1
  | .r cs, u, _, hb => by simp [roFree] at hb
  | .sl sz rows, u, _, hb => by simp [roFree] at hb
  | .agg cs, u, h, hb => by
    simp only [roFree] at hb
    obtain ⟨us, rfl, hl, hi⟩ := h.inv_agg
    exact .agg hl (roFreeL_at cs hi hb)
  | .tup cs, u, h, hb => by
    simp only [roFree] at hb
    obtain ⟨us, rfl, hl, hi⟩ := h.inv_tup
    exact .tup hl (roFreeL_at cs hi hb)
  | .fn f as cs, u, h, hb => by
    simp only [roFree, Bool.and_eq_true] at hb
    obtain ⟨us, vs, rfl, hl, hi, hl', hi'⟩ := h.inv_fn
    exact .fn hl (roFreeL_at as hi hb.1) hl' (roFreeL_at cs hi' hb.2)
  | .ifc t x, u, h, hb => by
    simp only [roFree] at hb
    obtain ⟨v, rfl, hi⟩ := h.inv_ifc
    exact .ifc (roFree_at hi hb)
theorem roFreeL_at {H : Hid} {ro : Nat → Option Obj} {F : Nat → Value} : ∀ (l : List GV), (∀ (j : Nat) (g : GV), l[j]? = some g → Is H g (F j)) → roFreeL l = true → ∀ (j : Nat) (g : GV), l[j]? = some g → Is (H.at ro) g (F j)
  | [], _, _, j, g, hj => by simp at hj
  | x :: r, h, hb, 0, g, hj => by
    simp [roFreeL] at hb
    simp at hj
    subst hj
    exact roFree_at (h 0 _ rfl) hb.1
  | x :: r, h, hb, j + 1, g, hj => by
    simp [roFreeL] at hb
    exact roFreeL_at (F := fun j => F (j + 1)) r (fun j g hj => h (j + 1) g (by simpa using hj)) hb.2 j g (by simpa using hj)
end

def qdel (d : Nat) : Env → Env
  | [] => []
  | (s, g) :: r => bif Nat.beq s d then qdel d r else (s, g) :: qdel d r

theorem qdel_look {d t : Nat} {g : GV} : ∀ {ρ : Env}, look (qdel d ρ) t = some g → look ρ t = some g ∧ d ≠ t
  | [], h => by simp [qdel, look] at h
  | (s, x) :: r, h => by
    unfold qdel at h
    unfold look
    cases hb : Nat.beq s d with
    | true =>
      rw [hb] at h
      obtain ⟨h1, h2⟩ := qdel_look (ρ := r) (by simpa using h)
      have := beq_eq hb
      subst this
      have hst : Nat.beq s t = false := by
        cases hst : Nat.beq s t with
        | false => rfl
        | true => exact absurd (beq_eq hst) h2
      rw [hst]
      exact ⟨h1, h2⟩
    | false =>
      rw [hb] at h
      simp only [cond_false] at h
      unfold look at h
      cases hst : Nat.beq s t with
      | true =>
        rw [hst] at h
        refine ⟨h, fun e => ?_⟩
        have h1 := beq_eq hst
        have h2 := beq_ne hb
        omega
      | false => rw [hst] at h; exact qdel_look (by simpa using h)

/-- An operation's result in the environment of what is known from the beginning on. -/
def qput (ρq : Env) (dst : Option Nat) (g : GV) : Env :=
  match dst with
  | some d => bif roFree g then (d, g) :: ρq else qdel d ρq
  | none => ρq

section
variable {cx : Cx} {T : Post}

def Held (S0 : List Nat) (w0 w : World) : Prop := ∀ b, b < w0.heap.size → b ∉ S0 → w.heap[b]? = w0.heap[b]?

/-- What is left to do of a region that draws its order: of its operations those that are not listed. 's': what it works on; 'σs': own things that it only reads; 'ρq': what was known when it began. -/
def RA (cx : Cx) (T : Post) (ops : List Oper) (k : List It) (σs : Heap) (ρq : Env) (fuel : Nat) (listed : List Bool) (s : St) : Prop :=
  ∀ (n0 : Nat) (H0 : Hid) (S0 : List Nat) (w0 : World) (h0 : H0.n = n0) (g0 : GlOk cx.pg H0), Sat H0 σs w0 → (∀ b ∈ blks H0 σs, b ∉ S0) → (∀ b ∈ S0, H0.ro b = none) →
    (∀ H s' w', Sim ⟨cx.pg, cx.N, n0, H0, S0, w0, h0, g0⟩ H s' w' → Sim cx H ⟨s'.ρ, s'.σ ++ σs, s'.n⟩ w') →
    ∀ H a w, Sim ⟨cx.pg, cx.N, n0, H0, S0, w0, h0, g0⟩ H s w → ActOk cx H s.ρ a → EnvOk (H.at H0.ro) ρq a →
      wpAnyH cx.pg.P .any ops.toArray (cont cx.pg.P (post cx T) k) (Held S0 w0) fuel listed.toArray a w

theorem Sim.keeps {n0 N : Nat} {pg : Pg} {H0 : Hid} {S0 : List Nat} {w0 : World} {h0 : H0.n = n0} {g0 : GlOk pg H0} {H : Hid} {s : St} {w : World} (h : Sim ⟨pg, N, n0, H0, S0, w0, h0, g0⟩ H s w) : Held S0 w0 w := h.fr.keep

theorem RA.done {ops : List Oper} {k : List It} {σs : Heap} {ρq : Env} {fuel : Nat} {listed : List Bool} {s : St} (hr : Region.ready .any ops.toArray listed.toArray = []) (h : JK cx T k ⟨s.ρ, s.σ ++ σs, s.n⟩) : RA cx T ops k σs ρq fuel listed s :=
  fun _ _ _ _ _ _ _ _ _ hlink H a w hs ha _ => wpAnyH_done hr (h H a w (cx.g0.mono (hlink H s w hs).fr.le) (hlink H s w hs) ha) fuel

theorem set_list (l : List Bool) (i : Nat) : l.toArray.setIfInBounds i true = (l.set i true).toArray := by simp

theorem EnvOk.at_put {H H' : Hid} {ro : Nat → Option Obj} {ρq : Env} {a : Act} (h : EnvOk (H.at ro) ρq a) (hle : H.le H') {dst : Option Nat} {g : GV} {u : Value} (hd : ∀ d, dst = some d → d < a.tmps.size) (hi : Is H' g u) : EnvOk (H'.at ro) (qput ρq dst g) (a.put dst u) := by
  have h1 : EnvOk (H'.at ro) ρq a := fun t g hl => (h t g hl).mono (show (H.at ro).le (H'.at ro) from ⟨hle.n, fun _ _ h => h, hle.bl, hle.sv⟩)
  cases dst with
  | none => exact h1
  | some d =>
    unfold qput
    simp only
    cases hb : roFree g with
    | true => exact h1.put (hd d rfl) (roFree_at hi hb)
    | false =>
      simp only [cond_false]
      intro t g' hl
      obtain ⟨hl', hne⟩ := qdel_look hl
      have := h1 t g' hl'
      simp only [Act.put, Array.getD_eq_getD_getElem?] at this ⊢
      rw [Array.getElem?_setIfInBounds_ne hne]
      exact this

/-- .. of what only read what was there when it began. -/
def eput (ρq : Env) (dst : Option Nat) (g : GV) : Env :=
  match dst with
  | some d => (d, g) :: ρq
  | none => ρq

theorem EnvOk.at_eput {H : Hid} {ro : Nat → Option Obj} {ρq : Env} {a : Act} (h : EnvOk (H.at ro) ρq a) {dst : Option Nat} {g : GV} {u : Value} (hd : ∀ d, dst = some d → d < a.tmps.size) (hi : Is (H.at ro) g u) : EnvOk (H.at ro) (eput ρq dst g) (a.put dst u) := by
  cases dst with
  | none => exact h
  | some d => exact h.put (hd d rfl) hi

theorem dput_lt {N : Nat} {ρ : Env} {dst : Option Nat} {g : GV} {K : Env → Prop} (h : dput N ρ dst g K) : ∀ d, dst = some d → d < N := by
  intro d hd
  subst hd
  simp only [dput] at h
  cases hb : Nat.blt d N with
  | false => rw [hb] at h; exact h.elim
  | true => rw [Nat.blt_eq] at hb; exact hb

/-- What a region reads, when some of its operations were carried out. -/
theorem readSat {n0 N : Nat} {pg : Pg} {H0 : Hid} {S0 : List Nat} {w0 : World} {h0 : H0.n = n0} {g0 : GlOk pg H0} {σs : Heap} {H : Hid} {s : St} {w : World} (hσ : Sat H0 σs w0) (hap : ∀ b ∈ blks H0 σs, b ∉ S0) (hfree : ∀ b ∈ S0, H0.ro b = none)
    (hs : Sim ⟨pg, N, n0, H0, S0, w0, h0, g0⟩ H s w) : Sat (H.at H0.ro) σs w ∧ ∀ w', Held S0 w0 w' → Agr (H.at H0.ro) σs w w' := by
  have hle : H0.le (H.at H0.ro) := ⟨hs.fr.le.n, fun _ _ h => h, hs.fr.le.bl, hs.fr.le.sv⟩
  have hbl : blks (H.at H0.ro) σs = blks H0 σs := blks_le hle hσ.ids
  have hro : ∀ w', Held S0 w0 w' → ∀ b o, H0.ro b = some o → w'.heap[b]? = some o := fun w' hh b o ho => by
    have h1 := hσ.ro b o ho
    rw [hh b (Array.getElem?_eq_some_iff.1 h1).1 (fun hc => by rw [hfree b hc] at ho; cases ho)]
    exact h1
  have hown : ∀ w', Held S0 w0 w' → ∀ b ∈ blks H0 σs, w'.heap[b]? = w0.heap[b]? := fun w' hh b hb => hh b (hσ.lt b hb) (hap b hb)
  have hk := hs.keeps
  refine ⟨⟨hro w hk, fun x hx => ?_, by rw [hbl]; exact hσ.nodup, fun b hb => hσ.free b (by rwa [hbl] at hb), fun x hx => Nat.lt_of_lt_of_le (hσ.ids x hx) hle.n⟩, fun w' hh => ⟨hro w' hh, fun b hb => ?_⟩⟩
  · refine holds_congr (w := w0) (fun b hb => ?_) (holds_le hle (hσ.ids x hx) (hσ.holds x hx))
    rw [blocks_le hle (hσ.ids x hx)] at hb
    exact hown w hk b (List.mem_flatMap.2 ⟨x, hx, hb⟩)
  · rw [hbl] at hb
    rw [hown w' hh b hb, hown w hk b hb]

theorem GlOk.at {pg : Pg} {H0 H : Hid} (h : GlOk pg H0) : GlOk pg (H.at H0.ro) := h

/-- AN OPERATION THAT ONLY READS is taken as soon as it may come up. -/
theorem RA.take {ops : List Oper} {k : List It} {σs : Heap} {ρq : Env} {fuel : Nat} {listed : List Bool} {s : St} (i : Nat) {o : Oper} (hp : cx.pg.Ok) (hi : ops[i]? = some o) (hsel : Region.noSelect ops.toArray = true) (hf : Region.free .any ops.toArray listed.toArray i = true)
    (hr : (Region.ready .any ops.toArray listed.toArray).contains i = true) (hT : ∀ ch s, ¬ T (.panic ch) s)
    {N : Env → St → Prop} (hN : ∀ ρq s', N ρq s' → RA cx T ops k σs ρq fuel (listed.set i true) s')
    (h : guardVC ops ρq o.guard (fun ρq' => pv cx.pg ρq' σs o.op fun g => dput cx.N s.ρ o.dst g fun ρ' => N (eput ρq' o.dst g) { s with ρ := ρ' })
      (fun ρq' => dput cx.N s.ρ o.dst (.v undef) fun ρ' => N (eput ρq' o.dst (.v undef)) { s with ρ := ρ' })) : RA cx T ops k σs ρq (fuel + 1) listed s := by
  intro n0 H0 S0 w0 h0 g0 hσ hap hfree hlink H a w hs ha hq
  obtain ⟨hrs, hagr⟩ := readSat hσ hap hfree hs
  have hpan : ∀ c a w v, cont cx.pg.P (post cx T) k (.panic c) (a.put o.dst v) w → cont cx.pg.P (post cx T) k (.panic c) a w := fun c a w v hc => by
    rw [cont_panic] at hc
    obtain ⟨_, s', _, _, ht⟩ := hc
    exact (hT c s' ht).elim
  have hgo : ∀ ρq', EnvOk (H.at H0.ro) ρq' a → Region.wanted o (yielded ops.toArray a.tmps) = true → (pv cx.pg ρq' σs o.op fun g => dput cx.N s.ρ o.dst g fun ρ' => N (eput ρq' o.dst g) { s with ρ := ρ' }) →
      wpAnyH cx.pg.P .any ops.toArray (cont cx.pg.P (post cx T) k) (Held S0 w0) (fuel + 1) listed.toArray a w := by
    intro ρq' hq' hw hpv
    obtain ⟨u, g, hrun, hiu, hk⟩ := pv_sound hp (GlOk.at g0) hq' hrs hpv
    have hiu' : Is H g u := hiu.mono (show (H.at H0.ro).le H from ⟨Nat.le_refl _, fun b o ho => hs.fr.le.ro b o ho, fun _ _ => rfl, fun _ _ => rfl⟩)
    have hlt := dput_lt hk
    obtain ⟨ρ', ha', hra⟩ := ha.dput hiu' hk
    refine wpAnyH_take (by simpa using hi) hsel hf hr (fun c a w => hpan c a w u) (.inl ⟨hw, fun w' hh => hrun w' (hagr w' hh) o rfl⟩) hs.keeps ?_
    rw [set_list]
    refine hN _ _ hra n0 H0 S0 w0 h0 g0 hσ hap hfree hlink H (a.put o.dst u) w (hs.ρ ρ') ha' ?_
    exact EnvOk.at_eput hq' (fun d hd => by rw [ha.size]; exact hlt d hd) hiu
  have hskip : ∀ ρq', EnvOk (H.at H0.ro) ρq' a → Region.wanted o (yielded ops.toArray a.tmps) = false → (dput cx.N s.ρ o.dst (.v undef) fun ρ' => N (eput ρq' o.dst (.v undef)) { s with ρ := ρ' }) →
      wpAnyH cx.pg.P .any ops.toArray (cont cx.pg.P (post cx T) k) (Held S0 w0) (fuel + 1) listed.toArray a w := by
    intro ρq' hq' hw hk
    have hlt := dput_lt hk
    obtain ⟨ρ', ha', hra⟩ := ha.dput (u := undef) (.ro (.v undef)) hk
    refine wpAnyH_take (by simpa using hi) hsel hf hr (fun c a w => hpan c a w undef) (.inr ⟨hw, rfl⟩) hs.keeps ?_
    rw [set_list]
    refine hN _ _ hra n0 H0 S0 w0 h0 g0 hσ hap hfree hlink H (a.put o.dst undef) w (hs.ρ ρ') ha' ?_
    exact EnvOk.at_eput hq' (fun d hd => by rw [ha.size]; exact hlt d hd) (.ro (.v undef))
  unfold guardVC at h
  split at h
  · rename_i hgd
    exact hgo ρq hq (wanted_none hgd) h
  · rename_i j want hgd
    split at h
    · rename_i oj hj
      split at h
      · rename_i d hd
        split at h
        · rename_i t hl
          have hv := (hq d _ hl).inv_v
          have hw := wanted_at hgd hj hd hv
          cases hb : (t == want) with
          | true => rw [hb] at h hw; exact hgo ρq hq hw h
          | false => rw [hb] at h hw; exact hskip ρq hq hw h
        · rename_i t hl
          have hv := (hq d _ hl).inv_b
          have hw := wanted_at hgd hj hd hv
          have hput : ∀ c, t = c → EnvOk (H.at H0.ro) ((d, .v (.bool c)) :: ρq) a := by
            intro c hc x g hx
            unfold look at hx
            cases hb : Nat.beq d x with
            | true =>
              rw [hb] at hx
              simp at hx
              subst hx
              rw [← beq_eq hb, hv, hc]
              exact .ro (.v _)
            | false => rw [hb] at hx; exact hq x g (by simpa using hx)
          by_cases e : t = want
          · rw [e] at hw
            exact hgo _ (hput want e) (by simpa using hw) (h.1 e)
          · have e' : t = !want := by cases t <;> cases want <;> simp_all
            rw [e'] at hw
            exact hskip _ (hput _ e') (by simpa using hw) (h.2 e')
        · rename_i vs hl
          exact hskip ρq hq (wanted_not hgd hj hd (hq d _ hl).inv_v) h
        · exact h.elim
      · exact h.elim
    · exact h.elim

/-- THE ONE OPERATION THAT MAY COME UP NOW. -/
theorem RA.only_of {ops : List Oper} {k : List It} {σs : Heap} {ρq : Env} {fuel : Nat} {listed : List Bool} {s : St} (i : Nat) {o : Oper} (hi : ops[i]? = some o) (hr : Region.ready .any ops.toArray listed.toArray = [i]) (hgd : gdOk ops s.ρ o.guard = true)
    (h : ∀ (n0 : Nat) (H0 : Hid) (S0 : List Nat) (w0 : World) (h0 : H0.n = n0) (g0 : GlOk cx.pg H0) (H : Hid) (a : Act) (w : World) (K : Act → World → Prop) (Q' : Exit → Act → World → Prop), GlOk cx.pg H → Sim ⟨cx.pg, cx.N, n0, H0, S0, w0, h0, g0⟩ H s w → ActOk cx H s.ρ a → Sat H (s.σ ++ σs) w →
      (∀ (H' : Hid) (u : Value) (g : GV) (w' : World) (s' : St) (ρ' : Env), H.le H' → Is H' g u → Sim ⟨cx.pg, cx.N, n0, H0, S0, w0, h0, g0⟩ H' { s' with ρ := ρ' } w' → ActOk cx H' ρ' (a.put o.dst u) → (∀ d, o.dst = some d → d < cx.N) → RA cx T ops k σs (qput ρq o.dst g) fuel (listed.set i true) { s' with ρ := ρ' } → K (a.put o.dst u) w') →
      o.wp cx.pg.P a w K Q') : RA cx T ops k σs ρq (fuel + 1) listed s := by
  intro n0 H0 S0 w0 h0 g0 hσ hap hfree hlink H a w hs ha hq
  refine wpAnyH_all hr (by simp) (fun j hj => ?_)
  have hji : j = i := by simpa using hj
  subst hji
  unfold wpOp
  have hi' : ops.toArray[j]? = some o := by simpa using hi
  rw [hi']
  simp only
  have hw := gdOk_wanted (o := o) ha.env hgd
  rw [if_pos hw]
  refine .inl (h n0 H0 S0 w0 h0 g0 H a w _ _ (g0.mono hs.fr.le) hs ha (hlink H s w hs).sat fun H' u g w' s' ρ' hle hi hs' ha' hd hra => ?_)
  rw [set_list]
  refine ⟨hs'.keeps, hra n0 H0 S0 w0 h0 g0 hσ hap hfree hlink H' (a.put o.dst u) w' hs' ha' ?_⟩
  exact EnvOk.at_put (H := H) hq hle (fun d hdd => by rw [ha.size]; exact hd d hdd) hi

theorem upon_value_wp {P : Program} {o : Oper} {a : Act} {w w' : World} {u : Value} {K : Act → World → Prop} {Q' : Exit → Act → World → Prop} (hr : (execOp a.eval o).run P w = .ok (.value u) w' ∨ (execOp a.eval o).run P w = .ok .skip w' ∧ u = undef) (h : K (a.put o.dst u) w') : o.wp P a w K Q' := by
  unfold Oper.wp
  rcases hr with hr | ⟨hr, rfl⟩
  · rw [hr]; exact h
  · rw [hr]; exact h

/-- .. it makes or writes memory. -/
theorem RA.mem {ops : List Oper} {k : List It} {σs : Heap} {ρq : Env} {fuel : Nat} {listed : List Bool} {s : St} (i : Nat) {o : Oper} (hp : cx.pg.Ok) (hi : ops[i]? = some o) (hr : Region.ready .any ops.toArray listed.toArray = [i]) (hgd : gdOk ops s.ρ o.guard = true) (hpu : isPure o.op = false)
    {N : Env → St → Prop} (hN : ∀ ρq s', N ρq s' → RA cx T ops k σs ρq fuel (listed.set i true) s')
    (h : goVC cx false s o (fun s' => N (qput ρq o.dst (match s'.ρ with | (_, g) :: _ => g | [] => .v undef)) s') (fun _ => False) s.ρ) : RA cx T ops k σs ρq (fuel + 1) listed s := by
  refine RA.only_of i hi hr hgd fun n0 H0 S0 w0 h0 g0 H a w K Q' hg hs ha _ hK => ?_
  have ha' : ActOk ⟨cx.pg, cx.N, n0, H0, S0, w0, h0, g0⟩ H s.ρ a := ⟨ha.env, ha.size, ha.defers⟩
  have h' : goVC ⟨cx.pg, cx.N, n0, H0, S0, w0, h0, g0⟩ false s o (fun s' => N (qput ρq o.dst (match s'.ρ with | (_, g) :: _ => g | [] => .v undef)) s') (fun _ => False) s.ρ := h
  rcases go_mem (cx := ⟨cx.pg, cx.N, n0, H0, S0, w0, h0, g0⟩) hp hg hs ha' hpu h' with hl | ⟨H', u, g, w', s0, hle, hrun, hi, hd, hsim⟩
  · exact hl.elim
  · refine upon_value_wp hrun ?_
    have hlt := dput_lt hd
    cases hdst : o.dst with
    | none =>
      rw [hdst] at hd
      have h1 := hK H' u g w' s0 s.ρ hle hi (hsim s.ρ) (by rw [hdst]; exact ha.mono hle) hlt (by rw [hdst]; exact hN _ _ hd)
      rw [hdst] at h1
      exact h1
    | some d =>
      rw [hdst] at hd
      simp only [dput, nf_eq] at hd
      have hdl := hlt d hdst
      have hb : Nat.blt d cx.N = true := by rw [Nat.blt_eq]; exact hdl
      rw [hb] at hd
      have hput : ActOk cx H' ((d, g) :: s.ρ) (a.put (some d) u) := ⟨(ha.mono hle).env.put (by rw [ha.size]; exact hdl) hi, by simp [Act.put, ha.size], by simp [Act.put, ha.defers]⟩
      have h1 := hK H' u g w' s0 ((d, g) :: s.ρ) hle hi (hsim _) (by rw [hdst]; exact hput) hlt (by rw [hdst]; exact hN _ _ hd)
      rw [hdst] at h1
      exact h1

/-- .. it only reads, but what the region writes to. -/
theorem RA.read {ops : List Oper} {k : List It} {σs : Heap} {ρq : Env} {fuel : Nat} {listed : List Bool} {s : St} (i : Nat) {o : Oper} (hp : cx.pg.Ok) (hi : ops[i]? = some o) (hr : Region.ready .any ops.toArray listed.toArray = [i]) (hgd : gdOk ops s.ρ o.guard = true)
    {N : Env → St → Prop} (hN : ∀ ρq s', N ρq s' → RA cx T ops k σs ρq fuel (listed.set i true) s')
    (h : pv cx.pg s.ρ (s.σ ++ σs) o.op fun g => dput cx.N s.ρ o.dst g fun ρ' => N (qput ρq o.dst g) { s with ρ := ρ' }) : RA cx T ops k σs ρq (fuel + 1) listed s := by
  refine RA.only_of i hi hr hgd fun n0 H0 S0 w0 h0 g0 H a w K Q' hg hs ha hsat hK => ?_
  obtain ⟨u, g, hrun, hiu, hk⟩ := pv_sound hp hg ha.env hsat h
  have hlt := dput_lt hk
  refine upon_value_wp (u := u) (.inl (hrun w (Agr.refl hsat) o rfl)) ?_
  obtain ⟨ρ', ha', hra⟩ := ha.dput hiu hk
  exact hK H u g w s ρ' (Hid.le.refl H) hiu (hs.ρ _) ha' hlt (hN _ _ hra)

/-- .. it is a call. -/
theorem RA.call {ops : List Oper} {k : List It} {σs : Heap} {ρq : Env} {fuel : Nat} {listed : List Bool} {s : St} (i : Nat) {o : Oper} {fo : Operand} {args : Array Operand} {ts : Array TypeId} {f : FuncId} {first caps gs : List GV} {n0 : Nat} {cargs : List GV} {σc : Heap} {Q : GV → Heap → Nat → Prop}
    (hct : Ct cx.pg f n0 cargs σc Q) (hcall : ∀ as w, (callFunc f as).run cx.pg.P w = .ok (.enter f as) w) (r : Nat → Nat)
    (hi : ops[i]? = some o) (hr : Region.ready .any ops.toArray listed.toArray = [i]) (hgd : gdOk ops s.ρ o.guard = true)
    (ho : o.op = .call { callee := .value fo, args := args, argTypes := ts }) (hf : ev cx.pg s.ρ fo = some (.fn (.func f) first caps)) (he : evs cx.pg s.ρ args.toList = some gs)
    (hargs : first ++ gs ++ caps = renL r cargs) (hσ : leσ r σc s.σ) (chk : (idbL n0 cargs && idbH n0 σc && distB (hids r σc)) = true) (hrn : ∀ i, i < n0 → r i < s.n)
    (h : ∀ g σ' n', Q g σ' n' → nf (ren (sh r n0 s.n) g) fun g => nfH (renH (sh r n0 s.n) σ' ++ hrest (hids r σc) s.σ) fun σ => nfN (s.n + (n' - n0)) fun n => nfE (qput ρq o.dst g) fun ρq => dput cx.N s.ρ o.dst g fun ρ' => RA cx T ops k σs ρq fuel (listed.set i true) ⟨ρ', σ, n⟩) :
    RA cx T ops k σs ρq (fuel + 1) listed s := by
  refine RA.only_of i hi hr hgd fun m0 H0 S0 w0 h0 g0 H a w K Q' hg hs ha _ hK => ?_
  refine call_wp (cx := ⟨cx.pg, cx.N, m0, H0, S0, w0, h0, g0⟩) hct hcall r ho hf he hargs hσ chk hrn hg hs ha.env fun H'' u g σ' n' w' hle hiu hQ hsim => ?_
  have hd := h g σ' n' hQ
  rw [nf_eq, nfH_eq, nfN_eq, nfE_eq] at hd
  have hlt := dput_lt hd
  obtain ⟨ρ', ha', hra⟩ := (ha.mono hle).dput hiu hd
  exact hK H'' u _ w' ⟨ρ', _, _⟩ ρ' hle hiu (hsim ρ') ha' hlt hra

/-- A bool that decides what comes up. -/
theorem RA.split {ops : List Oper} {k : List It} {σs : Heap} {ρq : Env} {fuel : Nat} {listed : List Bool} {s : St} (d : Nat) {t : Bool} (h1 : look s.ρ d = some (.b t)) (h2 : look ρq d = some (.b t))
    (h : ∀ c, t = c → RA cx T ops k σs ((d, .v (.bool c)) :: ρq) fuel listed { s with ρ := (d, .v (.bool c)) :: s.ρ }) : RA cx T ops k σs ρq fuel listed s := by
  intro n0 H0 S0 w0 h0 g0 hσ hap hfree hlink H a w hs ha hq
  have key : ∀ {H : Hid} {ρ : Env}, EnvOk H ρ a → look ρ d = some (.b t) → EnvOk H ((d, .v (.bool t)) :: ρ) a := by
    intro H ρ he hl x g hx
    unfold look at hx
    cases hb : Nat.beq d x with
    | true =>
      rw [hb] at hx
      simp at hx
      subst hx
      rw [← beq_eq hb, (he d _ hl).inv_b]
      exact .ro (.v _)
    | false => rw [hb] at hx; exact he x g (by simpa using hx)
  exact h t rfl n0 H0 S0 w0 h0 g0 hσ hap hfree hlink H a w (hs.ρ _) ⟨key ha.env h1, ha.size, ha.defers⟩ (key hq h2)

def hsel (is : List Nat) : Heap → Heap
  | [] => []
  | (id, x) :: r => bif memB id is then (id, x) :: hsel is r else hsel is r

theorem hsel_mem {is : List Nat} : ∀ {σ : Heap} {x : Nat × Res}, x ∈ hsel is σ → x ∈ σ ∧ x.1 ∈ is
  | [], x, h => by simp [hsel] at h
  | (id, y) :: r, x, h => by
    unfold hsel at h
    cases hb : memB id is with
    | false => rw [hb] at h; have := hsel_mem (σ := r) (by simpa using h); exact ⟨List.mem_cons_of_mem _ this.1, this.2⟩
    | true =>
      rw [hb] at h
      rcases List.mem_cons.1 (by simpa using h) with rfl | h
      · exact ⟨List.mem_cons_self, memB_mem.1 hb⟩
      · have := hsel_mem h
        exact ⟨List.mem_cons_of_mem _ this.1, this.2⟩

theorem hsel_nodup {H : Hid} {is : List Nat} : ∀ {σ : Heap}, (blks H σ).Nodup → (blks H (hsel is σ)).Nodup
  | [], _ => by simp [hsel, blks]
  | (id, y) :: r, h => by
    rw [blks_cons] at h
    have h1 := List.nodup_append.1 h
    unfold hsel
    cases hb : memB id is with
    | false => exact hsel_nodup h1.2.1
    | true =>
      simp only [cond_true]
      rw [blks_cons]
      refine List.nodup_append.2 ⟨h1.1, hsel_nodup h1.2.1, fun b hb1 c hc e => ?_⟩
      obtain ⟨x, hx, hbx⟩ := List.mem_flatMap.1 hc
      exact h1.2.2 b hb1 c (List.mem_flatMap.2 ⟨x, (hsel_mem hx).1, hbx⟩) e

theorem Sat.sub {H : Hid} {σ τ : Heap} {w : World} (h : Sat H σ w) (hm : ∀ x ∈ τ, x ∈ σ) (hn : (blks H τ).Nodup) : Sat H τ w := by
  refine ⟨h.ro, fun x hx => h.holds x (hm x hx), hn, fun b hb => ?_, fun x hx => h.ids x (hm x hx)⟩
  obtain ⟨x, hx, hbx⟩ := List.mem_flatMap.1 hb
  exact h.free b (List.mem_flatMap.2 ⟨x, hm x hx, hbx⟩)

/-- How long own rows are: it stays known while they are written. -/
def lns : Heap → Heap
  | [] => []
  | (id, .row _ sz rows) :: r => (id, .ln sz rows.length) :: lns r
  | _ :: r => lns r

theorem lns_blks (H : Hid) : ∀ σ : Heap, blks H (lns σ) = []
  | [] => rfl
  | (id, .row _ sz rows) :: r => by simp only [lns]; rw [blks_cons, lns_blks H r]; rfl
  | (id, .blk _ _) :: r => by simp only [lns]; exact lns_blks H r
  | (id, .ob _) :: r => by simp only [lns]; exact lns_blks H r
  | (id, .ln _ _) :: r => by simp only [lns]; exact lns_blks H r
  | (id, .sub _ _ _ _) :: r => by simp only [lns]; exact lns_blks H r
  | (id, .mp _ _) :: r => by simp only [lns]; exact lns_blks H r
  | (id, .mr _ _ _ _) :: r => by simp only [lns]; exact lns_blks H r
  | (id, .itr _) :: r => by simp only [lns]; exact lns_blks H r

theorem lns_holds {H : Hid} {w : World} : ∀ {σ : Heap}, (∀ x ∈ σ, holds H w x) → (∀ x ∈ σ, x.1 < H.n) → ∀ x ∈ lns σ, holds H w x ∧ x.1 < H.n
  | [], _, _, x, hx => by simp [lns] at hx
  | (id, .row ty sz rows) :: r, h, hi, x, hx => by
    simp only [lns, List.mem_cons] at hx
    rcases hx with rfl | hx
    · obtain ⟨xs, hown, _⟩ := h _ List.mem_cons_self
      refine ⟨?_, hi (id, .row ty sz rows) List.mem_cons_self⟩
      rcases hown.2 with ⟨he, hn⟩ | ⟨g, cap, cur, he, _⟩
      · exact ⟨none, 0, by rw [he, hn], fun hlt => by omega⟩
      · exact ⟨_, cap, he, fun _ => ⟨g, rfl⟩⟩
    · exact lns_holds (fun x hx => h x (List.mem_cons_of_mem _ hx)) (fun x hx => hi x (List.mem_cons_of_mem _ hx)) x hx
  | (id, .blk _ _) :: r, h, hi, x, hx => lns_holds (fun x hx => h x (List.mem_cons_of_mem _ hx)) (fun x hx => hi x (List.mem_cons_of_mem _ hx)) x (by simpa only [lns] using hx)
  | (id, .ob _) :: r, h, hi, x, hx => lns_holds (fun x hx => h x (List.mem_cons_of_mem _ hx)) (fun x hx => hi x (List.mem_cons_of_mem _ hx)) x (by simpa only [lns] using hx)
  | (id, .sub _ _ _ _) :: r, h, hi, x, hx => lns_holds (fun x hx => h x (List.mem_cons_of_mem _ hx)) (fun x hx => hi x (List.mem_cons_of_mem _ hx)) x (by simpa only [lns] using hx)
  | (id, .mp _ _) :: r, h, hi, x, hx => lns_holds (fun x hx => h x (List.mem_cons_of_mem _ hx)) (fun x hx => hi x (List.mem_cons_of_mem _ hx)) x (by simpa only [lns] using hx)
  | (id, .mr _ _ _ _) :: r, h, hi, x, hx => lns_holds (fun x hx => h x (List.mem_cons_of_mem _ hx)) (fun x hx => hi x (List.mem_cons_of_mem _ hx)) x (by simpa only [lns] using hx)
  | (id, .itr _) :: r, h, hi, x, hx => lns_holds (fun x hx => h x (List.mem_cons_of_mem _ hx)) (fun x hx => hi x (List.mem_cons_of_mem _ hx)) x (by simpa only [lns] using hx)
  | (id, .ln _ _) :: r, h, hi, x, hx => lns_holds (fun x hx => h x (List.mem_cons_of_mem _ hx)) (fun x hx => hi x (List.mem_cons_of_mem _ hx)) x (by simpa only [lns] using hx)

theorem lns_le {H H' : Hid} (hl : H.le H') {w w' : World} {σ : Heap} (h : ∀ x ∈ lns σ, holds H w x ∧ x.1 < H.n) : ∀ x ∈ lns σ, holds H' w' x ∧ x.1 < H'.n := by
  intro x hx
  obtain ⟨h1, h2⟩ := h x hx
  refine ⟨?_, Nat.lt_of_lt_of_le h2 hl.n⟩
  refine holds_congr (w := w) (fun b hb => ?_) (holds_le hl h2 h1)
  have : blks H' (lns σ) = [] := lns_blks H' σ
  have hm : b ∈ blks H' (lns σ) := List.mem_flatMap.2 ⟨x, hx, hb⟩
  rw [this] at hm
  cases hm

theorem Sat.addLn {H : Hid} {τ σ : Heap} {w : World} (h : Sat H τ w) (hx : ∀ x ∈ lns σ, GK.holds H w x ∧ x.1 < H.n) : Sat H (τ ++ lns σ) w := by
  have e : blks H (τ ++ lns σ) = blks H τ := by rw [blks_append, lns_blks, List.append_nil]
  refine ⟨h.ro, fun x hm => ?_, by rw [e]; exact h.nodup, fun b hb => h.free b (by rwa [e] at hb), fun x hm => ?_⟩
  · rcases List.mem_append.1 hm with hm | hm
    · exact h.holds x hm
    · exact (hx x hm).1
  · rcases List.mem_append.1 hm with hm | hm
    · exact h.ids x hm
    · exact (hx x hm).2

/-- A REGION THAT DRAWS ITS ORDER. 'M': the own things that are written in it. -/
theorem JK.draw {id : Nat} {ops : Array Oper} {k : List It} {s : St} (M : List Nat) (hp : cx.pg.Ok) (h : RA cx T ops.toList k (hrest M s.σ ++ lns (hsel M s.σ)) s.ρ ops.toList.length (List.replicate ops.toList.length false) ⟨s.ρ, hsel M s.σ, s.n⟩) : JK cx T (.code (.region id ops true) :: k) s := by
  intro H a w hg hs0 ha
  have hs := hs0.below (below_drew w)
  refine wp_region_held (S := Held (blks H (hsel M s.σ)) w.drew) hp.mixed ?_
  have hsub1 : ∀ x ∈ hsel M s.σ, x ∈ s.σ := fun x hx => (hsel_mem hx).1
  have hsub2 : ∀ x ∈ hrest M s.σ, x ∈ s.σ := fun x hx => (hrest_mem hx).1
  have hsatM := hs.sat.sub hsub1 (hsel_nodup hs.sat.nodup)
  have hsatR := hs.sat.sub hsub2 (hrest_nodup hs.sat.nodup)
  have hap : ∀ b ∈ blks H (hrest M s.σ), b ∉ blks H (hsel M s.σ) := by
    intro b hb hc
    obtain ⟨x, hx, hbx⟩ := List.mem_flatMap.1 hb
    obtain ⟨y, hy, hby⟩ := List.mem_flatMap.1 hc
    exact blks_apart hs.sat.nodup (hsub2 x hx) (hsub1 y hy) (fun e => (hrest_mem hx).2 (by rw [e]; exact (hsel_mem hy).2)) b hbx hby
  have hmono : ∀ {τ : Heap}, (∀ x ∈ τ, x ∈ s.σ) → ∀ b ∈ blks H τ, b ∈ blks H s.σ := fun hm b hb => by
    obtain ⟨x, hx, hbx⟩ := List.mem_flatMap.1 hb
    exact List.mem_flatMap.2 ⟨x, hm x hx, hbx⟩
  have hcfr := hs.fr
  have hlnx := lns_holds (σ := hsel M s.σ) (fun x hx => hs.sat.holds x (hsub1 x hx)) (fun x hx => hs.sat.ids x (hsub1 x hx))
  have hsatL := hsatR.addLn hlnx
  have eL : blks H (hrest M s.σ ++ lns (hsel M s.σ)) = blks H (hrest M s.σ) := by rw [blks_append, lns_blks, List.append_nil]
  have := h s.n H (blks H (hsel M s.σ)) w.drew hs.n hg hsatL (by rw [eL]; exact hap) (fun b hb => hs.sat.free b (hmono hsub1 b hb)) (fun H' s' w' hs' => ?_) H a w.drew ⟨hs.n, hsatM, Fr.refl _ _ _⟩ ha (fun t g hl => ha.env t g hl)
  · simpa using this
  · suffices hmain : Sim cx H' ⟨s'.ρ, s'.σ ++ hrest M s.σ, s'.n⟩ w' by
      have hl2 := lns_le (w' := w') hs'.fr.le hlnx
      have e2 : blks H' ((s'.σ ++ hrest M s.σ) ++ lns (hsel M s.σ)) = blks H' (s'.σ ++ hrest M s.σ) := by rw [blks_append, lns_blks, List.append_nil]
      rw [← List.append_assoc]
      exact ⟨hmain.n, hmain.sat.addLn hl2, by simp only; rw [e2]; exact hmain.fr⟩
    have hfr : Fr H (blks H (hsel M s.σ)) w.drew H' (blks H' s'.σ) w' := hs'.fr
    have hle := hfr.le
    have hblr : blks H' (hrest M s.σ) = blks H (hrest M s.σ) := blks_le hle (fun x hx => hs.sat.ids x (hsub2 x hx))
    refine ⟨hs'.n, ⟨hs'.sat.ro, fun x hx => ?_, ?_, fun b hb => ?_, fun x hx => ?_⟩, ?_⟩
    · rcases List.mem_append.1 hx with hx | hx
      · exact hs'.sat.holds x hx
      · refine holds_congr (w := w.drew) (fun b hb => ?_) (holds_le hle (hs.sat.ids x (hsub2 x hx)) (hs.sat.holds x (hsub2 x hx)))
        rw [blocks_le hle (hs.sat.ids x (hsub2 x hx))] at hb
        have hbm : b ∈ blks H (hrest M s.σ) := List.mem_flatMap.2 ⟨x, hx, hb⟩
        exact hfr.keep b (hs.sat.lt b (hmono hsub2 b hbm)) (hap b hbm)
    · simp only
      rw [blks_append, hblr]
      refine List.nodup_append.2 ⟨hs'.sat.nodup, hsatR.nodup, fun b hb c hc e => ?_⟩
      subst e
      rcases hfr.own b hb with h1 | h1
      · exact hap b hc h1
      · have := hs.sat.lt b (hmono hsub2 b hc); omega
    · simp only at hb
      rw [blks_append, hblr] at hb
      rcases List.mem_append.1 hb with hb | hb
      · exact hs'.sat.free b hb
      · cases hrb : H'.ro b with
        | none => rfl
        | some o =>
          rcases hfr.fro b (hsatR.free b hb) (by rw [hrb]; simp) with h1 | h1
          · exact (hap b hb h1).elim
          · have := hs.sat.lt b (hmono hsub2 b hb); omega
    · simp only at hx
      rcases List.mem_append.1 hx with hx | hx
      · exact hs'.sat.ids x hx
      · exact Nat.lt_of_lt_of_le (hs.sat.ids x (hsub2 x hx)) hle.n
    · refine ⟨hfr.os.trans hcfr.os, hfr.tape.trans hcfr.tape, hfr.output.trans hcfr.output, Nat.le_trans hcfr.size hfr.size, fun b h1 h2 => ?_, fun b hb => ?_, fun b h1 h2 => ?_, hcfr.le.trans hle⟩
      · rw [hfr.keep b (Nat.lt_of_lt_of_le h1 hcfr.size) (fun hb => ?_)]
        · exact hcfr.keep b h1 h2
        · rcases hcfr.own b (hmono hsub1 b hb) with h3 | h3
          · exact h2 h3
          · omega
      · simp only at hb
        rw [blks_append, hblr] at hb
        rcases List.mem_append.1 hb with hb | hb
        · rcases hfr.own b hb with h3 | h3
          · exact hcfr.own b (hmono hsub1 b h3)
          · exact .inr (Nat.le_trans hcfr.size h3)
        · exact hcfr.own b (hmono hsub2 b hb)
      · by_cases h3 : H.ro b = none
        · rcases hfr.fro b h3 h2 with h4 | h4
          · exact hcfr.own b (hmono hsub1 b h4)
          · exact .inr (Nat.le_trans hcfr.size h4)
        · exact hcfr.fro b h1 h3
end
end Go.GK
