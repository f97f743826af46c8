/-
  The ghost machine: a table of types held against the program's own.
-/
import Derived.Test.YtfagagfokmlgiaaGK8r
namespace Go.GK
open Go.RowKit

def zeq : List Value → List Value → Bool
  | [], [] => true
  | .int k a :: xs, .int j b :: ys => Nat.beq (kno k) (kno j) && decide (a = b) && zeq xs ys
  | .string a :: xs, .string b :: ys => decide (a = b) && zeq xs ys
  | .bool a :: xs, .bool b :: ys => (a == b) && zeq xs ys
  | .pointer none :: xs, .pointer none :: ys => zeq xs ys
  | .slice none 0 0 :: xs, .slice none 0 0 :: ys => zeq xs ys
  | .map none :: xs, .map none :: ys => zeq xs ys
  | .nilIface :: xs, .nilIface :: ys => zeq xs ys
  | .nilFunc :: xs, .nilFunc :: ys => zeq xs ys
  | .chan none :: xs, .chan none :: ys => zeq xs ys
  | _, _ => false

theorem zeq_eq : ∀ {xs ys : List Value}, zeq xs ys = true → xs = ys := by
  intro xs ys h
  fun_induction zeq xs ys
  case case2 k a xs j b ys ih =>
    simp only [Bool.and_eq_true, decide_eq_true_eq] at h
    rw [kno_inj (beq_eq h.1.1), h.1.2, ih h.2]
  all_goals simp_all

def agB : TypeDesc → Bool
  | .struct _ | .array _ _ => true
  | _ => false

def fieldB (P : Program) : List (Nat × Nat × Bool) → List Field → Bool
  | [], [] => true
  | (o, s, g) :: r, f :: fs => Nat.beq o f.offset && Nat.beq s (P.cellsOf f.type) && (g == (match P.underlying f.type with | some (.struct _) | some (.array _ _) => true | _ => false)) && (P.info? f.type).isSome && fieldB P r fs
  | _, _ => false

def descB (P : Program) : TD → TypeDesc → Bool
  | .int k, .int j => Nat.beq (kno k) (kno j)
  | .bool, .bool => true
  | .str, .string => true
  | .struct fs, .struct fields => fieldB P fs fields.toList
  | .slice e, .slice e' => Nat.beq e e'
  | .array n e, .array n' e' => Nat.beq n n' && Nat.beq e e'
  | .iface m, .interface ms => m == !ms.isEmpty
  | .map k e, .map k' e' => Nat.beq k k' && Nat.beq e e'
  | .ptr, .pointer _ => true
  | .other, .interface _ => false
  | .other, _ => true
  | _, _ => false

def eqkB (P : Program) : Nat → List EqK → List Field → Bool
  | _, [], [] => true
  | i, k :: ks, f :: fs => (f.name != "_") && Nat.beq f.offset i && (match k, P.underlying f.type with | .int, some (.int _) => true | .str, some .string => true | .bool, some .bool => true | _, _ => false) && eqkB P (i + 1) ks fs
  | _, _, _ => false

def tyB (P : Program) (t : Nat) (ti : TI) : Bool :=
  match P.info? t, P.underlying t with
  | some i, some d => Nat.beq i.size ti.sz && Nat.beq i.bytes ti.by_ && (match i.zero with | some z => zeq z.cells.toList ti.zero | none => false) && Nat.beq ti.zero.length ti.sz && (match i.zero with | some z => aggB z == ti.ag | none => false) && (ti.ag == agB d) && descB P ti.d d &&
    (match ti.eqk, d with
      | none, _ => true
      | some ks, .struct fields => !P.eqGuardType P.depth t && !P.stoodInHeld t && eqkB P 0 ks fields.toList
      | _, _ => false)
  | _, _ => false

theorem fieldB_spec {P : Program} : ∀ {fs : List (Nat × Nat × Bool)} {fields : List Field}, fieldB P fs fields = true → (∀ f : Nat, fs[f]? = (fields[f]?).map (fun x => (x.offset, P.cellsOf x.type, (match P.underlying x.type with | some (.struct _) | some (.array _ _) => true | _ => false)))) ∧ ∀ f ∈ fields, (P.info? f.type).isSome = true
  | [], [], _ => by simp
  | (o, s, g) :: r, f :: fs, h => by
    simp only [fieldB, Bool.and_eq_true, beq_iff_eq] at h
    obtain ⟨⟨⟨⟨h1, h2⟩, h3⟩, h4⟩, h5⟩ := h
    obtain ⟨i1, i2⟩ := fieldB_spec h5
    refine ⟨fun k => ?_, fun x hx => ?_⟩
    · cases k with
      | zero => simp [beq_eq h1, beq_eq h2, h3]
      | succ k => simpa using i1 k
    · rcases List.mem_cons.1 hx with rfl | hx
      · exact h4
      · exact i2 x hx

theorem eqkB_spec {P : Program} : ∀ {i : Nat} {ks : List EqK} {fields : List Field}, eqkB P i ks fields = true → fields.length = ks.length ∧ ∀ (j : Nat) (f : Field), fields[j]? = some f → f.name ≠ "_" ∧ f.offset = i + j ∧ ∃ k, ks[j]? = some k ∧ (match k with | .int => ∃ j, P.underlying f.type = some (.int j) | .str => P.underlying f.type = some .string | .bool => P.underlying f.type = some .bool)
  | _, [], [], _ => by simp
  | i, k :: ks, f :: fs, h => by
    simp only [eqkB, Bool.and_eq_true, bne_iff_ne, ne_eq] at h
    obtain ⟨⟨⟨h1, h2⟩, h3⟩, h4⟩ := h
    obtain ⟨i1, i2⟩ := eqkB_spec h4
    refine ⟨by simp [i1], fun j f' hj => ?_⟩
    cases j with
    | zero =>
      simp at hj
      subst hj
      refine ⟨h1, by simpa using beq_eq h2, k, rfl, ?_⟩
      cases k <;> (cases hu : P.underlying f.type with
        | none => simp [hu] at h3
        | some d => cases d <;> simp_all)
    | succ j =>
      obtain ⟨a, b, c, d, e⟩ := i2 j f' (by simpa using hj)
      exact ⟨a, by omega, c, by simpa using d, e⟩

theorem tyB_ok {P : Program} {t : Nat} {ti : TI} (h : tyB P t ti = true) : TyOk P t ti := by
  unfold tyB at h
  cases hi : P.info? t with
  | none => simp [hi] at h
  | some i =>
    cases hu : P.underlying t with
    | none => simp [hi, hu] at h
    | some d =>
      simp only [hi, hu, Bool.and_eq_true, beq_iff_eq] at h
      obtain ⟨⟨⟨⟨⟨⟨⟨h1, h2⟩, h3⟩, h4⟩, h8⟩, h5⟩, h6⟩, h7⟩ := h
      cases hz : i.zero with
      | none => simp [hz] at h3
      | some z =>
        simp only [hz] at h3 h8
        refine ⟨⟨i, z, hi, beq_eq h1, beq_eq h2, hz, zeq_eq h3, beq_eq h4⟩, ⟨i, z, hi, hz, by simpa using h8⟩, ⟨d, hu, ?_⟩, ?_, fun ks hk => ?_⟩
        · rw [h5]; cases d <;> rfl
        · revert h6
          cases ti.d <;> cases d <;> simp only [descB, Bool.false_eq_true, false_implies, forall_const] <;> (try intro h6)
          case int.int => rw [hu, kno_inj (beq_eq h6)]
          case bool.bool => exact hu
          case str.string => exact hu
          case struct.struct fs fields =>
            obtain ⟨a, b⟩ := fieldB_spec h6
            exact ⟨fields, hu, fun f => (a f).trans (by rw [Array.getElem?_toList]; rfl), b⟩
          case slice.slice => rw [hu, beq_eq h6]
          case array.array =>
            simp only [Bool.and_eq_true] at h6
            rw [hu, beq_eq h6.1, beq_eq h6.2]
          case iface.interface m ms => exact ⟨ms, hu, by simpa using h6⟩
          case map.map =>
            simp only [Bool.and_eq_true] at h6
            rw [hu, beq_eq h6.1, beq_eq h6.2]
          case ptr.pointer e => exact ⟨e, hu⟩
          all_goals (intros; simp_all)
        · rw [hk] at h7
          cases d <;> simp only [Bool.false_eq_true] at h7
          case struct fields =>
            simp only [Bool.and_eq_true, Bool.not_eq_true'] at h7
            obtain ⟨⟨a, b⟩, c⟩ := h7
            obtain ⟨e1, e2⟩ := eqkB_spec c
            exact ⟨a, b, fields, hu, by simpa using e1, fun i f hf => by obtain ⟨x1, x2, k, x3, x4⟩ := e2 i f (by simpa using hf); exact ⟨x1, by omega, k, x3, by cases k <;> exact x4⟩⟩

def ttB (P : Program) : TT → Bool
  | [] => true
  | (t, ti) :: r => tyB P t ti && ttB P r

theorem Pg.ok_of {p : Pg} (h : ttB p.P p.tt = true) (hm : p.P.follows .mixedOrders = true) : p.Ok := by
  refine ⟨fun t ti ht => ?_, hm⟩
  revert h ht
  generalize p.tt = tt
  induction tt with
  | nil => intro _ ht; simp [tget] at ht
  | cons x r ih =>
    obtain ⟨s, g⟩ := x
    intro h ht
    simp only [ttB, Bool.and_eq_true] at h
    unfold tget at ht
    cases hb : Nat.beq s t with
    | true =>
      rw [hb] at ht
      have := beq_eq hb
      subst this
      simp at ht
      subst ht
      exact tyB_ok h.1
    | false => rw [hb] at ht; exact ih h.2 (by simpa using ht)
end Go.GK
