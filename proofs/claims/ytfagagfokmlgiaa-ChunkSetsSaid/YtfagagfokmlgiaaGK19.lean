/-
  The ghost machine: a type assertion, told by its run; a package-level variable of one cell.
-/
import Derived.Test.YtfagagfokmlgiaaGK18
import Derived.Test.YtfagagfokmlgiaaGK13
import Derived.Test.YtfagagfokmlgiaaGK16
namespace Go.GK
open Go.RowKit

section
variable {cx : Cx} {T : Post}

theorem JK.tassert {all : List Oper} {o : Oper} {rest : List Oper} {k : List It} {s : St} {x : Operand} {xT asserted t : TypeId} {g r : GV} (hf : ∀ (H : Hid) (u : Value) (w : World), Is H g u → ∃ v, (Instr.typeAssert (.iface t u) xT asserted true).run cx.pg.P w = .ok v w ∧ Is H r v)
    (ho : o.op = .typeAssert x xT asserted true) (hgd : gdOk all s.ρ o.guard = true) (hx : ev cx.pg s.ρ x = some (.ifc t g))
    (hk : nf r fun r => dput cx.N s.ρ o.dst r fun ρ' => JK cx T (.ops false all rest :: k) ⟨ρ', s.σ, s.n⟩) : JK cx T (.ops false all (o :: rest) :: k) s := by
  intro H a w hg hs ha
  have hw := gdOk_wanted (o := o) ha.env hgd
  obtain ⟨u, hu, hi⟩ := (ev_is hg ha.env hx).inv_ifc
  obtain ⟨v, hr, hv⟩ := hf H u w hi
  have hrun : (execOp a.eval o).run cx.pg.P w = .ok (.value v) w := by
    simp only [execOp, ho, hu, Sem.run_bind, hr, Result.andThen_ok]
    rfl
  rw [nf_eq] at hk
  obtain ⟨ρ', ha', hJ⟩ := ha.dput hv hk
  exact wpList_run hw hrun (hJ H (a.put o.dst v) w hg (hs.ρ ρ') ha')

theorem gl_one {H : Hid} {w : World} (hro : H.ro = roOf w) {g : Nat} {x : Value} (h : w.cell? ⟨g, 0, none⟩ = some x) : IsR H.ro (.r [.v x]) (.pointer (some ⟨g, 0, none⟩)) := by
  refine .r (fun _ => x) (fun j gv hj => ?_) (fun j gv hj => ?_)
  · cases j with
    | zero =>
      rw [hro]
      exact h
    | succ j => simp at hj
  · cases j with
    | zero => simp at hj; subst hj; exact .v x
    | succ j => simp at hj
end
end Go.GK
