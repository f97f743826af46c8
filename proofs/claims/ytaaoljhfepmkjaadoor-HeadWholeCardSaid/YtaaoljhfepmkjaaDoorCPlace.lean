/-
  Contracts: errors told apart: an error at a place (*api.At).
-/
import Derived.Test.YtaaoljhfepmkjaaDoorCAsAt
import Derived.Test.YtaaoljhfepmkjaaDoorCErr
import Derived.Test.YtaaoljhfepmkjaaDoorCGo
import Derived.Test.YtaaoljhfepmkjaaDoorGKh
namespace Go.Proofs.YtaaoljhfepmkjaaDoor
open Go.GK Go.RowKit
set_option maxRecDepth 100000
/-- An error at a place. -/
abbrev atG (m p : Int) : GV := .ifc 58 (.r [gi m, gi p])
theorem asAt_ct (m p old : Int) : Ct pg 33 1 [atG m p, .ifc 73 (.p 0 0)] [(0, .blk 47 [gi old])] (fun g σ n => g = .v (.bool true) ∧ σ = [(0, .blk 47 [gi m])] ∧ n = 1) :=
  Ct.set1g (p := pg) (G := fun u w => w.cell? ⟨0, 0, none⟩ = some rtV ∧ ∃ a, u = .pointer (some a) ∧ w.cell? a = some (.int .i64 m)) (.r [gi m, gi p]) (.int .i64 old) (.int .i64 m) (.bool true) (fun _ _ _ _ hg hs hi => ⟨errG_of hg hs, hi.r0 hs⟩) fun u t w hg h1 h2 => by
    obtain ⟨hg, a, rfl, ha⟩ := hg
    refine (as_hit_at m a t _ w ha hg h1 h2).mono fun e w' ⟨he, hw⟩ => ?_
    obtain ⟨w5, hb, hw5⟩ := asW_below t m w
    exact ⟨he, w5, hb, hw.trans hw5⟩
theorem tellAt_rt (m p : Int) : Rt pg 17 [atG m p] (gi m) := by
  refine Rt.of pg_ok Tryd.func17 rfl Tryd.ntmps17 rfl Tryd.results17 Tryd.call17 fun H0 S0 w0 h0 g0 => ?_
  refine p2 ?_
  refine JK.call (n0 := 1) (r := id) (asAt_ct m p 0) Tryd.call33 rfl rfl rfl rfl rfl ⟨rfl, trivial⟩ rfl (by simp) ?_
  rintro g σ' n' ⟨rfl, rfl, rfl⟩
  refine V ?_
  exact ⟨rfl, rfl⟩
theorem isAt (u : Value) (w : World) : (Instr.typeAssert (.iface 58 u) 30 58 true).run Tryd.prog w = .ok (.tuple #[u, .bool true]) w := by kernel_rfl
theorem tupR {H : Hid} {x : GV} {a b : Value} (h : Is H x a) : Is H (.tup [x, .v b]) (.tuple #[a, b]) := .tup rfl fun j g hj => by
  match j with
  | 0 => simp at hj; subst hj; exact h
  | 1 => simp at hj; subst hj; exact .ro (.v b)
  | j + 2 => simp at hj
end Go.Proofs.YtaaoljhfepmkjaaDoor
