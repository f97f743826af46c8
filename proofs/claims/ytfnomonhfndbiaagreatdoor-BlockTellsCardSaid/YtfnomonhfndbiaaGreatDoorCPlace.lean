/-
  Contracts: errors told apart: an error at a place (*api.At).
-/
import Derived.Test.YtfnomonhfndbiaaGreatDoorCAsAt
import Derived.Test.YtfnomonhfndbiaaGreatDoorCErr
import Derived.Test.YtfnomonhfndbiaaGreatDoorCGo
import Derived.Test.YtfnomonhfndbiaaGreatDoorGKh
namespace Go.Proofs.YtfnomonhfndbiaaGreatDoor
open Go.GK Go.RowKit
set_option maxRecDepth 100000
/-- An error at a place. -/
abbrev atG (m p : Int) : GV := .ifc 88 (.r [gi m, gi p])
theorem asAt_ct (m p old : Int) : Ct pg 81 1 [atG m p, .ifc 141 (.p 0 0)] [(0, .blk 26 [gi old])] (fun g σ n => g = .v (.bool true) ∧ σ = [(0, .blk 26 [gi m])] ∧ n = 1) :=
  Ct.set1g (p := pg) (G := fun u w => w.cell? ⟨3, 0, none⟩ = some rtV ∧ ∃ a, u = .pointer (some a) ∧ w.cell? a = some (.int .i64 m)) (.r [gi m, gi p]) (.int .i64 old) (.int .i64 m) (.bool true) (fun _ _ _ _ hg hs hi => ⟨errG_of hg hs, hi.r0 hs⟩) fun u t w hg h1 h2 => by
    obtain ⟨hg, a, rfl, ha⟩ := hg
    refine (as_hit_at m a t _ w ha hg h1 h2).mono fun e w' ⟨he, hw⟩ => ?_
    obtain ⟨w5, hb, hw5⟩ := asW_below t m w
    exact ⟨he, w5, hb, hw.trans hw5⟩
theorem tellAt_rt (m p : Int) : Rt pg 62 [atG m p] (gi m) := by
  refine Rt.of pg_ok Tryz.func62 rfl Tryz.ntmps62 rfl Tryz.results62 Tryz.call62 fun H0 S0 w0 h0 g0 => ?_
  refine p2 ?_
  refine JK.call (n0 := 1) (r := id) (asAt_ct m p 0) Tryz.call81 rfl rfl rfl rfl rfl ⟨rfl, trivial⟩ rfl (by simp) ?_
  rintro g σ' n' ⟨rfl, rfl, rfl⟩
  refine V ?_
  exact ⟨rfl, rfl⟩
theorem isAt (u : Value) (w : World) : (Instr.typeAssert (.iface 88 u) 30 88 true).run Tryz.prog w = .ok (.tuple #[u, .bool true]) w := by kernel_rfl
theorem tupR {H : Hid} {x : GV} {a b : Value} (h : Is H x a) : Is H (.tup [x, .v b]) (.tuple #[a, b]) := .tup rfl fun j g hj => by
  match j with
  | 0 => simp at hj; subst hj; exact h
  | 1 => simp at hj; subst hj; exact .ro (.v b)
  | j + 2 => simp at hj
theorem placeAt_rt (m p : Int) : Rt pg 43 [atG m p] (.tup [gi m, gi p]) := by
  refine Rt.of pg_ok Tryz.func43 rfl Tryz.ntmps43 rfl Tryz.results43 Tryz.call43 fun H0 S0 w0 h0 g0 => ?_
  refine GO (tellAt_rt m p) rfl ?_
  refine JK.loopE (α := Unit) (β := Unit) (fun _ => ⟨[(0, atG m p), (4, gi m)], [], 0⟩) (fun _ => True) (fun _ => 0) (fun _ => ⟨[], [], 0⟩) (fun _ => False) () id ?_ trivial ?_ ?_
  · exact ⟨⟨rfl, rfl, trivial⟩, trivial, rfl⟩
  · intro _ _
    refine V ?_
    refine p1 ?_
    refine JK.tassert (t := 88) (g := .r [gi m, gi p]) (r := .tup [.r [gi m, gi p], .v (.bool true)]) (fun H u w hu => ⟨_, isAt u w, tupR hu⟩) rfl rfl rfl ?_
    refine V ?_
    repeat (first | refine p1 ?_ | refine p2 ?_ | refine p3 ?_ | refine p4 ?_)
    refine ⟨by kernel_rfl, ?_⟩
    exact ⟨⟨rfl, rfl, trivial⟩, rfl⟩
  · intro _ h
    exact h.elim
theorem isAt_rt (m p e q : Int) : Rt pg 19 [atG m p, .agg [gi e, gi q]] (.b (m == e && p == q)) := by
  refine Rt.of pg_ok Tryz.func19 rfl Tryz.ntmps19 rfl Tryz.results19 Tryz.call19 fun H0 S0 w0 h0 g0 => ?_
  refine GO (placeAt_rt m p) rfl ?_
  rcases tf (m == e) with h | h
  · refine p1 ?_ h
    exact ⟨by rw [h]; rfl, rfl⟩
  · refine p2 ?_ h
    exact ⟨by rw [h]; rfl, rfl⟩
theorem isE_rt (x : Option Int) (e p : Int) : Rt pg 19 [erG x, .agg [gi e, gi p]] (.b (erN x == e && -1 == p)) := Rq.old Tryz.call19 (is_ct x e p)
theorem bareE_rt (x : Option Int) (e : Int) : Rt pg 7 [erG x, gi e] (.b (erN x == e)) := Rq.old Tryz.call7 (bare_ct x e)
end Go.Proofs.YtfnomonhfndbiaaGreatDoor
