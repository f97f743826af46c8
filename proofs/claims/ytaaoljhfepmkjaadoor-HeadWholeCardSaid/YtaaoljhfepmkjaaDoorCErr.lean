/-
  Contracts: errors told apart (errors.As, api.Tell, plain.Place, raingaugelaw.is, bare): no error, or an Errno.
-/
import Derived.Test.YtaaoljhfepmkjaaDoorCAs
import Derived.Test.YtaaoljhfepmkjaaDoorCEr
import Derived.Test.YtaaoljhfepmkjaaDoorGKg
import Derived.Test.YtaaoljhfepmkjaaDoorCPg
import Derived.Stop.Asserts
namespace Go.Proofs.YtaaoljhfepmkjaaDoor
open Go.GK Go.RowKit
set_option maxRecDepth 100000
abbrev rtV : Value := .iface 96 (.agg #[.pointer (some ⟨4, 30, none⟩)])
theorem errG_of {H : Hid} {σ : Heap} {w : World} (hg : GlOk pg H) (hs : Sat H σ w) : w.cell? ⟨0, 0, none⟩ = some rtV := hg.cell hs rfl

theorem below4 (w : World) (a b c d : Obj) : Below w.heap.size w ((((w.alloc a).alloc b).alloc c).alloc d) := by
  have h : ∀ (w : World) (o : Obj), w.heap.size ≤ (w.alloc o).heap.size := fun w o => by show _ ≤ (w.heap.push o).size; simp
  have h1 := h w a
  have h2 := h (w.alloc a) b
  have h3 := h ((w.alloc a).alloc b) c
  exact ((((Below.refl _ _).alloc (Nat.le_refl _) a).alloc h1 b).alloc (Nat.le_trans h1 h2) c).alloc (Nat.le_trans h1 (Nat.le_trans h2 h3)) d
theorem asW_below (t : Addr) (m : Int) (w : World) : ∃ w5, Below w.heap.size w w5 ∧ asW t m w = w5.setCell t (.int .i64 m) := by
  exact ⟨_, below4 _ _ _ _ _, rfl⟩
theorem as_ct (m old : Int) : Ct pg 33 1 [.ifc 47 (gi m), .ifc 73 (.p 0 0)] [(0, .blk 47 [gi old])] (fun g σ n => g = .v (.bool true) ∧ σ = [(0, .blk 47 [gi m])] ∧ n = 1) :=
  Ct.set1 (p := pg) (G := fun w => w.cell? ⟨0, 0, none⟩ = some rtV) (.int .i64 m) (.int .i64 old) (.int .i64 m) (.bool true) (fun _ _ _ hg hs => errG_of hg hs) fun t w hg h1 h2 =>
    (as_hit m t _ w hg h1 h2).mono fun e w' ⟨he, hw⟩ => by
      obtain ⟨w5, hb, hw5⟩ := asW_below t m w
      exact ⟨he, w5, hb, hw.trans hw5⟩

theorem tell_ct (x : Option Int) : Ct pg 17 0 [erG x] [] (Val fun g => g = gi (erN x)) := by
  refine Ct.val (Ct.of_JK pg_ok Tryd.func17 rfl Tryd.ntmps17 rfl Tryd.results17 fun H0 S0 w0 h0 g0 => ?_)
  cases x with
  | none =>
    refine vc_sound pg_ok 200 _ _ ?_
    refine pos rfl ?_
    exact ⟨rfl, rfl⟩
  | some m =>
    refine vc_sound pg_ok 200 _ _ ?_
    refine neg rfl ?_
    refine JK.call (n0 := 1) (r := id) (as_ct m 0) Tryd.call33 rfl rfl rfl rfl rfl ⟨rfl, trivial⟩ rfl (by simp) ?_
    rintro g σ' n' ⟨rfl, rfl, rfl⟩
    refine vc_sound pg_ok 200 _ _ ?_
    exact ⟨rfl, rfl⟩
theorem noAt (u : Value) (w : World) : (Instr.typeAssert (.iface 47 u) 30 58 true).run Tryd.prog w = .ok (.tuple #[.pointer none, .bool false]) w := by kernel_rfl
theorem noUnwrap (u : Value) (w : World) : (Instr.typeAssert (.iface 47 u) 30 104 true).run Tryd.prog w = .ok (.tuple #[.nilIface, .bool false]) w := run_typeAssert_lacksB Tryd.underlying104 (by kernel_rfl) (by kernel_rfl) u _ w
theorem tup2 {H : Hid} {a b : Value} : Is H (.tup [.v a, .v b]) (.tuple #[a, b]) := .tup rfl fun j g hj => by
  match j with
  | 0 => simp at hj; subst hj; exact .ro (.v a)
  | 1 => simp at hj; subst hj; exact .ro (.v b)
  | j + 2 => simp at hj
end Go.Proofs.YtaaoljhfepmkjaaDoor
