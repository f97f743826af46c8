/-
  Contracts: errors told apart (errors.As, api.Tell, plain.Place, raingaugelaw.is, bare): no error, or an Errno.
-/
import Derived.Test.YtfnomonhfndbiaaGreatDoorCAs
import Derived.Test.YtfnomonhfndbiaaGreatDoorCEr
import Derived.Test.YtfnomonhfndbiaaGreatDoorGKg
import Derived.Test.YtfnomonhfndbiaaGreatDoorCPg
import Derived.Stop.Asserts
namespace Go.Proofs.YtfnomonhfndbiaaGreatDoor
open Go.GK Go.RowKit
set_option maxRecDepth 100000
abbrev rtV : Value := .iface 181 (.agg #[.pointer (some ⟨6, 30, none⟩)])
theorem errG_of {H : Hid} {σ : Heap} {w : World} (hg : GlOk pg H) (hs : Sat H σ w) : w.cell? ⟨3, 0, none⟩ = some rtV := hg.cell hs rfl

theorem below4 (w : World) (a b c d : Obj) : Below w.heap.size w ((((w.alloc a).alloc b).alloc c).alloc d) := by
  have h : ∀ (w : World) (o : Obj), w.heap.size ≤ (w.alloc o).heap.size := fun w o => by show _ ≤ (w.heap.push o).size; simp
  have h1 := h w a
  have h2 := h (w.alloc a) b
  have h3 := h ((w.alloc a).alloc b) c
  exact ((((Below.refl _ _).alloc (Nat.le_refl _) a).alloc h1 b).alloc (Nat.le_trans h1 h2) c).alloc (Nat.le_trans h1 (Nat.le_trans h2 h3)) d
theorem asW_below (t : Addr) (m : Int) (w : World) : ∃ w5, Below w.heap.size w w5 ∧ asW t m w = w5.setCell t (.int .i64 m) := by
  exact ⟨_, below4 _ _ _ _ _, rfl⟩
theorem as_ct (m old : Int) : Ct pg 81 1 [.ifc 26 (gi m), .ifc 141 (.p 0 0)] [(0, .blk 26 [gi old])] (fun g σ n => g = .v (.bool true) ∧ σ = [(0, .blk 26 [gi m])] ∧ n = 1) :=
  Ct.set1 (p := pg) (G := fun w => w.cell? ⟨3, 0, none⟩ = some rtV) (.int .i64 m) (.int .i64 old) (.int .i64 m) (.bool true) (fun _ _ _ hg hs => errG_of hg hs) fun t w hg h1 h2 =>
    (as_hit m t _ w hg h1 h2).mono fun e w' ⟨he, hw⟩ => by
      obtain ⟨w5, hb, hw5⟩ := asW_below t m w
      exact ⟨he, w5, hb, hw.trans hw5⟩

theorem tell_ct (x : Option Int) : Ct pg 62 0 [erG x] [] (Val fun g => g = gi (erN x)) := by
  refine Ct.val (Ct.of_JK pg_ok Tryz.func62 rfl Tryz.ntmps62 rfl Tryz.results62 fun H0 S0 w0 h0 g0 => ?_)
  cases x with
  | none =>
    refine vc_sound pg_ok 200 _ _ ?_
    refine pos rfl ?_
    exact ⟨rfl, rfl⟩
  | some m =>
    refine vc_sound pg_ok 200 _ _ ?_
    refine neg rfl ?_
    refine JK.call (n0 := 1) (r := id) (as_ct m 0) Tryz.call81 rfl rfl rfl rfl rfl ⟨rfl, trivial⟩ rfl (by simp) ?_
    rintro g σ' n' ⟨rfl, rfl, rfl⟩
    refine vc_sound pg_ok 200 _ _ ?_
    exact ⟨rfl, rfl⟩
theorem noAt (u : Value) (w : World) : (Instr.typeAssert (.iface 26 u) 30 88 true).run Tryz.prog w = .ok (.tuple #[.pointer none, .bool false]) w := by kernel_rfl
theorem noUnwrap (u : Value) (w : World) : (Instr.typeAssert (.iface 26 u) 30 117 true).run Tryz.prog w = .ok (.tuple #[.nilIface, .bool false]) w := run_typeAssert_lacksB Tryz.underlying117 (by kernel_rfl) (by kernel_rfl) u _ w
theorem tup2 {H : Hid} {a b : Value} : Is H (.tup [.v a, .v b]) (.tuple #[a, b]) := .tup rfl fun j g hj => by
  match j with
  | 0 => simp at hj; subst hj; exact .ro (.v a)
  | 1 => simp at hj; subst hj; exact .ro (.v b)
  | j + 2 => simp at hj
theorem place_ct (x : Option Int) : Ct pg 43 0 [erG x] [] (Val fun g => g = .tup [gi (erN x), gi (-1)]) := by
  refine Ct.val (Ct.of_JK pg_ok Tryz.func43 rfl Tryz.ntmps43 rfl Tryz.results43 fun H0 S0 w0 h0 g0 => ?_)
  cases x with
  | none =>
    refine vc_sound pg_ok 200 _ _ ?_
    refine JK.call (n0 := 0) (r := id) (tell_ct none) Tryz.call62 rfl rfl rfl rfl rfl trivial rfl (by simp) ?_
    rintro g σ' n' ⟨rfl, rfl, rfl⟩
    refine vc_sound pg_ok 200 _ _ ?_
    refine JK.loopE (α := Unit) (β := Unit) (fun _ => ⟨[(0, .v .nilIface), (4, gi 0)], [], 0⟩) (fun _ => True) (fun _ => 0) (fun _ => ⟨[(4, gi 0)], [], 0⟩) (fun _ => True) () id ?_ trivial ?_ ?_
    · exact ⟨⟨rfl, rfl, trivial⟩, trivial, rfl⟩
    · intro _ _
      refine vc_sound pg_ok 200 _ _ ?_
      refine neg rfl ?_
      exact ⟨(), id, ⟨⟨rfl, trivial⟩, trivial, rfl⟩, trivial⟩
    · intro _ _
      refine vc_sound pg_ok 200 _ _ ?_
      exact ⟨rfl, rfl⟩
  | some m =>
    refine vc_sound pg_ok 200 _ _ ?_
    refine JK.call (n0 := 0) (r := id) (tell_ct (some m)) Tryz.call62 rfl rfl rfl rfl rfl trivial rfl (by simp) ?_
    rintro g σ' n' ⟨rfl, rfl, rfl⟩
    refine vc_sound pg_ok 200 _ _ ?_
    refine JK.loopE (α := Unit) (β := Unit) (fun _ => ⟨[(0, .ifc 26 (gi m)), (4, gi m)], [], 0⟩) (fun _ => True) (fun _ => 0) (fun _ => ⟨[(4, gi m)], [], 0⟩) (fun _ => True) () id ?_ trivial ?_ ?_
    · exact ⟨⟨rfl, rfl, trivial⟩, trivial, rfl⟩
    · intro _ _
      refine vc_sound pg_ok 200 _ _ ?_
      refine pos rfl ?_
      refine JK.tassert (t := 26) (g := gi m) (r := .tup [.v (.pointer none), .v (.bool false)]) (fun H u w _ => ⟨_, noAt u w, tup2⟩) rfl rfl rfl ?_
      refine vc_sound pg_ok 200 _ _ ?_
      refine JK.tassert (t := 26) (g := gi m) (r := .tup [.v .nilIface, .v (.bool false)]) (fun H u w _ => ⟨_, noUnwrap u w, tup2⟩) rfl rfl rfl ?_
      refine vc_sound pg_ok 200 _ _ ?_
      exact ⟨(), id, ⟨⟨rfl, trivial⟩, trivial, rfl⟩, trivial⟩
    · intro _ _
      refine vc_sound pg_ok 200 _ _ ?_
      exact ⟨rfl, rfl⟩
theorem is_ct (x : Option Int) (e p : Int) : Ct pg 19 0 [erG x, .agg [gi e, gi p]] [] (Val fun g => g = .b (erN x == e && -1 == p)) := by
  refine Ct.bool (Ct.of_JK pg_ok Tryz.func19 rfl Tryz.ntmps19 rfl Tryz.results19 fun H0 S0 w0 h0 g0 => ?_)
  cases x with
  | none =>
    refine vc_sound pg_ok 200 _ _ ?_
    refine JK.call (n0 := 0) (r := id) (place_ct none) Tryz.call43 rfl rfl rfl rfl rfl trivial rfl (by simp) ?_
    rintro g σ' n' ⟨rfl, rfl, rfl⟩
    refine vc_sound pg_ok 200 _ _ ?_
    refine ⟨fun h => ?_, fun h => ?_⟩
    · refine .inr (congrArg GV.b ?_)
      show _ = (((0 : Int) == e) && _)
      rw [show ((0 : Int) == e) = true from h]; rfl
    · refine .inl (congrArg (fun c => GV.v (.bool c)) ?_)
      show _ = (((0 : Int) == e) && _)
      rw [show ((0 : Int) == e) = false from h]; rfl
  | some m =>
    refine vc_sound pg_ok 200 _ _ ?_
    refine JK.call (n0 := 0) (r := id) (place_ct (some m)) Tryz.call43 rfl rfl rfl rfl rfl trivial rfl (by simp) ?_
    rintro g σ' n' ⟨rfl, rfl, rfl⟩
    refine vc_sound pg_ok 200 _ _ ?_
    refine ⟨fun h => ?_, fun h => ?_⟩
    · refine .inr (congrArg GV.b ?_)
      show _ = ((m == e) && _)
      rw [show (m == e) = true from h]; rfl
    · refine .inl (congrArg (fun c => GV.v (.bool c)) ?_)
      show _ = ((m == e) && _)
      rw [show (m == e) = false from h]; rfl
theorem refBare_ct (e : Int) : Ct pg 20 0 [gi e] [] (Val fun g => g = .agg [gi e, gi (-1)]) := by
  refine Ct.val (Ct.of_JK pg_ok Tryz.func20 rfl Tryz.ntmps20 rfl Tryz.results20 fun H0 S0 w0 h0 g0 => ?_)
  refine vc_sound pg_ok 200 _ _ ?_
  exact ⟨rfl, rfl⟩
theorem bare_ct (x : Option Int) (e : Int) : Ct pg 7 0 [erG x, gi e] [] (Val fun g => g = .b (erN x == e)) := by
  have fin : ∀ c : Bool, (c && ((-1 : Int) == -1)) = c := fun c => by cases c <;> rfl
  refine Ct.val (Ct.of_JK pg_ok Tryz.func7 rfl Tryz.ntmps7 rfl Tryz.results7 fun H0 S0 w0 h0 g0 => ?_)
  cases x with
  | none =>
    refine vc_sound pg_ok 200 _ _ ?_
    refine JK.call (n0 := 0) (r := id) (refBare_ct e) Tryz.call20 rfl rfl rfl rfl rfl trivial rfl (by simp) ?_
    rintro g σ' n' ⟨rfl, rfl, rfl⟩
    refine vc_sound pg_ok 200 _ _ ?_
    refine JK.call (n0 := 0) (r := id) (is_ct none e (-1)) Tryz.call19 rfl rfl rfl rfl rfl trivial rfl (by simp) ?_
    rintro g σ' n' ⟨rfl, rfl, rfl⟩
    refine vc_sound pg_ok 200 _ _ ?_
    exact ⟨congrArg GV.b (fin _), rfl⟩
  | some m =>
    refine vc_sound pg_ok 200 _ _ ?_
    refine JK.call (n0 := 0) (r := id) (refBare_ct e) Tryz.call20 rfl rfl rfl rfl rfl trivial rfl (by simp) ?_
    rintro g σ' n' ⟨rfl, rfl, rfl⟩
    refine vc_sound pg_ok 200 _ _ ?_
    refine JK.call (n0 := 0) (r := id) (is_ct (some m) e (-1)) Tryz.call19 rfl rfl rfl rfl rfl trivial rfl (by simp) ?_
    rintro g σ' n' ⟨rfl, rfl, rfl⟩
    refine vc_sound pg_ok 200 _ _ ?_
    exact ⟨congrArg GV.b (fin _), rfl⟩
end Go.Proofs.YtfnomonhfndbiaaGreatDoor
