/-
  The program of this seat, and its types, as the ghost machine takes them.
-/
import Derived.Test.YtaaoljhfepmkjaaDoorGKf
import Derived.Test.YtaaoljhfepmkjaaDoorGKe
import Derived.Test.YtaaoljhfepmkjaaDoorGKg
import Derived.Test.YtaaoljhfepmkjaaDoorProg
import Derived.KernelRfl
namespace Go.Proofs.YtaaoljhfepmkjaaDoor
open Go.GK
def tyTab : TT := [
  (1, ⟨1, 8, false, [.nilFunc], .other, none⟩),
  (2, ⟨1, 8, false, [.int .i64 0], .int .i64, none⟩),
  (3, ⟨1, 8, false, [.int .i64 0], .int .i64, none⟩),
  (4, ⟨1, 1, false, [.bool false], .bool, none⟩),
  (5, ⟨1, 1, false, [.int .u8 0], .int .u8, none⟩),
  (6, ⟨1, 1, false, [.int .u8 0], .int .u8, none⟩),
  (9, ⟨1, 16, false, [.string .empty], .str, none⟩),
  (12, ⟨1, 8, false, [.int .u64 0], .int .u64, none⟩),
  (13, ⟨2, 24, true, [.string .empty, .int .u64 0], .struct [(0, 1, false), (1, 1, false)], none⟩),
  (20, ⟨1, 16, false, [.nilIface], .iface false, none⟩),
  (21, ⟨1, 4, false, [.int .i32 0], .int .i32, none⟩),
  (22, ⟨1, 24, false, [.slice none 0 0], .slice 27, none⟩),
  (23, ⟨1, 8, false, [.nilFunc], .other, none⟩),
  (24, ⟨1, 8, false, [.pointer none], .ptr, none⟩),
  (25, ⟨1, 8, false, [.nilFunc], .other, none⟩),
  (26, ⟨1, 8, false, [.nilFunc], .other, none⟩),
  (27, ⟨1, 24, false, [.slice none 0 0], .slice 38, none⟩),
  (28, ⟨1, 8, false, [.nilFunc], .other, none⟩),
  (29, ⟨1, 16, false, [.nilIface], .iface true, none⟩),
  (30, ⟨1, 16, false, [.nilIface], .iface true, none⟩),
  (31, ⟨1, 8, false, [.nilFunc], .other, none⟩),
  (32, ⟨1, 8, false, [.nilFunc], .other, none⟩),
  (33, ⟨1, 8, false, [.nilFunc], .other, none⟩),
  (34, ⟨1, 8, false, [.nilFunc], .other, none⟩),
  (35, ⟨1, 24, false, [.slice none 0 0], .slice 54, none⟩),
  (36, ⟨1, 24, false, [.slice none 0 0], .slice 42, none⟩),
  (37, ⟨2, 48, true, [.slice none 0 0, .slice none 0 0], .struct [(0, 1, false), (1, 1, false)], none⟩),
  (38, ⟨2, 48, true, [.slice none 0 0, .slice none 0 0], .struct [(0, 1, false), (1, 1, false)], none⟩),
  (39, ⟨1, 8, false, [.nilFunc], .other, none⟩),
  (40, ⟨1, 8, false, [.nilFunc], .other, none⟩),
  (41, ⟨2, 16, true, [.int .i64 0, .int .i64 0], .struct [(0, 1, false), (1, 1, false)], none⟩),
  (42, ⟨2, 16, true, [.int .i64 0, .int .i64 0], .struct [(0, 1, false), (1, 1, false)], some [.int, .int]⟩),
  (43, ⟨1, 8, false, [.nilFunc], .other, none⟩),
  (44, ⟨1, 8, false, [.nilFunc], .other, none⟩),
  (45, ⟨1, 8, false, [.nilFunc], .other, none⟩),
  (46, ⟨1, 8, false, [.nilFunc], .other, none⟩),
  (47, ⟨1, 8, false, [.int .i64 0], .int .i64, none⟩),
  (48, ⟨1, 8, false, [.nilFunc], .other, none⟩),
  (49, ⟨2, 32, true, [.int .i64 0, .slice none 0 0], .struct [(0, 1, false), (1, 1, false)], none⟩),
  (50, ⟨2, 32, true, [.int .i64 0, .slice none 0 0], .struct [(0, 1, false), (1, 1, false)], none⟩),
  (51, ⟨1, 8, false, [.nilFunc], .other, none⟩),
  (52, ⟨1, 8, false, [.nilFunc], .other, none⟩),
  (53, ⟨2, 32, true, [.string .empty, .string .empty], .struct [(0, 1, false), (1, 1, false)], none⟩),
  (54, ⟨2, 32, true, [.string .empty, .string .empty], .struct [(0, 1, false), (1, 1, false)], some [.str, .str]⟩),
  (55, ⟨1, 8, false, [.nilFunc], .other, none⟩),
  (56, ⟨1, 8, false, [.nilFunc], .other, none⟩),
  (57, ⟨1, 8, false, [.nilFunc], .other, none⟩),
  (58, ⟨1, 8, false, [.pointer none], .ptr, none⟩),
  (59, ⟨2, 16, true, [.int .i64 0, .int .i64 0], .struct [(0, 1, false), (1, 1, false)], none⟩),
  (60, ⟨2, 16, true, [.int .i64 0, .int .i64 0], .struct [(0, 1, false), (1, 1, false)], some [.int, .int]⟩),
  (62, ⟨1, 8, false, [.nilFunc], .other, none⟩),
  (63, ⟨1, 8, false, [.nilFunc], .other, none⟩),
  (64, ⟨1, 8, false, [.nilFunc], .other, none⟩),
  (65, ⟨1, 8, false, [.nilFunc], .other, none⟩),
  (66, ⟨1, 8, false, [.nilFunc], .other, none⟩),
  (67, ⟨1, 8, false, [.nilFunc], .other, none⟩),
  (68, ⟨1, 8, false, [.nilFunc], .other, none⟩),
  (69, ⟨1, 8, false, [.nilFunc], .other, none⟩),
  (70, ⟨1, 8, false, [.nilFunc], .other, none⟩),
  (71, ⟨1, 8, false, [.nilFunc], .other, none⟩),
  (72, ⟨1, 8, false, [.nilFunc], .other, none⟩),
  (73, ⟨1, 8, false, [.pointer none], .ptr, none⟩),
  (74, ⟨1, 8, false, [.nilFunc], .other, none⟩),
  (75, ⟨1, 8, false, [.nilFunc], .other, none⟩),
  (76, ⟨1, 8, false, [.nilFunc], .other, none⟩),
  (77, ⟨1, 24, false, [.slice none 0 0], .slice 36, none⟩),
  (78, ⟨1, 8, false, [.nilFunc], .other, none⟩),
  (79, ⟨1, 24, false, [.slice none 0 0], .slice 3, none⟩),
  (80, ⟨1, 8, false, [.nilFunc], .other, none⟩),
  (82, ⟨1, 8, false, [.int .u64 0], .int .u64, none⟩),
  (89, ⟨1, 1, false, [.int .u8 0], .int .u8, none⟩),
  (93, ⟨1, 8, false, [.nilFunc], .other, none⟩),
  (94, ⟨1, 8, false, [.int .u64 0], .int .u64, none⟩),
  (101, ⟨1, 16, false, [.nilIface], .iface true, none⟩),
  (103, ⟨1, 8, false, [.nilFunc], .other, none⟩),
  (104, ⟨1, 16, false, [.nilIface], .iface true, none⟩),
  (105, ⟨1, 8, false, [.nilFunc], .other, none⟩),
  (106, ⟨1, 16, false, [.nilIface], .iface true, none⟩),
  (107, ⟨1, 24, false, [.slice none 0 0], .slice 30, none⟩),
  (108, ⟨1, 8, false, [.nilFunc], .other, none⟩),
  (109, ⟨1, 8, false, [.nilFunc], .other, none⟩),
  (110, ⟨1, 8, false, [.nilFunc], .other, none⟩),
  (111, ⟨1, 8, false, [.nilFunc], .other, none⟩),
  (112, ⟨1, 8, false, [.nilFunc], .other, none⟩),
  (116, ⟨1, 8, false, [.nilFunc], .other, none⟩),
  (117, ⟨1, 8, false, [.nilFunc], .other, none⟩),
  (118, ⟨1, 8, false, [.pointer none], .ptr, none⟩),
  (119, ⟨1, 8, false, [.nilFunc], .other, none⟩),
  (121, ⟨1, 8, false, [.nilFunc], .other, none⟩),
  (122, ⟨1, 8, false, [.nilFunc], .other, none⟩),
  (123, ⟨1, 8, false, [.nilFunc], .other, none⟩),
  (125, ⟨2, 2, true, [.int .u8 0, .int .u8 0], .struct [(0, 1, false), (1, 1, false)], none⟩),
  (126, ⟨2, 2, true, [.int .u8 0, .int .u8 0], .struct [(0, 1, false), (1, 1, false)], some [.int, .int]⟩),
  (127, ⟨32, 32, true, [.int .u8 0, .int .u8 0, .int .u8 0, .int .u8 0, .int .u8 0, .int .u8 0, .int .u8 0, .int .u8 0, .int .u8 0, .int .u8 0, .int .u8 0, .int .u8 0, .int .u8 0, .int .u8 0, .int .u8 0, .int .u8 0, .int .u8 0, .int .u8 0, .int .u8 0, .int .u8 0, .int .u8 0, .int .u8 0, .int .u8 0, .int .u8 0, .int .u8 0, .int .u8 0, .int .u8 0, .int .u8 0, .int .u8 0, .int .u8 0, .int .u8 0, .int .u8 0], .array 16 126, none⟩),
  (128, ⟨1, 8, false, [.nilFunc], .other, none⟩),
  (129, ⟨1, 8, false, [.nilFunc], .other, none⟩),
  (130, ⟨1, 8, false, [.nilFunc], .other, none⟩),
  (136, ⟨1, 8, false, [.nilFunc], .other, none⟩),
  (138, ⟨1, 4, false, [.int .u32 0], .int .u32, none⟩),
  (139, ⟨1, 1, false, [.int .u8 0], .int .u8, none⟩),
  (141, ⟨1, 8, false, [.pointer none], .ptr, none⟩),
  (142, ⟨1, 4, false, [.int .i32 0], .int .i32, none⟩),
  (143, ⟨1, 4, false, [.int .i32 0], .int .i32, none⟩),
  (146, ⟨1, 8, false, [.nilFunc], .other, none⟩),
  (152, ⟨1, 2, false, [.int .u16 0], .int .u16, none⟩),
  (156, ⟨1, 4, false, [.int .i32 0], .int .i32, none⟩),
  (159, ⟨1, 8, false, [.pointer none], .ptr, none⟩)]


def gl : Env := [(0, .r [.v (.iface 96 (.agg #[.pointer (some ⟨4, 30, none⟩)]))])]
noncomputable def pg : Pg := ⟨Tryd.prog, tyTab, gl⟩
theorem pg_ok : pg.Ok := Pg.ok_of (by kernel_rfl) (by kernel_rfl)
abbrev gi (x : Int) : GV := .v (.int .i64 x)
theorem wrap_id {x : Int} (h : -9223372036854775808 ≤ x) (h' : x ≤ 9223372036854775807) : IntKind.i64.wrap x = x := by rw [IntKind.wrap_i64]; omega
theorem succ_gi {i : Nat} (h : i < 9223372036854775807) : some (gi (IntKind.i64.wrap (i + 1 : Int))) = some (gi ((i + 1 : Nat) : Int)) := by
  rw [wrap_id (by omega) (by omega)]
  rfl
theorem tail_map {α : Type} (z : Nat) (f : α → List GV) (y : α) (l : List α) : some (GV.sl z ((((y :: l).map f).take (((y :: l).map f).length : Int).toNat).drop (1 : Int).toNat)) = some (GV.sl z (l.map f)) := by
  simp only [Int.toNat_natCast, List.take_length]
  rfl
theorem idx {α : Type} {f : α → List GV} {l : List α} {i : Int} {K : List GV → Prop} (k : Nat) (hi : i = k) (hk : k < l.length) (h : K (f l[k])) : ∃ row, 0 ≤ i ∧ (l.map f)[i.toNat]? = some row ∧ K row := by
  subst hi
  exact ⟨f l[k], by omega, by simp [hk], h⟩
theorem cut_lo {α : Type} (f : α → List GV) (l : List α) (k : Nat) : ((l.map f).take (k : Int).toNat).drop (0 : Int).toNat = (l.take k).map f := by simp
theorem cut_hi {α : Type} (f : α → List GV) (l : List α) (k : Nat) : ((l.map f).take ((l.map f).length : Int).toNat).drop (k : Int).toNat = (l.drop k).map f := by
  simp only [Int.toNat_natCast, List.take_length]
  simp
theorem ons_mk {x : Option GV} {g : GV} {K : GV → Prop} (h : x = some g) (k : K g) : ons x K := by subst h; exact k
/-- Two own things of a callee, in the caller. -/
abbrev gs (s : ByteArray) : GV := .v (.string s)
def rr (a b : Nat) : Nat → Nat := fun i => bif Nat.beq i 0 then a else b
theorem rr_lt {a b n : Nat} (ha : Nat.blt a n = true) (hb : Nat.blt b n = true) : ∀ i, i < 2 → rr a b i < n := fun i _ => by
  rw [Nat.blt_eq] at ha hb
  unfold rr
  cases Nat.beq i 0 <;> assumption
/-- One own thing that changes its number. -/
def r1 (a b : Nat) : Nat → Nat := fun i => bif Nat.beq i a then b else i
theorem pos {c : Bool} {A B : Prop} (h : c = true) (k : A) : (c = true → A) ∧ (c = false → B) := ⟨fun _ => k, fun e => absurd (h.symm.trans e) (by decide)⟩
theorem neg {c : Bool} {A B : Prop} (h : c = false) (k : B) : (c = true → A) ∧ (c = false → B) := ⟨fun e => absurd (h.symm.trans e) (by decide), fun _ => k⟩
theorem pos' {c : Bool} {A B : Prop} (h : c = true) (k : B) : (c = false → A) ∧ (c = true → B) := ⟨fun e => absurd (h.symm.trans e) (by decide), fun _ => k⟩
theorem neg' {c : Bool} {A B : Prop} (h : c = false) (k : A) : (c = false → A) ∧ (c = true → B) := ⟨fun _ => k, fun e => absurd (h.symm.trans e) (by decide)⟩
theorem tf (c : Bool) : c = true ∨ c = false := by cases c <;> simp
/-! steps that find what is known by themselves -/
theorem p1 {c : Bool} {A B : Prop} (k : A) (h : c = true := by first | with_reducible rfl | with_reducible assumption | rfl | exact decide_eq_true (by omega) | (simp; omega)) : (c = true → A) ∧ (c = false → B) := pos h k
theorem p2 {c : Bool} {A B : Prop} (k : B) (h : c = false := by first | with_reducible rfl | with_reducible assumption | rfl | exact decide_eq_false (by omega) | (simp; omega)) : (c = true → A) ∧ (c = false → B) := neg h k
theorem p3 {c : Bool} {A B : Prop} (k : B) (h : c = true := by first | with_reducible rfl | with_reducible assumption | rfl | exact decide_eq_true (by omega) | (simp; omega)) : (c = false → A) ∧ (c = true → B) := pos' h k
theorem p4 {c : Bool} {A B : Prop} (k : A) (h : c = false := by first | with_reducible rfl | with_reducible assumption | rfl | exact decide_eq_false (by omega) | (simp; omega)) : (c = false → A) ∧ (c = true → B) := neg' h k
theorem ix {α : Type} {f : α → List GV} {l : List α} {i : Nat} {K : List GV → Prop} (hk : i < l.length := by omega) (h : K (f (l[i]'hk))) : ∃ row, 0 ≤ (i : Int) ∧ (l.map f)[((i : Nat) : Int).toNat]? = some row ∧ K row := ⟨f l[i], by omega, by simp [hk], h⟩
/-- a byte of a string -/
theorem sx {s : ByteArray} {i : Nat} {K : UInt8 → Prop} (hk : i < s.size := by omega) (h : K (s[i]'hk)) : ∃ b, 0 ≤ (i : Int) ∧ s[((i : Nat) : Int).toNat]? = some b ∧ K b := ⟨s[i], by omega, by rw [Int.toNat_natCast]; exact getElem?_pos s i hk, h⟩

/-! the machine's rules, at this program -/
section
variable {N n0 : Nat} {H0 : Hid} {S0 : List Nat} {w0 : World} {h0 : H0.n = n0} {g0 : GlOk pg H0} {T : Post} {k : List It} {s : St}
theorem V (h : vc ⟨pg, N, n0, H0, S0, w0, h0, g0⟩ T 400 k s) : JK ⟨pg, N, n0, H0, S0, w0, h0, g0⟩ T k s := vc_sound pg_ok 400 k s h
theorem GO {all : List Oper} {o : Oper} {rest : List Oper} {f : FuncId} {cargs : List GV} {G : GV} (hr : Rt pg f cargs G) (hk : callG pg all s.ρ o = some (f, cargs))
    (h : dputV N s.ρ o.dst G fun ρ' => vc ⟨pg, N, n0, H0, S0, w0, h0, g0⟩ T 400 (.ops false all rest :: k) ⟨ρ', s.σ, s.n⟩) (hb : idbL 0 cargs = true := by rfl) : JK ⟨pg, N, n0, H0, S0, w0, h0, g0⟩ T (.ops false all (o :: rest) :: k) s := JK.go pg_ok hr hk hb h
theorem GOQ {all : List Oper} {o : Oper} {rest : List Oper} {f : FuncId} {cargs : List GV} {Q : GV → Prop} (hr : Rq pg f cargs Q) (hk : callG pg all s.ρ o = some (f, cargs))
    (h : ∀ g, Q g → dputV N s.ρ o.dst g fun ρ' => vc ⟨pg, N, n0, H0, S0, w0, h0, g0⟩ T 400 (.ops false all rest :: k) ⟨ρ', s.σ, s.n⟩) (hb : idbL 0 cargs = true := by rfl) : JK ⟨pg, N, n0, H0, S0, w0, h0, g0⟩ T (.ops false all (o :: rest) :: k) s := JK.goQ pg_ok hr hk hb h
theorem GOB {all : List Oper} {o : Oper} {rest : List Oper} {f : FuncId} {cargs gs : List GV} {G : GV} (hr : Rt pg f cargs G) (hk : callG pg all s.ρ o = some (f, gs)) (hl : lents s.σ gs cargs)
    (h : dputV N s.ρ o.dst G fun ρ' => vc ⟨pg, N, n0, H0, S0, w0, h0, g0⟩ T 400 (.ops false all rest :: k) ⟨ρ', s.σ, s.n⟩) (hf : roFree G = true := by rfl) : JK ⟨pg, N, n0, H0, S0, w0, h0, g0⟩ T (.ops false all (o :: rest) :: k) s := JK.goB pg_ok hr hk hl hf h
theorem GOH {all : List Oper} {o : Oper} {rest : List Oper} {f : FuncId} {m : Nat} {cargs gs : List GV} {σc : Heap} {Q : GV → Heap → Nat → Prop} (hr : Hf pg f m cargs σc Q) (r : Nat → Nat) (hk : callG pg all s.ρ o = some (f, gs)) (hargs : gs = renL r cargs) (hσ : leσ r σc s.σ)
    (chk : (idbL m cargs && idbH m σc && distB (hids r σc)) = true) (hrn : ∀ i, i < m → r i < s.n)
    (h : ∀ g σ' n', Q g σ' n' → nf (ren (sh r m s.n) g) fun g => nfH (renH (sh r m s.n) σ' ++ hrest (hids r σc) s.σ) fun σ => nfN (s.n + (n' - m)) fun n => dput N s.ρ o.dst g fun ρ' => vc ⟨pg, N, n0, H0, S0, w0, h0, g0⟩ T 400 (.ops false all rest :: k) ⟨ρ', σ, n⟩) :
    JK ⟨pg, N, n0, H0, S0, w0, h0, g0⟩ T (.ops false all (o :: rest) :: k) s := JK.goH pg_ok hr r hk hargs hσ chk hrn h
theorem FZB (id : Nat) {ty : Nat} {cs0 : List GV} (hl : hlook s.σ id = some (.blk ty cs0)) (hb0 : idbL 0 cs0 = true) (h : nfH (fzbH id cs0 (hdel s.σ id)) fun σ => nfE (fzbE id cs0 s.ρ) fun ρ => vc ⟨pg, N, n0, H0, S0, w0, h0, g0⟩ T 400 k ⟨ρ, σ, s.n⟩) : JK ⟨pg, N, n0, H0, S0, w0, h0, g0⟩ T k s := by
  rw [nfH_eq, nfE_eq] at h
  refine JK.freezeB id hl hb0 ?_
  rw [nfH_eq]
  exact V h
theorem FRZ (id : Nat) {ty sz : Nat} {rows : List (List GV)} (hl : hlook s.σ id = some (.row ty sz rows)) (h : nfH (frzH id sz rows (hdel s.σ id)) fun σ => nfE (frzE id sz rows s.ρ) fun ρ => vc ⟨pg, N, n0, H0, S0, w0, h0, g0⟩ T 400 k ⟨ρ, σ, s.n⟩) : JK ⟨pg, N, n0, H0, S0, w0, h0, g0⟩ T k s := by
  rw [nfH_eq, nfE_eq] at h
  refine JK.freeze id hl ?_
  rw [nfH_eq]
  exact V h
theorem DRAW {id : Nat} {ops : Array Oper} (M : List Nat) (e : Bool) (order : List (Nat × Bool)) (hB : (Region.noSelect ops && ordB ops.toList e order (List.replicate ops.toList.length false)) = true)
    (h : rvc ⟨pg, N, n0, H0, S0, w0, h0, g0⟩ T ops.toList k (hrest M s.σ ++ lns (hsel M s.σ)) e order ops.toList.length (List.replicate ops.toList.length false) s.ρ ⟨s.ρ, hsel M s.σ, s.n⟩) (hT : ∀ ch s, ¬ T (.panic ch) s := by intro _ _ h; exact h) : JK ⟨pg, N, n0, H0, S0, w0, h0, g0⟩ T (.code (.region id ops true) :: k) s := by
  simp only [Bool.and_eq_true] at hB
  exact JK.draw M pg_ok (RA.run pg_ok hB.1 hT order hB.2 h)
theorem RGO {ops : List Oper} {σs : Heap} {ρq : Env} {fuel : Nat} {listed : List Bool} (i : Nat) (e : Bool) (order : List (Nat × Bool)) {o : Oper} {f : FuncId} {cargs : List GV} {G : GV} (hr : Rt pg f cargs G) (hi : ops[i]? = some o) (hk : callG pg ops s.ρ o = some (f, cargs))
    (hB : (Region.noSelect ops.toArray && eqB (Region.ready .any ops.toArray listed.toArray) [i] && ordB ops e order (listed.set i true)) = true)
    (h : dputV N s.ρ o.dst G fun ρ' => nfE (qput ρq o.dst G) fun ρq => rvc ⟨pg, N, n0, H0, S0, w0, h0, g0⟩ T ops k σs e order fuel (listed.set i true) ρq ⟨ρ', s.σ, s.n⟩) (hb : idbL 0 cargs = true := by rfl) (hT : ∀ ch s, ¬ T (.panic ch) s := by intro _ _ h; exact h) : RA ⟨pg, N, n0, H0, S0, w0, h0, g0⟩ T ops k σs ρq (fuel + 1) listed s := by
  simp only [Bool.and_eq_true] at hB
  exact RA.goA i order e pg_ok hB.1.1 hT hr hi hk hb (by simp only [hB.1.2, hB.2, Bool.and_self]) h
theorem RGOB {ops : List Oper} {σs : Heap} {ρq : Env} {fuel : Nat} {listed : List Bool} (i : Nat) (e : Bool) (order : List (Nat × Bool)) {o : Oper} {f : FuncId} {cargs gs : List GV} {G : GV} (hr : Rt pg f cargs G) (hi : ops[i]? = some o) (hk : callG pg ops s.ρ o = some (f, gs)) (hl : lents (s.σ ++ σs) gs cargs)
    (hB : (Region.noSelect ops.toArray && eqB (Region.ready .any ops.toArray listed.toArray) [i] && ordB ops e order (listed.set i true)) = true)
    (h : dputV N s.ρ o.dst G fun ρ' => nfE (qput ρq o.dst G) fun ρq => rvc ⟨pg, N, n0, H0, S0, w0, h0, g0⟩ T ops k σs e order fuel (listed.set i true) ρq ⟨ρ', s.σ, s.n⟩) (hfree : roFree G = true := by rfl) (hT : ∀ ch s, ¬ T (.panic ch) s := by intro _ _ h; exact h) : RA ⟨pg, N, n0, H0, S0, w0, h0, g0⟩ T ops k σs ρq (fuel + 1) listed s := by
  simp only [Bool.and_eq_true] at hB
  exact RA.goB i order e pg_ok hB.1.1 hT hr hi hk hl hfree (by simp only [hB.1.2, hB.2, Bool.and_self]) h
theorem RSKIP {ops : List Oper} {σs : Heap} {ρq : Env} {fuel : Nat} {listed : List Bool} (i : Nat) (e : Bool) (order : List (Nat × Bool)) {o : Oper} (hi : ops[i]? = some o) (hgd : gdNo ops s.ρ o.guard = true)
    (hB : (Region.noSelect ops.toArray && eqB (Region.ready .any ops.toArray listed.toArray) [i] && ordB ops e order (listed.set i true)) = true)
    (h : dputV N s.ρ o.dst (.v undef) fun ρ' => nfE (eput ρq o.dst (.v undef)) fun ρq => rvc ⟨pg, N, n0, H0, S0, w0, h0, g0⟩ T ops k σs e order fuel (listed.set i true) ρq ⟨ρ', s.σ, s.n⟩) (hT : ∀ ch s, ¬ T (.panic ch) s := by intro _ _ h; exact h) : RA ⟨pg, N, n0, H0, S0, w0, h0, g0⟩ T ops k σs ρq (fuel + 1) listed s := by
  simp only [Bool.and_eq_true] at hB
  exact RA.skipA i order e pg_ok hB.1.1 hT hi hgd (by simp only [hB.1.2, hB.2, Bool.and_self]) h
end
/-- A bool that is known. -/
theorem _root_.Go.GK.Rq.bt {f : FuncId} {args : List GV} {c : Bool} (h : Rt pg f args (.b c)) {d : Bool} (e : c = d) : Rt pg f args (.v (.bool d)) :=
  ⟨h.call, fun H us w hn hg hcs hs => (h.ct H us w hn hg hcs hs).mono fun _ _ ⟨u, g, H', σ', e', hi, hs', hfr, ⟨hv, _⟩, r⟩ => ⟨u, .v (.bool d), H', σ', e', by subst hv; subst e; have := hi.inv_b; subst this; exact .ro (.v _), hs', hfr, ⟨rfl, rfl⟩, r⟩⟩
theorem _root_.Go.GK.Rq.old {f : FuncId} {args : List GV} {G : GV} (hc : ∀ a w, (callFunc f a).run pg.P w = .ok (.enter f a) w) (h : Ct pg f 0 args [] (Val fun g => g = G)) (hi : idb 0 G = true := by rfl) : Rt pg f args G :=
  ⟨hc, fun H us w hn hg hcs hs => (h H us w hn hg hcs hs).mono fun _ _ ⟨u, g, H', σ', e', hi', hs', hfr, hv, r⟩ => ⟨u, g, H', σ', e', hi', hs', hfr, ⟨hv, by rw [hv]; exact hi⟩, r⟩⟩
/-- A nil slice for a slice of none. -/
theorem _root_.Go.GK.Rq.nl {f : FuncId} {pre suf : List GV} {z : Nat} {Q : GV → Prop} (h : Rq pg f (pre ++ .sl z [] :: suf) Q) : Rq pg f (pre ++ .v (.slice none 0 0) :: suf) Q :=
  ⟨h.call, fun H us w hn hg hcs hs => h.ct H us w hn hg ⟨by rw [← hcs.1]; simp, fun j g hj => by
    by_cases hjp : j = pre.length
    · subst hjp
      rw [List.getElem?_append_right (Nat.le_refl _), Nat.sub_self] at hj
      cases hj
      have := (hcs.2 pre.length (.v (.slice none 0 0)) (by rw [List.getElem?_append_right (Nat.le_refl _), Nat.sub_self]; rfl)).inv_v
      rw [this]
      exact .ro .slnil
    · refine hcs.2 j g ?_
      by_cases hlt : j < pre.length
      · rw [List.getElem?_append_left hlt] at hj ⊢; exact hj
      · rw [List.getElem?_append_right (by omega)] at hj ⊢
        obtain ⟨k, hk⟩ : ∃ k, j - pre.length = k + 1 := ⟨j - pre.length - 1, by omega⟩
        rw [hk] at hj ⊢; exact hj⟩ hs⟩
theorem noP {p : Pg} {rs : List ResultVar} {Q : GV → Heap → Nat → Prop} : ∀ ch s, ¬ retT p rs Q (.panic ch) s := fun _ _ h => h
end Go.Proofs.YtaaoljhfepmkjaaDoor
