/-
  Contracts: package bits.
-/
import Derived.Test.YtaaoljhfepmkjaaDoorCPg
import Derived.Test.YtaaoljhfepmkjaaDoorPBa
namespace Go.Proofs.YtaaoljhfepmkjaaDoor
open Go.GK Go.PL
set_option maxRecDepth 100000
abbrev gu (x : Nat) : GV := .v (.int .u64 (x : Int))
theorem tmod8 (n : Nat) : ((n : Int).tmod 8) = ((n % 8 : Nat) : Int) := by rw [Int.tmod_eq_emod_of_nonneg (by omega)]; rfl
theorem tdiv8 (n : Nat) : ((n : Int).tdiv 8) = ((n / 8 : Nat) : Int) := by rw [Int.tdiv_eq_ediv_of_nonneg (by omega)]; rfl

theorem sizes_at (k : Nat) (h : k ≤ 6) : (List.drop ((k : Int).toNat * 1) (([0, 4, 7, 12, 20, 32, 64] : List Int).map fun x => GV.v (.int .i64 x)))[0]? = some (gi (sizeF k : Nat)) := by
  match k, h with
  | 0, _ => rfl
  | 1, _ => rfl
  | 2, _ => rfl
  | 3, _ => rfl
  | 4, _ => rfl
  | 5, _ => rfl
  | 6, _ => rfl
theorem sizeF_le (k : Nat) : sizeF k ≤ 64 := by
  by_cases h : k ≤ 6
  · match k, h with
    | 0, _ => decide
    | 1, _ => decide
    | 2, _ => decide
    | 3, _ => decide
    | 4, _ => decide
    | 5, _ => decide
    | 6, _ => decide
  · unfold sizeF
    rw [List.getD_eq_getElem?_getD, List.getElem?_eq_none (by simp; omega)]
    decide
theorem sizeF_lt {k : Nat} (h : k < 6) : sizeF k < 64 := by
  match k, h with
  | 0, _ => decide
  | 1, _ => decide
  | 2, _ => decide
  | 3, _ => decide
  | 4, _ => decide
  | 5, _ => decide
theorem pfx_step {f k : Nat} {B : List Bool} {b : Bool} (h : B[0]? = some b) : pfx (f + 1) k B = if b then pfx f (k + 1) (B.drop 1) else some (k, B.drop 1) := by
  cases B with
  | nil => cases h
  | cons x B => simp at h; subst h; rfl
theorem pfx_nil {f k : Nat} {B : List Bool} (h : B = []) : pfx (f + 1) k B = none := by subst h; rfl
end Go.Proofs.YtaaoljhfepmkjaaDoor
