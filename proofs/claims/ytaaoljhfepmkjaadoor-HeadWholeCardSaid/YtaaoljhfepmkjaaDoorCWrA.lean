/-
  Contracts: a writer of bytes (code.Writer).
-/
import Derived.Test.YtaaoljhfepmkjaaDoorCRdA
import Derived.Test.YtaaoljhfepmkjaaDoorGKh
namespace Go.Proofs.YtaaoljhfepmkjaaDoor
open Go.GK Go.PL Go.RowKit
set_option maxRecDepth 100000
theorem be8_at {u j : Nat} (h : j < 8) : (be8 u)[j]? = some (UInt8.ofNat (u / 2 ^ (8 * (7 - j)))) := by
  match j, h with
  | 0, _ | 1, _ | 2, _ | 3, _ | 4, _ | 5, _ | 6, _ => rfl
  | 7, _ => show some (UInt8.ofNat u) = some (UInt8.ofNat (u / 1)); rw [Nat.div_one]
theorem num_row (bs : List UInt8) (n : Int) (j : Nat) (h : j < 8) (X : Int) (hX : X = ((UInt8.ofNat (uN n / 2 ^ (8 * (7 - j)))).toNat : Int)) :
    some (Res.row 5 1 ((bs ++ (be8 (uN n)).take j).map byRow ++ [[GV.v (.int .u8 X)]])) = some (Res.row 5 1 ((bs ++ (be8 (uN n)).take (j + 1)).map byRow)) := by
  refine congrArg (fun x => some (Res.row 5 1 x)) ?_
  rw [List.take_add_one, be8_at h, hX]
  simp only [List.map_append, List.append_assoc]
  rfl
theorem u8lo {n : Nat} : IntKind.u8.wrap (n : Int) = ((UInt8.ofNat n).toNat : Int) := by
  rw [UInt8.toNat_ofNat']
  simp [IntKind.wrap, IntKind.signed, IntKind.bits]
theorem num_byte (n : Int) (j : Nat) (h : j < 8) : IntKind.u8.wrap ((IntKind.u64.wrap n).fdiv (2 ^ min (IntKind.i64.wrap (8 * (7 - (j : Int)))).toNat IntKind.u64.bits)) = ((UInt8.ofNat (uN n / 2 ^ (8 * (7 - j)))).toNat : Int) := by
  have e1 : IntKind.i64.wrap (8 * (7 - (j : Int))) = ((8 * (7 - j) : Nat) : Int) := by rw [wrap_id (by omega) (by omega)]; omega
  have e2 : IntKind.u64.wrap n = ((uN n : Nat) : Int) := by rw [IntKind.wrap_u64]; unfold uN; omega
  rw [e1, e2, show IntKind.u64.bits = 64 from rfl, fdiv_pow (uN n) (8 * (7 - j)) 64 (by omega), u8lo, Nat.shiftRight_eq_div_pow]
theorem wrT_list (s : ByteArray) : (wrT s).data.toList = be8 (uN s.size) ++ s.data.toList := by
  unfold wrT
  rw [ByteArray.data_append, Array.toList_append]
  rfl
theorem bl_size (s : ByteArray) : s.data.toList.length = s.size := rfl
theorem bl_app (a b : ByteArray) : (a ++ b).data.toList = a.data.toList ++ b.data.toList := by rw [ByteArray.data_append, Array.toList_append]
theorem wrP_snoc (l : List Lb) (x : Lb) : (wrP (l ++ [x])).data.toList = (wrP l).data.toList ++ (wrT x.name).data.toList ++ (wrT x.value).data.toList := by
  rw [wrP_app, bl_app]
  simp only [wrP, app_nil, bl_app, List.append_assoc]
theorem wrP_le (l : List Lb) (j : Nat) : (wrP (l.take j)).size ≤ (wrP l).size := by
  conv => rhs; rw [← List.take_append_drop j l, wrP_app, ByteArray.size_append]
  omega
theorem wrP_big (l : List Lb) : 16 * l.length ≤ (wrP l).size := by
  induction l with
  | nil => exact Nat.le_refl _
  | cons x l ih =>
    have h1 : (wrT x.name).size = 8 + x.name.size := by unfold wrT; rw [ByteArray.size_append, wrN_size]
    have h2 : (wrT x.value).size = 8 + x.value.size := by unfold wrT; rw [ByteArray.size_append, wrN_size]
    simp only [wrP, ByteArray.size_append, List.length_cons]
    omega
end Go.Proofs.YtaaoljhfepmkjaaDoor


namespace Go.Proofs.YtaaoljhfepmkjaaDoor
open Go.GK Go.PL Go.RowKit
set_option maxRecDepth 100000
noncomputable def goodB (x : Ser) : Bool := okS x.samples && rightF x.labels
/-- The first that may not be. -/
noncomputable def badI (l : List Ser) : Option Nat := l.findIdx? fun x => !goodB x
theorem badI_none {l : List Ser} (h : ∀ i (hi : i < l.length), goodB l[i] = true) : badI l = none := by
  unfold badI
  rw [List.findIdx?_eq_none_iff]
  intro x hx
  obtain ⟨i, hi, rfl⟩ := List.mem_iff_getElem.1 hx
  rw [h i hi]
  rfl
theorem badI_some {l : List Ser} {j : Nat} (hj : j < l.length) (hb : goodB l[j] = false) (h : ∀ i (hi : i < j), goodB (l[i]'(by omega)) = true) : badI l = some j := by
  unfold badI
  rw [List.findIdx?_eq_some_iff_getElem]
  exact ⟨hj, by rw [hb]; rfl, fun k hk => by rw [h k hk]; decide⟩
theorem wrR_snoc (l : List Ser) (x : Ser) : (wrR (l ++ [x])).data.toList = (wrR l).data.toList ++ (wrL x.labels).data.toList ++ (wrT (enc x.samples)).data.toList := by
  rw [wrR_app, bl_app]
  simp only [wrR, app_nil]
  unfold wr1
  rw [bl_app, List.append_assoc]
theorem wrR_le (l : List Ser) (j : Nat) : (wrR (l.take j)).size ≤ (wrR l).size := by
  conv => rhs; rw [← List.take_append_drop j l, wrR_app, ByteArray.size_append]
  omega
def SerQ (l : List Ser) (b : Option Nat) : GV → Heap → Nat → Prop := fun g σ n => match b with
  | none => g = .tup [gs (wrS l), .v .nilIface] ∧ σ = [] ∧ n = 0
  | some i => g = .tup [gs ⟨#[]⟩, .ifc 58 (.p 0 0)] ∧ σ = [(0, .blk 60 [gi 1, gi i])] ∧ n = 1
def SerR (l : List Ser) (b : Option Nat) : GV → Heap → Nat → Prop := fun g σ _ => match b with
  | none => g = .tup [gs (wrS l), .v .nilIface]
  | some i => ∃ k, g = .tup [gs ⟨#[]⟩, .ifc 58 (.p k 0)] ∧ hlook σ k = some (.blk 60 [gi 1, gi i])
end Go.Proofs.YtaaoljhfepmkjaaDoor
