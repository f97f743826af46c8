/-
  Contracts: BitsRead.
-/
import Derived.Test.YtakkdpfbgjccpaaDoorCRefGet
import Derived.Test.YtakkdpfbgjccpaaDoorPChunk
import Derived.Test.YtakkdpfbgjccpaaDoorCBitsBack
namespace Go.Proofs.YtakkdpfbgjccpaaDoor
open Go.GK Go.PL
set_option maxRecDepth 100000
theorem get_w (s : ByteArray) (n : Nat) (hs : s.size ≤ 100000000) (hn : n ≤ 8 * s.size) : Ct pg 18 1 [.p 0 0] (rHeap 0 s n) (fun g σ m => m = 1 ∧ ∃ n', n ≤ n' ∧ n' ≤ 8 * s.size ∧ σ = rHeap 0 s n' ∧
    ((∃ v, getF ((sb s).drop n) = some (v, (sb s).drop n') ∧ g = .tup [gi v, .v .nilIface]) ∨ (getF ((sb s).drop n) = none ∧ g = .tup [gi 0, .ifc 70 (gi 3)]))) := get_ct s n hs hn
theorem refGet_none (bs : List Bool) (hl : bs.length ≤ 1000000) (h : getF bs = none) : Ct pg 35 0 [gs (lett bs)] [] (Val fun g => g = .tup [gi 0, gs ⟨#[]⟩, .v (.bool false)]) := by
  have := refGet_ct bs hl
  rw [getG_none h] at this
  exact this
theorem refGet_some (bs r : List Bool) (v : Int) (hl : bs.length ≤ 1000000) (h : getF bs = some (v, r)) : Ct pg 35 0 [gs (lett bs)] [] (Val fun g => g = .tup [gi v, gs (lett r), .v (.bool true)]) := by
  have := refGet_ct bs hl
  rw [getG_some h] at this
  exact this
theorem bitsRead_ct (s : ByteArray) (l : List Int) (hl : ∀ x ∈ l, In64 x) : Ct pg 7 0 [gs s, .sl 1 (l.map ir)] [] (Val fun g => g = .b true) := by
  refine Ct.bool (Ct.of_JK pg_ok Tryd.func7 rfl Tryd.ntmps7 rfl Tryd.results7 fun H0 S0 w0 h0 g0 => ?_)
  refine vc_sound pg_ok 200 _ _ ?_
  refine ⟨fun h1 => ?_, fun h1 => .inl rfl⟩
  refine ⟨fun h2 => .inl rfl, fun h2 => ?_⟩
  simp only [List.length_map, decide_eq_false_iff_not] at h1 h2
  refine JK.call (n0 := 0) (r := id) (from_ct s) Tryd.call16 rfl rfl rfl rfl rfl trivial rfl (by simp) ?_
  rintro g σ' n' ⟨rfl, rfl, rfl⟩
  refine vc_sound pg_ok 200 _ _ ?_
  refine JK.call (n0 := 0) (r := id) (of_ct s (by omega)) Tryd.call34 rfl rfl rfl rfl rfl trivial rfl (by simp) ?_
  rintro g σ' n' ⟨rfl, rfl, rfl⟩
  refine vc_sound pg_ok 200 _ _ ?_
  have hsb : (sb s).length = 8 * s.size := sb_len s
  have hs : s.size ≤ 100000000 := by omega
  refine JK.loop (α := Nat × Nat) (fun x => ⟨[(1, .sl 1 (l.map ir)), (5, .p 0 0), (6, gs (lett ((sb s).drop x.2))), (7, gi x.1)], rHeap 0 s x.2, 1⟩) (fun x => x.1 ≤ l.length ∧ x.2 ≤ 8 * s.size) (fun x => l.length - x.1) (0, 0) id ?_ ⟨by omega, by omega⟩ ?_
  · exact ⟨⟨rfl, rfl, rfl, rfl, trivial⟩, ⟨rfl, trivial⟩, rfl⟩
  · rintro ⟨i, n⟩ ⟨hi, hn⟩
    simp only at hi hn
    refine (show JK _ _ _ (⟨[(1, .sl 1 (l.map ir)), (5, .p 0 0), (6, gs (lett ((sb s).drop n))), (7, gi i)], rHeap 0 s n, 1⟩ : St) from ?_)
    have hbl : ((sb s).drop n).length = 8 * s.size - n := by rw [List.length_drop, hsb]
    refine vc_sound pg_ok 200 _ _ ?_
    by_cases hlt : i < l.length
    · refine pos (by simp <;> omega) ?_
      have hx := hl _ (List.getElem_mem hlt)
      refine idx i rfl hlt ?_
      generalize l[i] = x at hx
      by_cases hk : x < 0
      · refine pos (by simpa using hk) ?_
        cases hg : getF ((sb s).drop n) with
        | none =>
          refine JK.call (n0 := 0) (r := id) (refGet_none ((sb s).drop n) (by omega) hg) Tryd.call35 rfl rfl rfl rfl rfl trivial rfl (by simp) ?_
          rintro g σ' n' ⟨rfl, rfl, rfl⟩
          refine vc_sound pg_ok 200 _ _ ?_
          refine JK.call (n0 := 1) (r := id) (get_w s n hs hn) Tryd.call18 rfl rfl rfl rfl rfl ⟨rfl, trivial⟩ rfl (fun i h => h) ?_
          rintro g σ' m' ⟨rfl, n1, hn1, hn2, rfl, (⟨v, hv, rfl⟩ | ⟨hv, rfl⟩)⟩
          · rw [hg] at hv; cases hv
          · refine vc_sound pg_ok 200 _ _ ?_
            refine JK.call (n0 := 0) (r := id) (bare_ct (some 3) 3) Tryd.call36 rfl rfl rfl rfl rfl trivial rfl (by simp) ?_
            rintro g σ' n' ⟨rfl, rfl, rfl⟩
            refine vc_sound pg_ok 200 _ _ ?_
            refine pos rfl ?_
            exact .inr rfl
        | some y =>
          obtain ⟨v, r⟩ := y
          refine JK.call (n0 := 0) (r := id) (refGet_some ((sb s).drop n) r v (by omega) hg) Tryd.call35 rfl rfl rfl rfl rfl trivial rfl (by simp) ?_
          rintro g σ' n' ⟨rfl, rfl, rfl⟩
          refine vc_sound pg_ok 200 _ _ ?_
          refine JK.call (n0 := 1) (r := id) (get_w s n hs hn) Tryd.call18 rfl rfl rfl rfl rfl ⟨rfl, trivial⟩ rfl (fun i h => h) ?_
          rintro g σ' m' ⟨rfl, n1, hn1, hn2, rfl, (⟨v', hv, rfl⟩ | ⟨hv, rfl⟩)⟩
          · rw [hg] at hv
            simp only [Option.some.injEq, Prod.mk.injEq] at hv
            obtain ⟨rfl, rfl⟩ := hv
            refine vc_sound pg_ok 200 _ _ ?_
            refine neg' rfl ?_
            refine neg (by simp) ?_
            refine JK.call (n0 := 1) (r := id) (left_ct s (n1) hs (by omega)) Tryd.call19 rfl rfl rfl rfl rfl ⟨rfl, trivial⟩ rfl (fun i h => h) ?_
            rintro g σ' n' ⟨rfl, rfl, rfl⟩
            refine vc_sound pg_ok 200 _ _ ?_
            refine neg (by rw [lett_size, List.length_drop, hsb]; simp) ?_
            exact ⟨(i + 1, n1), id, ⟨⟨rfl, rfl, rfl, succ_gi (by omega), trivial⟩, ⟨rfl, trivial⟩, rfl⟩, ⟨by show i + 1 ≤ l.length; omega, by show n1 ≤ 8 * s.size; omega⟩, by show l.length - (i + 1) < l.length - i; omega⟩
          · rw [hg] at hv; cases hv
      · refine neg (by simpa using hk) ?_
        by_cases hk64 : 64 < x
        · refine pos (by simpa using hk64) ?_
          refine JK.call (n0 := 1) (r := id) (rrange_ct s n x hk64) Tryd.call20 rfl rfl rfl rfl rfl ⟨rfl, trivial⟩ rfl (fun i h => h) ?_
          rintro g σ' n' ⟨rfl, rfl, rfl⟩
          refine vc_sound pg_ok 200 _ _ ?_
          refine JK.call (n0 := 0) (r := id) (bare_ct (some 2) 2) Tryd.call36 rfl rfl rfl rfl rfl trivial rfl (by simp) ?_
          rintro g σ' n' ⟨rfl, rfl, rfl⟩
          refine vc_sound pg_ok 200 _ _ ?_
          refine neg' rfl ?_
          refine neg rfl ?_
          refine JK.call (n0 := 1) (r := id) (left_ct s (n) hs (by omega)) Tryd.call19 rfl rfl rfl rfl rfl ⟨rfl, trivial⟩ rfl (fun i h => h) ?_
          rintro g σ' n' ⟨rfl, rfl, rfl⟩
          refine vc_sound pg_ok 200 _ _ ?_
          refine neg (by rw [lett_size, List.length_drop, hsb]; simp) ?_
          exact ⟨(i + 1, n), id, ⟨⟨rfl, rfl, rfl, succ_gi (by omega), trivial⟩, ⟨rfl, trivial⟩, rfl⟩, ⟨by show i + 1 ≤ l.length; omega, by show n ≤ 8 * s.size; omega⟩, by show l.length - (i + 1) < l.length - i; omega⟩
        · refine neg (by simpa using hk64) ?_
          obtain ⟨k, rfl⟩ : ∃ k : Nat, x = (k : Int) := ⟨x.toNat, by omega⟩
          by_cases hkl : 8 * s.size < n + k
          · refine pos (by rw [lett_size, hbl]; exact decide_eq_true (by omega)) ?_
            refine JK.call (n0 := 1) (r := id) (rform_ct s n k hs hn (by omega) hkl) Tryd.call20 rfl rfl rfl rfl rfl ⟨rfl, trivial⟩ rfl (fun i h => h) ?_
            rintro g σ' n' ⟨rfl, rfl, rfl⟩
            refine vc_sound pg_ok 200 _ _ ?_
            refine JK.call (n0 := 0) (r := id) (bare_ct (some 3) 3) Tryd.call36 rfl rfl rfl rfl rfl trivial rfl (by simp) ?_
            rintro g σ' n' ⟨rfl, rfl, rfl⟩
            refine vc_sound pg_ok 200 _ _ ?_
            refine neg' rfl ?_
            refine neg rfl ?_
            refine JK.call (n0 := 1) (r := id) (left_ct s (n) hs (by omega)) Tryd.call19 rfl rfl rfl rfl rfl ⟨rfl, trivial⟩ rfl (fun i h => h) ?_
            rintro g σ' n' ⟨rfl, rfl, rfl⟩
            refine vc_sound pg_ok 200 _ _ ?_
            refine neg (by rw [lett_size, List.length_drop, hsb]; simp) ?_
            exact ⟨(i + 1, n), id, ⟨⟨rfl, rfl, rfl, succ_gi (by omega), trivial⟩, ⟨rfl, trivial⟩, rfl⟩, ⟨by show i + 1 ≤ l.length; omega, by show n ≤ 8 * s.size; omega⟩, by show l.length - (i + 1) < l.length - i; omega⟩
          · refine neg (by rw [lett_size, hbl]; exact decide_eq_false (by omega)) ?_
            refine JK.call (n0 := 1) (r := id) (rbits_ct s n k hs (by omega) (by omega)) Tryd.call20 rfl rfl rfl rfl rfl ⟨rfl, trivial⟩ rfl (fun i h => h) ?_
            rintro g σ' n' ⟨rfl, rfl, rfl⟩
            refine vc_sound pg_ok 200 _ _ ?_
            refine neg' rfl ?_
            refine ⟨by omega, by omega, by rw [lett_size, hbl]; omega, ?_⟩
            have ee : (lett ((sb s).drop n)).extract (0 : Int).toNat (k : Int).toNat = lett (((sb s).drop n).take k) := by
              rw [Int.toNat_natCast, lett_ext]
              simp
            rw [ee]
            refine JK.call (n0 := 0) (r := id) (refValue_ct (((sb s).drop n).take k) (by rw [List.length_take]; omega)) Tryd.call37 rfl rfl rfl rfl rfl trivial rfl (by simp) ?_
            rintro g σ' n' ⟨rfl, rfl, rfl⟩
            refine vc_sound pg_ok 200 _ _ ?_
            refine neg (by simp) ?_
            refine ⟨by omega, by rw [lett_size, hbl]; omega, by omega, ?_⟩
            have e2 : (lett ((sb s).drop n)).extract (k : Int).toNat ((lett ((sb s).drop n)).size : Int).toNat = lett ((sb s).drop (n + k)) := by
              rw [Int.toNat_natCast, Int.toNat_natCast, lett_ext, lett_size, List.take_length, List.drop_drop]
            rw [e2]
            refine JK.call (n0 := 1) (r := id) (left_ct s (n + k) hs (by omega)) Tryd.call19 rfl rfl rfl rfl rfl ⟨rfl, trivial⟩ rfl (fun i h => h) ?_
            rintro g σ' n' ⟨rfl, rfl, rfl⟩
            refine vc_sound pg_ok 200 _ _ ?_
            refine neg (by rw [lett_size, List.length_drop, hsb]; simp) ?_
            exact ⟨(i + 1, n + k), id, ⟨⟨rfl, rfl, rfl, succ_gi (by omega), trivial⟩, ⟨rfl, trivial⟩, rfl⟩, ⟨by show i + 1 ≤ l.length; omega, by show n + k ≤ 8 * s.size; omega⟩, by show l.length - (i + 1) < l.length - i; omega⟩
    · refine neg (by simp <;> omega) ?_
      refine vc_sound pg_ok 200 _ _ ?_
      exact .inl rfl
end Go.Proofs.YtakkdpfbgjccpaaDoor
