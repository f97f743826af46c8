/-
  Contracts: ChunkBack, ChunkSmall.
-/
import Derived.Test.YtakkdpfbgjccpaaDoorCRead
import Derived.Test.YtakkdpfbgjccpaaDoorCSameK
import Derived.Test.YtakkdpfbgjccpaaDoorCPick
namespace Go.Proofs.YtakkdpfbgjccpaaDoor
open Go.GK Go.PL
set_option maxRecDepth 100000
theorem ok2 : okS [⟨10, 3⟩, ⟨20, 3⟩] = true := (okS_iff _).2 ⟨⟨fun x hx => by simp at hx; rcases hx with rfl | rfl <;> decide, fun x hx => by simp at hx; rcases hx with rfl | rfl <;> decide, by simp⟩, by simp⟩
theorem v2 : V64 [⟨10, 3⟩, ⟨20, 3⟩] := fun x hx => by simp at hx; rcases hx with rfl | rfl <;> exact ⟨by decide, by decide⟩
theorem no2 : okS [⟨2, 0⟩, ⟨1, 0⟩] = false := by
  cases h : okS [⟨2, 0⟩, ⟨1, 0⟩] with
  | false => rfl
  | true =>
    have := ((okS_iff _).1 h).1.up
    simp at this
theorem enc_size (l : List Sm) : (enc l).size = ((chunkF l).length + 7) / 8 := size_pack _
theorem enc_small {l : List Sm} (h : l.length ≤ 2000) : (enc l).size ≤ 1000000 := by
  have := chunkF_len l
  rw [enc_size]
  omega
theorem chunked_ct : Ct pg 21 0 [] [] (Val fun g => g = .b true) := by
  refine Ct.bool (Ct.of_JK pg_ok Tryd.func21 rfl Tryd.ntmps21 rfl Tryd.results21 fun H0 S0 w0 h0 g0 => ?_)
  refine vc_sound pg_ok 200 _ _ ?_
  refine JK.freeze 0 (ty := 53) (sz := 2) (rows := [⟨10, 3⟩, ⟨20, 3⟩].map sm) rfl ?_
  refine JK.call (n0 := 0) (r := id) (write_ct [⟨10, 3⟩, ⟨20, 3⟩] ok2) Tryd.call23 rfl rfl rfl rfl rfl trivial rfl (by simp) ?_
  rintro g σ' n' ⟨rfl, rfl, rfl⟩
  refine vc_sound pg_ok 200 _ _ ?_
  refine neg rfl ?_
  refine JK.call (n0 := 0) (r := id) (read_ct (enc [⟨10, 3⟩, ⟨20, 3⟩]) (enc_small (by simp))) Tryd.call22 rfl rfl rfl rfl rfl trivial rfl (by simp) ?_
  rintro g σ' n' ⟨hq, rfl, rfl⟩
  rcases hq with ⟨l, hok, hV, he, rfl⟩ | ⟨hno, rfl⟩
  · obtain ⟨hr, hl⟩ := (okS_iff l).1 hok
    obtain ⟨hr2, hl2⟩ := (okS_iff _).1 ok2
    have := enc_inj hr2 hr hl2 hl v2 hV he
    subst this
    refine vc_sound pg_ok 200 _ _ ?_
    refine pos rfl ?_
    refine JK.call (n0 := 0) (r := id) (sameSK_ct [⟨10, 3⟩, ⟨20, 3⟩] [⟨10, 3⟩, ⟨20, 3⟩]) Tryd.call25 rfl rfl rfl rfl rfl trivial rfl (by simp) ?_
    rintro g σ' n' ⟨rfl, rfl, rfl⟩
    refine vc_sound pg_ok 200 _ _ ?_
    refine pos (by simp) ?_
    refine JK.callB (right_ct [⟨2, 0⟩, ⟨1, 0⟩]) Tryd.call24 rfl rfl rfl rfl ⟨⟨rfl, rfl⟩, trivial⟩ (by rintro g σ' n' ⟨rfl, rfl, rfl⟩; rfl) ?_
    rintro g σ' n' ⟨rfl, rfl, rfl⟩
    refine vc_sound pg_ok 200 _ _ ?_
    refine .inr (congrArg GV.b ?_)
    rw [no2]
    rfl
  · exact (hno _ ok2 v2 rfl).elim
theorem chunkBack_ct (l : List Sm) (s : ByteArray) (cut : Int) (hV : V64 l) : Ct pg 4 0 [.sl 2 (l.map sm), .v (.string s), gi cut] [] (Val fun g => g = .b true) := by
  refine Ct.bool (Ct.of_JK pg_ok Tryd.func4 rfl Tryd.ntmps4 rfl Tryd.results4 fun H0 S0 w0 h0 g0 => ?_)
  refine vc_sound pg_ok 200 _ _ ?_
  refine ⟨fun h1 => ?_, fun _ => .inl rfl⟩
  refine ⟨fun _ => .inl rfl, fun h2 => ?_⟩
  simp only [List.length_map, decide_eq_false_iff_not] at h1 h2
  refine JK.call (n0 := 0) (r := id) chunked_ct Tryd.call21 rfl rfl rfl rfl rfl trivial rfl (by simp) ?_
  rintro g σ' n' ⟨rfl, rfl, rfl⟩
  refine vc_sound pg_ok 200 _ _ ?_
  refine neg rfl ?_
  refine JK.call (n0 := 0) (r := id) (read_ct s (by omega)) Tryd.call22 rfl rfl rfl rfl rfl trivial rfl (by simp) ?_
  rintro g σ' n' ⟨hq, rfl, rfl⟩
  rcases hq with ⟨m, hok, hVm, he, rfl⟩ | ⟨hno, rfl⟩
  · refine vc_sound pg_ok 200 _ _ ?_
    refine pos rfl ?_
    refine JK.call (n0 := 0) (r := id) (write_ct m hok) Tryd.call23 rfl rfl rfl rfl rfl trivial rfl (by simp) ?_
    rintro g σ' n' ⟨rfl, rfl, rfl⟩
    refine vc_sound pg_ok 200 _ _ ?_
    refine neg' rfl ?_
    refine neg (by rw [strEq, he]; simp) ?_
    cases hok : okS l with
    | false =>
      refine JK.call (n0 := 0) (r := id) (writeNo_ct l hok) Tryd.call23 rfl rfl rfl rfl rfl trivial rfl (by simp) ?_
      rintro g σ' n' ⟨rfl, rfl, rfl⟩
      refine vc_sound pg_ok 200 _ _ ?_
      refine pos rfl ?_
      refine JK.call (n0 := 0) (r := id) (right_ct l) Tryd.call24 rfl rfl rfl rfl rfl trivial rfl (by simp) ?_
      rintro g σ' n' ⟨rfl, rfl, rfl⟩
      refine vc_sound pg_ok 200 _ _ ?_
      refine .inr (congrArg GV.b ?_)
      rw [hok]
      rfl
    | true =>
      obtain ⟨hr, hl⟩ := (okS_iff l).1 hok
      refine JK.call (n0 := 0) (r := id) (write_ct l hok) Tryd.call23 rfl rfl rfl rfl rfl trivial rfl (by simp) ?_
      rintro g σ' n' ⟨rfl, rfl, rfl⟩
      refine vc_sound pg_ok 200 _ _ ?_
      refine neg rfl ?_
      refine JK.call (n0 := 0) (r := id) (read_ct (enc l) (enc_small hl)) Tryd.call22 rfl rfl rfl rfl rfl trivial rfl (by simp) ?_
      rintro g σ' n' ⟨hq, rfl, rfl⟩
      rcases hq with ⟨m, hokm, hVm, hem, rfl⟩ | ⟨hno, rfl⟩
      · obtain ⟨hrm, hlm⟩ := (okS_iff m).1 hokm
        have := enc_inj hr hrm hl hlm hV hVm hem
        subst this
        refine vc_sound pg_ok 200 _ _ ?_
        refine neg' rfl ?_
        refine JK.call (n0 := 0) (r := id) (sameSK_ct l l) Tryd.call25 rfl rfl rfl rfl rfl trivial rfl (by simp) ?_
        rintro g σ' n' ⟨rfl, rfl, rfl⟩
        refine vc_sound pg_ok 200 _ _ ?_
        refine neg (by simp) ?_
        have hsz := enc_size l
        have hsm := enc_small hl
        have hcl := chunkF_len l
        have hpos : 1 ≤ (chunkF l).length := by
          unfold chunkF
          have := (putF_len l.length).1
          rw [List.length_append]
          omega
        refine JK.call (n0 := 0) (r := id) (pick_ct cut ((enc l).size : Int) (by omega) (by omega)) Tryd.call26 rfl rfl rfl rfl rfl trivial rfl (by simp) ?_
        rintro g σ' n' ⟨⟨k, hk, rfl⟩, rfl, rfl⟩
        refine vc_sound pg_ok 200 _ _ ?_
        refine ⟨by omega, by omega, by omega, ?_⟩
        have hcs : ((enc l).extract (0 : Int).toNat (k : Int).toNat).size ≤ 1000000 := by rw [ByteArray.size_extract]; omega
        refine JK.call (n0 := 0) (r := id) (read_ct _ hcs) Tryd.call22 rfl rfl rfl rfl rfl trivial rfl (by simp) ?_
        rintro g σ' n' ⟨hq, rfl, rfl⟩
        rcases hq with ⟨m, hokm, hVm, hem, rfl⟩ | ⟨hno, rfl⟩
        · obtain ⟨hrm, hlm⟩ := (okS_iff m).1 hokm
          exact (enc_cut hr hrm hl hlm hV hVm (k := k) (by omega) hem).elim
        · refine vc_sound pg_ok 200 _ _ ?_
          exact .inr rfl
      · exact (hno l hok hV rfl).elim
  · refine vc_sound pg_ok 200 _ _ ?_
    refine neg rfl ?_
    cases hok : okS l with
    | false =>
      refine JK.call (n0 := 0) (r := id) (writeNo_ct l hok) Tryd.call23 rfl rfl rfl rfl rfl trivial rfl (by simp) ?_
      rintro g σ' n' ⟨rfl, rfl, rfl⟩
      refine vc_sound pg_ok 200 _ _ ?_
      refine pos rfl ?_
      refine JK.call (n0 := 0) (r := id) (right_ct l) Tryd.call24 rfl rfl rfl rfl rfl trivial rfl (by simp) ?_
      rintro g σ' n' ⟨rfl, rfl, rfl⟩
      refine vc_sound pg_ok 200 _ _ ?_
      refine .inr (congrArg GV.b ?_)
      rw [hok]
      rfl
    | true =>
      obtain ⟨hr, hl⟩ := (okS_iff l).1 hok
      refine JK.call (n0 := 0) (r := id) (write_ct l hok) Tryd.call23 rfl rfl rfl rfl rfl trivial rfl (by simp) ?_
      rintro g σ' n' ⟨rfl, rfl, rfl⟩
      refine vc_sound pg_ok 200 _ _ ?_
      refine neg rfl ?_
      refine JK.call (n0 := 0) (r := id) (read_ct (enc l) (enc_small hl)) Tryd.call22 rfl rfl rfl rfl rfl trivial rfl (by simp) ?_
      rintro g σ' n' ⟨hq, rfl, rfl⟩
      rcases hq with ⟨m, hokm, hVm, hem, rfl⟩ | ⟨hno, rfl⟩
      · obtain ⟨hrm, hlm⟩ := (okS_iff m).1 hokm
        have := enc_inj hr hrm hl hlm hV hVm hem
        subst this
        refine vc_sound pg_ok 200 _ _ ?_
        refine neg' rfl ?_
        refine JK.call (n0 := 0) (r := id) (sameSK_ct l l) Tryd.call25 rfl rfl rfl rfl rfl trivial rfl (by simp) ?_
        rintro g σ' n' ⟨rfl, rfl, rfl⟩
        refine vc_sound pg_ok 200 _ _ ?_
        refine neg (by simp) ?_
        have hsz := enc_size l
        have hsm := enc_small hl
        have hcl := chunkF_len l
        have hpos : 1 ≤ (chunkF l).length := by
          unfold chunkF
          have := (putF_len l.length).1
          rw [List.length_append]
          omega
        refine JK.call (n0 := 0) (r := id) (pick_ct cut ((enc l).size : Int) (by omega) (by omega)) Tryd.call26 rfl rfl rfl rfl rfl trivial rfl (by simp) ?_
        rintro g σ' n' ⟨⟨k, hk, rfl⟩, rfl, rfl⟩
        refine vc_sound pg_ok 200 _ _ ?_
        refine ⟨by omega, by omega, by omega, ?_⟩
        have hcs : ((enc l).extract (0 : Int).toNat (k : Int).toNat).size ≤ 1000000 := by rw [ByteArray.size_extract]; omega
        refine JK.call (n0 := 0) (r := id) (read_ct _ hcs) Tryd.call22 rfl rfl rfl rfl rfl trivial rfl (by simp) ?_
        rintro g σ' n' ⟨hq, rfl, rfl⟩
        rcases hq with ⟨m, hokm, hVm, hem, rfl⟩ | ⟨hno, rfl⟩
        · obtain ⟨hrm, hlm⟩ := (okS_iff m).1 hokm
          exact (enc_cut hr hrm hl hlm hV hVm (k := k) (by omega) hem).elim
        · refine vc_sound pg_ok 200 _ _ ?_
          exact .inr rfl
      · exact (hno l hok hV rfl).elim
theorem chunkSmall_ct (from_ step value n : Int) : Ct pg 5 0 [gi from_, gi step, gi value, gi n] [] (Val fun g => g = .b true) := by
  refine Ct.bool (Ct.of_JK pg_ok Tryd.func5 rfl Tryd.ntmps5 rfl Tryd.results5 fun H0 S0 w0 h0 g0 => ?_)
  refine vc_sound pg_ok 200 _ _ ?_
  refine ⟨fun h1 => ?_, fun _ => .inl rfl⟩
  refine ⟨fun h2 => ?_, fun _ => .inl rfl⟩
  refine ⟨fun h3 => ?_, fun _ => .inl rfl⟩
  refine ⟨fun _ => .inl rfl, fun h4 => ?_⟩
  simp only [decide_eq_false_iff_not] at h1 h2 h3 h4
  refine JK.call (n0 := 0) (r := id) chunked_ct Tryd.call21 rfl rfl rfl rfl rfl trivial rfl (by simp) ?_
  rintro g σ' n' ⟨rfl, rfl, rfl⟩
  refine vc_sound pg_ok 200 _ _ ?_
  refine neg rfl ?_
  refine JK.call (n0 := 0) (r := id) (pick_ct n 200 (by omega) (by omega)) Tryd.call26 rfl rfl rfl rfl rfl trivial rfl (by simp) ?_
  rintro g σ' n' ⟨⟨k, hk, rfl⟩, rfl, rfl⟩
  refine vc_sound pg_ok 200 _ _ ?_
  refine JK.ownNil 9 53 2 rfl ?_
  refine JK.loopE (α := Nat) (β := Unit) (fun i => ⟨[(0, gi from_), (1, gi step), (2, gi value), (3, gi k), (10, gi i), (9, .o 0)], [(0, .row 53 2 ((evenS from_ step value i).map sm))], 1⟩) (fun i => i ≤ k) (fun i => k - i)
    (fun _ => ⟨[(3, gi k), (9, .o 0)], [(0, .row 53 2 ((evenS from_ step value k).map sm))], 1⟩) (fun _ => True) 0 id ?_ (Nat.zero_le _) ?_ ?_
  · exact ⟨⟨rfl, rfl, rfl, rfl, rfl, rfl, trivial⟩, ⟨rfl, trivial⟩, rfl⟩
  · intro i hi
    refine vc_sound pg_ok 200 _ _ ?_
    by_cases hlt : i < k
    · refine pos (by simp <;> omega) ?_
      refine ⟨by simp [evenS] <;> omega, ?_⟩
      have hm1 : (i : Int) * step ≤ 200 * 1048576 := Int.mul_le_mul (by omega) (by omega) (by omega) (by omega)
      have hm2 : 0 ≤ (i : Int) * step := Int.mul_nonneg (by omega) (by omega)
      refine ⟨i + 1, fun _ => 2, ⟨⟨rfl, rfl, rfl, rfl, succ_gi (by omega), rfl, trivial⟩, ⟨?_, trivial⟩, rfl⟩, hlt, by show k - (i + 1) < k - i; omega⟩
      show some (Res.row _ 2 ((evenS from_ step value i).map sm ++ [[gi (IntKind.i64.wrap (from_ + IntKind.i64.wrap ((i : Int) * step))), gi value]])) = _
      rw [evenS_snoc, List.map_append, wrap_id (x := (i : Int) * step) (by omega) (by omega), wrap_id (by omega) (by omega)]
      rfl
    · have e : i = k := by omega
      subst e
      refine neg (by simp) ?_
      exact ⟨(), id, ⟨⟨rfl, rfl, trivial⟩, ⟨rfl, trivial⟩, rfl⟩, trivial⟩
  · intro _ _
    refine JK.freeze 0 (ty := 53) (sz := 2) (rows := (evenS from_ step value k).map sm) rfl ?_
    refine vc_sound pg_ok 200 _ _ ?_
    refine JK.call (n0 := 0) (r := id) (right_ct (evenS from_ step value k)) Tryd.call24 rfl rfl rfl rfl rfl trivial rfl (by simp) ?_
    rintro g σ' n' ⟨rfl, rfl, rfl⟩
    refine vc_sound pg_ok 200 _ _ ?_
    cases hok : okS (evenS from_ step value k) with
    | false =>
      refine pos rfl ?_
      exact .inl rfl
    | true =>
      refine neg rfl ?_
      refine JK.call (n0 := 0) (r := id) (write_ct (evenS from_ step value k) hok) Tryd.call23 rfl rfl rfl rfl rfl trivial rfl (by simp) ?_
      rintro g σ' n' ⟨rfl, rfl, rfl⟩
      have hsz := enc_size (evenS from_ step value k)
      have hel := even_len from_ step value k
      refine vc_sound pg_ok 200 _ _ ?_
      refine pos rfl ?_
      refine .inr (congrArg GV.b ?_)
      show decide (IntKind.i64.wrap (8 * ((enc (evenS from_ step value k)).size : Int)) ≤ IntKind.i64.wrap (IntKind.i64.wrap (280 + IntKind.i64.wrap (2 * (k : Int))) + 8)) = true
      rw [wrap_id (x := 8 * _) (by omega) (by omega), wrap_id (x := 2 * (k : Int)) (by omega) (by omega), wrap_id (x := 280 + _) (by omega) (by omega), wrap_id (by omega) (by omega)]
      exact decide_eq_true (by omega)
end Go.Proofs.YtakkdpfbgjccpaaDoor
