/-
  Contracts: the disk: make safe, take away, move.
-/
import Derived.Test.YtdongnbkfgipdaaCDisk
namespace Go.Proofs.Ytdongnbkfgipdaa
open Go.GK Go.PL Go.RowKit
set_option maxRecDepth 100000
theorem sync_hf (d : Dk) (fp : List Nat) (B : Nat) (hok : d.ok B) (f : ByteArray) : Hf pg 10 1 [.p 0 0, gs f] [(0, .ab (dk d fp))] (DkQ (erG (syncF f d).1) (syncF f d).2) := by
  unfold syncF
  rcases tf d.nil with hd | hd
  · rw [fnd_nil hok hd]
    refine DkQ.of rfl ⟨Try.call10, Ct.of_JK pg_ok Try.func10 rfl Try.ntmps10 rfl Try.results10 fun H0 S0 w0 h0 g0 => ?_⟩
    refine UNPN 0 d hd rfl ?_
    exact ⟨rfl, .inl (DkAt.none hd rfl rfl)⟩
  · cases hf : fnd f d with
    | none =>
      refine DkQ.of rfl ⟨Try.call10, Ct.of_JK pg_ok Try.func10 rfl Try.ntmps10 rfl Try.results10 fun H0 S0 w0 h0 g0 => ?_⟩
      refine UNPO 0 d hd rfl ?_
      refine lkN (ef_none hf) ?_
      exact ⟨rfl, .inl (DkAt.own 2 3 hd rfl rfl rfl rfl rfl)⟩
    | some x =>
      simp only []
      refine DkQ.of (by split <;> rfl) ⟨Try.call10, Ct.of_JK pg_ok Try.func10 rfl Try.ntmps10 rfl Try.results10 fun H0 S0 w0 h0 g0 => ?_⟩
      refine UNPO 0 d hd rfl ?_
      refine lkS (ef_some hf) ?_
      refine PCKO 0 2 3 d hd rfl rfl rfl rfl fun fp2 => ?_
      refine GOJ (does_hf d fp2 B hok) id rfl rfl ⟨rfl, trivial⟩ rfl (by simp) ?_
      rcases tf (onF d) with hon | hon
      · rw [if_pos hon, if_pos hon]
        rintro _ _ _ ⟨rfl, ⟨fp1, rfl⟩, rfl⟩
        refine UNPO 0 (doesF d) rfl rfl ?_
        refine p2 ?_
        refine DRAW [6] true (tk (List.range 12) ++ al [12]) (by kernel_rfl) ?_
        refine lkS (ef_some (d := doesF d) hf) ?_
        refine V ?_
        refine ⟨rfl, .inl (DkAt.own 5 6 rfl rfl ?_ ?_ rfl rfl)⟩
        · exact congrArg (fun l => some (Res.mp none l)) (pes_same ef (x := x) (y := (x.1, x.1.size)) hok.keys rfl hf rfl).symm
        · exact congrArg (fun l => some (Res.mp none l)) (mput_pes en (ks f) (x.1, x.1.size) d.L)
      · rw [if_neg (by rw [hon]; decide), if_neg (by rw [hon]; decide)]
        rintro _ _ _ ⟨rfl, ⟨fp1, rfl⟩, rfl⟩
        refine V ?_
        refine p1 ?_
        exact ⟨rfl, .inr ⟨⟨_, rfl⟩, rfl⟩⟩
theorem remove_hf (d : Dk) (fp : List Nat) (B : Nat) (hok : d.ok B) (f : ByteArray) : Hf pg 12 1 [.p 0 0, gs f] [(0, .ab (dk d fp))] (DkQ (erG (removeF f d).1) (removeF f d).2) := by
  unfold removeF
  rcases tf d.nil with hd | hd
  · rw [fnd_nil hok hd]
    refine DkQ.of rfl ⟨Try.call12, Ct.of_JK pg_ok Try.func12 rfl Try.ntmps12 rfl Try.results12 fun H0 S0 w0 h0 g0 => ?_⟩
    refine UNPN 0 d hd rfl ?_
    exact ⟨rfl, .inl (DkAt.none hd rfl rfl)⟩
  · cases hf : fnd f d with
    | none =>
      refine DkQ.of rfl ⟨Try.call12, Ct.of_JK pg_ok Try.func12 rfl Try.ntmps12 rfl Try.results12 fun H0 S0 w0 h0 g0 => ?_⟩
      refine UNPO 0 d hd rfl ?_
      refine lkN (ef_none hf) ?_
      exact ⟨rfl, .inl (DkAt.own 2 3 hd rfl rfl rfl rfl rfl)⟩
    | some x =>
      simp only []
      refine DkQ.of (by split <;> rfl) ⟨Try.call12, Ct.of_JK pg_ok Try.func12 rfl Try.ntmps12 rfl Try.results12 fun H0 S0 w0 h0 g0 => ?_⟩
      refine UNPO 0 d hd rfl ?_
      refine lkS (ef_some hf) ?_
      refine PCKO 0 2 3 d hd rfl rfl rfl rfl fun fp2 => ?_
      refine GOJ (does_hf d fp2 B hok) id rfl rfl ⟨rfl, trivial⟩ rfl (by simp) ?_
      rcases tf (onF d) with hon | hon
      · rw [if_pos hon, if_pos hon]
        rintro _ _ _ ⟨rfl, ⟨fp1, rfl⟩, rfl⟩
        refine UNPO 0 (doesF d) rfl rfl ?_
        refine p2 ?_
        refine ⟨rfl, .inl (DkAt.own 5 6 rfl rfl ?_ ?_ rfl rfl)⟩
        · exact congrArg (fun l => some (Res.mp none l)) (mdel_pes ef (ks f) d.L)
        · exact congrArg (fun l => some (Res.mp none l)) (mdel_pes en (ks f) d.L)
      · rw [if_neg (by rw [hon]; decide), if_neg (by rw [hon]; decide)]
        rintro _ _ _ ⟨rfl, ⟨fp1, rfl⟩, rfl⟩
        refine V ?_
        refine p1 ?_
        exact ⟨rfl, .inr ⟨⟨_, rfl⟩, rfl⟩⟩
theorem mput_mput {k : Value} (hk : sortB none k = true) (x y : GV) : ∀ l : List (Value × GV), mput k y (mput k x l) = mput k y l
  | [] => by
    show (if vkey k k = true then [(k, y)] else _) = _
    rw [if_pos (vkey_refl hk)]; rfl
  | (q, z) :: r => by
    show mput k y (if vkey k q = true then (k, x) :: r else (q, z) :: mput k x r) = (if vkey k q = true then (k, y) :: r else (q, z) :: mput k y r)
    by_cases hv : vkey k q = true
    · rw [if_pos hv, if_pos hv]
      show (if vkey k k = true then (k, y) :: r else _) = _
      rw [if_pos (vkey_refl hk)]
    · rw [if_neg hv, if_neg hv]
      show (if vkey k q = true then _ else (q, z) :: mput k y (mput k x r)) = _
      rw [if_neg hv, mput_mput hk x y r]
theorem move_hf (d : Dk) (fp : List Nat) (B : Nat) (hok : d.ok B) (f t : ByteArray) : Hf pg 11 1 [.p 0 0, gs f, gs t] [(0, .ab (dk d fp))] (DkQ (erG (moveF f t d).1) (moveF f t d).2) := by
  unfold moveF
  rcases tf (badN t) with hb | hb
  · rw [if_pos hb]
    refine DkQ.of rfl ⟨Try.call11, Ct.of_JK pg_ok Try.func11 rfl Try.ntmps11 rfl Try.results11 fun H0 S0 w0 h0 g0 => ?_⟩
    rcases tf d.nil with hd | hd
    · refine UNPN 0 d hd rfl ?_
      refine ⟨fun hc => ?_, fun hc => ?_⟩
      · refine p1 ?_ (by rw [badN, hc] at hb; exact hb)
        exact ⟨rfl, .inl (DkAt.none hd rfl rfl)⟩
      · exact ⟨rfl, .inl (DkAt.none hd rfl rfl)⟩
    · refine UNPO 0 d hd rfl ?_
      cases hf : fnd f d with
      | none =>
        refine lkN (ef_none hf) ?_
        refine ⟨fun hc => ?_, fun hc => ?_⟩
        · refine p1 ?_ (by rw [badN, hc] at hb; exact hb)
          exact ⟨rfl, .inl (DkAt.own 2 3 hd rfl rfl rfl rfl rfl)⟩
        · exact ⟨rfl, .inl (DkAt.own 2 3 hd rfl rfl rfl rfl rfl)⟩
      | some x =>
        refine lkS (ef_some hf) ?_
        refine ⟨fun hc => ?_, fun hc => ?_⟩
        · refine p1 ?_ (by rw [badN, hc] at hb; exact hb)
          exact ⟨rfl, .inl (DkAt.own 2 3 hd rfl rfl rfl rfl rfl)⟩
        · exact ⟨rfl, .inl (DkAt.own 2 3 hd rfl rfl rfl rfl rfl)⟩
  · rw [if_neg (by rw [hb]; decide)]
    have hb1 : (t.toList == (⟨#[]⟩ : ByteArray).toList) = false := by
      unfold badN at hb
      cases h : (t.toList == (⟨#[]⟩ : ByteArray).toList) with
      | false => rfl
      | true => rw [h] at hb; simp at hb
    have hb2 : decide ((t.size : Int) > 60) = false := by rw [badN, hb1] at hb; exact hb
    rcases tf d.nil with hd | hd
    · rw [fnd_nil hok hd]
      refine DkQ.of rfl ⟨Try.call11, Ct.of_JK pg_ok Try.func11 rfl Try.ntmps11 rfl Try.results11 fun H0 S0 w0 h0 g0 => ?_⟩
      refine UNPN 0 d hd rfl ?_
      refine ⟨fun hc => ?_, fun hc => absurd hb1 (by rw [show (t.toList == (⟨#[]⟩ : ByteArray).toList) = true from hc]; decide)⟩
      refine p2 ?_
      exact ⟨rfl, .inl (DkAt.none hd rfl rfl)⟩
    · cases hf : fnd f d with
      | none =>
        refine DkQ.of rfl ⟨Try.call11, Ct.of_JK pg_ok Try.func11 rfl Try.ntmps11 rfl Try.results11 fun H0 S0 w0 h0 g0 => ?_⟩
        refine UNPO 0 d hd rfl ?_
        refine lkN (ef_none hf) ?_
        refine ⟨fun hc => ?_, fun hc => absurd hb1 (by rw [show (t.toList == (⟨#[]⟩ : ByteArray).toList) = true from hc]; decide)⟩
        refine p2 ?_
        exact ⟨rfl, .inl (DkAt.own 2 3 hd rfl rfl rfl rfl rfl)⟩
      | some x =>
        simp only []
        refine DkQ.of (by split <;> rfl) ⟨Try.call11, Ct.of_JK pg_ok Try.func11 rfl Try.ntmps11 rfl Try.results11 fun H0 S0 w0 h0 g0 => ?_⟩
        refine UNPO 0 d hd rfl ?_
        refine lkS (ef_some hf) ?_
        refine ⟨fun hc => ?_, fun hc => absurd hb1 (by rw [show (t.toList == (⟨#[]⟩ : ByteArray).toList) = true from hc]; decide)⟩
        refine p2 ?_
        refine PCKO 0 2 3 d hd rfl rfl rfl rfl fun fp2 => ?_
        refine GOJ (does_hf d fp2 B hok) id rfl rfl ⟨rfl, trivial⟩ rfl (by simp) ?_
        rcases tf (onF d) with hon | hon
        · rw [if_pos hon, if_pos hon]
          rintro _ _ _ ⟨rfl, ⟨fp1, rfl⟩, rfl⟩
          refine UNPO 0 (doesF d) rfl rfl ?_
          refine p2 ?_
          refine lkS (en_some (d := doesF d) hf) ?_
          have e1 : ∀ g, mput (ks t) (ef x) (mput (ks t) g (mdel (ks f) (pes ef d.L))) = pes ef (pput (ks t) x (pdel (ks f) d.L)) := fun g => by rw [mput_mput rfl, mdel_pes, mput_pes]
          have e2 : ∀ g, mput (ks t) (en x) (mput (ks t) g (mdel (ks f) (pes en d.L))) = pes en (pput (ks t) x (pdel (ks f) d.L)) := fun g => by rw [mput_mput rfl, mdel_pes, mput_pes]
          refine DRAW [5, 6] true (tk (List.range 12) ++ al [12] ++ tk [13] ++ al [14, 15] ++ tk [16] ++ al [17]) (by kernel_rfl) ?_
          have m1 : mfind (ks t) (mdel (ks f) (pes ef d.L)) = (fnd t (delF f d)).map ef := by rw [mdel_pes]; exact find_ef (d := delF f d) t
          have m2 : mfind (ks t) (mdel (ks f) (pes en d.L)) = (fnd t (delF f d)).map en := by rw [mdel_pes]; exact find_en (d := delF f d) t
          cases hft : fnd t (delF f d) with
          | none =>
            rw [hft] at m1 m2
            refine lkN m1 ?_
            refine lkN m2 ?_
            refine V ?_
            exact ⟨rfl, .inl (DkAt.own 5 6 rfl rfl (congrArg (fun l => some (Res.mp none l)) (e1 _)) (congrArg (fun l => some (Res.mp none l)) (e2 _)) rfl rfl)⟩
          | some y =>
            rw [hft] at m1 m2
            refine lkS m1 ?_
            refine lkS m2 ?_
            refine V ?_
            exact ⟨rfl, .inl (DkAt.own 5 6 rfl rfl (congrArg (fun l => some (Res.mp none l)) (e1 _)) (congrArg (fun l => some (Res.mp none l)) (e2 _)) rfl rfl)⟩
        · rw [if_neg (by rw [hon]; decide), if_neg (by rw [hon]; decide)]
          rintro _ _ _ ⟨rfl, ⟨fp1, rfl⟩, rfl⟩
          refine V ?_
          refine p1 ?_
          exact ⟨rfl, .inr ⟨⟨_, rfl⟩, rfl⟩⟩
end Go.Proofs.Ytdongnbkfgipdaa
