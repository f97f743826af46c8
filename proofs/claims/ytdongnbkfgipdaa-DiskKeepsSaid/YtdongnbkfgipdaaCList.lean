/-
  Contracts: a map's keys, sorted; the disk's files.
-/
import Derived.Test.YtdongnbkfgipdaaCDisk
import Derived.Test.YtdongnbkfgipdaaSIter
namespace Go.Proofs.Ytdongnbkfgipdaa
open Go.GK Go.PL Go.RowKit Go.Maps
set_option maxRecDepth 100000
def nmOf : Value → ByteArray
  | .string s => s
  | _ => ByteArray.empty
/-- Texts, sorted. -/
def sortB (l : List ByteArray) : List ByteArray := ((l.map fun s => s.data.toList).mergeSort fun x y => decide (x ≤ y)).map fun x => ⟨x.toArray⟩
theorem sortB_of {l : List ByteArray} {ss : List (List UInt8)} (h : ss.Perm (l.map fun s => s.data.toList)) : ((ss.mergeSort fun x y => decide (x ≤ y)).map fun x => (⟨x.toArray⟩ : ByteArray)) = sortB l := by
  unfold sortB
  exact congrArg (List.map _) (mergeSort_of_perm h)
theorem sorts_wide (m : Nat) : AnyZ.SortsIn Try.prog Try.sortedA_ren Fence.wide m :=
  ⟨fun blk off cap ss W hH hblk hsz => callsIn_wide.2 (Try.slices_Sort_string blk off cap ss W hH hblk hsz), fun p cap W => callsIn_wide.2 (Try.slices_Sort_string_none p cap W)⟩
abbrev kR : Value → Option (DataW Unit × List MemPlace) := fun _ => some (.lit (.bool true), [])
theorem sortedKeys_calls (Bm b : Nat) (arr : Array MapEntry) (clock : Nat) (w : World) (hBm : Bm < w.heap.size) (hm : w.cell? ⟨Bm, 0, none⟩ = some (.map (some b))) (hb : w.heap[b]? = some (.map arr clock)) (L : List ByteArray) (hL : arr.toList.map (·.key) = L.map ks) (h60 : ∀ s ∈ L, s.size ≤ 1000) (hst : MapKept.Stamped arr clock) (hsz : L.length ≤ 1000000) :
    Calls Try.prog 23 #[.func (.func 32) #[] #[.pointer (some ⟨Bm, 0, none⟩)]] w fun e w' => ∃ (v : Value) (ss : List (List UInt8)), e = .returned v ∧ ss.Perm (L.map fun s => s.data.toList) ∧
      w'.ownsRow w.heap.size 9 1 v ss.length ((ss.mergeSort fun x y => decide (x ≤ y)).map encStr) ∧ Below w.heap.size w w' := by
  have hlen : arr.size = L.length := by
    have := congrArg List.length hL
    simpa using this
  have hrd : ∀ x ∈ arr.toList, ∃ s ∈ L, x.key = .string s ∧ WideElems.rd (H := Unit) Try.prog 9 kR x = some (.string s.data.toList, .lit (.bool true)) := fun x hx => by
    have h1 : x.key ∈ L.map ks := by rw [← hL]; exact List.mem_map_of_mem (f := fun e : MapEntry => e.key) hx
    obtain ⟨s, hs, e⟩ := List.mem_map.1 h1
    refine ⟨s, hs, e.symm, ?_⟩
    obtain ⟨key, val, born⟩ := x
    simp only at e
    subst e
    have hle : s.size ≤ maxLen := by have := h60 s hs; unfold maxLen; omega
    have hkk : keyOf Try.prog 9 (.string s) = some (.string s.data.toList) := WideMaps.keyOf_string_mk (s := s) Try.underlying9 hle
    exact WideElems.rd_mk (R := kR) (yv := (.lit (.bool true), [])) hkk rfl
  have hF : WideElems.Fit Try.prog 9 kR arr clock := ⟨by rw [hlen]; unfold maxLen; omega, hst, fun x hx => by obtain ⟨s, _, _, h⟩ := hrd x hx; exact ⟨_, h⟩⟩
  let D0 : DataW Unit := .map ((arr.toList.map (WideElems.rg Try.prog 9 kR)).foldr DataW.insert [])
  have hown : w.ownsMap Try.prog 9 kR b arr.size D0 := ⟨arr, clock, hb, hF, Nat.le_refl _, rfl⟩
  have hD : (strKeys D0).Perm (L.map fun s => s.data.toList) := by
    show (((arr.toList.map (WideElems.rg Try.prog 9 kR)).foldr DataW.insert []).map fun p => strOf p.1).Perm _
    refine ((WideShapes.sorted_perm _).map _).trans ?_
    rw [List.map_map]
    have e : arr.toList.map ((fun p : Lit × DataW Unit => strOf p.1) ∘ WideElems.rg Try.prog 9 kR) = (arr.toList.map (·.key)).map fun k => (nmOf k).data.toList := by
      rw [List.map_map]
      refine List.map_congr_left fun x hx => ?_
      obtain ⟨s, _, hk, h⟩ := hrd x hx
      show strOf (WideElems.rg Try.prog 9 kR x).1 = (nmOf x.key).data.toList
      rw [WideElems.rg_of h, hk]
      rfl
    rw [e, hL, List.map_map]
    exact List.Perm.refl _
  have hms : Maps.size D0 = arr.size := by
    show ((arr.toList.map (WideElems.rg Try.prog 9 kR)).foldr DataW.insert []).length = _
    rw [(WideShapes.sorted_perm _).length_eq]
    simp
  have hseq : SeqGives Fence.wide 2 Try.prog 32 #[.pointer (some ⟨Bm, 0, none⟩)] encStr (fun ss => ss.Perm (strKeys D0)) (Maps.size D0) w :=
    AnyZ.keys_gives (ρ := Try.keysA_ren) { Try.keysA with } Fence.wide _ trivial rfl (by omega) Bm b arr.size D0 w hBm hm hown
  have cS := AnyZ.sorted_in Try.sortedA Fence.wide 5 trivial trivial trivial trivial rfl (by omega) (sorts_wide _) (enters_of Try.func31 (by kernel_rfl) rfl) 32 #[.pointer (some ⟨Bm, 0, none⟩)] trivial (enters_of Try.func32 (by kernel_rfl) rfl) _ _ (by rw [hms, hlen]; unfold maxLen; omega) (by rw [hms, hlen]; omega) w hseq
  refine (callsIn_wide.1 cS).mono ?_
  rintro e w' ⟨v, ss, rfl, hS, hrow, _, hbl⟩
  exact ⟨v, ss, rfl, hS.trans hD, hrow, hbl⟩
theorem sortedNil_calls (Bm : Nat) (w : World) (hBm : Bm < w.heap.size) (hm : w.cell? ⟨Bm, 0, none⟩ = some (.map none)) :
    Calls Try.prog 23 #[.func (.func 32) #[] #[.pointer (some ⟨Bm, 0, none⟩)]] w fun e w' => ∃ (v : Value) (ss : List (List UInt8)), e = .returned v ∧ ss = [] ∧
      w'.ownsRow w.heap.size 9 1 v ss.length ((ss.mergeSort fun x y => decide (x ≤ y)).map encStr) ∧ Below w.heap.size w w' := by
  have hseq : SeqGives Fence.wide 2 Try.prog 32 #[.pointer (some ⟨Bm, 0, none⟩)] encStr (fun ss : List (List UInt8) => ss = []) 0 w :=
    AnyZ.keys_gives_nil (ρ := Try.keysA_ren) { Try.keysA with } Fence.wide _ trivial rfl Bm w hBm hm
  have cS := AnyZ.sorted_in Try.sortedA Fence.wide 5 trivial trivial trivial trivial rfl (by omega) (sorts_wide _) (enters_of Try.func31 (by kernel_rfl) rfl) 32 #[.pointer (some ⟨Bm, 0, none⟩)] trivial (enters_of Try.func32 (by kernel_rfl) rfl) _ _ (by unfold maxLen; omega) (by omega) w hseq
  refine (callsIn_wide.1 cS).mono ?_
  rintro e w' ⟨v, ss, rfl, hS, hrow, _, hbl⟩
  exact ⟨v, ss, rfl, hS, hrow, hbl⟩
/-! as the ghost machine has them -/
/-- A call that hands back a new own slice of texts, and leaves all that was. -/
theorem Ct.texts {f : FuncId} {n0 : Nat} {args : List GV} {σ : Heap} (L : List ByteArray)
    (h : ∀ (H : Hid) (us : Array Value) (w : World), H.n = n0 → Cells H args us → Sat H σ w → Calls pg.P f us w fun e w' => ∃ (v : Value) (ss : List (List UInt8)), e = .returned v ∧ ss.Perm (L.map fun s => s.data.toList) ∧ w'.ownsRow w.heap.size 9 1 v ss.length ((ss.mergeSort fun x y => decide (x ≤ y)).map encStr) ∧ Below w.heap.size w w') :
    Ct pg f n0 args σ (fun g σ' n' => g = .o n0 ∧ σ' = (n0, .row 9 1 ((sortB L).map fun x => [gs x])) :: σ ∧ n' = n0 + 1) := by
  intro H us w hn hg hcs hs
  refine Calls.mono (h H us w hn hcs hs) (fun e w' he => ?_)
  obtain ⟨v, ss, rfl, hp, hrow, hbl⟩ := he
  have hlen : ss.length = (sortB L).length := by
    unfold sortB
    rw [List.length_map, List.length_mergeSort, hp.length_eq]
  have hrows : ((ss.mergeSort fun x y => decide (x ≤ y)).map encStr) = (sortB L).map fun x => Value.string x := by
    rw [← sortB_of hp, List.map_map]
    rfl
  rw [hrows, hlen] at hrow
  have how : ow v = true := by
    rcases hrow.2 with ⟨h, _⟩ | ⟨_, _, _, h, _⟩ <;> rw [h] <;> rfl
  subst hn
  let cx : Cx := ⟨pg, 0, H.n, H, blks H σ, w, rfl, hg⟩
  have hsim : Sim cx H ⟨[], σ, H.n⟩ w := ⟨rfl, hs, Fr.refl _ _ _⟩
  have hle := H.le_more w.heap.size v
  have esv : (H.more w.heap.size v).sv H.n = v := by simp [Hid.more]
  have hs1 := hsim.grow (r := .row 9 1 ((sortB L).map fun x => [gs x])) (w' := w') hle rfl (by simp [Hid.more]) hbl (by
    refine ⟨(sortB L).map fun x => Value.string x, ?_, ?_, fun row hr => ?_, fun i row hr j g hj => ?_, fun u hu => ?_⟩
    · show w'.ownsRow 0 _ _ ((H.more w.heap.size v).sv H.n) _ _
      rw [esv, List.length_map]
      refine ⟨hrow.1, ?_⟩
      rcases hrow.2 with h | ⟨g, cap, cur, h1, h2, h3⟩
      · exact .inl h
      · exact .inr ⟨g, cap, cur, h1, Nat.zero_le _, h3⟩
    · simp
    · obtain ⟨x, _, rfl⟩ := List.mem_map.1 hr
      rfl
    · rw [List.getElem?_map] at hr
      cases hx : (sortB L)[i]? with
      | none => rw [hx] at hr; cases hr
      | some x =>
        rw [hx] at hr
        cases hr
        cases j with
        | zero => simp at hj; subst hj; exact ⟨.string x, by simp [hx], .v _⟩
        | succ j => simp at hj
    · obtain ⟨x, _, rfl⟩ := List.mem_map.1 hu
      rfl) (by
        show ((H.more w.heap.size v).sv H.n).ownBlock.toList.Nodup
        rw [esv]
        cases v.ownBlock <;> simp) (fun b hb => by
        have hb' : b ∈ ((H.more w.heap.size v).sv H.n).ownBlock.toList := hb
        rw [esv] at hb'
        exact (hrow.lt b (by simpa using hb')).1) []
  exact ⟨v, .o H.n, H.more w.heap.size v, _, rfl, .o (by simp [Hid.more]) esv how, hs1.sat, hs1.fr, rfl, rfl, by simp [Hid.more]⟩
theorem keysFn {H : Hid} {us : Array Value} {id : Nat} (h : Cells H [.fn (.func 32) [] [.p id 0]] us) : us = #[.func (.func 32) #[] #[.pointer (some ⟨H.bl id, 0, none⟩)]] := by
  obtain ⟨hl, hi⟩ := h
  obtain ⟨fs, cs, hv, hl1, hi1, hl2, hi2⟩ := (hi 0 _ rfl).inv_fn
  have h2 := (hi2 0 (.p id 0) rfl).inv_p
  have e1 : fs = #[] := Array.eq_empty_of_size_eq_zero (by simpa using hl1.symm)
  have e2 : cs = #[.pointer (some ⟨H.bl id, 0, none⟩)] := by
    refine Array.ext (by simpa using hl2.symm) (fun i h3 h4 => ?_)
    have h5 : i = 0 := by have : i < 1 := by simpa using h4
                          omega
    subst h5
    have := h2.1
    rw [Array.getD, dif_pos h3] at this
    simpa using this
  refine Array.ext (by simpa using hl.symm) (fun i h3 h4 => ?_)
  have h5 : i = 0 := by have : i < 1 := by simpa using h4
                        omega
  subst h5
  rw [Array.getD, dif_pos h3] at hv
  rw [e1, e2] at hv
  simpa using hv
theorem sorted_hf (es : List (Value × GV)) (L : List ByteArray) (hL : es.map (·.1) = L.map ks) (h60 : ∀ s ∈ L, s.size ≤ 1000) (hsz : L.length ≤ 1000000) :
    Hf pg 23 2 [.fn (.func 32) [] [.p 1 0]] [(0, .mp none es), (1, .blk 24 [.o 0])] (fun g σ' n' => g = .o 2 ∧ σ' = [(2, .row 9 1 ((sortB L).map fun x => [gs x])), (0, .mp none es), (1, .blk 24 [.o 0])] ∧ n' = 3) := by
  refine ⟨Try.call23, Ct.texts L fun H us w hn hcs hs => ?_⟩
  rw [keysFn hcs]
  obtain ⟨b, arr, clock, hsv, hw, hok⟩ := hs.holds (0, .mp none es) (by simp)
  obtain ⟨cs, hwb, hlc, hic⟩ := hs.holds (1, .blk 24 [.o 0]) (by simp)
  have hc0 := (hic 0 (.o 0) rfl).inv_o
  have hcs' : cs = #[.map (some b)] := by
    refine Array.ext (by simpa using hlc.symm) (fun i h3 h4 => ?_)
    have h5 : i = 0 := by have : i < 1 := by simpa using h4
                          omega
    subst h5
    have := hc0.1
    rw [Array.getD, dif_pos h3] at this
    rw [hsv] at this
    simpa using this
  subst hcs'
  exact sortedKeys_calls (H.bl 1) b arr clock w (Array.getElem?_eq_some_iff.1 hwb).1 (by unfold World.cell?; rw [hwb]; rfl) hw L (by rw [esIs_keys hok.is, hL]) h60 hok.st hsz
theorem sortedNil_hf : Hf pg 23 1 [.fn (.func 32) [] [.p 0 0]] [(0, .blk 24 [.v (.map none)])] (fun g σ' n' => g = .o 1 ∧ σ' = [(1, .row 9 1 ((sortB []).map fun x => [gs x])), (0, .blk 24 [.v (.map none)])] ∧ n' = 2) := by
  refine ⟨Try.call23, Ct.texts [] fun H us w hn hcs hs => ?_⟩
  rw [keysFn hcs]
  obtain ⟨cs, hwb, hlc, hic⟩ := hs.holds (0, .blk 24 [.v (.map none)]) (by simp)
  have hcs' := cells_vals (vs := [.map none]) (us := cs) ⟨hlc, hic⟩
  subst hcs'
  refine (sortedNil_calls (H.bl 0) w (Array.getElem?_eq_some_iff.1 hwb).1 (by unfold World.cell?; rw [hwb]; rfl)).mono ?_
  rintro e w' ⟨v, ss, rfl, rfl, h⟩
  exact ⟨v, [], rfl, List.Perm.refl _, h⟩
theorem keys_hf (es : List (Value × GV)) : Hf pg 24 1 [.o 0] [(0, .mp none es)] (fun g σ' n' => g = .fn (.func 32) [] [.p 1 0] ∧ σ' = [(1, .blk 24 [.o 0]), (0, .mp none es)] ∧ n' = 2) := by
  refine Hf.of pg_ok Try.func24 rfl Try.ntmps24 rfl Try.results24 Try.call24 fun H0 S0 w0 h0 g0 => ?_
  exact ⟨rfl, rfl, rfl⟩
theorem keysNil_hf : Hf pg 24 0 [.v (.map none)] [] (fun g σ' n' => g = .fn (.func 32) [] [.p 0 0] ∧ σ' = [(0, .blk 24 [.v (.map none)])] ∧ n' = 1) := by
  refine Hf.of pg_ok Try.func24 rfl Try.ntmps24 rfl Try.results24 Try.call24 fun H0 S0 w0 h0 g0 => ?_
  exact ⟨rfl, rfl, rfl⟩
theorem pes_frz (enc : Fl → GV) {id sz : Nat} {rows : List (List GV)} (h : ∀ x, frz id sz rows (enc x) = enc x) (L : List (Value × Fl)) : (pes enc L).map (fun x => (x.1, frz id sz rows x.2)) = pes enc L := by
  unfold pes
  rw [List.map_map]
  exact List.map_congr_left fun x _ => by show (x.1, frz id sz rows (enc x.2)) = _; rw [h]
/-- The files' names, sorted. -/
def names (d : Dk) : List ByteArray := sortB (d.L.map fun y => nmOf y.1)
theorem list_hf (d : Dk) (fp : List Nat) (B : Nat) (hok : d.ok B) (h60 : ∀ y ∈ d.L, (nmOf y.1).size ≤ 1000) (hsz : d.L.length ≤ 1000000) : Hf pg 14 1 [.p 0 0] [(0, .ab (dk d fp))] (DkQ (.sl 1 ((names d).map fun x => [gs x])) d) := by
  refine DkQ.of rfl ⟨Try.call14, Ct.of_JK pg_ok Try.func14 rfl Try.ntmps14 rfl Try.results14 fun H0 S0 w0 h0 g0 => ?_⟩
  rcases tf d.nil with hd | hd
  · have hn : names d = sortB [] := by unfold names; rw [hok.nl hd]; rfl
    rw [hn]
    refine UNPN 0 d hd rfl ?_
    refine GOH keysNil_hf id rfl rfl trivial rfl (by simp) ?_
    rintro _ _ _ ⟨rfl, rfl, rfl⟩
    refine GOJ sortedNil_hf (fun _ => 4) rfl rfl ⟨rfl, trivial⟩ rfl (by simp) ?_
    rintro _ _ _ ⟨rfl, rfl, rfl⟩
    refine JK.freeze 5 rfl ?_
    refine V ?_
    exact ⟨rfl, .inl (DkAt.none hd rfl rfl)⟩
  · have hL : (pes ef d.L).map (·.1) = (d.L.map fun y => nmOf y.1).map ks := by
      rw [List.map_map, List.map_map]
      refine List.map_congr_left fun y hy => ?_
      have := hok.keys y hy
      obtain ⟨q, x⟩ := y
      cases q with
      | string f => rfl
      | _ => cases this
    refine UNPO 0 d hd rfl ?_
    refine GOH (keys_hf (pes ef d.L)) (fun _ => 2) rfl rfl ⟨congrArg (fun l => some (Res.mp none l)) (ef_ren _ _).symm, trivial⟩ (by simp [idbL, idb, idbH, idbR, ef_id, hids, distB, memB]) (by simp) ?_
    rintro _ _ _ ⟨rfl, rfl, rfl⟩
    refine GOJ (sorted_hf (pes ef d.L) (d.L.map fun y => nmOf y.1) hL (fun s hs => by obtain ⟨y, hy, rfl⟩ := List.mem_map.1 hs; exact h60 y hy) (by simpa using hsz)) (fun i => bif Nat.beq i 0 then 2 else 4) rfl rfl ⟨congrArg (fun l => some (Res.mp none l)) (by rw [ef_ren, ef_ren]), rfl, trivial⟩ (by simp [idbL, idb, idbH, idbR, ef_id, hids, distB, memB]; rfl) (fun i _ => by show (bif Nat.beq i 0 then 2 else 4) < 5; cases Nat.beq i 0 <;> decide) ?_
    rintro _ _ _ ⟨rfl, rfl, rfl⟩
    refine JK.freeze 5 rfl ?_
    refine V ?_
    refine ⟨rfl, .inl (DkAt.own 2 3 hd rfl ?_ ?_ rfl rfl)⟩
    · refine congrArg (fun l => some (Res.mp none l)) ?_
      rw [ef_ren]
      exact pes_frz ef (fun _ => rfl) d.L
    · exact congrArg (fun l => some (Res.mp none l)) (pes_frz en (fun _ => rfl) d.L)
end Go.Proofs.Ytdongnbkfgipdaa
