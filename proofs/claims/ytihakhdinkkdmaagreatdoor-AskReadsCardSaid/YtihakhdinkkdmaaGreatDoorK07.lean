/-
  The ghost machine: a map behind its range loop.
-/
import Derived.Test.YtihakhdinkkdmaaGreatDoorK06
import Derived.Shelf.Strings.BuilderK
import Derived.Laws.OwnMore
import Derived.Test.YtihakhdinkkdmaaGreatDoorK05
import Derived.Lib.AppendStr
import Derived.Laws.CopyRow
import Derived.Lib.SliceRun
namespace Go.GK
open Go.RowKit
section
variable {cx : Cx} {T : Post}

theorem JK.unrange {k : List It} {s : St} (id it : Nat) {kd : Option IntKind} {es : List (Value × GV)} {left : List Value} {cur : Option Value} (hid : hlook s.σ id = some (.itr it)) (hit : hlook s.σ it = some (.mr kd es left cur)) (hne : Nat.beq it id = false)
    (h : nfH ((id, .mp kd es) :: hdel (hdel s.σ it) id) fun σ => JK cx T k ⟨s.ρ, σ, s.n⟩) : JK cx T k s := by
  rw [nfH_eq] at h
  refine JK.upd _ (fun H a w hg hs ha => ?_) h
  obtain ⟨l1, l2, e1, e2, e0⟩ := hlook_split hit
  clear e0
  have hid2 : hlook (hdel s.σ it) id = some (.itr it) := by
    rw [e2]
    rw [e1] at hid
    clear e1 e2 h hg hs ha
    induction l1 with
    | nil =>
      have hid' : (bif Nat.beq it id then some (Res.mr kd es left cur) else hlook l2 id) = some (.itr it) := hid
      rw [hne] at hid'
      exact hid'
    | cons x r ih =>
      obtain ⟨j, y⟩ := x
      have hid' : (bif Nat.beq j id then some y else hlook (r ++ (it, Res.mr kd es left cur) :: l2) id) = some (.itr it) := hid
      show (bif Nat.beq j id then some y else hlook (r ++ l2) id) = some (.itr it)
      cases hb : Nat.beq j id with
      | true => rw [hb] at hid'; exact hid'
      | false => rw [hb] at hid'; exact ih hid'
  obtain ⟨m1, m2, e3, e4, _⟩ := hlook_split hid2
  have hmem := hlook_mem hit
  have hmem2 := hlook_mem hid
  obtain ⟨b, arr, clock, seen, hv, hbne, hwb, hok, hwi, hleft, hcur⟩ := hs.sat.holds _ hmem
  obtain ⟨hlt, hsv, _⟩ := hs.sat.holds _ hmem2
  have hsv' : H.sv id = H.sv it := hsv
  have hv' : H.sv id = .map (some b) := by rw [hsv', hv]
  have hsub : ∀ x ∈ m1 ++ m2, x ∈ s.σ := fun x hx => by
    have h1 : x ∈ hdel s.σ it := by
      rw [e3]
      rcases List.mem_append.1 hx with h | h <;> simp [h]
    rw [e2] at h1
    rw [e1]
    rcases List.mem_append.1 h1 with h | h <;> simp [h]
  have hbl : blks H (m1 ++ m2) = blks H (l1 ++ l2) := by
    rw [← e2, e3]
    simp [blks_append, blks_cons, blocks]
  have hnd := hs.sat.nodup
  rw [e1, blks_append, blks_cons] at hnd
  have n1 := List.nodup_append.1 hnd
  have n2 := List.nodup_append.1 n1.2.1
  have hbin : b ∈ blocks H (it, .mr kd es left cur) := by simp [blocks, hv, mapBlk]
  have hbo : b ∉ blks H (l1 ++ l2) := fun hb => by
    rw [blks_append] at hb
    rcases List.mem_append.1 hb with h1 | h1
    · exact n1.2.2 b h1 b (by simp [hbin]) rfl
    · exact n2.2.2 b hbin b h1 rfl
  have hbs : b ∈ blks H s.σ := by
    rw [e1, blks_append, blks_cons]
    simp [hbin]
  have hnew : blks H ((id, .mp kd es) :: (m1 ++ m2)) = b :: blks H (l1 ++ l2) := by
    rw [blks_cons, hbl]
    simp [blocks, hv', mapBlk]
  have hin : ∀ c ∈ blks H (l1 ++ l2), c ∈ blks H s.σ := fun c hc => by
    rw [e1, blks_append, blks_cons]
    rw [blks_append] at hc
    rcases List.mem_append.1 hc with h1 | h1 <;> simp [h1]
  refine ⟨H, hg, ⟨hs.n, ⟨hs.sat.ro, fun x hx => ?_, ?_, fun c hc => ?_, fun x hx => ?_⟩, ?_⟩, ⟨ha.env, ha.size, ha.defers⟩⟩
  · rw [e4] at hx
    rcases List.mem_cons.1 hx with rfl | hx
    · exact ⟨b, arr, clock, hv', hwb, hok⟩
    · exact hs.sat.holds x (hsub x hx)
  · rw [e4, hnew]
    refine List.nodup_cons.2 ⟨hbo, ?_⟩
    rw [blks_append]
    exact List.nodup_append.2 ⟨n1.1, n2.2.1, fun c hc d hd e => n1.2.2 c hc d (by simp [hd]) e⟩
  · rw [e4, hnew] at hc
    rcases List.mem_cons.1 hc with rfl | hc
    · exact hs.sat.free _ hbs
    · exact hs.sat.free _ (hin c hc)
  · rw [e4] at hx
    rcases List.mem_cons.1 hx with rfl | hx
    · exact hs.sat.ids (id, .itr it) hmem2
    · exact hs.sat.ids x (hsub x hx)
  · have hf := hs.fr
    refine ⟨hf.os, hf.tape, hf.output, hf.size, hf.keep, fun c hc => ?_, hf.fro, hf.le⟩
    rw [e4, hnew] at hc
    rcases List.mem_cons.1 hc with rfl | hc
    · exact hf.own _ hbs
    · exact hf.own _ (hin c hc)
end
end Go.GK
/-
  The ghost machine: maps given by lists of pairs, whose values are no own things.
-/
namespace Go.GK
open Go.RowKit
section
variable {α : Type}

def pfind (k : Value) : List (Value × α) → Option α
  | [] => none
  | (k', x) :: r => if vkey k k' = true then some x else pfind k r
def pput (k : Value) (x : α) : List (Value × α) → List (Value × α)
  | [] => [(k, x)]
  | (k', x') :: r => if vkey k k' = true then (k, x) :: r else (k', x') :: pput k x r
def pdel (k : Value) : List (Value × α) → List (Value × α)
  | [] => []
  | (k', x') :: r => if vkey k k' = true then r else (k', x') :: pdel k r
abbrev pes (enc : α → GV) (l : List (Value × α)) : List (Value × GV) := l.map fun x => (x.1, enc x.2)

theorem mfind_pes (enc : α → GV) (k : Value) : ∀ l : List (Value × α), mfind k (pes enc l) = (pfind k l).map enc
  | [] => rfl
  | (k', x) :: r => by
    show (if vkey k k' = true then some (enc x) else mfind k (pes enc r)) = (if vkey k k' = true then some x else pfind k r).map enc
    rw [mfind_pes enc k r]
    split <;> rfl
theorem mput_pes (enc : α → GV) (k : Value) (x : α) : ∀ l : List (Value × α), mput k (enc x) (pes enc l) = pes enc (pput k x l)
  | [] => rfl
  | (k', x') :: r => by
    show (if vkey k k' = true then (k, enc x) :: pes enc r else (k', enc x') :: mput k (enc x) (pes enc r)) = pes enc (if vkey k k' = true then (k, x) :: r else (k', x') :: pput k x r)
    rw [mput_pes enc k x r]
    split <;> rfl
theorem mdel_pes (enc : α → GV) (k : Value) : ∀ l : List (Value × α), mdel k (pes enc l) = pes enc (pdel k l)
  | [] => rfl
  | (k', x') :: r => by
    show (if vkey k k' = true then pes enc r else (k', enc x') :: mdel k (pes enc r)) = pes enc (if vkey k k' = true then r else (k', x') :: pdel k r)
    rw [mdel_pes enc k r]
    split <;> rfl
theorem idbM_pes (enc : α → GV) (n : Nat) (henc : ∀ x, idb n (enc x) = true) : ∀ l : List (Value × α), idbM n (pes enc l) = true
  | [] => rfl
  | (k, x) :: r => by
    show (idb n (enc x) && idbM n (pes enc r)) = true
    rw [idbM_pes enc n henc r, henc x]
    rfl
theorem renM_pes (enc : α → GV) (henc : ∀ x, idb 0 (enc x) = true) (f : Nat → Nat) (l : List (Value × α)) : renM f (pes enc l) = pes enc l := by
  unfold renM pes
  rw [List.map_map]
  exact List.map_congr_left fun x _ => by show (x.1, ren f (enc x.2)) = _; rw [ren_none f (henc x.2)]
theorem vkey_iff {kd : Option IntKind} {k k' : Value} (hk : sortB kd k = true) (hk' : sortB kd k' = true) : vkey k k' = true ↔ k = k' :=
  ⟨fun h => vkey_eq hk hk' h, fun h => by subst h; exact vkey_refl hk⟩
theorem pfind_put {kd : Option IntKind} {k k' : Value} (hk : sortB kd k = true) (hk' : sortB kd k' = true) (x : α) : ∀ l : List (Value × α), (∀ y ∈ l, sortB kd y.1 = true) → pfind k' (pput k x l) = if vkey k' k = true then some x else pfind k' l
  | [], _ => rfl
  | (q, y) :: r, hl => by
    have hq : sortB kd q = true := hl (q, y) (by simp)
    have ih := pfind_put hk hk' x r (fun z hz => hl z (by simp [hz]))
    show pfind k' (if vkey k q = true then (k, x) :: r else (q, y) :: pput k x r) = if vkey k' k = true then some x else (if vkey k' q = true then some y else pfind k' r)
    by_cases h : vkey k q = true
    · rw [if_pos h]
      have e : k = q := vkey_eq hk hq h
      show (if vkey k' k = true then some x else pfind k' r) = _
      by_cases h2 : vkey k' k = true
      · rw [if_pos h2, if_pos h2]
      · rw [if_neg h2, if_neg h2, ← e, if_neg h2]
    · rw [if_neg h]
      show (if vkey k' q = true then some y else pfind k' (pput k x r)) = _
      rw [ih]
      by_cases h2 : vkey k' k = true
      · rw [if_pos h2]
        have e : k' = k := vkey_eq hk' hk h2
        rw [e, if_neg h, if_pos (vkey_refl hk)]
      · rw [if_neg h2, if_neg h2]
theorem pput_keys {kd : Option IntKind} {k : Value} (hk : sortB kd k = true) (x : α) : ∀ l : List (Value × α), (∀ y ∈ l, sortB kd y.1 = true) → ∀ y ∈ pput k x l, sortB kd y.1 = true
  | [], _, y, hy => by
    rw [List.mem_singleton.1 hy]; exact hk
  | (q, z) :: r, hl, y, hy => by
    have hy' : y ∈ (if vkey k q = true then (k, x) :: r else (q, z) :: pput k x r) := hy
    by_cases h : vkey k q = true
    · rw [if_pos h] at hy'
      rcases List.mem_cons.1 hy' with rfl | hy'
      · exact hk
      · exact hl y (by simp [hy'])
    · rw [if_neg h] at hy'
      rcases List.mem_cons.1 hy' with rfl | hy'
      · exact hl (q, z) (by simp)
      · exact pput_keys hk x r (fun w hw => hl w (by simp [hw])) y hy'
theorem pdel_keys {kd : Option IntKind} (k : Value) : ∀ l : List (Value × α), (∀ y ∈ l, sortB kd y.1 = true) → ∀ y ∈ pdel k l, sortB kd y.1 = true
  | [], _, y, hy => by cases hy
  | (q, z) :: r, hl, y, hy => by
    have hy' : y ∈ (if vkey k q = true then r else (q, z) :: pdel k r) := hy
    by_cases h : vkey k q = true
    · rw [if_pos h] at hy'
      exact hl y (by simp [hy'])
    · rw [if_neg h] at hy'
      rcases List.mem_cons.1 hy' with rfl | hy'
      · exact hl (q, z) (by simp)
      · exact pdel_keys k r (fun w hw => hl w (by simp [hw])) y hy'
def pnodup (l : List (Value × α)) : Prop := (l.map (·.1)).Nodup
theorem pfind_none {kd : Option IntKind} {k : Value} (hk : sortB kd k = true) : ∀ {l : List (Value × α)}, (∀ y ∈ l, sortB kd y.1 = true) → (pfind k l = none ↔ k ∉ l.map (·.1))
  | [], _ => by simp [pfind]
  | (q, y) :: r, hl => by
    have hq : sortB kd q = true := hl (q, y) (by simp)
    have ih := pfind_none hk (l := r) (fun z hz => hl z (by simp [hz]))
    show (if vkey k q = true then some y else pfind k r) = none ↔ _
    by_cases h : vkey k q = true
    · rw [if_pos h]
      have e := vkey_eq hk hq h
      simp [e]
    · rw [if_neg h, ih]
      have e : k ≠ q := fun e => h (by subst e; exact vkey_refl hk)
      simp [e]
theorem pput_nodup {kd : Option IntKind} {k : Value} (hk : sortB kd k = true) (x : α) : ∀ {l : List (Value × α)}, (∀ y ∈ l, sortB kd y.1 = true) → pnodup l → pnodup (pput k x l) ∧ ∀ q ∈ (pput k x l).map (·.1), q = k ∨ q ∈ l.map (·.1)
  | [], _, _ => ⟨by simp [pput, pnodup], by simp [pput]⟩
  | (q, y) :: r, hl, hn => by
    have hq : sortB kd q = true := hl (q, y) (by simp)
    obtain ⟨hn1, hn2⟩ := List.nodup_cons.1 hn
    obtain ⟨i1, i2⟩ := pput_nodup hk x (l := r) (fun z hz => hl z (by simp [hz])) hn2
    have e0 : pput k x ((q, y) :: r) = if vkey k q = true then (k, x) :: r else (q, y) :: pput k x r := rfl
    rw [e0]
    by_cases h : vkey k q = true
    · rw [if_pos h]
      have e := vkey_eq hk hq h
      subst e
      exact ⟨hn, fun z hz => .inr hz⟩
    · rw [if_neg h]
      have hne : q ≠ k := fun e => h (by subst e; exact vkey_refl hk)
      refine ⟨List.nodup_cons.2 ⟨fun hm => ?_, i1⟩, fun z hz => ?_⟩
      · rcases i2 _ hm with h1 | h1
        · exact hne h1
        · exact hn1 h1
      · rcases List.mem_cons.1 hz with rfl | hz
        · exact .inr (by simp)
        · rcases i2 _ hz with h1 | h1
          · exact .inl h1
          · exact .inr (by simp at h1 ⊢; exact .inr h1)
theorem pdel_mem {k : Value} : ∀ {l : List (Value × α)}, ∀ y ∈ pdel k l, y ∈ l
  | (q, z) :: r, y, hy => by
    have hy' : y ∈ (if vkey k q = true then r else (q, z) :: pdel k r) := hy
    by_cases h : vkey k q = true
    · rw [if_pos h] at hy'
      exact List.mem_cons_of_mem _ hy'
    · rw [if_neg h] at hy'
      rcases List.mem_cons.1 hy' with rfl | hy'
      · exact List.mem_cons_self
      · exact List.mem_cons_of_mem _ (pdel_mem y hy')
theorem pdel_nodup {k : Value} : ∀ {l : List (Value × α)}, pnodup l → pnodup (pdel k l)
  | [], _ => by simp [pdel, pnodup]
  | (q, y) :: r, hn => by
    obtain ⟨hn1, hn2⟩ := List.nodup_cons.1 hn
    show pnodup (if vkey k q = true then r else (q, y) :: pdel k r)
    by_cases h : vkey k q = true
    · rw [if_pos h]; exact hn2
    · rw [if_neg h]
      refine List.nodup_cons.2 ⟨fun hm => ?_, pdel_nodup hn2⟩
      obtain ⟨z, hz, e⟩ := List.mem_map.1 hm
      exact hn1 (by rw [← e]; exact List.mem_map_of_mem (pdel_mem z hz))
theorem pfind_del {kd : Option IntKind} {k k' : Value} (hk : sortB kd k = true) (hk' : sortB kd k' = true) : ∀ {l : List (Value × α)}, (∀ y ∈ l, sortB kd y.1 = true) → pnodup l → pfind k' (pdel k l) = if vkey k' k = true then none else pfind k' l
  | [], _, _ => by show none = _; split <;> rfl
  | (q, y) :: r, hl, hn => by
    have hq : sortB kd q = true := hl (q, y) (by simp)
    have hr : ∀ z ∈ r, sortB kd z.1 = true := fun z hz => hl z (by simp [hz])
    obtain ⟨hn1, hn2⟩ := List.nodup_cons.1 hn
    have ih := pfind_del hk hk' hr hn2
    show pfind k' (if vkey k q = true then r else (q, y) :: pdel k r) = if vkey k' k = true then none else (if vkey k' q = true then some y else pfind k' r)
    by_cases h : vkey k q = true
    · rw [if_pos h]
      have e := vkey_eq hk hq h
      subst e
      by_cases h2 : vkey k' k = true
      · rw [if_pos h2]
        have e2 := vkey_eq hk' hk h2
        subst e2
        exact (pfind_none hk' hr).2 hn1
      · rw [if_neg h2, if_neg h2]
    · rw [if_neg h]
      show (if vkey k' q = true then some y else pfind k' (pdel k r)) = _
      rw [ih]
      by_cases h2 : vkey k' k = true
      · rw [if_pos h2]
        have e := vkey_eq hk' hk h2
        subst e
        rw [if_neg h, if_pos (vkey_refl hk')]
      · rw [if_neg h2, if_neg h2]
theorem pfind_mem {kd : Option IntKind} {k : Value} {x : α} (hk : sortB kd k = true) : ∀ {l : List (Value × α)}, (∀ y ∈ l, sortB kd y.1 = true) → pnodup l → (pfind k l = some x ↔ (k, x) ∈ l)
  | [], _, _ => by simp [pfind]
  | (q, y) :: r, hl, hn => by
    have hq : sortB kd q = true := hl (q, y) (by simp)
    obtain ⟨hn1, hn2⟩ := List.nodup_cons.1 hn
    have ih := pfind_mem (x := x) hk (l := r) (fun z hz => hl z (by simp [hz])) hn2
    show (if vkey k q = true then some y else pfind k r) = some x ↔ _
    by_cases h : vkey k q = true
    · rw [if_pos h]
      have e := vkey_eq hk hq h
      subst e
      constructor
      · intro h; cases h; simp
      · intro hm
        rcases List.mem_cons.1 hm with h1 | h1
        · cases h1; rfl
        · exact absurd (List.mem_map_of_mem (f := (·.1)) h1) hn1
    · rw [if_neg h, ih]
      have e : k ≠ q := fun e => h (by subst e; exact vkey_refl hk)
      simp [e]
end
end Go.GK
/-
  The ghost machine: own things packed behind one number.
-/
namespace Go.GK
open Go.RowKit

def packP (n : Nat) (τ : Heap) (fp : List Nat) (ro : Nat → Option Obj) (b : Nat) (v : Value) (w : World) : Prop :=
  ∃ Hl : Hid, Hl.n = n ∧ Hl.bl 0 = b ∧ Hl.sv 0 = v ∧ (∀ c o, Hl.ro c = some o → ro c = some o) ∧ (∀ x ∈ τ, holds Hl w x) ∧ (∀ x ∈ τ, x.1 < n) ∧ blks Hl τ = fp

def pack (n : Nat) (τ : Heap) (fp : List Nat) : Abs where
  P := packP n τ fp
  fp := fp
  ex := fun ro b v w h c hc => by
    obtain ⟨Hl, _, _, _, _, h1, _, rfl⟩ := h
    obtain ⟨x, hx, hcx⟩ := List.mem_flatMap.1 hc
    exact holds_lt (h1 x hx) c hcx
  congr := fun ro b v w w' hw h => by
    obtain ⟨Hl, e1, e2, e3, h1, h2, h3, rfl⟩ := h
    exact ⟨Hl, e1, e2, e3, h1, fun x hx => holds_congr (fun c hc => hw c (List.mem_flatMap.2 ⟨x, hx, hc⟩)) (h2 x hx), h3, rfl⟩
  mono := fun ro ro' b v w hro h => by
    obtain ⟨Hl, e1, e2, e3, h1, h⟩ := h
    exact ⟨Hl, e1, e2, e3, fun c o hc => hro c o (h1 c o hc), h⟩

def upf (id m : Nat) (i : Nat) : Nat := bif Nat.beq i 0 then id else m + i

theorem Sat.pack {H : Hid} {σ : Heap} {w : World} (h : Sat H σ w) {r : Nat → Nat} {n id : Nat} {τ : Heap} (hl : leσ r τ σ) (hb : idbH n τ = true) (hd : distB (hids r τ) = true) (h0 : r 0 = id) (hid : id < H.n) :
    ∃ fp, Sat H ((id, .ab (pack n τ fp)) :: hrest (hids r τ) σ) w ∧ ∀ b ∈ blks H ((id, .ab (GK.pack n τ fp)) :: hrest (hids r τ) σ), b ∈ blks H σ := by
  obtain ⟨hp, hpb⟩ := h.part hl hb hd
  have hbl : blks H ((id, .ab (GK.pack n τ (blks (H.via r n) τ))) :: hrest (hids r τ) σ) = blks (H.via r n) τ ++ blks H (hrest (hids r τ) σ) := by
    rw [blks_cons]; rfl
  have hin : ∀ b ∈ blks H ((id, .ab (GK.pack n τ (blks (H.via r n) τ))) :: hrest (hids r τ) σ), b ∈ blks H σ := fun b hb => by
    rw [hbl] at hb
    rcases List.mem_append.1 hb with hb | hb
    · obtain ⟨x, hx, _, hbx⟩ := hpb b hb
      exact List.mem_flatMap.2 ⟨x, hx, hbx⟩
    · obtain ⟨x, hx, hbx⟩ := List.mem_flatMap.1 hb
      exact List.mem_flatMap.2 ⟨x, (hrest_mem hx).1, hbx⟩
  refine ⟨blks (H.via r n) τ, ⟨h.ro, fun x hx => ?_, ?_, fun b hb => h.free b (hin b hb), fun x hx => ?_⟩, hin⟩
  · rcases List.mem_cons.1 hx with rfl | hx
    · exact ⟨H.via r n, rfl, by show H.bl (r 0) = _; rw [h0], by show H.sv (r 0) = _; rw [h0], fun _ _ h => h, hp.holds, hp.ids, rfl⟩
    · exact h.holds x (hrest_mem hx).1
  · rw [hbl]
    refine List.nodup_append.2 ⟨hp.nodup, hrest_nodup h.nodup, fun b hb c hc e => ?_⟩
    subst e
    obtain ⟨x, hx, hxi, hbx⟩ := hpb b hb
    obtain ⟨y, hy, hby⟩ := List.mem_flatMap.1 hc
    exact blks_apart h.nodup hx (hrest_mem hy).1 (fun e => (hrest_mem hy).2 (by rw [← e]; exact hxi)) b hbx hby
  · rcases List.mem_cons.1 hx with rfl | hx
    · exact hid
    · exact h.ids x (hrest_mem hx).1

section
variable {cx : Cx} {T : Post}

theorem JK.pack {k : List It} {s : St} (r : Nat → Nat) (n id : Nat) (τ : Heap) (hl : leσ r τ s.σ) (chk : (idbH n τ && distB (hids r τ) && Nat.beq (r 0) id && Nat.blt id s.n) = true)
    (h : ∀ fp, nfH ((id, .ab (GK.pack n τ fp)) :: hrest (hids r τ) s.σ) fun σ => JK cx T k ⟨s.ρ, σ, s.n⟩) : JK cx T k s := by
  simp only [Bool.and_eq_true] at chk
  obtain ⟨⟨⟨h1, h2⟩, h3⟩, h4⟩ := chk
  intro H a w hg hs ha
  obtain ⟨fp, hsat, hin⟩ := hs.sat.pack hl h1 h2 (beq_eq h3) (by rw [hs.n]; exact blt_lt h4)
  have hk := h fp
  rw [nfH_eq] at hk
  refine hk H a w hg ⟨hs.n, hsat, ?_⟩ ha
  have hf := hs.fr
  exact ⟨hf.os, hf.tape, hf.output, hf.size, hf.keep, fun c hc => hf.own c (hin c hc), hf.fro, hf.le⟩

theorem JK.unpack {k : List It} {s : St} (id : Nat) {n : Nat} {τ : Heap} {fp : List Nat} (hl : hlook s.σ id = some (.ab (GK.pack n τ fp)))
    (h : nfH (renH (upf id s.n) τ ++ hdel s.σ id) fun σ => nfN (s.n + n) fun m => JK cx T k ⟨s.ρ, σ, m⟩) : JK cx T k s := by
  rw [nfH_eq, nfN_eq] at h
  refine JK.upd _ (fun H a w hg hs ha => ?_) h
  obtain ⟨l1, l2, e1, e2, _⟩ := hlook_split hl
  have hmem := hlook_mem hl
  obtain ⟨Hl, hn, hb0, hv0, hro0, hh, hids, hfp⟩ := hs.sat.holds _ hmem
  have hidn : id < s.n := by rw [← hs.n]; exact hs.sat.ids _ hmem
  have hHn := hs.n
  let H' : Hid := { ro := H.ro, bl := fun i => if i < s.n then H.bl i else Hl.bl (i - s.n), sv := fun i => if i < s.n then H.sv i else Hl.sv (i - s.n), n := s.n + n }
  have hle : H.le H' := ⟨by show H.n ≤ s.n + n; omega, fun b o h => h, fun i hi => by show (if i < s.n then _ else _) = _; rw [if_pos (by omega)], fun i hi => by show (if i < s.n then _ else _) = _; rw [if_pos (by omega)]⟩
  have hf : ∀ i, i < Hl.n → upf id s.n i < H'.n ∧ H'.bl (upf id s.n i) = Hl.bl i ∧ H'.sv (upf id s.n i) = Hl.sv i := by
    intro i hi
    unfold upf
    cases hb : Nat.beq i 0 with
    | true =>
      have := beq_eq hb
      subst this
      simp only [cond_true]
      refine ⟨by show id < s.n + n; omega, ?_, ?_⟩
      · show (if id < s.n then H.bl id else _) = _
        rw [if_pos hidn, hb0]
      · show (if id < s.n then H.sv id else _) = _
        rw [if_pos hidn, hv0]
    | false =>
      simp only [cond_false]
      refine ⟨by show s.n + i < s.n + n; omega, ?_, ?_⟩
      · show (if s.n + i < s.n then _ else Hl.bl (s.n + i - s.n)) = _
        rw [if_neg (by omega), show s.n + i - s.n = i by omega]
      · show (if s.n + i < s.n then _ else Hl.sv (s.n + i - s.n)) = _
        rw [if_neg (by omega), show s.n + i - s.n = i by omega]
  have hro : ∀ b o, Hl.ro b = some o → H'.ro b = some o := hro0
  have hids' : ∀ x ∈ τ, x.1 < Hl.n := fun x hx => by rw [hn]; exact hids x hx
  have hb1 : blks H' (renH (upf id s.n) τ) = fp := (blks_renH (fun i hi => (hf i hi).2) hids').trans hfp
  have hsub : ∀ x ∈ l1 ++ l2, x ∈ s.σ := fun x hx => by
    rw [e1]
    rcases List.mem_append.1 hx with h | h <;> simp [h]
  have hb2 : blks H' (l1 ++ l2) = blks H (l1 ++ l2) := blks_le hle (fun x hx => hs.sat.ids x (hsub x hx))
  have hσ : blks H s.σ = blks H l1 ++ (fp ++ blks H l2) := by rw [e1, blks_append, blks_cons]; rfl
  have hin : ∀ b ∈ blks H' (renH (upf id s.n) τ ++ hdel s.σ id), b ∈ blks H s.σ := fun b hb => by
    rw [e2, blks_append, hb1, hb2, blks_append] at hb
    rw [hσ]
    simp only [List.mem_append] at hb ⊢
    rcases hb with h | h | h <;> simp [h]
  have hnd := hs.sat.nodup
  rw [hσ] at hnd
  refine ⟨H', hg.up (fun _ _ h => h), ⟨rfl, ⟨hs.sat.ro, fun x hx => ?_, ?_, fun b hb => hs.sat.free b (hin b hb), fun x hx => ?_⟩, ?_⟩, ha.mono hle⟩
  · rcases List.mem_append.1 hx with hx | hx
    · obtain ⟨y, hy, rfl⟩ := mem_renH hx
      exact holds_ren hro hf (hids' y hy) (hh y hy)
    · rw [e2] at hx
      exact holds_le hle (hs.sat.ids x (hsub x hx)) (hs.sat.holds x (hsub x hx))
  · show (blks H' (renH (upf id s.n) τ ++ hdel s.σ id)).Nodup
    rw [e2, blks_append, hb1, hb2, blks_append]
    have hperm : (blks H l1 ++ (fp ++ blks H l2)).Perm (fp ++ (blks H l1 ++ blks H l2)) := by
      rw [← List.append_assoc, ← List.append_assoc]
      exact List.Perm.append_right _ List.perm_append_comm
    exact hperm.nodup_iff.1 hnd
  · rcases List.mem_append.1 hx with hx | hx
    · obtain ⟨y, hy, rfl⟩ := mem_renH hx
      exact (hf _ (hids' y hy)).1
    · rw [e2] at hx
      exact Nat.lt_of_lt_of_le (hs.sat.ids x (hsub x hx)) hle.n
  · have hfr := hs.fr
    exact ⟨hfr.os, hfr.tape, hfr.output, hfr.size, hfr.keep, fun c hc => hfr.own c (hin c hc), hfr.fro, hfr.le.trans hle⟩
end

theorem leσ_cons0 {A : Abs} {σ : Heap} : ∀ l : Heap, memB 0 (hids id l) = false → leσ id l σ → leσ id l ((0, .ab A) :: σ)
  | [], _, _ => trivial
  | (j, y) :: r, hm, hl => by
    simp only [hids, memB, Bool.or_eq_false_iff] at hm
    refine ⟨?_, leσ_cons0 r hm.2 hl.2⟩
    show (bif Nat.beq 0 (id j) then _ else hlook σ (id j)) = _
    rw [hm.1]
    exact hl.1

theorem Hf.pack {p : Pg} {f : FuncId} {n0 : Nat} {args : List GV} {σ : Heap} {Q Q' : GV → Heap → Nat → Prop} (h : Hf p f n0 args σ Q)
    (hQ : ∀ g σ' n', Q g σ' n' → ∃ rest, (Nat.blt 0 n0 && Nat.ble n0 n' && idb n0 g && idbH n0 rest && distB (0 :: hids id rest)) = true ∧
      ((∃ (r : Nat → Nat) (n : Nat) (τ : Heap), leσ r τ σ' ∧ leσ id rest (hrest (hids r τ) σ') ∧ (idbH n τ && distB (hids r τ) && Nat.beq (r 0) 0) = true ∧ ∀ fp, Q' g ((0, .ab (GK.pack n τ fp)) :: rest) n0) ∨
       ∃ A, hlook σ' 0 = some (.ab A) ∧ leσ id rest σ' ∧ Q' g ((0, .ab A) :: rest) n0)) : Hf p f n0 args σ Q' := by
  refine ⟨h.call, ?_⟩
  have key : Ct p f n0 args σ (fun g σ' n' => ∃ rest A, hlook σ' 0 = some (.ab A) ∧ leσ id rest σ' ∧ (Nat.blt 0 n0 && Nat.ble n0 n' && idb n0 g && idbH n0 rest && distB (0 :: hids id rest)) = true ∧ Q' g ((0, .ab A) :: rest) n0) := by
    intro H us w hn hg hc hs
    refine Calls.mono (h.ct H us w hn hg hc hs) (fun e w' he => ?_)
    obtain ⟨u, g, H', σ', rfl, hi, hs', hfr, hq⟩ := he
    obtain ⟨rest, hchk, hq⟩ := hQ g σ' _ hq
    rcases hq with ⟨r, n, τ, h1, h2, hchk2, h3⟩ | ⟨A, h1, h2, h3⟩
    · have hc1 := hchk
      simp only [Bool.and_eq_true] at hchk hchk2
      obtain ⟨⟨⟨⟨c4, c5⟩, c6⟩, c7⟩, c8⟩ := hchk
      obtain ⟨⟨c1, c2⟩, c3⟩ := hchk2
      have hn' := Nat.le_of_ble_eq_true c5
      have h00 := blt_lt c4
      obtain ⟨fp, hsat, hin⟩ := hs'.pack h1 c1 c2 (beq_eq c3) (by omega)
      simp only [distB, Bool.and_eq_true, Bool.not_eq_true'] at c8
      refine ⟨u, g, H', _, rfl, hi, hsat, ?_, rest, _, rfl, leσ_cons0 rest c8.1 h2, hc1, h3 fp⟩
      exact ⟨hfr.os, hfr.tape, hfr.output, hfr.size, hfr.keep, fun c hc => hfr.own c (hin c hc), hfr.fro, hfr.le⟩
    · exact ⟨u, g, H', σ', rfl, hi, hs', hfr, rest, A, h1, h2, hchk, h3⟩
  refine key.weak fun g σ' n' hq => ?_
  obtain ⟨rest, A, hh, hl, hchk, hq⟩ := hq
  simp only [Bool.and_eq_true] at hchk
  obtain ⟨⟨⟨⟨c4, c5⟩, c6⟩, c7⟩, c8⟩ := hchk
  have hfix : ∀ n, fixB id n = true := fun n => by
    induction n with
    | zero => rfl
    | succ n ih => simp [fixB, ih]
  refine ⟨id, g, (0, .ab A) :: rest, n0, hq, (ren_id g).symm, ⟨hh, hl⟩, ?_⟩
  simp only [idbH, idbR, Bool.and_eq_true]
  exact ⟨⟨⟨⟨c6, ⟨⟨c4, trivial⟩, c7⟩⟩, c8⟩, hfix n0⟩, by rw [Nat.ble_eq]; exact Nat.le_refl n0⟩

theorem Hf.eqG {p : Pg} {f : FuncId} {n0 : Nat} {args : List GV} {σ : Heap} {g : GV} {R : Heap → Nat → Prop} (h : Hf p f n0 args σ fun g' σ' n' => GK.eqG g g' ∧ R σ' n') : Hf p f n0 args σ fun g' σ' n' => g' = g ∧ R σ' n' := by
  refine ⟨h.call, fun H us w hn hg hc hs => ?_⟩
  refine Calls.mono (h.ct H us w hn hg hc hs) (fun e w' he => ?_)
  obtain ⟨u, g', H', σ', rfl, hi, hs', hfr, he, hR⟩ := he
  exact ⟨u, g, H', σ', rfl, eqG_is he hi, hs', hfr, rfl, hR⟩

theorem hset_look {σ : Heap} {id : Nat} {x : Res} (h : hlook σ id = some x) (y : Res) : hlook (hset σ id y) id = some y := by
  induction σ with
  | nil => cases h
  | cons z r ih =>
    obtain ⟨s, g⟩ := z
    unfold hset
    unfold hlook at h
    cases hb : Nat.beq s id with
    | true => simp only [cond_true]; unfold hlook; rw [hb]; rfl
    | false =>
      rw [hb] at h
      simp only [cond_false] at h ⊢
      unfold hlook
      rw [hb]
      exact ih h
theorem hset_other {σ : Heap} {id j : Nat} {y : Res} (hne : Nat.beq id j = false) : hlook (hset σ id y) j = hlook σ j := by
  induction σ with
  | nil => rfl
  | cons z r ih =>
    obtain ⟨s, g⟩ := z
    unfold hset
    cases hb : Nat.beq s id with
    | true =>
      have := beq_eq hb
      subst this
      simp only [cond_true]
      unfold hlook
      rw [hne]; rfl
    | false =>
      simp only [cond_false]
      unfold hlook
      rw [ih]

theorem Hf.recell {p : Pg} {f : FuncId} {n0 : Nat} {args : List GV} {σ : Heap} {Q Q' : GV → Heap → Nat → Prop} (h : Hf p f n0 args σ Q) (id : Nat)
    (hQ : ∀ g σ' n', Q g σ' n' → ∃ ty cs cs', hlook σ' id = some (.blk ty cs) ∧ eqGs cs' cs ∧ Q' g (hset σ' id (.blk ty cs')) n') : Hf p f n0 args σ Q' := by
  refine ⟨h.call, fun H us w hn hg hc hs => ?_⟩
  refine Calls.mono (h.ct H us w hn hg hc hs) (fun e w' he => ?_)
  obtain ⟨u, g, H', σ', rfl, hi, hs', hfr, hq⟩ := he
  obtain ⟨ty, cs, cs', hl, he, hq'⟩ := hQ g σ' _ hq
  obtain ⟨l1, l2, e1, _, e3⟩ := hlook_split hl
  have e3 := e3 (.blk ty cs')
  have hin : ∀ x ∈ hset σ' id (.blk ty cs'), x = (id, .blk ty cs') ∨ x ∈ σ' := fun x hx => by
    rw [e3] at hx
    rw [e1]
    rcases List.mem_append.1 hx with h | h
    · exact .inr (by simp [h])
    · rcases List.mem_cons.1 h with h | h
      · exact .inl h
      · exact .inr (by simp [h])
  have hb : blks H' (hset σ' id (.blk ty cs')) = blks H' σ' := by rw [e3, e1, blks_append, blks_append, blks_cons, blks_cons]; rfl
  refine ⟨u, g, H', _, rfl, hi, ⟨hs'.ro, fun x hx => ?_, by rw [hb]; exact hs'.nodup, by rw [hb]; exact hs'.free, fun x hx => ?_⟩, by rw [hb]; exact hfr, hq'⟩
  · rcases hin x hx with rfl | hx
    · obtain ⟨us', hw, hlen, his⟩ := hs'.holds _ (hlook_mem hl)
      obtain ⟨e4, e5⟩ := eqGs_is (F := fun j => us'.getD j undef) cs' cs he his
      exact ⟨us', hw, by rw [e4]; exact hlen, e5⟩
    · exact hs'.holds x hx
  · rcases hin x hx with rfl | hx
    · exact hs'.ids (id, .blk ty cs) (hlook_mem hl)
    · exact hs'.ids x hx
section
variable {cx : Cx} {T : Post}
theorem JK.recell {k : List It} {s : St} (id : Nat) {ty : Nat} {cs : List GV} (cs' : List GV) (hl : hlook s.σ id = some (.blk ty cs)) (he : eqGs cs' cs) (h : nfH (hset s.σ id (.blk ty cs')) fun σ => JK cx T k ⟨s.ρ, σ, s.n⟩) : JK cx T k s := by
  rw [nfH_eq] at h
  refine JK.upd ⟨s.ρ, hset s.σ id (.blk ty cs'), s.n⟩ (fun H a w hg hs ha => ⟨H, hg, ?_, ha⟩) h
  obtain ⟨us', hw, hlen, his⟩ := hs.sat.holds _ (hlook_mem hl)
  obtain ⟨e4, e5⟩ := eqGs_is (F := fun j => us'.getD j undef) cs' cs he his
  exact hs.put (y := .blk ty cs') (w' := w) hl rfl rfl rfl rfl (Nat.le_refl _) (fun _ _ _ => rfl) ⟨us', hw, by rw [e4]; exact hlen, e5⟩ s.ρ
end
end Go.GK
/-
  strings.Builder: the shelf's walks once more, with what they change told exactly (one block, and its row of bytes).
-/
set_option linter.unusedVariables false
namespace Go.Lib
section
variable {P : Program} (w : World)
theorem ownsRowF_low {w : World} {base : Nat} {e : TypeId} {size : Nat} {v : Value} {n : Nat} {xs : List Value} (h : w.ownsRowF base e size v n xs) : w.ownsRowF 0 e size v n xs := by
  refine ⟨h.1, ?_⟩
  rcases h.2 with h | ⟨g, cap, cur, fz, h1, h2, h3⟩
  · exact .inl h
  · exact .inr ⟨g, cap, cur, fz, h1, Nat.zero_le _, h3⟩
theorem run_append_own_stringF_at (t u ty e : TypeId) (i : TypeInfo) (ht : P.underlying t = some (.slice e)) (hu : P.underlying u = some .string) (hi : P.info? e = some i) (hz : i.zero = some (.int .u8 0))
    (hsize : i.size = 1) (hby : i.bytes = 1)
    (v : Value) (n : Nat) (xs : List Value) (hown : w.ownsRowF 0 e 1 v n xs) (s : ByteArray)
    (h63 : n + s.size ≤ maxLen) (hbytes : n + s.size ≤ 140737488355328) :
    ∃ v' w', (Builtin.append_ #[t, u] ty #[v, .string s]).run P w = .ok v' w' ∧ w'.ownsRowF 0 e 1 v' (n + s.size) (xs ++ strCells s) ∧ w.grownBy w' v.ownBlock ∧
      (v' = .slice none 0 0 ↔ v = .slice none 0 0 ∧ s.size = 0) ∧ ∀ g, v'.ownBlock = some g → v.ownBlock = some g ∨ w.heap.size ≤ g := by
  rcases hown.2 with ⟨rfl, rfl⟩ | ⟨g, cap, cur, fz, rfl, hbg, hg, hfz, hnc, hcm, hcs, htake⟩
  · -- no row yet
    obtain ⟨v', w', h1, h2, h3, h4⟩ := run_append_own_string (P := P) w w.heap.size t u ty e i ht hu hi hz hsize hby (.slice none 0 0) 0 xs ⟨hown.1, .inl ⟨rfl, rfl⟩⟩ s h63 hbytes (Nat.le_refl _)
    exact ⟨v', w', h1, ownsRowF_low (World.ownsRowF_of h2), h3, h4, fun g hg => .inr ((World.ownsRowF_of h2).lt g hg).1⟩
  · have hsmall : n + s.size ≤ 9223372036854775807 := by simp only [maxLen] at h63; omega
    have hxl : xs.length = n := by simpa using hown.1
    have hlen : (xs ++ strCells s).length = (n + s.size) * 1 := by rw [List.length_append, hxl, strCells_length, Nat.mul_one]
    by_cases hroom : n + s.size ≤ cap
    · have hcs' : cur.size = cap := by simpa using hcs
      have hr := run_append_room_stringF (P := P) w t u ty e i ht hu hi hsize g n cap cur fz hg (by simpa using hfz) s hroom (by omega)
      refine ⟨_, _, hr, ⟨hlen, .inr ⟨g, cap, _, fz, rfl, hbg, setRow_heap w g cur _ e _ hg, by omega, hroom, hcm, ?_, ?_⟩⟩, ⟨rfl, rfl, rfl, by simp, fun k _ hk => setRow_other w g k _ (fun e => hk (by simp [Value.ownBlock, e]))⟩, by simp, fun g' hg' => .inl hg'⟩
      · simp only [List.size_toArray, List.length_append, List.length_take, List.length_drop, Array.length_toList, strCells_length]
        omega
      · have ht' : cur.toList.take n = xs := by simpa using htake
        rw [ht', ← hlen]
        exact List.take_left
    · have holds : ∀ j u, xs[j]? = some u → w.cell? ((⟨g, 0, none⟩ : Addr).add j) = some u := hown.cells (g := g) rfl
      have hr := run_append_grow_string (P := P) w t u ty e i (.int .u8 0) ht hu hi hz ⟨g, 0, none⟩ n cap xs (by rw [hsize]; simpa using hxl) holds s (by omega) (by omega) (by rw [hby]; exact growslice_fits (by omega) (by omega))
      have hge := grownCap_ge w (n + s.size) cap e
      have hcm2 : grownCap w (n + s.size) cap e ≤ maxLen := grownCap_le_maxLen w (n + s.size) cap e h63
      refine ⟨_, _, hr, ⟨hlen, .inr ⟨w.heap.size, _, _, (0, 0), rfl, Nat.zero_le _, heap_alloc_new w.drew _, Nat.zero_le _, hge, hcm2, ?_, ?_⟩⟩, ⟨rfl, rfl, rfl, by simp, fun k hk _ => by first | exact heap_alloc_old w.drew _ k hk | exact heap_alloc_old w.drew _ hk⟩, by simp, fun g' hg' => .inr (by simp [Value.ownBlock] at hg'; omega)⟩
      · have hz1 : (Value.int IntKind.u8 0).cells.size = 1 := rfl
        simp only [Array.size_append, List.size_toArray, size_zeroCells, hz1, hxl, strCells_length]
        omega
      · simp only [Array.toList_append, List.append_assoc]
        rw [← List.append_assoc, ← hlen]
        exact List.take_left
theorem wpList_append_own_stringF_at {ops : Array Oper} {rest : List Oper} {o : Oper} {a : Act} {Q : Exit → Act → World → Prop} (hgd : o.guard = none) (sl x : Operand) (t u : TypeId)
    (ho : o.op = .call { callee := .builtin .append, args := #[sl, x], argTypes := #[t, u] })
    (e : TypeId) (i : TypeInfo) (ht : P.underlying t = some (.slice e)) (hu : P.underlying u = some .string) (hi : P.info? e = some i) (hz : i.zero = some (.int .u8 0))
    (hsize : i.size = 1) (hby : i.bytes = 1)
    (v : Value) (n : Nat) (xs : List Value) (hs : a.eval sl = v) (hown : w.ownsRowF 0 e 1 v n xs) (s : ByteArray) (hx : a.eval x = .string s)
    (h63 : n + s.size ≤ maxLen) (hbytes : n + s.size ≤ 140737488355328)
    (h : ∀ v' w', w'.ownsRowF 0 e 1 v' (n + s.size) (xs ++ strCells s) → w.grownBy w' v.ownBlock → (v' = .slice none 0 0 ↔ v = .slice none 0 0 ∧ s.size = 0) → (∀ g, v'.ownBlock = some g → v.ownBlock = some g ∨ w.heap.size ≤ g) → wpList P ops Q rest (a.put o.dst v') w') : wpList P ops Q (o :: rest) a w := by
  refine wpList_plain hgd fun K hK => ?_
  obtain ⟨v', w', hr, h2, h3, h4, h5⟩ := run_append_own_stringF_at (P := P) w t u o.type e i ht hu hi hz hsize hby v n xs hown s h63 hbytes
  unfold Oper.wp execOp
  simp only [ho, resolve, invoke, builtin, Sem.run_bind, Sem.run_pure, Result.andThen_ok, List.map_toArray, List.map_cons, List.map_nil, hs, hx, hr]
  exact hK _ _ (h v' w' h2 h3 h4 h5)
end
def Bld (T e : TypeId) (b : Nat) (u : Value) (bs : List Value) (w : World) : Prop :=
  ∃ p, w.heap[b]? = some (.cells #[p, u] T (0, 0)) ∧ (p = .pointer none ∨ p = .pointer (some ⟨b, 0, none⟩)) ∧ w.ownsRowF 0 e 1 u bs.length bs ∧ (bs = [] → u = .slice none 0 0)
structure BldFr (b : Nat) (u u' : Value) (w w' : World) : Prop where
  os : w'.os = w.os
  tape : w'.tape = w.tape
  output : w'.output = w.output
  size : w.heap.size ≤ w'.heap.size
  keep : ∀ k, k < w.heap.size → k ≠ b → u.ownBlock ≠ some k → w'.heap[k]? = w.heap[k]?
  own : ∀ g, u'.ownBlock = some g → u.ownBlock = some g ∨ w.heap.size ≤ g
end Go.Lib
namespace Go.Proofs
open Go.Shelf Go.RowKit
variable {P : Program} {ρ : Ren}
structure Lib.Asid (p : Prop) : Prop where
  out : p
structure Lib.CcAt (T e : TypeId) (b : Nat) (u : Value) (bs : List Value) (w w1 : World) : Prop where
  hb : w1.heap[b]? = some (.cells #[.pointer (some ⟨b, 0, none⟩), u] T (0, 0))
  own : w1.ownsRowF 0 e 1 u bs.length bs
  os : w1.os = w.os
  tape : w1.tape = w.tape
  output : w1.output = w.output
  size : w1.heap.size = w.heap.size
  keep : ∀ k, k ≠ b → w1.heap[k]? = w.heap[k]?
  nil : bs = [] → u = .slice none 0 0
  ne : u.ownBlock ≠ some b
theorem Any.Bld_copyCheck (L : Lays.n240 P ρ) (X : Builder.Extra P ρ) (b : Nat) (u : Value) (bs : List Value) (w : World) (h : Lib.Bld (ρ.t 72) (ρ.t 5) b u bs w) :
    Calls P (ρ.f 240) #[.pointer (some ⟨b, 0, none⟩)] w fun e w1 => e = .returned (.tuple #[]) ∧ Lib.CcAt (ρ.t 72) (ρ.t 5) b u bs w w1 := by
  obtain ⟨p, hbk, hp, hown, hnil⟩ := h
  have hne : u.ownBlock ≠ some b := Lib.ownBlock_neF hown hbk X.neB5
  rcases hp with rfl | rfl
  · refine (Any.Builder_copyCheck_fresh L X.toX72 b w (by rw [Lib.cell_of_heap hbk]; rfl) (by simp [World.shape?, hbk]) (Lib.frozen_of_heap hbk 0)).mono ?_
    rintro e w' ⟨rfl, rfl⟩
    have hk : ∀ k, k ≠ b → (w.setCell ⟨b, 0, none⟩ (.pointer (some ⟨b, 0, none⟩))).heap[k]? = w.heap[k]? := fun k hk => Below.heap_setCell _ _ _ _ hk
    exact ⟨rfl, by simp [World.setCell, Array.getElem?_modify, hbk], hown.kept (row := some b) ⟨rfl, rfl, rfl, by simp [World.setCell], fun k _ hkb => hk k (fun e => hkb (by rw [e]))⟩ (Or.inr hne), rfl, rfl, rfl, by simp [World.setCell], hk, hnil, hne⟩
  · refine (Any.Builder_copyCheck_used L X.toX72 b w (by rw [Lib.cell_of_heap hbk]; rfl)).mono ?_
    rintro e w' ⟨rfl, rfl⟩
    exact ⟨rfl, hbk, hown, rfl, rfl, rfl, rfl, fun _ _ => rfl, hnil, hne⟩
set_option maxHeartbeats 2000000 in
set_option maxRecDepth 100000 in
theorem Any.Bld_WriteString (L : Lays.n166 P ρ) (X : Builder.Extra P ρ) (b : Nat) (u : Value) (bs : List Value) (s : ByteArray) (w : World) (h : Lib.Bld (ρ.t 72) (ρ.t 5) b u bs w) (hlen : bs.length + s.size ≤ 140737488355328) :
    Calls P (ρ.f 166) #[.pointer (some ⟨b, 0, none⟩), .string s] w fun e w' => e = .returned (.tuple #[.int .i64 s.size, .nilIface]) ∧ ∃ u', Lib.Bld (ρ.t 72) (ρ.t 5) b u' (bs ++ Lib.strCells s) w' ∧ Lib.BldFr b u u' w w' := by
  obtain ⟨i0, hi, hz0, hz1, hz2⟩ := info_parts X.infoByte
  have mixed := L.mixed
  have t72 := L.t72; have a72 := L.a72; have z72 := L.z72; have v72 := L.v72; have u72 := run_underlying L.t72
  have t70 := L.t70; have a70 := L.a70; have z70 := L.z70; have v70 := L.v70; have u70 := run_underlying L.t70
  have t37 := L.t37; have a37 := L.a37; have z37 := L.z37; have v37 := L.v37; have u37 := run_underlying L.t37
  have t3 := L.t3; have a3 := L.a3; have z3 := L.z3; have v3 := L.v3; have u3 := run_underlying L.t3
  have t9 := L.t9; have a9 := L.a9; have z9 := L.z9; have v9 := L.v9; have u9 := run_underlying L.t9
  have t4 := L.t4; have a4 := L.a4; have z4 := L.z4; have v4 := L.v4; have u4 := run_underlying L.t4
  have t164 := L.t164; have a164 := L.a164; have z164 := L.z164; have v164 := L.v164; have u164 := run_underlying L.t164
  have t5 := X.t5; have a5 := X.a5; have z5 := X.z5; have v5 := X.v5; have u5 := run_underlying X.t5
  have e240 : ∀ args w, (callFunc (ρ.f 240) args).run P w = .ok (.enter (ρ.f 240) args) w := enters_of L.f240 (by kernel_rfl) rfl
  go_enter L.f166, Body.n166_ntmps ρ
  go_wp2_with (go_at_fn (ρ.f 240); refine (Any.Bld_copyCheck { L with } X b u bs _ h).mono ?_)
  rintro e w1 ⟨rfl, H1⟩
  have hbk := H1.hb
  have hown := H1.own
  have c0 : w1.cell? ⟨b, 0, none⟩ = some (.pointer (some ⟨b, 0, none⟩)) := by rw [Lib.cell_of_heap hbk]; rfl
  have c1 : w1.cell? ⟨b, 1, none⟩ = some u := by rw [Lib.cell_of_heap hbk]; rfl
  go_wp2_with (at_builtin; refine Lib.wpList_append_own_stringF_at _ rfl _ _ (ρ.t 37) (ρ.t 9) rfl (ρ.t 5) i0 L.t37 L.t9 hi hz0 hz1 hz2 _ _ _ rfl hown s rfl ?c3 ?c4 ?_)
  case c3 => unfold maxLen; omega
  case c4 => omega
  intro v' w2 hown' hgrow hnl hat
  have hlt : b < w1.heap.size := (Array.getElem?_eq_some_iff.1 hbk).1
  have hb2 : w2.heap[b]? = some (.cells #[.pointer (some ⟨b, 0, none⟩), u] (ρ.t 72) (0, 0)) := by
    rw [hgrow.block b hlt (fun e => H1.ne e.symm)]
    exact hbk
  have d0 : w2.cell? ⟨b, 0, none⟩ = some (.pointer (some ⟨b, 0, none⟩)) := by rw [Lib.cell_of_heap hb2]; rfl
  have d1 : w2.cell? ⟨b, 1, none⟩ = some u := by rw [Lib.cell_of_heap hb2]; rfl
  have f1 : w2.frozen? ⟨b, 1, none⟩ = false := Lib.frozen_of_heap hb2 1
  obtain ⟨ao, n', cap, rfl⟩ : ∃ ao n' cap, v' = .slice ao n' cap := by
    rcases hown'.2 with ⟨hv, _⟩ | ⟨g, cap, cur, fz, hv, _⟩
    · exact ⟨_, _, _, hv⟩
    · exact ⟨_, _, _, hv⟩
  have HN := Lib.Asid.mk (And.intro hnl hat)
  clear hnl hat
  go_wp2
  go_ret2
  obtain ⟨hnl, hat⟩ := HN.out
  have hlen' : (bs ++ Lib.strCells s).length = bs.length + s.size := by rw [List.length_append, Lib.strCells_length]
  obtain ⟨_, v2, hb3, hown3, _⟩ := Lib.BuilderAtF.put (T := (ρ.t 72)) (e := (ρ.t 5)) (B := 0) (Nat.zero_le b) hb2 (bs' := bs ++ Lib.strCells s) (by rw [hlen']; exact hown') X.neB5
  have hb4 : (w2.setCell ⟨b, 1, none⟩ (.slice ao n' cap)).heap[b]? = some (.cells #[.pointer (some ⟨b, 0, none⟩), .slice ao n' cap] (ρ.t 72) (0, 0)) := by simp [World.setCell, Array.getElem?_modify, hb2]
  rw [hb4] at hb3
  have ev : v2 = .slice ao n' cap := by simp at hb3; exact hb3.symm
  subst ev
  have hsz := H1.size
  refine ⟨rfl, _, ⟨_, hb4, .inr rfl, hown3, fun he => ?_⟩, ⟨hgrow.os.trans H1.os, hgrow.tape.trans H1.tape, hgrow.output.trans H1.output, ?_, fun k hk hkb hku => ?_, fun g hg => ?_⟩⟩
  · have h1 : bs = [] ∧ Lib.strCells s = [] := List.append_eq_nil_iff.1 he
    have hs0 : s.size = 0 := by rw [← Lib.strCells_length, h1.2]; rfl
    exact hnl.2 ⟨H1.nil h1.1, by first | exact hs0 | simpa using hs0⟩
  · have := hgrow.size
    simp only [World.setCell, Array.size_modify]
    omega
  · rw [Below.heap_setCell _ _ _ _ hkb, hgrow.block k (by omega) (fun e => hku e.symm), H1.keep k hkb]
  · rcases hat g hg with h | h
    · exact .inl h
    · exact .inr (by omega)
set_option maxHeartbeats 2000000 in
set_option maxRecDepth 100000 in
theorem Any.Bld_String (L : Lays.n169 P ρ) (X : Builder.Extra P ρ) (b : Nat) (u : Value) (l : List UInt8) (w : World) (h : Lib.Bld (ρ.t 72) (ρ.t 5) b u (Lib.byteCells l) w) :
    Calls P (ρ.f 169) #[.pointer (some ⟨b, 0, none⟩)] w fun e w' => e = .returned (.string ⟨l.toArray⟩) ∧ Lib.BldFr b u (.slice none 0 0) w w' := by
  obtain ⟨p, hbk, hp, hown, hnil⟩ := h
  have hUS0 := Any.unsafeString_none L X
  have mixed := L.mixed
  have t72 := L.t72; have a72 := L.a72; have z72 := L.z72; have v72 := L.v72; have u72 := run_underlying L.t72
  have t70 := L.t70; have a70 := L.a70; have z70 := L.z70; have v70 := L.v70; have u70 := run_underlying L.t70
  have t37 := L.t37; have a37 := L.a37; have z37 := L.z37; have v37 := L.v37; have u37 := run_underlying L.t37
  have t127 := L.t127; have a127 := L.a127; have z127 := L.z127; have v127 := L.v127; have u127 := run_underlying L.t127
  have t3 := L.t3; have a3 := L.a3; have z3 := L.z3; have v3 := L.v3; have u3 := run_underlying L.t3
  have t9 := L.t9; have a9 := L.a9; have z9 := L.z9; have v9 := L.v9; have u9 := run_underlying L.t9
  have t5 := X.t5; have a5 := X.a5; have z5 := X.z5; have v5 := X.v5; have u5 := run_underlying X.t5
  by_cases h0 : l = []
  · subst h0
    obtain rfl := hnil rfl
    have c1 : w.drew.cell? ⟨b, 1, none⟩ = some (.slice none 0 0) := by
      have : w.drew.heap[b]? = some (.cells #[p, .slice none 0 0] (ρ.t 72) (0, 0)) := hbk
      rw [Lib.cell_of_heap this]; rfl
    have hUS := hUS0
    have hSD : (Builtin.unsafeSliceData_ #[(ρ.t 37)] (ρ.t 127) #[.slice none 0 0]).run P w.drew = .ok (.pointer none) w.drew := rfl
    go_enter L.f169, Body.n169_ntmps ρ
    go_wp2
    go_region_o
    all_goals (go_wp2; go_ret; exact ⟨rfl, ⟨rfl, rfl, rfl, Nat.le_refl _, fun _ _ _ _ => rfl, fun g hg => by simp [Value.ownBlock] at hg⟩⟩)
  · have hl0 : l.length ≠ 0 := by simpa using h0
    rw [Lib.byteCells_length] at hown
    obtain ⟨g, cap, cur, fz, rfl, hbg, hg, hfz, hnc, hcm, hcs, htake⟩ : ∃ g cap cur fz, u = .slice (some ⟨g, 0, none⟩) l.length cap ∧ 0 ≤ g ∧ w.heap[g]? = some (.cells cur (ρ.t 5) fz) ∧ fz.2 ≤ l.length * 1 ∧ l.length ≤ cap ∧ cap ≤ maxLen ∧ cur.size = cap * 1 ∧ cur.toList.take (l.length * 1) = Lib.byteCells l := by
      rcases hown.2 with ⟨_, hz⟩ | ⟨g, cap, cur, fz, hv, r⟩
      · exact absurd hz hl0
      · exact ⟨g, cap, cur, fz, hv, r⟩
    have c1 : w.drew.cell? ⟨b, 1, none⟩ = some (.slice (some ⟨g, 0, none⟩) l.length cap) := by
      have : w.drew.heap[b]? = some (.cells #[p, .slice (some ⟨g, 0, none⟩) l.length cap] (ρ.t 72) (0, 0)) := hbk
      rw [Lib.cell_of_heap this]; rfl
    have hSD : (Builtin.unsafeSliceData_ #[(ρ.t 37)] (ρ.t 127) #[.slice (some ⟨g, 0, none⟩) l.length cap]).run P w.drew = .ok (.pointer (some ⟨g, 0, none⟩)) w.drew :=
      Lib.run_unsafeSliceData_row _ _ _ _ _ _ (by omega)
    have hUS : (Builtin.unsafeString_ #[(ρ.t 127), (ρ.t 3)] (ρ.t 9) #[.pointer (some ⟨g, 0, none⟩), .int .i64 l.length]).run P w.drew = .ok (.string ⟨l.toArray⟩) (w.drew.freeze ⟨g, 0, none⟩ l.length) := by
      refine Lib.run_unsafeString_row w.drew (ρ.t 127) (ρ.t 3) (ρ.t 9) (ρ.t 5) L.t127 X.cellsByte g cur.size (by have hg' : w.drew.heap[g]? = some (.cells cur (ρ.t 5) fz) := hg; simp [World.shape?, hg']) l h0 (by omega) (by unfold maxLen at hcm; omega) ?_
      intro j x hx
      have := hown.cells (g := g) rfl j (.int .u8 x.toNat) (by simp [Lib.byteCells, hx])
      exact this
    have hfrz : ∀ k, k ≠ g → (w.drew.freeze ⟨g, 0, none⟩ l.length).heap[k]? = w.heap[k]? := fun k hk => by
      unfold World.freeze
      rw [if_neg hl0]
      simp only [Array.getElem?_modify]
      rw [if_neg (fun e => hk e.symm)]
      rfl
    have hfo : (w.drew.freeze ⟨g, 0, none⟩ l.length).os = w.os ∧ (w.drew.freeze ⟨g, 0, none⟩ l.length).tape = w.tape ∧ (w.drew.freeze ⟨g, 0, none⟩ l.length).output = w.output ∧ (w.drew.freeze ⟨g, 0, none⟩ l.length).heap.size = w.heap.size := by
      unfold World.freeze
      rw [if_neg hl0]
      refine ⟨rfl, rfl, rfl, ?_⟩
      simp only [Array.size_modify]
      rfl
    have hfin : Lib.BldFr b (.slice (some ⟨g, 0, none⟩) l.length cap) (.slice none 0 0) w (w.drew.freeze ⟨g, 0, none⟩ l.length) :=
      ⟨hfo.1, hfo.2.1, hfo.2.2.1, Nat.le_of_eq hfo.2.2.2.symm, fun k _ _ hku => hfrz k (fun e => hku (by simp [Value.ownBlock, e])), fun g' hg' => by simp [Value.ownBlock] at hg'⟩
    go_enter L.f169, Body.n169_ntmps ρ
    go_wp2
    go_region_o
    all_goals (go_wp2; go_ret; exact ⟨rfl, hfin⟩)
end Go.Proofs
/-
  The ghost machine: calls on one packed thing, off the shelf; a strings.Builder.
-/
namespace Go.GK
open Go.RowKit

theorem Hf.abs {p : Pg} {f : FuncId} {vs : List Value} {A : Abs} {R : Abs → Prop} {r : Value} (hc : ∀ xs w, (callFunc f xs).run p.P w = .ok (.enter f xs) w)
    (h : ∀ ro b v w, A.P ro b v w → Calls p.P f (.pointer (some ⟨b, 0, none⟩) :: vs).toArray w fun e w' => e = .returned r ∧ ∃ A', R A' ∧ A'.P ro b v w' ∧ A'.fp.Nodup ∧ (∀ g ∈ A'.fp, g ∈ A.fp ∨ w.heap.size ≤ g) ∧
      w'.os = w.os ∧ w'.tape = w.tape ∧ w'.output = w.output ∧ w.heap.size ≤ w'.heap.size ∧ ∀ k, k < w.heap.size → k ∉ A.fp → w'.heap[k]? = w.heap[k]?) :
    Hf p f 1 (.p 0 0 :: vs.map .v) [(0, .ab A)] fun g σ n => g = .v r ∧ (∃ A', R A' ∧ σ = [(0, .ab A')]) ∧ n = 1 := by
  refine ⟨hc, fun H us w hn hg hcs hs => ?_⟩
  obtain ⟨hl, hi⟩ := hcs
  have hu : us = (.pointer (some ⟨H.bl 0, 0, none⟩) :: vs).toArray := by
    refine Array.ext (by simpa using hl.symm) (fun i h1 h2 => ?_)
    have eg : us.getD i undef = us[i] := by rw [Array.getD, dif_pos h1]; rfl
    cases i with
    | zero =>
      have := (hi 0 (.p 0 0) rfl).inv_p
      rw [eg] at this
      simpa using this.1
    | succ i =>
      have h2' : i < vs.length := by simpa using h2
      have := (hi (i + 1) (.v vs[i]) (by simp [h2'])).inv_v
      rw [eg] at this
      simpa using this
  subst hu
  have hA := hs.holds (0, .ab A) (by simp)
  have hid : (0 : Nat) < H.n := hs.ids (0, .ab A) (by simp)
  refine Calls.mono (h H.ro (H.bl 0) (H.sv 0) w hA) (fun e w' he => ?_)
  obtain ⟨rfl, A', hR, hP, hnd, hown, h1, h2, h3, h4, h5⟩ := he
  have hfree : ∀ b ∈ A.fp, H.ro b = none := fun b hb => hs.free b (by simpa [blks, blocks] using hb)
  refine ⟨r, .v r, H, [(0, .ab A')], rfl, .ro (.v r), ⟨fun b o hr => ?_, ?_, by simpa [blks, blocks] using hnd, fun b hb => ?_, by simpa using hid⟩, ?_, rfl, ⟨A', hR, rfl⟩, hn⟩
  · have ho := hs.ro b o hr
    rw [h5 b (Array.getElem?_eq_some_iff.1 ho).1 (fun hb => by rw [hfree b hb] at hr; cases hr)]
    exact ho
  · intro y hy
    simp only [List.mem_singleton] at hy
    subst hy
    exact hP
  · have hb' : b ∈ A'.fp := by simpa [blks, blocks] using hb
    rcases hown b hb' with h | h
    · exact hfree b h
    · exact hs.none_size b h
  · refine ⟨h1, h2, h3, h4, fun b hb hb2 => h5 b hb (fun hm => hb2 (by simpa [blks, blocks] using hm)), fun b hb => ?_, fun b h1 h2 => (h2 h1).elim, Hid.le.refl H⟩
    have hb' : b ∈ A'.fp := by simpa [blks, blocks] using hb
    rcases hown b hb' with h | h
    · exact .inl (by simpa [blks, blocks] using h)
    · exact .inr h
theorem Hf.abs0 {p : Pg} {f : FuncId} {vs : List Value} {A : Abs} {r : Value} (hc : ∀ xs w, (callFunc f xs).run p.P w = .ok (.enter f xs) w)
    (h : ∀ ro b v w, A.P ro b v w → Calls p.P f (.pointer (some ⟨b, 0, none⟩) :: vs).toArray w fun e w' => e = .returned r ∧
      w'.os = w.os ∧ w'.tape = w.tape ∧ w'.output = w.output ∧ w.heap.size ≤ w'.heap.size ∧ ∀ k, k < w.heap.size → k ∉ A.fp → w'.heap[k]? = w.heap[k]?) :
    Hf p f 1 (.p 0 0 :: vs.map .v) [(0, .ab A)] fun g σ n => g = .v r ∧ σ = [] ∧ n = 1 := by
  let E : Abs := ⟨fun _ _ _ _ => True, [], fun _ _ _ _ _ c hc => (List.not_mem_nil hc).elim, fun _ _ _ _ _ _ h => h, fun _ _ _ _ _ _ h => h⟩
  have key := Hf.abs (p := p) (vs := vs) (A := A) (R := fun _ => True) (r := r) hc fun ro b v w hP => (h ro b v w hP).mono fun e w' ⟨h1, h2, h3, h4, h5, h6⟩ => ⟨h1, E, trivial, trivial, by simp [E], by simp [E], h2, h3, h4, h5, h6⟩
  refine key.weak fun g σ' n' ⟨h1, _, h3⟩ => ⟨id, g, [], 1, ⟨h1, rfl, rfl⟩, (ren_id g).symm, trivial, ?_⟩
  subst h1
  rfl

def bld (T e : TypeId) (bs : List Value) (fp : List Nat) : Abs where
  P := fun _ b _ w => ∃ u, Lib.Bld T e b u bs w ∧ T ≠ e ∧ fp = b :: u.ownBlock.toList
  fp := fp
  ex := fun ro b v w h c hc => by
    obtain ⟨u, ⟨p, hb, hp, hown, _⟩, hne, rfl⟩ := h
    rcases List.mem_cons.1 hc with rfl | hc
    · exact (Array.getElem?_eq_some_iff.1 hb).1
    · exact (hown.lt c (by simpa using hc)).2
  congr := fun ro b v w w' hw h => by
    obtain ⟨u, ⟨p, hb, hp, hown, hnil⟩, hne, rfl⟩ := h
    refine ⟨u, ⟨p, (hw b (by simp)).trans hb, hp, ?_, hnil⟩, hne, rfl⟩
    refine ⟨hown.1, ?_⟩
    rcases hown.2 with h | ⟨g, cap, cur, fz, hv, h0, hg, r⟩
    · exact .inl h
    · exact .inr ⟨g, cap, cur, fz, hv, h0, (hw g (by simp [hv, Value.ownBlock])).trans hg, r⟩
  mono := fun ro ro' b v w _ h => h

theorem bld_nodup {T e : TypeId} {b : Nat} {u : Value} {bs : List Value} {w : World} (h : Lib.Bld T e b u bs w) (hne : T ≠ e) : (b :: u.ownBlock.toList).Nodup := by
  obtain ⟨p, hb, _, hown, _⟩ := h
  have := Lib.ownBlock_neF hown hb hne
  cases hu : u.ownBlock with
  | none => simp
  | some g =>
    rw [hu] at this
    simp only [Option.toList_some, List.nodup_cons, List.mem_singleton, List.not_mem_nil, not_false_eq_true, List.nodup_nil, and_true]
    exact fun e => this (by rw [e])
section
variable {cx : Cx} {T : Post}
theorem JK.bld {k : List It} {s : St} (id : Nat) {ty e : TypeId} (hne : ty ≠ e) (hl : hlook s.σ id = some (.blk ty [.v (.pointer none), .v (.slice none 0 0)]))
    (h : ∀ fp, nfH (hset s.σ id (.ab (GK.bld ty e [] fp))) fun σ => JK cx T k ⟨s.ρ, σ, s.n⟩) : JK cx T k s := by
  intro H a w hg hs ha
  have hk := h [H.bl id]
  rw [nfH_eq] at hk
  refine hk H a w hg ?_ ha
  obtain ⟨us, hw, hlen, hi⟩ := hs.sat.holds _ (hlook_mem hl)
  have hus : us = #[.pointer none, .slice none 0 0] := by
    have := cells_vals (vs := [.pointer none, .slice none 0 0]) (us := us) ⟨hlen, hi⟩
    simpa using this
  subst hus
  exact hs.put (y := .ab (GK.bld ty e [] [H.bl id])) (w' := w) hl rfl rfl rfl rfl (Nat.le_refl _) (fun _ _ _ => rfl)
    ⟨.slice none 0 0, ⟨.pointer none, hw, .inl rfl, World.ownsRowF_nil w 0 e 1, fun _ => rfl⟩, hne, rfl⟩ s.ρ
end
open Go.Shelf Go.Proofs in
theorem bld_writeString {p : Pg} {ρ : Ren} (L : Lays.n166 p.P ρ) (X : Builder.Extra p.P ρ) (hc : ∀ xs w, (callFunc (ρ.f 166) xs).run p.P w = .ok (.enter (ρ.f 166) xs) w) (bs : List Value) (fp : List Nat) (s : ByteArray) (hlen : bs.length + s.size ≤ 140737488355328) :
    Hf p (ρ.f 166) 1 [.p 0 0, .v (.string s)] [(0, .ab (bld (ρ.t 72) (ρ.t 5) bs fp))] fun g σ n => g = .v (.tuple #[.int .i64 s.size, .nilIface]) ∧ (∃ fp', σ = [(0, .ab (bld (ρ.t 72) (ρ.t 5) (bs ++ Lib.strCells s) fp'))]) ∧ n = 1 := by
  have key := Hf.abs (p := p) (vs := [.string s]) (A := bld (ρ.t 72) (ρ.t 5) bs fp) (R := fun A' => ∃ fp', A' = bld (ρ.t 72) (ρ.t 5) (bs ++ Lib.strCells s) fp') (r := .tuple #[.int .i64 s.size, .nilIface]) hc fun ro b v w hP => by
    obtain ⟨u, hB, hne, rfl⟩ := hP
    refine (Any.Bld_WriteString L X b u bs s w hB hlen).mono fun e w' ⟨h1, u', hB', hF⟩ => ?_
    refine ⟨h1, bld (ρ.t 72) (ρ.t 5) (bs ++ Lib.strCells s) (b :: u'.ownBlock.toList), ⟨_, rfl⟩, ⟨u', hB', hne, rfl⟩, bld_nodup hB' hne, fun g hg => ?_, hF.os, hF.tape, hF.output, hF.size, fun k hk hm => ?_⟩
    · rcases List.mem_cons.1 hg with rfl | hg
      · exact .inl (List.mem_cons_self)
      · rcases hF.own g (by simpa using hg) with h | h
        · exact .inl (List.mem_cons_of_mem _ (by simp [h]))
        · exact .inr h
    · exact hF.keep k hk (fun e => hm (by rw [e]; exact List.mem_cons_self)) (fun e => hm (List.mem_cons_of_mem _ (by simp [e])))
  refine key.weak fun g σ' n' ⟨h1, ⟨A', ⟨fp', hA⟩, h3⟩, h4⟩ => ?_
  subst h1 h3 h4 hA
  exact ⟨id, _, _, 1, ⟨rfl, ⟨fp', rfl⟩, rfl⟩, rfl, ⟨rfl, trivial⟩, rfl⟩
open Go.Shelf Go.Proofs in
theorem bld_string {p : Pg} {ρ : Ren} (L : Lays.n169 p.P ρ) (X : Builder.Extra p.P ρ) (hc : ∀ xs w, (callFunc (ρ.f 169) xs).run p.P w = .ok (.enter (ρ.f 169) xs) w) (l : List UInt8) (fp : List Nat) :
    Hf p (ρ.f 169) 1 [.p 0 0] [(0, .ab (bld (ρ.t 72) (ρ.t 5) (Lib.byteCells l) fp))] fun g σ n => g = .v (.string ⟨l.toArray⟩) ∧ σ = [] ∧ n = 1 :=
  Hf.abs0 (p := p) (vs := []) hc fun ro b v w hP => by
    obtain ⟨u, hB, hne, rfl⟩ := hP
    exact (Any.Bld_String L X b u l w hB).mono fun e w' ⟨h1, hF⟩ => ⟨h1, hF.os, hF.tape, hF.output, hF.size, fun k hk hm => hF.keep k hk (fun e => hm (by rw [e]; exact List.mem_cons_self)) (fun e => hm (List.mem_cons_of_mem _ (by simp [e])))⟩

section
variable {cx : Cx} {T : Post}
theorem RA.goH {ops : List Oper} {k : List It} {σs : Heap} {ρq : Env} {fuel : Nat} {listed : List Bool} {s : St} (i : Nat) (order : List (Nat × Bool)) (e : Bool) {o : Oper} {f : FuncId} {n0 : Nat} {cargs gs : List GV} {σc : Heap} {Q : GV → Heap → Nat → Prop} (hp : cx.pg.Ok) (hsel : Region.noSelect ops.toArray = true) (hT : ∀ ch s, ¬ T (.panic ch) s) (hr : Hf cx.pg f n0 cargs σc Q) (r : Nat → Nat) (hi : ops[i]? = some o) (hk : callG cx.pg ops s.ρ o = some (f, gs)) (hargs : gs = renL r cargs) (hσ : leσ r σc s.σ)
    (chk : (idbL n0 cargs && idbH n0 σc && distB (hids r σc)) = true) (hrn : ∀ i, i < n0 → r i < s.n)
    (hB : (eqB (Region.ready .any ops.toArray listed.toArray) [i] && ordB ops e order (listed.set i true)) = true)
    (h : ∀ g σ' n', Q g σ' n' → nf (ren (sh r n0 s.n) g) fun g => nfH (renH (sh r n0 s.n) σ' ++ hrest (hids r σc) s.σ) fun σ => nfN (s.n + (n' - n0)) fun n => nfE (qput ρq o.dst g) fun ρq => dputV cx.N s.ρ o.dst g fun ρ' => rvc cx T ops k σs e order fuel (listed.set i true) ρq ⟨ρ', σ, n⟩) : RA cx T ops k σs ρq (fuel + 1) listed s := by
  obtain ⟨fo, args, ts, first, caps, gs', ho', hgd, hf, he, hargs'⟩ := callG_spec hk
  simp only [Bool.and_eq_true] at hB
  refine RA.call (n0 := n0) (r := r) (σc := σc) i hr.ct hr.call hi (eqB_eq hB.1) hgd ho' hf he (hargs'.trans hargs) hσ chk hrn ?_
  intro g σ' n' hq
  have := h g σ' n' hq
  rw [nf_eq, nfH_eq, nfN_eq, nfE_eq] at this ⊢
  revert this
  cases o.dst with
  | none => exact fun h => RA.run hp hsel hT order hB.2 h
  | some d =>
    simp only [dputV, dput]
    cases Nat.blt d cx.N with
    | false => exact fun h => h
    | true => simp only [cond_true, nf_eq]; exact fun h => RA.run hp hsel hT order hB.2 h
end
end Go.GK
/-
  The ghost machine: make of a slice whose elements take one cell.
-/
namespace Go.GK
open Go.RowKit
section
variable {cx : Cx} {T : Post}
theorem made_one {z : Array Value} {zv : Value} (h : z.toList = [zv]) (n : Nat) : (madeCells z (n * 1)).toList = List.replicate n zv := by
  obtain ⟨z⟩ := z
  simp only at h
  subst h
  unfold madeCells
  refine List.ext_getElem? fun i => ?_
  rw [Array.getElem?_toList, Array.getElem?_map, List.getElem?_replicate]
  by_cases hi : i < n
  · rw [if_pos hi]
    simp [hi, Nat.mod_one]
  · rw [if_neg hi]
    simp [hi]
theorem JK.mkSlice {all : List Oper} {o : Oper} {rest : List Oper} {k : List It} {s : St} {t e : TypeId} {lo co : Operand} {ti tie : TI} {zv : Value} {n : Nat} (hp : cx.pg.Ok) (ho : o.op = .makeSlice t lo co) (hgd : gdOk all s.ρ o.guard = true)
    (ht : tget cx.pg.tt t = some ti) (htd : ti.d = .slice e) (hte : tget cx.pg.tt e = some tie) (hsz : tie.sz = 1) (hz : tie.zero = [zv]) (hone : zv.oneCell' = true) (hl : ev cx.pg s.ρ lo = some (.v (.int .i64 (n : Int)))) (hc : ev cx.pg s.ρ co = some (.v (.int .i64 (n : Int)))) (hn : n ≤ 16777216) (hby : tie.by_ * n ≤ 281474976710656)
    (h : nfN (s.n + 1) fun m => dput cx.N s.ρ o.dst (.o s.n) fun ρ' => JK cx T (.ops false all rest :: k) ⟨ρ', (s.n, .row e 1 (List.replicate n [.v zv])) :: s.σ, m⟩) : JK cx T (.ops false all (o :: rest) :: k) s := by
  rw [nfN_eq] at h
  intro H a w hg hs ha
  have hw := gdOk_wanted (o := o) ha.env hgd
  have hu : cx.pg.P.underlying t = some (.slice e) := by have := (hp.tt _ _ ht).d; rw [htd] at this; exact this
  obtain ⟨i, z, hi, hisz, hiby, hiz, hzc, _⟩ := (hp.tt _ _ hte).info
  have hlv := (ev_is hg ha.env hl).inv_v
  have hcv := (ev_is hg ha.env hc).inv_v
  have hm : n ≤ maxLen := by unfold maxLen; omega
  obtain ⟨w', hr, hown, hgrow⟩ := run_makeSlice_full (P := cx.pg.P) w 0 t e i z 1 hu hi hiz (hisz.trans hsz) .i64 .i64 n (by omega) (by rw [hiby]; exact hby) hm (Nat.zero_le _)
  rw [made_one (zv := zv) (by rw [hzc, hz])] at hown
  have hle := H.le_more w.heap.size (.slice (some ⟨w.heap.size, 0, none⟩) n n)
  have esv : (H.more w.heap.size (.slice (some ⟨w.heap.size, 0, none⟩) n n)).sv s.n = .slice (some ⟨w.heap.size, 0, none⟩) n n := by simp [Hid.more, hs.n]
  have hbel : Below w.heap.size w w' := ⟨hgrow.os, hgrow.tape, hgrow.output, hgrow.size, fun b hb => hgrow.block b hb (by simp)⟩
  have hs1 := fun ρ => hs.grow (r := .row e 1 (List.replicate n [.v zv])) (w' := w') hle rfl (by simp [Hid.more, hs.n]) hbel (by
    refine ⟨List.replicate n zv, ?_, ?_, fun row hr => ?_, fun i row hr j g hj => ?_, fun u hu => ?_⟩
    · rw [esv, List.length_replicate]; exact hown
    · simp
    · rw [(List.mem_replicate.1 hr).2]; rfl
    · rw [List.getElem?_replicate] at hr
      split at hr
      · rename_i hi
        cases hr
        cases j with
        | zero => simp at hj; subst hj; exact ⟨zv, by simp [hi], .v zv⟩
        | succ j => simp at hj
      · cases hr
    · rw [(List.mem_replicate.1 hu).2]; exact hone) (by simp [blocks, esv, Value.ownBlock]) (by simp [blocks, esv, Value.ownBlock]) ρ
  have hrun : (execOp a.eval o).run cx.pg.P w = .ok (.value (.slice (some ⟨w.heap.size, 0, none⟩) n n)) w' := by
    simp only [execOp, ho, hlv, hcv, Sem.run_bind, hr]
    rfl
  obtain ⟨ρ', ha', hJ⟩ := (ha.mono hle).dput (u := .slice (some ⟨w.heap.size, 0, none⟩) n n) (.o (by simp [Hid.more, hs.n]) esv rfl) h
  exact wpList_run hw hrun (hJ _ (a.put o.dst _) w' (hg.mono hle) (hs1 ρ') ha')
end
end Go.GK
/-
  The ghost machine: a region that draws its order, two of whose operations that make memory may come up at once; its end told once.
-/
namespace Go.GK
open Go.RowKit
section
variable {cx : Cx} {T : Post}

def Stp (cx : Cx) (T : Post) (ops : List Oper) (k : List It) (σs : Heap) (ρq : Env) (fuel : Nat) (listed : List Bool) (s : St) (i : Nat) (o : Oper) : Prop :=
  ops[i]? = some o ∧ gdOk ops s.ρ o.guard = true ∧ ∀ (n0 : Nat) (H0 : Hid) (S0 : List Nat) (w0 : World) (h0 : H0.n = n0) (g0 : GlOk cx.pg H0) (H : Hid) (a : Act) (w : World) (K : Act → World → Prop) (Q' : Exit → Act → World → Prop), GlOk cx.pg H → Sim ⟨cx.pg, cx.N, n0, H0, S0, w0, h0, g0⟩ H s w → ActOk cx H s.ρ a → Sat H (s.σ ++ σs) w →
      (∀ (H' : Hid) (u : Value) (g : GV) (w' : World) (s' : St) (ρ' : Env), H.le H' → Is H' g u → Sim ⟨cx.pg, cx.N, n0, H0, S0, w0, h0, g0⟩ H' { s' with ρ := ρ' } w' → ActOk cx H' ρ' (a.put o.dst u) → (∀ d, o.dst = some d → d < cx.N) → RA cx T ops k σs (qput ρq o.dst g) fuel (listed.set i true) { s' with ρ := ρ' } → K (a.put o.dst u) w') →
      o.wp cx.pg.P a w K Q'

theorem RA.both {ops : List Oper} {k : List It} {σs : Heap} {ρq : Env} {fuel : Nat} {listed : List Bool} {s : St} (i j : Nat) {oi oj : Oper} (hr : Region.ready .any ops.toArray listed.toArray = [i, j])
    (hi : Stp cx T ops k σs ρq fuel listed s i oi) (hj : Stp cx T ops k σs ρq fuel listed s j oj) : RA cx T ops k σs ρq (fuel + 1) listed s := by
  have one : ∀ {q : Nat} {o : Oper}, Stp cx T ops k σs ρq fuel listed s q o → ∀ (n0 : Nat) (H0 : Hid) (S0 : List Nat) (w0 : World) (h0 : H0.n = n0) (g0 : GlOk cx.pg H0), Sat H0 σs w0 → (∀ b ∈ blks H0 σs, b ∉ S0) → (∀ b ∈ S0, H0.ro b = none) →
      (∀ H s' w', Sim ⟨cx.pg, cx.N, n0, H0, S0, w0, h0, g0⟩ H s' w' → Sim cx H ⟨s'.ρ, s'.σ ++ σs, s'.n⟩ w') →
      ∀ H a w, Sim ⟨cx.pg, cx.N, n0, H0, S0, w0, h0, g0⟩ H s w → ActOk cx H s.ρ a → EnvOk (H.at H0.ro) ρq a →
      wpOp cx.pg.P ops.toArray (cont cx.pg.P (post cx T) k) q (fun a w => Held S0 w0 w ∧ wpAnyH cx.pg.P .any ops.toArray (cont cx.pg.P (post cx T) k) (Held S0 w0) fuel (listed.toArray.setIfInBounds q true) a w) a w := by
    intro q o hst n0 H0 S0 w0 h0 g0 hσ hap hfree hlink H a w hs ha hq
    obtain ⟨hq', hgd, h⟩ := hst
    unfold wpOp
    have hi' : ops.toArray[q]? = some o := by simpa using hq'
    rw [hi']
    simp only
    have hw := gdOk_wanted (o := o) ha.env hgd
    rw [if_pos hw]
    refine .inl (h n0 H0 S0 w0 h0 g0 H a w _ _ (g0.mono hs.fr.le) hs ha (hlink H s w hs).sat fun H' u g w' s' ρ' hle hi hs' ha' hd hra => ?_)
    rw [set_list]
    refine ⟨hs'.keeps, hra n0 H0 S0 w0 h0 g0 hσ hap hfree hlink H' (a.put o.dst u) w' hs' ha' ?_⟩
    exact EnvOk.at_put (H := H) hq hle (fun d hdd => by rw [ha.size]; exact hd d hdd) hi
  intro n0 H0 S0 w0 h0 g0 hσ hap hfree hlink H a w hs ha hq
  refine wpAnyH_all hr (by simp) (fun q hq' => ?_)
  rcases List.mem_cons.1 hq' with rfl | hq'
  · exact one hi n0 H0 S0 w0 h0 g0 hσ hap hfree hlink H a w hs ha hq
  · obtain rfl := List.mem_singleton.1 hq'
    exact one hj n0 H0 S0 w0 h0 g0 hσ hap hfree hlink H a w hs ha hq

theorem Stp.mem {ops : List Oper} {k : List It} {σs : Heap} {ρq : Env} {fuel : Nat} {listed : List Bool} {s : St} (i : Nat) {o : Oper} (hp : cx.pg.Ok) (hi : ops[i]? = some o) (hgd : gdOk ops s.ρ o.guard = true) (hpu : isPure o.op = false)
    (h : goVC cx false s o (fun s' => RA cx T ops k σs (qput ρq o.dst (match s'.ρ with | (_, g) :: _ => g | [] => .v undef)) fuel (listed.set i true) s') (fun _ => False) s.ρ) : Stp cx T ops k σs ρq fuel listed s i o := by
  refine ⟨hi, hgd, fun n0 H0 S0 w0 h0 g0 H a w K Q' hg hs ha _ hK => ?_⟩
  have ha' : ActOk ⟨cx.pg, cx.N, n0, H0, S0, w0, h0, g0⟩ H s.ρ a := ⟨ha.env, ha.size, ha.defers⟩
  have h' : goVC ⟨cx.pg, cx.N, n0, H0, S0, w0, h0, g0⟩ false s o (fun s' => RA cx T ops k σs (qput ρq o.dst (match s'.ρ with | (_, g) :: _ => g | [] => .v undef)) fuel (listed.set i true) s') (fun _ => False) s.ρ := h
  rcases go_mem (cx := ⟨cx.pg, cx.N, n0, H0, S0, w0, h0, g0⟩) hp hg hs ha' hpu h' with hl | ⟨H', u, g, w', s0, hle, hrun, hi, hd, hsim⟩
  · exact hl.elim
  · refine upon_value_wp hrun ?_
    have hlt := dput_lt hd
    cases hdst : o.dst with
    | none =>
      rw [hdst] at hd
      have h1 := hK H' u g w' s0 s.ρ hle hi (hsim s.ρ) (by rw [hdst]; exact ha.mono hle) hlt (by rw [hdst]; exact hd)
      rw [hdst] at h1
      exact h1
    | some d =>
      rw [hdst] at hd
      simp only [dput, nf_eq] at hd
      have hdl := hlt d hdst
      have hb : Nat.blt d cx.N = true := by rw [Nat.blt_eq]; exact hdl
      rw [hb] at hd
      have hput : ActOk cx H' ((d, g) :: s.ρ) (a.put (some d) u) := ⟨(ha.mono hle).env.put (by rw [ha.size]; exact hdl) hi, by simp [Act.put, ha.size], by simp [Act.put, ha.defers]⟩
      have h1 := hK H' u g w' s0 ((d, g) :: s.ρ) hle hi (hsim _) (by rw [hdst]; exact hput) hlt (by rw [hdst]; exact hd)
      rw [hdst] at h1
      exact h1

theorem JK.drawJ {id : Nat} {ops : Array Oper} {k : List It} {s : St} (M : List Nat) (I : St) (hp : cx.pg.Ok) (hk : JK cx T k I)
    (h : JK cx T k I → RA cx T ops.toList k (hrest M s.σ ++ lns (hsel M s.σ)) s.ρ ops.toList.length (List.replicate ops.toList.length false) ⟨s.ρ, hsel M s.σ, s.n⟩) : JK cx T (.code (.region id ops true) :: k) s :=
  JK.draw M hp (h hk)
theorem RA.endJ {ops : List Oper} {k : List It} {σs : Heap} {ρq : Env} {fuel : Nat} {listed : List Bool} {s I : St} (f : Nat → Nat) (hr : eqB (Region.ready .any ops.toArray listed.toArray) [] = true) (hk : JK cx T k I) (hl : Le cx.n0 f I ⟨s.ρ, s.σ ++ σs, s.n⟩) : RA cx T ops k σs ρq fuel listed s :=
  RA.done (eqB_eq hr) (JK.weaken f I hl hk)

def cutT {α : Type} (cx : Cx) (T : Post) (k : List It) (I : α → St) (pre : α → Prop) : Post := fun e s =>
  match e with
  | .normal => ∃ (y : α) (f : Nat → Nat), Le cx.n0 f (I y) s ∧ pre y
  | e => outT cx T k e s
theorem JK.cut {α : Type} {c : Code} {k : List It} {s : St} (I : α → St) (pre : α → Prop) (hb : JK cx (cutT cx T k I pre) [.code c] s) (hk : ∀ x, pre x → JK cx T k (I x)) : JK cx T (.code c :: k) s := by
  intro H a w hg hs ha
  have h1 := hb H a w hg hs ha
  have hgx : ∀ {H' : Hid}, Hid.le cx.H0 H' → GlOk cx.pg H' := fun hle => cx.g0.mono hle
  refine Code.wp_mono (fun e a' w' hq => ?_) h1
  obtain ⟨H', s', hs', ha', hT⟩ := hq
  cases e with
  | normal =>
    obtain ⟨y, f, hl, hpy⟩ := hT
    obtain ⟨H2, hg2, hs2, ha2⟩ := GK.weaken (hgx hs'.fr.le) hs' ha' hl
    exact hk y hpy H2 a' w' hg2 hs2 ha2
  | exit id => exact cont_out (hgx hs'.fr.le) hs' ha' hT
  | goto l => exact cont_out (hgx hs'.fr.le) hs' ha' hT
  | ret => exact cont_out (hgx hs'.fr.le) hs' ha' hT
  | panic ch => exact cont_out (hgx hs'.fr.le) hs' ha' hT
  | outgrown => exact cont_out (hgx hs'.fr.le) hs' ha' hT
end
end Go.GK
/-
  The ghost machine: a value that is told otherwise (a nil slice as an empty one that is only read).
-/
namespace Go.GK
open Go.RowKit
def Sub (g' g : GV) : Prop := ∀ {H : Hid} {u : Value}, Is H g u → Is H g' u
theorem Sub.rfl {g : GV} : Sub g g := fun h => h
theorem Sub.nil (sz : Nat) : Sub (.sl sz []) (.v (.slice none 0 0)) := fun {H u} h => by
  rw [h.inv_v]
  exact .ro .slnil
theorem Sub.tup2 {a a' b b' : GV} (ha : Sub a' a) (hb : Sub b' b) : Sub (.tup [a', b']) (.tup [a, b]) := fun {H u} h => by
  obtain ⟨us, rfl, hl, hi⟩ := h.inv_tup
  refine .tup hl fun j g hj => ?_
  match j with
  | 0 => simp at hj; subst hj; exact ha (hi 0 a _root_.rfl)
  | 1 => simp at hj; subst hj; exact hb (hi 1 b _root_.rfl)
  | j + 2 => simp at hj
theorem Hf.imp {p : Pg} {f : FuncId} {n0 : Nat} {args : List GV} {σ : Heap} {Q Q' : GV → Heap → Nat → Prop} (h : Hf p f n0 args σ Q) (hQ : ∀ g σ' n', Q g σ' n' → Q' g σ' n') : Hf p f n0 args σ Q' :=
  ⟨h.call, fun H us w a b c d => (h.ct H us w a b c d).mono fun _ _ ⟨u, g, H', σ', e1, e2, e3, e4, hq⟩ => ⟨u, g, H', σ', e1, e2, e3, e4, hQ _ _ _ hq⟩⟩
theorem Hf.sub {p : Pg} {f : FuncId} {n0 : Nat} {args : List GV} {σ : Heap} {Q Q' : GV → Heap → Nat → Prop} (h : Hf p f n0 args σ Q) (hQ : ∀ g σ' n', Q g σ' n' → ∃ g', Sub g' g ∧ Q' g' σ' n') : Hf p f n0 args σ Q' := by
  refine ⟨h.call, fun H us w hn hg hc hs => ?_⟩
  refine Calls.mono (h.ct H us w hn hg hc hs) (fun e w' he => ?_)
  obtain ⟨u, g, H', σ', rfl, hi, hs', hfr, hq⟩ := he
  obtain ⟨g', hs2, hq'⟩ := hQ g σ' _ hq
  exact ⟨u, g', H', σ', rfl, hs2 hi, hs', hfr, hq'⟩
theorem Rq.sub {p : Pg} {f : FuncId} {args : List GV} {Q Q' : GV → Prop} (h : Rq p f args Q) (hQ : ∀ g, Q g → ∃ g', Sub g' g ∧ Q' g' ∧ idb 0 g' = true) : Rq p f args Q' :=
  ⟨h.call, fun H us w hn hg hcs hs => (h.ct H us w hn hg hcs hs).mono fun _ _ ⟨u, g, H', σ', e, hi, hs', hfr, hv, r⟩ => by
    obtain ⟨g', hs2, hq', hid⟩ := hQ g hv.1
    exact ⟨u, g', H', σ', e, hs2 hi, hs', hfr, ⟨hq', hid⟩, r⟩⟩
section
variable {cx : Cx} {T : Post}
theorem JK.sub {k : List It} {s : St} (t : Nat) {g : GV} (g' : GV) (hl : look s.ρ t = some g) (hg : Sub g' g) (h : JK cx T k ⟨(t, g') :: s.ρ, s.σ, s.n⟩) : JK cx T k s := by
  refine JK.upd _ (fun H a w hgl hs ha => ⟨H, hgl, hs.ρ _, ⟨ha.env.cons ?_, ha.size, ha.defers⟩⟩) h
  exact hg (ha.env t _ hl)
end
end Go.GK
/-
  Rules: calls that have own things, what stands behind them not told as conditions yet; so many steps; a map's lookup.
-/
namespace Go.Proofs.YtihakhdinkkdmaaGreatDoor
open Go.GK Go.RowKit
section
variable {N n0 : Nat} {H0 : Hid} {S0 : List Nat} {w0 : World} {h0 : H0.n = n0} {g0 : GlOk pg H0} {T : Post} {k : List It} {s : St}
theorem GOJ {all : List Oper} {o : Oper} {rest : List Oper} {f : FuncId} {m : Nat} {cargs gs : List GV} {σc : Heap} {Q : GV → Heap → Nat → Prop} (hr : Hf pg f m cargs σc Q) (r : Nat → Nat) (hk : callG pg all s.ρ o = some (f, gs)) (hargs : gs = renL r cargs) (hσ : leσ r σc s.σ)
    (chk : (idbL m cargs && idbH m σc && distB (hids r σc)) = true) (hrn : ∀ i, i < m → r i < s.n)
    (h : ∀ g σ' n', Q g σ' n' → nf (ren (sh r m s.n) g) fun g => nfH (renH (sh r m s.n) σ' ++ hrest (hids r σc) s.σ) fun σ => nfN (s.n + (n' - m)) fun n => dputV N s.ρ o.dst g fun ρ' => JK ⟨pg, N, n0, H0, S0, w0, h0, g0⟩ T (.ops false all rest :: k) ⟨ρ', σ, n⟩) :
    JK ⟨pg, N, n0, H0, S0, w0, h0, g0⟩ T (.ops false all (o :: rest) :: k) s := by
  obtain ⟨fo, args, ts, first, caps, gs', ho, hgd, hf, he, hargs'⟩ := callG_spec hk
  refine JK.call hr.ct hr.call r ho hgd hf he (hargs'.trans hargs) hσ chk hrn (fun g σ' n' hq => ?_)
  have := h g σ' n' hq
  simp only [dputV_eq] at this
  exact this
theorem VM (n : Nat) (h : vc ⟨pg, N, n0, H0, S0, w0, h0, g0⟩ T n k s) : JK ⟨pg, N, n0, H0, S0, w0, h0, g0⟩ T k s := vc_sound pg_ok n k s h
end
theorem RGOH {N n0 : Nat} {H0 : Hid} {S0 : List Nat} {w0 : World} {h0 : H0.n = n0} {g0 : GlOk pg H0} {T : Post} {k : List It} {s : St} {ops : List Oper} {σs : Heap} {ρq : Env} {fuel : Nat} {listed : List Bool} (i : Nat) (e : Bool) (order : List (Nat × Bool)) {o : Oper} {f : FuncId} {m : Nat} {cargs gs : List GV} {σc : Heap} {Q : GV → Heap → Nat → Prop} (hr : Hf pg f m cargs σc Q) (r : Nat → Nat) (hi : ops[i]? = some o) (hk : callG pg ops s.ρ o = some (f, gs)) (hargs : gs = renL r cargs) (hσ : leσ r σc s.σ)
    (chk : (idbL m cargs && idbH m σc && distB (hids r σc)) = true) (hrn : ∀ i, i < m → r i < s.n)
    (hB : (Region.noSelect ops.toArray && eqB (Region.ready .any ops.toArray listed.toArray) [i] && ordB ops e order (listed.set i true)) = true)
    (h : ∀ g σ' n', Q g σ' n' → nf (ren (sh r m s.n) g) fun g => nfH (renH (sh r m s.n) σ' ++ hrest (hids r σc) s.σ) fun σ => nfN (s.n + (n' - m)) fun n => nfE (qput ρq o.dst g) fun ρq => dputV N s.ρ o.dst g fun ρ' => rvc ⟨pg, N, n0, H0, S0, w0, h0, g0⟩ T ops k σs e order fuel (listed.set i true) ρq ⟨ρ', σ, n⟩) (hT : ∀ ch s, ¬ T (.panic ch) s := by intro _ _ h; exact h) : RA ⟨pg, N, n0, H0, S0, w0, h0, g0⟩ T ops k σs ρq (fuel + 1) listed s := by
  simp only [Bool.and_eq_true] at hB
  exact RA.goH i order e pg_ok hB.1.1 hT hr r hi hk hargs hσ chk hrn (by simp only [hB.1.2, hB.2, Bool.and_self]) h
theorem _root_.Go.GK.Rq.hf {f : FuncId} {args : List GV} {G : GV} (h : Rt pg f args G) : Hf pg f 0 args [] (fun g σ n => g = G ∧ σ = [] ∧ n = 0) :=
  ⟨h.call, fun H us w hn hg hcs hs => (h.ct H us w hn hg hcs hs).mono fun _ _ ⟨u, g, H', σ', e, hi, hs', hfr, ⟨hq, _⟩, h1, h2⟩ => ⟨u, g, H', σ', e, hi, hs', hfr, hq, h1, h2⟩⟩
theorem lkS {K1 : GV → Prop} {K2 : Prop} {es : List (Value × GV)} {k : Value} {x : GV} (h : mfind k es = some x) (h1 : K1 x) : (∀ g, mfind k es = some g → K1 g) ∧ (mfind k es = none → K2) := ⟨fun g hg => by rw [h] at hg; cases hg; exact h1, fun hg => by rw [h] at hg; cases hg⟩
theorem lkN {K1 : GV → Prop} {K2 : Prop} {es : List (Value × GV)} {k : Value} (h : mfind k es = none) (h2 : K2) : (∀ g, mfind k es = some g → K1 g) ∧ (mfind k es = none → K2) := ⟨fun g hg => (by rw [h] at hg; cases hg), fun _ => h2⟩
theorem r1_lt {b n : Nat} (h : Nat.blt b n = true) : ∀ i, i < 1 → r1 0 b i < n := fun i hi => by
  obtain rfl : i = 0 := by omega
  rw [Nat.blt_eq] at h
  exact h
theorem id_lt {a n : Nat} (h : Nat.ble a n = true) : ∀ i, i < a → id i < n := fun _ hi => Nat.lt_of_lt_of_le hi (Nat.le_of_ble_eq_true h)
end Go.Proofs.YtihakhdinkkdmaaGreatDoor
/-
  The ghost machine: a region that draws its order: one operation comes up, whose guard is told by a proof.
-/
namespace Go.GK
open Go.RowKit
section
variable {cx : Cx} {T : Post}
theorem RA.one {ops : List Oper} {k : List It} {σs : Heap} {ρq : Env} {fuel : Nat} {listed : List Bool} {s : St} (i : Nat) {oi : Oper} (hr : Region.ready .any ops.toArray listed.toArray = [i])
    (hi : Stp cx T ops k σs ρq fuel listed s i oi) : RA cx T ops k σs ρq (fuel + 1) listed s := by
  have one : ∀ {q : Nat} {o : Oper}, Stp cx T ops k σs ρq fuel listed s q o → ∀ (n0 : Nat) (H0 : Hid) (S0 : List Nat) (w0 : World) (h0 : H0.n = n0) (g0 : GlOk cx.pg H0), Sat H0 σs w0 → (∀ b ∈ blks H0 σs, b ∉ S0) → (∀ b ∈ S0, H0.ro b = none) →
      (∀ H s' w', Sim ⟨cx.pg, cx.N, n0, H0, S0, w0, h0, g0⟩ H s' w' → Sim cx H ⟨s'.ρ, s'.σ ++ σs, s'.n⟩ w') →
      ∀ H a w, Sim ⟨cx.pg, cx.N, n0, H0, S0, w0, h0, g0⟩ H s w → ActOk cx H s.ρ a → EnvOk (H.at H0.ro) ρq a →
      wpOp cx.pg.P ops.toArray (cont cx.pg.P (post cx T) k) q (fun a w => Held S0 w0 w ∧ wpAnyH cx.pg.P .any ops.toArray (cont cx.pg.P (post cx T) k) (Held S0 w0) fuel (listed.toArray.setIfInBounds q true) a w) a w := by
    intro q o hst n0 H0 S0 w0 h0 g0 hσ hap hfree hlink H a w hs ha hq
    obtain ⟨hq', hgd, h⟩ := hst
    unfold wpOp
    have hi' : ops.toArray[q]? = some o := by simpa using hq'
    rw [hi']
    simp only
    have hw := gdOk_wanted (o := o) ha.env hgd
    rw [if_pos hw]
    refine .inl (h n0 H0 S0 w0 h0 g0 H a w _ _ (g0.mono hs.fr.le) hs ha (hlink H s w hs).sat fun H' u g w' s' ρ' hle hi hs' ha' hd hra => ?_)
    rw [set_list]
    refine ⟨hs'.keeps, hra n0 H0 S0 w0 h0 g0 hσ hap hfree hlink H' (a.put o.dst u) w' hs' ha' ?_⟩
    exact EnvOk.at_put (H := H) hq hle (fun d hdd => by rw [ha.size]; exact hd d hdd) hi
  intro n0 H0 S0 w0 h0 g0 hσ hap hfree hlink H a w hs ha hq
  refine wpAnyH_all hr (by simp) (fun q hq' => ?_)
  obtain rfl := List.mem_singleton.1 hq'
  exact one hi n0 H0 S0 w0 h0 g0 hσ hap hfree hlink H a w hs ha hq

end
end Go.GK
/-
  The ghost machine: a contract of a call that sets one cell of an own block, told by its world; what is given beside it is told by a handle.
-/
namespace Go.GK
open Go.RowKit
section
variable {p : Pg}
theorem Ct.set1g {f : FuncId} {t1 t2 ty : TypeId} (m : GV) (old x r : Value) {G : Value → World → Prop} (hG : ∀ (H : Hid) (σ : Heap) (w : World) (u : Value), GlOk p H → Sat H σ w → Is H m u → G u w)
    (h : ∀ u t w, G u w → w.cell? t = some old → w.frozen? t = false → Calls p.P f #[.iface t1 u, .iface t2 (.pointer (some t))] w fun e w' => e = .returned r ∧ ∃ w5, Below w.heap.size w w5 ∧ w' = w5.setCell t x) :
    Ct p f 1 [.ifc t1 m, .ifc t2 (.p 0 0)] [(0, .blk ty [.v old])] (fun g σ n => g = .v r ∧ σ = [(0, .blk ty [.v x])] ∧ n = 1) := by
  intro H us w hn hg hc hs
  obtain ⟨hl, hi⟩ := hc
  have h0 := hi 0 _ rfl
  have h1 := hi 1 _ rfl
  obtain ⟨u0, e0, i0⟩ := h0.inv_ifc
  obtain ⟨u1, e1, i1⟩ := h1.inv_ifc
  have e3 := i1.inv_p
  have hu : us = #[.iface t1 u0, .iface t2 (.pointer (some ⟨H.bl 0, 0, none⟩))] := by
    refine Array.ext (by simpa using hl.symm) (fun i h1 h2 => ?_)
    have h2' : i < 2 := by simpa using h2
    have eg : ∀ j (hj : j < us.size), us.getD j undef = us[j] := fun j hj => by rw [Array.getD, dif_pos hj]; rfl
    match i, h2' with
    | 0, _ => rw [← eg 0 h1, e0]; rfl
    | 1, _ => rw [← eg 1 h1, e1, e3.1]; rfl
  subst hu
  have hb := hs.holds (0, .blk ty [.v old]) (by simp)
  obtain ⟨cs, hh, hl2, hi2⟩ := hb
  have hcs : cs = #[old] := by
    have := cells_vals (vs := [old]) (us := cs) ⟨hl2, hi2⟩
    simpa using this
  subst hcs
  have hid : (0 : Nat) < H.n := hs.ids (0, .blk ty [.v old]) (by simp)
  refine Calls.mono (h u0 ⟨H.bl 0, 0, none⟩ w (hG H _ w u0 hg hs i0) (by unfold World.cell?; rw [hh]; rfl) (by unfold World.frozen?; rw [hh]; rfl)) (fun e w' he => ?_)
  obtain ⟨rfl, w5, hb5, rfl⟩ := he
  have hs5 := hs.below hb5
  have hlt : H.bl 0 < w.heap.size := (Array.getElem?_eq_some_iff.1 hh).1
  have hh5 : w5.heap[H.bl 0]? = some (.cells #[old] ty (0, 0)) := by rw [hb5.block _ hlt]; exact hh
  have hset : (w5.setCell ⟨H.bl 0, 0, none⟩ x).heap[H.bl 0]? = some (.cells #[x] ty (0, 0)) := by
    simp only [World.setCell, Array.getElem?_modify, if_true, hh5]
    rfl
  have hoth : ∀ b, b ≠ H.bl 0 → (w5.setCell ⟨H.bl 0, 0, none⟩ x).heap[b]? = w5.heap[b]? := fun b hb => Below.heap_setCell _ _ _ _ hb
  refine ⟨r, .v r, H, [(0, .blk ty [.v x])], rfl, .ro (.v r), ⟨fun b o hr => ?_, ?_, by simp [blks, blocks], ?_, by simpa using hid⟩, ?_, rfl, rfl, hn⟩
  · rw [hoth b (fun e => ?_)]
    · exact hs5.ro b o hr
    · have := hs.free (H.bl 0) (by simp [blks, blocks])
      rw [← e, hr] at this
      cases this
  · intro y hy
    simp only [List.mem_singleton] at hy
    subst hy
    refine ⟨#[x], hset, rfl, fun j g hj => ?_⟩
    cases j with
    | zero => simp at hj; subst hj; exact .ro (.v x)
    | succ j => simp at hj
  · intro b hb
    exact hs.free b (by simpa [blks, blocks] using hb)
  · refine ⟨hb5.os, hb5.tape, hb5.output, ?_, fun b h1 h2 => ?_, fun b hb => .inl (by simpa [blks, blocks] using hb), fun b h1 h2 => (h2 h1).elim, Hid.le.refl H⟩
    · have := hb5.size
      simpa [World.setCell] using this
    · rw [hoth b (fun e => h2 (by simp [blks, blocks, e]))]
      exact hb5.block b h1
theorem Is.r0 {H : Hid} {σ : Heap} {w : World} {x : Value} {cs : List GV} {u : Value} (hs : Sat H σ w) (h : Is H (.r (.v x :: cs)) u) : ∃ a, u = .pointer (some a) ∧ w.cell? a = some x := by
  cases h with
  | ro h =>
    cases h with
    | r us h1 h2 =>
      rename_i ad
      have e := h1 0 (.v x) rfl
      have e2 := h2 0 (.v x) rfl
      cases e2
      exact ⟨ad, rfl, roCell_cell hs.ro e⟩
end
end Go.GK
/-
  The ghost machine: a string's bytes appended to own bytes.
-/
namespace Go.GK
open Go.RowKit
section
variable {p : Pg} {H : Hid} {w : World}
theorem append_str {P : Program} (w : World) {t u ty e : TypeId} {i : TypeInfo} (ht : P.underlying t = some (.slice e)) (hu : P.underlying u = some .string) (hi : P.info? e = some i) (hz : i.zero = some (.int .u8 0)) (hsize : i.size = 1) (hby : i.bytes = 1)
    {v : Value} {n : Nat} {xs : List Value} (hown : w.ownsRow 0 e 1 v n xs) (s : ByteArray) (hb : n + s.size ≤ 140737488355328) :
    ∃ v' w', (Builtin.append_ #[t, u] ty #[v, .string s]).run P w = .ok v' w' ∧ w'.ownsRow 0 e 1 v' (n + s.size) (xs ++ Lib.strCells s) ∧ w.grownBy w' v.ownBlock ∧ (v'.ownBlock = v.ownBlock ∨ v'.ownBlock = some w.heap.size) := by
  have hm : n + s.size ≤ maxLen := by simp only [maxLen]; omega
  obtain ⟨v', w', hr, ho, hg, hn⟩ := Lib.run_append_own_string (P := P) w 0 t u ty e i ht hu hi hz hsize hby v n xs hown s hm hb (Nat.zero_le _)
  refine ⟨v', w', hr, ho, hg, ?_⟩
  have hxl : xs.length = n := by simpa using hown.1
  rcases hown.2 with ⟨rfl, rfl⟩ | ⟨g, cap, cur, rfl, _, hgc, hnc, _, hcs, _⟩
  · by_cases hs : s.size = 0
    · rw [hn.2 ⟨rfl, hs⟩]
      exact .inl rfl
    · have h2 := run_append_nil_string (P := P) w t u ty e i (.int .u8 0) ht hu hi hz s (by omega) (by omega) (by rw [hby]; omega)
      rw [hr] at h2
      injection h2 with h3
      rw [h3]
      exact .inr rfl
  · by_cases hroom : n + s.size ≤ cap
    · have hcs' : cur.size = cap := by simpa using hcs
      have h2 := Lib.run_append_room_string (P := P) w t u ty e i ht hu hi hsize g n cap cur hgc s hroom (by omega)
      rw [hr] at h2
      injection h2 with h3
      rw [h3]
      exact .inl rfl
    · have h2 := Lib.run_append_grow_string (P := P) w t u ty e i (.int .u8 0) ht hu hi hz ⟨g, 0, none⟩ n cap xs (by rw [hsize]; simpa using hxl) (hown.cells (g := g) rfl) s (by omega) (by omega) (by rw [hby]; exact growslice_fits (by omega) (by omega))
      rw [hr] at h2
      injection h2 with h3
      rw [h3]
      exact .inr rfl
theorem Sim.regrown {cx : Cx} {s : St} (hs : Sim cx H s w) {e sz : Nat} {ud u : Value} {rows news : List (List GV)} {σ' : Heap} {xs ys : List Value} {w' : World}
    (hown' : w'.ownsRow 0 e sz u (rows.length + news.length) (xs ++ ys)) (hrow : RowOk H.ro sz rows xs) (hyr : RowOk H.ro sz news ys) (hin : ∀ b ∈ ud.ownBlock.toList, b ∈ blks H s.σ) (hsub : ∀ x ∈ σ', x ∈ s.σ) (hnd : (blks H σ').Nodup) (hout : ∀ b ∈ ud.ownBlock.toList, b ∉ blks H σ')
    (hgr : w.grownBy w' ud.ownBlock) (hblk : u.ownBlock = ud.ownBlock ∨ u.ownBlock = some w.heap.size) (ρ : Env) :
    ∃ H', H.le H' ∧ Is H' (.o s.n) u ∧ Sim cx H' { ρ := ρ, σ := (s.n, .row e sz (rows ++ news)) :: σ', n := s.n + 1 } w' := by
  have hsl : ∃ A' c', u = .slice A' (rows.length + news.length) c' := by
    rcases hown'.2 with ⟨rfl, hn⟩ | ⟨g, cap, cur, rfl, _⟩
    · exact ⟨none, 0, by rw [hn]⟩
    · exact ⟨_, _, rfl⟩
  obtain ⟨A', c', hue⟩ := hsl
  have hle := H.le_more w.heap.size u
  have esv : (H.more w.heap.size u).sv s.n = u := by simp [Hid.more, hs.n]
  have hn : s.n < (H.more w.heap.size u).n := by simp [Hid.more, hs.n]
  have hlt : ∀ b ∈ blks H s.σ, b < w.heap.size := hs.sat.lt
  have hblkin : ∀ b ∈ u.ownBlock.toList, b ∈ ud.ownBlock.toList ∨ b = w.heap.size := fun b hb => by
    rcases hblk with h | h
    · rw [h] at hb; exact .inl hb
    · rw [h] at hb; simp at hb; exact .inr hb
  have hsubB : ∀ b ∈ blks H σ', b ∈ blks H s.σ := fun b hb => by
    obtain ⟨x, hx, hbx⟩ := List.mem_flatMap.1 hb
    exact List.mem_flatMap.2 ⟨x, hsub x hx, hbx⟩
  have hbl : blks (H.more w.heap.size u) σ' = blks H σ' := blks_le hle (fun x hx => hs.sat.ids x (hsub x hx))
  have hkeep : ∀ b, b < w.heap.size → b ∉ ud.ownBlock.toList → w'.heap[b]? = w.heap[b]? := fun b h1 h2 => hgr.block b h1 (fun e => h2 (by rw [← e]; simp))
  have hblocks : blocks (H.more w.heap.size u) (s.n, Res.row e sz (rows ++ news)) = u.ownBlock.toList := by simp [blocks, esv]
  refine ⟨H.more w.heap.size u, hle, ?_, ?_⟩
  · rw [hue] at esv ⊢
    exact .o hn esv rfl
  · have hfr := hs.fr
    refine ⟨by simp [Hid.more, hs.n], ⟨fun b o ho => ?_, fun x hx => ?_, ?_, fun b hbm => ?_, fun x hx => ?_⟩, ?_⟩
    · have h1 := hs.sat.ro b o ho
      rw [hkeep b (Array.getElem?_eq_some_iff.1 h1).1 (fun hbx => by have h2 := hs.sat.free b (hin b hbx); have h3 : H.ro b = some o := ho; rw [h2] at h3; cases h3)]
      exact h1
    · rcases List.mem_cons.1 hx with rfl | hx
      · refine ⟨xs ++ ys, ?_, (hrow.append hyr).mono hle.ro⟩
        rw [esv]
        simpa using hown'
      · refine holds_congr (w := w) (fun b hb => ?_) (holds_le hle (hs.sat.ids x (hsub x hx)) (hs.sat.holds x (hsub x hx)))
        rw [blocks_le hle (hs.sat.ids x (hsub x hx))] at hb
        have hbm : b ∈ blks H σ' := List.mem_flatMap.2 ⟨x, hx, hb⟩
        exact hkeep b (hlt b (hsubB b hbm)) (fun hc => hout b hc hbm)
    · rw [blks_cons, hbl, hblocks]
      refine List.nodup_append.2 ⟨by cases u.ownBlock <;> simp, hnd, fun b hb c hc e => ?_⟩
      subst e
      rcases hblkin b hb with h | h
      · exact hout b h hc
      · have := hlt b (hsubB b hc); omega
    · show H.ro b = none
      rw [blks_cons, hbl, hblocks] at hbm
      rcases List.mem_append.1 hbm with h | h
      · rcases hblkin b h with h | h
        · exact hs.sat.free b (hin b h)
        · exact hs.sat.none_size b (by omega)
      · exact hs.sat.free b (hsubB b h)
    · rcases List.mem_cons.1 hx with rfl | hx
      · exact hn
      · exact Nat.lt_of_lt_of_le (hs.sat.ids x (hsub x hx)) hle.n
    · refine ⟨hgr.os.trans hfr.os, hgr.tape.trans hfr.tape, hgr.output.trans hfr.output, Nat.le_trans hfr.size hgr.size, fun b h1 h2 => ?_, fun b hbm => ?_, hfr.fro, hfr.le.trans hle⟩
      · rw [hkeep b (Nat.lt_of_lt_of_le h1 hfr.size) (fun hbx => ?_)]
        · exact hfr.keep b h1 h2
        · rcases hfr.own b (hin b hbx) with h | h
          · exact h2 h
          · omega
      · simp only at hbm
        rw [blks_cons, hbl, hblocks] at hbm
        rcases List.mem_append.1 hbm with h | h
        · rcases hblkin b h with h | h
          · exact hfr.own b (hin b h)
          · exact .inr (by have := hfr.size; omega)
        · exact hfr.own b (hsubB b h)
theorem strRow (ro : Nat → Option Obj) (s : ByteArray) : RowOk ro 1 (s.data.toList.map byRow) (Lib.strCells s) := by
  refine ⟨by simp [Lib.strCells], fun row hr => ?_, fun i row hr j g hj => ?_, Lib.strCells_oneCell s⟩
  · obtain ⟨b, _, rfl⟩ := List.mem_map.1 hr
    rfl
  · rw [List.getElem?_map] at hr
    obtain ⟨b, hb, rfl⟩ := Option.map_eq_some_iff.1 hr
    cases j with
    | zero =>
      simp [byRow] at hj
      subst hj
      exact ⟨.int .u8 b.toNat, by simp only [Lib.strCells, Nat.mul_one, Nat.add_zero, List.getElem?_map, hb]; rfl, .v _⟩
    | succ j => simp [byRow] at hj
end
section
variable {cx : Cx} {T : Post}
theorem JK.appendStr {all : List Oper} {o : Oper} {rest : List Oper} {k : List It} {s : St} {sl x : Operand} {t u e : TypeId} {ti tie : TI} {gd : GV} {str : ByteArray} {rows : List (List GV)} {σ' : Heap} (hp : cx.pg.Ok)
    (ho : o.op = .call { callee := .builtin .append, args := #[sl, x], argTypes := #[t, u] }) (hgd : gdOk all s.ρ o.guard = true)
    (ht : tget cx.pg.tt t = some ti) (htd : ti.d = .slice e) (hu : cx.pg.P.underlying u = some .string) (hte : tget cx.pg.tt e = some tie) (hsz : tie.sz = 1) (hbt : tie.by_ = 1) (hzo : (cx.pg.P.info? e).bind (·.zero) = some (.int .u8 0))
    (hl : ev cx.pg s.ρ sl = some gd) (hx : ev cx.pg s.ρ x = some (.v (.string str))) (hdr : dstRows s.σ e 1 gd = some (rows, σ')) (hb : rows.length + str.size ≤ 140737488355328)
    (h : nfN (s.n + 1) fun m => nfH σ' fun σ' => dput cx.N s.ρ o.dst (.o s.n) fun ρ' => JK cx T (.ops false all rest :: k) ⟨ρ', (s.n, .row e 1 (rows ++ str.data.toList.map byRow)) :: σ', m⟩) : JK cx T (.ops false all (o :: rest) :: k) s := by
  rw [nfN_eq, nfH_eq] at h
  intro H a w hg hs ha
  have hw := gdOk_wanted (o := o) ha.env hgd
  have hut : cx.pg.P.underlying t = some (.slice e) := by have := (hp.tt _ _ ht).d; rw [htd] at this; exact this
  obtain ⟨i, z, hi, hisz, hiby, _, _, _⟩ := (hp.tt _ _ hte).info
  have hxv := (ev_is hg ha.env hx).inv_v
  have hlv := ev_is hg ha.env hl
  obtain ⟨xs, hown, hrow, hin, hsub, hnd, hout⟩ := dstRows_spec hs.sat hlv hdr
  have hz8 : i.zero = some (.int .u8 0) := by
    rw [hi] at hzo
    exact hzo
  obtain ⟨v', w', hr, hown', hgr, hblk⟩ := append_str (P := cx.pg.P) (ty := o.type) w hut hu hi hz8 (hisz.trans hsz) (hiby.trans hbt) hown str hb
  have hln : (str.data.toList.map byRow).length = str.size := by rw [List.length_map]; rfl
  obtain ⟨H', hle, hiu, hsim⟩ := hs.regrown (news := str.data.toList.map byRow) (by rw [hln]; exact hown') hrow (strRow _ str) hin hsub hnd hout hgr hblk s.ρ
  have hrun : (execOp a.eval o).run cx.pg.P w = .ok (.value v') w' := by
    obtain ⟨q, hq⟩ := run_builtin (p := cx.pg) (a := a) rfl o ho w
    rw [hq]
    simp [builtin, hxv, hr]
  obtain ⟨ρ', ha', hJ⟩ := (ha.mono hle).dput (u := v') hiu h
  exact wpList_run hw hrun (hJ _ (a.put o.dst _) w' (hg.mono hle) (hsim.ρ ρ') ha')
end
end Go.GK
/-
  The ghost machine: a piece of an own slice is cleared; an own slice is cut to its beginning.
-/
namespace Go.GK
open Go.RowKit
mutual
theorem idb_up (n : Nat) : ∀ {g : GV}, idb 0 g = true → idb n g = true
  | .v _, _ | .b _, _ | .r _, _ | .sl _ _, _ => rfl
  | .p _ _, h | .e _ _ _ _, h | .o _, h => by simp [idb] at h
  | .agg cs, h => by simp only [idb] at h ⊢; exact idbL_up n cs h
  | .tup cs, h => by simp only [idb] at h ⊢; exact idbL_up n cs h
  | .fn g ks cs, h => by simp only [idb, Bool.and_eq_true] at h ⊢; exact ⟨idbL_up n ks h.1, idbL_up n cs h.2⟩
  | .ifc t x, h => by simp only [idb] at h ⊢; exact idb_up n h
theorem idbL_up (n : Nat) : ∀ (l : List GV), idbL 0 l = true → idbL n l = true
  | [], _ => rfl
  | g :: r, h => by simp only [idbL, Bool.and_eq_true] at h ⊢; exact ⟨idb_up n h.1, idbL_up n r h.2⟩
end
theorem mid_take {α : Type} (A z : List α) (p r : Nat) (hp : p + z.length ≤ r) (hr : r ≤ A.length) : (A.take p ++ z ++ A.drop (p + z.length)).take r = (A.take r).take p ++ z ++ (A.take r).drop (p + z.length) := by
  apply List.ext_getElem?
  intro q
  rw [List.getElem?_take]
  by_cases hq : q < r
  · rw [if_pos hq]
    by_cases h1 : q < p
    · rw [List.append_assoc, List.getElem?_append_left (by simp; omega), List.append_assoc, List.getElem?_append_left (by simp; omega)]
      rw [List.getElem?_take, List.getElem?_take, List.getElem?_take, if_pos h1, if_pos h1, if_pos hq]
    · by_cases h2 : q < p + z.length
      · rw [List.getElem?_append_left (by simp; omega), List.getElem?_append_right (by simp; omega)]
        rw [List.getElem?_append_left (by simp; omega), List.getElem?_append_right (by simp; omega)]
        congr 1
        simp
        omega
      · rw [List.getElem?_append_right (by simp; omega), List.getElem?_append_right (by simp; omega)]
        rw [List.getElem?_drop, List.getElem?_drop, List.getElem?_take, if_pos (by simp; omega)]
        congr 1
        simp
        omega
  · rw [if_neg hq]
    symm
    apply List.getElem?_eq_none
    simp
    omega
section
variable {p : Pg} {H : Hid} {w : World}
theorem RowOk.vals (ro : Nat → Option Obj) (sz n : Nat) (us : List Value) (hl : us.length = n * sz) (h1 : ∀ u ∈ us, u.oneCell' = true) : ∃ zs : List (List GV), zs.length = n ∧ RowOk ro sz zs us := by
  refine ⟨(List.range n).map fun i => (List.range sz).map fun j => .v (us.getD (i * sz + j) undef), by simp, by simp [hl], fun row hr => ?_, fun i row hr j g hj => ?_, h1⟩
  · obtain ⟨i, _, rfl⟩ := List.mem_map.1 hr
    simp
  · rw [List.getElem?_map] at hr
    obtain ⟨i', hi, rfl⟩ := Option.map_eq_some_iff.1 hr
    have hi1 := (List.getElem?_eq_some_iff.1 hi)
    obtain ⟨hi2, hi3⟩ := hi1
    simp at hi2 hi3
    subst hi3
    rw [List.getElem?_map] at hj
    obtain ⟨j', hj', rfl⟩ := Option.map_eq_some_iff.1 hj
    obtain ⟨hj2, hj3⟩ := List.getElem?_eq_some_iff.1 hj'
    simp at hj2 hj3
    subst hj3
    have hlt : i * sz + j < us.length := by
      rw [hl]
      have := Nat.mul_le_mul_right sz (show i + 1 ≤ n by omega)
      rw [Nat.add_mul] at this
      omega
    exact ⟨us.getD (i * sz + j) undef, by simp [hlt], .v _⟩
theorem RowOk.take {ro : Nat → Option Obj} {sz : Nat} {rows : List (List GV)} {xs : List Value} (h : RowOk ro sz rows xs) (m : Nat) : RowOk ro sz (rows.take m) (xs.take (m * sz)) := by
  refine ⟨?_, fun row hr => h.each row (List.mem_of_mem_take hr), fun i row hr j g hj => ?_, fun u hu => h.one u (List.mem_of_mem_take hu)⟩
  · rw [List.length_take, List.length_take, h.len]
    by_cases hm : m ≤ rows.length
    · have := Nat.mul_le_mul_right sz hm
      rw [Nat.min_eq_left hm, Nat.min_eq_left this]
    · have := Nat.mul_le_mul_right sz (show rows.length ≤ m by omega)
      rw [Nat.min_eq_right (show rows.length ≤ m by omega), Nat.min_eq_right this]
  · rw [List.getElem?_take] at hr
    split at hr
    · rename_i hi
      obtain ⟨u, hu, his⟩ := h.is i row hr j g hj
      refine ⟨u, ?_, his⟩
      have hj' : j < sz := by rw [← h.each row (List.mem_of_getElem? hr)]; exact (List.getElem?_eq_some_iff.1 hj).1
      have := Nat.mul_le_mul_right sz (show i + 1 ≤ m by omega)
      rw [Nat.add_mul] at this
      rw [List.getElem?_take, if_pos (by omega)]
      exact hu
    · cases hr
theorem RowOk.drop {ro : Nat → Option Obj} {sz : Nat} {rows : List (List GV)} {xs : List Value} (h : RowOk ro sz rows xs) (m : Nat) : RowOk ro sz (rows.drop m) (xs.drop (m * sz)) := by
  refine ⟨?_, fun row hr => h.each row (List.mem_of_mem_drop hr), fun i row hr j g hj => ?_, fun u hu => h.one u (List.mem_of_mem_drop hu)⟩
  · rw [List.length_drop, List.length_drop, h.len, Nat.sub_mul]
  · rw [List.getElem?_drop] at hr
    obtain ⟨u, hu, his⟩ := h.is (m + i) row hr j g hj
    refine ⟨u, ?_, his⟩
    rw [List.getElem?_drop, ← hu]
    congr 1
    rw [Nat.add_mul]
    omega
end
section
variable {cx : Cx} {T : Post}
theorem JK.clearSub {all : List Oper} {o : Oper} {rest : List Oper} {k : List It} {s : St} {x : Operand} {t e : TypeId} {ti tie : TI} {m id ty sz lo n : Nat} {rows : List (List GV)} (hp : cx.pg.Ok)
    (ho : o.op = .call { callee := .builtin .clear, args := #[x], argTypes := #[t] }) (hgd : gdOk all s.ρ o.guard = true) (ht : tget cx.pg.tt t = some ti) (htd : ti.d = .slice e) (hte : tget cx.pg.tt e = some tie) (hsz : tie.sz = sz) (hone : tie.zero.all (·.oneCell') = true)
    (hx : ev cx.pg s.ρ x = some (.o m)) (hm : hlook s.σ m = some (.sub id sz lo n)) (hl : hlook s.σ id = some (.row ty sz rows)) (hln : lo + n ≤ rows.length)
    (hk : ∀ zs : List (List GV), zs.length = n → dput cx.N s.ρ o.dst (.v (.tuple #[])) fun ρ' => nfH (hset s.σ id (.row ty sz (rows.take lo ++ zs ++ rows.drop (lo + n)))) fun σ' => JK cx T (.ops false all rest :: k) ⟨ρ', σ', s.n⟩) : JK cx T (.ops false all (o :: rest) :: k) s := by
  intro H a w hg hs ha
  have hw := gdOk_wanted (o := o) ha.env hgd
  have hu : cx.pg.P.underlying t = some (.slice e) := by have := (hp.tt _ _ ht).d; rw [htd] at this; exact this
  obtain ⟨i, z, hi, hisz, hiby, hiz, hzc, hzl⟩ := (hp.tt _ _ hte).info
  have hzsz : z.cells.size = sz := by rw [← Array.length_toList, hzc, hzl, hsz]
  have hzone : ∀ v ∈ z.cells.toList, v.oneCell' = true := by rw [hzc]; exact List.all_eq_true.1 hone
  obtain ⟨hv, hmid⟩ := (ev_is hg ha.env hx).inv_o
  obtain ⟨hid, A, c, hsv, hnc, hcm, hAn, hA⟩ := hs.sat.holds _ (hlook_mem hm)
  obtain ⟨xs, hown, hrow⟩ := hs.sat.holds _ (hlook_mem hl)
  have hev : a.eval x = .slice A n c := hv.trans hsv
  have key : ∃ (zs : List (List GV)) (w' : World), zs.length = n ∧ (Builtin.clear_ #[t] o.type #[.slice A n c]).run cx.pg.P w = .ok (.tuple #[]) w' ∧ w'.os = w.os ∧ w'.tape = w.tape ∧ w'.output = w.output ∧ w.heap.size ≤ w'.heap.size ∧ (∀ b, b < w.heap.size → b ∉ blocks H (id, .row ty sz rows) → w'.heap[b]? = w.heap[b]?) ∧
      GK.holds H w' (id, .row ty sz (rows.take lo ++ zs ++ rows.drop (lo + n))) := by
    by_cases hn : n = 0
    · subst hn
      refine ⟨[], w, rfl, ?_, rfl, rfl, rfl, Nat.le_refl _, fun _ _ _ => rfl, ?_⟩
      · simp only [Builtin.clear_]
        cases A <;> simp [run_under hu]
      · simp only [List.append_nil, Nat.add_zero, List.take_append_drop]
        exact ⟨xs, hown, hrow⟩
    · obtain ⟨g, l', c', hsi, hll, rfl⟩ := hA (by omega)
      rcases hown.2 with ⟨he, _⟩ | ⟨g', cap, cur, he, _, hgc, hlc, hcap, hcur, htk⟩
      · rw [hsi] at he; cases he
      · rw [hsi] at he
        injection he with e1 e2 e3
        injection e1 with e1
        injection e1 with e1 _ _
        subst e1
        subst e2
        subst e3
        have hsi' := hsi
        have hmul : (lo + n) * sz ≤ c' * sz := Nat.mul_le_mul_right sz (by omega)
        rw [Nat.add_mul] at hmul
        let zc := (Builtin.zeroCells z.cells n).toList
        have hzcl : zc.length = n * sz := by simp [zc, Builtin.zeroCells, hzsz]
        have hzco : ∀ v ∈ zc, v.oneCell' = true := by
          intro v hv
          simp only [zc, Builtin.zeroCells, Array.toList_map, List.mem_map] at hv
          obtain ⟨q, hq, rfl⟩ := hv
          have hq' : q < n * z.cells.size := by simpa using hq
          have hpos : 0 < z.cells.size := by
            rcases Nat.eq_zero_or_pos z.cells.size with h0 | h0
            · rw [h0] at hq'; omega
            · exact h0
          have hlt := Nat.mod_lt q hpos
          rw [getElem!_pos z.cells _ hlt]
          exact hzone _ (by simp)
        have hst := run_storeCells_at (P := cx.pg.P) g (lo * sz) ty zc 0 cur w hgc (by rw [hzcl, hcur]; omega) hzco
        simp only [Nat.add_zero] at hst
        obtain ⟨zs, hzs, hzr⟩ := RowOk.vals H.ro sz n zc hzcl hzco
        have hheap : ∀ (arr : Array Value), (w.setRow g arr).heap[g]? = some (.cells arr ty (0, 0)) := fun arr => setRow_heap w g cur arr ty _ hgc
        refine ⟨zs, w.setRow g (cur.toList.take (lo * sz) ++ zc ++ cur.toList.drop (lo * sz + zc.length)).toArray, hzs, ?_, ?_, ?_, ?_, ?_, ?_, ?_⟩
        · obtain ⟨n', rfl⟩ : ∃ n', n = n' + 1 := ⟨n - 1, by omega⟩
          have hzv : ∀ w, (zeroValue e).run cx.pg.P w = .ok z w := fun w => by simp [zeroValue, run_tinfo hi, hiz]
          simp [Builtin.clear_, run_under hu, hzv]
          simp [zc] at hst
          simp [hst, zc]
        · rfl
        · rfl
        · rfl
        · simp
        · intro b hb hnb
          refine setRow_other w g b _ fun e => hnb ?_
          subst e
          simp [blocks, hsi, Value.ownBlock]
        · have hR := ((hrow.take lo).append hzr).append (hrow.drop (lo + n))
          refine ⟨xs.take (lo * sz) ++ zc ++ xs.drop ((lo + n) * sz), ?_, hR⟩
          have hlen : (rows.take lo ++ zs ++ rows.drop (lo + n)).length = rows.length := by simp [hzs]; omega
          rw [hlen]
          have hxl : xs.length = rows.length * sz := by simpa using hown.1
          have hm2 : (lo + n) * sz ≤ rows.length * sz := Nat.mul_le_mul_right sz hln
          have hm3 : (lo + n) * sz = lo * sz + n * sz := Nat.add_mul _ _ _
          refine ⟨?_, .inr ⟨g, c', _, hsi, Nat.zero_le _, hheap _, hlc, hcap, ?_, ?_⟩⟩
          · rw [List.length_append, List.length_append, List.length_take, List.length_drop, hxl, hzcl, Nat.min_eq_left (by omega)]; omega
          · rw [List.size_toArray, List.length_append, List.length_append, List.length_take, List.length_drop, Array.length_toList, hzcl, hcur, Nat.min_eq_left (by omega)]; omega
          · have hm4 : rows.length * sz ≤ c' * sz := Nat.mul_le_mul_right sz hlc
            have hcl : cur.toList.length = c' * sz := by simpa using hcur
            have := mid_take cur.toList zc (lo * sz) (rows.length * sz) (by rw [hzcl]; omega) (by rw [hcl]; omega)
            rw [htk, hzcl] at this
            rw [hzcl, hm3]
            exact this
  obtain ⟨zs, w', hzs, hr, hos, htape, hout, hsize, hkeep, hh⟩ := key
  have hrun : (execOp a.eval o).run cx.pg.P w = .ok (.value (.tuple #[])) w' := by
    obtain ⟨q, hq⟩ := run_builtin (p := cx.pg) (a := a) rfl o ho w
    rw [hq]
    simp [builtin, hev, hr]
  have hd := hk zs hzs
  obtain ⟨ρ', ha', hJ⟩ := ha.dput (u := .tuple #[]) (.ro (.v _)) hd
  rw [nfH_eq] at hJ
  exact wpList_run hw hrun (hJ _ (a.put o.dst _) w' hg (hs.put (y := .row ty sz (rows.take lo ++ zs ++ rows.drop (lo + n))) hl rfl hos htape hout hsize hkeep hh ρ') ha')
theorem JK.cutO {all : List Oper} {o : Oper} {rest : List Oper} {k : List It} {s : St} {t e : TypeId} {x : Operand} {lo hi : Option Operand} {id ty sz : Nat} {rows : List (List GV)} (hp : cx.pg.Ok) (ho : o.op = .slice t x lo hi none) (hgd : gdOk all s.ρ o.guard = true)
    {ti tie : TI} (ht : tget cx.pg.tt t = some ti) (htd : ti.d = .slice e) (hte : tget cx.pg.tt e = some tie) (hsz : tie.sz = sz) (hx : ev cx.pg s.ρ x = some (.o id)) (hl : hlook s.σ id = some (.row ty sz rows)) {h : Int} (hlo : bnd cx.pg s.ρ 0 lo = some 0) (hhi : bnd cx.pg s.ρ rows.length hi = some h)
    (h1 : 0 ≤ h) (h2 : h ≤ rows.length)
    (hk : nfN (s.n + 1) fun m => nfH (hdel s.σ id) fun σ' => dput cx.N s.ρ o.dst (.o s.n) fun ρ' => JK cx T (.ops false all rest :: k) ⟨ρ', (s.n, .row ty sz (rows.take h.toNat)) :: σ', m⟩) : JK cx T (.ops false all (o :: rest) :: k) s := by
  rw [nfN_eq, nfH_eq] at hk
  intro H a w hg hs ha
  have hw := gdOk_wanted (o := o) ha.env hgd
  have hu : cx.pg.P.underlying t = some (.slice e) := by have := (hp.tt _ _ ht).d; rw [htd] at this; exact this
  have hes := (hp.tt _ _ hte).size
  obtain ⟨hv, hid⟩ := (ev_is hg ha.env hx).inv_o
  obtain ⟨xs, hown, hrow⟩ := hs.sat.holds _ (hlook_mem hl)
  have hA : ∃ A c, H.sv id = .slice A rows.length c ∧ rows.length ≤ c ∧ c ≤ maxLen ∧ w.ownsRow 0 ty sz (.slice A h.toNat c) h.toNat (xs.take (h.toNat * sz)) := by
    have hxl : xs.length = rows.length * sz := by simpa using hown.1
    have hm := Nat.mul_le_mul_right sz (show h.toNat ≤ rows.length by omega)
    rcases hown.2 with ⟨he, hn⟩ | ⟨g, cap, cur, he, h0, hgc, hc, hm', hcs, htk⟩
    · refine ⟨none, 0, by rw [he, hn], by omega, by simp [maxLen], ?_⟩
      have hz : h.toNat = 0 := by omega
      rw [hz]
      exact ⟨by simp, .inl ⟨rfl, rfl⟩⟩
    · refine ⟨_, cap, he, hc, hm', by rw [List.length_take, hxl]; omega, .inr ⟨g, cap, cur, rfl, h0, hgc, by omega, hm', hcs, ?_⟩⟩
      rw [← htk, List.take_take, Nat.min_eq_left hm]
  obtain ⟨A, c, hsv, hc, hm, hown'⟩ := hA
  have hadd : ∀ a : Addr, a.add 0 = a := fun a => by simp [Addr.add]
  have hrun : (execOp a.eval o).run cx.pg.P w = .ok (.value (.slice A h.toNat c)) w := by
    have hb := run_bounds (p := cx.pg) (isS := true) hg ha.env hlo hhi (Int.le_refl 0) h1 h2 hc w
    simp only [execOp, ho, Instr.sliceAt, Sem.run_bind, run_under hu, Result.andThen_ok, Instr.slice, hv, hsv, Option.map_none, hb, hes, hsz]
    cases A <;> simp [hadd]
  obtain ⟨l1, l2, e1, e2, _⟩ := hlook_split hl
  have hnd := hs.sat.nodup
  rw [e1, blks_append, blks_cons] at hnd
  have n1 := List.nodup_append.1 hnd
  have n2 := List.nodup_append.1 n1.2.1
  have hob : ∀ b ∈ (H.sv id).ownBlock.toList, b ∈ blks H s.σ := fun b hb => by
    rw [e1, blks_append, blks_cons]; simp [blocks, hb]
  obtain ⟨H', hle, hiu, hsim⟩ := hs.regrown (e := ty) (sz := sz) (ud := H.sv id) (u := .slice A h.toNat c) (rows := rows.take h.toNat) (news := []) (xs := xs.take (h.toNat * sz)) (ys := []) (σ' := hdel s.σ id) (w' := w)
    (by have hz : (rows.take h.toNat).length + ([] : List (List GV)).length = h.toNat := by simp; omega
        rw [hz, List.append_nil]; exact hown') (hrow.take _) .nil hob
    (fun x hx => by rw [e2] at hx; rw [e1]; rcases List.mem_append.1 hx with h1 | h1 <;> simp [h1])
    (by rw [e2, blks_append]; exact List.nodup_append.2 ⟨n1.1, n2.2.1, fun b hb c hc e => n1.2.2 b hb c (by simp [hc]) e⟩)
    (fun b hb hc => by
      have hb' : b ∈ blocks H (id, Res.row ty sz rows) := by simpa [blocks] using hb
      rw [e2, blks_append] at hc
      rcases List.mem_append.1 hc with h1 | h1
      · exact n1.2.2 b h1 b (by simp [hb']) rfl
      · exact n2.2.2 b hb' b h1 rfl)
    ⟨rfl, rfl, rfl, Nat.le_refl _, fun _ _ _ => rfl⟩ (.inl (by rw [hsv]; cases A <;> rfl)) s.ρ
  rw [List.append_nil] at hsim
  obtain ⟨ρ', ha', hJ⟩ := (ha.mono hle).dput (u := .slice A h.toNat c) hiu hk
  exact wpList_run hw hrun (hJ _ (a.put o.dst _) w (hg.mono hle) (hsim.ρ ρ') ha')
theorem JK.eqNil {all : List Oper} {o : Oper} {rest : List Oper} {k : List It} {s : St} {t e t' : TypeId} {x : Operand} {ti : TI} {sz : Nat} {rows : List (List GV)} (hp : cx.pg.Ok) (ho : o.op = .binOp .eql t x (.const (.slice none 0 0)) t') (hgd : gdOk all s.ρ o.guard = true)
    (ht : tget cx.pg.tt t = some ti) (htd : ti.d = .slice e) (hx : ev cx.pg s.ρ x = some (.sl sz rows))
    (hk1 : rows = [] → dput cx.N s.ρ o.dst (.v (.bool true)) fun ρ' => JK cx T (.ops false all rest :: k) ⟨ρ', s.σ, s.n⟩)
    (hk2 : dput cx.N s.ρ o.dst (.v (.bool false)) fun ρ' => JK cx T (.ops false all rest :: k) ⟨ρ', s.σ, s.n⟩) : JK cx T (.ops false all (o :: rest) :: k) s := by
  intro H a w hg hs ha
  have hw := gdOk_wanted (o := o) ha.env hgd
  have hu : cx.pg.P.underlying t = some (.slice e) := by have := (hp.tt _ _ ht).d; rw [htd] at this; exact this
  obtain ⟨A, c, us, hv, hc, hm, he, hne⟩ := (ev_is hg ha.env hx).inv_sl.inv_sl
  have hrun : (execOp a.eval o).run cx.pg.P w = .ok (.value (.bool A.isNone)) w := by
    have := Lib.run_eql_slice_nil (P := cx.pg.P) w t e A rows.length c 0 0 hu
    have hgd : (eqGuard .eql t x (.const (.slice none 0 0)) (.slice A rows.length c) (.slice none 0 0)).run cx.pg.P w = .ok () w := by simp [eqGuard]
    have hc : a.eval (.const (.slice none 0 0)) = .slice none 0 0 := rfl
    simp only [execOp, ho, hv, hc, Sem.run_bind, hgd, Result.andThen_ok, this]
    rfl
  cases A with
  | none =>
    have hr : rows = [] := by
      by_cases h : rows = []
      · exact h
      · obtain ⟨ad, h1, _⟩ := hne h; cases h1
    obtain ⟨ρ', ha', hJ⟩ := ha.dput (u := .bool true) (.ro (.v _)) (hk1 hr)
    exact wpList_run hw hrun (hJ _ (a.put o.dst _) w hg (hs.ρ ρ') ha')
  | some ad =>
    obtain ⟨ρ', ha', hJ⟩ := ha.dput (u := .bool false) (.ro (.v _)) hk2
    exact wpList_run hw hrun (hJ _ (a.put o.dst _) w hg (hs.ρ ρ') ha')
end
theorem Hf.ofJ {p : Pg} {f : FuncId} {fn : Func} {c : Code} {n0 N : Nat} {args : List GV} {σ : Heap} {Q : GV → Heap → Nat → Prop} (hp : p.Ok) (hf : p.P.funcs[f]? = some fn) (hb : fn.body = some c) (hN : fn.ntmps = N) (hl : Nat.ble args.length N = true) {rs : Array ResultVar} (hr : fn.results = rs)
    (hc : ∀ ar w, (callFunc f ar).run p.P w = .ok (.enter f ar) w)
    (h : ∀ (H0 : Hid) (S0 : List Nat) (w0 : World) (h0 : H0.n = n0) (g0 : GlOk p H0), JK ⟨p, N, n0, H0, S0, w0, h0, g0⟩ (retT p rs.toList Q) [.code c] ⟨argEnv 0 args, σ, n0⟩) : Hf p f n0 args σ Q :=
  ⟨hc, Ct.of_JK hp hf hb hN hl hr h⟩
theorem Rt.ofJ {p : Pg} {f : FuncId} {fn : Func} {c : Code} {N : Nat} {args : List GV} {G : GV} (hp : p.Ok) (hf : p.P.funcs[f]? = some fn) (hb : fn.body = some c) (hN : fn.ntmps = N) (hl : Nat.ble args.length N = true) {rs : Array ResultVar} (hr : fn.results = rs)
    (hc : ∀ ar w, (callFunc f ar).run p.P w = .ok (.enter f ar) w)
    (h : ∀ (H0 : Hid) (S0 : List Nat) (w0 : World) (h0 : H0.n = 0) (g0 : GlOk p H0), JK ⟨p, N, 0, H0, S0, w0, h0, g0⟩ (retT p rs.toList fun g _ _ => eqG G g ∧ idb 0 g = true) [.code c] ⟨argEnv 0 args, [], 0⟩) : Rt p f args G := by
  have hq : Rq p f args (eqG G) := ⟨hc, Ct.weak (Ct.of_JK hp hf hb hN hl hr h) fun g σ' n' hq => ⟨id, g, [], 0, ⟨hq, rfl, rfl⟩, (ren_id g).symm, trivial, by simp [hq.2, idbH, hids, distB, fixB]⟩⟩
  refine ⟨hc, fun H us w hn hg hcs hs => ?_⟩
  refine (hq.ct H us w hn hg hcs hs).mono ?_
  rintro e w' ⟨u, g, H', σ', rfl, hi, hs', hfr, hq, h1, h2⟩
  exact ⟨u, G, H', σ', rfl, eqG_is hq.1 hi, hs', hfr, ⟨rfl, eqG_idb hq.1 hq.2⟩, h1, h2⟩
def SubR (g' g : GV) : Prop := ∀ {ro : Nat → Option Obj} {u : Value}, IsR ro g u → IsR ro g' u
theorem SubR.rfl {g : GV} : SubR g g := fun h => h
theorem SubR.nil (sz : Nat) : SubR (.sl sz []) (.v (.slice none 0 0)) := fun {ro u} h => by
  cases h
  exact .slnil
inductive SubL : List GV → List GV → Prop
  | nil : SubL [] []
  | cons {x y : GV} {xs ys : List GV} (h : SubR x y) (t : SubL xs ys) : SubL (x :: xs) (y :: ys)
inductive SubRows : List (List GV) → List (List GV) → Prop
  | nil : SubRows [] []
  | cons {x y : List GV} {xs ys : List (List GV)} (h : SubL x y) (t : SubRows xs ys) : SubRows (x :: xs) (y :: ys)
theorem SubL.get : ∀ {xs ys : List GV}, SubL xs ys → xs.length = ys.length ∧ ∀ (j : Nat) (x : GV), xs[j]? = some x → ∃ y, ys[j]? = some y ∧ SubR x y
  | [], [], _ => ⟨_root_.rfl, fun j x h => by simp at h⟩
  | _ :: _, _ :: _, .cons h t => by
    obtain ⟨h1, h2⟩ := t.get
    refine ⟨by simp [h1], fun j x hx => ?_⟩
    cases j with
    | zero => simp at hx; subst hx; exact ⟨_, _root_.rfl, h⟩
    | succ j => obtain ⟨y, hy, hs⟩ := h2 j x (by simpa using hx); exact ⟨y, by simpa using hy, hs⟩
theorem SubRows.get : ∀ {xs ys : List (List GV)}, SubRows xs ys → xs.length = ys.length ∧ ∀ (j : Nat) (x : List GV), xs[j]? = some x → ∃ y, ys[j]? = some y ∧ SubL x y
  | [], [], _ => ⟨_root_.rfl, fun j x h => by simp at h⟩
  | _ :: _, _ :: _, .cons h t => by
    obtain ⟨h1, h2⟩ := t.get
    refine ⟨by simp [h1], fun j x hx => ?_⟩
    cases j with
    | zero => simp at hx; subst hx; exact ⟨_, _root_.rfl, h⟩
    | succ j => obtain ⟨y, hy, hs⟩ := h2 j x (by simpa using hx); exact ⟨y, by simpa using hy, hs⟩
theorem Sub.rows {sz : Nat} {rows rows' : List (List GV)} (h : SubRows rows' rows) : Sub (.sl sz rows') (.sl sz rows) := fun {H u} hi => by
  have hr := hi.inv_sl
  obtain ⟨hlen, hget⟩ := h.get
  refine .ro ?_
  cases hr with
  | slnil =>
    have : rows' = [] := List.length_eq_zero_iff.1 hlen
    subst this
    exact .slnil
  | sl us h0 hc hm h1 h2 h3 =>
    rw [← hlen]
    refine .sl us (fun row hrow => ?_) (by rw [hlen]; exact hc) hm (fun i row hrow j g hj => ?_) (fun i row hrow j g hj => ?_) h3
    · obtain ⟨i, hi⟩ := List.getElem?_of_mem hrow
      obtain ⟨y, hy, hs⟩ := hget i row hi
      rw [hs.get.1]
      exact h0 y (List.mem_of_getElem? hy)
    · obtain ⟨y, hy, hs⟩ := hget i row hrow
      obtain ⟨y2, hy2, _⟩ := hs.get.2 j g hj
      exact h1 i y hy j y2 hy2
    · obtain ⟨y, hy, hs⟩ := hget i row hrow
      obtain ⟨y2, hy2, hs2⟩ := hs.get.2 j g hj
      exact hs2 (h2 i y hy j y2 hy2)
end Go.GK
