/-
  The ghost machine: nil slices within own variables; bools as arguments.
-/
import Derived.Test.YtfagagfokmlgiaaGK12
namespace Go.GK
open Go.RowKit

section
variable {cx : Cx} {T : Post}

/-- A nil slice within an own variable is an own row without elements. -/
theorem JK.ownNilB {k : List It} {s : St} (id j ty sz : Nat) {tb : Nat} {cs : List GV} (hl : hlook s.σ id = some (.blk tb cs)) (hj : cs[j]? = some (.v (.slice none 0 0)))
    (h : nfN (s.n + 1) fun m => nfH ((s.n, .row ty sz []) :: hset s.σ id (.blk tb (cs.set j (.o s.n)))) fun σ => JK cx T k ⟨s.ρ, σ, m⟩) : JK cx T k s := by
  rw [nfN_eq, nfH_eq] at h
  refine JK.upd _ (fun H a w hg hs ha => ?_) h
  have hle := H.le_more 0 (.slice none 0 0)
  have e : (H.more 0 (.slice none 0 0)).sv s.n = .slice none 0 0 := by simp [Hid.more, hs.n]
  have hs1 : Sim cx (H.more 0 (.slice none 0 0)) ⟨s.ρ, (s.n, .row ty sz []) :: s.σ, s.n + 1⟩ w := by
    refine hs.grow hle rfl (by simp [Hid.more, hs.n]) (Below.refl _ _) ?_ (by simp [blocks, e, Value.ownBlock]) (by simp [blocks, e, Value.ownBlock]) _
    exact ⟨[], ⟨by simp, .inl ⟨e, rfl⟩⟩, ⟨by simp, by simp, by simp, by simp⟩⟩
  have hid : id < s.n := by have := hs.sat.ids _ (hlook_mem hl); rw [hs.n] at this; exact this
  have hbeq : Nat.beq s.n id = false := by
    cases hb : Nat.beq s.n id with
    | false => rfl
    | true => have := beq_eq hb; omega
  have hl1 : hlook ((s.n, Res.row ty sz []) :: s.σ) id = some (.blk tb cs) := by unfold hlook; rw [hbeq]; exact hl
  have hset1 : hset ((s.n, Res.row ty sz []) :: s.σ) id (.blk tb (cs.set j (.o s.n))) = (s.n, .row ty sz []) :: hset s.σ id (.blk tb (cs.set j (.o s.n))) := by
    rw [hset, hbeq]; rfl
  obtain ⟨us, hw, hlen, his⟩ := hs1.sat.holds _ (hlook_mem hl1)
  have hs2 := hs1.put (y := .blk tb (cs.set j (.o s.n))) (w' := w) hl1 rfl rfl rfl rfl (Nat.le_refl _) (fun _ _ _ => rfl) ⟨us, hw, by simp [hlen], fun i g hi => by
    by_cases hij : j = i
    · subst hij
      have hlt : j < cs.length := (List.getElem?_eq_some_iff.1 hj).1
      rw [List.getElem?_set_self hlt] at hi
      cases hi
      have hv := (his j _ hj).inv_v
      rw [hv]
      exact .o (by simp [Hid.more, hs.n]) e rfl
    · rw [List.getElem?_set_ne hij] at hi
      exact his i g hi⟩ s.ρ
  rw [hset1] at hs2
  exact ⟨_, hg.mono hle, hs2, ha.mono hle⟩
end

/-- A bool that is known, where one that is not is asked for. -/
theorem Ct.bv {p : Pg} {f : FuncId} {n0 : Nat} {pre suf : List GV} {c : Bool} {σ : Heap} {Q : GV → Heap → Nat → Prop} (h : Ct p f n0 (pre ++ .b c :: suf) σ Q) : Ct p f n0 (pre ++ .v (.bool c) :: suf) σ Q := fun H us w hn hg hc hs => by
  refine h H us w hn hg ⟨by simpa using hc.1, fun j g hj => ?_⟩ hs
  rcases Nat.lt_trichotomy j pre.length with hlt | rfl | hlt
  · rw [List.getElem?_append_left hlt] at hj
    exact hc.2 j g (by rw [List.getElem?_append_left hlt]; exact hj)
  · rw [List.getElem?_append_right (Nat.le_refl _), Nat.sub_self] at hj
    simp at hj
    subst hj
    have := hc.2 pre.length (.v (.bool c)) (by rw [List.getElem?_append_right (Nat.le_refl _), Nat.sub_self]; rfl)
    rw [this.inv_v]
    exact .ro (.b c)
  · rw [List.getElem?_append_right (by omega)] at hj
    have e : j - pre.length = (j - pre.length - 1) + 1 := by omega
    rw [e] at hj
    refine hc.2 j g ?_
    rw [List.getElem?_append_right (by omega), e]
    simpa using hj
end Go.GK
