/-
  What the row of this seat has: of what is laid the table of sizes, the document's Fine, and the library's handle of the type error are read.
-/
import Derived.Test.YtfnomonhfndbiaaGreatDoorCPg
import Derived.Test.YtfnomonhfndbiaaGreatDoorGKg
import Derived.Test.YtfnomonhfndbiaaGreatDoorCErr
import Derived.Test.YtfnomonhfndbiaaGreatDoorRows
import Derived.ProofKit
import Derived.LaidMore
import Derived.LaidHandle
import Derived.LaidSub
import Derived.Lay
import Derived.ChangeSame
import Derived.OpenShut
import Derived.Stop.Joined
namespace Go.Proofs.YtfnomonhfndbiaaGreatDoor
open Go.GK Go.ChangeShapes Go.WideShapes Go.RowKit

abbrev rowLaid : List (String × DataW Unit) := [("unicode/utf8.acceptRanges", Rows.laid_unicode_utf8_acceptRanges), ("errors.errorType", Rows.laid_errors_errorType), ("raingauge/bits.sizes", Rows.laid_raingauge_bits_sizes), ("raingauge/raingaugeref.Fine", Rows.laid_raingauge_raingaugeref_Fine), ("unicode/utf8.first", Rows.laid_unicode_utf8_first)]
theorem own : ownKnob Tryz.prog.godebug = none := by kernel_rfl
theorem laidOut : laidOutB Tryz.prog = true := by kernel_rfl
theorem gSizes : Tryz.prog.globalNamed "raingauge/bits.sizes" = some 1 := by kernel_rfl
theorem tSizes : (Tryz.prog.globals[1]?).map (·.type) = some 137 := by kernel_rfl
theorem gErr : Tryz.prog.globalNamed "errors.errorType" = some 3 := by kernel_rfl
theorem rtErr : (Tryz.prog.cutTypes.find? (·.1 == "internal/reflectlite.rtype")).map (·.2) = some 181 := by kernel_rfl
theorem oneRow : ((List.range 225).filter fun t => Tryz.prog.rowNamed t [101, 114, 114, 111, 114]) = [30] := by kernel_rfl
theorem typesSize : Tryz.prog.types.size = 225 := by kernel_rfl

theorem handle_ok {W : World} (h : handlesMet Tryz.prog [("errors.errorType", Rows.laid_errors_errorType)] W) : W.cell? ⟨3, 0, none⟩ = some rtV := by
  obtain ⟨name, u, ty, e1, e2, e3, e4, e5⟩ := h _ (List.mem_singleton.2 rfl)
  have en : name = [101, 114, 114, 111, 114] := (Option.some.inj e1).symm
  subst en
  obtain rfl := Option.some.inj (rtErr.symm.trans e2)
  have hm : ty ∈ (List.range 225).filter fun t => Tryz.prog.rowNamed t [101, 114, 114, 111, 114] := List.mem_filter.2 ⟨List.mem_range.2 (by rw [← typesSize]; exact e3), e4⟩
  rw [oneRow] at hm
  obtain rfl := List.mem_singleton.1 hm
  have hh : typeHandle Tryz.prog 30 = .pointer (some ⟨6, 30, none⟩) := by kernel_rfl
  rw [hh] at e5
  simpa using World.var?_cell gErr e5 0

theorem gFine : Tryz.prog.globalNamed "raingauge/raingaugeref.Fine" = some 0 := by kernel_rfl
theorem tFine : (Tryz.prog.globals[0]?).map (·.type) = some 50 := by kernel_rfl
theorem sizes_cells {W : World} (h : laidMet Tryz.prog [("raingauge/bits.sizes", Rows.laid_raingauge_bits_sizes)] W) : ∀ i, W.cell? ⟨1, i, none⟩ = ([0, 4, 7, 12, 20, 32, 64].map (Value.int .i64))[i]? := by
  obtain ⟨ps, ⟨g0, t0, cs0, f0, p0, q0, hg0, ht0, hv0, hd0, _, _⟩, _, _⟩ := h
  obtain rfl := Option.some.inj (gSizes.symm.trans hg0)
  obtain rfl := Option.some.inj (tSizes.symm.trans ht0)
  have hcs := arr_ints (P := Tryz.prog) (e := 3) (n := 7) (k := .i64) (zs := [0, 4, 7, 12, 20, 32, 64]) (by kernel_rfl) (by kernel_rfl) (by kernel_rfl) rfl (by kernel_rfl) hd0
  intro i
  rw [World.var?_cell hg0 hv0 i, ← hcs]
  simp
theorem fine_cells {W : World} (h : laidMet Tryz.prog [("raingauge/raingaugeref.Fine", Rows.laid_raingauge_raingaugeref_Fine)] W) : ∀ i, W.cell? ⟨0, i, none⟩ = ([0, -1].map (Value.int .i64))[i]? := by
  obtain ⟨ps, ⟨g0, t0, cs0, f0, p0, q0, hg0, ht0, hv0, hd0, _, _⟩, _, _⟩ := h
  obtain rfl := Option.some.inj (gFine.symm.trans hg0)
  obtain rfl := Option.some.inj (tFine.symm.trans ht0)
  obtain ⟨y0, y1, n, hx, hl, h0, h1⟩ := trod_struct2 (Tryz.underlying50) hd0
  obtain ⟨a, ha, rfl, _⟩ := DataW.trod_int (k := .i64) (by kernel_rfl) h0
  obtain ⟨b, hb, rfl, _⟩ := DataW.trod_int (k := .i64) (by kernel_rfl) h1
  have hlen : cs0.toList.length = 2 := hl.trans (by kernel_rfl)
  have hc1 : Tryz.prog.cellsOf 26 = 1 := by kernel_rfl
  have hc2 : Tryz.prog.cellsOf 3 = 1 := by kernel_rfl
  have e : cs0.toList = [.int .i64 a, .int .i64 b] := by
    match hcs : cs0.toList, hlen with
    | [u, v], _ =>
      rw [hcs] at ha hb
      have ha' : (List.drop 0 [u, v]).take (Tryz.prog.cellsOf 26) = [.int .i64 a] := ha
      have hb' : (List.drop 1 [u, v]).take (Tryz.prog.cellsOf 3) = [.int .i64 b] := hb
      rw [hc1] at ha'
      rw [hc2] at hb'
      simp at ha' hb'
      rw [ha', hb']
  simp only [Rows.laid_raingauge_raingaugeref_Fine, Prod.mk.injEq, DataW.agg.injEq, List.cons.injEq, DataW.lit.injEq, Lit.int.injEq, true_and, and_true] at hx
  obtain ⟨⟨rfl, rfl⟩, _⟩ := hx
  intro i
  rw [World.var?_cell hg0 hv0 i]
  have : cs0[i]? = cs0.toList[i]? := by simp
  rw [this, e]
  rfl
theorem gl_okH {W : World} (hL : laidMetH Tryz.prog rowLaid W) : ∀ H : Hid, H.ro = roOf W → GlOk pg H := by
  have hL' : laidMet Tryz.prog [("unicode/utf8.acceptRanges", Rows.laid_unicode_utf8_acceptRanges), ("raingauge/bits.sizes", Rows.laid_raingauge_bits_sizes), ("raingauge/raingaugeref.Fine", Rows.laid_raingauge_raingaugeref_Fine), ("unicode/utf8.first", Rows.laid_unicode_utf8_first)] W ∧ handlesMet Tryz.prog [("errors.errorType", Rows.laid_errors_errorType)] W := hL
  obtain ⟨h, hE⟩ := hL'
  have hE' := handle_ok hE
  have hS := sizes_cells (h.filter fun x => x.1 == "raingauge/bits.sizes")
  have hF := fine_cells (h.filter fun x => x.1 == "raingauge/raingaugeref.Fine")
  intro H hro g gv hg
  have hg' : GK.look gl g = some gv := hg
  unfold gl at hg'
  unfold GK.look at hg'
  cases hb : Nat.beq 0 g with
  | true =>
    rw [hb] at hg'
    have := beq_eq hb
    subst this
    simp only [cond_true, Option.some.injEq] at hg'
    subst hg'
    exact gl_ints (zs := [0, -1]) hro hF
  | false =>
    rw [hb] at hg'
    simp only [cond_false] at hg'
    unfold GK.look at hg'
    cases hb1 : Nat.beq 1 g with
    | true =>
      rw [hb1] at hg'
      have := beq_eq hb1
      subst this
      simp only [cond_true, Option.some.injEq] at hg'
      subst hg'
      exact gl_ints hro hS
    | false =>
      rw [hb1] at hg'
      simp only [cond_false] at hg'
      unfold GK.look at hg'
      cases hb2 : Nat.beq 3 g with
      | false => rw [hb2] at hg'; simp [GK.look] at hg'
      | true =>
        rw [hb2] at hg'
        have := beq_eq hb2
        subst this
        simp only [cond_true, Option.some.injEq] at hg'
        subst hg'
        exact gl_one hro hE'
/-- What is listed, but the handle. -/
abbrev plainLaid : List (String × DataW Unit) := [("unicode/utf8.acceptRanges", Rows.laid_unicode_utf8_acceptRanges), ("raingauge/bits.sizes", Rows.laid_raingauge_bits_sizes), ("raingauge/raingaugeref.Fine", Rows.laid_raingauge_raingaugeref_Fine), ("unicode/utf8.first", Rows.laid_unicode_utf8_first)]
noncomputable def wit (os : Os) : World := (World.doorLaid Tryz.prog 400 os).layVars Tryz.prog plainLaid
theorem wit_os (os : Os) : (wit os).os = os := World.layVars_os _ _ _
theorem wit_fits (os : Os) : (World.doorLaid Tryz.prog 400 os).layFits Tryz.prog plainLaid [] = true := by kernel_rfl
theorem wit_ifaces (os : Os) : (World.doorLaid Tryz.prog 400 os).layIfaces Tryz.prog plainLaid (wit os) = true := by kernel_rfl
theorem wit_handle (os : Os) (args : Array Value) : (rowLaid.filter fun x => x.2.handleName?.isSome).all (handleAtB Tryz.prog ((wit os).forCall (fun _ _ => 0) ⟨#[], args, []⟩).memory) = true := by kernel_rfl
theorem wit_shaped (os : Os) (args : Array Value) : ((wit os).forCall (fun _ _ => 0) ⟨#[], args, []⟩).Shaped Tryz.prog := World.shaped_of_ZipB (by kernel_rfl) (by kernel_rfl)
theorem wit_met (os : Os) (args : Array Value) : laidMetH Tryz.prog rowLaid ((wit os).forCall (fun _ _ => 0) ⟨#[], args, []⟩).memory := by
  have e1 : (plainLaid.filter fun x => (plainLaid.map (·.1)).contains x.1) = plainLaid := List.filter_eq_self.2 fun x hx => List.contains_iff_mem.2 (List.mem_map.2 ⟨x, hx, rfl⟩)
  have e2 : (plainLaid.filter fun x => !(plainLaid.map (·.1)).contains x.1) = [] := List.filter_eq_nil_iff.2 fun x hx => by rw [List.contains_iff_mem.2 (List.mem_map.2 ⟨x, hx, rfl⟩)]; simp
  have h : laidMet Tryz.prog plainLaid (wit os) := laidMet_layVars (w0 := World.doorLaid Tryz.prog 400 os) (plainLaid.map (·.1)) [] (by rw [e1]; rfl) (by rw [e1]; exact wit_fits os) (by rw [e1]; exact wit_ifaces os) (by rw [e2]; exact LaidIn.none)
  have h' : laidMet Tryz.prog plainLaid ((wit os).forCall (fun _ _ => 0) ⟨#[], args, []⟩).memory := h.of_heap (by simp [World.memory, World.forCall, Input.heap])
  exact laidMetH_of_parts h' (wit_handle os args)
end Go.Proofs.YtfnomonhfndbiaaGreatDoor
