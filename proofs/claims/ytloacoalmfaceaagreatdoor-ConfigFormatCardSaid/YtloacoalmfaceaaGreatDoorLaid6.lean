/-
  What the row's list gives: the world is ready for the library's contracts.
-/
import Derived.Test.YtloacoalmfaceaaGreatDoorAwk6
import Derived.Test.YtloacoalmfaceaaGreatDoorRows
import Derived.Stop.LaidErr
import Derived.MakeChecks
import Derived.Lay
import Derived.ProofKit
import Derived.OpenShut
import Derived.Deep.DeepWitnessRowRef
namespace Go.Proofs.YtloacoalmfaceaaGreatDoor
open Go.ChangeShapes Go.WideShapes Go.ChangeAt Go.RowKit

theorem own : ownKnob Tryz.prog.godebug = none := by kernel_rfl
theorem laidOut : laidOutB Tryz.prog = true := by kernel_rfl
theorem starred : "*" ++ "errors.errorString" = "*errors.errorString" := by decide
/-- the one type of that name. -/
theorem err_row (u : TypeId) (h : Tryz.prog.typeName? 3 u = some "*errors.errorString") : u = 156 :=
  typeName_ptr_named (nm := "errors.errorString") (by rw [starred]; kernel_rfl) (by kernel_rfl) (by decide) u (by rw [starred]; exact h)

theorem room_of {W : World} (h : W.ShapedOpen Tryz.prog) : Tryz.prog.globals.size ≤ W.heap.size := by
  obtain ⟨o, o₀, h1, _⟩ := h.2 Tryz.prog.globals.size (Nat.le_refl _) (of_decide_eq_true (by kernel_rfl))
  exact Nat.le_of_lt (Array.getElem?_eq_some_iff.1 h1).1

theorem ready_of {W : World} {r1 r2 r3 : List (String × DataW Unit)}
    (h1 : laidMet Tryz.prog (("internal/strconv.uint64pow10", Lib.tabData .u64 Lib.pow10Tab) :: r1) W)
    (h2 : laidMet Tryz.prog (("strconv.ErrSyntax", Rows.laid_strconv_ErrSyntax) :: r2) W)
    (h3 : laidMet Tryz.prog (("strconv.ErrRange", Rows.laid_strconv_ErrRange) :: r3) W)
    (hS : W.ShapedOpen Tryz.prog) : Ready W := by
  refine ⟨?_, ?_, ?_, ?_, room_of hS⟩
  · exact Lib.tabIs_of_head g_tab (by kernel_rfl) Tryz.underlying124 Tryz.underlying105 (by kernel_rfl) (by kernel_rfl) h1
  · obtain ⟨x, t, hv, _⟩ := laid_sentinel (g := 7) h2 (by kernel_rfl) (by kernel_rfl) Tryz.underlying89 err_row Tryz.underlying156 Tryz.underlying158 rfl rfl Tryz.underlying9 (by kernel_rfl) (by kernel_rfl)
    exact ⟨_, _, hv⟩
  · obtain ⟨x, t, hv, _⟩ := laid_sentinel (g := 8) h3 (by kernel_rfl) (by kernel_rfl) Tryz.underlying89 err_row Tryz.underlying156 Tryz.underlying158 rfl rfl Tryz.underlying9 (by kernel_rfl) (by kernel_rfl)
    exact ⟨_, _, hv⟩
  · exact cell_of_shapedOpen_int (zero := #[.int .i64 0]) (t := 3) hS (of_decide_eq_true (by kernel_rfl)) (by kernel_rfl) rfl (by kernel_rfl) (by kernel_rfl) Tryz.underlying3

section
variable {P : Program}
theorem strs_cells {H : Type} {enc : TypeId × Value → H} {w : World} {base : Nat} {sp : Nat → Bool} {held : Bool} {fuel : Nat} {t e : TypeId} {n : Nat} {cs : List Value} {zs : List (List UInt8)} {p : List MemPlace}
    (ht : P.underlying t = some (.array n e)) (he : P.underlying e = some .string) (hce : P.cellsOf e = 1)
    (h : DataW.trod enc P w base sp held fuel t cs = some (.agg (zs.map fun z => .lit (.string z)), p)) : ∀ (i : Nat) (z : List UInt8), zs[i]? = some z → cs[i]? = some (.string (bs z)) := by
  obtain ⟨xs, m, _, hx, _, hl, hat⟩ := DataW.trod_array ht h
  have hxs : xs.map (·.1) = zs.map fun z => (DataW.lit (.string z) : DataW H) := by
    have := congrArg Prod.fst hx
    simpa using this.symm
  intro i z hz
  have hi : i < n := by
    have h1 := (List.getElem?_eq_some_iff.1 hz).1
    have h2 := congrArg List.length hxs
    simp at h2
    omega
  have h1 := hat i hi
  rw [hce, Nat.mul_one, List.getElem?_eq_getElem (by omega)] at h1
  obtain ⟨s, hcs, hxe, _⟩ := DataW.trod_string he h1
  have h2 : (xs.map (·.1))[i]? = some (DataW.lit (.string s.data.toList) : DataW H) := by
    rw [List.getElem?_map, List.getElem?_eq_getElem (by omega), hxe]
    rfl
  rw [hxs, List.getElem?_map, hz] at h2
  simp only [Option.map_some, Option.some.injEq, DataW.lit.injEq, Lit.string.injEq] at h2
  have h3 : cs[i]? = some (.string s) := by
    have := congrArg (·[0]?) hcs
    simpa [List.getElem?_take, List.getElem?_drop] using this
  rw [h3, h2, bs_of']
end

theorem names_of {W : World} {r : List (String × DataW Unit)} (h : laidMet Tryz.prog (("samaritan/config.kindNames", .agg [.lit (.string [98, 97, 115, 105, 99]), .lit (.string [100, 111, 99, 116, 111, 114]), .lit (.string [99, 97, 114]), .lit (.string [97, 105, 114])]) :: r) W) : NamesAt W := by
  obtain ⟨ps, ⟨g', t', cs, fuel, p, q, hg', ht', hvar, hd, _, _⟩, _⟩ := h
  obtain rfl := Option.some.inj (g_names.symm.trans hg')
  have hty : (Tryz.prog.globals[0]?).map (·.type) = some 64 := by kernel_rfl
  obtain rfl := Option.some.inj (hty.symm.trans ht')
  have key := strs_cells (zs := [[98, 97, 115, 105, 99], [100, 111, 99, 116, 111, 114], [99, 97, 114], [97, 105, 114]]) Tryz.underlying64 Tryz.underlying9 (by kernel_rfl) hd
  have cell : ∀ (i : Nat) z, ([[98, 97, 115, 105, 99], [100, 111, 99, 116, 111, 114], [99, 97, 114], [97, 105, 114]] : List (List UInt8))[i]? = some z → W.cell? ⟨0, i, none⟩ = some (.string (bs z)) := by
    intro i z hz
    have := World.var?_cell g_names hvar i
    rw [this]
    have h2 := key i z hz
    simpa using h2
  exact ⟨cell 0 _ rfl, cell 1 _ rfl, cell 2 _ rfl, cell 3 _ rfl⟩

theorem rdy_of {W : World} {r1 r2 r3 r4 : List (String × DataW Unit)}
    (h1 : laidMet Tryz.prog (("internal/strconv.uint64pow10", Lib.tabData .u64 Lib.pow10Tab) :: r1) W)
    (h2 : laidMet Tryz.prog (("strconv.ErrSyntax", Rows.laid_strconv_ErrSyntax) :: r2) W)
    (h3 : laidMet Tryz.prog (("strconv.ErrRange", Rows.laid_strconv_ErrRange) :: r3) W)
    (h4 : laidMet Tryz.prog (("samaritan/config.kindNames", .agg [.lit (.string [98, 97, 115, 105, 99]), .lit (.string [100, 111, 99, 116, 111, 114]), .lit (.string [99, 97, 114]), .lit (.string [97, 105, 114])]) :: r4) W)
    (hS : W.ShapedOpen Tryz.prog) : Rdy W := ⟨ready_of h1 h2 h3 hS, names_of h4⟩
/-- the list that the rows of this seat share. -/
noncomputable abbrev laidList : List (String × DataW Unit) := Rows.configValidateRow.laid
theorem laid_fits (os : Os) : (World.holding Tryz.prog os ⟨#[], #[], []⟩).layFits Tryz.prog laidList [] = true := by kernel_rfl
theorem laid_ifaces (os : Os) : (World.holding Tryz.prog os ⟨#[], #[], []⟩).layIfaces Tryz.prog laidList (World.laidAll Tryz.prog os laidList) = true := by kernel_rfl
theorem laid_vars (os : Os) (args : Array Value) : ((World.laidAll Tryz.prog os laidList).forCall (fun _ _ => 0) ⟨#[], args, []⟩).variablesRefB Tryz.prog = true := by kernel_rfl
theorem laid_rest (os : Os) (args : Array Value) : (((World.laidAll Tryz.prog os laidList).forCall (fun _ _ => 0) ⟨#[], args, []⟩).heap.toList.drop Tryz.prog.globals.size).take ((begin Tryz.prog (fun _ _ => 0) default).world.heap.size - Tryz.prog.globals.size) =
    (begin Tryz.prog (fun _ _ => 0) default).world.heap.toList.drop Tryz.prog.globals.size := by kernel_rfl
end Go.Proofs.YtloacoalmfaceaaGreatDoor
