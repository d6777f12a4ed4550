/-
  The names of the kinds, as the package's variable holds them; responseplan.kindOf, samaritanref31.Word: what each returns.
-/
import Derived.Test.YtcpplebgocbnhaaDoorTextP
import Derived.OpenShut
namespace Go.Proofs.YtcpplebgocbnhaaDoor
open Go.RowKit Go.Maps

section
variable {P : Program}
theorem strs_cells {H : Type} {enc : TypeId × Value → H} {w : World} {base : Nat} {sp : Nat → Bool} {held : Bool} {fuel : Nat} {t e : TypeId} {n : Nat} {cs : List Value} {zs : List (List UInt8)} {p : List MemPlace}
    (ht : P.underlying t = some (.array n e)) (he : P.underlying e = some .string) (hce : P.cellsOf e = 1)
    (h : DataW.trod enc P w base sp held fuel t cs = some (.agg (zs.map fun z => .lit (.string z)), p)) : ∀ (i : Nat) (z : List UInt8), zs[i]? = some z → cs[i]? = some (.string (bs z)) := by
  obtain ⟨xs, m, _, hx, _, hl, hat⟩ := DataW.trod_array ht h
  have hxs : xs.map (·.1) = zs.map fun z => (DataW.lit (.string z) : DataW H) := by
    have := congrArg Prod.fst hx
    simpa using this.symm
  intro i z hz
  have hi : i < n := by
    have h1 := (List.getElem?_eq_some_iff.1 hz).1
    have h2 := congrArg List.length hxs
    simp at h2
    omega
  have h1 := hat i hi
  rw [hce, Nat.mul_one, List.getElem?_eq_getElem (by omega)] at h1
  obtain ⟨s, hcs, hxe, _⟩ := DataW.trod_string he h1
  have h2 : (xs.map (·.1))[i]? = some (DataW.lit (.string s.data.toList) : DataW H) := by
    rw [List.getElem?_map, List.getElem?_eq_getElem (by omega), hxe]
    rfl
  rw [hxs, List.getElem?_map, hz] at h2
  simp only [Option.map_some, Option.some.injEq, DataW.lit.injEq, Lit.string.injEq] at h2
  have h3 : cs[i]? = some (.string s) := by
    have := congrArg (·[0]?) hcs
    simpa [List.getElem?_take, List.getElem?_drop] using this
  rw [h3, h2, ← bs_of s]
end

/-- the variable kindNames. -/
def NamesAt (w : World) : Prop := w.cell? ⟨0, 0, none⟩ = some (.string ⟨#[98, 97, 115, 105, 99]⟩) ∧ w.cell? ⟨0, 1, none⟩ = some (.string ⟨#[100, 111, 99, 116, 111, 114]⟩) ∧
  w.cell? ⟨0, 2, none⟩ = some (.string ⟨#[99, 97, 114]⟩) ∧ w.cell? ⟨0, 3, none⟩ = some (.string ⟨#[97, 105, 114]⟩)
theorem lt_names : 0 < Tryd.prog.globals.size := of_decide_eq_true (by kernel_rfl)
theorem g_names : Tryd.prog.globalNamed "samaritan/responseplan.kindNames" = some 0 := by kernel_rfl
theorem NamesAt.keep {w w' : World} {B : Nat} (h : NamesAt w) (hb : Below B w w') (hB : Tryd.prog.globals.size ≤ B) : NamesAt w' := by
  have hl : 0 < B := Nat.lt_of_lt_of_le lt_names hB
  exact ⟨(hb.cell (p := ⟨0, 0, none⟩) hl).trans h.1, (hb.cell (p := ⟨0, 1, none⟩) hl).trans h.2.1,
    (hb.cell (p := ⟨0, 2, none⟩) hl).trans h.2.2.1, (hb.cell (p := ⟨0, 3, none⟩) hl).trans h.2.2.2⟩
theorem NamesAt.at {w : World} (h : NamesAt w) {k : Int} (hk : kindB k = true) : w.cell? ⟨0, (k - 1).toNat, none⟩ = some (.string (bs (kindName k))) := by
  unfold kindB at hk
  rw [decide_eq_true_eq] at hk
  have : k = 1 ∨ k = 2 ∨ k = 3 ∨ k = 4 := by omega
  rcases this with rfl | rfl | rfl | rfl
  · exact h.1
  · exact h.2.1
  · exact h.2.2.1
  · exact h.2.2.2
theorem names_of {W : World} {r : List (String × DataW Unit)} (h : laidMet Tryd.prog (("samaritan/responseplan.kindNames", .agg [.lit (.string [98, 97, 115, 105, 99]), .lit (.string [100, 111, 99, 116, 111, 114]), .lit (.string [99, 97, 114]), .lit (.string [97, 105, 114])]) :: r) W) : NamesAt W := by
  obtain ⟨ps, ⟨g', t', cs, fuel, p, q, hg', ht', hvar, hd, _, _⟩, _⟩ := h
  obtain rfl := Option.some.inj (g_names.symm.trans hg')
  have hty : (Tryd.prog.globals[0]?).map (·.type) = some 60 := by kernel_rfl
  obtain rfl := Option.some.inj (hty.symm.trans ht')
  have key := strs_cells (zs := [[98, 97, 115, 105, 99], [100, 111, 99, 116, 111, 114], [99, 97, 114], [97, 105, 114]]) Tryd.underlying60 Tryd.underlying9 (by kernel_rfl) hd
  have cell : ∀ (i : Nat) z, ([[98, 97, 115, 105, 99], [100, 111, 99, 116, 111, 114], [99, 97, 114], [97, 105, 114]] : List (List UInt8))[i]? = some z → W.cell? ⟨0, i, none⟩ = some (.string (bs z)) := by
    intro i z hz
    have := World.var?_cell g_names hvar i
    rw [this]
    have h2 := key i z hz
    simpa using h2
  exact ⟨cell 0 _ rfl, cell 1 _ rfl, cell 2 _ rfl, cell 3 _ rfl⟩

theorem eq_toL {s : ByteArray} {l : List UInt8} : (s.toList == l) = decide (s.data.toList = l) := by
  rw [toL, Bool.eq_iff_iff]
  simp

theorem kn0 (w : World) : (Instr.index 60 (.agg #[.string ⟨#[98, 97, 115, 105, 99]⟩, .string ⟨#[100, 111, 99, 116, 111, 114]⟩, .string ⟨#[99, 97, 114]⟩, .string ⟨#[97, 105, 114]⟩]) (.int .i64 0)).run Tryd.prog w = .ok (.string ⟨#[98, 97, 115, 105, 99]⟩) w := by kernel_rfl
theorem kn1 (w : World) : (Instr.index 60 (.agg #[.string ⟨#[98, 97, 115, 105, 99]⟩, .string ⟨#[100, 111, 99, 116, 111, 114]⟩, .string ⟨#[99, 97, 114]⟩, .string ⟨#[97, 105, 114]⟩]) (.int .i64 1)).run Tryd.prog w = .ok (.string ⟨#[100, 111, 99, 116, 111, 114]⟩) w := by kernel_rfl
theorem kn2 (w : World) : (Instr.index 60 (.agg #[.string ⟨#[98, 97, 115, 105, 99]⟩, .string ⟨#[100, 111, 99, 116, 111, 114]⟩, .string ⟨#[99, 97, 114]⟩, .string ⟨#[97, 105, 114]⟩]) (.int .i64 2)).run Tryd.prog w = .ok (.string ⟨#[99, 97, 114]⟩) w := by kernel_rfl
theorem kn3 (w : World) : (Instr.index 60 (.agg #[.string ⟨#[98, 97, 115, 105, 99]⟩, .string ⟨#[100, 111, 99, 116, 111, 114]⟩, .string ⟨#[99, 97, 114]⟩, .string ⟨#[97, 105, 114]⟩]) (.int .i64 3)).run Tryd.prog w = .ok (.string ⟨#[97, 105, 114]⟩) w := by kernel_rfl

/-- the text is none of the first k names. -/
def Miss (l : List UInt8) (k : Nat) : Prop := (1 ≤ k → l ≠ [98, 97, 115, 105, 99]) ∧ (2 ≤ k → l ≠ [100, 111, 99, 116, 111, 114]) ∧ (3 ≤ k → l ≠ [99, 97, 114]) ∧ (4 ≤ k → l ≠ [97, 105, 114])
theorem flip_eq (l : List UInt8) (s : ByteArray) : (l == s.toList) = decide (s.data.toList = l) := by
  rw [toL, Bool.eq_iff_iff, beq_iff_eq, decide_eq_true_eq]
  exact ⟨Eq.symm, Eq.symm⟩

set_option maxRecDepth 100000 in
theorem kindOf_any (s : ByteArray) (w : World) (hn : NamesAt w) :
    Calls Tryd.prog 52 #[.string s] w fun e w' => e = .returned (.int .i64 (kindNum s.data.toList)) ∧ w = w' := by
  obtain ⟨n0, n1, n2, n3⟩ := hn
  have HK : Hid (kindNum s.data.toList = if s.data.toList = [98, 97, 115, 105, 99] then 1 else if s.data.toList = [100, 111, 99, 116, 111, 114] then 2 else if s.data.toList = [99, 97, 114] then 3 else if s.data.toList = [97, 105, 114] then 4 else 0) := rfl
  generalize kindNum s.data.toList = r at *
  go_enter Tryd.func52, Tryd.ntmps52
  go_wp2_with fail
  go_loop [6] (fun i => ∃ k : Nat, k ≤ 4 ∧ i = .int .i64 k ∧ Miss s.data.toList k) (fun i => 4 - (intOf i).toNat)
  case atStart => exact ⟨0, by omega, rfl, by unfold Miss; exact ⟨fun h => by omega, fun h => by omega, fun h => by omega, fun h => by omega⟩⟩
  case round =>
    obtain ⟨k, hk, rfl, hmiss⟩ := hrel
    have HM := Lib.hid hmiss
    clear hmiss
    have hk4 : k = 0 ∨ k = 1 ∨ k = 2 ∨ k = 3 ∨ k = 4 := by omega
    rcases hk4 with rfl | rfl | rfl | rfl | rfl
    · have hi := kn0 w
      have e1 := flip_eq [98, 97, 115, 105, 99] s
      by_cases h : s.data.toList = [98, 97, 115, 105, 99]
      · rw [decide_eq_true h] at e1
        have HR : Hid (r = 1) := by show _ = _; rw [HK.out, if_pos h]
        clear h
        go_wp2_with fail
        go_ret
        exact ⟨ret_int HR.out.symm, rfl⟩
      · rw [decide_eq_false h] at e1
        have HN : Hid (Miss s.data.toList 1) := ⟨fun _ => h, fun h => by omega, fun h => by omega, fun h => by omega⟩
        clear h
        go_wp2_with fail
        go_round
        case rel => exact ⟨1, by omega, rfl, HN.out⟩
        case measure => simp [intOf]
    · have hi := kn1 w
      have e1 := flip_eq [100, 111, 99, 116, 111, 114] s
      by_cases h : s.data.toList = [100, 111, 99, 116, 111, 114]
      · rw [decide_eq_true h] at e1
        have HR : Hid (r = 2) := by show _ = _; rw [HK.out, if_neg (HM.out.1 (by omega)), if_pos h]
        clear h
        go_wp2_with fail
        go_ret
        exact ⟨ret_int HR.out.symm, rfl⟩
      · rw [decide_eq_false h] at e1
        have HN : Hid (Miss s.data.toList 2) := ⟨fun _ => HM.out.1 (by omega), fun _ => h, fun h => by omega, fun h => by omega⟩
        clear h
        go_wp2_with fail
        go_round
        case rel => exact ⟨2, by omega, rfl, HN.out⟩
        case measure => simp [intOf]
    · have hi := kn2 w
      have e1 := flip_eq [99, 97, 114] s
      by_cases h : s.data.toList = [99, 97, 114]
      · rw [decide_eq_true h] at e1
        have HR : Hid (r = 3) := by show _ = _; rw [HK.out, if_neg (HM.out.1 (by omega)), if_neg (HM.out.2.1 (by omega)), if_pos h]
        clear h
        go_wp2_with fail
        go_ret
        exact ⟨ret_int HR.out.symm, rfl⟩
      · rw [decide_eq_false h] at e1
        have HN : Hid (Miss s.data.toList 3) := ⟨fun _ => HM.out.1 (by omega), fun _ => HM.out.2.1 (by omega), fun _ => h, fun h => by omega⟩
        clear h
        go_wp2_with fail
        go_round
        case rel => exact ⟨3, by omega, rfl, HN.out⟩
        case measure => simp [intOf]
    · have hi := kn3 w
      have e1 := flip_eq [97, 105, 114] s
      by_cases h : s.data.toList = [97, 105, 114]
      · rw [decide_eq_true h] at e1
        have HR : Hid (r = 4) := by show _ = _; rw [HK.out, if_neg (HM.out.1 (by omega)), if_neg (HM.out.2.1 (by omega)), if_neg (HM.out.2.2.1 (by omega)), if_pos h]
        clear h
        go_wp2_with fail
        go_ret
        exact ⟨ret_int HR.out.symm, rfl⟩
      · rw [decide_eq_false h] at e1
        have HN : Hid (Miss s.data.toList 4) := ⟨fun _ => HM.out.1 (by omega), fun _ => HM.out.2.1 (by omega), fun _ => HM.out.2.2.1 (by omega), fun _ => h⟩
        clear h
        go_wp2_with fail
        go_round
        case rel => exact ⟨4, by omega, rfl, HN.out⟩
        case measure => simp [intOf]
    · have HR : Hid (r = 0) := by show _ = _; rw [HK.out, if_neg (HM.out.1 (by omega)), if_neg (HM.out.2.1 (by omega)), if_neg (HM.out.2.2.1 (by omega)), if_neg (HM.out.2.2.2 (by omega))]
      go_wp2_with fail
      go_ret
      exact ⟨ret_int HR.out.symm, rfl⟩

theorem word_any (k : Int) (w : World) :
    Calls Tryd.prog 50 #[.int .i64 k] w fun e w' => e = .returned (.string (bs (kindName k))) ∧ w = w' := by
  have HK : Hid (kindName k = if k = 1 then [98, 97, 115, 105, 99] else if k = 2 then [100, 111, 99, 116, 111, 114] else if k = 3 then [99, 97, 114] else [97, 105, 114]) := rfl
  generalize kindName k = r at *
  go_enter Tryd.func50, Tryd.ntmps50
  by_cases h1 : k = 1
  · have HR : Hid (r = [98, 97, 115, 105, 99]) := by show _ = _; rw [HK.out, if_pos h1]
    go_wp2_with fail
    go_ret
    exact ⟨ret_str (by rw [HR.out]; rfl), rfl⟩
  by_cases h2 : k = 2
  · have HR : Hid (r = [100, 111, 99, 116, 111, 114]) := by show _ = _; rw [HK.out, if_neg h1, if_pos h2]
    go_wp2_with fail
    go_ret
    exact ⟨ret_str (by rw [HR.out]; rfl), rfl⟩
  by_cases h3 : k = 3
  · have HR : Hid (r = [99, 97, 114]) := by show _ = _; rw [HK.out, if_neg h1, if_neg h2, if_pos h3]
    go_wp2_with fail
    go_ret
    exact ⟨ret_str (by rw [HR.out]; rfl), rfl⟩
  · have HR : Hid (r = [97, 105, 114]) := by show _ = _; rw [HK.out, if_neg h1, if_neg h2, if_neg h3]
    go_wp2_with fail
    go_ret
    exact ⟨ret_str (by rw [HR.out]; rfl), rfl⟩
end Go.Proofs.YtcpplebgocbnhaaDoor
