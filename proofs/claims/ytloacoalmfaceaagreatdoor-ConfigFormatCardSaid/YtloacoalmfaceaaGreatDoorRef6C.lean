/-
  samaritanref06: plan, Numbers.
-/
import Derived.Test.YtloacoalmfaceaaGreatDoorRef6B
namespace Go.Proofs.YtloacoalmfaceaaGreatDoor
open Go.RowKit

set_option maxRecDepth 100000 in
set_option maxHeartbeats 4000000 in
theorem planR_any (w : World) (p : Plan) (hs : Sl w w.heap.size p.kA (p.kinds.map (Value.int .i64))) (hl : p.kinds.length ≤ 9223372036854775807) (hcs : p.code.size ≤ 9223372036854775807) :
    Calls Tryz.prog 29 #[.agg #[.string p.code, .int .i64 p.urg, .slice p.kA p.kinds.length p.kc]] w fun e w' => e = .returned (.bool (tb (PlanOk p))) ∧ Below w.heap.size w w' := by
  obtain ⟨code, urg, kA, kinds, kc⟩ := p
  dsimp only at hs hl hcs ⊢
  obtain ⟨n, hn⟩ : ∃ n, n = kinds.length := ⟨_, rfl⟩
  have HN := Lib.hid hn
  rw [← hn] at hl ⊢
  obtain ⟨W0, hW0⟩ : ∃ W0, W0 = w.alloc (.cells #[.string code, .int .i64 urg, .slice kA n kc] 43) := ⟨_, rfl⟩
  have hb0 : Below w.heap.size w W0 := by rw [hW0]; exact (Below.refl _ _).alloc (Nat.le_refl _) _
  have c0 : W0.cell? ⟨w.heap.size, 0, none⟩ = some (.string code) := by rw [hW0]; simp [go_sem]
  have c1 : W0.cell? ⟨w.heap.size, 1, none⟩ = some (.int .i64 urg) := by rw [hW0]; simp [go_sem]
  have c2 : W0.cell? ⟨w.heap.size, 2, none⟩ = some (.slice kA n kc) := by rw [hW0]; simp [go_sem]
  have HS := Lib.hid (And.intro (hs.below hb0) hb0)
  have HCC := Lib.hid (refCode_any code hcs W0)
  obtain ⟨bb, hbb⟩ : ∃ b, b = w.heap.size := ⟨_, rfl⟩
  rw [← hbb] at c0 c1 c2
  clear hs hn hb0 hcs
  go_enter Tryz.func29, Tryz.ntmps29
  go_wp2_with fail
  rw [← hW0, ← hbb]
  clear hW0 hbb
  go_loopw [8] (fun iv X => ∃ k : Nat, k ≤ n ∧ iv = .int .i64 k ∧ W0 = X ∧ ∀ z ∈ kinds.take k, KindOk z) (fun i _ => n - (intOf i).toNat)
  case atStart => exact ⟨0, by omega, rfl, rfl, by simp⟩
  case round =>
    obtain ⟨k, hk, rfl, rfl, hok⟩ := hrel
    have HOK := Lib.hid hok
    clear hok
    by_cases hlt : k < n
    · have hlt' : (k : Int) < (n : Int) := by omega
      obtain ⟨z, hz⟩ : ∃ z, kinds[k]? = some z := ⟨kinds[k]'(by have := HN.out; omega), by simp⟩
      obtain ⟨b, o, rfl, _, q⟩ := HS.out.1.int hz
      have HZ := Lib.hid hz
      clear hz
      by_cases hz1 : 1 ≤ z
      · have d1 : decide (z < 1) = false := decide_eq_false (by omega)
        by_cases hz4 : z ≤ 4
        · have d2 : decide ((4 : Int) < z) = false := decide_eq_false (by omega)
          go_wp2_with fail
          go_roundw
          case rel => exact ⟨k + 1, by omega, by go_num, trivial, (all_take_iff HZ.out).2 ⟨HOK.out, hz1, hz4⟩⟩
          case measure => simp [intOf]; omega
        · have d2 : decide ((4 : Int) < z) = true := decide_eq_true (by omega)
          have HX := Lib.hid (show ¬ KindOk z from fun h => hz4 h.2)
          go_wp2_with fail
          go_ret
          exact ⟨ret_no (fun h => HX.out (h.2.2.2 z (List.mem_of_getElem? HZ.out))), HS.out.2⟩
      · have d1 : decide (z < 1) = true := decide_eq_true (by omega)
        have HX := Lib.hid (show ¬ KindOk z from fun h => hz1 h.1)
        go_wp2_with fail
        go_ret
        exact ⟨ret_no (fun h => HX.out (h.2.2.2 z (List.mem_of_getElem? HZ.out))), HS.out.2⟩
    · have hkk : k = n := by omega
      subst hkk
      have HK := Lib.hid (show ∀ z ∈ kinds, KindOk z from by have := HOK.out; rwa [HN.out, List.take_length] at this)
      clear HOK
      by_cases hco : CodeOk code
      · have HCO := Lib.hid hco
        rw [tb_true hco] at HCC
        clear hco
        by_cases h1 : 1 ≤ urg
        · have d1 : decide (1 ≤ urg) = true := decide_eq_true h1
          by_cases h2 : urg ≤ 5
          · have d2 : decide (urg ≤ 5) = true := decide_eq_true h2
            by_cases h3 : 1 ≤ k
            · have d3 : decide ((1 : Int) ≤ (k : Int)) = true := decide_eq_true (by omega)
              by_cases h4 : k ≤ 8
              · have d4 : decide ((k : Int) ≤ 8) = true := decide_eq_true (by omega)
                have HY := Lib.hid (And.intro (And.intro h1 h2) (And.intro h3 h4))
                go_wp2_with fail
                refine HCC.out.mono ?_
                rintro e w' ⟨rfl, hw⟩
                rw [hw]
                clear hw w'
                go_wp2_with fail
                go_ret
                exact ⟨ret_yes ⟨HCO.out, HY.out.1, by have := HY.out.2; have := HN.out; dsimp only; omega, HK.out⟩, HS.out.2⟩
              · have d4 : decide ((k : Int) ≤ 8) = false := decide_eq_false (by omega)
                have HY := Lib.hid (show ¬ k ≤ 8 from h4)
                clear h4
                go_wp2_with fail
                refine HCC.out.mono ?_
                rintro e w' ⟨rfl, hw⟩
                rw [hw]
                clear hw w'
                go_wp2_with fail
                go_ret
                exact ⟨ret_no (fun h => by have h5 := h.2.2.1.2; have h6 := HN.out; have h7 := HY.out; dsimp only at h5; omega), HS.out.2⟩
            · have d3 : decide ((1 : Int) ≤ (k : Int)) = false := decide_eq_false (by omega)
              have HY := Lib.hid (show ¬ 1 ≤ k from h3)
              clear h3
              go_wp2_with fail
              refine HCC.out.mono ?_
              rintro e w' ⟨rfl, hw⟩
              rw [hw]
              clear hw w'
              go_wp2_with fail
              go_ret
              exact ⟨ret_no (fun h => by have h5 := h.2.2.1.1; have h6 := HN.out; have h7 := HY.out; dsimp only at h5; omega), HS.out.2⟩
          · have d2 : decide (urg ≤ 5) = false := decide_eq_false h2
            have HY := Lib.hid (show ¬ urg ≤ 5 from h2)
            clear h2
            go_wp2_with fail
            refine HCC.out.mono ?_
            rintro e w' ⟨rfl, hw⟩
            rw [hw]
            clear hw w'
            go_wp2_with fail
            go_ret
            exact ⟨ret_no (fun h => by have h5 := h.2.1.2; have h7 := HY.out; dsimp only at h5; omega), HS.out.2⟩
        · have d1 : decide (1 ≤ urg) = false := decide_eq_false h1
          have HY := Lib.hid (show ¬ 1 ≤ urg from h1)
          clear h1
          go_wp2_with fail
          refine HCC.out.mono ?_
          rintro e w' ⟨rfl, hw⟩
          rw [hw]
          clear hw w'
          go_wp2_with fail
          go_ret
          exact ⟨ret_no (fun h => by have h5 := h.2.1.1; have h7 := HY.out; dsimp only at h5; omega), HS.out.2⟩
      · have HCO := Lib.hid hco
        rw [tb_false hco] at HCC
        clear hco
        go_wp2_with fail
        refine HCC.out.mono ?_
        rintro e w' ⟨rfl, hw⟩
        rw [hw]
        clear hw w'
        go_wp2_with fail
        go_ret
        exact ⟨ret_no (fun h => HCO.out h.1), HS.out.2⟩
/-- an answer that is a list. -/
def RetSl (w : World) (L : List Int) (e : Ending) (w' : World) : Prop := ∃ A c, e = .returned (.slice A L.length c) ∧ Sl w' w'.heap.size A (L.map (Value.int .i64)) ∧ Below w.heap.size w w'
theorem ten_list {l : List Int} (h : l.length = 10) : ∃ a b c d e f g i j k, l = [a, b, c, d, e, f, g, i, j, k] := by
  match l, h with
  | [a, b, c, d, e, f, g, i, j, k], _ => exact ⟨a, b, c, d, e, f, g, i, j, k, rfl⟩
theorem cfg_par {c : Cfg} {k : Nat} {z : Int} (hk : c.ps[k]? = some z) : c.cells.toArray[5 + k]? = some (.int .i64 z) := by
  have h : c.cells[5 + k]? = some (.int .i64 z) := by
    unfold Cfg.cells
    rw [List.getElem?_append_right (by simp)]
    have e : 5 + k - [Value.int .i64 c.cen, .slice c.dA c.ds.length c.dc, .slice c.eA c.es.length c.ec, .slice c.uA c.us.length c.uc, .slice c.pA c.pl.length c.pc].length = k := by simp
    rw [e, List.getElem?_map, hk]
    rfl
  simpa using h
set_option maxRecDepth 100000 in
theorem numbersR_any (w : World) (c : Cfg) (hten : c.ps.length = 10) : Calls Tryz.prog 30 #[.agg c.cells.toArray] w (RetSl w c.ps) := by
  obtain ⟨p0, p1, p2, p3, p4, p5, p6, p7, p8, p9, hp⟩ := ten_list hten
  obtain ⟨X, hX⟩ : ∃ X, X = c.cells.toArray := ⟨_, rfl⟩
  have x5 : X[5]? = some (.int .i64 p0) := by rw [hX]; exact cfg_par (k := 0) (by rw [hp]; rfl)
  have x6 : X[6]? = some (.int .i64 p1) := by rw [hX]; exact cfg_par (k := 1) (by rw [hp]; rfl)
  have x7 : X[7]? = some (.int .i64 p2) := by rw [hX]; exact cfg_par (k := 2) (by rw [hp]; rfl)
  have x8 : X[8]? = some (.int .i64 p3) := by rw [hX]; exact cfg_par (k := 3) (by rw [hp]; rfl)
  have x9 : X[9]? = some (.int .i64 p4) := by rw [hX]; exact cfg_par (k := 4) (by rw [hp]; rfl)
  have x10 : X[10]? = some (.int .i64 p5) := by rw [hX]; exact cfg_par (k := 5) (by rw [hp]; rfl)
  have x11 : X[11]? = some (.int .i64 p6) := by rw [hX]; exact cfg_par (k := 6) (by rw [hp]; rfl)
  have x12 : X[12]? = some (.int .i64 p7) := by rw [hX]; exact cfg_par (k := 7) (by rw [hp]; rfl)
  have x13 : X[13]? = some (.int .i64 p8) := by rw [hX]; exact cfg_par (k := 8) (by rw [hp]; rfl)
  have x14 : X[14]? = some (.int .i64 p9) := by rw [hX]; exact cfg_par (k := 9) (by rw [hp]; rfl)
  rw [← hX, hp]
  clear hX hp hten
  go_enter Tryz.func30, Tryz.ntmps30
  go_wp2_with fail
  go_ret
  have hz : (w.alloc (.cells X 27)).heap.size = w.heap.size + 1 := by simp
  refine ⟨_, _, rfl, ?_, ((Below.refl _ _).alloc (Nat.le_refl _) _).alloc (by simp) _⟩
  exact Sl.lit (w.alloc (.cells X 27)) _ _ hz.symm
end Go.Proofs.YtloacoalmfaceaaGreatDoor
