/-
  nodeset: sets in memory; setOf, Of, Has.
-/
import Derived.Test.YtalfjcamjdmdjaaDoorAdd
namespace Go.Proofs.YtalfjcamjdmdjaaDoor
open Go.RowKit

/-- the pointer v of a set stands for the words W. -/
def SetAt (w : World) (v : Option Addr) (W : List Nat) : Prop := Wds W ∧ ((W = zeros ∧ v = none) ∨ (W ≠ zeros ∧ ∃ b, v = some ⟨b, 0, none⟩ ∧ RowAt w b W))
theorem SetAt.below {w w' : World} {v : Option Addr} {W : List Nat} (h : SetAt w v W) (hb : Below w.heap.size w w') : SetAt w' v W := by
  obtain ⟨h1, h2 | ⟨h2, b, h3, h4⟩⟩ := h
  · exact ⟨h1, .inl h2⟩
  · exact ⟨h1, .inr ⟨h2, b, h3, h4.below hb⟩⟩
def RetSet (w : World) (W : List Nat) (e : Ending) (w' : World) : Prop := ∃ v, e = .returned (.agg #[.pointer v]) ∧ SetAt w' v W ∧ Below w.heap.size w w'
theorem words_arr : (match Tryd.prog.underlying 56 with | some (.array n e) => n == 64 && e == 54 | _ => false) = true := by kernel_rfl
theorem words_size : (Tryd.prog.info? 56).map (·.size) = some 64 := by kernel_rfl
/-- what setOf returns. -/
def RetOf (w : World) (b : Nat) (W : List Nat) (e : Ending) (w' : World) : Prop := ∃ v, e = .returned (.agg #[.pointer v]) ∧ ((W = zeros ∧ v = none) ∨ (W ≠ zeros ∧ v = some ⟨b, 0, none⟩)) ∧ Below w.heap.size w w'
set_option maxRecDepth 100000 in
set_option maxHeartbeats 1000000 in
theorem setOf_any (w : World) (b : Nat) (W : List Nat) (hW : Wds W) (h : RowAt w b W) :
    Calls Tryd.prog 35 #[.pointer (some ⟨b, 0, none⟩)] w (RetOf w b W) := by
  have hb0 : Below w.heap.size w (w.alloc (.cells #[.pointer none] 30)) := (Below.refl _ _).alloc (Nat.le_refl _) _
  have h1 := h.below hb0
  have heq := fun X : World => eql_words X W zeros hW.len wds_zeros.len
  have hz : wcells zeros = (List.replicate 64 (Value.int .u64 0)).toArray := by simp [wcells, zeros]
  have hsz : (Tryd.prog.info? 56).map (·.size) = some (wcells W).size := by rw [wcells_size, hW.len]; exact words_size
  rw [hz] at heq
  simp only [List.replicate_succ, List.replicate_zero] at heq
  have H1 := Lib.hid h1
  have HS := Lib.hid hsz
  clear hb0 h1 hz hsz h hW
  cases hq : (W == zeros)
  · have hne : W ≠ zeros := fun e => by rw [e] at hq; simp at hq
    have HNE := Lib.hid hne
    rw [hq] at heq
    clear hq hne
    go_enter Tryd.func35, Tryd.ntmps35
    go_wp2_with (refine wpList_load_row rfl 56 (.tmp 4) rfl b (by rfl) 56 (wcells W) (0, 0) _ H1.out Tryd.underlying56 rfl HS.out ?_)
    refine bodyPost_ret (v := .agg #[.pointer (some ⟨b, 0, none⟩)]) (by simp [results, Tryd.results35, go_sem]) rfl ⟨_, rfl, .inr ⟨HNE.out, rfl⟩, ?_⟩
    exact (Below.refl _ _).alloc (Nat.le_refl _) _
  · have hee : W = zeros := by simpa using hq
    have HE := Lib.hid hee
    rw [hq] at heq
    clear hq hee
    go_enter Tryd.func35, Tryd.ntmps35
    go_wp2_with (refine wpList_load_row rfl 56 (.tmp 4) rfl b (by rfl) 56 (wcells W) (0, 0) _ H1.out Tryd.underlying56 rfl HS.out ?_)
    refine bodyPost_ret (v := .agg #[.pointer none]) (by simp [results, Tryd.results35, go_sem]) rfl ⟨_, rfl, .inl ⟨HE.out, rfl⟩, ?_⟩
    exact (Below.refl _ _).alloc (Nat.le_refl _) _
/-- the new row stands as a set behind a store into the result's variable. -/
theorem setAt_new {w w2 w3 : World} {b : Nat} {W : List Nat} {v : Option Addr} (hW : Wds W) (hr : RowAt w b W) (h : (W = zeros ∧ v = none) ∨ (W ≠ zeros ∧ v = some ⟨b, 0, none⟩)) (hb : Below w.heap.size w w2) {S : Nat → Prop} (ho : Only S w2 w3) (hS : ¬ S b) : SetAt w3 v W := by
  rcases h with h | ⟨h1, h2⟩
  · exact ⟨hW, .inl h⟩
  · exact ⟨hW, .inr ⟨h1, b, h2, (hr.below hb).only ho hS⟩⟩

theorem addW_len (W : List Nat) (n : Nat) : (addW W n).length = W.length := by simp [addW]
theorem wds_add {W : List Nat} (h : Wds W) {n : Nat} (hn : n < 4096) : Wds (addW W n) := by
  refine ⟨by rw [addW_len, h.len], fun x hx => ?_⟩
  unfold addW at hx
  rcases List.mem_or_eq_of_mem_set hx with hx | rfl
  · exact h.lt x hx
  · have h1 : 2 ^ (n % 64) < 2 ^ 64 := Nat.pow_lt_pow_right (by decide) (by omega)
    have h2 : W.getD (n / 64) 0 < 2 ^ 64 := by
      rw [List.getD_eq_getElem?_getD, List.getElem?_eq_getElem (by rw [h.len]; omega)]
      exact h.lt _ (List.getElem_mem _)
    exact Nat.or_lt_two_pow h2 h1
theorem has_add {W : List Nat} (hl : W.length = 64) {n : Nat} (hn : n < 4096) (m : Nat) : hasW (addW W n) m = (hasW W m || decide (m = n)) := by
  unfold hasW addW
  by_cases hq : m / 64 = n / 64
  · rw [hq, List.getD_eq_getElem?_getD, List.getElem?_set_self (by omega), Option.getD_some, Nat.testBit_or, Nat.testBit_two_pow]
    congr 1
    rw [decide_eq_decide]
    omega
  · rw [List.getD_eq_getElem?_getD, List.getElem?_set_ne (fun e => hq e.symm), ← List.getD_eq_getElem?_getD, show decide (m = n) = false from decide_eq_false (fun e => hq (by rw [e])), Bool.or_false]
def ofStep (W : List Nat) (z : Int) : List Nat := if 0 ≤ z ∧ z < 4096 then addW W z.toNat else W
def ofW (zs : List Int) : List Nat := zs.foldl ofStep zeros
theorem ofW_snoc (zs : List Int) (z : Int) : ofW (zs ++ [z]) = ofStep (ofW zs) z := by unfold ofW; rw [List.foldl_append]; rfl
theorem ofW_take {zs : List Int} {k : Nat} {z : Int} (h : zs[k]? = some z) : ofW (zs.take (k + 1)) = ofStep (ofW (zs.take k)) z := by
  rw [List.take_succ_eq_append_getElem (List.getElem?_eq_some_iff.1 h).1, ofW_snoc, (List.getElem?_eq_some_iff.1 h).2]
theorem wds_fold : ∀ (zs : List Int) {W : List Nat}, Wds W → Wds (zs.foldl ofStep W)
  | [], _, h => h
  | z :: zs, W, h => by
    refine wds_fold zs ?_
    unfold ofStep
    split
    · exact wds_add h (by omega)
    · exact h
theorem wds_of (zs : List Int) : Wds (ofW zs) := wds_fold zs wds_zeros
theorem has_fold : ∀ (zs : List Int) {W : List Nat}, Wds W → ∀ m : Nat, (hasW (zs.foldl ofStep W) m = true ↔ hasW W m = true ∨ (m < 4096 ∧ (m : Int) ∈ zs))
  | [], _, _, m => by simp
  | z :: zs, W, h, m => by
    have hs : Wds (ofStep W z) := by
      unfold ofStep
      split
      · exact wds_add h (by omega)
      · exact h
    rw [List.foldl_cons, has_fold zs hs m]
    unfold ofStep
    split
    · rename_i hz
      rw [has_add h.len (by omega)]
      simp only [Bool.or_eq_true, decide_eq_true_eq, List.mem_cons]
      constructor
      · rintro ((h1 | h1) | ⟨h1, h2⟩)
        · exact .inl h1
        · exact .inr ⟨by omega, .inl (by omega)⟩
        · exact .inr ⟨h1, .inr h2⟩
      · rintro (h1 | ⟨h1, h2 | h2⟩)
        · exact .inl (.inl h1)
        · exact .inl (.inr (by omega))
        · exact .inr ⟨h1, h2⟩
    · rename_i hz
      simp only [List.mem_cons]
      constructor
      · rintro (h1 | ⟨h1, h2⟩)
        · exact .inl h1
        · exact .inr ⟨h1, .inr h2⟩
      · rintro (h1 | ⟨h1, h2 | h2⟩)
        · exact .inl h1
        · exact absurd ⟨by omega, by omega⟩ hz
        · exact .inr ⟨h1, h2⟩
theorem has_zeros (m : Nat) : hasW zeros m = false := by
  cases h : hasW zeros m
  · rfl
  · have := mem_nodes.2 h
    rw [nodes_zeros] at this
    cases this
theorem mem_of {zs : List Int} {m : Nat} : m ∈ nodesW (ofW zs) ↔ m < 4096 ∧ (m : Int) ∈ zs := by
  rw [mem_nodes]
  unfold ofW
  rw [has_fold zs wds_zeros, has_zeros]
  simp
set_option maxRecDepth 100000 in
set_option maxHeartbeats 1000000 in
theorem of_any (w : World) (A : Option Addr) (c : Nat) (zs : List Int) (h : Sl w w.heap.size A (zs.map (Value.int .i64))) (hl : zs.length ≤ 1099511627) :
    Calls Tryd.prog 13 #[.slice A zs.length c] w (RetSet w (ofW zs)) := by
  obtain ⟨bb, hbb⟩ : ∃ bb, bb = w.heap.size + 1 := ⟨_, rfl⟩
  obtain ⟨W0, hW0⟩ : ∃ W0, W0 = (w.alloc (.cells #[.pointer none] 30)).alloc (.cells (wcells zeros) 56) := ⟨_, rfl⟩
  have hb0 : Below w.heap.size w W0 := by rw [hW0]; exact ((Below.refl _ _).alloc (Nat.le_refl _) _).alloc (by simp) _
  have hr0 : RowAt W0 bb zeros := by
    have := rowAt_zeros (w.alloc (.cells #[.pointer none] 30))
    rw [← hW0] at this
    have e : (w.alloc (.cells #[.pointer none] 30)).heap.size = bb := by rw [hbb]; simp
    rw [e] at this
    exact this
  have hwz : wcells zeros = (List.replicate 64 (Value.int .u64 0)).toArray := by simp [wcells, zeros]
  rw [hwz] at hW0
  simp only [List.replicate_succ, List.replicate_zero] at hW0
  obtain ⟨n, hn⟩ : ∃ n, n = zs.length := ⟨_, rfl⟩
  have HN := Lib.hid hn
  rw [← hn] at hl ⊢
  have HB0 := Lib.hid hb0
  have HR0 := Lib.hid hr0
  have HS := Lib.hid h
  have HW0 := Lib.hid hW0
  have HBB := Lib.hid hbb
  have hbw : ¬ w.heap.size = bb := by omega
  have hz0 : w.heap.size < W0.heap.size := by have := hr0.lt; omega
  have hk0 : W0.cell? ⟨w.heap.size, 0, none⟩ = some (.pointer none) := by
    rw [hW0]
    exact ((Below.refl (w.alloc (.cells #[.pointer none] 30)).heap.size _).alloc (Nat.le_refl _) _).cell (p := ⟨w.heap.size, 0, none⟩) (by simp) |>.trans (by rw [World.cell?_alloc_at (hn := rfl)]; rfl)
  have hf0 : W0.frozen? ⟨w.heap.size, 0, none⟩ = false := by
    rw [hW0]
    exact ((Below.refl (w.alloc (.cells #[.pointer none] 30)).heap.size _).alloc (Nat.le_refl _) _).frozen (p := ⟨w.heap.size, 0, none⟩) (by simp) |>.trans (by rw [World.frozen?_alloc_at (hn := rfl)])
  have HK0 := Lib.hid (And.intro hk0 hf0)
  clear hb0 hr0 h hW0 hwz hn hbb hk0 hf0
  go_enter Tryd.func13, Tryd.ntmps13
  go_wp2_with fail
  rw [← HW0.out, ← HBB.out]
  go_loopw [5, 8] (fun _ iv wr => ∃ k : Nat, k ≤ n ∧ iv = .int .i64 k ∧ RowAt wr bb (ofW (zs.take k)) ∧ Only (fun b => b = bb) W0 wr) (fun _ i _ => n - (intOf i).toNat)
  case atStart => exact ⟨0, Nat.zero_le _, rfl, HR0.out, Only.refl⟩
  case round =>
    obtain ⟨k, hk, rfl, hrow, hb⟩ := hrel
    have HROW := Lib.hid hrow
    have HB := Lib.hid hb
    have HBW := Lib.hid (HB0.out.trans (hb.below (B := w.heap.size) (Nat.le_of_lt hz0) (fun j e => by have e : j = bb := e; have := HBB.out; omega)))
    clear hrow hb
    by_cases hlt : k < n
    · obtain ⟨z, hz⟩ : ∃ z, zs[k]? = some z := ⟨zs[k]'(by have := HN.out; omega), by simp⟩
      obtain ⟨b', o', rfl, _, hc⟩ := (HS.out.below HBW.out).int hz
      have HT := Lib.hid (ofW_take hz)
      clear hz
      by_cases h0 : 0 ≤ z ∧ z < 4096
      · obtain ⟨z0, z1⟩ := h0
        obtain ⟨m, rfl⟩ : ∃ m : Nat, z = (m : Int) := ⟨z.toNat, by omega⟩
        have HA := Lib.hid (add_any wr bb m _ (wds_of _) HROW.out (by omega))
        have HST := Lib.hid (show ofStep (ofW (zs.take k)) (m : Int) = addW (ofW (zs.take k)) m by unfold ofStep; rw [if_pos ⟨z0, z1⟩]; rfl)
        go_wp2_with fail
        refine HA.out.mono ?_
        rintro e w2 ⟨⟨v, rfl⟩, hrow2, ho2⟩
        have HR2 := Lib.hid hrow2
        have HO2 := Lib.hid ho2
        clear hrow2 ho2
        go_wp2_with fail
        go_roundw
        case rel => exact ⟨k + 1, by omega, by go_num, by rw [HT.out, HST.out]; exact HR2.out, HB.out.trans HO2.out (fun _ _ q => q)⟩
        case measure => simp [intOf]; omega
      · have HST := Lib.hid (show ofStep (ofW (zs.take k)) z = ofW (zs.take k) by unfold ofStep; rw [if_neg h0])
        by_cases z0 : 0 ≤ z
        · have z1 : ¬ z < 4096 := fun q => h0 ⟨z0, q⟩
          clear h0
          go_wp2_with fail
          go_roundw
          case rel => exact ⟨k + 1, by omega, by go_num, by rw [HT.out, HST.out]; exact HROW.out, HB.out⟩
          case measure => simp [intOf]; omega
        · clear h0
          go_wp2_with fail
          go_roundw
          case rel => exact ⟨k + 1, by omega, by go_num, by rw [HT.out, HST.out]; exact HROW.out, HB.out⟩
          case measure => simp [intOf]; omega
    · have hkk : k = n := by omega
      subst hkk
      have hrow : RowAt wr bb (ofW zs) := by have := HROW.out; rw [HN.out, List.take_length] at this; exact this
      have HRW := Lib.hid hrow
      have HSO := Lib.hid (setOf_any wr bb (ofW zs) (wds_of _) hrow)
      clear hrow
      go_wp2_with fail
      refine HSO.out.mono ?_
      rintro e w2 ⟨v, rfl, hv, hb2⟩
      have hzw : w.heap.size < wr.heap.size := Nat.lt_of_lt_of_le hz0 HB.out.size
      have k2 : w2.cell? ⟨w.heap.size, 0, none⟩ = some (.pointer none) := (hb2.cell (p := ⟨w.heap.size, 0, none⟩) hzw).trans ((HB.out.cell (a := ⟨w.heap.size, 0, none⟩) hz0 hbw).trans HK0.out.1)
      have f2 : w2.frozen? ⟨w.heap.size, 0, none⟩ = false := (hb2.frozen (p := ⟨w.heap.size, 0, none⟩) hzw).trans ((HB.out.frozen (a := ⟨w.heap.size, 0, none⟩) hz0 hbw).trans HK0.out.2)
      have HV := Lib.hid hv
      have HB2 := Lib.hid hb2
      clear hv hb2
      go_wp2_with fail
      refine bodyPost_ret (v := .agg #[.pointer v]) (by simp [results, Tryd.results13, go_sem, k2]) rfl ⟨_, rfl, ?_, ?_⟩
      · exact setAt_new (wds_of _) HRW.out HV.out HB2.out (S := fun j => j = w.heap.size) (Only.setCell (S := fun j => j = w.heap.size) Only.refl (a := ⟨w.heap.size, 0, none⟩) (fun _ => rfl) _) (fun q => hbw q.symm)
      · exact (HBW.out.trans (HB2.out.mono HBW.out.size)).setCell (p := ⟨w.heap.size, 0, none⟩) (Nat.le_refl _) _
end Go.Proofs.YtalfjcamjdmdjaaDoor
