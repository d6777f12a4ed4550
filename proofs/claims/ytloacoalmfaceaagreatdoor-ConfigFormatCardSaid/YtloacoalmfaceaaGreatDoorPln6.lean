/-
  config.parseLine at the lines of a name and a number, and at a line of other words that begins with node (printed by genpln6.py).
-/
import Derived.Test.YtloacoalmfaceaaGreatDoorPvm6
namespace Go.Proofs.YtloacoalmfaceaaGreatDoor
open Go.RowKit Go.Maps Go.Shelf

theorem split_any (ws : List (List UInt8)) (h0 : ws ≠ []) (hn : ∀ p ∈ ws, (32 : UInt8) ∉ p) (hl : (Lib.join ws [32]).length < 4294967281) (W : World) (hr : Rdy W) :
    Calls Tryz.prog 70 #[.string (bs (Lib.join ws [32])), .string ⟨#[32]⟩] W fun e w' => e = .returned (.slice (some ⟨W.heap.size, 0, none⟩) ws.length ws.length) ∧ w' = W.alloc (.cells (ws.map strV).toArray 9) := by
  obtain ⟨m, hm⟩ := hr.r.most
  obtain ⟨h1, h2⟩ := split_words ws h0 hn
  have h := Tryz.strings_Split (bs (Lib.join ws [32])) ⟨#[32]⟩ m W (by rw [bs_size]; exact hl) hm (by decide)
  rw [h1, h2] at h
  exact h
theorem dec_blank (z : Int) : (32 : UInt8) ∉ dec z := fun h => by
  have := dec_dig z.toNat 32 h
  unfold isDig at this
  have e : (32 : UInt8).toNat = 32 := rfl
  omega
def RetLn (cb : Nat) (W : World) (pl : Int) (st : Cfg → Prop) (e : Ending) (w' : World) : Prop := e = .returned (.int .i64 pl) ∧ ∃ c', st c' ∧ PAt cb c' w' ∧ Below cb W w'
set_option maxRecDepth 100000 in
set_option maxHeartbeats 4000000 in
theorem line_val (cb : Nat) (c : Cfg) (W : World) (h : PAt cb c W) (hr : Rdy W) (nm : List UInt8) (z : Int) (hb : (32 : UInt8) ∉ nm) (hnl : nm.length ≤ 100) (h0 : 0 ≤ z) (h1 : z < 1000000000000000000)
    (n1 : nm ≠ [101, 100, 103, 101]) (n2 : nm ≠ [117, 110, 105, 116]) (n3 : nm ≠ [112, 108, 97, 110]) (pl : Int) (st : Cfg → Prop)
    (HV : Hid (∀ (W1 : World) (b o cc : Nat), PAt cb c W1 → b < W1.heap.size → W1.cell? ⟨b, o, none⟩ = some (.string (bs (dec z))) → Calls Tryz.prog 74 #[.pointer (some ⟨cb, 0, none⟩), .string (bs nm), .slice (some ⟨b, o, none⟩) 1 cc] W1 (RetVal cb W1 pl st))) :
    Calls Tryz.prog 38 #[.pointer (some ⟨cb, 0, none⟩), .string (bs (Lib.join [nm, dec z] [32]))] W (RetLn cb W pl st) := by
  have HS := Lib.hid (split_any [nm, dec z] (by simp) (by intro p hp; simp only [List.mem_cons, List.mem_nil_iff, or_false] at hp; rcases hp with rfl | rfl; exact hb; exact dec_blank z) (by have := join_le (k := 100) (acc := [nm, dec z]) [32] (by simp) (by simp; exact ⟨hnl, by have := dec_le (m := 18) (z := z) (by omega) (by omega); omega⟩); simp at this; simp; omega) W hr)
  have hbA : Below W.heap.size W (W.alloc (.cells ([nm, dec z].map strV).toArray 9)) := (Below.refl _ _).alloc (Nat.le_refl _) _
  have k0 : (W.alloc (.cells ([nm, dec z].map strV).toArray 9)).cell? ⟨W.heap.size, 0, none⟩ = some (.string (bs nm)) := by rw [World.cell?_alloc_at (hn := rfl)]; rfl
  have k1 : (W.alloc (.cells ([nm, dec z].map strV).toArray 9)).cell? ⟨W.heap.size, 1, none⟩ = some (.string (bs (dec z))) := by rw [World.cell?_alloc_at (hn := rfl)]; rfl
  have kl : W.heap.size < (W.alloc (.cells ([nm, dec z].map strV).toArray 9)).heap.size := by simp
  obtain ⟨W1, hW1⟩ : ∃ Y, Y = W.alloc (.cells ([nm, dec z].map strV).toArray 9) := ⟨_, rfl⟩
  have HP := Lib.hid (h.next hbA)
  have HB := Lib.hid (hbA.mono (Nat.le_of_lt h.lt))
  rw [← hW1] at k0 k1 kl HP HB HS
  have e1 : ((bs nm).toList == [101, 100, 103, 101]) = false := eq_toL.trans (decide_eq_false (by rw [bs_data]; exact n1))
  have e2 : ((bs nm).toList == [117, 110, 105, 116]) = false := eq_toL.trans (decide_eq_false (by rw [bs_data]; exact n2))
  have e3 : ((bs nm).toList == [112, 108, 97, 110]) = false := eq_toL.trans (decide_eq_false (by rw [bs_data]; exact n3))
  obtain ⟨T, hT⟩ : ∃ T, T = bs (Lib.join [nm, dec z] [32]) := ⟨_, rfl⟩
  rw [← hT] at HS ⊢
  have HKL := Lib.hid kl
  clear h hbA hr hb hnl n1 n2 n3 hW1 hT kl
  go_enter Tryz.func38, Tryz.ntmps38
  go_wp2_with fail
  refine HS.out.mono ?_
  rintro e w' ⟨rfl, hw⟩
  rw [hw]
  clear hw w' HS
  go_wp2_with fail
  go_quiet (fail)
  go_wp2_with fail
  refine (HV.out _ W.heap.size 1 1 (HP.out.next (below_dr (Below.refl _ _) _)) HKL.out k1).mono ?_
  rintro e w' ⟨rfl, c', hst, hp', hb'⟩
  have HE := Lib.hid (And.intro hst (And.intro hp' (HB.out.trans (below_dr (Below.refl _ _) _ |>.trans hb'))))
  clear hst hp' hb'
  go_wp2_with fail
  go_ret
  exact ⟨rfl, c', HE.out.1, HE.out.2.1, HE.out.2.2⟩
end Go.Proofs.YtloacoalmfaceaaGreatDoor
