/-
  The second function that samaritanlaw08.TravelTimesChanges hands to an iterator; an array of two integers that comes in.
-/
import Derived.Test.YtegifbmcapnkdaaDoorIt
namespace Go.Proofs.YtegifbmcapnkdaaDoor
open Go.RowKit Go.Maps Go.ChangeShapes Go.WideShapes Go.ChangeAt

set_option maxHeartbeats 1000000 in
theorem law1_any (X : World) (kb wb : Nat) (S : List ChgT) (WA : Option Addr) (wcap k : Nat) (c : ChgT) (hk : S[k]? = some c) (hl : S.length ≤ 5000) (h0 : X.cell? ⟨kb, 0, none⟩ = some (.int .i64 (k : Int))) (hf : X.frozen? ⟨kb, 0, none⟩ = false) (hw : X.cell? ⟨wb, 0, none⟩ = some (.slice WA S.length wcap)) (hS : ChgsAt X X.heap.size WA S) :
    Calls Tryd.prog 17 #[.agg #[.int .i64 c.tick, .int .i64 c.edge, .int .i64 c.time], .pointer (some ⟨kb, 0, none⟩), .pointer (some ⟨wb, 0, none⟩)] X fun e X' => e = .returned (.bool true) ∧ (Only (fun b => b = kb) X X' ∧ X'.cell? ⟨kb, 0, none⟩ = some (.int .i64 ((k + 1 : Nat) : Int)) ∧ X'.frozen? ⟨kb, 0, none⟩ = false) := by
  have hkl := (List.getElem?_eq_some_iff.1 hk).1
  obtain ⟨b, o, rfl, hbz, q0, q1, q2⟩ := chg_at hS hk
  have hkz : kb < X.heap.size := by have := World.block_lt_of_cell? X _ h0; simpa using this
  have hwz : wb < X.heap.size := by have := World.block_lt_of_cell? X _ hw; simpa using this
  have n1 : ¬ kb = X.heap.size := by omega
  have n2 : ¬ wb = X.heap.size := by omega
  have n3 : ¬ b = X.heap.size := by omega
  obtain ⟨m, hm⟩ : ∃ m, m = S.length := ⟨_, rfl⟩
  rw [← hm] at hw hl hkl
  have d0 : decide (m ≤ k) = false := by simp; omega
  have hkj : (k : Int) < (m : Int) := by omega
  have hbx := (Below.refl X.heap.size X).alloc (Nat.le_refl _) (.cells #[.int .i64 c.tick, .int .i64 c.edge, .int .i64 c.time] 25)
  have HRES := Lib.hid (show ∀ (q : Nat) (n : Int), n = ((k + 1 : Nat) : Int) → (Only (fun b => b = kb) X (((X.alloc (.cells #[.int .i64 c.tick, .int .i64 c.edge, .int .i64 c.time] 25)).drewN q).setCell ⟨kb, 0, none⟩ (.int .i64 n)) ∧ (((X.alloc (.cells #[.int .i64 c.tick, .int .i64 c.edge, .int .i64 c.time] 25)).drewN q).setCell ⟨kb, 0, none⟩ (.int .i64 n)).cell? ⟨kb, 0, none⟩ = some (.int .i64 ((k + 1 : Nat) : Int)) ∧ (((X.alloc (.cells #[.int .i64 c.tick, .int .i64 c.edge, .int .i64 c.time] 25)).drewN q).setCell ⟨kb, 0, none⟩ (.int .i64 n)).frozen? ⟨kb, 0, none⟩ = false) from fun q n hn => by
    subst hn
    refine ⟨?_, ?_, ?_⟩
    · exact ((Only.of_below (S := fun b => b = kb) hbx).drewN q).setCell (a := ⟨kb, 0, none⟩) (fun _ => rfl) _
    · exact World.cell?_setCell_same' _ _ _ (by show (World.cell? (X.alloc _) _).isSome = true; rw [hbx.cell (p := ⟨kb, 0, none⟩) hkz, h0]; rfl)
    · rw [World.frozen?_setCell]
      exact (hbx.frozen (p := ⟨kb, 0, none⟩) hkz).trans hf)
  clear hk hS hm hbx
  obtain ⟨tick, edge, time⟩ := c
  go_enter Tryd.func17, Tryd.ntmps17
  go_wp2_with fail
  go_quiet (fail)
  go_wp2_with fail
  go_ret
  refine ⟨ret_bool (by simp; omega), ?_⟩
  exact HRES.out _ _ (by omega)

section
variable {H : Type} {enc : TypeId × Value → H}
set_option maxRecDepth 100000 in
theorem open_twoI {W : World} {r : Reach} {b0 : Nat} {v : Value} {d : DataW H} {p : List MemPlace} {base : Nat} {spare : Nat → Bool} {held : Bool}
    (hv : Value.okWide Tryd.prog W r b0 41 v) (h : DataW.Trod enc Tryd.prog W base spare held 41 v d p) :
    ∃ a b : Int, v = .agg #[.int .i64 a, .int .i64 b] := by
  have hC : Tryd.prog.cellsOf 41 = 2 := by kernel_rfl
  have hC1 : Tryd.prog.cellsOf 2 = 1 := by kernel_rfl
  simp only [Value.okWide, Tryd.underlying41] at hv
  obtain ⟨cs, rfl, hsz, _⟩ := hv
  obtain ⟨l⟩ := cs
  match l, hsz.trans hC with
  | [c0, c1], _ =>
    obtain ⟨fuel, hf⟩ := h
    obtain ⟨xs, n, _, hx, _, hlen, hg⟩ := DataW.trod_array Tryd.underlying41 hf
    match xs, hlen with
    | [y0, y1], _ =>
      have g0 := hg 0 (by omega)
      have g1 := hg 1 (by omega)
      simp only [hC1, Value.cells, List.getElem?_cons_zero, List.getElem?_cons_succ] at g0 g1
      obtain ⟨a, e0, _, k0⟩ := DataW.trod_int Tryd.underlying2 g0
      obtain ⟨b, e1, _, k1⟩ := DataW.trod_int Tryd.underlying2 g1
      simp at e0 e1
      subst e0 e1
      exact ⟨a, b, rfl⟩
end
end Go.Proofs.YtegifbmcapnkdaaDoor
