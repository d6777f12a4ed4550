/-
  config.parameters: the ten parameters with their functions.
-/
import Derived.Test.YtloacoalmfaceaaGreatDoorValP
import Derived.Laws.ResultCell
import Derived.Laws.EntriesVeiled
namespace Go.Proofs.YtloacoalmfaceaaGreatDoor
open Go.RowKit

theorem new_obj (w : World) (o : Obj) : (w.alloc o).heap[w.heap.size]? = some o := by
  show (w.heap.push o)[w.heap.size]? = some o
  simp
set_option maxRecDepth 100000 in
theorem duration_any (w : World) (nm : ByteArray) (lo hi : Int) (fid : Nat) : Calls Tryz.prog 57 #[.string nm, .int .i64 lo, .int .i64 hi, .func (.func fid) #[] #[]] w fun e w' => e = .returned (.agg #[.string nm, .int .i64 lo, .int .i64 hi, .func (.func 81) #[] #[.pointer (some ⟨w.heap.size, 0, none⟩)], .func (.func 82) #[] #[.pointer (some ⟨w.heap.size, 0, none⟩)]]) ∧ Below w.heap.size w w' ∧ w.heap.size < w'.heap.size ∧ w'.cell? ⟨w.heap.size, 0, none⟩ = some (.func (.func fid) #[] #[]) := by
  go_enter Tryz.func57, Tryz.ntmps57
  go_wp2_with fail
  obtain ⟨W0, hW0⟩ : ∃ W0, W0 = w.alloc (.cells #[.func (.func fid) #[] #[]] 95) := ⟨_, rfl⟩
  have hb0 : Below w.heap.size w W0 := by rw [hW0]; exact (Below.refl _ _).alloc (Nat.le_refl _) _
  have hc0 : W0.cell? ⟨w.heap.size, 0, none⟩ = some (.func (.func fid) #[] #[]) := by rw [hW0]; simp [go_sem]
  have hz0 : W0.heap.size = w.heap.size + 1 := by rw [hW0]; simp
  rw [← hW0, ← hz0]
  refine bodyPost_ret (results_cell_row Tryz.results57 _ _ W0.heap.size 70 _ (0, 0) _ (by rfl) (new_obj W0 _) Tryz.underlying70 rfl (by kernel_rfl)) rfl ⟨rfl, hb0.alloc hb0.size _, by simp; omega, ?_⟩
  exact (World.cell?_alloc_lt W0 _ _ (by rw [hz0]; exact Nat.lt_succ_self _)).trans hc0
set_option maxRecDepth 100000 in
theorem quantity_any (w : World) (nm : ByteArray) (lo hi : Int) (fid : Nat) : Calls Tryz.prog 66 #[.string nm, .int .i64 lo, .int .i64 hi, .func (.func fid) #[] #[]] w fun e w' => e = .returned (.agg #[.string nm, .int .i64 lo, .int .i64 hi, .func (.func 83) #[] #[.pointer (some ⟨w.heap.size, 0, none⟩)], .func (.func 84) #[] #[.pointer (some ⟨w.heap.size, 0, none⟩)]]) ∧ Below w.heap.size w w' ∧ w.heap.size < w'.heap.size ∧ w'.cell? ⟨w.heap.size, 0, none⟩ = some (.func (.func fid) #[] #[]) := by
  go_enter Tryz.func66, Tryz.ntmps66
  go_wp2_with fail
  obtain ⟨W0, hW0⟩ : ∃ W0, W0 = w.alloc (.cells #[.func (.func fid) #[] #[]] 98) := ⟨_, rfl⟩
  have hb0 : Below w.heap.size w W0 := by rw [hW0]; exact (Below.refl _ _).alloc (Nat.le_refl _) _
  have hc0 : W0.cell? ⟨w.heap.size, 0, none⟩ = some (.func (.func fid) #[] #[]) := by rw [hW0]; simp [go_sem]
  have hz0 : W0.heap.size = w.heap.size + 1 := by rw [hW0]; simp
  rw [← hW0, ← hz0]
  refine bodyPost_ret (results_cell_row Tryz.results66 _ _ W0.heap.size 70 _ (0, 0) _ (by rfl) (new_obj W0 _) Tryz.underlying70 rfl (by kernel_rfl)) rfl ⟨rfl, hb0.alloc hb0.size _, by simp; omega, ?_⟩
  exact (World.cell?_alloc_lt W0 _ _ (by rw [hz0]; exact Nat.lt_succ_self _)).trans hc0
/-- @@REST@@ -/
def parNm : Nat → ByteArray
  | 0 => ⟨#[98, 101, 97, 116]⟩
  | 1 => ⟨#[112, 97, 116, 105, 101, 110, 99, 101]⟩
  | 2 => ⟨#[101, 108, 101, 99, 116, 105, 111, 110]⟩
  | 3 => ⟨#[108, 101, 97, 115, 101]⟩
  | 4 => ⟨#[115, 105, 108, 101, 110, 99, 101]⟩
  | 5 => ⟨#[97, 103, 97, 105, 110]⟩
  | 6 => ⟨#[110, 101, 97, 114]⟩
  | 7 => ⟨#[119, 105, 110, 100, 111, 119]⟩
  | 8 => ⟨#[114, 101, 115, 101, 114, 118, 101]⟩
  | _ => ⟨#[114, 111, 111, 109]⟩
def parFld : Nat → Nat
  | 0 => 58
  | 1 => 59
  | 2 => 60
  | 3 => 61
  | 4 => 62
  | 5 => 63
  | 6 => 64
  | 7 => 65
  | 8 => 67
  | _ => 68
def parGet (k : Nat) : Nat := if k < 8 then 81 else 83
def parSet (k : Nat) : Nat := if k < 8 then 82 else 84
/-- the list of the parameters lies in block g; the k-th's own functions read block bx k. -/
structure ParsAt (W : World) (g : Nat) (bx : Nat → Nat) : Prop where
  nm : ∀ k, k < 10 → W.cell? ⟨g, k * 5, none⟩ = some (.string (parNm k))
  lo : ∀ k, k < 10 → W.cell? ⟨g, k * 5 + 1, none⟩ = some (.int .i64 (parLow k))
  hi : ∀ k, k < 10 → W.cell? ⟨g, k * 5 + 2, none⟩ = some (.int .i64 (parHigh k))
  get : ∀ k, k < 10 → W.cell? ⟨g, k * 5 + 3, none⟩ = some (.func (.func (parGet k)) #[] #[.pointer (some ⟨bx k, 0, none⟩)])
  set : ∀ k, k < 10 → W.cell? ⟨g, k * 5 + 4, none⟩ = some (.func (.func (parSet k)) #[] #[.pointer (some ⟨bx k, 0, none⟩)])
  fld : ∀ k, k < 10 → W.cell? ⟨bx k, 0, none⟩ = some (.func (.func (parFld k)) #[] #[])
  lt : g < W.heap.size ∧ ∀ k, k < 10 → bx k < W.heap.size
theorem ParsAt.below {W W' : World} {g : Nat} {bx : Nat → Nat} (h : ParsAt W g bx) (hb : Below W.heap.size W W') : ParsAt W' g bx :=
  ⟨fun k hk => (hb.cell (p := ⟨g, k * 5, none⟩) h.lt.1).trans (h.nm k hk), fun k hk => (hb.cell (p := ⟨g, k * 5 + 1, none⟩) h.lt.1).trans (h.lo k hk), fun k hk => (hb.cell (p := ⟨g, k * 5 + 2, none⟩) h.lt.1).trans (h.hi k hk), fun k hk => (hb.cell (p := ⟨g, k * 5 + 3, none⟩) h.lt.1).trans (h.get k hk), fun k hk => (hb.cell (p := ⟨g, k * 5 + 4, none⟩) h.lt.1).trans (h.set k hk),
    fun k hk => (hb.cell (p := ⟨bx k, 0, none⟩) (h.lt.2 k hk)).trans (h.fld k hk), Nat.lt_of_lt_of_le h.lt.1 hb.size, fun k hk => Nat.lt_of_lt_of_le (h.lt.2 k hk) hb.size⟩
theorem ten_cases {P : Nat → Prop} (h0 : P 0) (h1 : P 1) (h2 : P 2) (h3 : P 3) (h4 : P 4) (h5 : P 5) (h6 : P 6) (h7 : P 7) (h8 : P 8) (h9 : P 9) : ∀ k, k < 10 → P k
  | 0, _ => h0 | 1, _ => h1 | 2, _ => h2 | 3, _ => h3 | 4, _ => h4 | 5, _ => h5 | 6, _ => h6 | 7, _ => h7 | 8, _ => h8 | 9, _ => h9
  | n + 10, h => absurd h (by omega)
def bxOf (b0 b1 b2 b3 b4 b5 b6 b7 b8 b9 : Nat) : Nat → Nat
  | 0 => b0 | 1 => b1 | 2 => b2 | 3 => b3 | 4 => b4 | 5 => b5 | 6 => b6 | 7 => b7 | 8 => b8 | _ => b9
def RetPars (w : World) (e : Ending) (w' : World) : Prop := ∃ g bx, e = .returned (.slice (some ⟨g, 0, none⟩) 10 10) ∧ ParsAt w' g bx ∧ Below w.heap.size w w'
theorem pars_at (w : World) (X : Array Value) (ty : TypeId) (bx : Nat → Nat)
    (hX : ∀ k, k < 10 → X[k * 5]? = some (.string (parNm k)) ∧ X[k * 5 + 1]? = some (.int .i64 (parLow k)) ∧ X[k * 5 + 2]? = some (.int .i64 (parHigh k)) ∧ X[k * 5 + 3]? = some (.func (.func (parGet k)) #[] #[.pointer (some ⟨bx k, 0, none⟩)]) ∧ X[k * 5 + 4]? = some (.func (.func (parSet k)) #[] #[.pointer (some ⟨bx k, 0, none⟩)]))
    (hf : ∀ k, k < 10 → w.cell? ⟨bx k, 0, none⟩ = some (.func (.func (parFld k)) #[] #[])) (hl : ∀ k, k < 10 → bx k < w.heap.size) : ParsAt (w.alloc (.cells X ty)) w.heap.size bx := by
  have hb : Below w.heap.size w (w.alloc (.cells X ty)) := (Below.refl _ _).alloc (Nat.le_refl _) _
  have hc : ∀ j u, X[j]? = some u → (w.alloc (.cells X ty)).cell? ⟨w.heap.size, j, none⟩ = some u := fun j u hj => by rw [World.cell?_alloc_at (hn := rfl)]; exact hj
  exact ⟨fun k hk => hc _ _ (hX k hk).1, fun k hk => hc _ _ (hX k hk).2.1, fun k hk => hc _ _ (hX k hk).2.2.1, fun k hk => hc _ _ (hX k hk).2.2.2.1, fun k hk => hc _ _ (hX k hk).2.2.2.2, fun k hk => (hb.cell (p := ⟨bx k, 0, none⟩) (hl k hk)).trans (hf k hk), by simp, fun k hk => Nat.lt_of_lt_of_le (hl k hk) hb.size⟩
set_option maxRecDepth 100000 in
set_option maxHeartbeats 4000000 in
theorem parameters_any (w : World) : Calls Tryz.prog 36 #[] w (RetPars w) := by
  go_enter Tryz.func36, Tryz.ntmps36
  go_wp2_with fail
  have H1 := Lib.hid (Below.refl w.heap.size w)
  refine (duration_any w ⟨#[98, 101, 97, 116]⟩ 1 1048576 58).mono ?_
  rintro e w2 ⟨rfl, hb2, hl, hc0_0⟩
  obtain ⟨b0, hbk0⟩ : ∃ b, b = w.heap.size := ⟨_, rfl⟩
  rw [← hbk0] at hl hc0_0 ⊢
  have H2 := Lib.hid (And.intro (H1.out.trans (hb2.mono H1.out.size)) (hl))
  clear hl hb2
  clear hbk0
  go_wp2_with fail
  refine (duration_any w2 ⟨#[112, 97, 116, 105, 101, 110, 99, 101]⟩ 1 1048576 59).mono ?_
  rintro e w3 ⟨rfl, hb3, hl, hc1_0⟩
  obtain ⟨b1, hbk1⟩ : ∃ b, b = w2.heap.size := ⟨_, rfl⟩
  rw [← hbk1] at hl hc1_0 ⊢
  have hc0_1 := (hb3.cell (p := ⟨b0, 0, none⟩) H2.out.2).trans hc0_0
  have H3 := Lib.hid (And.intro (H2.out.1.trans (hb3.mono H2.out.1.size)) (And.intro (Nat.lt_of_lt_of_le H2.out.2 hb3.size) (hl)))
  clear hl hc0_0 hb3
  clear hbk1
  go_wp2_with fail
  refine (duration_any w3 ⟨#[101, 108, 101, 99, 116, 105, 111, 110]⟩ 1 1048576 60).mono ?_
  rintro e w4 ⟨rfl, hb4, hl, hc2_0⟩
  obtain ⟨b2, hbk2⟩ : ∃ b, b = w3.heap.size := ⟨_, rfl⟩
  rw [← hbk2] at hl hc2_0 ⊢
  have hc0_2 := (hb4.cell (p := ⟨b0, 0, none⟩) H3.out.2.1).trans hc0_1
  have hc1_1 := (hb4.cell (p := ⟨b1, 0, none⟩) H3.out.2.2).trans hc1_0
  have H4 := Lib.hid (And.intro (H3.out.1.trans (hb4.mono H3.out.1.size)) (And.intro (Nat.lt_of_lt_of_le H3.out.2.1 hb4.size) (And.intro (Nat.lt_of_lt_of_le H3.out.2.2 hb4.size) (hl))))
  clear hl hc0_1 hc1_0 hb4
  clear hbk2
  go_wp2_with fail
  refine (duration_any w4 ⟨#[108, 101, 97, 115, 101]⟩ 1 1048576 61).mono ?_
  rintro e w5 ⟨rfl, hb5, hl, hc3_0⟩
  obtain ⟨b3, hbk3⟩ : ∃ b, b = w4.heap.size := ⟨_, rfl⟩
  rw [← hbk3] at hl hc3_0 ⊢
  have hc0_3 := (hb5.cell (p := ⟨b0, 0, none⟩) H4.out.2.1).trans hc0_2
  have hc1_2 := (hb5.cell (p := ⟨b1, 0, none⟩) H4.out.2.2.1).trans hc1_1
  have hc2_1 := (hb5.cell (p := ⟨b2, 0, none⟩) H4.out.2.2.2).trans hc2_0
  have H5 := Lib.hid (And.intro (H4.out.1.trans (hb5.mono H4.out.1.size)) (And.intro (Nat.lt_of_lt_of_le H4.out.2.1 hb5.size) (And.intro (Nat.lt_of_lt_of_le H4.out.2.2.1 hb5.size) (And.intro (Nat.lt_of_lt_of_le H4.out.2.2.2 hb5.size) (hl)))))
  clear hl hc0_2 hc1_1 hc2_0 hb5
  clear hbk3
  go_wp2_with fail
  refine (duration_any w5 ⟨#[115, 105, 108, 101, 110, 99, 101]⟩ 1 1048576 62).mono ?_
  rintro e w6 ⟨rfl, hb6, hl, hc4_0⟩
  obtain ⟨b4, hbk4⟩ : ∃ b, b = w5.heap.size := ⟨_, rfl⟩
  rw [← hbk4] at hl hc4_0 ⊢
  have hc0_4 := (hb6.cell (p := ⟨b0, 0, none⟩) H5.out.2.1).trans hc0_3
  have hc1_3 := (hb6.cell (p := ⟨b1, 0, none⟩) H5.out.2.2.1).trans hc1_2
  have hc2_2 := (hb6.cell (p := ⟨b2, 0, none⟩) H5.out.2.2.2.1).trans hc2_1
  have hc3_1 := (hb6.cell (p := ⟨b3, 0, none⟩) H5.out.2.2.2.2).trans hc3_0
  have H6 := Lib.hid (And.intro (H5.out.1.trans (hb6.mono H5.out.1.size)) (And.intro (Nat.lt_of_lt_of_le H5.out.2.1 hb6.size) (And.intro (Nat.lt_of_lt_of_le H5.out.2.2.1 hb6.size) (And.intro (Nat.lt_of_lt_of_le H5.out.2.2.2.1 hb6.size) (And.intro (Nat.lt_of_lt_of_le H5.out.2.2.2.2 hb6.size) (hl))))))
  clear hl hc0_3 hc1_2 hc2_1 hc3_0 hb6
  clear hbk4
  go_wp2_with fail
  refine (duration_any w6 ⟨#[97, 103, 97, 105, 110]⟩ 1 1048576 63).mono ?_
  rintro e w7 ⟨rfl, hb7, hl, hc5_0⟩
  obtain ⟨b5, hbk5⟩ : ∃ b, b = w6.heap.size := ⟨_, rfl⟩
  rw [← hbk5] at hl hc5_0 ⊢
  have hc0_5 := (hb7.cell (p := ⟨b0, 0, none⟩) H6.out.2.1).trans hc0_4
  have hc1_4 := (hb7.cell (p := ⟨b1, 0, none⟩) H6.out.2.2.1).trans hc1_3
  have hc2_3 := (hb7.cell (p := ⟨b2, 0, none⟩) H6.out.2.2.2.1).trans hc2_2
  have hc3_2 := (hb7.cell (p := ⟨b3, 0, none⟩) H6.out.2.2.2.2.1).trans hc3_1
  have hc4_1 := (hb7.cell (p := ⟨b4, 0, none⟩) H6.out.2.2.2.2.2).trans hc4_0
  have H7 := Lib.hid (And.intro (H6.out.1.trans (hb7.mono H6.out.1.size)) (And.intro (Nat.lt_of_lt_of_le H6.out.2.1 hb7.size) (And.intro (Nat.lt_of_lt_of_le H6.out.2.2.1 hb7.size) (And.intro (Nat.lt_of_lt_of_le H6.out.2.2.2.1 hb7.size) (And.intro (Nat.lt_of_lt_of_le H6.out.2.2.2.2.1 hb7.size) (And.intro (Nat.lt_of_lt_of_le H6.out.2.2.2.2.2 hb7.size) (hl)))))))
  clear hl hc0_4 hc1_3 hc2_2 hc3_1 hc4_0 hb7
  clear hbk5
  go_wp2_with fail
  refine (duration_any w7 ⟨#[110, 101, 97, 114]⟩ 0 1099511627776 64).mono ?_
  rintro e w8 ⟨rfl, hb8, hl, hc6_0⟩
  obtain ⟨b6, hbk6⟩ : ∃ b, b = w7.heap.size := ⟨_, rfl⟩
  rw [← hbk6] at hl hc6_0 ⊢
  have hc0_6 := (hb8.cell (p := ⟨b0, 0, none⟩) H7.out.2.1).trans hc0_5
  have hc1_5 := (hb8.cell (p := ⟨b1, 0, none⟩) H7.out.2.2.1).trans hc1_4
  have hc2_4 := (hb8.cell (p := ⟨b2, 0, none⟩) H7.out.2.2.2.1).trans hc2_3
  have hc3_3 := (hb8.cell (p := ⟨b3, 0, none⟩) H7.out.2.2.2.2.1).trans hc3_2
  have hc4_2 := (hb8.cell (p := ⟨b4, 0, none⟩) H7.out.2.2.2.2.2.1).trans hc4_1
  have hc5_1 := (hb8.cell (p := ⟨b5, 0, none⟩) H7.out.2.2.2.2.2.2).trans hc5_0
  have H8 := Lib.hid (And.intro (H7.out.1.trans (hb8.mono H7.out.1.size)) (And.intro (Nat.lt_of_lt_of_le H7.out.2.1 hb8.size) (And.intro (Nat.lt_of_lt_of_le H7.out.2.2.1 hb8.size) (And.intro (Nat.lt_of_lt_of_le H7.out.2.2.2.1 hb8.size) (And.intro (Nat.lt_of_lt_of_le H7.out.2.2.2.2.1 hb8.size) (And.intro (Nat.lt_of_lt_of_le H7.out.2.2.2.2.2.1 hb8.size) (And.intro (Nat.lt_of_lt_of_le H7.out.2.2.2.2.2.2 hb8.size) (hl))))))))
  clear hl hc0_5 hc1_4 hc2_3 hc3_2 hc4_1 hc5_0 hb8
  clear hbk6
  go_wp2_with fail
  refine (duration_any w8 ⟨#[119, 105, 110, 100, 111, 119]⟩ 0 1099511627776 65).mono ?_
  rintro e w9 ⟨rfl, hb9, hl, hc7_0⟩
  obtain ⟨b7, hbk7⟩ : ∃ b, b = w8.heap.size := ⟨_, rfl⟩
  rw [← hbk7] at hl hc7_0 ⊢
  have hc0_7 := (hb9.cell (p := ⟨b0, 0, none⟩) H8.out.2.1).trans hc0_6
  have hc1_6 := (hb9.cell (p := ⟨b1, 0, none⟩) H8.out.2.2.1).trans hc1_5
  have hc2_5 := (hb9.cell (p := ⟨b2, 0, none⟩) H8.out.2.2.2.1).trans hc2_4
  have hc3_4 := (hb9.cell (p := ⟨b3, 0, none⟩) H8.out.2.2.2.2.1).trans hc3_3
  have hc4_3 := (hb9.cell (p := ⟨b4, 0, none⟩) H8.out.2.2.2.2.2.1).trans hc4_2
  have hc5_2 := (hb9.cell (p := ⟨b5, 0, none⟩) H8.out.2.2.2.2.2.2.1).trans hc5_1
  have hc6_1 := (hb9.cell (p := ⟨b6, 0, none⟩) H8.out.2.2.2.2.2.2.2).trans hc6_0
  have H9 := Lib.hid (And.intro (H8.out.1.trans (hb9.mono H8.out.1.size)) (And.intro (Nat.lt_of_lt_of_le H8.out.2.1 hb9.size) (And.intro (Nat.lt_of_lt_of_le H8.out.2.2.1 hb9.size) (And.intro (Nat.lt_of_lt_of_le H8.out.2.2.2.1 hb9.size) (And.intro (Nat.lt_of_lt_of_le H8.out.2.2.2.2.1 hb9.size) (And.intro (Nat.lt_of_lt_of_le H8.out.2.2.2.2.2.1 hb9.size) (And.intro (Nat.lt_of_lt_of_le H8.out.2.2.2.2.2.2.1 hb9.size) (And.intro (Nat.lt_of_lt_of_le H8.out.2.2.2.2.2.2.2 hb9.size) (hl)))))))))
  clear hl hc0_6 hc1_5 hc2_4 hc3_3 hc4_2 hc5_1 hc6_0 hb9
  clear hbk7
  go_wp2_with fail
  refine (quantity_any w9 ⟨#[114, 101, 115, 101, 114, 118, 101]⟩ 0 256 67).mono ?_
  rintro e w10 ⟨rfl, hb10, hl, hc8_0⟩
  obtain ⟨b8, hbk8⟩ : ∃ b, b = w9.heap.size := ⟨_, rfl⟩
  rw [← hbk8] at hl hc8_0 ⊢
  have hc0_8 := (hb10.cell (p := ⟨b0, 0, none⟩) H9.out.2.1).trans hc0_7
  have hc1_7 := (hb10.cell (p := ⟨b1, 0, none⟩) H9.out.2.2.1).trans hc1_6
  have hc2_6 := (hb10.cell (p := ⟨b2, 0, none⟩) H9.out.2.2.2.1).trans hc2_5
  have hc3_5 := (hb10.cell (p := ⟨b3, 0, none⟩) H9.out.2.2.2.2.1).trans hc3_4
  have hc4_4 := (hb10.cell (p := ⟨b4, 0, none⟩) H9.out.2.2.2.2.2.1).trans hc4_3
  have hc5_3 := (hb10.cell (p := ⟨b5, 0, none⟩) H9.out.2.2.2.2.2.2.1).trans hc5_2
  have hc6_2 := (hb10.cell (p := ⟨b6, 0, none⟩) H9.out.2.2.2.2.2.2.2.1).trans hc6_1
  have hc7_1 := (hb10.cell (p := ⟨b7, 0, none⟩) H9.out.2.2.2.2.2.2.2.2).trans hc7_0
  have H10 := Lib.hid (And.intro (H9.out.1.trans (hb10.mono H9.out.1.size)) (And.intro (Nat.lt_of_lt_of_le H9.out.2.1 hb10.size) (And.intro (Nat.lt_of_lt_of_le H9.out.2.2.1 hb10.size) (And.intro (Nat.lt_of_lt_of_le H9.out.2.2.2.1 hb10.size) (And.intro (Nat.lt_of_lt_of_le H9.out.2.2.2.2.1 hb10.size) (And.intro (Nat.lt_of_lt_of_le H9.out.2.2.2.2.2.1 hb10.size) (And.intro (Nat.lt_of_lt_of_le H9.out.2.2.2.2.2.2.1 hb10.size) (And.intro (Nat.lt_of_lt_of_le H9.out.2.2.2.2.2.2.2.1 hb10.size) (And.intro (Nat.lt_of_lt_of_le H9.out.2.2.2.2.2.2.2.2 hb10.size) (hl))))))))))
  clear hl hc0_7 hc1_6 hc2_5 hc3_4 hc4_3 hc5_2 hc6_1 hc7_0 hb10
  clear hbk8
  go_wp2_with fail
  refine (quantity_any w10 ⟨#[114, 111, 111, 109]⟩ 1 4096 68).mono ?_
  rintro e w11 ⟨rfl, hb11, hl, hc9_0⟩
  obtain ⟨b9, hbk9⟩ : ∃ b, b = w10.heap.size := ⟨_, rfl⟩
  rw [← hbk9] at hl hc9_0 ⊢
  have hc0_9 := (hb11.cell (p := ⟨b0, 0, none⟩) H10.out.2.1).trans hc0_8
  have hc1_8 := (hb11.cell (p := ⟨b1, 0, none⟩) H10.out.2.2.1).trans hc1_7
  have hc2_7 := (hb11.cell (p := ⟨b2, 0, none⟩) H10.out.2.2.2.1).trans hc2_6
  have hc3_6 := (hb11.cell (p := ⟨b3, 0, none⟩) H10.out.2.2.2.2.1).trans hc3_5
  have hc4_5 := (hb11.cell (p := ⟨b4, 0, none⟩) H10.out.2.2.2.2.2.1).trans hc4_4
  have hc5_4 := (hb11.cell (p := ⟨b5, 0, none⟩) H10.out.2.2.2.2.2.2.1).trans hc5_3
  have hc6_3 := (hb11.cell (p := ⟨b6, 0, none⟩) H10.out.2.2.2.2.2.2.2.1).trans hc6_2
  have hc7_2 := (hb11.cell (p := ⟨b7, 0, none⟩) H10.out.2.2.2.2.2.2.2.2.1).trans hc7_1
  have hc8_1 := (hb11.cell (p := ⟨b8, 0, none⟩) H10.out.2.2.2.2.2.2.2.2.2).trans hc8_0
  have H11 := Lib.hid (And.intro (H10.out.1.trans (hb11.mono H10.out.1.size)) (And.intro (Nat.lt_of_lt_of_le H10.out.2.1 hb11.size) (And.intro (Nat.lt_of_lt_of_le H10.out.2.2.1 hb11.size) (And.intro (Nat.lt_of_lt_of_le H10.out.2.2.2.1 hb11.size) (And.intro (Nat.lt_of_lt_of_le H10.out.2.2.2.2.1 hb11.size) (And.intro (Nat.lt_of_lt_of_le H10.out.2.2.2.2.2.1 hb11.size) (And.intro (Nat.lt_of_lt_of_le H10.out.2.2.2.2.2.2.1 hb11.size) (And.intro (Nat.lt_of_lt_of_le H10.out.2.2.2.2.2.2.2.1 hb11.size) (And.intro (Nat.lt_of_lt_of_le H10.out.2.2.2.2.2.2.2.2.1 hb11.size) (And.intro (Nat.lt_of_lt_of_le H10.out.2.2.2.2.2.2.2.2.2 hb11.size) (hl)))))))))))
  clear hl hc0_8 hc1_7 hc2_6 hc3_5 hc4_4 hc5_3 hc6_2 hc7_1 hc8_0 hb11
  clear hbk9
  go_wp2_with fail
  go_ret
  have hbW : ∀ o : Obj, Below w11.heap.size w11 (w11.alloc o) := fun o => (Below.refl _ _).alloc (Nat.le_refl _) _
  refine ⟨_, bxOf b0 b1 b2 b3 b4 b5 b6 b7 b8 b9, rfl, pars_at w11 _ _ _ (ten_cases ⟨rfl, rfl, rfl, rfl, rfl⟩ ⟨rfl, rfl, rfl, rfl, rfl⟩ ⟨rfl, rfl, rfl, rfl, rfl⟩ ⟨rfl, rfl, rfl, rfl, rfl⟩ ⟨rfl, rfl, rfl, rfl, rfl⟩ ⟨rfl, rfl, rfl, rfl, rfl⟩ ⟨rfl, rfl, rfl, rfl, rfl⟩ ⟨rfl, rfl, rfl, rfl, rfl⟩ ⟨rfl, rfl, rfl, rfl, rfl⟩ ⟨rfl, rfl, rfl, rfl, rfl⟩) ?_ ?_, H11.out.1.trans ((hbW _).mono H11.out.1.size)⟩
  · exact ten_cases hc0_9 hc1_8 hc2_7 hc3_6 hc4_5 hc5_4 hc6_3 hc7_2 hc8_1 hc9_0
  · exact ten_cases H11.out.2.1 H11.out.2.2.1 H11.out.2.2.2.1 H11.out.2.2.2.2.1 H11.out.2.2.2.2.2.1 H11.out.2.2.2.2.2.2.1 H11.out.2.2.2.2.2.2.2.1 H11.out.2.2.2.2.2.2.2.2.1 H11.out.2.2.2.2.2.2.2.2.2.1 H11.out.2.2.2.2.2.2.2.2.2.2
end Go.Proofs.YtloacoalmfaceaaGreatDoor
