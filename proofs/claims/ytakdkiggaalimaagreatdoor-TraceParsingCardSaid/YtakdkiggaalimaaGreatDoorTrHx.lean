/-
  trace.writer: bytes (printed by gentrhx.py).
-/
import Derived.Test.YtakdkiggaalimaaGreatDoorTrWr
import Derived.Lib.SlBytesRow
namespace Go.Proofs.YtakdkiggaalimaaGreatDoor
open Go.RowKit Go.Maps
open Go.Lib (itoa)

def byteV (b : UInt8) : Value := .int .u8 b.toNat
theorem byteCells_map (l : List UInt8) : Lib.byteCells l = l.map byteV := rfl
theorem bcell_at {w : World} {B : Nat} {A : Option Addr} {l : List UInt8} (h : BytesAt w B A l) {k : Nat} {x : UInt8} (hx : l[k]? = some x) : ∃ b o, A = some ⟨b, o, none⟩ ∧ b < B ∧ w.cell? ⟨b, o + k, none⟩ = some (.int .u8 x.toNat) :=
  h k (byteV x) (by rw [byteCells_map, List.getElem?_map, hx]; rfl)
def hex2 (x : UInt8) : List UInt8 := [hexD (x.toNat / 16), hexD (x.toNat % 16)]
theorem hexW_eq (b : Wd) : hexW b = 61 :: b.flatMap hex2 := rfl
theorem hex2_len (b : Wd) : (b.flatMap hex2).length = 2 * b.length := by
  induction b with
  | nil => rfl
  | cons x r ih =>
    rw [List.flatMap_cons, List.length_append, ih, List.length_cons]
    show 2 + _ = _
    omega
theorem make_bytes (w : World) (n : Nat) (h : n ≤ 16777216) : (Instr.makeSlice 23 (.int .i64 0) (.int .i64 n)).run Tryz.prog w = .ok (.slice (some ⟨w.heap.size, 0, none⟩) 0 n) (w.alloc (.cells (madeCells #[.int .u8 0] n) 5)) := by
  obtain ⟨i0, hi, hz1, hz2, hz3⟩ := info_parts byte_info
  have := run_makeSlice (P := Tryz.prog) w 23 5 i0 (.int .u8 0) Tryz.underlying23 hi hz1 .i64 .i64 0 n (by omega) (by omega) (by rw [hz2]; simp; omega) (by rw [hz3]; omega) (by omega)
  rw [hz2] at this
  have e : (Value.int .u8 0).cells = #[Value.int .u8 0] := rfl
  rw [e] at this
  simpa using this
theorem made_bytes (w : World) (base n : Nat) (hb : base ≤ w.heap.size) (hn : n ≤ 16777216) : OwnV byteV (w.alloc (.cells (madeCells #[.int .u8 0] n) 5)) base 5 (.slice (some ⟨w.heap.size, 0, none⟩) 0 n) [] := by
  refine ⟨by simp, .inr ⟨w.heap.size, n, madeCells #[.int .u8 0] n, rfl, hb, new_obj _ _, Nat.zero_le _, by unfold maxLen; omega, by simp [size_madeCells], by simp⟩⟩
theorem hex_byte : ∀ i : Fin 16, (⟨#[48, 49, 50, 51, 52, 53, 54, 55, 56, 57, 97, 98, 99, 100, 101, 102]⟩ : ByteArray)[i.val]'(by have := i.isLt; show i.val < 16; exact this) = hexD i.val := by decide
theorem hex_at (n : Int) (d : Nat) (hd : d < 16) (hn : n = d) (h : n.toNat < (⟨#[48, 49, 50, 51, 52, 53, 54, 55, 56, 57, 97, 98, 99, 100, 101, 102]⟩ : ByteArray).size) : (⟨#[48, 49, 50, 51, 52, 53, 54, 55, 56, 57, 97, 98, 99, 100, 101, 102]⟩ : ByteArray)[n.toNat]'h = hexD d := by
  subst hn
  exact hex_byte ⟨d, hd⟩
theorem and15_fin : ∀ n : Fin 256, bits BinOp.and IntKind.u8 (n.val : Int) 15 = (n.val : Int) % 16 := by decide +kernel
theorem and15 (x : UInt8) : bits BinOp.and IntKind.u8 (x.toNat : Int) 15 = (x.toNat : Int) % 16 := and15_fin ⟨x.toNat, x.toNat_lt⟩
theorem own_str {w : World} {base : Nat} {v : Value} {l : List UInt8} (h : OwnV byteV w base 5 v l) (h0 : l ≠ []) : ∃ A c, v = .slice A l.length c ∧ (convert 23 9 (.slice A l.length c)).run Tryz.prog w = .ok (.string (bs l)) w := by
  obtain ⟨A, c, e, hs⟩ := h.sl
  refine ⟨A, c, e, ?_⟩
  cases l with
  | nil => exact absurd rfl h0
  | cons x r =>
    obtain ⟨b, o, rfl, _, _⟩ := hs 0 (byteV x) rfl
    have h1 := Lib.run_convert_whole (P := Tryz.prog) w 23 5 9 Tryz.underlying23 Tryz.underlying5 Tryz.underlying9 b o (bs (x :: r)) (fun i hi => by
      have hi' : i < (x :: r).length := by rw [bs_size] at hi; exact hi
      obtain ⟨b', o', e', _, hc⟩ := hs i (byteV ((x :: r)[i])) (by rw [List.getElem?_map, List.getElem?_eq_getElem hi']; rfl)
      injection e' with e'
      injection e' with e1 e2
      subst e1 e2
      exact hc) c
    rw [bs_size] at h1
    exact h1
set_option maxRecDepth 100000 in
set_option maxHeartbeats 4000000 in
theorem bytes_any {L : Wd} {w0 w : World} (h : FB WT L w0 w) (A : Option Addr) (c : Nat) (l : List UInt8) (hat : BytesAt w w.heap.size A l) (hl : l.length ≤ 1000000) (hn : L.length ≤ 20000000000) :
    Calls Tryz.prog 67 #[.pointer (some ⟨w0.heap.size, 0, none⟩), .slice A l.length c] w (RetW (addW L (hexW l)) w0 w) := by
  have HW := Lib.hid (fun w' (hb : Below w.heap.size w w') => word_any (h.next hb) (hexW l) (by rw [hexW_eq, List.length_cons, hex2_len]; omega))
  have HZ := Lib.hid h.below.size
  have HA := Lib.hid hat
  obtain ⟨m, hm⟩ : ∃ m, m = l.length := ⟨_, rfl⟩
  have HM := Lib.hid hm
  have hml : m ≤ 1000000 := by omega
  rw [← hm]
  have hmk := make_bytes w (1 + 2 * m) (by omega)
  rw [show ((1 + 2 * m : Nat) : Int) = 1 + 2 * (m : Int) by omega] at hmk
  have HO := Lib.hid (made_bytes w w.heap.size (1 + 2 * m) (Nat.le_refl _) (by omega))
  have HB0 := Lib.hid (show Below w.heap.size w (w.alloc (.cells (madeCells #[.int .u8 0] (1 + 2 * m)) 5)) from (Below.refl _ _).alloc (Nat.le_refl _) _)
  obtain ⟨V0, hV0⟩ : ∃ V, V = Value.slice (some ⟨w.heap.size, 0, none⟩) 0 (1 + 2 * m) := ⟨_, rfl⟩
  obtain ⟨W0, hW0⟩ : ∃ W, W = w.alloc (.cells (madeCells #[.int .u8 0] (1 + 2 * m)) 5) := ⟨_, rfl⟩
  rw [← hV0, ← hW0] at hmk HO
  rw [← hW0] at HB0
  clear h hat hl hn hm hV0 hW0
  go_enter Tryz.func67, Tryz.ntmps67
  go_wp2_with (refine wpList_append_one _ rfl (.tmp 12) (.tmp 13) 23 rfl w.heap.size 5 Tryz.underlying23 byte_info rfl (by decide) V0 [] W0 (61 : UInt8) (f := byteV) rfl rfl rfl HO.out rfl (by simp) HB0.out.size ?_)
  intro v1 w1 ho1 hg1
  have hb1 : Below w.heap.size w w1 := HB0.out.grown hg1 HB0.out.size (fun k hk => HO.out.ge_base k hk)
  have H1 := Lib.hid (And.intro ho1 hb1)
  clear ho1 hg1 hb1
  go_wp2_with fail
  go_loopw [4, 17] (fun tv iv X => ∃ k : Nat, k ≤ m ∧ iv = .int .i64 k ∧ OwnV byteV X w.heap.size 5 tv (61 :: (l.take k).flatMap hex2) ∧ Below w.heap.size w X) (fun _ iv _ => m - (intOf iv).toNat)
  case atStart => exact ⟨0, Nat.zero_le _, rfl, H1.out.1, H1.out.2⟩
  case round =>
    obtain ⟨k, hk, rfl, hown, hbl⟩ := hrel
    have HR := Lib.hid (And.intro hown hbl)
    clear hown hbl
    by_cases hlt : k < m
    · obtain ⟨x, hx⟩ : ∃ x, l[k]? = some x := ⟨l[k]'(by have := HM.out; omega), by simp⟩
      obtain ⟨ab, ao, rfl, hab, hac⟩ := bcell_at (Sl.below HA.out HR.out.2) hx
      have HX := Lib.hid hx
      have hx8 := x.toNat_lt
      clear hx hab
      go_wp2_with fail
      refine wp_region_held_drew (S := fun _ => True) (by kernel_rfl) trivial (fun hHeld => ?_)
      have HY := Lib.hid (And.intro HR.out.1.drew HR.out.2.drew)
      obtain ⟨Y, hY⟩ : ∃ Y, Y = World.drew wr := ⟨_, rfl⟩
      rw [← hY] at HY ⊢
      clear hY
      refine wpAnyH_take (i := 0) (v := u4) rfl (by kernel_rfl) (by kernel_rfl) (by kernel_rfl) (fun _ _ _ h => h) (Or.inl ⟨by rfl, ?_⟩) (by assumption) ?_
      · intro w hSw
        go_simp
      show wpAnyH _ _ _ _ _ _ _ (Act.put _ (some 21) _) _
      simp only [Act.put, List.setIfInBounds_toArray, List.set_cons_zero, List.set_cons_succ]
      refine wpAnyH_take (i := 1) (v := .int .u8 x.toNat) rfl (by kernel_rfl) (by kernel_rfl) (by kernel_rfl) (fun _ _ _ h => h) (Or.inl ⟨by rfl, ?_⟩) (by assumption) ?_
      · intro w hSw
        go_simp
      show wpAnyH _ _ _ _ _ _ _ (Act.put _ (some 22) _) _
      simp only [Act.put, List.setIfInBounds_toArray, List.set_cons_zero, List.set_cons_succ]
      refine wpAnyH_take (i := 2) (v := .int .u8 ((x.toNat / 16 : Nat) : Int)) rfl (by kernel_rfl) (by kernel_rfl) (by kernel_rfl) (fun _ _ _ h => h) (Or.inl ⟨by rfl, ?_⟩) (by assumption) ?_
      · intro w hSw
        go_simp
      show wpAnyH _ _ _ _ _ _ _ (Act.put _ (some 23) _) _
      simp only [Act.put, List.setIfInBounds_toArray, List.set_cons_zero, List.set_cons_succ]
      refine wpAnyH_take (i := 3) (v := .int .u8 (hexD (x.toNat / 16)).toNat) rfl (by kernel_rfl) (by kernel_rfl) (by kernel_rfl) (fun _ _ _ h => h) (Or.inl ⟨by rfl, ?_⟩) (by assumption) ?_
      · intro w hSw
        go_simp
        rw [dif_pos (by omega)]
        simp only [Result.andThen]
        rw [hex_at _ (x.toNat / 16) (by omega) (by omega)]
      show wpAnyH _ _ _ _ _ _ _ (Act.put _ (some 24) _) _
      simp only [Act.put, List.setIfInBounds_toArray, List.set_cons_zero, List.set_cons_succ]
      refine wpAnyH_take (i := 4) (v := .int .u8 x.toNat) rfl (by kernel_rfl) (by kernel_rfl) (by kernel_rfl) (fun _ _ _ h => h) (Or.inl ⟨by rfl, ?_⟩) (by assumption) ?_
      · intro w hSw
        go_simp
      show wpAnyH _ _ _ _ _ _ _ (Act.put _ (some 25) _) _
      simp only [Act.put, List.setIfInBounds_toArray, List.set_cons_zero, List.set_cons_succ]
      refine wpAnyH_take (i := 5) (v := .int .u8 ((x.toNat % 16 : Nat) : Int)) rfl (by kernel_rfl) (by kernel_rfl) (by kernel_rfl) (fun _ _ _ h => h) (Or.inl ⟨by rfl, ?_⟩) (by assumption) ?_
      · intro w hSw
        have hq := and15 x
        go_simp
      show wpAnyH _ _ _ _ _ _ _ (Act.put _ (some 26) _) _
      simp only [Act.put, List.setIfInBounds_toArray, List.set_cons_zero, List.set_cons_succ]
      refine wpAnyH_take (i := 6) (v := .int .u8 (hexD (x.toNat % 16)).toNat) rfl (by kernel_rfl) (by kernel_rfl) (by kernel_rfl) (fun _ _ _ h => h) (Or.inl ⟨by rfl, ?_⟩) (by assumption) ?_
      · intro w hSw
        go_simp
        rw [dif_pos (by omega)]
        simp only [Result.andThen]
        rw [hex_at _ (x.toNat % 16) (by omega) (by omega)]
      show wpAnyH _ _ _ _ _ _ _ (Act.put _ (some 27) _) _
      simp only [Act.put, List.setIfInBounds_toArray, List.set_cons_zero, List.set_cons_succ]
      refine wpAnyH_ready (rs := [7]) (by kernel_rfl) (by simp) ?_
      refine AllReadyH.cons rfl (fun K hK => ?_) AllReadyH.nil
      go_simp
      refine hK.out _ _ trivial (fun hHeld => ?_)
      clear hK K
      refine wpAnyH_ready (rs := [8]) (by kernel_rfl) (by simp) ?_
      refine AllReadyH.cons rfl (fun K hK => ?_) AllReadyH.nil
      refine step_append_sl _ (by rfl) (.tmp 21) (.tmp 28) 23 (by rfl) 5 Tryz.underlying23 byte_info rfl (by decide) w.heap.size u4 (61 :: (l.take k).flatMap hex2) (by rfl) (HY.out.1.alloc _) (Y.heap.size + 1) (some ⟨Y.heap.size, 0, none⟩) 2 2 (hex2 x) (by rfl) rfl (fun q => by cases q) (Sl.more (Sl.lit Y ((hex2 x).map byteV) 5 rfl) (by simp)) (fun y _ => rfl) (by rw [List.length_cons, hex2_len, List.length_take]; show _ + 2 ≤ _; omega) (by have := HY.out.2.size; simp; omega) ?_
      intro v9 w9 ho9 hg9
      have H9 := Lib.hid (And.intro ho9 (show Below w.heap.size w w9 from ((HY.out.2.alloc (HY.out.2.size) _).grown hg9 (by have := HY.out.2.size; simp; omega) (fun q hq => HY.out.1.ge_base q hq))))
      clear ho9 hg9
      refine hK.out _ _ trivial (fun hHeld => ?_)
      clear hK K
      refine wpAnyH_take (i := 9) (v := v9) rfl (by kernel_rfl) (by kernel_rfl) (by kernel_rfl) (fun _ _ _ h => h) (Or.inl ⟨by rfl, ?_⟩) (by assumption) ?_
      · intro w hSw
        go_simp
      refine wpAnyH_done (by kernel_rfl) ?_ _
      clear hHeld
      go_wp2_with fail
      go_roundw
      case rel =>
        refine ⟨k + 1, by omega, by go_num, ?_, H9.out.2⟩
        rw [take_snoc HX.out, List.flatMap_append]
        have := H9.out.1
        simpa [hex2] using this
      case measure => simp [intOf]; omega
    · obtain rfl : k = m := by omega
      have e : l.take k = l := List.take_of_length_le (by have := HM.out; omega)
      have ho : OwnV byteV wr w.heap.size 5 u4 (hexW l) := by
        have := HR.out.1
        rw [e] at this
        exact this
      obtain ⟨A', c', rfl, hcv⟩ := own_str ho (by rw [hexW_eq]; simp)
      clear e ho
      go_wp2_with fail
      refine (HW.out _ HR.out.2).mono ?_
      rintro e w2 ⟨rfl, h2, h3, h4⟩
      go_wp2_with fail
      go_end0
      exact ⟨rfl, h2, (KeepB.of_below HR.out.2).trans h3, (HR.out.2.mono HZ.out).trans h4⟩
end Go.Proofs.YtakdkiggaalimaaGreatDoor
