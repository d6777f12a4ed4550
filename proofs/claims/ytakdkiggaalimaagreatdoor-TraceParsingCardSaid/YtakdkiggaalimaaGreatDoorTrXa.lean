/-
  samaritanref51: Num, nums, list.
-/
import Derived.Test.YtakdkiggaalimaaGreatDoorTrHx
import Derived.Test.YtakdkiggaalimaaGreatDoorTrG
namespace Go.Proofs.YtakdkiggaalimaaGreatDoor
open Go.RowKit Go.Maps
open Go.Lib (itoa)

theorem byte_conv (w : World) (n : Int) (h0 : 0 ≤ n) (h1 : n < 10) :
    (convert 23 9 (.slice (some ⟨w.heap.size, 0, none⟩) 1 1)).run Tryz.prog (w.alloc (.cells #[.int .u8 (48 + n)] 5)) = .ok (.string (bs (Lib.decDigits n.toNat))) (w.alloc (.cells #[.int .u8 (48 + n)] 5)) := by
  have hd : Lib.decDigits n.toNat = [UInt8.ofNat (48 + n.toNat)] := dec_small (by omega)
  have hs : (bs (Lib.decDigits n.toNat)).size = 1 := by rw [bs_size, hd]; rfl
  have h := Lib.run_convert_whole (P := Tryz.prog) (w.alloc (.cells #[.int .u8 (48 + n)] 5)) 23 5 9 Tryz.underlying23 Tryz.underlying5 Tryz.underlying9 w.heap.size 0 (bs (Lib.decDigits n.toNat)) ?_ 1
  · rw [hs] at h
    exact h
  · intro i hi
    have hi0 : i = 0 := by rw [hs] at hi; omega
    subst hi0
    have e1 : (bs (Lib.decDigits n.toNat))[0] = UInt8.ofNat (48 + n.toNat) := by
      simp [bs, hd, ByteArray.getElem_eq_getElem_data]
    rw [e1, dig_toNat (by omega)]
    have e2 : ((48 + n.toNat : Nat) : Int) = 48 + n := by omega
    rw [e2]
    simp
theorem dec_size (n : Int) (h : n ≤ 9223372036854775807) : (bs (Lib.decDigits n.toNat)).size ≤ 20 := by
  rw [bs_size, Lib.decDigits_length]
  exact Lib.nDigits_le20 _ (by omega)
set_option maxRecDepth 100000 in
theorem num51_go : ∀ (k : Nat) (n : Int) (_ : 0 ≤ n) (_ : n.toNat < k) (_ : n ≤ 9223372036854775807) (w : World), Calls Tryz.prog 39 #[.int .i64 n] w fun e w' => e = .returned (.string (bs (Lib.decDigits n.toNat))) ∧ Below w.heap.size w w' := by
  intro k
  induction k with
  | zero => intro n _ h; omega
  | succ k ih =>
    intro n h0 hk hn w
    have m0 : 0 ≤ n % 10 := by omega
    have m1 : n % 10 < 10 := by omega
    have t0 : n.tmod 10 = n % 10 := Int.tmod_eq_emod_of_nonneg h0
    have t6 : n.tdiv 10 = n / 10 := Int.tdiv_eq_ediv_of_nonneg h0
    have t7 : IntKind.i64.wrap (n / 10) = n / 10 := IntWalk.i64_in _ (by omega)
    have t1 : IntKind.i64.wrap (n % 10) = n % 10 := IntWalk.i64_in _ (by omega)
    have hcv := byte_conv w (n % 10) m0 m1
    have hd0 : decide (n < 0) = false := decide_eq_false (by omega)
    by_cases h : n < 10
    · have e10 : n % 10 = n := by omega
      rw [e10] at hcv t0
      go_enter Tryz.func39, Tryz.ntmps39
      go_wp2_with fail
      go_ret
      exact ⟨rfl, (Below.refl _ _).alloc (Nat.le_refl _) _⟩
    · go_enter Tryz.func39, Tryz.ntmps39
      go_wp2_with fail
      refine (ih (n / 10) (by omega) (by omega) (by omega) _).mono ?_
      rintro e w1 ⟨rfl, hb1⟩
      have HB1 := Lib.hid hb1
      clear hb1
      have l1 := dec_size (n / 10) (by omega)
      have l2 := dec_size (n % 10) (by omega)
      go_wp2_with fail
      go_ret
      refine ⟨ret_str ?_, ((Below.refl _ _).alloc (Nat.le_refl _) _).trans (HB1.out.mono (by simp))⟩
      rw [bs_append, dec_big (n := n.toNat) (by omega), show (n / 10).toNat = n.toNat / 10 by omega, show (n % 10).toNat = n.toNat % 10 by omega, dec_small (n := n.toNat % 10) (by omega)]
theorem lit45 : (⟨#[45]⟩ : ByteArray) = bs [45] := rfl
theorem lit32 : (⟨#[32]⟩ : ByteArray) = bs [32] := rfl
set_option maxRecDepth 100000 in
theorem num51_any (n : Int) (h : Is64 n) (w : World) : Calls Tryz.prog 39 #[.int .i64 n] w fun e w' => e = .returned (.string (bs (itoa n))) ∧ Below w.heap.size w w' := by
  unfold Is64 at h
  by_cases h0 : 0 ≤ n
  · rw [itoa_pos h0]
    exact num51_go (n.toNat + 1) n h0 (by omega) h.2 w
  · rw [itoa_min (by omega)]
    by_cases hm : n = -9223372036854775808
    · subst hm
      go_enter Tryz.func39, Tryz.ntmps39
      go_wp2_with fail
      go_ret
      exact ⟨ret_str (by decide +kernel), Below.refl _ _⟩
    · have t1 : IntKind.i64.wrap (0 - n) = 0 - n := IntWalk.i64_in _ (by omega)
      have t2 : IntKind.i64.wrap (-n) = -n := IntWalk.i64_in _ (by omega)
      have HN := Lib.hid (num51_go ((-n).toNat + 1) (-n) (by omega) (by omega) (by omega) w)
      have l1 := dec_size (-n) (by omega)
      go_enter Tryz.func39, Tryz.ntmps39
      go_wp2_with fail
      refine HN.out.mono ?_
      rintro e w1 ⟨rfl, hb1⟩
      have HB1 := Lib.hid hb1
      clear hb1
      go_wp2_with fail
      go_ret
      refine ⟨ret_str ?_, HB1.out⟩
      rw [lit45, bs_append, show (-n).toNat = n.natAbs by omega]
      rfl
/-- words, each behind a blank. -/
def spW (ws : List Wd) : Wd := ws.flatMap (fun x => 32 :: x)
theorem spW_snoc (ws : List Wd) (x : Wd) : spW (ws ++ [x]) = spW ws ++ 32 :: x := by simp [spW]
theorem spW_app (a b : List Wd) : spW (a ++ b) = spW a ++ spW b := by simp [spW]
theorem spW_line {w : Wd} (ws : List Wd) : lineW (w :: ws) = w ++ spW ws := rfl
theorem spW_len {ws : List Wd} {k : Nat} (h : ∀ w ∈ ws, w.length ≤ k) : (spW ws).length ≤ ws.length * (k + 1) := by
  induction ws with
  | nil => simp [spW]
  | cons x r ih =>
    have h1 := ih (fun w hw => h w (by simp [hw]))
    have h2 := h x (by simp)
    have e : spW (x :: r) = 32 :: x ++ spW r := rfl
    rw [e, List.length_append, List.length_cons, List.length_cons, Nat.add_mul]
    omega
theorem ints_len {l : List Int} (h : ∀ v ∈ l, Is64 v) : ∀ w ∈ l.map itoa, w.length ≤ 21 := fun w hw => by
  obtain ⟨v, hv, rfl⟩ := List.mem_map.1 hw
  exact itoa_len (h v hv)
set_option maxRecDepth 100000 in
set_option maxHeartbeats 2000000 in
theorem nums51_any (l : List Int) (h : ∀ v ∈ l, Is64 v) (hl : l.length ≤ 1000000) (A : Option Addr) (c : Nat) (w : World) (hat : Sl w w.heap.size A (l.map (Value.int .i64))) :
    Calls Tryz.prog 40 #[.slice A l.length c] w fun e w' => e = .returned (.string (bs (spW (l.map itoa)))) ∧ Below w.heap.size w w' := by
  have HA := Lib.hid (And.intro h hat)
  obtain ⟨m, hm⟩ : ∃ m, m = l.length := ⟨_, rfl⟩
  have HM := Lib.hid hm
  have hml : m ≤ 1000000 := by omega
  rw [← hm]
  clear h hat hl hm
  go_enter Tryz.func40, Tryz.ntmps40
  go_wp2_with fail
  go_loopw [3, 4] (fun sv iv X => ∃ k : Nat, k ≤ m ∧ iv = .int .i64 k ∧ sv = .string (bs (spW ((l.take k).map itoa))) ∧ Below w.heap.size w X) (fun _ iv _ => m - (intOf iv).toNat)
  case atStart => exact ⟨0, Nat.zero_le _, rfl, rfl, Below.refl _ _⟩
  case round =>
    obtain ⟨k, hk, rfl, rfl, hb⟩ := hrel
    have HB := Lib.hid hb
    by_cases hlt : k < m
    · have hlt' : (k : Int) < (m : Int) := by omega
      obtain ⟨x, hx⟩ : ∃ x, l[k]? = some x := ⟨l[k]'(by have := HM.out; omega), by simp⟩
      have hx64 := HA.out.1 x (List.mem_of_getElem? hx)
      obtain ⟨ab, ao, rfl, hab, hac⟩ := (Sl.below HA.out.2 hb) k (.int .i64 x) (by rw [List.getElem?_map, hx]; rfl)
      have HX := Lib.hid hx
      have HN := Lib.hid (num51_any x hx64 wr)
      have HL : Hid ((bs (spW ((l.take k).map itoa))).size ≤ 22000000) := Lib.hid (by
        have h1 := spW_len (ints_len (l := l.take k) (fun v hv => HA.out.1 v (List.mem_of_mem_take hv)))
        have h2 : ((l.take k).map itoa).length ≤ 1000000 := by rw [List.length_map, List.length_take]; omega
        rw [bs_size]
        exact Nat.le_trans h1 (Nat.le_trans (Nat.mul_le_mul h2 (Nat.le_refl _)) (by decide)))
      obtain ⟨S, hS⟩ : ∃ S, S = bs (spW ((l.take k).map itoa)) := ⟨_, rfl⟩
      have HS := Lib.hid hS
      rw [← hS] at HL ⊢
      have hSl := HL.out
      obtain ⟨T, hT⟩ : ∃ T, T = bs (itoa x) := ⟨_, rfl⟩
      have HT := Lib.hid hT
      have hTl : T.size ≤ 21 := by rw [hT, bs_size]; exact itoa_len hx64
      rw [← hT] at HN
      clear hx hb hx64 hS hT
      go_wp2_with fail
      refine HN.out.mono ?_
      rintro e w1 ⟨rfl, hb1⟩
      have HB1 := Lib.hid (HB.out.trans (hb1.mono HB.out.size))
      clear hb1
      go_wp2_with fail
      go_roundw
      case rel =>
        refine ⟨k + 1, by omega, by go_num, ?_, HB1.out⟩
        rw [take_snoc HX.out, List.map_append, List.map_singleton, spW_snoc, HS.out, HT.out, lit32, bs_append, bs_append, List.append_assoc]
        rfl
      case measure => simp [intOf]; omega
    · obtain rfl : k = m := by omega
      have e : l.take k = l := List.take_of_length_le (by have := HM.out; omega)
      rw [e]
      clear e hb
      go_wp2_with fail
      go_ret
      exact ⟨rfl, HB.out⟩
end Go.Proofs.YtakdkiggaalimaaGreatDoor
