/-
  samaritanlaw31.ResponseplanOptimal returns true for every input, and the arguments read afterwards as before.
  No condition beyond those of the given row.
-/
import Derived.Test.YtfojdodeokdanaaRows
import Derived.Test.YtfojdodeokdanaaSat
import Derived.Test.YtfojdodeokdanaaLeft
import Derived.Test.YtfojdodeokdanaaSame
import Derived.Test.YtfojdodeokdanaaMost
import Derived.Test.YtfojdodeokdanaaLift
namespace Go.Proofs.Ytfojdodeokdanaa.l31Optimal
open Go.ChangeShapes Go.WideShapes Go.ChangeAt Go.RowKit Go.Maps
open Go.ChangeMaps (open_string shut_string)

theorem own : ownKnob Try.prog.godebug = none := by kernel_rfl
theorem laidOut : laidOutB Try.prog = true := by kernel_rfl

theorem kinds_of_all {L : List Int} (h : ∀ x ∈ L, 1 ≤ x ∧ x ≤ 4) {M : List Int} (hM : ∀ x ∈ M, x ∈ L) : Kinds M := fun x hx => h x (hM x hx)

set_option maxRecDepth 100000 in
set_option maxHeartbeats 1000000 in
theorem walk (w : World) (A0 : Option Addr) (z0 : List Int) (c0 : Nat) (hs0 : Sl w w.heap.size A0 (z0.map (Value.int .i64))) (hw0 : ∀ z ∈ z0, (Lit.int .i64 z).wf = true) (hc0 : z0.length ≤ c0) (hm0 : c0 ≤ 9223372036854775807) (hA0 : A0 = none → c0 = 0)
    (A1 : Option Addr) (z1 : List Int) (c1 : Nat) (hs1 : Sl w w.heap.size A1 (z1.map (Value.int .i64))) (hw1 : ∀ z ∈ z1, (Lit.int .i64 z).wf = true) (hc1 : z1.length ≤ c1) (hm1 : c1 ≤ 9223372036854775807) (hA1 : A1 = none → c1 = 0) (x : Int) (hx : (Lit.int .i64 x).wf = true) :
    Calls Try.prog 5 #[.slice A0 z0.length c0, .slice A1 z1.length c1, .int .i64 x] w fun e w' => e = .returned (.bool true) ∧ Below w.heap.size w w' := by
  have HA0 := Lib.hid hA0
  have HA1 := Lib.hid hA1
  have HX := Lib.hid hx
  clear hA0 hA1 hx
  go_enter Try.func5, Try.ntmps5
  go_wp2_with fail
  refine (wakes_any _).mono ?_
  rintro e w1 ⟨rfl, hb⟩
  have hz1 := hb.size
  have HB := Lib.hid hb
  clear hb
  by_cases hl : z0.length ≤ 5 ∧ z1.length ≤ 5
  · obtain ⟨hl0, hl1⟩ := hl
    have hd0 : decide ((5 : Int) < (z0.length : Int)) = false := by simp; omega
    have hd1 : decide ((5 : Int) < (z1.length : Int)) = false := by simp; omega
    have ho1 : OwnI (w1.alloc (.cells #[.int .i64 x] 3)) w1.heap.size 3 (.slice (some ⟨w1.heap.size, 0, none⟩) 1 1) [x] := OwnV.lit w1 w1.heap.size 3 [x] rfl (Nat.le_refl _) (by simp) _ rfl
    have hb1 : Below w.heap.size w (w1.alloc (.cells #[.int .i64 x] 3)) := HB.out.alloc hz1 _
    have hs0' := hs0.below hb1
    have HB1 := Lib.hid hb1
    clear hb1
    go_wp2_with (first
      | (refine wpList_append_sl _ rfl (.tmp 21) (.tmp 22) 24 rfl 3 Try.underlying24 int_info rfl (by omega) w1.heap.size _ [x] rfl ho1 w.heap.size _ _ _ z0 rfl rfl HA0.out hs0' (by intro y _; rfl) (by simp; omega) (by simp) ?_; intro v2 w2 hown2 hg2; have HB2 := Lib.hid (HB1.out.grown hg2 HB1.out.size (fun j hj => Nat.le_trans hz1 (ho1.ge_base j hj))); have hsz2 : w1.heap.size ≤ w2.heap.size := (by have := hg2.size; simp at this; omega); have hs1' := hs1.below HB2.out)
      | (refine wpList_append_sl _ rfl (.tmp 23) (.tmp 24) 24 rfl 3 Try.underlying24 int_info rfl (by omega) w1.heap.size _ _ rfl hown2 w.heap.size _ _ _ z1 rfl rfl HA1.out hs1' (by intro y _; rfl) (by simp; omega) hsz2 ?_; intro v3 w3 hown3 hg3; have HB3 := Lib.hid (HB2.out.grown hg3 HB2.out.size (fun j hj => Nat.le_trans hz1 (hown2.ge_base j hj))); obtain ⟨L, hL⟩ : ∃ L, L = ([x] ++ z0) ++ z1 := ⟨_, rfl⟩; rw [← hL] at hown3; obtain ⟨A3, c3, hv3, hsl3⟩ := hown3.sl; rw [hv3]; have HL := Lib.hid hL; clear hL hv3 hown3 hown2 ho1))
    have hLl : L.length ≤ 11 := by rw [HL.out]; simp; omega
    clear hg3 hs1' hs0'
    have hsl3' := hsl3
    go_loop [27] (fun i => ∃ k : Nat, k ≤ L.length ∧ i = .int .i64 k ∧ (∀ y ∈ L.take k, 1 ≤ y ∧ y ≤ 4)) (fun i => L.length - (intOf i).toNat)
    case atStart => exact ⟨0, Nat.zero_le _, rfl, by simp⟩
    case round =>
      obtain ⟨k, hk, rfl, hall⟩ := hrel
      by_cases hlt : k < L.length
      · obtain ⟨y, hy⟩ : ∃ y, L[k]? = some y := ⟨L[k], by simp⟩
        obtain ⟨b, o, rfl, hbb, hcell⟩ := hsl3.int hy
        have HT : Hid ((1 ≤ y ∧ y ≤ 4) → ∀ q ∈ L.take (k + 1), 1 ≤ q ∧ q ≤ 4) := by
          intro h q hq
          rw [take_snoc hy] at hq
          simp at hq
          rcases hq with hq | rfl
          · exact hall q hq
          · exact h
        clear hy hall
        go_wp2_with fail
        · go_ret
          exact ⟨rfl, HB3.out⟩
        · go_ret
          exact ⟨rfl, HB3.out⟩
        · go_round
          case rel => exact ⟨k + 1, by omega, by go_num, HT.out (by omega)⟩
          case measure => simp [intOf]; omega
      · have hkk : k = L.length := by omega
        subst hkk
        rw [List.take_length] at hall
        have hk0 : Kinds z0 := kinds_of_all hall (fun q hq => by rw [HL.out]; simp [hq])
        have hk1 : Kinds z1 := kinds_of_all hall (fun q hq => by rw [HL.out]; simp [hq])
        have hkx : 1 ≤ x ∧ x ≤ 4 := hall x (by rw [HL.out]; simp)
        have HOPT := Lib.hid (unmet_most z0 z1 hk0 hk1)
        have HMORE := Lib.hid (unmet_more z0 z1 x hk0 hkx)
        have hml := most_le z1 z0
        clear hall hk0 hk1 hkx
        have hz3 := HB3.out.size
        clear hsl3 hsl3'
        go_wp2_with fail
        refine (unmet_any A0 A1 c0 c1 z0 z1 w3 ((hs0.below HB3.out).more hz3) ((hs1.below HB3.out).more hz3) hw0 hw1 (by omega) (by omega)).mono ?_
        rintro e w4 ⟨v4, rfl, ho4, hb4⟩
        obtain ⟨A4, c4, rfl, _⟩ := ho4.sl
        have hz4 := hb4.size
        have HB4 := Lib.hid (HB3.out.trans (hb4.mono hz3))
        clear ho4 hb4
        go_wp2_with fail
        refine (most_any z1 z0 A0 A1 c0 c1 w4 ((hs0.below HB4.out).more (Nat.le_trans hz3 hz4)) ((hs1.below HB4.out).more (Nat.le_trans hz3 hz4)) hc0 hc1 HA0.out (by omega) (by omega) hm0 hm1).mono ?_
        rintro e w5 ⟨rfl, hb5⟩
        have hz5 := hb5.size
        have HB5 := Lib.hid (HB4.out.trans (hb5.mono (Nat.le_trans hz3 hz4)))
        have hq1 : (((unmet z0 z1).length : Int) == (z0.length : Int) - (most z0 z1 : Int)) = true := by rw [beq_iff_eq]; exact HOPT.out
        have hzw : w.heap.size ≤ w5.heap.size := Nat.le_trans hz3 (Nat.le_trans hz4 hz5)
        have hE0 : OwnI (w5.alloc (.cells #[] 3)) w5.heap.size 3 (.slice (some ⟨w5.heap.size, 0, none⟩) 0 0) [] := OwnV.lit w5 w5.heap.size 3 [] (f := Value.int .i64) rfl (Nat.le_refl _) (by simp) #[] rfl
        have hb6 : Below w.heap.size w (w5.alloc (.cells #[] 3)) := HB5.out.alloc hzw _
        have HB6 := Lib.hid hb6
        have hs1' := hs1.below hb6
        clear hb5 hb6
        go_wp2_with (first
          | (refine wpList_append_sl _ rfl (.tmp 52) (.tmp 53) 24 rfl 3 Try.underlying24 int_info rfl (by omega) w5.heap.size _ [] rfl hE0 w.heap.size _ _ _ z1 rfl rfl HA1.out hs1' (by intro y _; rfl) (by simp; omega) (by simp) ?_; intro v7 w7 hown7 hg7; have HB7 := Lib.hid (HB6.out.grown hg7 HB6.out.size (fun j hj => Nat.le_trans hzw (hE0.ge_base j hj))); have hsz7 : w5.heap.size ≤ w7.heap.size := (by have := hg7.size; simp at this; omega); have hs7 := (Sl.lit w7 [.int .i64 x] 3 rfl); have ho7 := hown7.alloc (.cells #[.int .i64 x] 3))
          | (refine wpList_append_sl _ rfl (.tmp 54) (.tmp 56) 24 rfl 3 Try.underlying24 int_info rfl (by omega) w5.heap.size _ _ rfl ho7 _ _ _ _ [x] rfl rfl (by simp) hs7 (by intro y _; rfl) (by simp; omega) (by simp; omega) ?_; intro v8 w8 hown8 hg8; have HB8 := Lib.hid ((HB7.out.alloc HB7.out.size (.cells #[.int .i64 x] 3)).grown hg8 (HB7.out.alloc HB7.out.size (.cells #[.int .i64 x] 3)).size (fun j hj => Nat.le_trans hzw (hown7.ge_base j hj))); obtain ⟨Z, hZ⟩ : ∃ Z, Z = ([] ++ z1) ++ [x] := ⟨_, rfl⟩; rw [← hZ] at hown8; obtain ⟨A8, c8, hv8, hsl8⟩ := hown8.sl; rw [hv8]; have HZ := Lib.hid hZ; clear hZ hv8 hown8 hown7 hE0 ho7 hs7))
        have hz8 := HB8.out.size
        refine (unmet_any A0 A8 c0 c8 z0 Z w8 ((hs0.below HB8.out).more hz8) hsl8 hw0 (by rw [HZ.out]; intro z hz; simp at hz; rcases hz with hz | rfl; exact hw1 z hz; exact HX.out) (by omega) (by rw [HZ.out]; simp; omega)).mono ?_
        rintro e w9 ⟨v9, rfl, ho9, hb9⟩
        obtain ⟨A9, c9, rfl, _⟩ := ho9.sl
        have HB9 := Lib.hid (HB8.out.trans (hb9.mono hz8))
        have hmr : ((unmet z0 Z).length : Int) ≤ ((unmet z0 z1).length : Int) := by have := HMORE.out; rw [HZ.out, List.nil_append]; omega
        clear ho9 hb9
        go_wp2_with fail
        go_ret
        exact ⟨rfl, HB9.out⟩
  · rcases (show 5 < z0.length ∨ (z0.length ≤ 5 ∧ 5 < z1.length) from by omega) with h | ⟨h, h'⟩
    · have hd0 : decide ((5 : Int) < (z0.length : Int)) = true := by simp; omega
      go_wp2_with fail
      go_ret
      exact ⟨rfl, HB.out⟩
    · have hd0 : decide ((5 : Int) < (z0.length : Int)) = false := by simp; omega
      have hd1 : decide ((5 : Int) < (z1.length : Int)) = true := by simp; omega
      go_wp2_with fail
      go_ret
      exact ⟨rfl, HB.out⟩

set_option maxRecDepth 100000 in
theorem lifted (os : Os) (started : os.Started) (H : Type) (enc : TypeId × Value → H) :
    ReturnsInHanded {} Try.checked os 5 .any (Rows.responseplanOptimalSpec.pre6 enc Try.prog Try.f5 Rows.responseplanOptimalRow.domain false) (Rows.responseplanOptimalSpec.post enc Try.prog Try.f5 false true false false) := by
  refine returnsInHanded_of_change (C := Try.checked) own started (by kernel_rfl) Try.func5
    (ChangeSpec.witness6 (enc := enc) (C := Try.checked) false ⟨#[], #[.slice none 0 0, .slice none 0 0, .int .i64 0], []⟩ 8 (by kernel_rfl) (by kernel_rfl) (by kernel_rfl) (by kernel_rfl)) ?_
  intro W base args ds gs before hval0 hW hcnd _
  have hval : ∀ (j : Nat) t v, Try.f5.params[j]? = some t → args[j]? = some v → Value.okWide Try.prog W .any base t v := hval0
  have hW' := hW
  obtain ⟨p, q, hA0, hV, rfl, hfz, hnd⟩ := hW
  have hA : DataW.TrodAll enc Try.prog W 0 (fun _ => true) true Try.f5.params.toList args.toList ds p := hA0
  rw [Try.params5] at hA hval
  obtain ⟨v0, vs0, d0, ds0, p0, q0, hargs, rfl, rfl, h0, r0⟩ := trodAll_cons hA
  obtain ⟨v1, vs1, d1, ds1, p1, q1, rfl, rfl, rfl, h1, r1⟩ := trodAll_cons r0
  obtain ⟨v2, vs2, d2, ds2, p2, q2, rfl, rfl, rfl, h2, r2⟩ := trodAll_cons r1
  obtain ⟨rfl, rfl, rfl⟩ := trodAll_nil r2
  obtain rfl : args = #[v0, v1, v2] := by cases args; simp_all
  obtain ⟨rfl, rfl⟩ := trodVars_none hV
  obtain ⟨A0, z0, c0, rfl, hs0, hw0, hc0, hm0, hn0⟩ := open_sl Try.underlying24 Try.underlying3 (by kernel_rfl) (hval 0 24 v0 rfl rfl) h0
  obtain ⟨A1, z1, c1, rfl, hs1, hw1, hc1, hm1, hn1⟩ := open_sl Try.underlying24 Try.underlying3 (by kernel_rfl) (hval 1 24 v1 rfl rfl) h1
  obtain ⟨a2, rfl, rfl, rfl, w2⟩ := open_int Try.underlying3 (hval 2 3 v2 rfl rfl) h2
  clear hA0 hval0
  refine (walk W A0 z0 c0 hs0 hw0 hc0 hm0 hn0 A1 z1 c1 hs1 hw1 hc1 hm1 hn1 a2 w2).mono fun e W' ⟨he, hb⟩ => ?_
  subst he
  exact ⟨_, rfl, law_post laidOut (by kernel_rfl) rfl Try.underlying4 rfl hW' rfl rfl rfl hb⟩

theorem over : Rows.responseplanOptimalRow.holds Try.pinned (OpenSpec.ofChange Rows.responseplanOptimalSpec) :=
  OpenClaim.holds_of_wide 5 Try.f5 rfl rfl rfl rfl rfl rfl rfl ⟨rfl, rfl, rfl, rfl, rfl⟩ rfl rfl rfl rfl rfl (by kernel_rfl) Try.func5 (by kernel_rfl)
    (of_decide_eq_true (by kernel_rfl)) (by unfold Func.isWrapper; first | (rw [if_pos (by decide +kernel)]; kernel_rfl) | (rw [if_neg (by decide +kernel)]; exact ⟨rfl, rfl⟩))
    (fun os started H enc _ => lifted os started H enc)

theorem proved : Rows.ResponseplanOptimalSaid := over
#print axioms proved
end Go.Proofs.Ytfojdodeokdanaa.l31Optimal
