/-
  responseplan.Format: what it returns.
-/
import Derived.Test.YtcpplebgocbnhaaDoorRefW
import Derived.Deep.RegionHeld3
namespace Go.Proofs.YtcpplebgocbnhaaDoor
open Go.RowKit Go.Maps

theorem itoa_any (n : Int) (h0 : -9223372036854775808 ≤ n) (h1 : n ≤ 9223372036854775807) (w : World) (h : Ready w) :
    Calls Tryd.prog 48 #[.int .i64 n] w fun e w' => e = .returned (.string (bs (Lib.itoa n))) ∧ Below w.heap.size w w' := by
  refine (Tryd.strconv_Itoa n h0 h1 w h.tab).mono ?_
  rintro e w' ⟨rfl, k, os, rfl⟩
  exact ⟨rfl, Lib.below_grow _ _ (Nat.le_refl _) _ _⟩

/-- the words of a plan whose first k kinds are laid. -/
def wordsK (p : Plan) (k : Nat) : List ByteArray := ⟨#[112, 108, 97, 110]⟩ :: p.code :: bs (Lib.decDigits p.urg.toNat) :: (p.kinds.take k).map (fun z => bs (kindName z))
theorem wordsK_all (p : Plan) : (wordsK p p.kinds.length).map (·.data.toList) = wordsP p := by
  unfold wordsK wordsP
  rw [List.take_length]
  simp only [List.map_cons, List.map_map, bs_data]
  rw [List.map_congr_left (g := kindName) (f := (fun x : ByteArray => x.data.toList) ∘ fun z => bs (kindName z)) fun z _ => bs_data _]
  rfl
theorem wordsK_succ {p : Plan} {k : Nat} {z : Int} (h : p.kinds[k]? = some z) : wordsK p (k + 1) = wordsK p k ++ [bs (kindName z)] := by
  unfold wordsK
  rw [take_snoc h]
  simp
theorem wordsK_len (p : Plan) (k : Nat) : (wordsK p k).length ≤ 3 + p.kinds.length := by
  unfold wordsK
  simp
  omega

theorem fs_below {n : Nat} {s : ByteArray} {u : Int} {w1 W W' : World} (hb : Below w1.heap.size w1 W) (h0 : W.cell? ⟨n, 0, none⟩ = some (.string s)) (h1 : W.cell? ⟨n, 1, none⟩ = some (.int .i64 u)) (hr : Ready W) (hz : n < w1.heap.size) (hbi : Below W.heap.size W W') :
    W'.cell? ⟨n, 0, none⟩ = some (.string s) ∧ W'.cell? ⟨n, 1, none⟩ = some (.int .i64 u) ∧ Ready W' ∧ Below w1.heap.size w1 W' :=
  have hl : n < W.heap.size := Nat.lt_of_lt_of_le hz hb.size
  ⟨(hbi.cell (p := ⟨n, 0, none⟩) hl).trans h0, (hbi.cell (p := ⟨n, 1, none⟩) hl).trans h1, hr.below hbi, below_then hb hbi⟩

theorem fs_next {n : Nat} {s : ByteArray} {u : Int} {w1 W W' : World} (h : W.cell? ⟨n, 0, none⟩ = some (.string s) ∧ W.cell? ⟨n, 1, none⟩ = some (.int .i64 u) ∧ Ready W ∧ Below w1.heap.size w1 W) (hz : n < w1.heap.size) (hbi : Below W.heap.size W W') :
    W'.cell? ⟨n, 0, none⟩ = some (.string s) ∧ W'.cell? ⟨n, 1, none⟩ = some (.int .i64 u) ∧ Ready W' ∧ Below w1.heap.size w1 W' := fs_below h.2.2.2 h.1 h.2.1 h.2.2.1 hz hbi

set_option maxRecDepth 100000 in
set_option maxHeartbeats 2000000 in
theorem format31_any (p : Plan) (w : World) (hs : Sl w w.heap.size p.kA (p.kinds.map (Value.int .i64))) (hw : PlanWf p) (hr : Ready w) (hn : NamesAt w) :
    Calls Tryd.prog 27 #[.agg #[.string p.code, .int .i64 p.urg, .slice p.kA p.kinds.length p.kc]] w (RetText p w) := by
  have hcs := hw.code
  have hkc := hw.cap
  have hkl := hw.len
  have hbel : Below w.heap.size w (w.alloc (.cells #[.string p.code, .int .i64 p.urg, .slice p.kA p.kinds.length p.kc] 35)) := (Below.refl _ _).alloc (Nat.le_refl _) _
  have hs1 := hs.alloc (Nat.le_refl _) (.cells #[.string p.code, .int .i64 p.urg, .slice p.kA p.kinds.length p.kc] 35)
  have hone := valid_any p (w.alloc (.cells #[.string p.code, .int .i64 p.urg, .slice p.kA p.kinds.length p.kc] 35)) (hs1.more (by simp)) hw
  have HB := Lib.hid hbel
  have HS := Lib.hid hs1
  have HONE := Lib.hid hone
  have hroom := hr.room
  have HN := Lib.hid hn
  have HR := Lib.hid hr
  clear hbel hs1 hone hs hw hn hr
  go_enter Tryd.func27, Tryd.ntmps27
  go_wp2_with fail
  refine HONE.out.mono ?_
  rintro e w1 ⟨rfl, hb1⟩
  cases hv : validB p
  · have HV := Lib.hid hv
    have HB1 := Lib.hid (below_then HB.out hb1)
    clear hv hb1
    go_wp2_with fail
    go_ret2
    refine ⟨?_, HB1.out⟩
    rw [HV.out]
    rfl
  · obtain ⟨v1, v2, _, v4, v5, v6, v7, v8⟩ := valid_parts hv
    have c0 : w1.cell? ⟨w.heap.size, 0, none⟩ = some (.string p.code) := (hb1.cell (p := ⟨w.heap.size, 0, none⟩) (by simp)).trans (by simp)
    have c1 : w1.cell? ⟨w.heap.size, 1, none⟩ = some (.int .i64 p.urg) := (hb1.cell (p := ⟨w.heap.size, 1, none⟩) (by simp)).trans (by simp)
    have c2 : w1.cell? ⟨w.heap.size, 2, none⟩ = some (.slice p.kA p.kinds.length p.kc) := (hb1.cell (p := ⟨w.heap.size, 2, none⟩) (by simp)).trans (by simp)
    have hs2 := (HS.out.more (show w.heap.size ≤ (w.alloc (.cells #[.string p.code, .int .i64 p.urg, .slice p.kA p.kinds.length p.kc] 35)).heap.size by simp)).below hb1
    have hz1 : w.heap.size + 1 ≤ w1.heap.size := by have := hb1.size; simpa using this
    have hb2 := below_then HB.out hb1
    have hr1 := HR.out.below hb2
    have hn1 := HN.out.keep hb2 hroom
    have HB1 := Lib.hid hb2
    have HV := Lib.hid hv
    have HV8 := Lib.hid v8
    obtain ⟨b, o, hA, _, _⟩ := hs2.int (j := 0) (z := p.kinds[0]'(by omega)) (by simp)
    rw [hA] at hs2 c2 ⊢
    have HS2 := Lib.hid hs2
    have HN1 := Lib.hid hn1
    clear hv hb1 v8 hs2 HS hb2 hA hn1 HONE HB HR HN
    go_wp2_with fail
    go_region_held3 (fun w' => w'.cell? ⟨w.heap.size, 0, none⟩ = some (.string p.code) ∧ w'.cell? ⟨w.heap.size, 1, none⟩ = some (.int .i64 p.urg) ∧ Ready w' ∧ Below w1.heap.size w1 w')
      (first | exact fs_below (Below.refl _ _) c0 c1 hr1 hz1 (below_drewN w1 1) | exact fs_next (by assumption) hz1 hbi | exact fs_next (by assumption) hz1 ((Below.refl _ _).alloc (Nat.le_refl _) _))
      (first | (go_at_call 48; refine (itoa_any _ (by omega) (by omega) _ ?_).mono ?_; (exact And.left (And.right (And.right ‹_ ∧ _ ∧ Ready _ ∧ _›))); rintro e w' ⟨rfl, hbi⟩))
    rw [itoa_dec (show 0 ≤ p.urg by omega)]
    have hbw : Below w1.heap.size w1 w' := below_then (b := w1.drew) (below_drewN w1 1) hbi
    have HBW := Lib.hid hbw
    clear hbi hbw
    rename_i hheld
    clear hheld
    have hzw : w1.heap.size ≤ w'.heap.size := HBW.out.size
    have hown : OwnV Value.string (w'.alloc (.cells #[.string ⟨#[112, 108, 97, 110]⟩, .string p.code, .string (bs (Lib.decDigits p.urg.toNat))] 9)) w1.heap.size 9 (.slice (some ⟨w'.heap.size, 0, none⟩) 3 3) (wordsK p 0) :=
      OwnV.lit w' w1.heap.size 9 (wordsK p 0) rfl hzw (by simp [wordsK]) _ (by simp [wordsK])
    have HB3 := Lib.hid (HBW.out.alloc hzw (.cells #[.string ⟨#[112, 108, 97, 110]⟩, .string p.code, .string (bs (Lib.decDigits p.urg.toNat))] 9))
    have HOWN := Lib.hid hown
    clear hown
    generalize w'.alloc (.cells #[.string ⟨#[112, 108, 97, 110]⟩, .string p.code, .string (bs (Lib.decDigits p.urg.toNat))] 9) = w3 at *
    have HRD := Lib.hid hr1
    have d2 : w3.cell? ⟨w.heap.size, 2, none⟩ = some (.slice (some ⟨b, o, none⟩) p.kinds.length p.kc) := (HB3.out.cell (p := ⟨w.heap.size, 2, none⟩) hz1).trans c2
    have hroom1 : Tryd.prog.globals.size ≤ w1.heap.size := by omega
    clear c0 c1 c2 hr1
    go_wp2_with fail
    go_loopw [4, 19] (fun v iv wr => ∃ k : Nat, k ≤ p.kinds.length ∧ iv = .int .i64 k ∧ OwnV Value.string wr w1.heap.size 9 v (wordsK p k) ∧ Below w1.heap.size w1 wr) (fun _ i _ => p.kinds.length - (intOf i).toNat)
    case atStart => exact ⟨0, Nat.zero_le _, rfl, HOWN.out, HB3.out⟩
    case round =>
      obtain ⟨k, hk, rfl, hown, hb⟩ := hrel
      have HB := Lib.hid hb
      clear hb
      have hrr := HRD.out.below HB.out
      by_cases hlt : k < p.kinds.length
      · obtain ⟨z, hz⟩ : ∃ z, p.kinds[k]? = some z := ⟨p.kinds[k], by simp⟩
        have hkb := HV8.out z (List.mem_of_getElem? hz)
        have hnm := (HN1.out.keep HB.out hroom1).at hkb
        obtain ⟨b', o', hA, hbl, hcz0⟩ := HS2.out.int hz
        injection hA with hA
        injection hA with h1 h2
        subst h1 h2
        have hcz : wr.cell? ⟨b, o + k, none⟩ = some (.int .i64 z) := (HB.out.cell (p := ⟨b, o + k, none⟩) (by simp at hbl; show b < _; omega)).trans hcz0
        have hz14 : 1 ≤ z ∧ z ≤ 4 := by unfold kindB at hkb; simpa using hkb
        rw [show (z - 1).toNat = z.toNat - 1 by omega] at hnm
        have HWK := Lib.hid (wordsK_succ hz)
        have hwl := wordsK_len p k
        clear hz hcz0 hbl hkb
        go_wp2_with (at_builtin; refine wpList_append_one (f := Value.string) _ rfl _ _ 52 rfl w1.heap.size 9 Tryd.underlying52 str_info rfl (by omega) _ _ wr (bs (kindName z)) rfl rfl rfl hown rfl (by omega) HB.out.size ?_; intro v2 w2 hown2 hg)
        go_roundw
        case rel => exact ⟨k + 1, by omega, by go_num, by rw [HWK.out]; exact hown2, HB.out.grown hg HB.out.size hown.ge_base⟩
        case measure => simp [intOf]; omega
      · have hkk : k = p.kinds.length := by omega
        subst hkk
        have hwl := wordsK_len p p.kinds.length
        have hne : wordsK p p.kinds.length ≠ [] := by unfold wordsK; simp
        have HJ := Lib.hid (wordsK_all p)
        have hjoin := join_any (wordsK p p.kinds.length) hne _ hown ⟨#[32]⟩ (by omega) (by rw [HJ.out]; have := text_len HV.out; unfold textP at this; show (Lib.join (wordsP p) [32]).length ≤ _; omega)
        rw [HJ.out] at hjoin
        go_wp2_with fail
        refine hjoin.mono ?_
        rintro e w5 ⟨rfl, hb5⟩
        have HB5 := Lib.hid (HB1.out.trans ((below_then HB.out hb5).mono (by omega)))
        clear hb5 hjoin
        go_wp2_with fail
        go_ret2
        refine ⟨?_, HB5.out⟩
        rw [if_pos HV.out, if_pos HV.out]
        rfl
end Go.Proofs.YtcpplebgocbnhaaDoor
