/-
  protocol.Parse.
-/
import Derived.Test.YtbbklideciappaaGreatDoorPqZ
namespace Go.Proofs.YtbbklideciappaaGreatDoor
open Go.RowKit Go.Maps

theorem cutNl_hit (R : ByteArray) (x y : List UInt8) (h : R.data.toList = x ++ 10 :: y) (hx : (10 : UInt8) ∉ x) (hs : R.size ≤ 1000000000) (w : World) (hr : Ready w) :
    Calls Tryz.prog 28 #[.string R, .string ⟨#[10]⟩] w fun e w' => e = .returned (.tuple #[.string (bs x), .string (bs y), .bool true]) ∧ ∃ n, w' = w.drewN n := by
  obtain ⟨m, hm⟩ := hr.most
  have h1 := Tryz.strings_Cut R ⟨#[10]⟩ m w (by omega) hm
  have hc2 : Lib.cut R.data.toList (⟨#[10]⟩ : ByteArray).data.toList = (x, y, true) := by
    rw [h]
    exact cutC_hit hx y
  rw [hc2] at h1
  exact h1
theorem cutNl_miss (R : ByteArray) (h : (10 : UInt8) ∉ R.data.toList) (hs : R.size ≤ 1000000000) (w : World) (hr : Ready w) :
    Calls Tryz.prog 28 #[.string R, .string ⟨#[10]⟩] w fun e w' => e = .returned (.tuple #[.string (bs R.data.toList), .string (bs []), .bool false]) ∧ ∃ n, w' = w.drewN n := by
  obtain ⟨m, hm⟩ := hr.most
  have h1 := Tryz.strings_Cut R ⟨#[10]⟩ m w (by omega) hm
  have hc2 : Lib.cut R.data.toList (⟨#[10]⟩ : ByteArray).data.toList = (R.data.toList, [], false) := cutC_miss h
  rw [hc2] at h1
  exact h1
theorem PSt.keep {pb : Nat} {p : Prot} {W W' : World} {S : Nat → Prop} (h : PSt pb p W) (ho : Only S W W') (hS : ∀ b, pb ≤ b → ¬ S b) : PSt pb p W' :=
  ⟨(ho.block pb h.lt (hS pb (Nat.le_refl _))).trans h.cc, ho.row h.qs (fun k e => hS k (by have := (World.ownsRow.lt h.qs k e).1; omega)), fun q hq => ho.row (h.an q hq) (fun k e => hS k (by have := (World.ownsRow.lt (h.an q hq) k e).1; omega)), h.ds⟩
theorem PSt.start {w : World} {n : ByteArray} {v : Int} : PSt w.heap.size ⟨n, v, none, [], 0⟩ (w.alloc (.cells #[.string n, .int .i64 v, .slice none 0 0] 24)) :=
  ⟨new_obj _ _, OwnR.nil _ _ _, (fun q hq => by cases hq), (fun i j q r hi => by cases hi)⟩
/-- what Parse returns at the lines L and the rest t. -/
def RetPs (L : List (List UInt8)) (t : List UInt8) (w : World) (e : Ending) (w' : World) : Prop :=
  ∃ p a b, e = .returned (.tuple #[protV p.name p.ver p.qA p.qs.length p.qc, .int .i64 a, .int .i64 b]) ∧ Parses L t (conOf p) a b ∧ ProtAt w' w'.heap.size p ∧ CntLe p 1000000000 ∧ Below w.heap.size w w'
def noProt : Prot := ⟨⟨#[]⟩, 0, none, [], 0⟩
theorem no_at {w : World} {B : Nat} : ProtAt w B noProt := QuesAt.empty
theorem no_cnt {k : Nat} : CntLe noProt k := ⟨Nat.zero_le _, (fun q hq => by cases hq)⟩
theorem joinL_cons (l : List UInt8) (r : List (List UInt8)) : joinL (l :: r) = l ++ 10 :: joinL r := by simp [joinL]
theorem joinL_len' (L : List (List UInt8)) : L.length ≤ (joinL L).length := by
  induction L with
  | nil => simp
  | cons l r ih => rw [joinL_cons]; simp; omega
theorem val_eq {a b : Int} (h : a = b) : Value.int .i64 a = Value.int .i64 b := by rw [h]
theorem drop_len (r : List (List UInt8)) (k : Nat) : (joinL (r.drop k)).length ≤ (joinL r).length := by
  conv => rhs; rw [← List.take_append_drop k r, joinL_app, List.length_append]
  omega
-- WALKS
set_option maxRecDepth 100000 in
set_option maxHeartbeats 8000000 in
theorem parse_none (s : ByteArray) (hs : s.size ≤ 1000000000) (t : List UInt8) (hL : s.data.toList = t) (ht : (10 : UInt8) ∉ t) (w : World) (hr : Ready w) :
    Calls Tryz.prog 13 #[.string s] w (RetPs [] t w) := by
  have hz := lt_new w (.cells #[.string ⟨#[]⟩, .int .i64 0, .slice none 0 0] 24)
  have hb0 := below_new w (.cells #[.string ⟨#[]⟩, .int .i64 0, .slice none 0 0] 24)
  obtain ⟨c0, c1, c2⟩ := fresh3 w (.string ⟨#[]⟩) (.int .i64 0) (.slice none 0 0) 24
  have k0 := free_new w #[.string ⟨#[]⟩, .int .i64 0, .slice none 0 0] 24
  obtain ⟨W1, hW1⟩ : ∃ W1, W1 = w.alloc (.cells #[.string ⟨#[]⟩, .int .i64 0, .slice none 0 0] 24) := ⟨_, rfl⟩
  rw [← hW1] at c0 c1 c2 hz hb0 k0
  have HC := Lib.hid (And.intro c0 (And.intro c1 (And.intro c2 (And.intro (k0 0) (And.intro (k0 1) (k0 2))))))
  have HR0 := Lib.hid hr
  have HR1 := Lib.hid (hr.below hb0)
  have HB1 := Lib.hid hb0
  have HZ := Lib.hid hz
  clear c0 c1 c2 k0 hb0 hz hr
  have HCT := Lib.hid (cutNl_miss s (by rw [hL]; exact ht) hs W1 HR1.out)
  obtain ⟨Z, hZ⟩ : ∃ Z, Z = bs s.data.toList := ⟨_, rfl⟩
  obtain ⟨Y, hY⟩ : ∃ Y, Y = bs [] := ⟨_, rfl⟩
  have hzs : Z.size ≤ 1000000000 := by rw [hZ, bs_size]; simpa using hs
  rw [← hZ, ← hY] at HCT
  have HPH := Lib.hid (fun X hX => parseHeader_any Z hzs X hX)
  have HP := Lib.hid (show Parses [] t empC 1 2 from .none rfl)
  clear hZ hY hzs hL ht
  go_enter Tryz.func13, Tryz.ntmps13
  go_wp2_with fail
  rw [← hW1]
  clear hW1
  refine HCT.out.mono ?_
  rintro e w2 ⟨rfl, n2, rfl⟩
  go_wp2_with fail
  refine (HPH.out _ (HR1.out.below (below_drewN' (Below.refl _ _) n2))).mono ?_
  rintro e W3 ⟨⟨n, v, _, rfl⟩ | ⟨_, rfl⟩, hb3⟩
  · have hb3 : Below W1.heap.size W1 W3 := (below_drewN' (Below.refl _ _) n2).trans hb3
    have hbx := below_new W3 (.cells #[.string n, .int .i64 v, .slice none 0 0] 24)
    have hb4 := (show Below W1.heap.size W1 W3 from hb3).trans (hbx.mono hb3.size)
    have q0 := (hb3.cell (p := ⟨w.heap.size, 0, none⟩) HZ.out).trans HC.out.1
    have q1 := (hb3.cell (p := ⟨w.heap.size, 1, none⟩) HZ.out).trans HC.out.2.1
    have q2 := (hb3.cell (p := ⟨w.heap.size, 2, none⟩) HZ.out).trans HC.out.2.2.1
    have l0 := (hb3.frozen (p := ⟨w.heap.size, 0, none⟩) HZ.out).trans HC.out.2.2.2.1
    have l1 := (hb3.frozen (p := ⟨w.heap.size, 1, none⟩) HZ.out).trans HC.out.2.2.2.2.1
    have l2 := (hb3.frozen (p := ⟨w.heap.size, 2, none⟩) HZ.out).trans HC.out.2.2.2.2.2
    have hlt3 : w.heap.size < W3.heap.size := Nat.lt_of_lt_of_le HZ.out hb3.size
    have hne3 : ¬ w.heap.size = W3.heap.size := by omega
    have HB3 := Lib.hid (HB1.out.trans (hb3.mono HB1.out.size))
    clear hb4 hbx hb3
    simp only [protV]
    go_wp2_with fail
    refine bodyPost_ret (v := .tuple #[protV ⟨#[]⟩ 0 none 0 0, .int .i64 1, .int .i64 2]) (by simp [results, Tryz.results13, go_sem, q0, q1, q2, protV, hlt3]) rfl ?_
    exact ⟨noProt, 1, 2, rfl, HP.out, no_at, no_cnt, (((HB3.out.setCell (p := ⟨w.heap.size, 0, none⟩) (Nat.le_refl _) _).setCell (p := ⟨w.heap.size, 1, none⟩) (Nat.le_refl _) _).setCell (p := ⟨w.heap.size, 2, none⟩) (Nat.le_refl _) _).alloc (by have := HB3.out.size; simpa using this) _⟩
  · have hb3 : Below W1.heap.size W1 W3 := (below_drewN' (Below.refl _ _) n2).trans hb3
    have hbx := below_new W3 (.cells #[.string ⟨#[]⟩, .int .i64 0, .slice none 0 0] 24)
    have hb4 := (show Below W1.heap.size W1 W3 from hb3).trans (hbx.mono hb3.size)
    have q0 := (hb3.cell (p := ⟨w.heap.size, 0, none⟩) HZ.out).trans HC.out.1
    have q1 := (hb3.cell (p := ⟨w.heap.size, 1, none⟩) HZ.out).trans HC.out.2.1
    have q2 := (hb3.cell (p := ⟨w.heap.size, 2, none⟩) HZ.out).trans HC.out.2.2.1
    have l0 := (hb3.frozen (p := ⟨w.heap.size, 0, none⟩) HZ.out).trans HC.out.2.2.2.1
    have l1 := (hb3.frozen (p := ⟨w.heap.size, 1, none⟩) HZ.out).trans HC.out.2.2.2.2.1
    have l2 := (hb3.frozen (p := ⟨w.heap.size, 2, none⟩) HZ.out).trans HC.out.2.2.2.2.2
    have hlt3 : w.heap.size < W3.heap.size := Nat.lt_of_lt_of_le HZ.out hb3.size
    have hne3 : ¬ w.heap.size = W3.heap.size := by omega
    have HB3 := Lib.hid (HB1.out.trans (hb3.mono HB1.out.size))
    clear hb4 hbx hb3
    simp only [protV]
    go_wp2_with fail
    refine bodyPost_ret (v := .tuple #[protV ⟨#[]⟩ 0 none 0 0, .int .i64 1, .int .i64 2]) (by simp [results, Tryz.results13, go_sem, q0, q1, q2, protV, hlt3]) rfl ?_
    exact ⟨noProt, 1, 2, rfl, HP.out, no_at, no_cnt, (((HB3.out.setCell (p := ⟨w.heap.size, 0, none⟩) (Nat.le_refl _) _).setCell (p := ⟨w.heap.size, 1, none⟩) (Nat.le_refl _) _).setCell (p := ⟨w.heap.size, 2, none⟩) (Nat.le_refl _) _).alloc (by have := HB3.out.size; simpa using this) _⟩
set_option maxRecDepth 100000 in
set_option maxHeartbeats 8000000 in
theorem parse_nohead (s : ByteArray) (hs : s.size ≤ 1000000000) (l : List UInt8) (r : List (List UInt8)) (t : List UInt8) (hL : s.data.toList = joinL (l :: r) ++ t) (hl : (10 : UInt8) ∉ l) (w : World) (hr : Ready w) (hno : ∀ n v, ¬ IsHead l n v) :
    Calls Tryz.prog 13 #[.string s] w (RetPs (l :: r) t w) := by
  have hz := lt_new w (.cells #[.string ⟨#[]⟩, .int .i64 0, .slice none 0 0] 24)
  have hb0 := below_new w (.cells #[.string ⟨#[]⟩, .int .i64 0, .slice none 0 0] 24)
  obtain ⟨c0, c1, c2⟩ := fresh3 w (.string ⟨#[]⟩) (.int .i64 0) (.slice none 0 0) 24
  have k0 := free_new w #[.string ⟨#[]⟩, .int .i64 0, .slice none 0 0] 24
  obtain ⟨W1, hW1⟩ : ∃ W1, W1 = w.alloc (.cells #[.string ⟨#[]⟩, .int .i64 0, .slice none 0 0] 24) := ⟨_, rfl⟩
  rw [← hW1] at c0 c1 c2 hz hb0 k0
  have HC := Lib.hid (And.intro c0 (And.intro c1 (And.intro c2 (And.intro (k0 0) (And.intro (k0 1) (k0 2))))))
  have HR0 := Lib.hid hr
  have HR1 := Lib.hid (hr.below hb0)
  have HB1 := Lib.hid hb0
  have HZ := Lib.hid hz
  clear c0 c1 c2 k0 hb0 hz hr
  have hsp : s.data.toList = l ++ 10 :: (joinL r ++ t) := by rw [hL, joinL_cons]; simp
  have HCT := Lib.hid (cutNl_hit s l (joinL r ++ t) hsp hl hs W1 HR1.out)
  have hll : l.length ≤ 1000000000 := by
    have h1 := congrArg List.length hsp
    simp at h1
    omega
  obtain ⟨Z, hZ⟩ : ∃ Z, Z = bs l := ⟨_, rfl⟩
  obtain ⟨Y, hY⟩ : ∃ Y, Y = bs (joinL r ++ t) := ⟨_, rfl⟩
  have hzs : Z.size ≤ 1000000000 := by rw [hZ, bs_size]; exact hll
  have hzd : Z.data.toList = l := by rw [hZ]; exact bs_data l
  rw [← hZ, ← hY] at HCT
  have HPH := Lib.hid (fun X hX => parseHeader_any Z hzs X hX)
  rw [hzd] at HPH
  have HP := Lib.hid (show Parses (l :: r) t empC 1 2 from .head l r rfl hno)
  have HNO := Lib.hid hno
  clear hZ hY hzs hL hl hzd hno hll hsp
  go_enter Tryz.func13, Tryz.ntmps13
  go_wp2_with fail
  rw [← hW1]
  clear hW1
  refine HCT.out.mono ?_
  rintro e w2 ⟨rfl, n2, rfl⟩
  go_wp2_with fail
  refine (HPH.out _ (HR1.out.below (below_drewN' (Below.refl _ _) n2))).mono ?_
  rintro e W3 ⟨⟨n, v, hh, rfl⟩ | ⟨_, rfl⟩, hb3⟩
  · exact absurd hh (HNO.out n v)
  · have hb3 : Below W1.heap.size W1 W3 := (below_drewN' (Below.refl _ _) n2).trans hb3
    have hbx := below_new W3 (.cells #[.string ⟨#[]⟩, .int .i64 0, .slice none 0 0] 24)
    have hb4 := (show Below W1.heap.size W1 W3 from hb3).trans (hbx.mono hb3.size)
    have q0 := (hb3.cell (p := ⟨w.heap.size, 0, none⟩) HZ.out).trans HC.out.1
    have q1 := (hb3.cell (p := ⟨w.heap.size, 1, none⟩) HZ.out).trans HC.out.2.1
    have q2 := (hb3.cell (p := ⟨w.heap.size, 2, none⟩) HZ.out).trans HC.out.2.2.1
    have l0 := (hb3.frozen (p := ⟨w.heap.size, 0, none⟩) HZ.out).trans HC.out.2.2.2.1
    have l1 := (hb3.frozen (p := ⟨w.heap.size, 1, none⟩) HZ.out).trans HC.out.2.2.2.2.1
    have l2 := (hb3.frozen (p := ⟨w.heap.size, 2, none⟩) HZ.out).trans HC.out.2.2.2.2.2
    have hlt3 : w.heap.size < W3.heap.size := Nat.lt_of_lt_of_le HZ.out hb3.size
    have hne3 : ¬ w.heap.size = W3.heap.size := by omega
    have HB3 := Lib.hid (HB1.out.trans (hb3.mono HB1.out.size))
    clear hb4 hbx hb3
    simp only [protV]
    go_wp2_with fail
    refine bodyPost_ret (v := .tuple #[protV ⟨#[]⟩ 0 none 0 0, .int .i64 1, .int .i64 2]) (by simp [results, Tryz.results13, go_sem, q0, q1, q2, protV, hlt3]) rfl ?_
    exact ⟨noProt, 1, 2, rfl, HP.out, no_at, no_cnt, (((HB3.out.setCell (p := ⟨w.heap.size, 0, none⟩) (Nat.le_refl _) _).setCell (p := ⟨w.heap.size, 1, none⟩) (Nat.le_refl _) _).setCell (p := ⟨w.heap.size, 2, none⟩) (Nat.le_refl _) _).alloc (by have := HB3.out.size; simpa using this) _⟩
set_option maxRecDepth 100000 in
set_option maxHeartbeats 8000000 in
theorem parse_lines (s : ByteArray) (hs : s.size ≤ 1000000000) (l : List UInt8) (r : List (List UInt8)) (t : List UInt8) (hL : s.data.toList = joinL (l :: r) ++ t) (h10 : ∀ x ∈ l :: r, (10 : UInt8) ∉ x) (ht : (10 : UInt8) ∉ t) (w : World) (hr : Ready w) (n : ByteArray) (v : Int) (hh : IsHead l n v) :
    Calls Tryz.prog 13 #[.string s] w (RetPs (l :: r) t w) := by
  have hz := lt_new w (.cells #[.string ⟨#[]⟩, .int .i64 0, .slice none 0 0] 24)
  have hb0 := below_new w (.cells #[.string ⟨#[]⟩, .int .i64 0, .slice none 0 0] 24)
  obtain ⟨c0, c1, c2⟩ := fresh3 w (.string ⟨#[]⟩) (.int .i64 0) (.slice none 0 0) 24
  have k0 := free_new w #[.string ⟨#[]⟩, .int .i64 0, .slice none 0 0] 24
  obtain ⟨W1, hW1⟩ : ∃ W1, W1 = w.alloc (.cells #[.string ⟨#[]⟩, .int .i64 0, .slice none 0 0] 24) := ⟨_, rfl⟩
  rw [← hW1] at c0 c1 c2 hz hb0 k0
  have HC := Lib.hid (And.intro c0 (And.intro c1 (And.intro c2 (And.intro (k0 0) (And.intro (k0 1) (k0 2))))))
  have HR0 := Lib.hid hr
  have HR1 := Lib.hid (hr.below hb0)
  have HB1 := Lib.hid hb0
  have HZ := Lib.hid hz
  clear c0 c1 c2 k0 hb0 hz hr
  have hsp : s.data.toList = l ++ 10 :: (joinL r ++ t) := by rw [hL, joinL_cons]; simp
  have HCT := Lib.hid (cutNl_hit s l (joinL r ++ t) hsp (h10 l (by simp)) hs W1 HR1.out)
  have hll : l.length + (joinL r ++ t).length < 1000000000 := by
    have h1 := congrArg List.length hsp
    simp at h1
    simp
    omega
  obtain ⟨Z, hZ⟩ : ∃ Z, Z = bs l := ⟨_, rfl⟩
  obtain ⟨Y, hY⟩ : ∃ Y, Y = bs (joinL r ++ t) := ⟨_, rfl⟩
  have hzs : Z.size ≤ 1000000000 := by rw [hZ, bs_size]; omega
  have hzd : Z.data.toList = l := by rw [hZ]; exact bs_data l
  rw [← hZ, ← hY] at HCT
  have HPH := Lib.hid (fun X hX => parseHeader_any Z hzs X hX)
  rw [hzd] at HPH
  have HYY := Lib.hid hY
  have HT := Lib.hid (And.intro hh (And.intro h10 (And.intro ht hll)))
  obtain ⟨m, hm⟩ : ∃ m, m = r.length := ⟨_, rfl⟩
  have hm9 : m ≤ 1000000000 := by have := joinL_len' r; simp at hll; omega
  have HM := Lib.hid hm
  clear hZ hY hzs hL h10 ht hzd hh hll hsp hm
  go_enter Tryz.func13, Tryz.ntmps13
  go_wp2_with fail
  rw [← hW1]
  clear hW1
  refine HCT.out.mono ?_
  rintro e w2 ⟨rfl, n2, rfl⟩
  go_wp2_with fail
  refine (HPH.out _ (HR1.out.below (below_drewN' (Below.refl _ _) n2))).mono ?_
  rintro e W3 ⟨⟨n', v', hh', rfl⟩ | ⟨hno, rfl⟩, hb3⟩
  rotate_left
  · exact absurd HT.out.1 (hno n v)
  obtain ⟨rfl, rfl⟩ := hh'.uni HT.out.1
  have hb3 : Below W1.heap.size W1 W3 := (below_drewN' (Below.refl _ _) n2).trans hb3
  have hbx := below_new W3 (.cells #[.string n', .int .i64 v', .slice none 0 0] 24)
  have HST : Hid (PSt W3.heap.size ⟨n', v', none, [], 0⟩ (W3.alloc (.cells #[.string n', .int .i64 v', .slice none 0 0] 24))) := Lib.hid PSt.start
  have hb4 := hb3.trans (hbx.mono hb3.size)
  have q0 := (hb4.cell (p := ⟨w.heap.size, 0, none⟩) HZ.out).trans HC.out.1
  have q1 := (hb4.cell (p := ⟨w.heap.size, 1, none⟩) HZ.out).trans HC.out.2.1
  have q2 := (hb4.cell (p := ⟨w.heap.size, 2, none⟩) HZ.out).trans HC.out.2.2.1
  have l0 := (hb4.frozen (p := ⟨w.heap.size, 0, none⟩) HZ.out).trans HC.out.2.2.2.1
  have l1 := (hb4.frozen (p := ⟨w.heap.size, 1, none⟩) HZ.out).trans HC.out.2.2.2.2.1
  have l2 := (hb4.frozen (p := ⟨w.heap.size, 2, none⟩) HZ.out).trans HC.out.2.2.2.2.2
  have HQ := Lib.hid (And.intro q0 (And.intro q1 (And.intro q2 (And.intro l0 (And.intro l1 l2)))))
  have HB4 := Lib.hid (HB1.out.trans (hb4.mono HB1.out.size))
  have HRB := Lib.hid (show w.heap.size < W3.heap.size from Nat.lt_of_lt_of_le HZ.out hb3.size)
  have HR4 := Lib.hid (HR1.out.below hb4)
  obtain ⟨W4, hW4⟩ : ∃ W4, W4 = W3.alloc (.cells #[.string n', .int .i64 v', .slice none 0 0] 24) := ⟨_, rfl⟩
  rw [← hW4] at HQ HB4 HST HR4
  obtain ⟨pb, hpb⟩ : ∃ pb, pb = W3.heap.size := ⟨_, rfl⟩
  rw [← hpb] at HST HRB
  clear q0 q1 q2 l0 l1 l2 hb4 hbx hb3 hh'
  simp only [protV]
  go_wp2_with fail
  rw [← hW4, ← hpb]
  clear hW4 hpb
  go_loopw [6, 10] (fun rv iv X => ∃ (k : Nat) (p : Prot), k ≤ m ∧ iv = .int .i64 ((k : Int) + 2) ∧ rv = .string (bs (joinL (r.drop k) ++ t)) ∧ PSt pb p X ∧ Below pb W4 X ∧ CntLe p k ∧ Run ⟨n', v', []⟩ (r.take k) (conOf p)) (fun _ i _ => m + 3 - (intOf i).toNat)
  case atStart => exact ⟨0, _, Nat.zero_le _, rfl, by rw [HYY.out]; rfl, HST.out, Below.refl _ _, no_cnt, Run.nil _⟩
  case round =>
    obtain ⟨k, p, hk, rfl, rfl, hst, hbw, hcn, hrun⟩ := hrel
    have q0 := (hbw.cell (p := ⟨w.heap.size, 0, none⟩) HRB.out).trans HQ.out.1
    have q1 := (hbw.cell (p := ⟨w.heap.size, 1, none⟩) HRB.out).trans HQ.out.2.1
    have q2 := (hbw.cell (p := ⟨w.heap.size, 2, none⟩) HRB.out).trans HQ.out.2.2.1
    have l0 := (hbw.frozen (p := ⟨w.heap.size, 0, none⟩) HRB.out).trans HQ.out.2.2.2.1
    have l1 := (hbw.frozen (p := ⟨w.heap.size, 1, none⟩) HRB.out).trans HQ.out.2.2.2.2.1
    have l2 := (hbw.frozen (p := ⟨w.heap.size, 2, none⟩) HRB.out).trans HQ.out.2.2.2.2.2
    have HW := Lib.hid (And.intro hst (And.intro hbw (And.intro hcn hrun)))
    have HBW := Lib.hid (HB4.out.trans (hbw.mono (Nat.le_trans (Nat.le_of_lt HRB.out) (Nat.le_refl _))))
    have HRW : Hid (Ready wr) := Lib.hid (HR0.out.below HBW.out)
    clear hst hbw hcn hrun
    by_cases hlt : k < m
    · obtain ⟨x, hx⟩ : ∃ x, r[k]? = some x := ⟨r[k]'(by have := HM.out; omega), by simp⟩
      have hdr : r.drop k = x :: r.drop (k + 1) := by
        obtain ⟨h1, h2⟩ := List.getElem?_eq_some_iff.1 hx
        rw [List.drop_eq_getElem_cons h1, h2]
      obtain ⟨R, hR⟩ : ∃ R, R = bs (joinL (r.drop k) ++ t) := ⟨_, rfl⟩
      have hRd : R.data.toList = x ++ 10 :: (joinL (r.drop (k + 1)) ++ t) := by rw [hR, bs_data, hdr, joinL_cons]; simp
      have hRl : R.size ≤ 1000000000 := by
        rw [hR, bs_size]
        have := drop_len r k
        have := HT.out.2.2.2
        simp at this ⊢
        omega
      have hRe : R.toList.isEmpty = false := emp_no (by
        have h1 : R.data.toList.length = R.size := by simp
        rw [hRd] at h1
        simp at h1
        omega)
      have HCX := Lib.hid (cutNl_hit R x _ hRd (HT.out.2.1 x (by have := List.mem_of_getElem? hx; simp [this])) hRl wr HRW.out)
      have hxl : x.length ≤ 1000000000 := by
        have h1 : R.data.toList.length = R.size := by simp
        rw [hRd] at h1
        simp at h1
        omega
      obtain ⟨X, hX⟩ : ∃ X, X = bs x := ⟨_, rfl⟩
      have hXd : X.data.toList = x := by rw [hX]; exact bs_data x
      have HPL := Lib.hid (fun Y hst hrd => parseLine_any pb p k Y hst hrd HW.out.2.2.1 (by omega) X (by rw [hX, bs_size]; exact hxl))
      rw [hXd] at HPL
      rw [← hX] at HCX
      rw [← hR]
      have HXX := Lib.hid hx
      clear hR hRd hX hXd hx hdr hxl hRl
      go_wp2_with fail
      refine HCX.out.mono ?_
      rintro e w5 ⟨rfl, n5, rfl⟩
      go_wp2_with fail
      refine (HPL.out _ (HW.out.1.drewN _) (HRW.out.below (below_drewN' (Below.refl _ _) _))).mono ?_
      rintro e W6 ⟨b, p', rfl, hst', hb6, hcn', hsl⟩
      have hb7 : Below pb W4 W6 := HW.out.2.1.trans ((below_drewN' (Below.refl pb wr) n5).trans hb6)
      have q0 := (hb7.cell (p := ⟨w.heap.size, 0, none⟩) HRB.out).trans HQ.out.1
      have q1 := (hb7.cell (p := ⟨w.heap.size, 1, none⟩) HRB.out).trans HQ.out.2.1
      have q2 := (hb7.cell (p := ⟨w.heap.size, 2, none⟩) HRB.out).trans HQ.out.2.2.1
      have l0 := (hb7.frozen (p := ⟨w.heap.size, 0, none⟩) HRB.out).trans HQ.out.2.2.2.1
      have l1 := (hb7.frozen (p := ⟨w.heap.size, 1, none⟩) HRB.out).trans HQ.out.2.2.2.2.1
      have l2 := (hb7.frozen (p := ⟨w.heap.size, 2, none⟩) HRB.out).trans HQ.out.2.2.2.2.2
      have HST' := Lib.hid (And.intro hst' (And.intro hb7 (And.intro hcn' hsl)))
      have HB7 := Lib.hid (HB4.out.trans (hb7.mono (Nat.le_of_lt HRB.out)))
      clear hst' hb6 hcn' hsl hb7
      cases b with
      | true =>
        have HSL : Hid (StepL (conOf p) x (conOf p')) := Lib.hid (by
          rcases HST'.out.2.2.2 with ⟨_, h⟩ | ⟨h, _⟩
          · exact h
          · cases h)
        go_wp2_with fail
        go_roundw
        case rel => exact ⟨k + 1, p', by omega, val_eq (by omega), rfl, HST'.out.1, HST'.out.2.1, HST'.out.2.2.1, by rw [take_snoc' HXX.out]; exact .snoc HW.out.2.2.2 HSL.out⟩
        case measure => simp [intOf]; omega
      | false =>
        have HSN : Hid (∀ d, ¬ StepL (conOf p) x d) := Lib.hid (by
          rcases HST'.out.2.2.2 with ⟨h, _⟩ | ⟨_, h⟩
          · cases h
          · exact h)
        go_wp2_with fail
        refine bodyPost_ret (v := .tuple #[protV ⟨#[]⟩ 0 none 0 0, .int .i64 ((k : Int) + 2), .int .i64 2]) (by simp [results, Tryz.results13, go_sem, q0, q1, q2, protV]) rfl ?_
        exact ⟨noProt, ((k : Int) + 2), 2, rfl, (.line l r rfl n' v' HT.out.1 k (conOf p) HW.out.2.2.2 x HXX.out HSN.out), no_at, no_cnt, ((HB7.out.setCell (p := ⟨w.heap.size, 0, none⟩) (Nat.le_refl _) _).setCell (p := ⟨w.heap.size, 1, none⟩) (Nat.le_refl _) _).setCell (p := ⟨w.heap.size, 2, none⟩) (Nat.le_refl _) _⟩
    · have hkk : k = m := by omega
      have HKM := Lib.hid hkk
      have hnil : r.drop k = [] := List.drop_eq_nil_of_le (by have := HM.out; omega)
      have htk : r.take k = r := List.take_of_length_le (by have := HM.out; omega)
      rw [hnil]
      have HRN : Hid (Run ⟨n', v', []⟩ r (conOf p)) := Lib.hid (by have := HW.out.2.2.2; rwa [htk] at this)
      clear hkk hnil htk
      cases t with
      | nil =>
        have hRe : (bs (joinL [] ++ [])).toList.isEmpty = true := emp_yes rfl
        obtain ⟨R, hR⟩ : ∃ R, R = bs (joinL [] ++ []) := ⟨_, rfl⟩
        rw [← hR] at hRe ⊢
        have HVD := Lib.hid (validate_any wr p HW.out.1.at_ (by have := HW.out.2.2.1.1; omega))
        have t0 := (HW.out.1.cell (j := 0) (u := .string p.name) rfl).1
        have t1 := (HW.out.1.cell (j := 1) (u := .int .i64 p.ver) rfl).1
        have t2 := (HW.out.1.cell (j := 2) (u := .slice p.qA p.qs.length p.qc) rfl).1
        have HPB := Lib.hid HW.out.1.lt
        clear hR
        go_wp2_with fail
        refine HVD.out.mono ?_
        rintro e W6 ⟨a, b, hsy, rfl, hb6⟩
        have HB6 := Lib.hid hb6
        have hb7 : Below W4.heap.size W4 wr ∨ True := .inr trivial
        have q0 := ((HW.out.2.1.trans (hb6.mono (Nat.le_of_lt HPB.out))).cell (p := ⟨w.heap.size, 0, none⟩) HRB.out).trans HQ.out.1
        have q1 := ((HW.out.2.1.trans (hb6.mono (Nat.le_of_lt HPB.out))).cell (p := ⟨w.heap.size, 1, none⟩) HRB.out).trans HQ.out.2.1
        have q2 := ((HW.out.2.1.trans (hb6.mono (Nat.le_of_lt HPB.out))).cell (p := ⟨w.heap.size, 2, none⟩) HRB.out).trans HQ.out.2.2.1
        have l0 := ((HW.out.2.1.trans (hb6.mono (Nat.le_of_lt HPB.out))).frozen (p := ⟨w.heap.size, 0, none⟩) HRB.out).trans HQ.out.2.2.2.1
        have l1 := ((HW.out.2.1.trans (hb6.mono (Nat.le_of_lt HPB.out))).frozen (p := ⟨w.heap.size, 1, none⟩) HRB.out).trans HQ.out.2.2.2.2.1
        have l2 := ((HW.out.2.1.trans (hb6.mono (Nat.le_of_lt HPB.out))).frozen (p := ⟨w.heap.size, 2, none⟩) HRB.out).trans HQ.out.2.2.2.2.2
        have t0 := (hb6.cell (p := ⟨pb, 0, none⟩) HPB.out).trans t0
        have t1 := (hb6.cell (p := ⟨pb, 1, none⟩) HPB.out).trans t1
        have t2 := (hb6.cell (p := ⟨pb, 2, none⟩) HPB.out).trans t2
        have HB7 := Lib.hid (HBW.out.trans (hb6.mono HBW.out.size))
        have HP6 := Lib.hid (HW.out.1.next hb6)
        have hne : ¬ pb = w.heap.size := by have := HRB.out; omega
        have hne2 : ¬ w.heap.size = pb := by have := HRB.out; omega
        clear hb6 hb7
        rcases hsy.two with hb | hb
        · subst hb
          have HOK := Lib.hid (hsy.ok.1 rfl)
          clear hsy
          go_wp2_with fail
          refine bodyPost_ret (v := .tuple #[protV p.name p.ver p.qA p.qs.length p.qc, .int .i64 0, .int .i64 0]) (by simp [results, Tryz.results13, go_sem, q0, q1, q2, protV]) rfl ?_
          refine ⟨p, 0, 0, rfl, .fine l r rfl n' v' HT.out.1 (conOf p) HRN.out rfl (ConOk.iff.2 HOK.out), ?_, ?_, ((HB7.out.setCell (p := ⟨w.heap.size, 0, none⟩) (Nat.le_refl _) _).setCell (p := ⟨w.heap.size, 1, none⟩) (Nat.le_refl _) _).setCell (p := ⟨w.heap.size, 2, none⟩) (Nat.le_refl _) _⟩
          · have ho : Only (fun b => b = w.heap.size) W6 (((W6.setCell ⟨w.heap.size, 0, none⟩ (.string p.name)).setCell ⟨w.heap.size, 1, none⟩ (.int .i64 p.ver)).setCell ⟨w.heap.size, 2, none⟩ (.slice p.qA p.qs.length p.qc)) :=
              ((Only.setCell (S := fun b => b = w.heap.size) Only.refl (a := ⟨w.heap.size, 0, none⟩) (fun _ => rfl) _).setCell (a := ⟨w.heap.size, 1, none⟩) (fun _ => rfl) _).setCell (a := ⟨w.heap.size, 2, none⟩) (fun _ => rfl) _
            exact (HP6.out.keep ho (fun b hb e => by have := HRB.out; omega)).at_
          · exact ⟨by have := HW.out.2.2.1.1; omega, fun q hq => by have := HW.out.2.2.1.2 q hq; omega⟩
        · subst hb
          have HNO : Hid (¬ ConOk (conOf p)) := Lib.hid (fun h => by have := hsy.ok.2 (ConOk.iff.1 h); cases this)
          clear hsy
          go_wp2_with fail
          refine bodyPost_ret (v := .tuple #[protV ⟨#[]⟩ 0 none 0 0, .int .i64 0, .int .i64 1]) (by simp [results, Tryz.results13, go_sem, q0, q1, q2, protV]) rfl ?_
          exact ⟨noProt, 0, 1, rfl, (.bad l r rfl n' v' HT.out.1 (conOf p) HRN.out rfl HNO.out), no_at, no_cnt, ((HB7.out.setCell (p := ⟨w.heap.size, 0, none⟩) (Nat.le_refl _) _).setCell (p := ⟨w.heap.size, 1, none⟩) (Nat.le_refl _) _).setCell (p := ⟨w.heap.size, 2, none⟩) (Nat.le_refl _) _⟩
      | cons tc tr =>
        have hRe : (bs (joinL [] ++ (tc :: tr))).toList.isEmpty = false := emp_no (by rw [bs_size]; simp [joinL])
        obtain ⟨R, hR⟩ : ∃ R, R = bs (joinL [] ++ (tc :: tr)) := ⟨_, rfl⟩
        have hRd : R.data.toList = tc :: tr := by rw [hR, bs_data]; rfl
        have hRl : R.size ≤ 1000000000 := by
          rw [hR, bs_size]
          have := HT.out.2.2.2
          simp [joinL] at this ⊢
          omega
        have HCX := Lib.hid (cutNl_miss R (by rw [hRd]; exact HT.out.2.2.1) hRl wr HRW.out)
        rw [← hR] at hRe ⊢
        obtain ⟨X, hX⟩ : ∃ X, X = bs R.data.toList := ⟨_, rfl⟩
        rw [← hX] at HCX
        clear hR hRd hRl hX
        go_wp2_with fail
        refine HCX.out.mono ?_
        rintro e w5 ⟨rfl, n5, rfl⟩
        go_wp2_with fail
        refine bodyPost_ret (v := .tuple #[protV ⟨#[]⟩ 0 none 0 0, .int .i64 ((k : Int) + 2), .int .i64 2]) (by simp [results, Tryz.results13, go_sem, q0, q1, q2, protV]) rfl ?_
        exact ⟨noProt, ((k : Int) + 2), 2, rfl, (by have := Parses.tail (L := l :: r) (t := tc :: tr) l r rfl n' v' HT.out.1 (conOf p) HRN.out (by simp); rwa [← HM.out, ← HKM.out] at this), no_at, no_cnt, (((below_drewN' HBW.out n5).setCell (p := ⟨w.heap.size, 0, none⟩) (Nat.le_refl _) _).setCell (p := ⟨w.heap.size, 1, none⟩) (Nat.le_refl _) _).setCell (p := ⟨w.heap.size, 2, none⟩) (Nat.le_refl _) _⟩
theorem parse_any (s : ByteArray) (hs : s.size ≤ 1000000000) (L : List (List UInt8)) (t : List UInt8) (hL : s.data.toList = joinL L ++ t) (h10 : ∀ x ∈ L, (10 : UInt8) ∉ x) (ht : (10 : UInt8) ∉ t) (w : World) (hr : Ready w) :
    Calls Tryz.prog 13 #[.string s] w (RetPs L t w) := by
  cases L with
  | nil => exact parse_none s hs t hL ht w hr
  | cons l r =>
    by_cases h : ∃ n v, IsHead l n v
    · obtain ⟨n, v, hh⟩ := h
      exact parse_lines s hs l r t hL h10 ht w hr n v hh
    · exact parse_nohead s hs l r t hL (h10 l (by simp)) w hr (fun n v hh => h ⟨n, v, hh⟩)
end Go.Proofs.YtbbklideciappaaGreatDoor
