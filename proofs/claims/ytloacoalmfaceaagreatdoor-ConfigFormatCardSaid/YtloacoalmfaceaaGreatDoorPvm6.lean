/-
  config.parseValue at its lines: centres, node, a parameter; and at a number of words that is not 1 (printed by genpvm6.py).
-/
import Derived.Test.YtloacoalmfaceaaGreatDoorPvl6
namespace Go.Proofs.YtloacoalmfaceaaGreatDoor
open Go.RowKit Go.Maps Go.Shelf

/-- what a line does: the configuration under way goes over into one of which st holds. -/
def RetVal (cb : Nat) (W : World) (pl : Int) (st : Cfg → Prop) (e : Ending) (w' : World) : Prop := e = .returned (.tuple #[.int .i64 pl, .bool true]) ∧ ∃ c', st c' ∧ PAt cb c' w' ∧ Below cb W w'
def isCen (c : Cfg) (z : Int) (c' : Cfg) : Prop := c' = { c with cen := z }
def isNode (c : Cfg) (z : Int) (c' : Cfg) : Prop := ∃ A cp, c' = { c with dA := A, dc := cp, ds := c.ds ++ [z] }
def isPar (c : Cfg) (k : Nat) (z : Int) (c' : Cfg) : Prop := c' = { c with ps := c.ps.set k z }
theorem parNm_other : ∀ k, k < 10 → (parNm k).data.toList ≠ [99, 101, 110, 116, 114, 101, 115] ∧ (parNm k).data.toList ≠ [110, 111, 100, 101] ∧ (parNm k).data.toList ≠ [101, 100, 103, 101] ∧ (parNm k).data.toList ≠ [117, 110, 105, 116] ∧ (parNm k).data.toList ≠ [112, 108, 97, 110] := by
  exact ten_cases (by decide) (by decide) (by decide) (by decide) (by decide) (by decide) (by decide) (by decide) (by decide) (by decide)
set_option maxRecDepth 100000 in
theorem value_not (p : Value) (name : ByteArray) (A : Option Addr) (n cc : Nat) (W : World) (hn : n ≠ 1) : Calls Tryz.prog 74 #[p, .string name, .slice A n cc] W fun e w' => e = .returned (.tuple #[.int .i64 0, .bool false]) ∧ Below W.heap.size W w' := by
  have e0 : ((n : Int) != 1) = true := by simp; omega
  clear hn
  go_enter Tryz.func74, Tryz.ntmps74
  go_wp2_with fail
  go_ret2
  exact ⟨rfl, (Below.refl _ _).alloc (Nat.le_refl _) _⟩
set_option maxRecDepth 100000 in
set_option maxHeartbeats 4000000 in
theorem value_cen (cb : Nat) (c : Cfg) (W : World) (h : PAt cb c W) (z : Int) (h0 : 0 ≤ z) (h1 : z < 1000000000000000000) (name : ByteArray) (hname : name.data.toList = [99, 101, 110, 116, 114, 101, 115]) (b o cc : Nat) (hbb : b < W.heap.size) (hcw : W.cell? ⟨b, o, none⟩ = some (.string (bs (dec z)))) :
    Calls Tryz.prog 74 #[.pointer (some ⟨cb, 0, none⟩), .string name, .slice (some ⟨b, o, none⟩) 1 cc] W (RetVal cb W 1 (isCen c z)) := by
  have hbA : Below W.heap.size W (W.alloc (.cells #[.string name] 9)) := (Below.refl _ _).alloc (Nat.le_refl _) _
  have k0 : (W.alloc (.cells #[.string name] 9)).cell? ⟨W.heap.size, 0, none⟩ = some (.string name) := by rw [World.cell?_alloc_at (hn := rfl)]; rfl
  have k1 := (hbA.cell (p := ⟨b, o, none⟩) hbb).trans hcw
  have kl : W.heap.size < (W.alloc (.cells #[.string name] 9)).heap.size := by simp
  obtain ⟨W1, hW1⟩ : ∃ Y, Y = W.alloc (.cells #[.string name] 9) := ⟨_, rfl⟩
  have HP := Lib.hid (h.next hbA)
  have HB := Lib.hid (hbA.mono (Nat.le_of_lt h.lt))
  rw [← hW1] at k0 kl HP HB
  have HNB := Lib.hid (number_any (bs (dec z)) z (numb_dec h0 h1) W1)
  have HNM := Lib.hid hname
  have e1 : (name.toList == [99, 101, 110, 116, 114, 101, 115]) = true := eq_toL.trans (decide_eq_true hname)
  clear h hbA hbb hcw hname
  go_enter Tryz.func74, Tryz.ntmps74
  go_wp2_with fail
  rw [← hW1]
  clear hW1 k1
  refine HNB.out.mono ?_
  rintro e W2 ⟨rfl, hb2⟩
  have k2 := (hb2.cell (p := ⟨W.heap.size, 0, none⟩) kl).trans k0
  have HP2 := Lib.hid (HP.out.next hb2)
  have HB2 := Lib.hid (HB.out.trans (hb2.mono (Nat.le_of_lt HP.out.lt)))
  have kl2 := Nat.lt_of_lt_of_le kl hb2.size
  clear hb2 HNB HP HB k0 kl
  obtain ⟨q1, q2⟩ := HP2.out.cell (j := 0) (u := .int .i64 c.cen) rfl
  have HE := Lib.hid (HP2.out.put_cen z)
  go_wp2_with fail
  go_ret2
  exact ⟨rfl, _, rfl, HE.out.1, HB2.out.trans HE.out.2⟩
set_option maxRecDepth 100000 in
set_option maxHeartbeats 4000000 in
theorem value_node (cb : Nat) (c : Cfg) (W : World) (h : PAt cb c W) (z : Int) (h0 : 0 ≤ z) (h1 : z < 1000000000000000000) (hpl : c.pl = []) (hlen : c.ds.length ≤ 100000000) (name : ByteArray) (hname : name.data.toList = [110, 111, 100, 101]) (b o cc : Nat) (hbb : b < W.heap.size) (hcw : W.cell? ⟨b, o, none⟩ = some (.string (bs (dec z)))) :
    Calls Tryz.prog 74 #[.pointer (some ⟨cb, 0, none⟩), .string name, .slice (some ⟨b, o, none⟩) 1 cc] W (RetVal cb W 2 (isNode c z)) := by
  have hbA : Below W.heap.size W (W.alloc (.cells #[.string name] 9)) := (Below.refl _ _).alloc (Nat.le_refl _) _
  have k0 : (W.alloc (.cells #[.string name] 9)).cell? ⟨W.heap.size, 0, none⟩ = some (.string name) := by rw [World.cell?_alloc_at (hn := rfl)]; rfl
  have k1 := (hbA.cell (p := ⟨b, o, none⟩) hbb).trans hcw
  have kl : W.heap.size < (W.alloc (.cells #[.string name] 9)).heap.size := by simp
  obtain ⟨W1, hW1⟩ : ∃ Y, Y = W.alloc (.cells #[.string name] 9) := ⟨_, rfl⟩
  have HP := Lib.hid (h.next hbA)
  have HB := Lib.hid (hbA.mono (Nat.le_of_lt h.lt))
  rw [← hW1] at k0 kl HP HB
  have HNB := Lib.hid (number_any (bs (dec z)) z (numb_dec h0 h1) W1)
  have HNM := Lib.hid hname
  have e1 : (name.toList == [99, 101, 110, 116, 114, 101, 115]) = false := eq_toL.trans (decide_eq_false (by rw [hname]; decide))
  have e2 : (name.toList == [110, 111, 100, 101]) = true := eq_toL.trans (decide_eq_true hname)
  have HPL := Lib.hid hpl
  clear hpl
  clear h hbA hbb hcw hname
  go_enter Tryz.func74, Tryz.ntmps74
  go_wp2_with fail
  rw [← hW1]
  clear hW1 k1
  refine HNB.out.mono ?_
  rintro e W2 ⟨rfl, hb2⟩
  have k2 := (hb2.cell (p := ⟨W.heap.size, 0, none⟩) kl).trans k0
  have HP2 := Lib.hid (HP.out.next hb2)
  have HB2 := Lib.hid (HB.out.trans (hb2.mono (Nat.le_of_lt HP.out.lt)))
  have kl2 := Nat.lt_of_lt_of_le kl hb2.size
  clear hb2 HNB HP HB k0 kl
  obtain ⟨q1, q2⟩ := HP2.out.cell (j := 1) (u := .slice c.dA c.ds.length c.dc) rfl
  have hown := HP2.out.ds
  go_wp2_with (at_builtin; refine wpList_append_one (f := Value.int .i64) _ rfl _ _ 22 rfl (cb + 1) 3 Tryz.underlying22 int_info rfl (by omega) _ _ W2 z rfl rfl rfl hown rfl (by omega) HP2.out.lt ?_; intro v3 w3 hown3 hg; obtain ⟨A3, c3, rfl, _⟩ := OwnV.sl hown3; obtain ⟨r1, r2, r3, r4⟩ := HP2.out.put_ds HPL.out hown3 hg; rw [show (c.ds ++ [z]).length = c.ds.length + 1 from by simp] at r3 r4; have HE := Lib.hid (And.intro r3 r4); clear r3 r4 hown3 hg hown)
  go_ret2
  exact ⟨rfl, _, ⟨_, _, rfl⟩, HE.out.1, HB2.out.trans HE.out.2⟩
set_option maxRecDepth 100000 in
set_option maxHeartbeats 4000000 in
theorem value_par (cb : Nat) (c : Cfg) (W : World) (h : PAt cb c W) (z : Int) (h0 : 0 ≤ z) (h1 : z < 1000000000000000000) (k : Nat) (hk : k < 10) (name : ByteArray) (hname : name.data.toList = (parNm k).data.toList) (b o cc : Nat) (hbb : b < W.heap.size) (hcw : W.cell? ⟨b, o, none⟩ = some (.string (bs (dec z)))) :
    Calls Tryz.prog 74 #[.pointer (some ⟨cb, 0, none⟩), .string name, .slice (some ⟨b, o, none⟩) 1 cc] W (RetVal cb W (6 + (k : Int)) (isPar c k z)) := by
  have hbA : Below W.heap.size W (W.alloc (.cells #[.string name] 9)) := (Below.refl _ _).alloc (Nat.le_refl _) _
  have k0 : (W.alloc (.cells #[.string name] 9)).cell? ⟨W.heap.size, 0, none⟩ = some (.string name) := by rw [World.cell?_alloc_at (hn := rfl)]; rfl
  have k1 := (hbA.cell (p := ⟨b, o, none⟩) hbb).trans hcw
  have kl : W.heap.size < (W.alloc (.cells #[.string name] 9)).heap.size := by simp
  obtain ⟨W1, hW1⟩ : ∃ Y, Y = W.alloc (.cells #[.string name] 9) := ⟨_, rfl⟩
  have HP := Lib.hid (h.next hbA)
  have HB := Lib.hid (hbA.mono (Nat.le_of_lt h.lt))
  rw [← hW1] at k0 kl HP HB
  have HNB := Lib.hid (number_any (bs (dec z)) z (numb_dec h0 h1) W1)
  have HNM := Lib.hid hname
  have e1 : (name.toList == [99, 101, 110, 116, 114, 101, 115]) = false := eq_toL.trans (decide_eq_false (by rw [hname]; exact (parNm_other k hk).1))
  have e2 : (name.toList == [110, 111, 100, 101]) = false := eq_toL.trans (decide_eq_false (by rw [hname]; exact (parNm_other k hk).2.1))
  clear h hbA hbb hcw hname
  go_enter Tryz.func74, Tryz.ntmps74
  go_wp2_with fail
  rw [← hW1]
  clear hW1 k1
  refine HNB.out.mono ?_
  rintro e W2 ⟨rfl, hb2⟩
  have k2 := (hb2.cell (p := ⟨W.heap.size, 0, none⟩) kl).trans k0
  have HP2 := Lib.hid (HP.out.next hb2)
  have HB2 := Lib.hid (HB.out.trans (hb2.mono (Nat.le_of_lt HP.out.lt)))
  have kl2 := Nat.lt_of_lt_of_le kl hb2.size
  clear hb2 HNB HP HB k0 kl
  go_wp2_with fail
  refine (parameters_any W2).mono ?_
  rintro e W3 ⟨g, bx, rfl, hpa, hb3⟩
  have k3 := (hb3.cell (p := ⟨W.heap.size, 0, none⟩) kl2).trans k2
  have kl3 := Nat.lt_of_lt_of_le kl2 hb3.size
  have HP3 := Lib.hid (HP2.out.next hb3)
  have HB3 := Lib.hid (HB2.out.trans (hb3.mono (Nat.le_of_lt HP2.out.lt)))
  have HX := Lib.hid (indexPar_any g bx W.heap.size k hk W3 hpa (by rw [k3]; congr 2; exact ByteArray.ext (Array.toList_inj.1 HNM.out)) kl3)
  have HPA := Lib.hid hpa
  clear hb3 HP2 HB2 hpa k2 kl2
  go_wp2_with fail
  refine HX.out.mono ?_
  rintro e W4 ⟨rfl, hb4⟩
  have hpa := HPA.out.below hb4
  have q4 := hpa.set k hk
  have q5 := hpa.fld k hk
  have HP4 := Lib.hid (HP3.out.next hb4)
  have HB4 := Lib.hid (HB3.out.trans (hb4.mono (Nat.le_of_lt HP3.out.lt)))
  obtain ⟨y, hy⟩ : ∃ y, c.ps[k]? = some y := ⟨c.ps[k]'(by rw [HP4.out.ten]; exact hk), by simp⟩
  obtain ⟨r1, r2⟩ := HP4.out.cell (j := 5 + k) (u := .int .i64 y) (by have := cfg_par hy; simpa using this)
  have hE := set_enters k
  have HS := Lib.hid (set_any cb (bx k) W4 k hk z y q5 r1 r2)
  have HE := Lib.hid (HP4.out.put_par k z)
  have hk0 : decide ((k : Int) < 0) = false := decide_eq_false (by omega)
  have hkk : (k : Int) < 10 := by omega
  obtain ⟨bxk, hbx⟩ : ∃ b, b = bx k := ⟨_, rfl⟩
  obtain ⟨sf, hsf⟩ : ∃ f, f = parSet k := ⟨_, rfl⟩
  rw [← hsf, ← hbx] at q4 HS
  rw [← hsf] at hE
  clear hb4 HP3 HB3 HX HPA hpa k3 kl3 q5 r1 r2 hy hbx hsf
  go_wp2_with fail
  refine HS.out.mono ?_
  rintro e w' ⟨rfl, hw⟩
  rw [hw]
  clear hw w' HS q4
  go_wp2_with fail
  go_ret2
  exact ⟨rfl, _, rfl, HE.out.1, HB4.out.trans HE.out.2⟩
end Go.Proofs.YtloacoalmfaceaaGreatDoor
