/-
  roadgraph.New at valid edges.
-/
import Derived.Test.YtppbmnlneoinhaaDoorGraph
namespace Go.Proofs.YtppbmnlneoinhaaDoor
open Go.RowKit Go.Maps

def validE (n : Nat) (e : EdgeT) : Prop := 0 ≤ e.frm ∧ e.frm < n ∧ 0 ≤ e.to ∧ e.to < n ∧ ((1 ≤ e.tm ∧ e.tm ≤ 1048576) ∨ e.tm = 4611686018427387904)
def RetNew (w : World) (n : Nat) (E : List EdgeT) (e : Ending) (w' : World) : Prop := ∃ p, e = .returned (.tuple #[.pointer (some ⟨p, 0, none⟩), .int .i64 0]) ∧ GraphAt w' w'.heap.size p n E ∧ w.heap.size ≤ p ∧ Below w.heap.size w w'

set_option maxRecDepth 100000 in
set_option maxHeartbeats 2000000 in
theorem new_any (n : Nat) (A : Option Addr) (c : Nat) (E : List EdgeT) (w : World) (hn1 : 1 ≤ n) (hn : n ≤ 4096) (hE : E.length ≤ 16384) (he : EdgesAt w w.heap.size A E) (hnil : A = none → c = 0) (hok : ∀ e ∈ E, validE n e) :
    Calls Tryd.prog 19 #[.int .i64 n, .slice A E.length c] w (RetNew w n E) := by
  have HE := Lib.hid he
  have HOK := Lib.hid hok
  have HNIL := Lib.hid hnil
  have d1 : decide ((n : Int) < 1) = false := by simp; omega
  have d2 : decide ((4096 : Int) < (n : Int)) = false := by simp; omega
  have d3 : decide ((16384 : Int) < (E.length : Int)) = false := by simp; omega
  clear he hok hnil
  go_enter Tryd.func19, Tryd.ntmps19
  go_wp2_with fail
  go_loopw [19] (fun iv wr => ∃ k : Nat, k ≤ E.length ∧ iv = .int .i64 k ∧ Below w.heap.size w wr) (fun i _ => E.length - (intOf i).toNat)
  case atStart => exact ⟨0, Nat.zero_le _, rfl, Below.refl _ _⟩
  case round =>
    obtain ⟨k, hk, rfl, hb⟩ := hrel
    have HB := Lib.hid hb
    clear hb
    by_cases hlt : k < E.length
    · obtain ⟨⟨frm, too, tm⟩, hek⟩ : ∃ e, E[k]? = some e := ⟨E[k], by simp⟩
      obtain ⟨b, o, rfl, _, c0, c1, c2⟩ := (HE.out.below HB.out).at hek
      obtain ⟨h1, h2, h3, h4, h5⟩ := HOK.out _ (List.mem_of_getElem? hek)
      simp only at c0 c1 c2 h1 h2 h3 h4 h5
      have e1 : decide (frm < 0) = false := by simp; omega
      have e2 : decide ((n : Int) ≤ frm) = false := by simp; omega
      have e3 : decide (too < 0) = false := by simp; omega
      have e4 : decide ((n : Int) ≤ too) = false := by simp; omega
      have HB2 := Lib.hid (HB.out.alloc HB.out.size (.cells #[.int .i64 frm, .int .i64 too, .int .i64 tm] 53))
      clear hek
      rcases h5 with ⟨h5, h6⟩ | h5
      · have e5 : decide (tm < 1) = false := by simp; omega
        have e6 : decide ((1048576 : Int) < tm) = false := by simp; omega
        go_wp2_with fail
        go_roundw
        case rel => exact ⟨k + 1, by omega, by go_num, HB2.out⟩
        case measure => simp [intOf]; omega
      · subst h5
        go_wp2_with fail
        go_roundw
        case rel => exact ⟨k + 1, by omega, by go_num, HB2.out⟩
        case measure => simp [intOf]; omega
    · have hkk : k = E.length := by omega
      subst hkk
      go_wp2_with fail
      refine (cloneE_any A c E wr ((HE.out.below HB.out).more HB.out.size) (by omega) HNIL.out).mono ?_
      rintro e w2 ⟨A2, cc, rfl, hs2, hl2, hm2, hb2⟩
      have HB2 := Lib.hid (HB.out.trans (hb2.mono HB.out.size))
      clear hb2
      have hokk : ∀ e ∈ E, 0 ≤ e.frm ∧ e.frm < n ∧ 0 ≤ e.to ∧ e.to < n := fun e he => ⟨(HOK.out e he).1, (HOK.out e he).2.1, (HOK.out e he).2.2.1, (HOK.out e he).2.2.2.1⟩
      have hbuild := build_any n A2 cc E w2 hn hE hs2 hl2 hm2 hokk
      have HBD := Lib.hid hbuild
      clear hokk hbuild hs2
      go_wp2_with fail
      refine HBD.out.mono ?_
      rintro e w3 ⟨p, rfl, hg, hp, hb3⟩
      have hz2 := HB2.out.size
      have HB3 := Lib.hid (HB2.out.trans (hb3.mono hz2))
      have HG := Lib.hid hg
      clear hb3 hg
      go_wp2_with fail
      go_ret2
      exact ⟨p, rfl, HG.out, by omega, HB3.out⟩

theorem edges_any (w : World) (B p n : Nat) (E : List EdgeT) (h : GraphAt w B p n E) :
    Calls Tryd.prog 32 #[.pointer (some ⟨p, 0, none⟩)] w fun e w' => e = .returned (.int .i64 E.length) ∧ w = w' := by
  obtain ⟨A, c, c0, _⟩ := h.edges
  go_enter Tryd.func32, Tryd.ntmps32
  go_wp2_with fail
  go_ret
  exact ⟨rfl, rfl⟩
end Go.Proofs.YtppbmnlneoinhaaDoor
