/-
  What ParseEvent and the reference say of a text; what formatting says (printed by gentrlp.py).
  samaritanlaw51.wakes: the examples of the document.
  samaritanlaw51.TraceEventParsing: the walk (printed by gentrlp.py).
-/
import Derived.Test.YtakdkiggaalimaaGreatDoorTrYh
import Derived.Test.YtakdkiggaalimaaGreatDoorTrFs
import Derived.Test.YtakdkiggaalimaaGreatDoorTrFm
import Derived.Test.YtakdkiggaalimaaGreatDoorTrYf
import Derived.Deep.WholeRow
namespace Go.Proofs.YtakdkiggaalimaaGreatDoor
section
open Go.RowKit Go.Maps

/-- what is known of an event that was read. -/
def ReadE (s : Wd) (a : EvM) (c : Int) : Prop := (c = 0 ∧ EvOk a.con ∧ VEv a.con ∧ s = evT a.con ∧ s.length ≤ 65536) ∨ (c = 2 ∧ a = EvM.zero 0 0 ∧ (65536 < s.length ∨ ∀ b, VEv b → EvOk b → s ≠ evT b))
theorem zero_evS : EvS (EvM.zero 0 0) := ⟨(zero_bd is64_0 is64_0).r, (zero_bd is64_0 is64_0).act.l, Nat.zero_le _, Nat.zero_le _⟩
theorem zero_at (w : World) (B : Nat) : EvAt w B (EvM.zero 0 0) := ⟨Sl.empty, ⟨SrcsAt.empty, Sl.empty⟩, Sl.empty⟩
theorem retPe_uni {s : Wd} {w : World} {e : Ending} {w' : World} (h : RetPe s w e w') : ∃ (a : EvM) (c : Int), e = .returned (.tuple #[evV a, .int .i64 c]) ∧ EvAt w' w'.heap.size a ∧ EvS a ∧ Below w.heap.size w w' ∧ ReadE s a c := by
  rcases h with ⟨a, h1, h2, h3, h4, h5, h6, h7, h8⟩ | ⟨h1, h2, h3⟩
  · obtain ⟨k1, k2⟩ := ev_short h1
    rw [h3] at h4
    exact ⟨a, 0, h5, h6.at, ⟨h7.r, h7.act.l, Nat.le_trans k1 (by omega), Nat.le_trans k2 (by omega)⟩, h8, .inl ⟨rfl, h1, h2, h3, by rw [h3]; exact h4⟩⟩
  · exact ⟨EvM.zero 0 0, 2, h2, zero_at _ _, zero_evS, h3, .inr ⟨rfl, rfl, h1⟩⟩
theorem ReadE.same {s : Wd} {a b : EvM} {c d : Int} (h : ReadE s a c) (h' : ReadE s b d) : d = c ∧ a.con = b.con := by
  rcases h with ⟨h1, h2, h3, h4, h5⟩ | ⟨h1, h2, h3⟩
  · rcases h' with ⟨k1, k2, k3, k4, k5⟩ | ⟨k1, k2, k3⟩
    · exact ⟨k1.trans h1.symm, evT_inj h3 k3 (h4.symm.trans k4)⟩
    · rcases k3 with k3 | k3
      · omega
      · exact absurd h4 (k3 _ h3 h2)
  · rcases h' with ⟨k1, k2, k3, k4, k5⟩ | ⟨k1, k2, k3⟩
    · rcases h3 with h3 | h3
      · omega
      · exact absurd k4 (h3 _ k3 k2)
    · exact ⟨k1.trans h1.symm, by rw [h2, k2]⟩
theorem FmtR.good {ok : Prop} {t : Wd} {e : Ending} (h : FmtR ok t e) (h1 : ok) (h2 : t.length ≤ 65536) : e = .returned (.tuple #[.string (bs t), .int .i64 0]) := by
  rcases h with ⟨_, _, h⟩ | ⟨_, h, _⟩ | ⟨h, _⟩
  · exact h
  · omega
  · exact absurd h1 h
theorem FmtR.any {ok : Prop} {t : Wd} {e : Ending} (h : FmtR ok t e) : ∃ (b : ByteArray) (c : Int), e = .returned (.tuple #[.string b, .int .i64 c]) := by
  rcases h with ⟨_, _, h⟩ | ⟨_, _, h⟩ | ⟨_, h⟩ <;> exact ⟨_, _, h⟩
end
section
open Go.RowKit Go.Maps
open Go.Lib (itoa)

def wakeA : EvM := ⟨3, 9, 1, 7, 2, 0, 0, 0, none, 0, [], ord0, sta0, kindM 0, none, 0, []⟩
def wakeS : Wd := [57, 32, 111, 119, 110, 101, 114, 32, 55, 32, 49, 32, 50]
theorem wakeA_text : evT wakeA.con = wakeS := by decide +kernel
theorem wakeA_ok : EvOk wakeA.con := ⟨by decide, by decide, (fun h => absurd h (by decide)), rfl⟩
def wakeB : EvC := { ev0 with kind := 7, tick := 9, n := 4, eterm := 2, ekind := 2, ebody := [30, 18] }
def wakeT : Wd := [57, 32, 97, 112, 112, 108, 105, 101, 100, 32, 48, 32, 52, 32, 50, 32, 50, 32, 61, 49, 101, 49, 50]
theorem wakeB_text : evT wakeB = wakeT := by decide +kernel
theorem wakeB_ok : EvOk wakeB := ⟨by decide, by decide, (fun h => absurd h (by decide)), rfl⟩
theorem wakeB_v : VEv wakeB := by
  refine ⟨⟨by decide, by decide, rfl⟩, fun f hf => ?_⟩
  have hf : f ∈ [0, 3, 5] := hf
  simp only [List.mem_cons, List.mem_nil_iff, or_false] at hf
  rcases hf with rfl | rfl | rfl
  · show Is64 0; decide
  · show Is64 4; decide
  · show Is64 2 ∧ Is64 2; decide
theorem wakeA_r : EvR wakeA.con :=
  ⟨by decide, by decide, by decide, by decide, by decide, by decide, by decide, by decide, by decide, by decide, by decide, (bd_kind (k := 0) is64_0).r⟩
set_option maxRecDepth 100000 in
set_option maxHeartbeats 8000000 in
theorem wakes_any (w : World) (hr : Ready w) : Calls Tryz.prog 8 #[] w fun e w' => e = .returned (.bool true) ∧ Below w.heap.size w w' := by
  obtain ⟨C, hC⟩ : ∃ C, C = (evCs wakeA).toArray := ⟨_, rfl⟩
  have hv : evV wakeA = .agg C := by rw [hC]; rfl
  have hbt : Tryz.prog.built 35 [(0, .int .i64 3), (1, .int .i64 9), (3, .int .i64 7), (2, .int .i64 1), (4, .int .i64 2)] = some C := by rw [hC]; rfl
  have HF := Lib.hid (fmtEv_any wakeA w hr ⟨Sl.empty, ⟨SrcsAt.empty, Sl.empty⟩, Sl.empty⟩ ⟨by decide, (fun s hs => by cases hs), by decide⟩ wakeA_r (by decide) (by decide))
  rw [hv] at HF
  have HR := Lib.hid hr
  clear hC hv hr
  go_enter Tryz.func8, Tryz.ntmps8
  go_wp2_with (refine wpList_build_to rfl 35 #[(0, .const (.int .i64 3)), (1, .const (.int .i64 9)), (3, .const (.int .i64 7)), (2, .const (.int .i64 1)), (4, .const (.int .i64 2))] rfl C (by rw [Array.toList_map]; exact hbt) ?_)
  refine HF.out.mono ?_
  rintro e W1 ⟨hf, hb1⟩
  have he : e = .returned (.tuple #[.string ⟨#[57, 32, 111, 119, 110, 101, 114, 32, 55, 32, 49, 32, 50]⟩, .int .i64 0]) := by
    show e = .returned (.tuple #[.string (bs wakeS), .int .i64 0])
    rcases hf with ⟨_, _, h⟩ | ⟨_, h, _⟩ | ⟨h, _⟩
    · rw [h, wakeA_text]
    · rw [wakeA_text] at h
      exact absurd h (by decide)
    · exact absurd wakeA_ok h
  subst he
  have HP := Lib.hid (parseEv_any wakeT W1 (HR.out.below hb1))
  have HB1 := Lib.hid hb1
  clear hf hb1 hbt
  go_wp2_with fail
  refine HP.out.mono ?_
  rintro e W2 (⟨a, _, hva, hta, _, he, ho, _, hb2⟩ | ⟨hno, _⟩)
  rotate_left
  · rcases hno with h | h
    · exact absurd h (by decide)
    · exact absurd wakeB_text.symm (h wakeB wakeB_v wakeB_ok)
  have hab : a.con = wakeB := evT_inj hva wakeB_v (hta.symm.trans wakeB_text.symm)
  obtain ⟨D, hD⟩ : ∃ D, D = (evCs a).toArray := ⟨_, rfl⟩
  have hvd : evV a = .agg D := by rw [hD]; rfl
  rw [hvd] at he
  subst he
  have hb5 := below_new W2 (.cells D 35)
  have hn : a.n = 4 := congrArg EvC.n hab
  have ht : a.eterm = 2 := congrArg EvC.eterm hab
  have hbd : a.ebody = [30, 18] := congrArg EvC.ebody hab
  have c5 : D[5]? = some (.int .i64 4) := by rw [hD, ← hn]; rfl
  have c6 : D[6]? = some (.int .i64 2) := by rw [hD, ← ht]; rfl
  have c8 : D[8]? = some (.slice a.eA 2 a.ec) := by
    have h : D[8]? = some (.slice a.eA a.ebody.length a.ec) := by rw [hD]; rfl
    rwa [hbd] at h
  have hszd : (Tryz.prog.info? 35).map (·.size) = some D.size := by rw [hD]; exact ev_size
  have honed : D.all (·.oneCell') = true := by rw [hD]; exact evCs_one a
  have hat := ((ho.next hb5).at).body
  rw [hbd] at hat
  have hcv : (convert 23 9 (.slice a.eA 2 a.ec)).run Tryz.prog (W2.alloc (.cells D 35)) = .ok (.string ⟨#[30, 18]⟩) (W2.alloc (.cells D 35)) := bytes_str hat a.ec
  have HB5 := Lib.hid (show Below w.heap.size w (W2.alloc (.cells D 35)) from HB1.out.trans ((hb2.trans (hb5.mono hb2.size)).mono HB1.out.size))
  have hoy := new_obj W2 (.cells #[.int .i64 0, .int .i64 0, .int .i64 0, .int .i64 0, .int .i64 0, .int .i64 0, .int .i64 0, .int .i64 0, .slice none 0 0, .int .i64 0, .int .i64 0, .int .i64 0, .int .i64 0, .int .i64 0, .int .i64 0, .int .i64 0, .int .i64 0, .int .i64 0, .int .i64 0, .int .i64 0, .int .i64 0, .int .i64 0, .int .i64 0, .int .i64 0, .int .i64 0, .slice none 0 0, .slice none 0 0, .slice none 0 0] 35)
  have hold : (#[.int .i64 0, .int .i64 0, .int .i64 0, .int .i64 0, .int .i64 0, .int .i64 0, .int .i64 0, .int .i64 0, .slice none 0 0, .int .i64 0, .int .i64 0, .int .i64 0, .int .i64 0, .int .i64 0, .int .i64 0, .int .i64 0, .int .i64 0, .int .i64 0, .int .i64 0, .int .i64 0, .int .i64 0, .int .i64 0, .int .i64 0, .int .i64 0, .int .i64 0, .slice none 0 0, .slice none 0 0, .slice none 0 0] : Array Value).size = D.size := by rw [hD]; rfl
  have hwz := World.setRow_alloc_new W2 #[.int .i64 0, .int .i64 0, .int .i64 0, .int .i64 0, .int .i64 0, .int .i64 0, .int .i64 0, .int .i64 0, .slice none 0 0, .int .i64 0, .int .i64 0, .int .i64 0, .int .i64 0, .int .i64 0, .int .i64 0, .int .i64 0, .int .i64 0, .int .i64 0, .int .i64 0, .int .i64 0, .int .i64 0, .int .i64 0, .int .i64 0, .int .i64 0, .int .i64 0, .slice none 0 0, .slice none 0 0, .slice none 0 0] D 35
  have HD := Lib.hid (And.intro hszd (And.intro honed (And.intro hold hwz)))
  clear hD hvd hab hn ht hbd hva hta ho hb2 hb5 hat hszd honed hold hwz
  go_wp2_with (refine wpList_store_row rfl 35 (.tmp 3) (.tmp 12) rfl W2.heap.size D rfl rfl 35 _ hoy HD.out.1 HD.out.2.2.1 HD.out.2.1 ?_; rw [HD.out.2.2.2])
  go_ret
  exact ⟨rfl, HB5.out⟩
end
section
open Go.RowKit Go.Maps

set_option maxRecDepth 100000 in
set_option maxHeartbeats 16000000 in
theorem evParsing_any (w : World) (hr : Ready w) (l : Wd) : Calls Tryz.prog 3 #[.string (bs l)] w fun e w' => e = .returned (.bool true) ∧ Below w.heap.size w w' := by
  have HRD := Lib.hid (show ∀ X : World, Below w.heap.size w X → Ready X from fun X h => hr.below h)
  have HWK := Lib.hid (wakes_any w hr)
  have hlsz : (bs l).size = l.length := bs_size l
  obtain ⟨s, hs⟩ : ∃ s, s = bs l := ⟨_, rfl⟩
  have HS := Lib.hid hs
  rw [← hs] at hlsz
  have HLS := Lib.hid hlsz
  rw [← hs]
  clear hr hs hlsz
  go_enter Tryz.func3, Tryz.ntmps3
  go_wp2_with fail
  refine HWK.out.mono ?_
  rintro e X1 ⟨rfl, hb⟩
  have HX1 := Lib.hid hb
  clear hb HWK
  by_cases hlong : 600 < s.size
  · have d1 : decide ((600 : Int) < (s.size : Int)) = true := decide_eq_true (by omega)
    clear hlong
    go_wp2_with fail
    go_ret
    exact ⟨rfl, HX1.out⟩
  have d1 : decide ((600 : Int) < (s.size : Int)) = false := decide_eq_false (by omega)
  have HLL := Lib.hid (show l.length ≤ 65536 by have := HLS.out; omega)
  clear hlong
  have HP := Lib.hid (parseEv_any l X1 (HRD.out X1 HX1.out))
  rw [← HS.out] at HP
  go_wp2_with fail
  refine HP.out.mono ?_
  rintro e Y1 hret
  obtain ⟨a1, c1, rfl, hat1, hs1, hb1, hrd1⟩ := retPe_uni hret
  have HY1 := Lib.hid (HX1.out.trans (hb1.mono HX1.out.size))
  have HA1 := Lib.hid (And.intro hat1 (And.intro hs1 hrd1))
  obtain ⟨D1, hD1⟩ : ∃ D, D = (evCs a1).toArray := ⟨_, rfl⟩
  have hv1 : evV a1 = .agg D1 := by rw [hD1]; rfl
  have hsz1 : (Tryz.prog.info? 35).map (·.size) = some D1.size := by rw [hD1]; exact ev_size
  have hone1 : D1.all (·.oneCell') = true := by rw [hD1]; exact evCs_one _
  have hold1 : (#[.int .i64 0, .int .i64 0, .int .i64 0, .int .i64 0, .int .i64 0, .int .i64 0, .int .i64 0, .int .i64 0, .slice none 0 0, .int .i64 0, .int .i64 0, .int .i64 0, .int .i64 0, .int .i64 0, .int .i64 0, .int .i64 0, .int .i64 0, .int .i64 0, .int .i64 0, .int .i64 0, .int .i64 0, .int .i64 0, .int .i64 0, .int .i64 0, .int .i64 0, .slice none 0 0, .slice none 0 0, .slice none 0 0] : Array Value).size = D1.size := by rw [hD1]; rfl
  have hoy1 := new_obj Y1 (.cells #[.int .i64 0, .int .i64 0, .int .i64 0, .int .i64 0, .int .i64 0, .int .i64 0, .int .i64 0, .int .i64 0, .slice none 0 0, .int .i64 0, .int .i64 0, .int .i64 0, .int .i64 0, .int .i64 0, .int .i64 0, .int .i64 0, .int .i64 0, .int .i64 0, .int .i64 0, .int .i64 0, .int .i64 0, .int .i64 0, .int .i64 0, .int .i64 0, .int .i64 0, .slice none 0 0, .slice none 0 0, .slice none 0 0] 35)
  have hsr1 := World.setRow_alloc_new Y1 #[.int .i64 0, .int .i64 0, .int .i64 0, .int .i64 0, .int .i64 0, .int .i64 0, .int .i64 0, .int .i64 0, .slice none 0 0, .int .i64 0, .int .i64 0, .int .i64 0, .int .i64 0, .int .i64 0, .int .i64 0, .int .i64 0, .int .i64 0, .int .i64 0, .int .i64 0, .int .i64 0, .int .i64 0, .int .i64 0, .int .i64 0, .int .i64 0, .int .i64 0, .slice none 0 0, .slice none 0 0, .slice none 0 0] D1 35
  obtain ⟨Z1, hZ1⟩ : ∃ Z, Z = Y1.alloc (.cells D1 35) := ⟨_, rfl⟩
  have HZ1 := Lib.hid (And.intro (show Below Y1.heap.size Y1 Z1 by rw [hZ1]; exact below_new _ _) (show Z1.heap[Y1.heap.size]? = some (.cells D1 35 (0, 0)) by rw [hZ1]; exact new_obj _ _))
  rw [← hZ1] at hsr1
  have HV1 := Lib.hid (And.intro hv1 hsz1)
  rw [hv1]
  have HD := Lib.hid (parse51_any l HLL.out Z1)
  rw [← HS.out] at HD
  clear hret hat1 hs1 hb1 hrd1 hD1 hZ1 hv1 HP
  go_wp2_with (refine wpList_store_row rfl 35 (.tmp 3) (.tmp 17) rfl Y1.heap.size D1 rfl rfl 35 _ hoy1 hsz1 hold1 hone1 ?_; rw [hsr1])
  clear hoy1 hsr1 hold1 hone1 hsz1
  refine HD.out.mono ?_
  rintro e Y2 hret
  obtain ⟨a2, c2, rfl, hat2, hs2, hb2, hrd2⟩ := retPe_uni hret
  obtain ⟨hcc2, hsame⟩ := HA1.out.2.2.same hrd2
  subst hcc2
  obtain ⟨D2, hD2⟩ : ∃ D, D = (evCs a2).toArray := ⟨_, rfl⟩
  have hv2 : evV a2 = .agg D2 := by rw [hD2]; rfl
  have hsz2 : (Tryz.prog.info? 35).map (·.size) = some D2.size := by rw [hD2]; exact ev_size
  have hone2 : D2.all (·.oneCell') = true := by rw [hD2]; exact evCs_one _
  have hold2 : (#[.int .i64 0, .int .i64 0, .int .i64 0, .int .i64 0, .int .i64 0, .int .i64 0, .int .i64 0, .int .i64 0, .slice none 0 0, .int .i64 0, .int .i64 0, .int .i64 0, .int .i64 0, .int .i64 0, .int .i64 0, .int .i64 0, .int .i64 0, .int .i64 0, .int .i64 0, .int .i64 0, .int .i64 0, .int .i64 0, .int .i64 0, .int .i64 0, .int .i64 0, .slice none 0 0, .slice none 0 0, .slice none 0 0] : Array Value).size = D2.size := by rw [hD2]; rfl
  have hoy2 := new_obj Y2 (.cells #[.int .i64 0, .int .i64 0, .int .i64 0, .int .i64 0, .int .i64 0, .int .i64 0, .int .i64 0, .int .i64 0, .slice none 0 0, .int .i64 0, .int .i64 0, .int .i64 0, .int .i64 0, .int .i64 0, .int .i64 0, .int .i64 0, .int .i64 0, .int .i64 0, .int .i64 0, .int .i64 0, .int .i64 0, .int .i64 0, .int .i64 0, .int .i64 0, .int .i64 0, .slice none 0 0, .slice none 0 0, .slice none 0 0] 35)
  have hsr2 := World.setRow_alloc_new Y2 #[.int .i64 0, .int .i64 0, .int .i64 0, .int .i64 0, .int .i64 0, .int .i64 0, .int .i64 0, .int .i64 0, .slice none 0 0, .int .i64 0, .int .i64 0, .int .i64 0, .int .i64 0, .int .i64 0, .int .i64 0, .int .i64 0, .int .i64 0, .int .i64 0, .int .i64 0, .int .i64 0, .int .i64 0, .int .i64 0, .int .i64 0, .int .i64 0, .int .i64 0, .slice none 0 0, .slice none 0 0, .slice none 0 0] D2 35
  obtain ⟨Z2, hZ2⟩ : ∃ Z, Z = Y2.alloc (.cells D2 35) := ⟨_, rfl⟩
  have HZ2 := Lib.hid (And.intro (show Below Y2.heap.size Y2 Z2 by rw [hZ2]; exact below_new _ _) (show Z2.heap[Y2.heap.size]? = some (.cells D2 35 (0, 0)) by rw [hZ2]; exact new_obj _ _))
  rw [← hZ2] at hsr2
  have HV2 := Lib.hid (And.intro hv2 hsz2)
  rw [hv2]
  have hbz : Below Z1.heap.size Z1 Z2 := hb2.trans (HZ2.out.1.mono hb2.size)
  have hbz1 : Below Y1.heap.size Y1 Z2 := HZ1.out.1.trans (hbz.mono HZ1.out.1.size)
  have hrw1 : Z2.heap[Y1.heap.size]? = some (.cells D1 35 (0, 0)) := (hbz.block Y1.heap.size (Array.getElem?_eq_some_iff.1 HZ1.out.2).1).trans HZ1.out.2
  have hrw2 := HZ2.out.2
  have HZZ := Lib.hid (And.intro hbz1 hrw1)
  have HSA := Lib.hid (one_any a1 a2 Z2 Z2.heap.size Z2.heap.size (HA1.out.1.next hbz1) (hat2.next HZ2.out.1) (Nat.le_refl _) (Nat.le_refl _) HA1.out.2.1.l)
  rw [HV1.out.1, HV2.out.1] at HSA
  unfold RetOne at HSA
  rw [tb_true hsame] at HSA
  clear hret hat2 hs2 hb2 hrd2 hD2 hZ2 hbz hbz1 hsame hv2 HD
  go_wp2_with (first | (refine wpList_store_row rfl 35 (.tmp 5) (.tmp 22) rfl Y2.heap.size D2 rfl rfl 35 _ hoy2 hsz2 hold2 hone2 ?_; rw [hsr2]) | (refine wpList_load_row_g (by rfl) 35 (.tmp 3) rfl Y1.heap.size rfl 35 D1 (0, 0) _ hrw1 Tryz.underlying35 rfl HV1.out.2 ?_) | (refine wpList_load_row_g (by rfl) 35 (.tmp 5) rfl Y2.heap.size rfl 35 D2 (0, 0) _ hrw2 Tryz.underlying35 rfl HV2.out.2 ?_))
  clear hoy2 hsr2 hold2 hone2 hsz2 hrw1 hrw2
  refine HSA.out.mono ?_
  rintro e Z3 ⟨rfl, hb⟩
  have HZ3 := Lib.hid (HZZ.out.1.trans (hb.mono HZZ.out.1.size))
  have hrw3 : Z3.heap[Y1.heap.size]? = some (.cells D1 35 (0, 0)) := (hb.block Y1.heap.size (Array.getElem?_eq_some_iff.1 HZZ.out.2).1).trans HZZ.out.2
  have HEND := Lib.hid (HY1.out.trans (HZ3.out.mono HY1.out.size))
  have HFM := Lib.hid (fmtEv_any a1 Z3 (HRD.out Z3 HEND.out) (HA1.out.1.next HZ3.out) HA1.out.2.1.l HA1.out.2.1.r HA1.out.2.1.sz HA1.out.2.1.bl)
  rw [HV1.out.1] at HFM
  clear hb HSA
  go_wp2_with (refine wpList_load_row_g (by rfl) 35 (.tmp 3) rfl Y1.heap.size rfl 35 D1 (0, 0) _ hrw3 Tryz.underlying35 rfl HV1.out.2 ?_)
  clear hrw3
  refine HFM.out.mono ?_
  rintro e V ⟨hf, hb⟩
  have HV := Lib.hid (HEND.out.trans (hb.mono HEND.out.size))
  clear hb HFM
  rcases HA1.out.2.2 with ⟨h1, h2, h3, h4, h5⟩ | ⟨h1, _, _⟩
  · have he := hf.good h2 (by rw [← h4]; exact h5)
    rw [← h4, ← HS.out] at he
    subst he h1
    clear hf h2 h3 h4 h5
    go_wp2_with fail
    go_ret
    exact ⟨rfl, HV.out⟩
  · obtain ⟨b, c, rfl⟩ := hf.any
    subst h1
    clear hf
    go_wp2_with fail
    go_ret
    exact ⟨rfl, HV.out⟩
end
end Go.Proofs.YtakdkiggaalimaaGreatDoor
