/-
  samaritanlaw51.wakes: the examples of the document.
-/
import Derived.Test.YtakdkiggaalimaaDoorTrPe
import Derived.Test.YtakdkiggaalimaaDoorTrFm
namespace Go.Proofs.YtakdkiggaalimaaDoor
open Go.RowKit Go.Maps
open Go.Lib (itoa)

def wakeA : EvM := ⟨3, 9, 1, 7, 2, 0, 0, 0, none, 0, [], ord0, sta0, kindM 0, none, 0, []⟩
def wakeS : Wd := [57, 32, 111, 119, 110, 101, 114, 32, 55, 32, 49, 32, 50]
theorem wakeA_text : evT wakeA.con = wakeS := by decide +kernel
theorem wakeA_ok : EvOk wakeA.con := ⟨by decide, by decide, (fun h => absurd h (by decide)), rfl⟩
def wakeB : EvC := { ev0 with kind := 7, tick := 9, n := 4, eterm := 2, ekind := 2, ebody := [30, 18] }
def wakeT : Wd := [57, 32, 97, 112, 112, 108, 105, 101, 100, 32, 48, 32, 52, 32, 50, 32, 50, 32, 61, 49, 101, 49, 50]
theorem wakeB_text : evT wakeB = wakeT := by decide +kernel
theorem wakeB_ok : EvOk wakeB := ⟨by decide, by decide, (fun h => absurd h (by decide)), rfl⟩
theorem wakeB_v : VEv wakeB := by
  refine ⟨⟨by decide, by decide, rfl⟩, fun f hf => ?_⟩
  have hf : f ∈ [0, 3, 5] := hf
  simp only [List.mem_cons, List.mem_nil_iff, or_false] at hf
  rcases hf with rfl | rfl | rfl
  · show Is64 0; decide
  · show Is64 4; decide
  · show Is64 2 ∧ Is64 2; decide
theorem wakeA_r : EvR wakeA.con :=
  ⟨by decide, by decide, by decide, by decide, by decide, by decide, by decide, by decide, by decide, by decide, by decide, (bd_kind (k := 0) is64_0).r⟩
set_option maxRecDepth 100000 in
set_option maxHeartbeats 8000000 in
theorem wakes_any (w : World) (hr : Ready w) : Calls Tryd.prog 5 #[] w fun e w' => e = .returned (.bool true) ∧ Below w.heap.size w w' := by
  obtain ⟨C, hC⟩ : ∃ C, C = (evCs wakeA).toArray := ⟨_, rfl⟩
  have hv : evV wakeA = .agg C := by rw [hC]; rfl
  have hbt : Tryd.prog.built 41 [(0, .int .i64 3), (1, .int .i64 9), (3, .int .i64 7), (2, .int .i64 1), (4, .int .i64 2)] = some C := by rw [hC]; rfl
  have HF := Lib.hid (fmtEv_any wakeA w hr ⟨Sl.empty, ⟨SrcsAt.empty, Sl.empty⟩, Sl.empty⟩ ⟨by decide, (fun s hs => by cases hs), by decide⟩ wakeA_r (by decide) (by decide))
  rw [hv] at HF
  have HR := Lib.hid hr
  clear hC hv hr
  go_enter Tryd.func5, Tryd.ntmps5
  go_wp2_with (refine wpList_build_to rfl 41 #[(0, .const (.int .i64 3)), (1, .const (.int .i64 9)), (3, .const (.int .i64 7)), (2, .const (.int .i64 1)), (4, .const (.int .i64 2))] rfl C (by rw [Array.toList_map]; exact hbt) ?_)
  refine HF.out.mono ?_
  rintro e W1 ⟨hf, hb1⟩
  have he : e = .returned (.tuple #[.string ⟨#[57, 32, 111, 119, 110, 101, 114, 32, 55, 32, 49, 32, 50]⟩, .int .i64 0]) := by
    show e = .returned (.tuple #[.string (bs wakeS), .int .i64 0])
    rcases hf with ⟨_, _, h⟩ | ⟨_, h, _⟩ | ⟨h, _⟩
    · rw [h, wakeA_text]
    · rw [wakeA_text] at h
      exact absurd h (by decide)
    · exact absurd wakeA_ok h
  subst he
  have HP := Lib.hid (parseEv_any wakeT W1 (HR.out.below hb1))
  have HB1 := Lib.hid hb1
  clear hf hb1 hbt
  go_wp2_with fail
  refine HP.out.mono ?_
  rintro e W2 (⟨a, _, hva, hta, _, he, ho, _, hb2⟩ | ⟨hno, _⟩)
  rotate_left
  · rcases hno with h | h
    · exact absurd h (by decide)
    · exact absurd wakeB_text.symm (h wakeB wakeB_v wakeB_ok)
  have hab : a.con = wakeB := evT_inj hva wakeB_v (hta.symm.trans wakeB_text.symm)
  obtain ⟨D, hD⟩ : ∃ D, D = (evCs a).toArray := ⟨_, rfl⟩
  have hvd : evV a = .agg D := by rw [hD]; rfl
  rw [hvd] at he
  subst he
  have hb5 := below_new W2 (.cells D 41)
  have hn : a.n = 4 := congrArg EvC.n hab
  have ht : a.eterm = 2 := congrArg EvC.eterm hab
  have hbd : a.ebody = [30, 18] := congrArg EvC.ebody hab
  have c5 : D[5]? = some (.int .i64 4) := by rw [hD, ← hn]; rfl
  have c6 : D[6]? = some (.int .i64 2) := by rw [hD, ← ht]; rfl
  have c8 : D[8]? = some (.slice a.eA 2 a.ec) := by
    have h : D[8]? = some (.slice a.eA a.ebody.length a.ec) := by rw [hD]; rfl
    rwa [hbd] at h
  have hszd : (Tryd.prog.info? 41).map (·.size) = some D.size := by rw [hD]; exact ev_size
  have honed : D.all (·.oneCell') = true := by rw [hD]; exact evCs_one a
  have hat := ((ho.next hb5).at).body
  rw [hbd] at hat
  have hcv : (convert 30 9 (.slice a.eA 2 a.ec)).run Tryd.prog (W2.alloc (.cells D 41)) = .ok (.string ⟨#[30, 18]⟩) (W2.alloc (.cells D 41)) := bytes_str hat a.ec
  have HB5 := Lib.hid (show Below w.heap.size w (W2.alloc (.cells D 41)) from HB1.out.trans ((hb2.trans (hb5.mono hb2.size)).mono HB1.out.size))
  have hoy := new_obj W2 (.cells #[.int .i64 0, .int .i64 0, .int .i64 0, .int .i64 0, .int .i64 0, .int .i64 0, .int .i64 0, .int .i64 0, .slice none 0 0, .int .i64 0, .int .i64 0, .int .i64 0, .int .i64 0, .int .i64 0, .int .i64 0, .int .i64 0, .int .i64 0, .int .i64 0, .int .i64 0, .int .i64 0, .int .i64 0, .int .i64 0, .int .i64 0, .int .i64 0, .int .i64 0, .slice none 0 0, .slice none 0 0, .slice none 0 0] 41)
  have hold : (#[.int .i64 0, .int .i64 0, .int .i64 0, .int .i64 0, .int .i64 0, .int .i64 0, .int .i64 0, .int .i64 0, .slice none 0 0, .int .i64 0, .int .i64 0, .int .i64 0, .int .i64 0, .int .i64 0, .int .i64 0, .int .i64 0, .int .i64 0, .int .i64 0, .int .i64 0, .int .i64 0, .int .i64 0, .int .i64 0, .int .i64 0, .int .i64 0, .int .i64 0, .slice none 0 0, .slice none 0 0, .slice none 0 0] : Array Value).size = D.size := by rw [hD]; rfl
  have hwz := World.setRow_alloc_new W2 #[.int .i64 0, .int .i64 0, .int .i64 0, .int .i64 0, .int .i64 0, .int .i64 0, .int .i64 0, .int .i64 0, .slice none 0 0, .int .i64 0, .int .i64 0, .int .i64 0, .int .i64 0, .int .i64 0, .int .i64 0, .int .i64 0, .int .i64 0, .int .i64 0, .int .i64 0, .int .i64 0, .int .i64 0, .int .i64 0, .int .i64 0, .int .i64 0, .int .i64 0, .slice none 0 0, .slice none 0 0, .slice none 0 0] D 41
  have HD := Lib.hid (And.intro hszd (And.intro honed (And.intro hold hwz)))
  clear hD hvd hab hn ht hbd hva hta ho hb2 hb5 hat hszd honed hold hwz
  go_wp2_with (refine wpList_store_row rfl 41 (.tmp 3) (.tmp 12) rfl W2.heap.size D rfl rfl 41 _ hoy HD.out.1 HD.out.2.2.1 HD.out.2.1 ?_; rw [HD.out.2.2.2])
  go_ret
  exact ⟨rfl, HB5.out⟩
end Go.Proofs.YtakdkiggaalimaaDoor
