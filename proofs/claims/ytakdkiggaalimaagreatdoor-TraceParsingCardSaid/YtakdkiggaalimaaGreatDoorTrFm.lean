/-
  trace.FormatEvent (printed by gentrfm.py).
-/
import Derived.Test.YtakdkiggaalimaaGreatDoorTrVe
namespace Go.Proofs.YtakdkiggaalimaaGreatDoor
open Go.RowKit Go.Maps
open Go.Lib (itoa)

/-- what a text is made into: a thing that is not valid is refused, a text that is too long too. -/
def FmtR (ok : Prop) (t : Wd) (e : Ending) : Prop :=
  (ok ∧ t.length ≤ 65536 ∧ e = .returned (.tuple #[.string (bs t), .int .i64 0])) ∨ (ok ∧ 65536 < t.length ∧ e = .returned (.tuple #[.string ⟨#[]⟩, .int .i64 3])) ∨ (¬ ok ∧ e = .returned (.tuple #[.string ⟨#[]⟩, .int .i64 1]))
set_option maxRecDepth 100000 in
set_option maxHeartbeats 4000000 in
theorem fmtEv_any (a : EvM) (w : World) (hr : Ready w) (hat : EvAt w w.heap.size a) (hl : ActL a.act) (hR : EvR a.con) (hsz0 : actSize a.act.con ≤ 100000) (hbl : a.ebody.length ≤ 100000) : Calls Tryz.prog 12 #[evV a] w fun e w' => FmtR (EvOk a.con) (evT a.con) e ∧ Below w.heap.size w w' := by
  have HA := Lib.hid (And.intro hr (And.intro hat (And.intro hl (And.intro hR (And.intro hsz0 hbl)))))
  obtain ⟨C, hC⟩ : ∃ C, C = (evCs a).toArray := ⟨_, rfl⟩
  have hv : evV a = .agg C := by rw [hC]; rfl
  have hsz : (Tryz.prog.info? 35).map (·.size) = some C.size := by rw [hC]; kernel_rfl
  have HV := Lib.hid hv
  obtain ⟨W1, hW1⟩ : ∃ W1, W1 = w.alloc (.cells C 35) := ⟨_, rfl⟩
  have hrow := new_obj w (.cells C 35)
  have HB1 := Lib.hid (show Below w.heap.size w W1 by rw [hW1]; exact (Below.refl _ _).alloc (Nat.le_refl _) _)
  have HR1 := Lib.hid (show W1.heap[w.heap.size]? = some (.cells C 35 (0, 0)) by rw [hW1]; exact hrow)
  have HVA := Lib.hid (vEv_any a W1 (hat.next HB1.out) hl)
  rw [hv] at HVA ⊢
  obtain ⟨Q, hQ⟩ : ∃ Q : Prop, Q = EvOk a.con := ⟨_, rfl⟩
  have HQ := Lib.hid hQ
  rw [← hQ] at HVA ⊢
  clear hr hat hl hC hv hQ
  go_enter Tryz.func12, Tryz.ntmps12
  go_wp2_with (refine wpList_load_row_g (by rfl) 35 (.tmp 1) rfl w.heap.size rfl 35 C (0, 0) _ hrow Tryz.underlying35 rfl hsz ?_)
  rw [← hW1]
  clear hrow
  by_cases hq : Q
  rotate_left
  · rw [tb_false hq] at HVA
    have HN := Lib.hid hq
    clear hq hW1
    refine HVA.out.mono ?_
    rintro e W2 ⟨rfl, hb⟩
    go_wp2_with fail
    go_ret2
    exact ⟨.inr (.inr ⟨HN.out, rfl⟩), HB1.out.trans (hb.mono HB1.out.size)⟩
  rw [tb_true hq] at HVA
  have HY := Lib.hid hq
  clear hq hW1
  refine HVA.out.mono ?_
  rintro e W2 ⟨rfl, hb⟩
  have HB2 := Lib.hid (show Below w.heap.size w W2 from HB1.out.trans (hb.mono HB1.out.size))
  have HFB := Lib.hid (FB.start WT W2)
  obtain ⟨W3, hW3⟩ : ∃ W3, W3 = W2.alloc (.cells #[.pointer none, .slice none 0 0] WT) := ⟨_, rfl⟩
  have HB3 := Lib.hid (show Below W2.heap.size W2 W3 by rw [hW3]; exact (Below.refl _ _).alloc (Nat.le_refl _) _)
  have hlt2 : w.heap.size < W2.heap.size := Nat.lt_of_lt_of_le (Array.getElem?_eq_some_iff.1 HR1.out).1 hb.size
  have hrow3 : (W2.alloc (.cells #[.pointer none, .slice none 0 0] WT)).heap[w.heap.size]? = some (.cells C 35 (0, 0)) := by
    rw [← hW3]
    exact (HB3.out.block w.heap.size hlt2).trans ((hb.block w.heap.size (Array.getElem?_eq_some_iff.1 HR1.out).1).trans HR1.out)
  rw [← hW3] at HFB
  have HE := Lib.hid (event_any (HA.out.1.kept HB2.out HA.out.1.room) HFB.out a ((HA.out.2.1.below HB2.out).more HB2.out.size |>.below HB3.out) HA.out.2.2.2.1 HA.out.2.2.2.2.1 HA.out.2.2.2.2.2 (by simp))
  rw [HV.out] at HE
  clear hb
  go_wp2_with (refine wpList_load_row_g (by rfl) 35 (.tmp 1) rfl w.heap.size rfl 35 C (0, 0) _ hrow3 Tryz.underlying35 rfl hsz ?_)
  rw [← hW3]
  clear hrow3 hW3 hlt2
  refine HE.out.mono ?_
  rintro e W4 ⟨rfl, h1, h2, h3⟩
  have HW4 := Lib.hid (And.intro h2 h3)
  have e1 : addWs [] (evW a.con) = evT a.con := addWs_nil (itoa_ne _) _
  rw [e1] at h1
  have HTX := Lib.hid (text_any h1 (by
    show lineW (itoa a.con.tick :: _) ≠ []
    rw [lineW]
    intro q
    exact itoa_ne _ (List.append_eq_nil_iff.1 q).1))
  clear h1 h2 h3 e1
  go_wp2_with fail
  refine HTX.out.mono ?_
  rintro e W5 ⟨h1, h2⟩
  have HB5 := Lib.hid (show Below w.heap.size w W5 from HB2.out.trans ((((HB3.out).trans HW4.out.2).trans h2).mono HB2.out.size))
  clear h2
  rcases h1 with ⟨h1, rfl⟩ | ⟨h1, rfl⟩
  · have H1 := Lib.hid h1
    clear h1
    go_wp2_with fail
    go_ret2
    exact ⟨.inl ⟨HY.out, H1.out, rfl⟩, HB5.out⟩
  · have H1 := Lib.hid h1
    clear h1
    go_wp2_with fail
    go_ret2
    exact ⟨.inr (.inl ⟨HY.out, H1.out, rfl⟩), HB5.out⟩
end Go.Proofs.YtakdkiggaalimaaGreatDoor
