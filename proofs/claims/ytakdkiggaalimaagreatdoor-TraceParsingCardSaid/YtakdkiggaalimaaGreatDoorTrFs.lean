/-
  trace.Format; a slice of events in memory; what a trace's text is (printed by gentrfs.py).
-/
import Derived.Test.YtakdkiggaalimaaGreatDoorTrFm
import Derived.Deep.MidRow
namespace Go.Proofs.YtakdkiggaalimaaGreatDoor
open Go.RowKit Go.Maps
open Go.Lib (itoa)

structure EvsAt (w : World) (B : Nat) (A : Option Addr) (l : List EvM) : Prop where
  row : RecsAt evCs w B A l
  evs : ∀ e ∈ l, EvAt w B e
theorem EvsAt.below {w w' : World} {B : Nat} {A : Option Addr} {l : List EvM} (h : EvsAt w B A l) (hb : Below B w w') : EvsAt w' B A l := ⟨RecsAt.below h.row hb, fun s hs => (h.evs s hs).below hb⟩
theorem EvsAt.more {w : World} {B B' : Nat} {A : Option Addr} {l : List EvM} (h : EvsAt w B A l) (hB : B ≤ B') : EvsAt w B' A l := ⟨RecsAt.more h.row hB, fun s hs => (h.evs s hs).more hB⟩
theorem EvsAt.empty {w : World} {B : Nat} {A : Option Addr} : EvsAt w B A [] := ⟨RecsAt.empty, fun s hs => by cases hs⟩
/-- where an event of the slice lies. -/
theorem ev_range {w : World} {B : Nat} {A : Option Addr} {xs : List EvM} (h : RecsAt evCs w B A xs) {i : Nat} {s : EvM} (hi : xs[i]? = some s) : ∃ b o, A = some ⟨b, o, none⟩ ∧ b < B ∧ w.rangeAt b (o + i * 28) (evCs s) := by
  obtain ⟨b, o, e, hb, hc⟩ := RecsAt.at evCs_len h hi (by decide)
  exact ⟨b, o, e, hb, hc⟩
theorem evCs_one (e : EvM) : ((evCs e).toArray.all (·.oneCell')) = true := by
  unfold evCs
  simp [Value.oneCell']
/-- what the texts ask of an event: numbers are int64, the lists are short. -/
structure EvS (e : EvM) : Prop where
  r : EvR e.con
  l : ActL e.act
  sz : actSize e.act.con ≤ 100000
  bl : e.ebody.length ≤ 100000
def FineE (e : EvC) : Prop := EvOk e ∧ (evT e).length ≤ 65536
open Classical in
noncomputable def codeE (e : EvC) : Int := if EvOk e then 3 else 1
def joinE (l : List EvC) : Wd := l.flatMap (fun e => evT e ++ [10])
/-- what a trace is made into. -/
def FmtsR (l : List EvC) (e : Ending) : Prop :=
  ((∀ x ∈ l, FineE x) ∧ e = .returned (.tuple #[.string (bs (joinE l)), .int .i64 0])) ∨ ∃ (i : Nat) (x : EvC), l[i]? = some x ∧ (∀ y ∈ l.take i, FineE y) ∧ ¬ FineE x ∧ e = .returned (.tuple #[.string ⟨#[]⟩, .int .i64 (codeE x)])
theorem joinE_snoc (l : List EvC) (x : EvC) : joinE (l ++ [x]) = joinE l ++ evT x ++ [10] := by simp [joinE]
theorem joinE_len {l : List EvC} (h : ∀ x ∈ l, FineE x) : (joinE l).length ≤ l.length * 65537 := by
  induction l with
  | nil => simp [joinE]
  | cons x r ih =>
    have h1 := ih (fun y hy => h y (by simp [hy]))
    have h2 := (h x (by simp)).2
    have e : joinE (x :: r) = (evT x ++ [10]) ++ joinE r := by simp [joinE]
    rw [e]
    simp only [List.length_append, List.length_cons, List.length_nil]
    omega
abbrev BT : TypeId := 70
theorem below_row {w W : World} (h : Below w.heap.size w W) (cs : Array Value) : Below w.heap.size w (W.setRow w.heap.size cs) :=
  ⟨h.os, h.tape, h.output, by simpa using h.size, fun k hk => (setRow_other W _ k cs (by omega)).trans (h.block k hk)⟩
set_option maxRecDepth 100000 in
set_option maxHeartbeats 8000000 in
theorem format_any (w : World) (hr : Ready w) (A : Option Addr) (c : Nat) (l : List EvM) (hat : EvsAt w w.heap.size A l) (hS : ∀ e ∈ l, EvS e) (hn : l.length ≤ 100000) :
    Calls Tryz.prog 25 #[.slice A l.length c] w fun e w' => FmtsR (l.map EvM.con) e ∧ Below w.heap.size w w' := by
  have HFB := Lib.hid (FB.start BT w)
  have HA := Lib.hid (And.intro hat (And.intro hS (And.intro hr hn)))
  obtain ⟨m, hm⟩ : ∃ m, m = l.length := ⟨_, rfl⟩
  have HM := Lib.hid hm
  have hml : m ≤ 100000 := by omega
  obtain ⟨W0, hW0⟩ : ∃ W0, W0 = w.alloc (.cells #[.pointer none, .slice none 0 0] BT) := ⟨_, rfl⟩
  rw [← hW0] at HFB
  rw [← hm]
  clear hat hS hr hn hm
  go_enter Tryz.func25, Tryz.ntmps25
  go_wp2_with fail
  rw [← hW0]
  clear hW0
  go_loopw [11] (fun iv X => ∃ i : Nat, i ≤ m ∧ iv = .int .i64 i ∧ FB BT (joinE ((l.map EvM.con).take i)) w X ∧ ∀ e ∈ (l.map EvM.con).take i, FineE e) (fun iv _ => m - (intOf iv).toNat)
  case atStart => exact ⟨0, Nat.zero_le _, rfl, HFB.out, (fun e h => by cases h)⟩
  case round =>
    obtain ⟨i, hi, rfl, hfb, hfine⟩ := hrel
    have HR := Lib.hid (And.intro hfb hfine)
    clear hfb hfine
    by_cases hlt : i < m
    · have hlt' : (i : Int) < (m : Int) := by omega
      obtain ⟨x, hx⟩ : ∃ x, l[i]? = some x := ⟨l[i]'(by have := HM.out; omega), by simp⟩
      have hxm := List.mem_of_getElem? hx
      have hat2 := HA.out.1.below HR.out.1.below
      obtain ⟨b, o, hAe, hb, hrng⟩ := ev_range hat2.row hx
      have HX := Lib.hid (And.intro hx (And.intro hxm (hat2.evs x hxm)))
      obtain ⟨D, hD⟩ : ∃ D, D = evCs x := ⟨_, rfl⟩
      have HV := Lib.hid (show evV x = .agg D.toArray by rw [hD]; rfl)
      have hszl : (Tryz.prog.info? 35).map (·.size) = some D.length := by rw [hD]; exact ev_size
      have hsz : (Tryz.prog.info? 35).map (·.size) = some D.toArray.size := by rw [hD]; exact ev_size
      have hone : D.toArray.all (·.oneCell') = true := by rw [hD]; exact evCs_one x
      have hold : (#[.int .i64 0, .int .i64 0, .int .i64 0, .int .i64 0, .int .i64 0, .int .i64 0, .int .i64 0, .int .i64 0, .slice none 0 0, .int .i64 0, .int .i64 0, .int .i64 0, .int .i64 0, .int .i64 0, .int .i64 0, .int .i64 0, .int .i64 0, .int .i64 0, .int .i64 0, .int .i64 0, .int .i64 0, .int .i64 0, .int .i64 0, .int .i64 0, .int .i64 0, .slice none 0 0, .slice none 0 0, .slice none 0 0] : Array Value).size = D.toArray.size := by rw [hD]; rfl
      rw [← hD] at hrng
      have hrow0 := new_obj wr (.cells #[.int .i64 0, .int .i64 0, .int .i64 0, .int .i64 0, .int .i64 0, .int .i64 0, .int .i64 0, .int .i64 0, .slice none 0 0, .int .i64 0, .int .i64 0, .int .i64 0, .int .i64 0, .int .i64 0, .int .i64 0, .int .i64 0, .int .i64 0, .int .i64 0, .int .i64 0, .int .i64 0, .int .i64 0, .int .i64 0, .int .i64 0, .int .i64 0, .int .i64 0, .slice none 0 0, .slice none 0 0, .slice none 0 0] 35)
      have hrow := setRow_heap _ _ _ D.toArray _ _ hrow0
      have hbr : Below wr.heap.size wr ((wr.alloc (.cells #[.int .i64 0, .int .i64 0, .int .i64 0, .int .i64 0, .int .i64 0, .int .i64 0, .int .i64 0, .int .i64 0, .slice none 0 0, .int .i64 0, .int .i64 0, .int .i64 0, .int .i64 0, .int .i64 0, .int .i64 0, .int .i64 0, .int .i64 0, .int .i64 0, .int .i64 0, .int .i64 0, .int .i64 0, .int .i64 0, .int .i64 0, .int .i64 0, .int .i64 0, .slice none 0 0, .slice none 0 0, .slice none 0 0] 35)).setRow wr.heap.size D.toArray) := below_row ((Below.refl _ _).alloc (Nat.le_refl _) _) _
      obtain ⟨W3, hW3⟩ : ∃ W3, W3 = (wr.alloc (.cells #[.int .i64 0, .int .i64 0, .int .i64 0, .int .i64 0, .int .i64 0, .int .i64 0, .int .i64 0, .int .i64 0, .slice none 0 0, .int .i64 0, .int .i64 0, .int .i64 0, .int .i64 0, .int .i64 0, .int .i64 0, .int .i64 0, .int .i64 0, .int .i64 0, .int .i64 0, .int .i64 0, .int .i64 0, .int .i64 0, .int .i64 0, .int .i64 0, .int .i64 0, .slice none 0 0, .slice none 0 0, .slice none 0 0] 35)).setRow wr.heap.size D.toArray := ⟨_, rfl⟩
      have HB3 := Lib.hid (show Below wr.heap.size wr W3 by rw [hW3]; exact hbr)
      have HF := Lib.hid (fmtEv_any x W3 (HA.out.2.2.1.kept (HR.out.1.next HB3.out).below HA.out.2.2.1.room) ((HX.out.2.2.below (HB3.out.mono HR.out.1.below.size)).more (Nat.le_trans HR.out.1.below.size HB3.out.size)) (HA.out.2.1 x hxm).l (HA.out.2.1 x hxm).r (HA.out.2.1 x hxm).sz (HA.out.2.1 x hxm).bl)
      rw [HV.out] at HF
      rw [hAe]
      clear hx hxm hat2 hD hbr hAe
      go_wp2_with (first | (refine wpList_load_mid rfl 35 (.tmp 13) rfl b (o + i * 28) rfl D _ hrng Tryz.underlying35 rfl hszl ?_) | (refine wpList_store_row rfl 35 (.tmp 6) (.tmp 14) rfl wr.heap.size D.toArray rfl rfl 35 _ hrow0 hsz hold hone ?_) | (refine wpList_load_row_g (by rfl) 35 (.tmp 6) rfl wr.heap.size rfl 35 D.toArray (0, 0) _ hrow Tryz.underlying35 rfl hsz ?_))
      rw [← hW3]
      clear hW3 hrow hrow0 hrng
      refine HF.out.mono ?_
      rintro e W4 ⟨hf, hb4⟩
      have HFB4 := Lib.hid ((HR.out.1.next HB3.out).next hb4)
      clear hb4
      have bad : ∀ z : Int, z ≠ 0 → (z != 0) = true := fun z h => by simp [h]
      rcases hf with ⟨h1, h2, rfl⟩ | ⟨h1, h2, rfl⟩ | ⟨h1, rfl⟩
      · have HH := Lib.hid (And.intro h1 h2)
        have HJL : Hid ((joinE ((l.map EvM.con).take i)).length ≤ 6553700000) := Lib.hid (by
          have h3 := joinE_len HR.out.2
          have h4 : ((l.map EvM.con).take i).length ≤ 100000 := Nat.le_trans (by rw [List.length_take]; exact Nat.min_le_left _ _) (Nat.le_trans hi hml)
          exact Nat.le_trans h3 (Nat.le_trans (Nat.mul_le_mul h4 (Nat.le_refl 65537)) (by decide)))
        have HWS := Lib.hid (write_fb bldT_bld HFB4.out (evT x.con) (by have h3 := HJL.out; have h4 := HH.out.2; omega))
        clear h1 h2 bad
        go_wp2_with fail
        refine HWS.out.mono ?_
        rintro e W5 ⟨rfl, h5, _, _⟩
        have HWB := Lib.hid (writeByte_fb bldT_bld h5 10 (z := 10) rfl (by have h3 := HJL.out; have h4 := HH.out.2; rw [List.length_append]; omega))
        clear h5
        go_wp2_with fail
        refine HWB.out.mono ?_
        rintro e W6 ⟨rfl, h6, _, _⟩
        have H6 := Lib.hid h6
        clear h6
        go_wp2_with fail
        go_roundw
        case rel =>
          have e1 : (l.map EvM.con).take (i + 1) = (l.map EvM.con).take i ++ [x.con] := take_snoc (by rw [List.getElem?_map, HX.out.1]; rfl)
          refine ⟨i + 1, by omega, by go_num, ?_, ?_⟩
          · rw [e1, joinE_snoc]
            exact H6.out
          · rw [e1]
            intro y hy
            rcases List.mem_append.1 hy with q | q
            · exact HR.out.2 y q
            · rw [List.mem_singleton.1 q]
              exact HH.out
        case measure => simp [intOf]; omega
      · have HH : Hid (FmtsR (l.map EvM.con) (.returned (.tuple #[.string ⟨#[]⟩, .int .i64 3]))) := Lib.hid (.inr ⟨i, x.con, by rw [List.getElem?_map, HX.out.1]; rfl, HR.out.2, fun q => by have := q.2; omega, by unfold codeE; rw [if_pos h1]⟩)
        clear h1 h2 bad
        go_wp2_with fail
        go_ret2
        exact ⟨HH.out, HFB4.out.below⟩
      · have HH : Hid (FmtsR (l.map EvM.con) (.returned (.tuple #[.string ⟨#[]⟩, .int .i64 1]))) := Lib.hid (.inr ⟨i, x.con, by rw [List.getElem?_map, HX.out.1]; rfl, HR.out.2, fun q => h1 q.1, by unfold codeE; rw [if_neg h1]⟩)
        clear h1 bad
        go_wp2_with fail
        go_ret2
        exact ⟨HH.out, HFB4.out.below⟩
    · obtain rfl : i = m := by omega
      have e : (l.map EvM.con).take i = l.map EvM.con := List.take_of_length_le (by rw [List.length_map]; have := HM.out; omega)
      have HE : Hid (FB BT (joinE (l.map EvM.con)) w wr ∧ ∀ y ∈ l.map EvM.con, FineE y) := Lib.hid (by have h := HR.out; rw [e] at h; exact h)
      have HST := Lib.hid (Tryz.Builder_String_any w.heap.size w.heap.size (joinE (l.map EvM.con)) wr HE.out.1.bld (Nat.le_of_lt HE.out.1.lt))
      clear e
      go_wp2_with fail
      refine HST.out.mono ?_
      rintro e W5 ⟨rfl, hb⟩
      go_wp2_with fail
      go_ret2
      exact ⟨.inl ⟨HE.out.2, rfl⟩, HE.out.1.below.trans hb⟩
end Go.Proofs.YtakdkiggaalimaaGreatDoor
