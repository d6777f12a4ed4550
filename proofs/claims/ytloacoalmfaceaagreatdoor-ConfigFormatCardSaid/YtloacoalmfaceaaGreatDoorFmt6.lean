/-
  config.Format at a configuration without a problem: what it returns (printed by genfmt6.py).
-/
import Derived.Test.YtloacoalmfaceaaGreatDoorRdy6
namespace Go.Proofs.YtloacoalmfaceaaGreatDoor
open Go.RowKit Go.Maps Go.Shelf

/-- the words of a plan whose first k kinds are laid. -/
def wordsK (p : Plan) (k : Nat) : List (List UInt8) := wPlan :: p.code.data.toList :: dec p.urg :: (p.kinds.take k).map kindName
theorem wordsK_all (p : Plan) : wordsK p p.kinds.length = planW p := by
  unfold wordsK planW
  rw [List.take_length]
theorem wordsK_succ {p : Plan} {k : Nat} {z : Int} (h : p.kinds[k]? = some z) : wordsK p (k + 1) = wordsK p k ++ [kindName z] := by
  unfold wordsK
  rw [take_snoc' h]
  simp
theorem wordsK_len (p : Plan) (k : Nat) : (wordsK p k).length ≤ 3 + p.kinds.length := by
  unfold wordsK
  simp
  omega
theorem bs_of' (s : ByteArray) : bs s.data.toList = s := by
  apply ByteArray.ext
  simp [bs]
theorem words0_cells (p : Plan) : (#[.string ⟨#[112, 108, 97, 110]⟩, .string p.code, .string (bs (dec p.urg))] : Array Value) = ((wordsK p 0).map strV).toArray := by
  simp [wordsK, strV, bs, wPlan]
theorem acc_lenE {α : Type} (Lb : List (List UInt8)) (g : α → List (List UInt8)) (xs : List α) : (acc Lb g xs xs.length).length = Lb.length + xs.length := by
  rw [acc_all]
  simp
theorem FSt.away {W1 Wp : World} {v : Value} {L : List (List UInt8)} (h : FSt W1 v L Wp) (h2 : 2 ≤ L.length) {b : Nat} {y0 : Value} (c0 : Wp.cell? ⟨b, 0, none⟩ = some y0) (hs : ∀ A n c, y0 ≠ .slice A n c) (hstr : (∀ s, y0 ≠ .string s) ∨ ∃ y1, Wp.cell? ⟨b, 1, none⟩ = some y1 ∧ ∀ s, y1 ≠ .string s) : ¬ fmtB W1 v b := by
  intro e
  rcases e with e | e
  · obtain ⟨A, c, hv, _⟩ := OwnV.sl (h.own |> fun h1 => by unfold OwnR at h1; rw [flat_strs] at h1; exact (h1 : OwnV strV Wp (W1.heap.size + 1) 9 v L))
    exact h.not_var c0 (fun q => hs A _ c (q.trans hv)) e
  · rcases hstr with q | ⟨y1, c1, q⟩
    · exact h.not_own (j := 0) (x := L[0]) (by simp) c0 (q _) e
    · exact h.not_own (j := 1) (x := L[1]) (by simp) c1 (q _) e
theorem parLs_succ {ps : List Int} {k : Nat} {z : Int} (h : ps[k]? = some z) : parLs ps (k + 1) = parLs ps k ++ (if defPs[k]? = some z then [] else [parW k z]) := by
  rw [parLs, h]
theorem par_cells (k : Nat) (z : Int) {nm : ByteArray} (h : nm = parNm k) : (#[.string nm, .string (bs (dec z))] : Array Value) = ((parW k z).map strV).toArray := by
  subst h
  simp [parW, bs_of']
theorem text_of {c : Cfg} {Lb Lc Ld Le Lf : List (List UInt8)} (h0 : Lb = [] ++ [lineT [wCentres, dec c.cen]]) (h1 : Lc = acc Lb nodeW c.ds c.ds.length) (h2 : Ld = acc Lc edgeW c.es c.es.length) (h3 : Le = acc Ld unitW c.us c.us.length) (h4 : Lf = acc Le planW c.pl c.pl.length) :
    Lib.join (Lf ++ (parLs c.ps 10).map lineT) [] = textC c := by
  rw [join_none, h4, h3, h2, h1, h0, acc_all, acc_all, acc_all, acc_all]
  unfold textC linesC
  simp only [List.nil_append, List.map_cons, List.map_append, List.append_assoc, List.cons_append]
theorem FSt.grown {W0 W W' : World} {v : Value} {L : List (List UInt8)} (h : FSt W0 v L W) {N : Nat} (hN : W0.heap.size < N) (hv : ∀ k, v.ownBlock = some k → k < N) {row : Option Nat} (hg : W.grownBy W' row) (hr : ∀ k, row = some k → N ≤ k) : FSt W0 v L W' := by
  refine h.only (S := fun j => row = some j) (Only.of_grown hg (fun j e => e)) (fun b hb e => ?_) ((Below.refl _ _).grown hg (Nat.le_of_lt h.lt) (fun k e => by have := hr k e; omega))
  have := hr b e
  rcases hb with hb | hb
  · omega
  · have := hv b hb
    omega
theorem FSt.sl {W0 W : World} {v : Value} {L : List (List UInt8)} (h : FSt W0 v L W) : OwnV strV W (W0.heap.size + 1) 9 v L := by
  have h1 := h.own
  unfold OwnR at h1
  rw [flat_strs] at h1
  exact h1
theorem add_lit {W0 X : World} {v : Value} {L : List (List UInt8)} (h : FSt W0 v L X) (ws : List (List UInt8)) (hS : Shorts ws) (hL : L.length ≤ 100000000) (cs : Array Value) (hcs : cs = (ws.map strV).toArray) (m : Nat) (hm : m = ws.length) :
    Calls Tryz.prog 32 #[.slice (some ⟨X.heap.size, 0, none⟩) m m, .pointer (some ⟨W0.heap.size, 0, none⟩)] (X.alloc (.cells cs 9)) fun e w' => e = .returned (.tuple #[]) ∧
      ∃ v', FSt W0 v' (L ++ [lineT ws]) w' ∧ Only (fmtB W0 v) X w' ∧ ∀ k, v'.ownBlock = some k → v.ownBlock = some k ∨ X.heap.size ≤ k := by
  have hb : Below X.heap.size X (X.alloc (.cells cs 9)) := (Below.refl _ _).alloc (Nat.le_refl _) _
  subst hm
  have hown := OwnV.lit (f := strV) X 0 9 ws rfl (Nat.zero_le _) (by have := hS.1; omega) cs hcs
  refine (add_any W0 _ v L (h.next hb) ws _ _ _ 0 hown (by have := hS.1; omega) (fun x hx => by have := hS.2 x hx; omega) hL).mono ?_
  rintro e w' ⟨rfl, v', h1, h2, h3⟩
  exact ⟨rfl, v', h1, (Only.of_below hb).trans h2 (fun _ _ q => q), fun k hk => (h3 k hk).imp id (fun q => Nat.le_trans hb.size q)⟩
set_option maxRecDepth 100000 in
set_option maxHeartbeats 4000000 in
theorem format_bad (w : World) (c : Cfg) (hc : CfgAt w w.heap.size c) (hs : CfgSz c) (hp : problem c ≠ 0) :
    Calls Tryz.prog 12 #[.agg c.cells.toArray] w fun e w' => e = .returned (.tuple #[.string ⟨#[]⟩, .int .i64 1]) ∧ Below w.heap.size w w' := by
  have hb0 : Below w.heap.size w (w.alloc (.cells c.cells.toArray 27)) := (Below.refl _ _).alloc (Nat.le_refl _) _
  obtain ⟨W0, hW0⟩ : ∃ W0, W0 = w.alloc (.cells c.cells.toArray 27) := ⟨_, rfl⟩
  rw [← hW0] at hb0
  have hsz : (Tryz.prog.info? 27).map (·.size) = some c.cells.toArray.size := by
    have h15 : c.cells.toArray.size = 15 := by simp [Cfg.cells, hc.ten]
    have k15 : (Tryz.prog.info? 27).map (·.size) = some 15 := by kernel_rfl
    rw [h15, k15]
  have HV := Lib.hid (validate_any W0 c ((hc.below hb0).more hb0.size) hs)
  have HB := Lib.hid hb0
  obtain ⟨P, hP⟩ : ∃ P, P = problem c := ⟨_, rfl⟩
  rw [← hP] at HV hp
  have e0 : ((P : Int) != 0) = true := by simp; omega
  obtain ⟨X, hX⟩ : ∃ X, X = c.cells.toArray := ⟨_, rfl⟩
  rw [← hX] at hW0 HV hsz ⊢
  clear hc hs hb0 hX hP hp
  go_enter Tryz.func12, Tryz.ntmps12
  go_wp2_with (refine wpList_load_row rfl 27 (.tmp 1) rfl w.heap.size rfl 27 X (0, 0) _ (new_obj w _) Tryz.underlying27 rfl hsz ?_)
  rw [← hW0]
  clear hW0
  refine HV.out.mono ?_
  rintro e W1 ⟨rfl, hb1⟩
  have HB1 := Lib.hid (HB.out.trans (hb1.mono HB.out.size))
  clear hb1 HV hsz
  go_wp2_with fail
  go_ret2
  exact ⟨rfl, HB1.out⟩
set_option maxRecDepth 100000 in
set_option maxHeartbeats 16000000 in
theorem format_fine (w : World) (c : Cfg) (hc : CfgAt w w.heap.size c) (hs : CfgSz c) (hsh : Short c) (hr : Rdy w) (hp : problem c = 0) :
    Calls Tryz.prog 12 #[.agg c.cells.toArray] w fun e w' => e = .returned (.tuple #[.string (bs (textC c)), .int .i64 0]) ∧ Below w.heap.size w w' := by
  have hi := cfgIn_new w c 27
  have hb0 : Below w.heap.size w (w.alloc (.cells c.cells.toArray 27)) := (Below.refl _ _).alloc (Nat.le_refl _) _
  have hrow := new_obj w (.cells c.cells.toArray 27)
  obtain ⟨W0, hW0⟩ : ∃ W0, W0 = w.alloc (.cells c.cells.toArray 27) := ⟨_, rfl⟩
  have hz0 : w.heap.size < W0.heap.size := by rw [hW0]; simp
  rw [← hW0] at hi hrow hb0
  have H0 := Lib.hid (And.intro hb0 (And.intro hi (And.intro ((hc.below hb0).more hb0.size) hz0)))
  have hsz : (Tryz.prog.info? 27).map (·.size) = some c.cells.toArray.size := by
    have h15 : c.cells.toArray.size = 15 := by simp [Cfg.cells, hc.ten]
    have k15 : (Tryz.prog.info? 27).map (·.size) = some 15 := by kernel_rfl
    rw [h15, k15]
  have HV := Lib.hid (validate_any W0 c ((hc.below hb0).more hb0.size) hs)
  have HFI := Lib.hid (fine_of hp)
  have HPR := Lib.hid hp
  have HSH := Lib.hid (And.intro hsh hs)
  have HR0 := Lib.hid hr
  obtain ⟨X, hX⟩ : ∃ X, X = c.cells.toArray := ⟨_, rfl⟩
  rw [← hX] at hW0 hrow HV hsz ⊢
  clear hc hs hsh hr hp hb0 hi hX hz0
  go_enter Tryz.func12, Tryz.ntmps12
  go_wp2_with (refine wpList_load_row rfl 27 (.tmp 1) rfl w.heap.size rfl 27 X (0, 0) _ (new_obj w _) Tryz.underlying27 rfl hsz ?_)
  rw [← hW0]
  clear hW0
  refine HV.out.mono ?_
  rw [HPR.out]
  rintro e W1 ⟨rfl, hb1⟩
  have hiw := H0.out.2.1.below hb1 H0.out.2.2.2
  obtain ⟨c0, c1, c2, c3, c4⟩ := hiw.five
  have H1 := Lib.hid (And.intro (H0.out.1.trans (hb1.mono H0.out.1.size)) (And.intro hiw (And.intro ((H0.out.2.2.1.below hb1).more hb1.size) (Nat.lt_of_lt_of_le H0.out.2.2.2 hb1.size))))
  have HRW : Hid (∀ Y, Below W1.heap.size W1 Y → Rdy Y) := Lib.hid (fun Y hY => HR0.out.below (H1.out.1.trans (hY.mono H1.out.1.size)))
  have hrow1 := (hb1.block w.heap.size H0.out.2.2.2).trans hrow
  have HROW := Lib.hid (And.intro hrow1 hsz)
  clear hb1 hiw HV H0 hrow hrow1 hsz
  have hf : FSt W1 (.slice none 0 0) [] (W1.alloc (.cells #[.slice none 0 0] 59)) := ⟨heap_alloc_new W1 _, OwnR.nil _ _ _, (Below.refl _ _).alloc (Nat.le_refl _) _⟩
  have hbx : Below W1.heap.size W1 (W1.alloc (.cells #[.slice none 0 0] 59)) := hf.below
  have hcw : w.heap.size < W1.heap.size := H1.out.2.2.2
  have d0 := (hbx.cell (p := ⟨w.heap.size, 0, none⟩) hcw).trans c0
  have d1 := (hbx.cell (p := ⟨w.heap.size, 1, none⟩) hcw).trans c1
  clear c0 c1 c2 c3 c4
  go_wp2_with fail
  obtain ⟨X1, hX1⟩ : ∃ x, x = W1.alloc (.cells #[.slice none 0 0] 59) := ⟨_, rfl⟩
  rw [← hX1] at hf hbx d0 d1 ⊢
  clear hX1
  have HF := Lib.hid hf
  have hcen := HFI.out.cen
  clear hf
  refine (itoaZ_any c.cen (by omega) (by omega) X1 (HRW.out _ hbx)).mono ?_
  rintro e X2 ⟨rfl, hb2⟩
  have HF2 := Lib.hid (HF.out.next hb2)
  clear HF hb2 d0 d1 hbx X1
  go_wp2_with fail
  refine (add_lit HF2.out [wCentres, dec c.cen] (cen_short (by omega)) (by simp) _ rfl 2 rfl).mono ?_
  rintro e X3 ⟨rfl, v3, hf3, -, -⟩
  obtain ⟨Lb, hLb⟩ : ∃ L, L = [] ++ [lineT [wCentres, dec c.cen]] := ⟨_, rfl⟩
  rw [← hLb] at hf3
  have HLb := Lib.hid hLb
  have hll : Lb.length ≤ 1 := by rw [hLb]; simp
  have HF3 := Lib.hid hf3
  clear hf3 hLb HF2
  have HSZ := Lib.hid (show c.ds.length ≤ 60 ∧ c.es.length ≤ 60 ∧ c.us.length ≤ 60 ∧ c.pl.length ≤ 70 from HSH.out.1)
  have hl1 := HSZ.out.1
  have hl2 := HSZ.out.2.1
  have hl3 := HSZ.out.2.2.1
  have hl4 := HSZ.out.2.2.2
  obtain ⟨_, d1, _, _, _⟩ := (H1.out.2.1.below HF3.out.below hcw).five
  go_wp2_with fail
  go_loopw [36] (fun i Y => ∃ (k : Nat) (v : Value), k ≤ c.ds.length ∧ i = .int .i64 k ∧ FSt W1 v (acc Lb nodeW c.ds k) Y) (fun i _ => c.ds.length - (intOf i).toNat)
  case atStart => exact ⟨0, v3, Nat.zero_le _, rfl, by rw [acc_zero]; exact HF3.out⟩
  case round =>
    obtain ⟨k, v, hk, rfl, hf⟩ := hrel
    have HFk := Lib.hid hf
    clear d1
    by_cases hlt : k < c.ds.length
    · obtain ⟨z, hz⟩ : ∃ z, c.ds[k]? = some z := ⟨c.ds[k], by simp⟩
      obtain ⟨b, o, hA, _, qz⟩ := (H1.out.2.2.1.ds.below hf.below).int hz
      have hzr : 0 ≤ z ∧ z ≤ 9 := by
        have h1 := HFI.out.ds z (List.mem_of_getElem? hz)
        unfold Idx at h1
        omega
      rw [hA]
      have HZ := Lib.hid hz
      clear hz hA hf
      go_wp2_with fail
      refine (itoaZ_any z (by omega) (by omega) wr (HRW.out _ HFk.out.below)).mono ?_
      rintro e Y2 ⟨rfl, hb2⟩
      have HF4 := Lib.hid (HFk.out.next hb2)
      clear hb2 qz
      go_wp2_with fail
      have hal := acc_len Lb nodeW c.ds k
      refine (add_lit HF4.out (nodeW z) (node_short (by omega)) (by omega) _ rfl 2 rfl).mono ?_
      rintro e Y3 ⟨rfl, v4, hf3, -, -⟩
      rw [acc_succ HZ.out] at hf3
      have HF5 := Lib.hid hf3
      clear hf3 hal
      go_wp2_with fail
      go_roundw
      case rel => exact ⟨k + 1, v4, by omega, by go_num, HF5.out⟩
      case measure => simp [intOf]; omega
    · have hkk : k = c.ds.length := by omega
      subst hkk
      clear hf
      obtain ⟨Lc, hLc⟩ : ∃ L, L = acc Lb nodeW c.ds c.ds.length := ⟨_, rfl⟩
      have hal := acc_len Lb nodeW c.ds c.ds.length
      rw [← hLc] at HFk hal
      have HLc := Lib.hid hLc
      have hlc : Lc.length ≤ 61 := by omega
      clear hLc hal
      obtain ⟨_, _, d2, _, _⟩ := (H1.out.2.1.below HFk.out.below hcw).five
      go_wp2_with fail
      go_loopw [49] (fun i Y => ∃ (k : Nat) (v : Value), k ≤ c.es.length ∧ i = .int .i64 k ∧ FSt W1 v (acc Lc edgeW c.es k) Y) (fun i _ => c.es.length - (intOf i).toNat)
      case atStart => exact ⟨0, _, Nat.zero_le _, rfl, by rw [acc_zero]; exact HFk.out⟩
      case round =>
        clear d2
        obtain ⟨k, v, hk, rfl, hf⟩ := hrel
        by_cases hlt : k < c.es.length
        · obtain ⟨t, ht⟩ : ∃ t, c.es[k]? = some t := ⟨c.es[k], by simp⟩
          obtain ⟨b, o, hA, hbb, y0, y1, y2⟩ := rec3_at (RecsAt.below H1.out.2.2.1.es hf.below) ht
          rw [hA]
          have hok := HFI.out.es t (List.mem_of_getElem? ht)
          unfold EdgeOk Idx at hok
          have hdl := HFI.out.dl
          obtain ⟨f0, f1, f2⟩ := fresh3 wr t 50
          have hbA : Below wr.heap.size wr (wr.alloc (.cells #[.int .i64 t.a, .int .i64 t.b, .int .i64 t.c] 50)) := (Below.refl _ _).alloc (Nat.le_refl _) _
          have hnA : wr.heap.size < (wr.alloc (.cells #[.int .i64 t.a, .int .i64 t.b, .int .i64 t.c] 50)).heap.size := by simp
          obtain ⟨YA, hYA⟩ : ∃ Y, Y = wr.alloc (.cells #[.int .i64 t.a, .int .i64 t.b, .int .i64 t.c] 50) := ⟨_, rfl⟩
          have hvn : ∀ q, v.ownBlock = some q → q ≠ wr.heap.size := fun q hq e => by have := hf.own.lt_size q hq; omega
          have hnb : wr.heap.size ≠ W1.heap.size := by have := hf.lt; omega
          have HT := Lib.hid ht
          obtain ⟨ta, tb', tc, rfl⟩ : ∃ a b c, t = ⟨a, b, c⟩ := ⟨t.a, t.b, t.c, rfl⟩
          dsimp only at y0 y1 y2 f0 f1 f2 hok hYA hbA hnA
          have HFA := Lib.hid (show FSt W1 v (acc Lc edgeW c.es k) YA from by rw [hYA]; exact hf.next hbA)
          have HNV := Lib.hid (And.intro hvn hnb)
          have HG := Lib.hid (show YA.cell? ⟨wr.heap.size, 0, none⟩ = some (.int .i64 ta) ∧ YA.cell? ⟨wr.heap.size, 1, none⟩ = some (.int .i64 tb') ∧ wr.heap.size < YA.heap.size from by rw [hYA]; exact ⟨f0, f1, hnA⟩)
          clear ht hf hA hbA hnA hvn hnb hbb
          by_cases htc : tc = 4611686018427387904
          · have e0 : (tc != 4611686018427387904) = false := by simp [htc]
            have HW := Lib.hid (show edgeW ⟨ta, tb', tc⟩ = [wEdge, dec ta, dec tb', wNever] from by simp [edgeW, timeT, htc])
            have HSH' := Lib.hid (show Shorts (edgeW ⟨ta, tb', tc⟩) from edge_short (by dsimp only; omega) (by dsimp only; omega) (by dsimp only; omega))
            clear htc
            go_wp2_with fail
            rw [← hYA]
            clear hYA y0 y1 y2 f0 f1 f2 e0
            obtain ⟨k0, k1, kl⟩ := HG.out
            refine wp_region_held_drew (S := fun Y => Y.cell? ⟨wr.heap.size, 0, none⟩ = some (.int .i64 ta) ∧ Y.cell? ⟨wr.heap.size, 1, none⟩ = some (.int .i64 tb')) (by kernel_rfl) ⟨k0, k1⟩ (fun hHeld => ?_)
            have HF0 := Lib.hid (show FSt W1 v (acc Lc edgeW c.es k) YA.drew from HFA.out.next (Below.refl _ _).drew)
            have kl0 : wr.heap.size < YA.drew.heap.size := kl
            obtain ⟨U0, hU0⟩ : ∃ U, U = YA.drew := ⟨_, rfl⟩
            rw [← hU0] at hHeld HF0 kl0 ⊢
            clear hU0 k0 k1 kl
            refine wpAnyH_take (i := 0) (v := .func (.func 32) #[] #[.pointer (some ⟨W1.heap.size, 0, none⟩)]) rfl (by kernel_rfl) (by kernel_rfl) (by kernel_rfl) (fun _ _ _ h => h) (Or.inl ⟨by rfl, ?_⟩) (by assumption) ?_
            · intro w hSw
              go_simp
            show wpAnyH _ _ _ _ _ _ _ (Act.put _ (some 59) _) _
            simp only [Act.put, List.setIfInBounds_toArray, List.set_cons_zero, List.set_cons_succ]
            refine wpAnyH_take (i := 1) (v := .pointer (some ⟨wr.heap.size, 0, none⟩)) rfl (by kernel_rfl) (by kernel_rfl) (by kernel_rfl) (fun _ _ _ h => h) (Or.inl ⟨by rfl, ?_⟩) (by assumption) ?_
            · intro w hSw
              go_simp
            show wpAnyH _ _ _ _ _ _ _ (Act.put _ (some 60) _) _
            simp only [Act.put, List.setIfInBounds_toArray, List.set_cons_zero, List.set_cons_succ]
            refine wpAnyH_take (i := 2) (v := .int .i64 ta) rfl (by kernel_rfl) (by kernel_rfl) (by kernel_rfl) (fun _ _ _ h => h) (Or.inl ⟨by rfl, ?_⟩) (by assumption) ?_
            · intro w hSw
              obtain ⟨s0, s1⟩ := hSw
              go_simp
            show wpAnyH _ _ _ _ _ _ _ (Act.put _ (some 61) _) _
            simp only [Act.put, List.setIfInBounds_toArray, List.set_cons_zero, List.set_cons_succ]
            refine wpAnyH_take (i := 4) (v := .pointer (some ⟨wr.heap.size, 1, none⟩)) rfl (by kernel_rfl) (by kernel_rfl) (by kernel_rfl) (fun _ _ _ h => h) (Or.inl ⟨by rfl, ?_⟩) (by assumption) ?_
            · intro w hSw
              go_simp
            show wpAnyH _ _ _ _ _ _ _ (Act.put _ (some 63) _) _
            simp only [Act.put, List.setIfInBounds_toArray, List.set_cons_zero, List.set_cons_succ]
            refine wpAnyH_take (i := 5) (v := .int .i64 tb') rfl (by kernel_rfl) (by kernel_rfl) (by kernel_rfl) (fun _ _ _ h => h) (Or.inl ⟨by rfl, ?_⟩) (by assumption) ?_
            · intro w hSw
              obtain ⟨s0, s1⟩ := hSw
              go_simp
            show wpAnyH _ _ _ _ _ _ _ (Act.put _ (some 64) _) _
            simp only [Act.put, List.setIfInBounds_toArray, List.set_cons_zero, List.set_cons_succ]
            refine wpAnyH_take (i := 7) (v := .string ⟨#[110, 101, 118, 101, 114]⟩) rfl (by kernel_rfl) (by kernel_rfl) (by kernel_rfl) (fun _ _ _ h => h) (Or.inl ⟨by rfl, ?_⟩) (by assumption) ?_
            · intro w hSw
              go_simp
            show wpAnyH _ _ _ _ _ _ _ (Act.put _ (some 66) _) _
            simp only [Act.put, List.setIfInBounds_toArray, List.set_cons_zero, List.set_cons_succ]
            refine wpAnyH_ready (rs := [3]) (by kernel_rfl) (by simp) ?_
            refine AllReadyH.cons rfl (fun K hK => ?_) AllReadyH.nil
            go_simp
            refine (itoaZ_any ta (by omega) (by omega) U0 (HRW.out _ HF0.out.below)).mono ?_
            rintro e U1 ⟨rfl, hbi⟩
            have HF1 := Lib.hid (HF0.out.next hbi)
            have kl1 := Nat.lt_of_lt_of_le kl0 hbi.size
            go_simp
            refine hK.out _ _ ⟨(hbi.cell (p := ⟨wr.heap.size, 0, none⟩) kl0).trans hHeld.1, (hbi.cell (p := ⟨wr.heap.size, 1, none⟩) kl0).trans hHeld.2⟩ (fun hHeld => ?_)
            clear hK K
            clear hbi
            refine wpAnyH_ready (rs := [6]) (by kernel_rfl) (by simp) ?_
            refine AllReadyH.cons rfl (fun K hK => ?_) AllReadyH.nil
            go_simp
            refine (itoaZ_any tb' (by omega) (by omega) U1 (HRW.out _ HF1.out.below)).mono ?_
            rintro e U2 ⟨rfl, hbi⟩
            have HF2 := Lib.hid (HF1.out.next hbi)
            have kl2 := Nat.lt_of_lt_of_le kl1 hbi.size
            go_simp
            refine hK.out _ _ ⟨(hbi.cell (p := ⟨wr.heap.size, 0, none⟩) kl1).trans hHeld.1, (hbi.cell (p := ⟨wr.heap.size, 1, none⟩) kl1).trans hHeld.2⟩ (fun hHeld => ?_)
            clear hK K
            clear hbi
            have HS0 := Lib.hid hHeld
            have hba : Below U2.heap.size U2 (U2.alloc (.cells #[.string ⟨#[101, 100, 103, 101]⟩, .string (bs (dec ta)), .string (bs (dec tb')), .string ⟨#[110, 101, 118, 101, 114]⟩] 9)) := (Below.refl _ _).alloc (Nat.le_refl _) _
            refine wpAnyH_ready (rs := [8]) (by kernel_rfl) (by simp) ?_
            refine AllReadyH.cons rfl (fun K hK => ?_) AllReadyH.nil
            go_simp
            refine hK.out _ _ ⟨(hba.cell (p := ⟨wr.heap.size, 0, none⟩) kl2).trans hHeld.1, (hba.cell (p := ⟨wr.heap.size, 1, none⟩) kl2).trans hHeld.2⟩ (fun hHeld => ?_)
            clear hK K
            have hS2 := hHeld
            clear hba
            refine wpAnyH_ready (rs := [9]) (by kernel_rfl) (by simp) ?_
            refine AllReadyH.cons rfl (fun K hK => ?_) AllReadyH.nil
            go_simp
            have hal := acc_len Lc edgeW c.es k
            refine (add_lit HF2.out (edgeW ⟨ta, tb', tc⟩) HSH'.out (by omega) _ (by rw [HW.out]; rfl) 4 rfl).mono ?_
            rintro e U4 ⟨rfl, v4, hf4, ho4, -⟩
            rw [acc_succ HT.out] at hf4
            have HF4 := Lib.hid hf4
            have hnS : ¬ fmtB W1 v wr.heap.size := fun e => e.elim (fun e => HNV.out.2 e) (fun e => HNV.out.1 _ e rfl)
            clear hf4 hal
            go_simp
            refine hK.out _ _ ⟨((ho4.cell (a := ⟨wr.heap.size, 0, none⟩) kl2 hnS).trans HS0.out.1), ((ho4.cell (a := ⟨wr.heap.size, 1, none⟩) kl2 hnS).trans HS0.out.2)⟩ (fun hHeld => ?_)
            clear hK K
            refine wpAnyH_done (by kernel_rfl) ?_ _
            go_wp2_with fail
            go_roundw
            case rel => exact ⟨k + 1, v4, by omega, by go_num, HF4.out⟩
            case measure => simp [intOf]; omega
          · have e0 : (tc != 4611686018427387904) = true := by simp [htc]
            have HW := Lib.hid (show edgeW ⟨ta, tb', tc⟩ = [wEdge, dec ta, dec tb', dec tc] from by simp [edgeW, timeT, htc])
            have HSH' := Lib.hid (show Shorts (edgeW ⟨ta, tb', tc⟩) from edge_short (by dsimp only; omega) (by dsimp only; omega) (by dsimp only; omega))
            have htr : 0 ≤ tc ∧ tc ≤ 1048576 := by omega
            clear htc
            go_wp2_with fail
            rw [← hYA]
            clear hYA y0 y1 y2 f0 f1 f2 e0
            refine (fmtZ_any tc (by omega) (by omega) YA (HRW.out _ HFA.out.below)).mono ?_
            rintro e YB ⟨rfl, hbB⟩
            have HFB := Lib.hid (HFA.out.next hbB)
            have HGB := Lib.hid (And.intro ((hbB.cell (p := ⟨wr.heap.size, 0, none⟩) HG.out.2.2).trans HG.out.1) (And.intro ((hbB.cell (p := ⟨wr.heap.size, 1, none⟩) HG.out.2.2).trans HG.out.2.1) (Nat.lt_of_lt_of_le HG.out.2.2 hbB.size)))
            clear hbB
            go_wp2_with fail
            obtain ⟨k0, k1, kl⟩ := HGB.out
            refine wp_region_held_drew (S := fun Y => Y.cell? ⟨wr.heap.size, 0, none⟩ = some (.int .i64 ta) ∧ Y.cell? ⟨wr.heap.size, 1, none⟩ = some (.int .i64 tb')) (by kernel_rfl) ⟨k0, k1⟩ (fun hHeld => ?_)
            have HF0 := Lib.hid (show FSt W1 v (acc Lc edgeW c.es k) YB.drew from HFB.out.next (Below.refl _ _).drew)
            have kl0 : wr.heap.size < YB.drew.heap.size := kl
            obtain ⟨U0, hU0⟩ : ∃ U, U = YB.drew := ⟨_, rfl⟩
            rw [← hU0] at hHeld HF0 kl0 ⊢
            clear hU0 k0 k1 kl
            refine wpAnyH_take (i := 0) (v := .func (.func 32) #[] #[.pointer (some ⟨W1.heap.size, 0, none⟩)]) rfl (by kernel_rfl) (by kernel_rfl) (by kernel_rfl) (fun _ _ _ h => h) (Or.inl ⟨by rfl, ?_⟩) (by assumption) ?_
            · intro w hSw
              go_simp
            show wpAnyH _ _ _ _ _ _ _ (Act.put _ (some 59) _) _
            simp only [Act.put, List.setIfInBounds_toArray, List.set_cons_zero, List.set_cons_succ]
            refine wpAnyH_take (i := 1) (v := .pointer (some ⟨wr.heap.size, 0, none⟩)) rfl (by kernel_rfl) (by kernel_rfl) (by kernel_rfl) (fun _ _ _ h => h) (Or.inl ⟨by rfl, ?_⟩) (by assumption) ?_
            · intro w hSw
              go_simp
            show wpAnyH _ _ _ _ _ _ _ (Act.put _ (some 60) _) _
            simp only [Act.put, List.setIfInBounds_toArray, List.set_cons_zero, List.set_cons_succ]
            refine wpAnyH_take (i := 2) (v := .int .i64 ta) rfl (by kernel_rfl) (by kernel_rfl) (by kernel_rfl) (fun _ _ _ h => h) (Or.inl ⟨by rfl, ?_⟩) (by assumption) ?_
            · intro w hSw
              obtain ⟨s0, s1⟩ := hSw
              go_simp
            show wpAnyH _ _ _ _ _ _ _ (Act.put _ (some 61) _) _
            simp only [Act.put, List.setIfInBounds_toArray, List.set_cons_zero, List.set_cons_succ]
            refine wpAnyH_take (i := 4) (v := .pointer (some ⟨wr.heap.size, 1, none⟩)) rfl (by kernel_rfl) (by kernel_rfl) (by kernel_rfl) (fun _ _ _ h => h) (Or.inl ⟨by rfl, ?_⟩) (by assumption) ?_
            · intro w hSw
              go_simp
            show wpAnyH _ _ _ _ _ _ _ (Act.put _ (some 63) _) _
            simp only [Act.put, List.setIfInBounds_toArray, List.set_cons_zero, List.set_cons_succ]
            refine wpAnyH_take (i := 5) (v := .int .i64 tb') rfl (by kernel_rfl) (by kernel_rfl) (by kernel_rfl) (fun _ _ _ h => h) (Or.inl ⟨by rfl, ?_⟩) (by assumption) ?_
            · intro w hSw
              obtain ⟨s0, s1⟩ := hSw
              go_simp
            show wpAnyH _ _ _ _ _ _ _ (Act.put _ (some 64) _) _
            simp only [Act.put, List.setIfInBounds_toArray, List.set_cons_zero, List.set_cons_succ]
            refine wpAnyH_take (i := 7) (v := .string (bs (dec tc))) rfl (by kernel_rfl) (by kernel_rfl) (by kernel_rfl) (fun _ _ _ h => h) (Or.inl ⟨by rfl, ?_⟩) (by assumption) ?_
            · intro w hSw
              go_simp
            show wpAnyH _ _ _ _ _ _ _ (Act.put _ (some 66) _) _
            simp only [Act.put, List.setIfInBounds_toArray, List.set_cons_zero, List.set_cons_succ]
            refine wpAnyH_ready (rs := [3]) (by kernel_rfl) (by simp) ?_
            refine AllReadyH.cons rfl (fun K hK => ?_) AllReadyH.nil
            go_simp
            refine (itoaZ_any ta (by omega) (by omega) U0 (HRW.out _ HF0.out.below)).mono ?_
            rintro e U1 ⟨rfl, hbi⟩
            have HF1 := Lib.hid (HF0.out.next hbi)
            have kl1 := Nat.lt_of_lt_of_le kl0 hbi.size
            go_simp
            refine hK.out _ _ ⟨(hbi.cell (p := ⟨wr.heap.size, 0, none⟩) kl0).trans hHeld.1, (hbi.cell (p := ⟨wr.heap.size, 1, none⟩) kl0).trans hHeld.2⟩ (fun hHeld => ?_)
            clear hK K
            clear hbi
            refine wpAnyH_ready (rs := [6]) (by kernel_rfl) (by simp) ?_
            refine AllReadyH.cons rfl (fun K hK => ?_) AllReadyH.nil
            go_simp
            refine (itoaZ_any tb' (by omega) (by omega) U1 (HRW.out _ HF1.out.below)).mono ?_
            rintro e U2 ⟨rfl, hbi⟩
            have HF2 := Lib.hid (HF1.out.next hbi)
            have kl2 := Nat.lt_of_lt_of_le kl1 hbi.size
            go_simp
            refine hK.out _ _ ⟨(hbi.cell (p := ⟨wr.heap.size, 0, none⟩) kl1).trans hHeld.1, (hbi.cell (p := ⟨wr.heap.size, 1, none⟩) kl1).trans hHeld.2⟩ (fun hHeld => ?_)
            clear hK K
            clear hbi
            have HS0 := Lib.hid hHeld
            have hba : Below U2.heap.size U2 (U2.alloc (.cells #[.string ⟨#[101, 100, 103, 101]⟩, .string (bs (dec ta)), .string (bs (dec tb')), .string (bs (dec tc))] 9)) := (Below.refl _ _).alloc (Nat.le_refl _) _
            refine wpAnyH_ready (rs := [8]) (by kernel_rfl) (by simp) ?_
            refine AllReadyH.cons rfl (fun K hK => ?_) AllReadyH.nil
            go_simp
            refine hK.out _ _ ⟨(hba.cell (p := ⟨wr.heap.size, 0, none⟩) kl2).trans hHeld.1, (hba.cell (p := ⟨wr.heap.size, 1, none⟩) kl2).trans hHeld.2⟩ (fun hHeld => ?_)
            clear hK K
            have hS2 := hHeld
            clear hba
            refine wpAnyH_ready (rs := [9]) (by kernel_rfl) (by simp) ?_
            refine AllReadyH.cons rfl (fun K hK => ?_) AllReadyH.nil
            go_simp
            have hal := acc_len Lc edgeW c.es k
            refine (add_lit HF2.out (edgeW ⟨ta, tb', tc⟩) HSH'.out (by omega) _ (by rw [HW.out]; rfl) 4 rfl).mono ?_
            rintro e U4 ⟨rfl, v4, hf4, ho4, -⟩
            rw [acc_succ HT.out] at hf4
            have HF4 := Lib.hid hf4
            have hnS : ¬ fmtB W1 v wr.heap.size := fun e => e.elim (fun e => HNV.out.2 e) (fun e => HNV.out.1 _ e rfl)
            clear hf4 hal
            go_simp
            refine hK.out _ _ ⟨((ho4.cell (a := ⟨wr.heap.size, 0, none⟩) kl2 hnS).trans HS0.out.1), ((ho4.cell (a := ⟨wr.heap.size, 1, none⟩) kl2 hnS).trans HS0.out.2)⟩ (fun hHeld => ?_)
            clear hK K
            refine wpAnyH_done (by kernel_rfl) ?_ _
            go_wp2_with fail
            go_roundw
            case rel => exact ⟨k + 1, v4, by omega, by go_num, HF4.out⟩
            case measure => simp [intOf]; omega
        · have hkk : k = c.es.length := by omega
          subst hkk
          have HFk := Lib.hid hf
          clear hf
          obtain ⟨Ld, hLd⟩ : ∃ L, L = acc Lc edgeW c.es c.es.length := ⟨_, rfl⟩
          have hal := acc_len Lc edgeW c.es c.es.length
          rw [← hLd] at HFk hal
          have HLd := Lib.hid hLd
          have hld : Ld.length ≤ 121 := by omega
          clear hLd hal
          obtain ⟨-, -, -, d3, -⟩ := (H1.out.2.1.below HFk.out.below hcw).five
          go_wp2_with fail
          go_loopw [73] (fun i Y => ∃ (k : Nat) (v : Value), k ≤ c.us.length ∧ i = .int .i64 k ∧ FSt W1 v (acc Ld unitW c.us k) Y) (fun i _ => c.us.length - (intOf i).toNat)
          case atStart => exact ⟨0, _, Nat.zero_le _, rfl, by rw [acc_zero]; exact HFk.out⟩
          case round =>
            clear d3
            obtain ⟨k, v, hk, rfl, hf⟩ := hrel
            by_cases hlt : k < c.us.length
            · obtain ⟨t, ht⟩ : ∃ t, c.us[k]? = some t := ⟨c.us[k], by simp⟩
              obtain ⟨b, o, hA, hbb, y0, y1, y2⟩ := rec3_at (RecsAt.below H1.out.2.2.1.us hf.below) ht
              rw [hA]
              have hok := HFI.out.us t (List.mem_of_getElem? ht)
              have HKO := Lib.hid hok.1
              unfold UnitOk Idx KindOk at hok
              have hdl := HFI.out.dl
              obtain ⟨f0, f1, f2⟩ := fresh3 wr t 53
              have hbA : Below wr.heap.size wr (wr.alloc (.cells #[.int .i64 t.a, .int .i64 t.b, .int .i64 t.c] 53)) := (Below.refl _ _).alloc (Nat.le_refl _) _
              have hnA : wr.heap.size < (wr.alloc (.cells #[.int .i64 t.a, .int .i64 t.b, .int .i64 t.c] 53)).heap.size := by simp
              obtain ⟨YA, hYA⟩ : ∃ Y, Y = wr.alloc (.cells #[.int .i64 t.a, .int .i64 t.b, .int .i64 t.c] 53) := ⟨_, rfl⟩
              have hvn : ∀ q, v.ownBlock = some q → q ≠ wr.heap.size := fun q hq e => by have := hf.own.lt_size q hq; omega
              have hnb : wr.heap.size ≠ W1.heap.size := by have := hf.lt; omega
              have HT := Lib.hid ht
              obtain ⟨ta, tb', tc, rfl⟩ : ∃ a b c, t = ⟨a, b, c⟩ := ⟨t.a, t.b, t.c, rfl⟩
              dsimp only at y0 y1 y2 f0 f1 f2 hok hYA hbA hnA HKO
              have HFA := Lib.hid (show FSt W1 v (acc Ld unitW c.us k) YA from by rw [hYA]; exact hf.next hbA)
              have HNV := Lib.hid (And.intro hvn hnb)
              have HG := Lib.hid (show YA.cell? ⟨wr.heap.size, 0, none⟩ = some (.int .i64 ta) ∧ YA.cell? ⟨wr.heap.size, 1, none⟩ = some (.int .i64 tb') ∧ YA.cell? ⟨wr.heap.size, 2, none⟩ = some (.int .i64 tc) ∧ wr.heap.size < YA.heap.size from by rw [hYA]; exact ⟨f0, f1, f2, hnA⟩)
              have HW := Lib.hid (show unitW ⟨ta, tb', tc⟩ = [wUnit, kindName ta, dec tb', dec tc] from rfl)
              have HSH' := Lib.hid (show Shorts (unitW ⟨ta, tb', tc⟩) from unit_short (by dsimp only; omega) (by dsimp only; omega))
              have HNM : Hid (∀ Y, Below W1.heap.size W1 Y → Y.cell? ⟨0, ta.toNat - 1, none⟩ = some (.string (bs (kindName ta)))) := Lib.hid (fun Y hY => by rw [show ta.toNat - 1 = (ta - 1).toNat by omega]; exact (HRW.out Y hY).n.at HKO.out)
              have hwk : IntKind.i64.wrap (ta - 1) = ta - 1 := IntWalk.i64_in _ (by omega)
              have hk0 : (0 : Int) ≤ ta - 1 := by omega
              have hk4 : ta - 1 < 4 := by omega
              clear ht hf hA hbA hnA hvn hnb hbb
              go_wp2_with fail
              rw [← hYA]
              clear hYA y0 y1 y2 f0 f1 f2
              obtain ⟨k0, k1, k2, kl⟩ := HG.out
              refine wp_region_held_drew (S := fun Y => Y.cell? ⟨wr.heap.size, 0, none⟩ = some (.int .i64 ta) ∧ Y.cell? ⟨wr.heap.size, 1, none⟩ = some (.int .i64 tb') ∧ Y.cell? ⟨wr.heap.size, 2, none⟩ = some (.int .i64 tc) ∧ Y.cell? ⟨0, ta.toNat - 1, none⟩ = some (.string (bs (kindName ta)))) (by kernel_rfl) ⟨k0, k1, k2, HNM.out YA HFA.out.below⟩ (fun hHeld => ?_)
              have HF0 := Lib.hid (show FSt W1 v (acc Ld unitW c.us k) YA.drew from HFA.out.next (Below.refl _ _).drew)
              have kl0 : wr.heap.size < YA.drew.heap.size := kl
              obtain ⟨U0, hU0⟩ : ∃ U, U = YA.drew := ⟨_, rfl⟩
              rw [← hU0] at hHeld HF0 kl0 ⊢
              clear hU0 k0 k1 k2 kl
              refine wpAnyH_take (i := 0) (v := .func (.func 32) #[] #[.pointer (some ⟨W1.heap.size, 0, none⟩)]) rfl (by kernel_rfl) (by kernel_rfl) (by kernel_rfl) (fun _ _ _ h => h) (Or.inl ⟨by rfl, ?_⟩) (by assumption) ?_
              · intro w hSw
                go_simp
              show wpAnyH _ _ _ _ _ _ _ (Act.put _ (some 77) _) _
              simp only [Act.put, List.setIfInBounds_toArray, List.set_cons_zero, List.set_cons_succ]
              refine wpAnyH_take (i := 1) (v := .pointer (some ⟨wr.heap.size, 0, none⟩)) rfl (by kernel_rfl) (by kernel_rfl) (by kernel_rfl) (fun _ _ _ h => h) (Or.inl ⟨by rfl, ?_⟩) (by assumption) ?_
              · intro w hSw
                go_simp
              show wpAnyH _ _ _ _ _ _ _ (Act.put _ (some 78) _) _
              simp only [Act.put, List.setIfInBounds_toArray, List.set_cons_zero, List.set_cons_succ]
              refine wpAnyH_take (i := 2) (v := .int .i64 ta) rfl (by kernel_rfl) (by kernel_rfl) (by kernel_rfl) (fun _ _ _ h => h) (Or.inl ⟨by rfl, ?_⟩) (by assumption) ?_
              · intro w hSw
                obtain ⟨s0, s1, s2, s3⟩ := hSw
                go_simp
              show wpAnyH _ _ _ _ _ _ _ (Act.put _ (some 79) _) _
              simp only [Act.put, List.setIfInBounds_toArray, List.set_cons_zero, List.set_cons_succ]
              refine wpAnyH_take (i := 3) (v := .int .i64 (ta - 1)) rfl (by kernel_rfl) (by kernel_rfl) (by kernel_rfl) (fun _ _ _ h => h) (Or.inl ⟨by rfl, ?_⟩) (by assumption) ?_
              · intro w hSw
                go_simp
              show wpAnyH _ _ _ _ _ _ _ (Act.put _ (some 80) _) _
              simp only [Act.put, List.setIfInBounds_toArray, List.set_cons_zero, List.set_cons_succ]
              refine wpAnyH_take (i := 4) (v := .pointer (some ⟨0, ta.toNat - 1, none⟩)) rfl (by kernel_rfl) (by kernel_rfl) (by kernel_rfl) (fun _ _ _ h => h) (Or.inl ⟨by rfl, ?_⟩) (by assumption) ?_
              · intro w hSw
                go_simp
              show wpAnyH _ _ _ _ _ _ _ (Act.put _ (some 81) _) _
              simp only [Act.put, List.setIfInBounds_toArray, List.set_cons_zero, List.set_cons_succ]
              refine wpAnyH_take (i := 5) (v := .string (bs (kindName ta))) rfl (by kernel_rfl) (by kernel_rfl) (by kernel_rfl) (fun _ _ _ h => h) (Or.inl ⟨by rfl, ?_⟩) (by assumption) ?_
              · intro w hSw
                obtain ⟨s0, s1, s2, s3⟩ := hSw
                go_simp
              show wpAnyH _ _ _ _ _ _ _ (Act.put _ (some 82) _) _
              simp only [Act.put, List.setIfInBounds_toArray, List.set_cons_zero, List.set_cons_succ]
              refine wpAnyH_take (i := 6) (v := .pointer (some ⟨wr.heap.size, 1, none⟩)) rfl (by kernel_rfl) (by kernel_rfl) (by kernel_rfl) (fun _ _ _ h => h) (Or.inl ⟨by rfl, ?_⟩) (by assumption) ?_
              · intro w hSw
                go_simp
              show wpAnyH _ _ _ _ _ _ _ (Act.put _ (some 83) _) _
              simp only [Act.put, List.setIfInBounds_toArray, List.set_cons_zero, List.set_cons_succ]
              refine wpAnyH_take (i := 7) (v := .int .i64 tb') rfl (by kernel_rfl) (by kernel_rfl) (by kernel_rfl) (fun _ _ _ h => h) (Or.inl ⟨by rfl, ?_⟩) (by assumption) ?_
              · intro w hSw
                obtain ⟨s0, s1, s2, s3⟩ := hSw
                go_simp
              show wpAnyH _ _ _ _ _ _ _ (Act.put _ (some 84) _) _
              simp only [Act.put, List.setIfInBounds_toArray, List.set_cons_zero, List.set_cons_succ]
              refine wpAnyH_take (i := 9) (v := .pointer (some ⟨wr.heap.size, 2, none⟩)) rfl (by kernel_rfl) (by kernel_rfl) (by kernel_rfl) (fun _ _ _ h => h) (Or.inl ⟨by rfl, ?_⟩) (by assumption) ?_
              · intro w hSw
                go_simp
              show wpAnyH _ _ _ _ _ _ _ (Act.put _ (some 86) _) _
              simp only [Act.put, List.setIfInBounds_toArray, List.set_cons_zero, List.set_cons_succ]
              refine wpAnyH_take (i := 10) (v := .int .i64 tc) rfl (by kernel_rfl) (by kernel_rfl) (by kernel_rfl) (fun _ _ _ h => h) (Or.inl ⟨by rfl, ?_⟩) (by assumption) ?_
              · intro w hSw
                obtain ⟨s0, s1, s2, s3⟩ := hSw
                go_simp
              show wpAnyH _ _ _ _ _ _ _ (Act.put _ (some 87) _) _
              simp only [Act.put, List.setIfInBounds_toArray, List.set_cons_zero, List.set_cons_succ]
              refine wpAnyH_ready (rs := [8]) (by kernel_rfl) (by simp) ?_
              refine AllReadyH.cons rfl (fun K hK => ?_) AllReadyH.nil
              go_simp
              refine (itoaZ_any tb' (by omega) (by omega) U0 (HRW.out _ HF0.out.below)).mono ?_
              rintro e U1 ⟨rfl, hbi⟩
              have HF1 := Lib.hid (HF0.out.next hbi)
              have kl1 := Nat.lt_of_lt_of_le kl0 hbi.size
              go_simp
              refine hK.out _ _ ⟨(hbi.cell (p := ⟨wr.heap.size, 0, none⟩) kl0).trans hHeld.1, (hbi.cell (p := ⟨wr.heap.size, 1, none⟩) kl0).trans hHeld.2.1, (hbi.cell (p := ⟨wr.heap.size, 2, none⟩) kl0).trans hHeld.2.2.1, HNM.out _ HF1.out.below⟩ (fun hHeld => ?_)
              clear hK K
              clear hbi
              refine wpAnyH_ready (rs := [11]) (by kernel_rfl) (by simp) ?_
              refine AllReadyH.cons rfl (fun K hK => ?_) AllReadyH.nil
              go_simp
              refine (itoaZ_any tc (by omega) (by omega) U1 (HRW.out _ HF1.out.below)).mono ?_
              rintro e U2 ⟨rfl, hbi⟩
              have HF2 := Lib.hid (HF1.out.next hbi)
              have kl2 := Nat.lt_of_lt_of_le kl1 hbi.size
              go_simp
              refine hK.out _ _ ⟨(hbi.cell (p := ⟨wr.heap.size, 0, none⟩) kl1).trans hHeld.1, (hbi.cell (p := ⟨wr.heap.size, 1, none⟩) kl1).trans hHeld.2.1, (hbi.cell (p := ⟨wr.heap.size, 2, none⟩) kl1).trans hHeld.2.2.1, HNM.out _ HF2.out.below⟩ (fun hHeld => ?_)
              clear hK K
              clear hbi
              have HS0 := Lib.hid hHeld
              have hba : Below U2.heap.size U2 (U2.alloc (.cells #[.string ⟨#[117, 110, 105, 116]⟩, .string (bs (kindName ta)), .string (bs (dec tb')), .string (bs (dec tc))] 9)) := (Below.refl _ _).alloc (Nat.le_refl _) _
              refine wpAnyH_ready (rs := [12]) (by kernel_rfl) (by simp) ?_
              refine AllReadyH.cons rfl (fun K hK => ?_) AllReadyH.nil
              go_simp
              refine hK.out _ _ ⟨(hba.cell (p := ⟨wr.heap.size, 0, none⟩) kl2).trans hHeld.1, (hba.cell (p := ⟨wr.heap.size, 1, none⟩) kl2).trans hHeld.2.1, (hba.cell (p := ⟨wr.heap.size, 2, none⟩) kl2).trans hHeld.2.2.1, HNM.out _ (HF2.out.next hba).below⟩ (fun hHeld => ?_)
              clear hK K
              clear hba
              refine wpAnyH_ready (rs := [13]) (by kernel_rfl) (by simp) ?_
              refine AllReadyH.cons rfl (fun K hK => ?_) AllReadyH.nil
              go_simp
              have hal := acc_len Ld unitW c.us k
              refine (add_lit HF2.out (unitW ⟨ta, tb', tc⟩) HSH'.out (by omega) _ (by rw [HW.out]; rfl) 4 rfl).mono ?_
              rintro e U4 ⟨rfl, v4, hf4, ho4, -⟩
              rw [acc_succ HT.out] at hf4
              have HF4 := Lib.hid hf4
              have hnS : ¬ fmtB W1 v wr.heap.size := fun e => e.elim (fun e => HNV.out.2 e) (fun e => HNV.out.1 _ e rfl)
              clear hf4 hal
              go_simp
              refine hK.out _ _ ⟨((ho4.cell (a := ⟨wr.heap.size, 0, none⟩) kl2 hnS).trans HS0.out.1), ((ho4.cell (a := ⟨wr.heap.size, 1, none⟩) kl2 hnS).trans HS0.out.2.1), ((ho4.cell (a := ⟨wr.heap.size, 2, none⟩) kl2 hnS).trans HS0.out.2.2.1), HNM.out _ HF4.out.below⟩ (fun hHeld => ?_)
              clear hK K
              refine wpAnyH_done (by kernel_rfl) ?_ _
              go_wp2_with fail
              go_roundw
              case rel => exact ⟨k + 1, v4, by omega, by go_num, HF4.out⟩
              case measure => simp [intOf]; omega
            · have hkk : k = c.us.length := by omega
              subst hkk
              have HFk := Lib.hid hf
              clear hf
              obtain ⟨Le, hLe⟩ : ∃ L, L = acc Ld unitW c.us c.us.length := ⟨_, rfl⟩
              have hal := acc_len Ld unitW c.us c.us.length
              rw [← hLe] at HFk hal
              have HLe := Lib.hid hLe
              have hle : Le.length ≤ 181 := by omega
              clear hLe hal
              obtain ⟨-, -, -, -, d4⟩ := (H1.out.2.1.below HFk.out.below hcw).five
              go_wp2_with fail
              go_loopw [95] (fun i Y => ∃ (k : Nat) (v : Value), k ≤ c.pl.length ∧ i = .int .i64 k ∧ FSt W1 v (acc Le planW c.pl k) Y) (fun i _ => c.pl.length - (intOf i).toNat)
              case atStart => exact ⟨0, _, Nat.zero_le _, rfl, by rw [acc_zero]; exact HFk.out⟩
              case round =>
                clear d4
                obtain ⟨k, v, hk, rfl, hf⟩ := hrel
                by_cases hlt : k < c.pl.length
                · obtain ⟨p, hp⟩ : ∃ t, c.pl[k]? = some t := ⟨c.pl[k], by simp⟩
                  obtain ⟨⟨b, o, hA, hbb, y0, y1, y2, yk⟩, hwf⟩ := (H1.out.2.2.1.pl.below hf.below) k p hp
                  rw [hA]
                  have HOK := Lib.hid (HFI.out.plan hp)
                  have hu := HOK.out.2.1
                  have hkl := HOK.out.2.2.1
                  have hbA : Below wr.heap.size wr (wr.alloc (.cells #[.string p.code, .int .i64 p.urg, .slice p.kA p.kinds.length p.kc] 43)) := (Below.refl _ _).alloc (Nat.le_refl _) _
                  have hnA : wr.heap.size < (wr.alloc (.cells #[.string p.code, .int .i64 p.urg, .slice p.kA p.kinds.length p.kc] 43)).heap.size := by simp
                  have f0 : (wr.alloc (.cells #[.string p.code, .int .i64 p.urg, .slice p.kA p.kinds.length p.kc] 43)).cell? ⟨wr.heap.size, 0, none⟩ = some (.string p.code) := by rw [World.cell?_alloc_at (hn := rfl)]; rfl
                  have f1 : (wr.alloc (.cells #[.string p.code, .int .i64 p.urg, .slice p.kA p.kinds.length p.kc] 43)).cell? ⟨wr.heap.size, 1, none⟩ = some (.int .i64 p.urg) := by rw [World.cell?_alloc_at (hn := rfl)]; rfl
                  have f2 : (wr.alloc (.cells #[.string p.code, .int .i64 p.urg, .slice p.kA p.kinds.length p.kc] 43)).cell? ⟨wr.heap.size, 2, none⟩ = some (.slice p.kA p.kinds.length p.kc) := by rw [World.cell?_alloc_at (hn := rfl)]; rfl
                  obtain ⟨YA, hYA⟩ : ∃ Y, Y = wr.alloc (.cells #[.string p.code, .int .i64 p.urg, .slice p.kA p.kinds.length p.kc] 43) := ⟨_, rfl⟩
                  have hvn : ∀ q, v.ownBlock = some q → q < wr.heap.size := fun q hq => hf.own.lt_size q hq
                  have hnb : W1.heap.size < wr.heap.size := hf.lt
                  have HT := Lib.hid hp
                  have HFA := Lib.hid (show FSt W1 v (acc Le planW c.pl k) YA from by rw [hYA]; exact hf.next hbA)
                  have HNV := Lib.hid (And.intro hvn hnb)
                  have HG := Lib.hid (show YA.cell? ⟨wr.heap.size, 0, none⟩ = some (.string p.code) ∧ YA.cell? ⟨wr.heap.size, 1, none⟩ = some (.int .i64 p.urg) ∧ YA.cell? ⟨wr.heap.size, 2, none⟩ = some (.slice p.kA p.kinds.length p.kc) ∧ wr.heap.size < YA.heap.size from by rw [hYA]; exact ⟨f0, f1, f2, hnA⟩)
                  clear hp hf hA hbA hnA hvn hnb hbb yk hwf
                  go_wp2_with fail
                  rw [← hYA]
                  clear hYA y0 y1 y2 f0 f1 f2
                  obtain ⟨k0, k1, k2, kl⟩ := HG.out
                  refine wp_region_held_drew (S := fun Y => Y.cell? ⟨wr.heap.size, 0, none⟩ = some (.string p.code) ∧ Y.cell? ⟨wr.heap.size, 1, none⟩ = some (.int .i64 p.urg) ∧ Y.cell? ⟨wr.heap.size, 2, none⟩ = some (.slice p.kA p.kinds.length p.kc)) (by kernel_rfl) ⟨k0, k1, k2⟩ (fun hHeld => ?_)
                  have HF0 := Lib.hid (show FSt W1 v (acc Le planW c.pl k) YA.drew from HFA.out.next (Below.refl _ _).drew)
                  have kl0 : wr.heap.size < YA.drew.heap.size := kl
                  obtain ⟨U0, hU0⟩ : ∃ U, U = YA.drew := ⟨_, rfl⟩
                  rw [← hU0] at hHeld HF0 kl0 ⊢
                  clear hU0 k0 k1 k2 kl
                  refine wpAnyH_take (i := 0) (v := .pointer (some ⟨wr.heap.size, 0, none⟩)) rfl (by kernel_rfl) (by kernel_rfl) (by kernel_rfl) (fun _ _ _ h => h) (Or.inl ⟨by rfl, ?_⟩) (by assumption) ?_
                  · intro w hSw
                    go_simp
                  show wpAnyH _ _ _ _ _ _ _ (Act.put _ (some 99) _) _
                  simp only [Act.put, List.setIfInBounds_toArray, List.set_cons_zero, List.set_cons_succ]
                  refine wpAnyH_take (i := 1) (v := .string p.code) rfl (by kernel_rfl) (by kernel_rfl) (by kernel_rfl) (fun _ _ _ h => h) (Or.inl ⟨by rfl, ?_⟩) (by assumption) ?_
                  · intro w hSw
                    obtain ⟨s0, s1, s2⟩ := hSw
                    go_simp
                  show wpAnyH _ _ _ _ _ _ _ (Act.put _ (some 100) _) _
                  simp only [Act.put, List.setIfInBounds_toArray, List.set_cons_zero, List.set_cons_succ]
                  refine wpAnyH_take (i := 2) (v := .pointer (some ⟨wr.heap.size, 1, none⟩)) rfl (by kernel_rfl) (by kernel_rfl) (by kernel_rfl) (fun _ _ _ h => h) (Or.inl ⟨by rfl, ?_⟩) (by assumption) ?_
                  · intro w hSw
                    go_simp
                  show wpAnyH _ _ _ _ _ _ _ (Act.put _ (some 101) _) _
                  simp only [Act.put, List.setIfInBounds_toArray, List.set_cons_zero, List.set_cons_succ]
                  refine wpAnyH_take (i := 3) (v := .int .i64 p.urg) rfl (by kernel_rfl) (by kernel_rfl) (by kernel_rfl) (fun _ _ _ h => h) (Or.inl ⟨by rfl, ?_⟩) (by assumption) ?_
                  · intro w hSw
                    obtain ⟨s0, s1, s2⟩ := hSw
                    go_simp
                  show wpAnyH _ _ _ _ _ _ _ (Act.put _ (some 102) _) _
                  simp only [Act.put, List.setIfInBounds_toArray, List.set_cons_zero, List.set_cons_succ]
                  refine wpAnyH_ready (rs := [4]) (by kernel_rfl) (by simp) ?_
                  refine AllReadyH.cons rfl (fun K hK => ?_) AllReadyH.nil
                  go_simp
                  refine (itoaZ_any p.urg (by omega) (by omega) U0 (HRW.out _ HF0.out.below)).mono ?_
                  rintro e U1 ⟨rfl, hbi⟩
                  have HF1 := Lib.hid (HF0.out.next hbi)
                  have kl1 := Nat.lt_of_lt_of_le kl0 hbi.size
                  go_simp
                  refine hK.out _ _ ⟨(hbi.cell (p := ⟨wr.heap.size, 0, none⟩) kl0).trans hHeld.1, (hbi.cell (p := ⟨wr.heap.size, 1, none⟩) kl0).trans hHeld.2.1, (hbi.cell (p := ⟨wr.heap.size, 2, none⟩) kl0).trans hHeld.2.2⟩ (fun hHeld => ?_)
                  clear hK K
                  clear hbi
                  have hba : Below U1.heap.size U1 (U1.alloc (.cells #[.string ⟨#[112, 108, 97, 110]⟩, .string p.code, .string (bs (dec p.urg))] 9)) := (Below.refl _ _).alloc (Nat.le_refl _) _
                  have hown : OwnV strV (U1.alloc (.cells #[.string ⟨#[112, 108, 97, 110]⟩, .string p.code, .string (bs (dec p.urg))] 9)) U1.heap.size 9 (.slice (some ⟨U1.heap.size, 0, none⟩) 3 3) (wordsK p 0) := OwnV.lit U1 U1.heap.size 9 (wordsK p 0) rfl (Nat.le_refl _) (by simp [wordsK]) _ (words0_cells p)
                  refine wpAnyH_ready (rs := [5]) (by kernel_rfl) (by simp) ?_
                  refine AllReadyH.cons rfl (fun K hK => ?_) AllReadyH.nil
                  go_simp
                  refine hK.out _ _ ⟨(hba.cell (p := ⟨wr.heap.size, 0, none⟩) kl1).trans hHeld.1, (hba.cell (p := ⟨wr.heap.size, 1, none⟩) kl1).trans hHeld.2.1, (hba.cell (p := ⟨wr.heap.size, 2, none⟩) kl1).trans hHeld.2.2⟩ (fun hHeld => ?_)
                  clear hK K
                  refine wpAnyH_take (i := 6) (v := .slice (some ⟨U1.heap.size, 0, none⟩) 3 3) rfl (by kernel_rfl) (by kernel_rfl) (by kernel_rfl) (fun _ _ _ h => h) (Or.inl ⟨by rfl, ?_⟩) (by assumption) ?_
                  · intro w hSw
                    go_simp
                  show wpAnyH _ _ _ _ _ _ _ (Act.put _ (some 15) _) _
                  simp only [Act.put, List.setIfInBounds_toArray, List.set_cons_zero, List.set_cons_succ]
                  refine wpAnyH_done (by kernel_rfl) ?_ _
                  have HF2 := Lib.hid (HF1.out.next hba)
                  have HOWN := Lib.hid hown
                  have g2 := hHeld.2.2
                  obtain ⟨U2, hU2⟩ : ∃ U, U = U1.alloc (.cells #[.string ⟨#[112, 108, 97, 110]⟩, .string p.code, .string (bs (dec p.urg))] 9) := ⟨_, rfl⟩
                  rw [← hU2] at HF2 HOWN g2 ⊢
                  have hN2 : U1.heap.size ≤ U2.heap.size := by rw [hU2]; exact hba.size
                  clear hU2 hba hown hHeld
                  have hvN : W1.heap.size < U1.heap.size ∧ ∀ q, v.ownBlock = some q → q < U1.heap.size := ⟨Nat.lt_trans HNV.out.2 kl1, fun q hq => Nat.lt_trans (HNV.out.1 q hq) kl1⟩
                  have HVN := Lib.hid hvN
                  have HN := Lib.hid hN2
                  clear hvN kl0 kl1 hN2
                  go_wp2_with fail
                  go_loopw [15, 108] (fun u jv Y => ∃ j : Nat, j ≤ p.kinds.length ∧ jv = .int .i64 j ∧ OwnV strV Y U1.heap.size 9 u (wordsK p j) ∧ U1.heap.size ≤ Y.heap.size ∧ FSt W1 v (acc Le planW c.pl k) Y) (fun _ jv _ => p.kinds.length - (intOf jv).toNat)
                  case atStart => exact ⟨0, Nat.zero_le _, rfl, HOWN.out, HN.out, HF2.out⟩
                  case round =>
                    clear g2
                    obtain ⟨j, hj, rfl, hown, hNr, hf⟩ := hrel
                    have HFJ := Lib.hid (And.intro hf hNr)
                    have hwl := wordsK_len p j
                    by_cases hjt : j < p.kinds.length
                    · obtain ⟨z, hz⟩ : ∃ z, p.kinds[j]? = some z := ⟨p.kinds[j], by simp⟩
                      have hkb := HOK.out.2.2.2 z (List.mem_of_getElem? hz)
                      have hnm := (HRW.out _ hf.below).n.at hkb
                      obtain ⟨⟨-, -, -, -, -, -, -, yk⟩, -⟩ := (H1.out.2.2.1.pl.below hf.below) k p HT.out
                      obtain ⟨b', o', hAk, _, hcz⟩ := yk.int hz
                      rw [hAk]
                      have hz14 : 1 ≤ z ∧ z ≤ 4 := hkb
                      rw [show (z - 1).toNat = z.toNat - 1 by omega] at hnm
                      have HWK := Lib.hid (wordsK_succ hz)
                      clear hz hAk hkb hf yk
                      go_wp2_with (at_builtin; refine wpList_append_one (f := strV) _ rfl _ _ 59 rfl U1.heap.size 9 Tryz.underlying59 str_info rfl (by omega) _ _ wr (kindName z) rfl rfl rfl hown rfl (by omega) HFJ.out.2 ?_; intro v2 w2 hown2 hg)
                      go_roundw
                      case rel => exact ⟨j + 1, by omega, by go_num, by rw [HWK.out]; exact hown2, Nat.le_trans HFJ.out.2 hg.size, HFJ.out.1.grown HVN.out.1 HVN.out.2 hg hown.ge_base⟩
                      case measure => simp [intOf]; omega
                    · have hjj : j = p.kinds.length := by omega
                      subst hjj
                      obtain ⟨A2, c2, rfl, _⟩ := OwnV.sl hown
                      have hal := acc_len Le planW c.pl k
                      have HADD := Lib.hid (add_any W1 wr v _ hf (planW p) A2 (wordsK p p.kinds.length).length c2 U1.heap.size (by rw [← wordsK_all]; exact hown) (by have := (plan_short HOK.out).1; omega) (fun x hx => by have := (plan_short HOK.out).2 x hx; omega) (by omega))
                      clear hf hown hal hwl
                      go_wp2_with fail
                      refine HADD.out.mono ?_
                      rintro e U4 ⟨rfl, v4, hf4, -, -⟩
                      rw [acc_succ HT.out] at hf4
                      have HF4 := Lib.hid hf4
                      clear hf4 HADD
                      go_wp2_with fail
                      go_roundw
                      case rel => exact ⟨k + 1, v4, by omega, by go_num, HF4.out⟩
                      case measure => simp [intOf]; omega
                · have hkk : k = c.pl.length := by omega
                  subst hkk
                  have HFk := Lib.hid hf
                  clear hf
                  obtain ⟨Lf, hLf⟩ : ∃ L, L = acc Le planW c.pl c.pl.length := ⟨_, rfl⟩
                  have hal := acc_len Le planW c.pl c.pl.length
                  rw [← hLf] at HFk hal
                  have HLf := Lib.hid hLf
                  have hlf : Lf.length ≤ 251 := by omega
                  clear hLf hal
                  have hlf2 : 2 ≤ Lf.length := by rw [HLf.out, acc_lenE, HLe.out, acc_lenE, HLd.out, acc_lenE, HLc.out, acc_lenE, HLb.out]; have := HFI.out.dl; simp; omega
                  have hdc : defCfg.cells.toArray = #[.int .i64 0, .slice none 0 0, .slice none 0 0, .slice none 0 0, .slice none 0 0, .int .i64 2, .int .i64 10, .int .i64 12, .int .i64 20, .int .i64 30, .int .i64 4, .int .i64 10, .int .i64 50, .int .i64 1, .int .i64 8] := rfl
                  have HD := Lib.hid (default_any wr)
                  rw [hdc] at HD
                  clear hdc
                  go_wp2_with fail
                  refine HD.out.mono ?_
                  rintro e X5 ⟨rfl, hb5⟩
                  have HF5 := Lib.hid (HFk.out.next hb5)
                  clear hb5
                  go_wp2_with fail
                  obtain ⟨X6, hX6⟩ : ∃ Y, Y = X5.alloc (.cells #[.int .i64 0, .slice none 0 0, .slice none 0 0, .slice none 0 0, .slice none 0 0, .int .i64 2, .int .i64 10, .int .i64 12, .int .i64 20, .int .i64 30, .int .i64 4, .int .i64 10, .int .i64 50, .int .i64 1, .int .i64 8] 27) := ⟨_, rfl⟩
                  have hb6 : Below X5.heap.size X5 X6 := by rw [hX6]; exact (Below.refl _ _).alloc (Nat.le_refl _) _
                  have hst : ∀ k z, defPs[k]? = some z → X6.cell? ⟨X5.heap.size, 5 + k, none⟩ = some (.int .i64 z) := fun k z hz => by rw [hX6, World.cell?_alloc_at (hn := rfl)]; exact cfg_par (c := defCfg) hz
                  have hs0 : X6.cell? ⟨X5.heap.size, 0, none⟩ = some (.int .i64 0) := by rw [hX6, World.cell?_alloc_at (hn := rfl)]; rfl
                  have hz6 : X5.heap.size < X6.heap.size := by rw [hX6]; simp
                  rw [← hX6]
                  clear hX6
                  refine (parameters_any X6).mono ?_
                  rintro e Wp ⟨g, bx, rfl, hpa, hbp⟩
                  have hf6 := (HF5.out.next hb6).next hbp
                  have hzp : X5.heap.size < Wp.heap.size := Nat.lt_of_lt_of_le hz6 hbp.size
                  have HST := Lib.hid (show ∀ k z, defPs[k]? = some z → Wp.cell? ⟨X5.heap.size, 5 + k, none⟩ = some (.int .i64 z) from fun k z hz => (hbp.cell (p := ⟨X5.heap.size, 5 + k, none⟩) hz6).trans (hst k z hz))
                  have hs1 := (hbp.cell (p := ⟨X5.heap.size, 0, none⟩) hz6).trans hs0
                  have HAS := Lib.hid (hf6.away hlf2 hs1 (by intro _ _ _ h; cases h) (.inl (by intro _ h; cases h)))
                  have HAG := Lib.hid (hf6.away hlf2 (b := g) (y0 := .string (parNm 0)) (by have := hpa.nm 0 (by omega); simpa using this) (by intro _ _ _ h; cases h) (.inr ⟨.int .i64 (parLow 0), by have := hpa.lo 0 (by omega); simpa using this, by intro _ h; cases h⟩))
                  have HAB := Lib.hid (fun k (hk : k < 10) => hf6.away hlf2 (b := bx k) (hpa.fld k hk) (by intro _ _ _ h; cases h) (.inl (by intro _ h; cases h)))
                  have HPA := Lib.hid (And.intro hpa hzp)
                  have HF6 := Lib.hid hf6
                  clear hs1 hs0 hst hf6 hpa hbp hb6 HF5 HD HFk
                  go_wp2_with fail
                  go_loopw [127] (fun i Y => ∃ (k : Nat) (u : Value), k ≤ 10 ∧ i = .int .i64 k ∧ FSt W1 u (Lf ++ (parLs c.ps k).map lineT) Y ∧ Only (fmtB W1 v) Wp Y ∧ ∀ q, u.ownBlock = some q → v.ownBlock = some q ∨ Wp.heap.size ≤ q) (fun i _ => 10 - (intOf i).toNat)
                  case atStart => exact ⟨0, v, Nat.zero_le _, rfl, by simpa [parLs] using HF6.out, Only.refl, fun q h => .inl h⟩
                  case round =>
                    obtain ⟨k, u, hk, rfl, hf, ho, hu⟩ := hrel
                    have HU := Lib.hid (And.intro hf (And.intro ho hu))
                    by_cases hlt : k < 10
                    · have hlt' : (k : Int) < 10 := by omega
                      have hten := H1.out.2.2.1.ten
                      obtain ⟨z, hz⟩ : ∃ z, c.ps[k]? = some z := ⟨c.ps[k]'(by rw [hten]; exact hlt), by simp⟩
                      obtain ⟨zd, hzd⟩ : ∃ z, defPs[k]? = some z := ⟨_, List.getElem?_eq_getElem (l := defPs) (show k < defPs.length from hlt)⟩
                      have hzr := HFI.out.par hlt hz
                      have hcz := (H1.out.2.1.below hf.below hcw).par hz
                      have hcd := (ho.cell (a := ⟨X5.heap.size, 5 + k, none⟩) HPA.out.2 HAS.out).trans (HST.out k zd hzd)
                      have q0 := (ho.cell (a := ⟨g, k * 5, none⟩) HPA.out.1.lt.1 HAG.out).trans (HPA.out.1.nm k hlt)
                      have q1 := (ho.cell (a := ⟨g, k * 5 + 1, none⟩) HPA.out.1.lt.1 HAG.out).trans (HPA.out.1.lo k hlt)
                      have q2 := (ho.cell (a := ⟨g, k * 5 + 2, none⟩) HPA.out.1.lt.1 HAG.out).trans (HPA.out.1.hi k hlt)
                      have q3 := (ho.cell (a := ⟨g, k * 5 + 3, none⟩) HPA.out.1.lt.1 HAG.out).trans (HPA.out.1.get k hlt)
                      have q4 := (ho.cell (a := ⟨g, k * 5 + 4, none⟩) HPA.out.1.lt.1 HAG.out).trans (HPA.out.1.set k hlt)
                      have q5 := (ho.cell (a := ⟨bx k, 0, none⟩) (HPA.out.1.lt.2 k hlt) (HAB.out k hlt)).trans (HPA.out.1.fld k hlt)
                      have hE := get_enters k
                      have hbl : bx k < wr.heap.size := Nat.lt_of_lt_of_le (HPA.out.1.lt.2 k hlt) ho.size
                      have hcl : w.heap.size < wr.heap.size := Nat.lt_of_lt_of_le hcw hf.below.size
                      have hsl : X5.heap.size < wr.heap.size := Nat.lt_of_lt_of_le HPA.out.2 ho.size
                      have HNB := Lib.hid (And.intro (show ∀ q, u.ownBlock = some q → q ≠ wr.heap.size from fun q hq e => by have := hf.own.lt_size q hq; omega) (show wr.heap.size ≠ W1.heap.size by have := hf.lt; omega))
                      obtain ⟨bxk, hbx⟩ : ∃ b, b = bx k := ⟨_, rfl⟩
                      have HGT := Lib.hid (fun (cb : Nat) (y : Int) (Y : World) (h1 : Y.cell? ⟨bxk, 0, none⟩ = some (.func (.func (parFld k)) #[] #[])) (h2 : Y.cell? ⟨cb, 5 + k, none⟩ = some (.int .i64 y)) => get_any cb bxk Y k hlt y h1 h2)
                      have HZ := Lib.hid (And.intro hz hzd)
                      rw [← hbx] at q3 q4 q5 hbl
                      obtain ⟨gf, hgf⟩ : ∃ f, f = parGet k := ⟨_, rfl⟩
                      obtain ⟨sf, hsf⟩ : ∃ f, f = parSet k := ⟨_, rfl⟩
                      obtain ⟨ff, hff⟩ : ∃ f, f = parFld k := ⟨_, rfl⟩
                      obtain ⟨lo, hlo⟩ : ∃ f, f = parLow k := ⟨_, rfl⟩
                      obtain ⟨hi, hhi⟩ : ∃ f, f = parHigh k := ⟨_, rfl⟩
                      obtain ⟨nm, hnm⟩ : ∃ f, f = parNm k := ⟨_, rfl⟩
                      have HNM := Lib.hid hnm
                      rw [← hgf] at q3 hE HGT
                      rw [← hsf] at q4
                      rw [← hff] at q5 HGT
                      rw [← hlo] at q1
                      rw [← hhi] at q2
                      rw [← hnm] at q0
                      clear hgf hsf hff hlo hhi hnm hbx hz hzd
                      have hbA : Below wr.heap.size wr (freshPar wr nm lo hi gf sf bxk) := (Below.refl _ _).alloc (Nat.le_refl _) _
                      have HX1 := Lib.hid (HGT.out w.heap.size z (freshPar wr nm lo hi gf sf bxk) ((hbA.cell (p := ⟨bxk, 0, none⟩) hbl).trans q5) ((hbA.cell (p := ⟨w.heap.size, 5 + k, none⟩) hcl).trans hcz))
                      have HX2 := Lib.hid (HGT.out X5.heap.size zd (freshPar wr nm lo hi gf sf bxk) ((hbA.cell (p := ⟨bxk, 0, none⟩) hbl).trans q5) ((hbA.cell (p := ⟨X5.heap.size, 5 + k, none⟩) hsl).trans hcd))
                      have hg0 : (freshPar wr nm lo hi gf sf bxk).cell? ⟨wr.heap.size, 0, none⟩ = some (.string nm) := by simp [freshPar, go_sem]
                      have hg3 : (freshPar wr nm lo hi gf sf bxk).cell? ⟨wr.heap.size, 3, none⟩ = some (.func (.func gf) #[] #[.pointer (some ⟨bxk, 0, none⟩)]) := by simp [freshPar, go_sem]
                      have hg9 : wr.heap.size < (freshPar wr nm lo hi gf sf bxk).heap.size := by simp [freshPar]
                      obtain ⟨YA, hYA⟩ : ∃ W2, W2 = freshPar wr nm lo hi gf sf bxk := ⟨_, rfl⟩
                      rw [← hYA] at hbA HX1 HX2 hg0 hg3 hg9
                      have HFA := Lib.hid (hf.next hbA)
                      have HOA := Lib.hid (show Only (fmtB W1 v) Wp YA from ho.trans (Only.of_below hbA) (fun _ _ q => q))
                      have HG := Lib.hid (And.intro hg0 hg9)
                      unfold freshPar at hYA
                      clear hf ho hu hbA hcz hcd hten q5 HGT hg9
                      go_wp2_with fail
                      rw [← hYA]
                      clear hYA q0 q1 q2 q3 q4
                      refine HX1.out.mono ?_
                      rintro e w' ⟨rfl, hw⟩
                      rw [hw]
                      clear hw w' HX1
                      by_cases hzz : z = zd
                      · subst hzz
                        have e0 : (z != z) = false := by simp
                        go_wp2_with fail
                        refine HX2.out.mono ?_
                        rintro e w' ⟨rfl, hw⟩
                        rw [hw]
                        clear hw w' HX2
                        go_wp2_with fail
                        go_roundw
                        case rel => exact ⟨k + 1, u, by omega, by go_num, by rw [parLs_succ HZ.out.1, if_pos HZ.out.2, List.append_nil]; exact HFA.out, HOA.out, HU.out.2.2⟩
                        case measure => simp [intOf]; omega
                      · have e0 : (z != zd) = true := by simp [hzz]
                        have HLK := Lib.hid (show (Lf ++ (parLs c.ps k).map lineT) ++ [lineT (parW k z)] = Lf ++ (parLs c.ps (k + 1)).map lineT from by rw [parLs_succ HZ.out.1, if_neg (fun e => hzz (Option.some.inj (e.symm.trans HZ.out.2)).symm.symm), List.map_append, List.append_assoc]; rfl)
                        clear hzz
                        go_wp2_with fail
                        refine HX2.out.mono ?_
                        rintro e w' ⟨rfl, hw⟩
                        rw [hw]
                        clear hw w' HX2 hg3
                        go_wp2_with fail
                        refine wp_region_held_drew (S := fun Y => Y.cell? ⟨wr.heap.size, 0, none⟩ = some (.string nm)) (by kernel_rfl) HG.out.1 (fun hHeld => ?_)
                        have HF0 := Lib.hid (show FSt W1 u (Lf ++ (parLs c.ps k).map lineT) YA.drew from HFA.out.next (Below.refl _ _).drew)
                        have HO0 := Lib.hid (show Only (fmtB W1 v) Wp YA.drew from HOA.out.drew)
                        have kl0 : wr.heap.size < YA.drew.heap.size := HG.out.2
                        obtain ⟨U0, hU0⟩ : ∃ U, U = YA.drew := ⟨_, rfl⟩
                        rw [← hU0] at hHeld HF0 HO0 kl0 ⊢
                        clear hU0
                        refine wpAnyH_take (i := 0) (v := .func (.func 32) #[] #[.pointer (some ⟨W1.heap.size, 0, none⟩)]) rfl (by kernel_rfl) (by kernel_rfl) (by kernel_rfl) (fun _ _ _ h => h) (Or.inl ⟨by rfl, ?_⟩) (by assumption) ?_
                        · intro w hSw
                          go_simp
                        show wpAnyH _ _ _ _ _ _ _ (Act.put _ (some 139) _) _
                        simp only [Act.put, List.setIfInBounds_toArray, List.set_cons_zero, List.set_cons_succ]
                        refine wpAnyH_take (i := 1) (v := .pointer (some ⟨wr.heap.size, 0, none⟩)) rfl (by kernel_rfl) (by kernel_rfl) (by kernel_rfl) (fun _ _ _ h => h) (Or.inl ⟨by rfl, ?_⟩) (by assumption) ?_
                        · intro w hSw
                          go_simp
                        show wpAnyH _ _ _ _ _ _ _ (Act.put _ (some 140) _) _
                        simp only [Act.put, List.setIfInBounds_toArray, List.set_cons_zero, List.set_cons_succ]
                        refine wpAnyH_take (i := 2) (v := .string nm) rfl (by kernel_rfl) (by kernel_rfl) (by kernel_rfl) (fun _ _ _ h => h) (Or.inl ⟨by rfl, ?_⟩) (by assumption) ?_
                        · intro w hSw
                          have s0 := hSw
                          go_simp
                        show wpAnyH _ _ _ _ _ _ _ (Act.put _ (some 141) _) _
                        simp only [Act.put, List.setIfInBounds_toArray, List.set_cons_zero, List.set_cons_succ]
                        refine wpAnyH_take (i := 3) (v := .int .i64 z) rfl (by kernel_rfl) (by kernel_rfl) (by kernel_rfl) (fun _ _ _ h => h) (Or.inl ⟨by rfl, ?_⟩) (by assumption) ?_
                        · intro w hSw
                          go_simp
                        show wpAnyH _ _ _ _ _ _ _ (Act.put _ (some 142) _) _
                        simp only [Act.put, List.setIfInBounds_toArray, List.set_cons_zero, List.set_cons_succ]
                        refine wpAnyH_ready (rs := [4]) (by kernel_rfl) (by simp) ?_
                        refine AllReadyH.cons rfl (fun K hK => ?_) AllReadyH.nil
                        go_simp
                        refine (fmtZ_any z (by omega) (by omega) U0 (HRW.out _ HF0.out.below)).mono ?_
                        rintro e U1 ⟨rfl, hbi⟩
                        have HF1 := Lib.hid (HF0.out.next hbi)
                        have HO1 := Lib.hid (HO0.out.trans (Only.of_below (S := fmtB W1 v) hbi) (fun _ _ q => q))
                        have kl1 := Nat.lt_of_lt_of_le kl0 hbi.size
                        go_simp
                        refine hK.out _ _ ((hbi.cell (p := ⟨wr.heap.size, 0, none⟩) kl0).trans hHeld) (fun hHeld => ?_)
                        clear hK K
                        clear hbi
                        have HS0 := Lib.hid hHeld
                        have hba : Below U1.heap.size U1 (U1.alloc (.cells #[.string nm, .string (bs (dec z))] 9)) := (Below.refl _ _).alloc (Nat.le_refl _) _
                        refine wpAnyH_ready (rs := [5]) (by kernel_rfl) (by simp) ?_
                        refine AllReadyH.cons rfl (fun K hK => ?_) AllReadyH.nil
                        go_simp
                        refine hK.out _ _ ((hba.cell (p := ⟨wr.heap.size, 0, none⟩) kl1).trans hHeld) (fun hHeld => ?_)
                        clear hK K
                        clear hba
                        refine wpAnyH_ready (rs := [6]) (by kernel_rfl) (by simp) ?_
                        refine AllReadyH.cons rfl (fun K hK => ?_) AllReadyH.nil
                        go_simp
                        have hpl := (parLs_short HFI.out k hk).1
                        refine (add_lit HF1.out (parW k z) (par_short hlt (by omega)) (by simp; omega) _ (par_cells k z HNM.out) 2 rfl).mono ?_
                        rintro e U4 ⟨rfl, v4, hf4, ho4, hk4⟩
                        rw [HLK.out] at hf4
                        have HF4 := Lib.hid (And.intro hf4 (And.intro (show Only (fmtB W1 v) Wp U4 from HO1.out.trans ho4 (fun j hj e => by
                          rcases e with e | e
                          · exact .inl e
                          · rcases HU.out.2.2 j e with q | q
                            · exact .inr q
                            · exact absurd hj (by omega))) (show ∀ q, v4.ownBlock = some q → v.ownBlock = some q ∨ Wp.heap.size ≤ q from fun q hq => by
                          rcases hk4 q hq with e | e
                          · exact HU.out.2.2 q e
                          · exact .inr (Nat.le_trans HO1.out.size e))))
                        have hnS : ¬ fmtB W1 u wr.heap.size := fun e => e.elim (fun e => HNB.out.2 e) (fun e => HNB.out.1 _ e rfl)
                        clear hf4 hk4
                        go_simp
                        refine hK.out _ _ ((ho4.cell (a := ⟨wr.heap.size, 0, none⟩) kl1 hnS).trans HS0.out) (fun hHeld => ?_)
                        clear hK K
                        refine wpAnyH_done (by kernel_rfl) ?_ _
                        clear ho4 hnS hpl
                        go_wp2_with fail
                        go_roundw
                        case rel => exact ⟨k + 1, v4, by omega, by go_num, HF4.out.1, HF4.out.2.1, HF4.out.2.2⟩
                        case measure => simp [intOf]; omega
                    · have hkk : k = 10 := by omega
                      subst hkk
                      have hcl := (one_cell hf.cl).1
                      have hpl := (parLs_short HFI.out 10 (Nat.le_refl _)).1
                      have htx := text_of HLb.out HLc.out HLd.out HLe.out HLf.out
                      have htl := text_le HFI.out HSH.out.1
                      have HJ := Lib.hid (joinV_any wr u _ _ hf.sl [] (by simp; omega) (by rw [htx]; omega))
                      rw [htx] at HJ
                      obtain ⟨T, hT⟩ : ∃ T, T = textC c := ⟨_, rfl⟩
                      have HTT := Lib.hid hT
                      rw [← hT] at HJ htl
                      have hts : decide ((65536 : Int) < ((bs T).size : Int)) = false := decide_eq_false (by rw [bs_size]; omega)
                      have HB := Lib.hid (H1.out.1.trans (hf.below.mono H1.out.1.size))
                      clear hf ho hu htx htl hT hpl
                      go_wp2_with fail
                      refine HJ.out.mono ?_
                      rintro e w' ⟨rfl, hb⟩
                      have HB2 := Lib.hid (HB.out.trans (hb.mono HB.out.size))
                      clear hb HJ hcl
                      go_wp2_with fail
                      go_ret2
                      exact ⟨by rw [HTT.out]; rfl, HB2.out⟩
end Go.Proofs.YtloacoalmfaceaaGreatDoor
