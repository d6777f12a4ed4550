/-
  trace.ParseEvent (printed by gentrpa.py).
-/
import Derived.Test.YtakdkiggaalimaaDoorTrPc
import Derived.Test.YtakdkiggaalimaaDoorTrSp
import Derived.Test.YtakdkiggaalimaaDoorTrLn
import Derived.Deep.WholeRow
namespace Go.Proofs.YtakdkiggaalimaaDoor
open Go.RowKit Go.Maps
open Go.Lib (itoa)

theorem EvO.next {Y Z : World} {base : Nat} {x : EvM} (h : EvO Y base x) (hb : Below Y.heap.size Y Z) : EvO Z base x := ⟨h.act.next hb, own_next h.body hb, h.nob⟩
theorem EvO.base {Y : World} {base base' : Nat} {x : EvM} (h : EvO Y base x) (hb : base' ≤ base) : EvO Y base' x := ⟨h.act.base hb, own_base h.body hb, h.nob⟩
theorem EvO.at {Y : World} {base : Nat} {x : EvM} (h : EvO Y base x) : EvAt Y Y.heap.size x := by
  obtain ⟨A, c, e, hs⟩ := OwnV.sl h.body
  injection e with e1 _ _
  subst e1
  obtain ⟨n1, n2, n3⟩ := h.nob
  exact ⟨hs, h.act.at, by rw [n2]; exact Sl.empty⟩
theorem EvBd.r {e : EvM} (h : EvBd e) : EvR e.con :=
  ⟨h.kind, h.tick, h.who, h.call, h.epoch, h.n, h.eterm, h.ekind, Nat.le_trans h.body (by decide), h.ord, h.sta, h.act.r⟩
/-- what ParseEvent returns. -/
def RetPe (s : Wd) (w : World) (e : Ending) (w' : World) : Prop :=
  (∃ a : EvM, EvOk a.con ∧ VEv a.con ∧ s = evT a.con ∧ s.length ≤ 65536 ∧ e = .returned (.tuple #[evV a, .int .i64 0]) ∧ EvO w' w.heap.size a ∧ EvBd a ∧ Below w.heap.size w w') ∨
  ((65536 < s.length ∨ ∀ b, VEv b → EvOk b → s ≠ evT b) ∧ e = .returned (.tuple #[evV (EvM.zero 0 0), .int .i64 2]) ∧ Below w.heap.size w w')
set_option maxRecDepth 100000 in
set_option maxHeartbeats 16000000 in
theorem parseEv_any (s : Wd) (w : World) (hr : Ready w) : Calls Tryd.prog 14 #[.string (bs s)] w (RetPe s w) := by
  have hb0 : Below w.heap.size w (w.alloc (.cells #[.int .i64 0, .int .i64 0, .int .i64 0, .int .i64 0, .int .i64 0, .int .i64 0, .int .i64 0, .int .i64 0, .slice none 0 0, .int .i64 0, .int .i64 0, .int .i64 0, .int .i64 0, .int .i64 0, .int .i64 0, .int .i64 0, .int .i64 0, .int .i64 0, .int .i64 0, .int .i64 0, .int .i64 0, .int .i64 0, .int .i64 0, .int .i64 0, .int .i64 0, .slice none 0 0, .slice none 0 0, .slice none 0 0] 41)) := (Below.refl _ _).alloc (Nat.le_refl _) _
  have hn0 := new_obj w (.cells #[.int .i64 0, .int .i64 0, .int .i64 0, .int .i64 0, .int .i64 0, .int .i64 0, .int .i64 0, .int .i64 0, .slice none 0 0, .int .i64 0, .int .i64 0, .int .i64 0, .int .i64 0, .int .i64 0, .int .i64 0, .int .i64 0, .int .i64 0, .int .i64 0, .int .i64 0, .int .i64 0, .int .i64 0, .int .i64 0, .int .i64 0, .int .i64 0, .int .i64 0, .slice none 0 0, .slice none 0 0, .slice none 0 0] 41)
  have hs0 : (w.alloc (.cells #[.int .i64 0, .int .i64 0, .int .i64 0, .int .i64 0, .int .i64 0, .int .i64 0, .int .i64 0, .int .i64 0, .slice none 0 0, .int .i64 0, .int .i64 0, .int .i64 0, .int .i64 0, .int .i64 0, .int .i64 0, .int .i64 0, .int .i64 0, .int .i64 0, .int .i64 0, .int .i64 0, .int .i64 0, .int .i64 0, .int .i64 0, .int .i64 0, .int .i64 0, .slice none 0 0, .slice none 0 0, .slice none 0 0] 41)).heap.size = w.heap.size + 1 := by simp
  obtain ⟨ZA, hZA⟩ : ∃ ZA : Array Value, ZA = #[.int .i64 0, .int .i64 0, .int .i64 0, .int .i64 0, .int .i64 0, .int .i64 0, .int .i64 0, .int .i64 0, .slice none 0 0, .int .i64 0, .int .i64 0, .int .i64 0, .int .i64 0, .int .i64 0, .int .i64 0, .int .i64 0, .int .i64 0, .int .i64 0, .int .i64 0, .int .i64 0, .int .i64 0, .int .i64 0, .int .i64 0, .int .i64 0, .int .i64 0, .slice none 0 0, .slice none 0 0, .slice none 0 0] := ⟨_, rfl⟩
  have HZV := Lib.hid (show evV (EvM.zero 0 0) = .agg ZA by rw [hZA]; rfl)
  have hbt : Tryd.prog.built 41 [] = some ZA := by rw [hZA]; rfl
  have hszz : (Tryd.prog.info? 41).map (·.size) = some ZA.size := by rw [hZA]; exact ev_size
  have honez : ZA.all (·.oneCell') = true := by rw [hZA]; exact evCs_one (EvM.zero 0 0)
  obtain ⟨X0, hX0⟩ : ∃ X0, X0 = w.alloc (.cells #[.int .i64 0, .int .i64 0, .int .i64 0, .int .i64 0, .int .i64 0, .int .i64 0, .int .i64 0, .int .i64 0, .slice none 0 0, .int .i64 0, .int .i64 0, .int .i64 0, .int .i64 0, .int .i64 0, .int .i64 0, .int .i64 0, .int .i64 0, .int .i64 0, .int .i64 0, .int .i64 0, .int .i64 0, .int .i64 0, .int .i64 0, .int .i64 0, .int .i64 0, .slice none 0 0, .slice none 0 0, .slice none 0 0] 41) := ⟨_, rfl⟩
  rw [← hX0] at hb0 hn0 hs0
  rw [← hZA] at hn0
  have HZN := Lib.hid (show ∀ a : EvM, ZA.size = (evCs a).toArray.size by rw [hZA]; exact fun _ => rfl)
  have HB0 := Lib.hid (And.intro hb0 (And.intro hn0 hr))
  by_cases hs : s.length ≤ 65536
  rotate_left
  · have d0 := d65_yes hs
    have HS := Lib.hid hs
    clear hs hr hb0 hs0 hZA
    go_enter Tryd.func14, Tryd.ntmps14
    go_wp2_with (first | (rw [← hX0]; refine wpList_build_to rfl 41 #[] rfl ZA (by rw [Array.toList_map]; exact hbt) ?_) | (refine wpList_store_row rfl 41 (.tmp 2) (.tmp 9) rfl w.heap.size ZA rfl rfl 41 _ hn0 hszz rfl honez ?_))
    refine bodyPost_ret (results_cell_tmp Tryd.results14 _ _ w.heap.size 41 ZA (0, 0) _ (by rfl) (setRow_heap _ _ _ _ _ _ (new_obj w _)) Tryd.underlying41 rfl hszz) rfl ?_
    exact .inr ⟨.inl (by have := HS.out; omega), by rw [HZV.out]; rfl, below_row (below_new _ _) _⟩
  have d0 := d65_no hs
  have HS := Lib.hid (And.intro hs hr)
  have hr0 := hr.below hb0
  have HSP := Lib.hid (split_any s hs X0 hr0)
  have HRS := Lib.hid (rd_start X0 s hs)
  obtain ⟨n, hn⟩ : ∃ n, n = (wordsL s).length := ⟨_, rfl⟩
  obtain ⟨X1, hX1⟩ : ∃ X1, X1 = X0.alloc (.cells ((wordsL s).map wdV).toArray 9) := ⟨_, rfl⟩
  have hb1 : Below X0.heap.size X0 X1 := by rw [hX1]; exact below_new _ _
  have hs1 : X1.heap.size = X0.heap.size + 1 := by rw [hX1]; simp
  have hb2 : Below X1.heap.size X1 (X1.alloc (.cells #[.slice (some ⟨X0.heap.size, 0, none⟩) n n, .bool false] RT)) := below_new _ _
  obtain ⟨X2, hX2⟩ : ∃ X2, X2 = X1.alloc (.cells #[.slice (some ⟨X0.heap.size, 0, none⟩) n n, .bool false] RT) := ⟨_, rfl⟩
  have hs2 : X2.heap.size = X1.heap.size + 1 := by rw [hX2]; simp
  rw [← hX1, ← hn] at HSP HRS
  rw [← hX2] at hb2 HRS
  rw [← hs1] at HRS
  obtain ⟨rb, hrb⟩ : ∃ rb, rb = X1.heap.size := ⟨_, rfl⟩
  have hB2 : Below w.heap.size w X2 := hb0.trans ((hb1.mono hb0.size).trans (hb2.mono (Nat.le_trans hb0.size hb1.size)))
  have HRBX := Lib.hid (show rb < X2.heap.size by omega)
  have HB2 := Lib.hid (And.intro hB2 (And.intro (((hb1.trans (hb2.mono hb1.size)).block w.heap.size (by omega)).trans hn0) (show w.heap.size < rb by omega)))
  have hgr : Tryd.prog.globals.size ≤ rb := Nat.le_trans hr.room (by omega)
  rw [← hrb] at HRS
  have HRD := Lib.hid (revent_any rb (some (wordsL s)) X2 HRS.out (hr.below hB2) hgr)
  have HS2 := Lib.hid hs2
  clear hs hr hr0 hb0 hb1 hb2 hB2 hn hgr hs0 hs1 hs2 hZA
  go_enter Tryd.func14, Tryd.ntmps14
  go_wp2_with fail
  rw [← hX0]
  refine HSP.out.mono ?_
  rintro e Xn ⟨rfl, hXn⟩
  rw [hXn]
  clear hXn Xn hX0 hX1
  go_wp2_with fail
  rw [← hX2, ← hrb]
  clear hX2 hrb
  refine HRD.out.mono ?_
  rintro e Y ⟨a, st', rfl, h1, ho, hown, hbd, hrd⟩
  obtain ⟨D, hD⟩ : ∃ D, D = (evCs a).toArray := ⟨_, rfl⟩
  have hv : evV a = .agg D := by rw [hD]; rfl
  have hszd : (Tryd.prog.info? 41).map (·.size) = some D.size := by rw [hD]; exact ev_size
  have honed : D.all (·.oneCell') = true := by rw [hD]; exact evCs_one a
  have hold : (#[.int .i64 0, .int .i64 0, .int .i64 0, .int .i64 0, .int .i64 0, .int .i64 0, .int .i64 0, .int .i64 0, .slice none 0 0, .int .i64 0, .int .i64 0, .int .i64 0, .int .i64 0, .int .i64 0, .int .i64 0, .int .i64 0, .int .i64 0, .int .i64 0, .int .i64 0, .int .i64 0, .int .i64 0, .int .i64 0, .int .i64 0, .int .i64 0, .int .i64 0, .slice none 0 0, .slice none 0 0, .slice none 0 0] : Array Value).size = D.size := by rw [hD]; rfl
  have hoy := new_obj Y (.cells #[.int .i64 0, .int .i64 0, .int .i64 0, .int .i64 0, .int .i64 0, .int .i64 0, .int .i64 0, .int .i64 0, .slice none 0 0, .int .i64 0, .int .i64 0, .int .i64 0, .int .i64 0, .int .i64 0, .int .i64 0, .int .i64 0, .int .i64 0, .int .i64 0, .int .i64 0, .int .i64 0, .int .i64 0, .int .i64 0, .int .i64 0, .int .i64 0, .int .i64 0, .slice none 0 0, .slice none 0 0, .slice none 0 0] 41)
  have HD := Lib.hid (And.intro hD hv)
  have hYB : Below w.heap.size w Y := HB2.out.1.trans ((ho.low (by have := HRBX.out; omega)).mono (Nat.le_of_lt HB2.out.2.2))
  have hb5 := below_new Y (.cells D 41)
  have HQ := Lib.hid (And.intro (h1.next hb5) (And.intro hown (And.intro hbd hrd)))
  have HY := Lib.hid (And.intro hYB (And.intro (((ho.low (by have := HRBX.out; omega)).block w.heap.size HB2.out.2.2).trans HB2.out.2.1) ho.size))
  rw [hv]
  clear h1 ho hown hbd hrd hD hv hYB
  go_wp2_with (refine wpList_store_row rfl 41 (.tmp 5) (.tmp 13) rfl Y.heap.size D rfl rfl 41 _ hoy hszd hold honed ?_)
  rw [World.setRow_alloc_new]
  have hrow5 := new_obj Y (.cells D 41)
  obtain ⟨X5, hX5⟩ : ∃ X5, X5 = Y.alloc (.cells D 41) := ⟨_, rfl⟩
  rw [← hX5] at hb5 HQ hrow5 ⊢
  have HFN := Lib.hid (rfin_any rb st' X5 HQ.out.1)
  have HB5 := Lib.hid (And.intro (HY.out.1.trans (hb5.mono HY.out.1.size)) (And.intro hb5 ((hb5.block w.heap.size (by have := HB2.out.2.2; have := HY.out.2.2; have := HRBX.out; omega)).trans HY.out.2.1)))
  have hrw5 := HB5.out.2.2
  have HNO : Hid (¬ (st' = some [] ∧ EvOk a.con) → ∀ b, VEv b → EvOk b → s ≠ evT b) := Lib.hid (fun q b hb hbo => ev_leave HQ.out.2.2.2 q b hb hbo)
  have HYES : Hid (∀ X6, Below X5.heap.size X5 X6 → st' = some [] → EvOk a.con → RetPe s w (.returned (.tuple #[.agg D, .int .i64 0])) (X6.setRow w.heap.size D)) := Lib.hid (fun X6 hb6 q1 q2 => by
    obtain ⟨t1, t2⟩ := ev_take HQ.out.2.2.2 q1 q2
    have ho6 := only_row2 X6 w.heap.size D
    have hbk : Blk X6 w.heap.size 41 ZA.toList := by
      show X6.heap[w.heap.size]? = _
      rw [hb6.block w.heap.size (Array.getElem?_eq_some_iff.1 HB5.out.2.2).1, HB5.out.2.2]
    have hown2 := ((HQ.out.2.1.next HB5.out.2.1).next hb6).base HB2.out.1.size
    exact .inl ⟨a, q2, t1, t2, HS.out.1, by rw [HD.out.2], (hown2.keep hbk ⟨by decide, by decide, by decide⟩ ho6), HQ.out.2.2.1, below_row (HB5.out.1.trans (hb6.mono HB5.out.1.size)) _⟩)
  clear hoy hold honed hX5
  by_cases hf : st' = some []
  rotate_left
  · rw [tb_false hf] at HFN
    have HF := Lib.hid hf
    clear hf hb5 hrow5
    go_wp2_with fail
    refine HFN.out.mono ?_
    rintro e Xn ⟨rfl, hXn⟩
    rw [hXn]
    clear hXn Xn
    go_wp2_with (first | (refine wpList_build_to rfl 41 #[] rfl ZA (by rw [Array.toList_map]; exact hbt) ?_) | (refine wpList_store_row rfl 41 (.tmp 2) (.tmp 21) rfl w.heap.size ZA rfl rfl 41 _ hrw5 hszz rfl honez ?_))
    refine bodyPost_ret (results_cell_tmp Tryd.results14 _ _ w.heap.size 41 ZA (0, 0) _ (by rfl) (setRow_heap _ _ _ _ _ _ hrw5) Tryd.underlying41 rfl hszz) rfl ?_
    exact .inr ⟨.inr (HNO.out (fun q => HF.out q.1)), by rw [HZV.out]; rfl, below_row HB5.out.1 _⟩
  rw [tb_true hf] at HFN
  have HF := Lib.hid hf
  have HV := Lib.hid (vEv_any a X5 (HQ.out.2.1.next HB5.out.2.1).at HQ.out.2.2.1.act.l)
  rw [HD.out.2] at HV
  clear hf hb5
  go_wp2_with fail
  refine HFN.out.mono ?_
  rintro e Xn ⟨rfl, hXn⟩
  rw [hXn]
  clear hXn Xn
  by_cases hok : EvOk a.con
  · rw [tb_true hok] at HV
    have HOK := Lib.hid hok
    clear hok
    go_wp2_with (refine wpList_load_row_g (by rfl) 41 (.tmp 5) rfl Y.heap.size rfl 41 D (0, 0) _ hrow5 Tryd.underlying41 rfl hszd ?_)
    refine HV.out.mono ?_
    rintro e X6 ⟨rfl, hb6⟩
    have HF6 := Lib.hid (HYES.out X6 hb6 HF.out HOK.out)
    have hrow6 := (hb6.block Y.heap.size (Array.getElem?_eq_some_iff.1 hrow5).1).trans hrow5
    have hrw6 := (hb6.block w.heap.size (Array.getElem?_eq_some_iff.1 hrw5).1).trans hrw5
    have honed : D.all (·.oneCell') = true := by rw [HD.out.1]; exact evCs_one a
    have hzd : ZA.size = D.size := by rw [HD.out.1]; exact HZN.out a
    clear hb6 hrow5 hrw5
    go_wp2_with (first | (refine wpList_load_row_g (by rfl) 41 (.tmp 5) rfl Y.heap.size rfl 41 D (0, 0) _ hrow6 Tryd.underlying41 rfl hszd ?_) | (refine wpList_store_row rfl 41 (.tmp 2) (.tmp 22) rfl w.heap.size D rfl rfl 41 _ hrw6 hszd hzd honed ?_))
    refine bodyPost_ret (results_cell_tmp Tryd.results14 _ _ w.heap.size 41 D (0, 0) _ (by rfl) (setRow_heap _ _ _ _ _ _ hrw6) Tryd.underlying41 rfl hszd) rfl ?_
    exact HF6.out
  · rw [tb_false hok] at HV
    have HOK := Lib.hid hok
    clear hok
    go_wp2_with (refine wpList_load_row_g (by rfl) 41 (.tmp 5) rfl Y.heap.size rfl 41 D (0, 0) _ hrow5 Tryd.underlying41 rfl hszd ?_)
    refine HV.out.mono ?_
    rintro e X6 ⟨rfl, hb6⟩
    have HB6 := Lib.hid (HB5.out.1.trans (hb6.mono HB5.out.1.size))
    have hrw6 := (hb6.block w.heap.size (Array.getElem?_eq_some_iff.1 hrw5).1).trans hrw5
    clear hb6 hrow5 hrw5
    go_wp2_with (first | (refine wpList_build_to rfl 41 #[] rfl ZA (by rw [Array.toList_map]; exact hbt) ?_) | (refine wpList_store_row rfl 41 (.tmp 2) (.tmp 21) rfl w.heap.size ZA rfl rfl 41 _ hrw6 hszz rfl honez ?_))
    refine bodyPost_ret (results_cell_tmp Tryd.results14 _ _ w.heap.size 41 ZA (0, 0) _ (by rfl) (setRow_heap _ _ _ _ _ _ hrw6) Tryd.underlying41 rfl hszz) rfl ?_
    exact .inr ⟨.inr (HNO.out (fun q => HOK.out q.2)), by rw [HZV.out]; rfl, below_row HB6.out _⟩
end Go.Proofs.YtakdkiggaalimaaDoor
