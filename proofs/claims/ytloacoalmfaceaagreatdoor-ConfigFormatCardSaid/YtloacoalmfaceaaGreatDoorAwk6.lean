/-
  samaritanlaw06.awake: the examples of the document (printed by genawk6.py).
-/
import Derived.Test.YtloacoalmfaceaaGreatDoorLns6
namespace Go.Proofs.YtloacoalmfaceaaGreatDoor
open Go.RowKit Go.Maps Go.Shelf

def exLs : List Ln := [.cen 1, .node 0]
def exLs2 : List Ln := [.cen 1, .node 0, .par 0 2]
def exT1 : List UInt8 := [99, 101, 110, 116, 114, 101, 115, 32, 49, 10, 110, 111, 100, 101, 32, 48, 10]
def exT2 : List UInt8 := [99, 101, 110, 116, 114, 101, 115, 32, 49, 10, 110, 111, 100, 101, 32, 48, 10, 98, 101, 97, 116, 32, 50, 10]
theorem dec_0 : dec 0 = [48] := by unfold dec; rw [dec_small (by decide)]; rfl
theorem dec_1 : dec 1 = [49] := by unfold dec; rw [dec_small (by decide)]; rfl
theorem dec_2 : dec 2 = [50] := by unfold dec; rw [dec_small (by decide)]; rfl
theorem ex_rest1 : restT (exLs.map Ln.lst) 0 = exT1 := by
  show lineT [wCentres, dec 1] ++ (lineT (nodeW 0) ++ []) = _
  unfold nodeW
  rw [dec_0, dec_1]
  rfl
theorem ex_rest2 : restT (exLs2.map Ln.lst) 0 = exT2 := by
  show lineT [wCentres, dec 1] ++ (lineT (nodeW 0) ++ (lineT (parW 0 2) ++ [])) = _
  unfold nodeW parW
  rw [dec_0, dec_1, dec_2]
  rfl
/-- the configuration of the examples. -/
structure Ex (c : Cfg) : Prop where
  cen : c.cen = 1
  ds : c.ds = [0]
  es : c.es = []
  us : c.us = []
  pl : c.pl = []
  ps : c.ps = defPs
theorem ex_of {c : Cfg} (h : kOf c = ⟨1, [0], [], [], [], defPs⟩) : Ex c := by
  unfold kOf at h
  injection h with h1 h2 h3 h4 h5 h6
  exact ⟨h1, h2, h3, h4, by simpa using h5, h6⟩
theorem Ex.fine {c : Cfg} (h : Ex c) : problem c = 0 := by
  refine prob_0 (by rw [h.cen]; omega) (by rw [h.ds]; decide) (by rw [h.ds, h.cen]; intro d hd; rw [List.mem_singleton.1 hd]; exact ⟨by decide, by decide⟩) ?_ ?_ ?_ ?_
  · rw [h.es]
    exact ⟨(fun e he => by cases he), by decide⟩
  · rw [h.us]
    exact ⟨(fun e he => by cases he), by decide⟩
  · rw [h.pl]
    exact ⟨by decide, fun i p hi => by simp at hi⟩
  · rw [h.ps]
    intro i z hi hz
    have key : ∀ i : Fin 10, parLow i.val ≤ defPs[i.val]'i.isLt ∧ defPs[i.val]'i.isLt ≤ parHigh i.val := by decide
    have e := List.getElem?_eq_getElem (l := defPs) (show i < defPs.length from hi)
    rw [hz] at e
    rw [Option.some.inj e]
    exact key ⟨i, hi⟩
theorem Ex.text {c : Cfg} (h : Ex c) : textC c = exT1 := by
  have hp : parLs c.ps 10 = [] := by
    rw [h.ps]
    rfl
  unfold textC linesC
  rw [hp, h.cen, h.ds, h.es, h.us, h.pl]
  show lineT [wCentres, dec 1] ++ (lineT (nodeW 0) ++ []) = _
  unfold nodeW
  rw [dec_0, dec_1]
  rfl
theorem Ex.short {c : Cfg} (h : Ex c) : Short c ∧ ∀ p ∈ c.pl, (∀ z ∈ p.kinds, (Lit.int .i64 z).wf = true) ∧ (Lit.int .i64 p.urg).wf = true ∧ p.code.size ≤ 9223372036854775807 := by
  refine ⟨?_, fun p hp => by rw [h.pl] at hp; cases hp⟩
  unfold Short
  rw [h.ds, h.es, h.us, h.pl]
  decide
theorem ex_fit1 : ∀ cb, Fit cb (exLs.map Ln.lst) (prevOf exLs) defCfg := by
  have hv : ∀ l ∈ exLs, l.Val := by
    intro l hl
    simp only [exLs, List.mem_cons, List.mem_nil_iff, or_false] at hl
    rcases hl with rfl | rfl <;> (show _ ∧ _; decide)
  refine fit_of exLs (fun l hl => val_ok (hv l hl)) (fun l hl => val_nl (hv l hl)) (fun i l hl => ?_) (by decide) (fun c hk => (ex_of hk).short)
  match i, hl with
  | 0, hl => cases hl; rfl
  | 1, hl => cases hl; rfl
  | n + 2, hl => simp [exLs] at hl
theorem ex_fit2 : ∀ cb, Fit cb (exLs2.map Ln.lst) (prevOf exLs2) defCfg := by
  have hv : ∀ l ∈ exLs2, l.Val := by
    intro l hl
    simp only [exLs2, List.mem_cons, List.mem_nil_iff, or_false] at hl
    rcases hl with rfl | rfl | rfl
    · show _ ∧ _; decide
    · show _ ∧ _; decide
    · show _ ∧ _ ∧ _; decide
  refine fit_of exLs2 (fun l hl => val_ok (hv l hl)) (fun l hl => val_nl (hv l hl)) (fun i l hl => ?_) (by decide) (fun c hk => (ex_of hk).short)
  match i, hl with
  | 0, hl => cases hl; rfl
  | 1, hl => cases hl; rfl
  | 2, hl => cases hl; rfl
  | n + 3, hl => simp [exLs2] at hl
theorem ex_parse1 (w : World) (hr : Rdy w) : Calls Tryz.prog 13 #[.string ⟨#[99, 101, 110, 116, 114, 101, 115, 32, 49, 10, 110, 111, 100, 101, 32, 48, 10]⟩] w fun e w' => ∃ c, e = .returned (.tuple #[.agg c.cells.toArray, .int .i64 0, .int .i64 0]) ∧ Ex c ∧ CfgAt w' w'.heap.size c ∧ CfgSz c ∧ Below w.heap.size w w' := by
  have h := parse_lines w hr (exLs.map Ln.lst) (prevOf exLs) ex_fit1 (by rw [ex_rest1]; decide) (by decide)
  rw [show bs (restT (exLs.map Ln.lst) 0) = ⟨#[99, 101, 110, 116, 114, 101, 115, 32, 49, 10, 110, 111, 100, 101, 32, 48, 10]⟩ from by rw [ex_rest1]; rfl] at h
  refine h.mono ?_
  rintro e w' ⟨c, hre, hca, hcz, hb, he, _⟩
  have hx := ex_of (reach_k hre)
  exact ⟨c, he ⟨hx.fine, by rw [hx.text, ex_rest1]⟩, hx, hca, hcz, hb⟩
theorem ex_parse2 (w : World) (hr : Rdy w) : Calls Tryz.prog 13 #[.string ⟨#[99, 101, 110, 116, 114, 101, 115, 32, 49, 10, 110, 111, 100, 101, 32, 48, 10, 98, 101, 97, 116, 32, 50, 10]⟩] w fun e w' => e = .returned (.tuple #[.agg #[.int .i64 0, .slice none 0 0, .slice none 0 0, .slice none 0 0, .slice none 0 0, .int .i64 0, .int .i64 0, .int .i64 0, .int .i64 0, .int .i64 0, .int .i64 0, .int .i64 0, .int .i64 0, .int .i64 0, .int .i64 0], .int .i64 3, .int .i64 2]) ∧ Below w.heap.size w w' := by
  have h := parse_lines w hr (exLs2.map Ln.lst) (prevOf exLs2) ex_fit2 (by rw [ex_rest2]; decide) (by decide)
  rw [show bs (restT (exLs2.map Ln.lst) 0) = ⟨#[99, 101, 110, 116, 114, 101, 115, 32, 49, 10, 110, 111, 100, 101, 32, 48, 10, 98, 101, 97, 116, 32, 50, 10]⟩ from by rw [ex_rest2]; rfl] at h
  refine h.mono ?_
  rintro e w' ⟨c, hre, hca, hcz, hb, _, he⟩
  have hx := ex_of (reach_k hre)
  exact ⟨he (fun q => by rw [hx.text, ex_rest2] at q; exact absurd q.2 (by decide)), hb⟩
theorem wpList_load_row_g {P : Program} {ops : Array Oper} {rest : List Oper} {o : Oper} {a : Act} {w : World} {Q : Exit → Act → World → Prop} (hw : Region.wanted o (yielded ops a.tmps) = true) (ty : TypeId) (x : Operand) (ho : o.op = .load ty x)
    (g : Nat) (hx : a.eval x = .pointer (some ⟨g, 0, none⟩)) (t : TypeId) (cs : Array Value) (fr : Nat × Nat) (d : TypeDesc) (hg : w.heap[g]? = some (.cells cs t fr))
    (hu : P.underlying ty = some d) (hd : (match d with | .struct _ | .array _ _ => true | _ => false) = true) (hi : (P.info? ty).map (·.size) = some cs.size)
    (h : wpList P ops Q rest (a.put o.dst (.agg cs)) w) : wpList P ops Q (o :: rest) a w :=
  BigFrame.wpList_want hw fun _ hK => wp_load_row ty x ho g hx t cs fr d hg hu hd hi (hK _ _ h)
set_option maxRecDepth 100000 in
set_option maxHeartbeats 4000000 in
theorem awake_any (w : World) (hr : Rdy w) : Calls Tryz.prog 9 #[] w fun e w' => e = .returned (.bool true) ∧ Below w.heap.size w w' := by
  have HR := Lib.hid hr
  clear hr
  go_enter Tryz.func9, Tryz.ntmps9
  go_wp2_with fail
  refine (ex_parse1 w HR.out).mono ?_
  rintro e w1 ⟨c, rfl, hx, hca, hcz, hb1⟩
  have hxs : c.cells.toArray.size = 15 := by simp [Cfg.cells, hca.ten]
  have hsz : (Tryz.prog.info? 27).map (·.size) = some c.cells.toArray.size := by
    have k15 : (Tryz.prog.info? 27).map (·.size) = some 15 := by kernel_rfl
    rw [hxs, k15]
  have hone := cells_one c
  have hrow0 := new_obj w1 (.cells #[.int .i64 0, .slice none 0 0, .slice none 0 0, .slice none 0 0, .slice none 0 0, .int .i64 0, .int .i64 0, .int .i64 0, .int .i64 0, .int .i64 0, .int .i64 0, .int .i64 0, .int .i64 0, .int .i64 0, .int .i64 0] 27)
  have hbz : Below w1.heap.size w1 (w1.alloc (.cells #[.int .i64 0, .slice none 0 0, .slice none 0 0, .slice none 0 0, .slice none 0 0, .int .i64 0, .int .i64 0, .int .i64 0, .int .i64 0, .int .i64 0, .int .i64 0, .int .i64 0, .int .i64 0, .int .i64 0, .int .i64 0] 27)) := (Below.refl _ _).alloc (Nat.le_refl _) _
  have hb2 : Below w1.heap.size w1 ((w1.alloc (.cells #[.int .i64 0, .slice none 0 0, .slice none 0 0, .slice none 0 0, .slice none 0 0, .int .i64 0, .int .i64 0, .int .i64 0, .int .i64 0, .int .i64 0, .int .i64 0, .int .i64 0, .int .i64 0, .int .i64 0, .int .i64 0] 27)).setRow w1.heap.size c.cells.toArray) := below_row hbz _
  have hrow := setRow_heap _ _ _ c.cells.toArray _ _ hrow0
  have hz2 : w1.heap.size < ((w1.alloc (.cells #[.int .i64 0, .slice none 0 0, .slice none 0 0, .slice none 0 0, .slice none 0 0, .int .i64 0, .int .i64 0, .int .i64 0, .int .i64 0, .int .i64 0, .int .i64 0, .int .i64 0, .int .i64 0, .int .i64 0, .int .i64 0] 27)).setRow w1.heap.size c.cells.toArray).heap.size := by simp
  have HC := Lib.hid (And.intro hx (And.intro ((hca.below hb2).more hb2.size) (And.intro hcz (And.intro (hb1.trans (hb2.mono hb1.size)) hz2))))
  have f1 : c.cells.toArray[1]? = some (.slice c.dA 1 c.dc) := by have : c.cells.toArray[1]? = some (.slice c.dA c.ds.length c.dc) := rfl; rw [this, hx.ds]; rfl
  have f5 : c.cells.toArray[5]? = some (.int .i64 2) := cfg_par (k := 0) (by rw [hx.ps]; rfl)
  have HV : Hid (∀ W, CfgAt W W.heap.size c → Calls Tryz.prog 10 #[.agg c.cells.toArray] W fun e w' => e = .returned (.int .i64 0) ∧ Below W.heap.size W w') := Lib.hid (fun W hW => by
    have := validate_any W c hW hcz
    rw [hx.fine] at this
    exact this)
  obtain ⟨X, hX⟩ : ∃ X, X = c.cells.toArray := ⟨_, rfl⟩
  rw [← hX] at hxs hsz hone hb2 hrow hz2 HC f1 f5 HV
  rw [← hX]
  have HXS := Lib.hid (And.intro hxs (And.intro hsz hone))
  have HROW := Lib.hid hrow
  clear hx hca hcz hb1 hb2 hbz hX hz2 hrow
  go_wp2_with (refine wpList_store_row rfl 27 (.tmp 1) (.tmp 9) rfl w1.heap.size X rfl rfl 27 _ hrow0 hsz hxs.symm hone ?_)
  obtain ⟨W2, hW2⟩ : ∃ Y, Y = (w1.alloc (.cells #[.int .i64 0, .slice none 0 0, .slice none 0 0, .slice none 0 0, .slice none 0 0, .int .i64 0, .int .i64 0, .int .i64 0, .int .i64 0, .int .i64 0, .int .i64 0, .int .i64 0, .int .i64 0, .int .i64 0, .int .i64 0] 27)).setRow w1.heap.size X := ⟨_, rfl⟩
  rw [← hW2] at HC HROW
  rw [← hW2]
  clear hW2 hrow0
  refine (ex_parse2 W2 (HR.out.below HC.out.2.2.2.1)).mono ?_
  rintro e w3 ⟨rfl, hb3⟩
  have hb4 : Below w3.heap.size w3 (w3.alloc (.cells #[.int .i64 0, .slice none 0 0, .slice none 0 0, .slice none 0 0, .slice none 0 0, .int .i64 0, .int .i64 0, .int .i64 0, .int .i64 0, .int .i64 0, .int .i64 0, .int .i64 0, .int .i64 0, .int .i64 0, .int .i64 0] 27)) := (Below.refl _ _).alloc (Nat.le_refl _) _
  have hb5 : Below W2.heap.size W2 (w3.alloc (.cells #[.int .i64 0, .slice none 0 0, .slice none 0 0, .slice none 0 0, .slice none 0 0, .int .i64 0, .int .i64 0, .int .i64 0, .int .i64 0, .int .i64 0, .int .i64 0, .int .i64 0, .int .i64 0, .int .i64 0, .int .i64 0] 27)) := hb3.trans (hb4.mono hb3.size)
  have row := (hb5.block w1.heap.size HC.out.2.2.2.2).trans HROW.out
  have k1 : (w3.alloc (.cells #[.int .i64 0, .slice none 0 0, .slice none 0 0, .slice none 0 0, .slice none 0 0, .int .i64 0, .int .i64 0, .int .i64 0, .int .i64 0, .int .i64 0, .int .i64 0, .int .i64 0, .int .i64 0, .int .i64 0, .int .i64 0] 27)).cell? ⟨w1.heap.size, 1, none⟩ = some (.slice c.dA 1 c.dc) := (cell_of_row _ w1.heap.size 1 _ _ _ row).trans f1
  have k5 : (w3.alloc (.cells #[.int .i64 0, .slice none 0 0, .slice none 0 0, .slice none 0 0, .slice none 0 0, .int .i64 0, .int .i64 0, .int .i64 0, .int .i64 0, .int .i64 0, .int .i64 0, .int .i64 0, .int .i64 0, .int .i64 0, .int .i64 0] 27)).cell? ⟨w1.heap.size, 5, none⟩ = some (.int .i64 2) := (cell_of_row _ w1.heap.size 5 _ _ _ row).trans f5
  have HB5 := Lib.hid (And.intro ((HC.out.2.1.below hb5).more hb5.size) (HC.out.2.2.2.1.trans (hb5.mono HC.out.2.2.2.1.size)))
  clear hb3 hb4 hb5 f1 f5
  go_wp2_with (refine wpList_load_row_g (by rfl) 27 (.tmp 1) rfl w1.heap.size rfl 27 X (0, 0) _ row Tryz.underlying27 rfl hsz ?_)
  refine (HV.out _ HB5.out.1).mono ?_
  rintro e w5 ⟨rfl, hb6⟩
  have HB6 := Lib.hid (HB5.out.2.trans (hb6.mono HB5.out.2.size))
  clear hb6 row k1 k5
  go_wp2_with fail
  go_ret
  exact ⟨rfl, HB6.out⟩
end Go.Proofs.YtloacoalmfaceaaGreatDoor
