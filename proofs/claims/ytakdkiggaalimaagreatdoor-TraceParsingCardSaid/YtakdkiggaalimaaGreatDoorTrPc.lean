/-
  trace.ParseAction, trace.ParseEvent: what both want (printed by gentrpa.py).
-/
import Derived.Test.YtakdkiggaalimaaGreatDoorTrRe
import Derived.Test.YtakdkiggaalimaaGreatDoorTrSp
import Derived.Test.YtakdkiggaalimaaGreatDoorTrLn
import Derived.Deep.WholeRow
namespace Go.Proofs.YtakdkiggaalimaaGreatDoor
open Go.RowKit Go.Maps
open Go.Lib (itoa)

theorem ActBd.r {a : ActM} (h : ActBd a) : ActR a.con :=
  ⟨h.kind, h.who, h.n, h.call, h.other, h.node, by show (a.srcs.map SrcM.con).length ≤ _; rw [List.length_map]; have := h.srcs.1; omega, fun s hs => by
    obtain ⟨x, hx, rfl⟩ := List.mem_map.1 hs
    obtain ⟨h1, h2, h3⟩ := h.srcs.2 x hx
    exact ⟨h1, Nat.le_trans h2 (by decide), h3⟩, Nat.le_trans h.groups.1 (by decide), h.groups.2⟩
theorem ActBd.l {a : ActM} (h : ActBd a) : ActL a :=
  ⟨Nat.le_trans h.srcs.1 (by decide), fun s hs => Nat.le_trans (h.srcs.2 s hs).2.1 (by decide), Nat.le_trans h.groups.1 (by decide)⟩
theorem actCs_one (a : ActM) : (actCs a).toArray.all (·.oneCell') = true := by
  unfold actCs
  simp [Value.oneCell']
theorem act_size : (Tryz.prog.info? 33).map (·.size) = some 8 := by kernel_rfl
theorem own_base {Y : World} {base base' : Nat} {e : TypeId} {s n : Nat} {v : Value} {xs : List Value} (h : Y.ownsRow base e s v n xs) (hb : base' ≤ base) : Y.ownsRow base' e s v n xs := by
  obtain ⟨h1, h2⟩ := h
  refine ⟨h1, ?_⟩
  rcases h2 with h2 | ⟨g, cap, cur, e, hg, r⟩
  · exact .inl h2
  · exact .inr ⟨g, cap, cur, e, Nat.le_trans hb hg, r⟩
theorem ActO.base {Y : World} {base base' : Nat} {a : ActM} (h : ActO Y base a) (hb : base' ≤ base) : ActO Y base' a := ⟨h.srcs.base hb, own_base h.groups hb⟩
theorem own_next {Y Z : World} {base : Nat} {e : TypeId} {s n : Nat} {v : Value} {xs : List Value} (h : Y.ownsRow base e s v n xs) (hb : Below Y.heap.size Y Z) : Z.ownsRow base e s v n xs :=
  Only.row (S := fun _ => False) (Only.of_below hb) h (fun _ _ q => q)
theorem ActO.next {Y Z : World} {base : Nat} {a : ActM} (h : ActO Y base a) (hb : Below Y.heap.size Y Z) : ActO Z base a := ⟨⟨own_next h.srcs.row hb, fun s hs => own_next (h.srcs.nodes s hs) hb⟩, own_next h.groups hb⟩
theorem ActO.only2 {Y Z : World} {base g : Nat} {x : ActM} (h : ActO Y base x) {T : TypeId} {cs : List Value} (hb : Blk Y g T cs) (hT : T ≠ 3 ∧ T ≠ 80) (ho : Only (fun k => k = g) Y Z) : ActO Z base x :=
  ⟨⟨own_keep h.srcs.row hb hT.2 ho, fun s hs => own_keep (h.srcs.nodes s hs) hb hT.1 ho⟩, own_keep h.groups hb hT.1 ho⟩
theorem results_cell_tmp {P : Program} {fn : Func} {p u : Tmp} {ty : TypeId} (h : fn.results = #[.cell p ty, .tmp u]) (tmps : Array Value) (w : World) (g : Nat) (t : TypeId) (cs : Array Value) (fr : Nat × Nat) (d : TypeDesc)
    (hp : tmps.getD p undef = .pointer (some ⟨g, 0, none⟩)) (hg : w.heap[g]? = some (.cells cs t fr)) (hu : P.underlying ty = some d) (hd : (match d with | .struct _ | .array _ _ => true | _ => false) = true) (hi : (P.info? ty).map (·.size) = some cs.size) :
    (results fn tmps).run P w = .ok (.tuple #[.agg cs, tmps.getD u undef]) w := by
  have hp' : tmps[p]?.getD undef = .pointer (some ⟨g, 0, none⟩) := by simpa using hp
  simp [results, h, hp', asAddr, run_loadVar_row w g t ty cs fr d hg hu hd hi]
theorem d65_no {s : Wd} (h : s.length ≤ 65536) : decide ((65536 : Int) < ((bs s).size : Int)) = false := decide_eq_false (by rw [bs_size]; omega)
theorem d65_yes {s : Wd} (h : ¬ s.length ≤ 65536) : decide ((65536 : Int) < ((bs s).size : Int)) = true := decide_eq_true (by rw [bs_size]; omega)
theorem rd_start (X : World) (s : Wd) (hs : s.length ≤ 65536) : RdAt (X.heap.size + 1) (some (wordsL s)) ((X.alloc (.cells ((wordsL s).map wdV).toArray 9)).alloc (.cells #[.slice (some ⟨X.heap.size, 0, none⟩) (wordsL s).length (wordsL s).length, .bool false] RT)) := by
  have h1 := new_obj (X.alloc (.cells ((wordsL s).map wdV).toArray 9)) (.cells #[.slice (some ⟨X.heap.size, 0, none⟩) (wordsL s).length (wordsL s).length, .bool false] RT)
  have e : (X.alloc (.cells ((wordsL s).map wdV).toArray 9)).heap.size = X.heap.size + 1 := by simp
  rw [e] at h1
  refine ⟨some ⟨X.heap.size, 0, none⟩, wordsL s, (wordsL s).length, false, h1, ?_, Nat.le_refl _, ?_, fun w hw => ?_, rfl⟩
  · intro j u hj
    refine ⟨X.heap.size, 0, rfl, by omega, ?_⟩
    rw [World.cell?_alloc_past (hn := by simp)]
    rw [World.cell?_alloc_at (hn := rfl)]
    simpa using hj
  · have := wordsL_len s
    omega
  · have := word_len hw
    omega
end Go.Proofs.YtakdkiggaalimaaGreatDoor
