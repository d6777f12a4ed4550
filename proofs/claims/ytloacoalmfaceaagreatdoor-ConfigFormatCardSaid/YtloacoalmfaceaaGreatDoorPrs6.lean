/-
  config.Parse at texts made of lines that parseLine knows; at a text that is too long (printed by genprs6.py).
-/
import Derived.Test.YtloacoalmfaceaaGreatDoorPln6
import Derived.Laws.Tables
namespace Go.Proofs.YtloacoalmfaceaaGreatDoor
open Go.RowKit Go.Maps Go.Shelf

theorem cut_any (s sep : ByteArray) (p r : List UInt8) (b : Bool) (h : Lib.cut s.data.toList sep.data.toList = (p, r, b)) (hs : s.size ≤ 1099511627) (w : World) (hr : Rdy w) :
    Calls Tryz.prog 37 #[.string s, .string sep] w fun e w' => e = .returned (.tuple #[.string (bs p), .string (bs r), .bool b]) ∧ Below w.heap.size w w' := by
  obtain ⟨m, hm⟩ := hr.r.most
  refine (Tryz.strings_Cut s sep m w (by omega) hm).mono ?_
  rintro e w' ⟨rfl, n, rfl⟩
  rw [h]
  exact ⟨rfl, below_dr (Below.refl _ _) _⟩
def inP (p q : Nat) : Bool := if q = 0 then decide (p = 1) else decide (q < p) || (decide (p = q) && decide (2 ≤ p ∧ p ≤ 5))
set_option maxRecDepth 100000 in
theorem inPlace_any (p q : Nat) (w : World) : Calls Tryz.prog 39 #[.int .i64 p, .int .i64 q] w fun e w' => e = .returned (.bool (inP p q)) ∧ w' = w := by
  by_cases h0 : q = 0
  · subst h0
    by_cases h1 : p = 1
    · subst h1
      go_enter Tryz.func39, Tryz.ntmps39
      go_wp2_with fail
      go_ret
      exact ⟨rfl, rfl⟩
    · have e1 : ((p : Int) == 1) = false := by simp; omega
      have HP : Hid (inP p 0 = false) := by show _ = _; simp [inP, h1]
      clear h1
      go_enter Tryz.func39, Tryz.ntmps39
      go_wp2_with fail
      go_ret
      exact ⟨by rw [HP.out]; rfl, rfl⟩
  · have e0 : ((q : Int) == 0) = false := by simp; omega
    by_cases h1 : q < p
    · have HP : Hid (inP p q = true) := by show _ = _; simp [inP, h0, h1]
      have d1 : decide ((q : Int) < (p : Int)) = true := decide_eq_true (by omega)
      clear h0
      obtain ⟨b2, hb2⟩ : ∃ b, b = ((p : Int) == 2) := ⟨_, rfl⟩
      obtain ⟨b3, hb3⟩ : ∃ b, b = ((p : Int) == 3) := ⟨_, rfl⟩
      obtain ⟨b4, hb4⟩ : ∃ b, b = ((p : Int) == 4) := ⟨_, rfl⟩
      obtain ⟨b5, hb5⟩ : ∃ b, b = ((p : Int) == 5) := ⟨_, rfl⟩
      have g2 := hb2.symm
      have g3 := hb3.symm
      have g4 := hb4.symm
      have g5 := hb5.symm
      clear hb2 hb3 hb4 hb5
      go_enter Tryz.func39, Tryz.ntmps39
      cases b2 <;> cases b3 <;> cases b4 <;> cases b5 <;> (go_wp2_with fail; go_ret; exact ⟨by rw [HP.out]; rfl, rfl⟩)
    · have d1 : decide ((q : Int) < (p : Int)) = false := decide_eq_false (by omega)
      by_cases h2 : p = q
      · subst h2
        obtain ⟨r, hr⟩ : ∃ r, r = decide (2 ≤ p ∧ p ≤ 5) := ⟨_, rfl⟩
        have HP : Hid (inP p p = r) := by show _ = _; simp [inP, h0, hr]
        by_cases h25 : 2 ≤ p ∧ p ≤ 5
        · have hr1 : r = true := by rw [hr]; exact decide_eq_true h25
          subst hr1
          clear hr
          have : p = 2 ∨ p = 3 ∨ p = 4 ∨ p = 5 := by omega
          clear e0 d1 h0 h1 h25
          rcases this with rfl | rfl | rfl | rfl <;> (go_enter Tryz.func39, Tryz.ntmps39; go_wp2_with fail; go_ret; exact ⟨by rw [HP.out]; rfl, rfl⟩)
        · have hr1 : r = false := by rw [hr]; exact decide_eq_false h25
          subst hr1
          have g2 : ((p : Int) == 2) = false := by simp; omega
          have g3 : ((p : Int) == 3) = false := by simp; omega
          have g4 : ((p : Int) == 4) = false := by simp; omega
          have g5 : ((p : Int) == 5) = false := by simp; omega
          clear hr h0 h1 h25
          go_enter Tryz.func39, Tryz.ntmps39
          go_wp2_with fail
          go_ret
          exact ⟨by rw [HP.out]; rfl, rfl⟩
      · have HP : Hid (inP p q = false) := by show _ = _; simp [inP, h0, h1, h2]
        have d2 : ((p : Int) == (q : Int)) = false := by simp; omega
        clear h0 h2
        obtain ⟨b2, hb2⟩ : ∃ b, b = ((p : Int) == 2) := ⟨_, rfl⟩
        obtain ⟨b3, hb3⟩ : ∃ b, b = ((p : Int) == 3) := ⟨_, rfl⟩
        obtain ⟨b4, hb4⟩ : ∃ b, b = ((p : Int) == 4) := ⟨_, rfl⟩
        obtain ⟨b5, hb5⟩ : ∃ b, b = ((p : Int) == 5) := ⟨_, rfl⟩
        have g2 := hb2.symm
        have g3 := hb3.symm
        have g4 := hb4.symm
        have g5 := hb5.symm
        clear hb2 hb3 hb4 hb5
        go_enter Tryz.func39, Tryz.ntmps39
        cases b2 <;> cases b3 <;> cases b4 <;> cases b5 <;> (go_wp2_with fail; go_ret; exact ⟨by rw [HP.out]; rfl, rfl⟩)
/-- a line: its words, its place, what it does to the configuration under way. -/
structure LSt where
  ws : List (List UInt8)
  pl : Nat
  st : Cfg → Cfg → Prop
def LSt.txt (l : LSt) : List UInt8 := lineT l.ws
def LineOk (cb : Nat) (l : LSt) (c : Cfg) : Prop := ∀ W, PAt cb c W → Rdy W → Calls Tryz.prog 38 #[.pointer (some ⟨cb, 0, none⟩), .string (bs (Lib.join l.ws [32]))] W (RetLn cb W l.pl (l.st c))
def Reach : List LSt → Cfg → Cfg → Prop
  | [], c, d => d = c
  | l :: r, c, d => ∃ c1, l.st c c1 ∧ Reach r c1 d
theorem Reach.snoc : ∀ {Ls : List LSt} {c d e : Cfg} {l : LSt}, Reach Ls c d → l.st d e → Reach (Ls ++ [l]) c e
  | [], c, d, e, l, h, hs => by
    have h : d = c := h
    subst h
    exact ⟨e, hs, rfl⟩
  | a :: r, c, d, e, l, ⟨c1, h1, h2⟩, hs => ⟨c1, h1, Reach.snoc h2 hs⟩
def restT (Ls : List LSt) (i : Nat) : List UInt8 := ((Ls.drop i).map LSt.txt).flatten
theorem restT_cons {Ls : List LSt} {i : Nat} {l : LSt} (h : Ls[i]? = some l) : restT Ls i = l.txt ++ restT Ls (i + 1) := by
  have hi : i < Ls.length := (List.getElem?_eq_some_iff.1 h).1
  unfold restT
  rw [List.drop_eq_getElem_cons hi]
  have : Ls[i] = l := by
    have := List.getElem?_eq_getElem hi
    rw [h] at this
    exact (Option.some.inj this).symm
  rw [this]
  rfl
theorem restT_end (Ls : List LSt) : restT Ls Ls.length = [] := by simp [restT]
theorem restT_le (Ls : List LSt) : ∀ i, (restT Ls (i + 1)).length ≤ (restT Ls i).length := fun i => by
  cases h : Ls[i]? with
  | none =>
    have hi : Ls.length ≤ i := List.getElem?_eq_none_iff.1 h
    simp [restT, List.drop_eq_nil_of_le hi, List.drop_eq_nil_of_le (Nat.le_succ_of_le hi)]
  | some l => rw [restT_cons h]; simp
theorem restT_top (Ls : List LSt) : ∀ i, (restT Ls i).length ≤ (restT Ls 0).length
  | 0 => Nat.le_refl _
  | i + 1 => Nat.le_trans (restT_le Ls i) (restT_top Ls i)
theorem cut_line {ws : List (List UInt8)} {r : List UInt8} (h : (10 : UInt8) ∉ Lib.join ws [32]) : Lib.cut (lineT ws ++ r) [10] = (Lib.join ws [32], r, true) := by
  unfold lineT
  have := cut_at (c := 10) (t := []) (r := r) h
  rw [List.append_assoc]
  exact this
/-- what Parse asks of its lines. -/
structure Fit (cb : Nat) (Ls : List LSt) (prev : Nat → Nat) (c0 : Cfg) : Prop where
  ok : ∀ i l, Ls[i]? = some l → ∀ c, Reach (Ls.take i) c0 c → LineOk cb l c
  nl : ∀ l ∈ Ls, (10 : UInt8) ∉ Lib.join l.ws [32]
  first : prev 0 = 0
  next : ∀ i l, Ls[i]? = some l → prev (i + 1) = l.pl ∧ inP l.pl (prev i) = true
  fin : ∀ c, Reach Ls c0 c → Short c ∧ ∀ p ∈ c.pl, (∀ z ∈ p.kinds, (Lit.int .i64 z).wf = true) ∧ (Lit.int .i64 p.urg).wf = true ∧ p.code.size ≤ 9223372036854775807
theorem ownV_caps {α : Type} {f : α → Value} {w : World} {base : Nat} {e : TypeId} {A : Option Addr} {n c : Nat} {zs : List α} (h : OwnV f w base e (.slice A n c) zs) : zs.length ≤ c ∧ c ≤ 9223372036854775807 ∧ (A = none → c = 0) := by
  rcases h.2 with ⟨e1, e2⟩ | ⟨g4, c4, cur4, e1, _, _, e2, e3, _⟩
  · injection e1 with e3 e4 e5
    subst e3 e5
    exact ⟨by omega, by omega, fun _ => rfl⟩
  · injection e1 with e5 e6 e7
    subst e7
    refine ⟨e2, by unfold maxLen at e3; omega, fun q => ?_⟩
    rw [q] at e5
    cases e5
theorem PAt.cfgAt {cb : Nat} {c : Cfg} {W : World} (h : PAt cb c W) (hw : ∀ p ∈ c.pl, (∀ z ∈ p.kinds, (Lit.int .i64 z).wf = true) ∧ (Lit.int .i64 p.urg).wf = true ∧ p.code.size ≤ 9223372036854775807) : CfgAt W W.heap.size c := by
  refine ⟨?_, ?_, ?_, fun i p hi => ⟨?_, ?_⟩, h.ten⟩
  · obtain ⟨A, cc, e, hs⟩ := OwnV.sl h.ds
    injection e with e
    rw [e]
    exact hs
  · obtain ⟨A, cc, e, hs⟩ := OwnR.sl h.es
    injection e with e
    rw [e]
    exact hs
  · obtain ⟨A, cc, e, hs⟩ := OwnR.sl h.us
    injection e with e
    rw [e]
    exact hs
  · obtain ⟨A, cc, e, hs⟩ := OwnR.sl h.pl
    injection e with e
    obtain ⟨b, o, hA, hb, hc⟩ := RecsAt.at planC_len hs hi (by decide)
    obtain ⟨A2, c2, e2, hs2⟩ := OwnV.sl (h.ks p (List.mem_of_getElem? hi))
    injection e2 with e2
    refine ⟨b, o, e.trans hA, hb, ?_, ?_, ?_, ?_⟩
    · simpa using hc 0 _ rfl
    · simpa using hc 1 _ rfl
    · simpa using hc 2 _ rfl
    · rw [e2]; exact hs2
  · obtain ⟨h1, h2, h3⟩ := hw p (List.mem_of_getElem? hi)
    obtain ⟨k1, k2, k3⟩ := ownV_caps (h.ks p (List.mem_of_getElem? hi))
    exact ⟨h1, h2, h3, k1, k2, k3⟩
theorem PAt.sz {cb : Nat} {c : Cfg} {W : World} (h : PAt cb c W) (hs : Short c) : CfgSz c := by
  obtain ⟨s1, s2, s3, s4⟩ := hs
  refine ⟨by omega, by omega, by omega, by omega, (OwnR.caps h.pl).2.1, fun p hp => ?_⟩
  have := ownV_caps (h.ks p hp)
  omega
def zeroCfg : Cfg := ⟨0, none, [], 0, none, [], 0, none, [], 0, none, [], 0, [0, 0, 0, 0, 0, 0, 0, 0, 0, 0]⟩
theorem results_cell_tmp2 {P : Program} {fn : Func} {p u v : Tmp} {ty : TypeId} (h : fn.results = #[.cell p ty, .tmp u, .tmp v]) (tmps : Array Value) (w : World) (g : Nat) (t : TypeId) (cs : Array Value) (fr : Nat × Nat) (d : TypeDesc)
    (hp : tmps.getD p undef = .pointer (some ⟨g, 0, none⟩)) (hg : w.heap[g]? = some (.cells cs t fr)) (hu : P.underlying ty = some d) (hd : (match d with | .struct _ | .array _ _ => true | _ => false) = true) (hi : (P.info? ty).map (·.size) = some cs.size) :
    (results fn tmps).run P w = .ok (.tuple #[.agg cs, tmps.getD u undef, tmps.getD v undef]) w := by
  have hp' : tmps[p]?.getD undef = .pointer (some ⟨g, 0, none⟩) := by simpa using hp
  simp [results, h, hp', asAddr, run_loadVar_row w g t ty cs fr d hg hu hd hi]
theorem below_row {w W : World} (h : Below w.heap.size w W) (cs : Array Value) : Below w.heap.size w (W.setRow w.heap.size cs) :=
  ⟨h.os, h.tape, h.output, by simpa using h.size, fun k hk => (setRow_other W _ k cs (by omega)).trans (h.block k hk)⟩
set_option maxRecDepth 100000 in
set_option maxHeartbeats 4000000 in
theorem parse_long (s : ByteArray) (hs : 65536 < s.size) (w : World) : Calls Tryz.prog 13 #[.string s] w fun e w' => e = .returned (.tuple #[.agg #[.int .i64 0, .slice none 0 0, .slice none 0 0, .slice none 0 0, .slice none 0 0, .int .i64 0, .int .i64 0, .int .i64 0, .int .i64 0, .int .i64 0, .int .i64 0, .int .i64 0, .int .i64 0, .int .i64 0, .int .i64 0], .int .i64 0, .int .i64 3]) ∧ Below w.heap.size w w' := by
  have d0 : decide ((65536 : Int) < (s.size : Int)) = true := decide_eq_true (by omega)
  clear hs
  go_enter Tryz.func13, Tryz.ntmps13
  go_wp2_with fail
  exact bodyPost_ret (results_cell_tmp2 Tryz.results13 _ _ w.heap.size 27 _ (0, 0) _ (by rfl) (new_obj w _) Tryz.underlying27 rfl (by kernel_rfl)) rfl ⟨rfl, (Below.refl _ _).alloc (Nat.le_refl _) _⟩
theorem cells_one (c : Cfg) : c.cells.toArray.all (·.oneCell') = true := by
  rw [Array.all_eq_true_iff_forall_mem]
  intro x hx
  have hx : x ∈ c.cells := by simpa using hx
  unfold Cfg.cells at hx
  rcases List.mem_append.1 hx with hx | hx
  · simp only [List.mem_cons, List.mem_nil_iff, or_false] at hx
    rcases hx with rfl | rfl | rfl | rfl | rfl <;> rfl
  · obtain ⟨z, _, rfl⟩ := List.mem_map.1 hx
    rfl
theorem PAt.only {cb AB : Nat} {c : Cfg} {W W' : World} (h : PAt cb c W) (ho : Only (fun b => b = AB) W W') (hA : AB < cb) : PAt cb c W' := by
  have hk : ∀ {e : TypeId} {s n : Nat} {v : Value} {xs : List Value}, W.ownsRow (cb + 1) e s v n xs → W'.ownsRow (cb + 1) e s v n xs := fun hr => ho.row hr (fun k e q => by have := (World.ownsRow.lt hr k e).1; omega)
  exact ⟨(ho.block cb h.lt (by omega)).trans h.cc, hk h.ds, hk h.es, hk h.us, hk h.pl, fun p hp => hk (h.ks p hp), h.ten⟩
theorem only_row (W : World) (g : Nat) (cs : Array Value) : Only (fun b => b = g) W (W.setRow g cs) := ⟨rfl, rfl, rfl, by simp, fun k _ hn => setRow_other W g k cs hn⟩
/-- what Parse returns at a text of lines. -/
def RetParse (Ls : List LSt) (w : World) (e : Ending) (w' : World) : Prop := ∃ c, Reach Ls defCfg c ∧ CfgAt w' w'.heap.size c ∧ CfgSz c ∧ Below w.heap.size w w' ∧
  (problem c = 0 ∧ textC c = restT Ls 0 → e = .returned (.tuple #[.agg c.cells.toArray, .int .i64 0, .int .i64 0])) ∧ (¬ (problem c = 0 ∧ textC c = restT Ls 0) → e = .returned (.tuple #[.agg #[.int .i64 0, .slice none 0 0, .slice none 0 0, .slice none 0 0, .slice none 0 0, .int .i64 0, .int .i64 0, .int .i64 0, .int .i64 0, .int .i64 0, .int .i64 0, .int .i64 0, .int .i64 0, .int .i64 0, .int .i64 0], .int .i64 (Ls.length : Int), .int .i64 2]))
set_option maxRecDepth 100000 in
set_option maxHeartbeats 8000000 in
theorem parse_lines (w : World) (hr : Rdy w) (Ls : List LSt) (prev : Nat → Nat) (hF : ∀ cb, Fit cb Ls prev defCfg) (hlen : (restT Ls 0).length ≤ 65536) (hll : Ls.length ≤ 100000000) :
    Calls Tryz.prog 13 #[.string (bs (restT Ls 0))] w (RetParse Ls w) := by
  have hbA : Below w.heap.size w (w.alloc (.cells #[.int .i64 0, .slice none 0 0, .slice none 0 0, .slice none 0 0, .slice none 0 0, .int .i64 0, .int .i64 0, .int .i64 0, .int .i64 0, .int .i64 0, .int .i64 0, .int .i64 0, .int .i64 0, .int .i64 0, .int .i64 0] 27)) := (Below.refl _ _).alloc (Nat.le_refl _) _
  have hrowA := new_obj w (.cells #[.int .i64 0, .slice none 0 0, .slice none 0 0, .slice none 0 0, .slice none 0 0, .int .i64 0, .int .i64 0, .int .i64 0, .int .i64 0, .int .i64 0, .int .i64 0, .int .i64 0, .int .i64 0, .int .i64 0, .int .i64 0] 27)
  have hzA : w.heap.size < (w.alloc (.cells #[.int .i64 0, .slice none 0 0, .slice none 0 0, .slice none 0 0, .slice none 0 0, .int .i64 0, .int .i64 0, .int .i64 0, .int .i64 0, .int .i64 0, .int .i64 0, .int .i64 0, .int .i64 0, .int .i64 0, .int .i64 0] 27)).heap.size := by simp
  obtain ⟨WA, hWA⟩ : ∃ Y, Y = w.alloc (.cells #[.int .i64 0, .slice none 0 0, .slice none 0 0, .slice none 0 0, .slice none 0 0, .int .i64 0, .int .i64 0, .int .i64 0, .int .i64 0, .int .i64 0, .int .i64 0, .int .i64 0, .int .i64 0, .int .i64 0, .int .i64 0] 27) := ⟨_, rfl⟩
  have hdc : defCfg.cells.toArray = #[.int .i64 0, .slice none 0 0, .slice none 0 0, .slice none 0 0, .slice none 0 0, .int .i64 2, .int .i64 10, .int .i64 12, .int .i64 20, .int .i64 30, .int .i64 4, .int .i64 10, .int .i64 50, .int .i64 1, .int .i64 8] := rfl
  have HD := Lib.hid (default_any WA)
  have HRW0 := Lib.hid hr
  rw [hdc] at HD
  rw [← hWA] at hbA hrowA hzA
  have HA := Lib.hid (And.intro hbA (And.intro hrowA hzA))
  obtain ⟨S0, hS0⟩ : ∃ S, S = bs (restT Ls 0) := ⟨_, rfl⟩
  have d0 : decide ((65536 : Int) < (S0.size : Int)) = false := decide_eq_false (by rw [hS0, bs_size]; omega)
  have HS0 := Lib.hid (And.intro hS0 hlen)
  rw [← hS0]
  have HFit := Lib.hid hF
  clear hbA hrowA hzA hr hF hS0 hlen hdc
  go_enter Tryz.func13, Tryz.ntmps13
  go_wp2_with fail
  rw [← hWA]
  clear hWA
  refine HD.out.mono ?_
  rintro e W1 ⟨rfl, hb1⟩
  have hp0 : PAt W1.heap.size defCfg (W1.alloc (.cells #[.int .i64 0, .slice none 0 0, .slice none 0 0, .slice none 0 0, .slice none 0 0, .int .i64 2, .int .i64 10, .int .i64 12, .int .i64 20, .int .i64 30, .int .i64 4, .int .i64 10, .int .i64 50, .int .i64 1, .int .i64 8] 27)) := ⟨new_obj W1 _, OwnV.nil _ _ _, OwnR.nil _ _ _, OwnR.nil _ _ _, OwnR.nil _ _ _, (fun p hp => by cases hp), rfl⟩
  have hbW : Below W1.heap.size W1 (W1.alloc (.cells #[.int .i64 0, .slice none 0 0, .slice none 0 0, .slice none 0 0, .slice none 0 0, .int .i64 2, .int .i64 10, .int .i64 12, .int .i64 20, .int .i64 30, .int .i64 4, .int .i64 10, .int .i64 50, .int .i64 1, .int .i64 8] 27)) := (Below.refl _ _).alloc (Nat.le_refl _) _
  obtain ⟨W2, hW2⟩ : ∃ Y, Y = W1.alloc (.cells #[.int .i64 0, .slice none 0 0, .slice none 0 0, .slice none 0 0, .slice none 0 0, .int .i64 2, .int .i64 10, .int .i64 12, .int .i64 20, .int .i64 30, .int .i64 4, .int .i64 10, .int .i64 50, .int .i64 1, .int .i64 8] 27) := ⟨_, rfl⟩
  rw [← hW2] at hp0 hbW
  have HP0 := Lib.hid (And.intro hp0 hbW)
  have HB1 := Lib.hid (And.intro (HA.out.1.trans (hb1.mono HA.out.1.size)) (And.intro ((hb1.block w.heap.size HA.out.2.2).trans HA.out.2.1) (Nat.lt_of_lt_of_le HA.out.2.2 hb1.size)))
  have HRW : Hid (∀ Y, Below W1.heap.size W1 Y → Rdy Y) := Lib.hid (fun Y hY => HRW0.out.below (HB1.out.1.trans (hY.mono HB1.out.1.size)))
  clear hp0 hbW hb1 HD HA HRW0
  go_wp2_with fail
  rw [← hW2]
  clear hW2 d0
  go_loopw [6, 7, 8] (fun cnt prv rst Y => ∃ (i : Nat) (c : Cfg), i ≤ Ls.length ∧ cnt = .int .i64 i ∧ prv = .int .i64 (prev i) ∧ rst = .string (bs (restT Ls i)) ∧ Reach (Ls.take i) defCfg c ∧ PAt W1.heap.size c Y ∧ Below W1.heap.size W1 Y) (fun cnt _ _ _ => Ls.length - (intOf cnt).toNat)
  case atStart => exact ⟨0, defCfg, Nat.zero_le _, rfl, by rw [(HFit.out 0).first]; rfl, by rw [HS0.out.1], rfl, HP0.out.1, HP0.out.2⟩
  case round =>
    obtain ⟨i, c, hi, rfl, rfl, rfl, hre, hp, hb⟩ := hrel
    have HR := Lib.hid (And.intro hre (And.intro hp hb))
    clear hre hp hb
    by_cases hlt : i < Ls.length
    · obtain ⟨l, hl⟩ : ∃ l, Ls[i]? = some l := ⟨Ls[i], by simp⟩
      have HL := Lib.hid hl
      obtain ⟨S, hS⟩ : ∃ S, S = bs (restT Ls i) := ⟨_, rfl⟩
      have hdat : S.data.toList = l.txt ++ restT Ls (i + 1) := by rw [hS, bs_data, restT_cons hl]
      have e0 : (S.toList == []) = false := by rw [ByteArray.toList_eq, hdat]; simp [LSt.txt, lineT]
      have e0' : (S.toList != []) = true := by rw [bne, e0]; rfl
      have HC := Lib.hid (cut_any S ⟨#[10]⟩ (Lib.join l.ws [32]) (restT Ls (i + 1)) true (by rw [hdat]; exact cut_line ((HFit.out 0).nl l (List.mem_of_getElem? hl))) (by rw [hS, bs_size]; have := restT_top Ls i; have := HS0.out.2; omega) wr (HRW.out _ HR.out.2.2))
      rw [← hS]
      have HLO := Lib.hid ((HFit.out W1.heap.size).ok i l hl c HR.out.1)
      have HNX := Lib.hid ((HFit.out W1.heap.size).next i l hl)
      clear hS hdat hl
      go_wp2_with fail
      refine HC.out.mono ?_
      rintro e w3 ⟨rfl, hb3⟩
      have HP3 := Lib.hid (And.intro (HR.out.2.1.next hb3) (HR.out.2.2.trans (hb3.mono HR.out.2.2.size)))
      clear hb3 HC e0 e0'
      go_wp2_with fail
      refine (HLO.out w3 HP3.out.1 (HRW.out _ HP3.out.2)).mono ?_
      rintro e w4 ⟨rfl, c', hst, hp4, hb4⟩
      have HP4 := Lib.hid (And.intro hst (And.intro hp4 (HP3.out.2.trans (hb4.mono (Nat.le_refl _)))))
      clear hst hp4 hb4 HLO
      have HIP := Lib.hid (inPlace_any l.pl (prev i) w4)
      rw [HNX.out.2] at HIP
      go_wp2_with fail
      refine HIP.out.mono ?_
      rintro e w' ⟨rfl, hw⟩
      rw [hw]
      clear hw w' HIP
      go_wp2_with fail
      go_roundw
      case rel => exact ⟨i + 1, c', by omega, by go_num, by rw [HNX.out.1], rfl, by rw [take_snoc' HL.out]; exact Reach.snoc HR.out.1 HP4.out.1, HP4.out.2.1, HP4.out.2.2⟩
      case measure => simp [intOf]; omega
    · have hii : i = Ls.length := by omega
      subst hii
      have hre := HR.out.1
      rw [List.take_length] at hre
      have HFN := Lib.hid ((HFit.out W1.heap.size).fin c hre)
      have HRE := Lib.hid hre
      obtain ⟨S, hS⟩ : ∃ S, S = bs (restT Ls Ls.length) := ⟨_, rfl⟩
      have e0 : (S.toList == []) = true := by rw [hS, restT_end, ByteArray.toList_eq, bs_data]; rfl
      have e0' : (S.toList != []) = false := by rw [bne, e0]; rfl
      rw [← hS]
      have hca := HR.out.2.1.cfgAt HFN.out.2
      have hcz := HR.out.2.1.sz HFN.out.1
      have HCZ := Lib.hid hcz
      have row5 := HR.out.2.1.cc
      have rowA := (HR.out.2.2.block w.heap.size HB1.out.2.2).trans HB1.out.2.1
      have hxs : c.cells.toArray.size = 15 := by simp [Cfg.cells, HR.out.2.1.ten]
      have hsz : (Tryz.prog.info? 27).map (·.size) = some c.cells.toArray.size := by
        have k15 : (Tryz.prog.info? 27).map (·.size) = some 15 := by kernel_rfl
        rw [hxs, k15]
      have HXS := Lib.hid (And.intro hxs (And.intro hsz (cells_one c)))
      have fin : ∀ w5, Below wr.heap.size wr w5 → w5.heap[W1.heap.size]? = some (.cells c.cells.toArray 27 (0, 0)) ∧ w5.heap[w.heap.size]? = some (.cells #[.int .i64 0, .slice none 0 0, .slice none 0 0, .slice none 0 0, .slice none 0 0, .int .i64 0, .int .i64 0, .int .i64 0, .int .i64 0, .int .i64 0, .int .i64 0, .int .i64 0, .int .i64 0, .int .i64 0, .int .i64 0] 27 (0, 0)) ∧ ∀ cs, CfgAt (w5.setRow w.heap.size cs) (w5.setRow w.heap.size cs).heap.size c ∧ Below w.heap.size w (w5.setRow w.heap.size cs) := fun w5 hb5 => by
        have hp5 := HR.out.2.1.next hb5
        have hb6 : Below w.heap.size w w5 := HB1.out.1.trans ((HR.out.2.2.trans (hb5.mono HR.out.2.2.size)).mono HB1.out.1.size)
        refine ⟨hp5.cc, (hb5.block w.heap.size (Nat.lt_of_lt_of_le HB1.out.2.2 HR.out.2.2.size)).trans rowA, fun cs => ⟨(hp5.only (only_row w5 w.heap.size cs) HB1.out.2.2).cfgAt HFN.out.2, below_row hb6 cs⟩⟩
      have HFIN := Lib.hid fin
      by_cases hp0 : problem c = 0
      · have HFM := Lib.hid (format_fine wr c hca hcz HFN.out.1 (HRW.out _ HR.out.2.2) hp0)
        obtain ⟨T, hT⟩ : ∃ T, T = bs (textC c) := ⟨_, rfl⟩
        rw [← hT] at HFM
        have HP0' := Lib.hid (And.intro hp0 hT)
        by_cases hts : textC c = restT Ls 0
        · have HTS := Lib.hid hts
          have ht0 : T = S0 := by rw [hT, HS0.out.1, hts]
          subst ht0
          obtain ⟨X, hX⟩ : ∃ X, X = c.cells.toArray := ⟨_, rfl⟩
          have HX := Lib.hid hX
          rw [← hX] at row5 hsz HFM HFIN HXS
          clear fin hp0 hts hT hca hcz hxs hX rowA hS
          go_wp2_with (refine wpList_load_row rfl 27 (.tmp 5) rfl W1.heap.size rfl 27 X (0, 0) _ row5 Tryz.underlying27 rfl hsz ?_)
          refine HFM.out.mono ?_
          rintro e w5 ⟨rfl, hb5⟩
          obtain ⟨r5, rA, HE⟩ := HFIN.out w5 hb5
          have HEE := Lib.hid (HE X)
          have HRA := Lib.hid rA
          have hq : (T.toList == T.toList) = true := beq_iff_eq.2 rfl
          have hq' : (T.toList != T.toList) = false := by rw [bne, hq]; rfl
          clear hb5 HE row5
          go_wp2_with (first | (refine wpList_load_row rfl 27 (.tmp 5) rfl W1.heap.size rfl 27 X (0, 0) _ r5 Tryz.underlying27 rfl hsz ?_) | (refine wpList_store_row rfl 27 (.tmp 2) (.tmp 59) rfl w.heap.size X rfl rfl 27 _ rA hsz HXS.out.1.symm HXS.out.2.2 ?_))
          exact bodyPost_ret (results_cell_tmp2 Tryz.results13 _ _ w.heap.size 27 X (0, 0) _ (by rfl) (setRow_heap _ _ _ _ _ _ HRA.out) Tryz.underlying27 rfl hsz) rfl ⟨c, HRE.out, HEE.out.1, HCZ.out, HEE.out.2, fun _ => by rw [HX.out]; rfl, fun h => absurd ⟨HP0'.out.1, HTS.out⟩ h⟩
        · have HTS := Lib.hid hts
          have hq : (T.toList == S0.toList) = false := by
            rw [beq_eq_false_iff_ne]
            intro e
            have := toL_inj e
            rw [hT, HS0.out.1] at this
            exact hts (bs_inj this)
          have hq' : (T.toList != S0.toList) = true := by rw [bne, hq]; rfl
          obtain ⟨X, hX⟩ : ∃ X, X = c.cells.toArray := ⟨_, rfl⟩
          have HX := Lib.hid hX
          rw [← hX] at row5 hsz HFM HFIN HXS
          clear fin hp0 hts hT hca hcz hxs hX rowA hS
          go_wp2_with (refine wpList_load_row rfl 27 (.tmp 5) rfl W1.heap.size rfl 27 X (0, 0) _ row5 Tryz.underlying27 rfl hsz ?_)
          refine HFM.out.mono ?_
          rintro e w5 ⟨rfl, hb5⟩
          obtain ⟨r5, rA, HE⟩ := HFIN.out w5 hb5
          have HEE := Lib.hid (HE #[.int .i64 0, .slice none 0 0, .slice none 0 0, .slice none 0 0, .slice none 0 0, .int .i64 0, .int .i64 0, .int .i64 0, .int .i64 0, .int .i64 0, .int .i64 0, .int .i64 0, .int .i64 0, .int .i64 0, .int .i64 0])
          have HRA := Lib.hid rA
          clear hb5 HE row5
          go_wp2_with (refine wpList_store_row rfl 27 (.tmp 2) (.tmp 57) rfl w.heap.size #[.int .i64 0, .slice none 0 0, .slice none 0 0, .slice none 0 0, .slice none 0 0, .int .i64 0, .int .i64 0, .int .i64 0, .int .i64 0, .int .i64 0, .int .i64 0, .int .i64 0, .int .i64 0, .int .i64 0, .int .i64 0] rfl rfl 27 _ rA (by kernel_rfl) rfl (cells_one zeroCfg) ?_)
          exact bodyPost_ret (results_cell_tmp2 Tryz.results13 _ _ w.heap.size 27 #[.int .i64 0, .slice none 0 0, .slice none 0 0, .slice none 0 0, .slice none 0 0, .int .i64 0, .int .i64 0, .int .i64 0, .int .i64 0, .int .i64 0, .int .i64 0, .int .i64 0, .int .i64 0, .int .i64 0, .int .i64 0] (0, 0) _ (by rfl) (setRow_heap _ _ _ _ _ _ HRA.out) Tryz.underlying27 rfl (by kernel_rfl)) rfl ⟨c, HRE.out, HEE.out.1, HCZ.out, HEE.out.2, fun h => absurd h.2 HTS.out, fun _ => rfl⟩
      · have HFM := Lib.hid (format_bad wr c hca hcz hp0)
        have HPN := Lib.hid hp0
        obtain ⟨X, hX⟩ : ∃ X, X = c.cells.toArray := ⟨_, rfl⟩
        have HX := Lib.hid hX
        rw [← hX] at row5 hsz HFM HFIN HXS
        clear fin hp0 hca hcz hxs hX rowA hS
        go_wp2_with (refine wpList_load_row rfl 27 (.tmp 5) rfl W1.heap.size rfl 27 X (0, 0) _ row5 Tryz.underlying27 rfl hsz ?_)
        refine HFM.out.mono ?_
        rintro e w5 ⟨rfl, hb5⟩
        obtain ⟨r5, rA, HE⟩ := HFIN.out w5 hb5
        have HEE := Lib.hid (HE #[.int .i64 0, .slice none 0 0, .slice none 0 0, .slice none 0 0, .slice none 0 0, .int .i64 0, .int .i64 0, .int .i64 0, .int .i64 0, .int .i64 0, .int .i64 0, .int .i64 0, .int .i64 0, .int .i64 0, .int .i64 0])
        have HRA := Lib.hid rA
        clear hb5 HE row5
        go_wp2_with (refine wpList_store_row rfl 27 (.tmp 2) (.tmp 57) rfl w.heap.size #[.int .i64 0, .slice none 0 0, .slice none 0 0, .slice none 0 0, .slice none 0 0, .int .i64 0, .int .i64 0, .int .i64 0, .int .i64 0, .int .i64 0, .int .i64 0, .int .i64 0, .int .i64 0, .int .i64 0, .int .i64 0] rfl rfl 27 _ rA (by kernel_rfl) rfl (cells_one zeroCfg) ?_)
        exact bodyPost_ret (results_cell_tmp2 Tryz.results13 _ _ w.heap.size 27 #[.int .i64 0, .slice none 0 0, .slice none 0 0, .slice none 0 0, .slice none 0 0, .int .i64 0, .int .i64 0, .int .i64 0, .int .i64 0, .int .i64 0, .int .i64 0, .int .i64 0, .int .i64 0, .int .i64 0, .int .i64 0] (0, 0) _ (by rfl) (setRow_heap _ _ _ _ _ _ HRA.out) Tryz.underlying27 rfl (by kernel_rfl)) rfl ⟨c, HRE.out, HEE.out.1, HCZ.out, HEE.out.2, fun h => absurd h.1 HPN.out, fun _ => rfl⟩
end Go.Proofs.YtloacoalmfaceaaGreatDoor
