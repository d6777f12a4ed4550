/-
  trace.writer: event (printed by gentrwe.py).
-/
import Derived.Test.YtakdkiggaalimaaGreatDoorTrWA
namespace Go.Proofs.YtakdkiggaalimaaGreatDoor
open Go.RowKit Go.Maps
open Go.Lib (itoa)

def wordsLen (ws : List Wd) : Nat := (ws.map (fun w => w.length + 1)).sum
theorem wordsLen_app (a b : List Wd) : wordsLen (a ++ b) = wordsLen a + wordsLen b := by simp [wordsLen]
theorem addWs_len2 : ∀ (ws : List Wd) (L : Wd), (addWs L ws).length ≤ L.length + wordsLen ws
  | [], L => by show L.length ≤ _; omega
  | w :: r, L => by
    have h1 := addWs_len2 r (addW L w)
    have h2 := addW_len L w
    have e : addWs L (w :: r) = addWs (addW L w) r := rfl
    have e2 : wordsLen (w :: r) = w.length + 1 + wordsLen r := by simp [wordsLen]
    rw [e, e2]
    omega
theorem wordsLen_21 : ∀ {ws : List Wd}, (∀ w ∈ ws, w.length ≤ 21) → wordsLen ws ≤ 22 * ws.length
  | [], _ => by simp [wordsLen]
  | w :: r, h => by
    have h1 := wordsLen_21 (ws := r) (fun x hx => h x (by simp [hx]))
    have h2 := h w (by simp)
    have e2 : wordsLen (w :: r) = w.length + 1 + wordsLen r := by simp [wordsLen]
    rw [e2, List.length_cons]
    omega
theorem five_21 {a b c d e : Int} (h : V5 a b c d e) : wordsLen [itoa a, itoa b, itoa c, itoa d, itoa e] ≤ 110 := by
  have h1 := itoa_len h.1
  have h2 := itoa_len h.2.1
  have h3 := itoa_len h.2.2.1
  have h4 := itoa_len h.2.2.2.1
  have h5 := itoa_len h.2.2.2.2
  simp only [wordsLen, List.map_cons, List.map_nil, List.sum_cons, List.sum_nil]
  omega
theorem eW_sz {e : EvC} (hR : EvR e) (hsz : actSize e.act ≤ 100000) (hbl : e.ebody.length ≤ 100000) (f : Nat) : wordsLen (eW e f) ≤ 14000000 := by
  have one : ∀ v, Is64 v → wordsLen [itoa v] ≤ 14000000 := fun v hv => by
    have := itoa_len hv
    simp only [wordsLen, List.map_cons, List.map_nil, List.sum_cons, List.sum_nil]
    omega
  rcases f with _ | _ | _ | _ | _ | _ | _ | f
  · exact one _ hR.who
  · exact one _ hR.call
  · exact one _ hR.epoch
  · exact one _ hR.n
  · have h1 : wordsLen (actW e.act) ≤ 22 * (actW e.act).length := wordsLen_21 fun w hw => by
      rcases List.mem_cons.1 hw with q | q
      · rw [q]
        exact actN_21 _
      · exact asW_21 hR.act _ w q
    have h2 := asW_len e.act (actF e.act.kind)
    have h3 := actF_len e.act.kind
    have h4 := Nat.mul_le_mul h3 (Nat.le_refl (2 * actSize e.act + 1))
    have h5 : (actW e.act).length = (asW (actF e.act.kind) e.act).length + 1 := rfl
    show wordsLen (actW e.act) ≤ _
    omega
  · have h1 := itoa_len hR.eterm
    have h2 := itoa_len hR.ekind
    have h3 : (hexW e.ebody).length = 2 * e.ebody.length + 1 := by rw [hexW_eq, List.length_cons, hex2_len]
    show wordsLen [itoa e.eterm, itoa e.ekind, hexW e.ebody] ≤ _
    simp only [wordsLen, List.map_cons, List.map_nil, List.sum_cons, List.sum_nil]
    omega
  · exact Nat.le_trans (five_21 hR.ord) (by decide)
  · exact Nat.le_trans (five_21 hR.sta) (by decide)
theorem esW_sz {e : EvC} (hR : EvR e) (hsz : actSize e.act ≤ 100000) (hbl : e.ebody.length ≤ 100000) : ∀ fs : List Nat, wordsLen (esW fs e) ≤ fs.length * 14000000
  | [] => by simp [wordsLen, esW]
  | f :: r => by
    have h1 := eW_sz hR hsz hbl f
    have h2 := esW_sz hR hsz hbl r
    have e1 : esW (f :: r) e = eW e f ++ esW r e := by simp [esW]
    rw [e1, wordsLen_app, List.length_cons, Nat.add_mul]
    omega
/-- the cells of a boxed event. -/
structure BoxE (X : World) (b : Nat) (a : EvM) : Prop where
  hb : X.heap[b]? = some (.cells (evCs a).toArray 35 (0, 0))
theorem BoxE.new (w : World) (a : EvM) : BoxE (w.alloc (.cells (evCs a).toArray 35)) w.heap.size a := ⟨new_obj _ _⟩
theorem BoxE.next {X Y : World} {b : Nat} {a : EvM} (h : BoxE X b a) (hb : Below X.heap.size X Y) : BoxE Y b a := ⟨(hb.block b (Array.getElem?_eq_some_iff.1 h.hb).1).trans h.hb⟩
theorem BoxE.keep {X Y : World} {b B : Nat} {a : EvM} (h : BoxE X b a) (hk : KeepB B X Y) (hne : b ≠ B) : BoxE Y b a := ⟨(hk b _ _ _ h.hb hne (by decide)).trans h.hb⟩
theorem BoxE.cell {X : World} {b : Nat} {a : EvM} (h : BoxE X b a) {j : Nat} {u : Value} (hj : (evCs a)[j]? = some u) : X.cell? ⟨b, j, none⟩ = some u := by
  rw [Lib.cell_of_heap h.hb]
  simpa using hj
theorem BoxE.lt {X : World} {b : Nat} {a : EvM} (h : BoxE X b a) : b < X.heap.size := (Array.getElem?_eq_some_iff.1 h.hb).1
theorem five_0 (a b c d e : Int) (w : World) : (Instr.index 108 (.agg #[.int .i64 a, .int .i64 b, .int .i64 c, .int .i64 d, .int .i64 e]) (.int .i64 0)).run Tryz.prog w = .ok (.int .i64 a) w := by kernel_rfl
theorem five_1 (a b c d e : Int) (w : World) : (Instr.index 108 (.agg #[.int .i64 a, .int .i64 b, .int .i64 c, .int .i64 d, .int .i64 e]) (.int .i64 1)).run Tryz.prog w = .ok (.int .i64 b) w := by kernel_rfl
theorem five_2 (a b c d e : Int) (w : World) : (Instr.index 108 (.agg #[.int .i64 a, .int .i64 b, .int .i64 c, .int .i64 d, .int .i64 e]) (.int .i64 2)).run Tryz.prog w = .ok (.int .i64 c) w := by kernel_rfl
theorem five_3 (a b c d e : Int) (w : World) : (Instr.index 108 (.agg #[.int .i64 a, .int .i64 b, .int .i64 c, .int .i64 d, .int .i64 e]) (.int .i64 3)).run Tryz.prog w = .ok (.int .i64 d) w := by kernel_rfl
theorem five_4 (a b c d e : Int) (w : World) : (Instr.index 108 (.agg #[.int .i64 a, .int .i64 b, .int .i64 c, .int .i64 d, .int .i64 e]) (.int .i64 4)).run Tryz.prog w = .ok (.int .i64 e) w := by kernel_rfl
set_option maxRecDepth 100000 in
set_option maxHeartbeats 8000000 in
theorem event_any {L : Wd} {w0 w : World} (hr : Ready w0) (h : FB WT L w0 w) (a : EvM) (hat : EvAt w w0.heap.size a) (hR : EvR a.con) (hsz : actSize a.act.con ≤ 100000) (hbl : a.ebody.length ≤ 100000) (hn : L.length ≤ 1000000) :
    Calls Tryz.prog 36 #[.pointer (some ⟨w0.heap.size, 0, none⟩), evV a] w (RetW (addWs L (evW a.con)) w0 w) := by
  have hb1 : Below w.heap.size w (w.alloc (.cells (evCs a).toArray 35)) := (Below.refl _ _).alloc (Nat.le_refl _) _
  have HBX1 := Lib.hid (BoxE.new w a)
  have HZ := Lib.hid h.below.size
  have HNE : Hid (w.heap.size ≠ w0.heap.size) := Lib.hid (by have := h.lt; omega)
  have HF1 := Lib.hid (h.next hb1)
  have HB1 := Lib.hid hb1
  have HA := Lib.hid (And.intro hat (And.intro hR (And.intro hr (And.intro hsz (And.intro hbl hn)))))
  obtain ⟨k, hk⟩ : ∃ k, k = a.kind := ⟨_, rfl⟩
  have HK := Lib.hid hk
  obtain ⟨W1, hW1⟩ : ∃ W1, W1 = w.alloc (.cells (evCs a).toArray 35) := ⟨_, rfl⟩
  rw [← hW1] at HBX1 HF1 HB1
  have c0 := HBX1.out.cell (j := 0) rfl
  rw [← hk] at c0
  have HFL := Lib.hid (eFields_any W1 k)
  unfold evV
  rw [← hk]
  unfold evCs at hW1
  rw [← hk] at hW1
  clear h hat hR hsz hn hr hb1 hk hbl
  go_enter Tryz.func36, Tryz.ntmps36
  go_wp2_with fail
  rw [← hW1]
  clear hW1
  refine HFL.out.mono ?_
  rintro e W2 ⟨A, rfl, hfa, hw2⟩
  have HFA := Lib.hid hfa
  have HB2 : Hid (Below W1.heap.size W1 W2) := Lib.hid (by
    rcases hw2 with rfl | rfl
    · exact Below.refl _ _
    · exact (Below.refl _ _).alloc (Nat.le_refl _) _)
  have HBX2 := Lib.hid (HBX1.out.next HB2.out)
  have c1 := HBX2.out.cell (j := 1) rfl
  have HTK := Lib.hid (number_any HA.out.2.2.1 (HF1.out.next HB2.out) a.tick HA.out.2.1.tick (by have := HA.out.2.2.2.2.2; omega))
  clear hfa hw2 c0
  go_wp2_with fail
  refine HTK.out.mono ?_
  rintro e W3 ⟨rfl, h1, h2, h3⟩
  have HWD := Lib.hid (word_any h1 (evN k) (by have := evN_21 k; have := HA.out.2.2.2.2.2; have := addW_len L (itoa a.tick); have h9 := itoa_len HA.out.2.1.tick; have e9 : a.con.tick = a.tick := rfl; rw [e9] at h9; omega))
  have H2 := Lib.hid (And.intro h1 (And.intro h2 h3))
  clear h1 h2 h3 c1
  go_wp2_with fail
  refine HWD.out.mono ?_
  rintro e W4 ⟨rfl, h1, h2, h3⟩
  have H3 := Lib.hid (And.intro h1 (And.intro (H2.out.2.1.trans h2) (H2.out.2.2.trans h3)))
  have HB02 := Lib.hid (show Below w.heap.size w W2 from HB1.out.trans (HB2.out.mono HB1.out.size))
  have HFA3 := Lib.hid (fb_keep_int HFA.out (HF1.out.next HB2.out) (by decide) H3.out.2.1)
  have HBX3 := Lib.hid (HBX2.out.keep H3.out.2.1 HNE.out)
  clear h1 h2 h3
  obtain ⟨fs, hfs⟩ : ∃ fs, fs = evF k := ⟨_, rfl⟩
  have HFS := Lib.hid hfs
  rw [← hfs] at HFA3 ⊢
  obtain ⟨m, hm⟩ : ∃ m, m = fs.length := ⟨_, rfl⟩
  have HM := Lib.hid hm
  have hm3 : m ≤ 3 := by rw [hm, hfs]; exact evF_len k
  rw [← hm]
  clear hfs hm
  go_wp2_with fail
  go_loopw [29] (fun iv X => ∃ j : Nat, j ≤ m ∧ iv = .int .i64 j ∧ FB WT (addWs L (itoa a.tick :: evN k :: esW (fs.take j) a.con)) w0 X ∧ KeepB w0.heap.size W2 X ∧ Below w0.heap.size w X ∧ BoxE X w.heap.size a ∧ FieldsAt X A fs) (fun iv _ => m - (intOf iv).toNat)
  case atStart => exact ⟨0, Nat.zero_le _, rfl, H3.out.1, H3.out.2.1, (HB02.out.mono HZ.out).trans H3.out.2.2, HBX3.out, HFA3.out⟩
  case round =>
    obtain ⟨j, hj, rfl, hfb, hkb, hbl, hbx, hfl⟩ := hrel
    obtain ⟨XO, rfl⟩ : ∃ XO : World, XO = wr := ⟨_, rfl⟩
    have HR := Lib.hid (And.intro hfb (And.intro hkb hbl))
    have HBX := Lib.hid hbx
    have HFL2 := Lib.hid hfl
    clear hfb hkb hbl hbx hfl
    by_cases hlt : j < m
    · obtain ⟨f, hf⟩ : ∃ f, fs[j]? = some f := ⟨fs[j]'(by have := HM.out; omega), by simp⟩
      have hf7 : f < 8 := evF_lt k f (by rw [← HFS.out]; exact List.mem_of_getElem? hf)
      obtain ⟨fb, hfA, hfbl, hfc⟩ := HFL2.out.at hf
      rw [hfA]
      obtain ⟨LJ, hLJ⟩ : ∃ l, l = addWs L (itoa a.tick :: evN k :: esW (fs.take j) a.con) := ⟨_, rfl⟩
      have HLN : Hid (LJ.length ≤ 50000000) := Lib.hid (by
        rw [hLJ]
        have h1 := addWs_len2 (itoa a.tick :: evN k :: esW (fs.take j) a.con) L
        have h2 := esW_sz HA.out.2.1 HA.out.2.2.2.1 HA.out.2.2.2.2.1 (fs.take j)
        have h3 : (fs.take j).length ≤ 3 := by rw [List.length_take]; omega
        have h4 := Nat.mul_le_mul h3 (Nat.le_refl 14000000)
        have h5 := HA.out.2.2.2.2.2
        have h6 := evN_21 k
        have h7 := itoa_len HA.out.2.1.tick
        have e9 : a.con.tick = a.tick := rfl
        rw [e9] at h7
        have e2 : wordsLen (itoa a.tick :: evN k :: esW (fs.take j) a.con) = (itoa a.tick).length + 1 + ((evN k).length + 1 + wordsLen (esW (fs.take j) a.con)) := by simp [wordsLen]
        rw [e2] at h1
        omega)
      have HRND : Hid (∀ w2, FB WT (addWs LJ (eW a.con f)) w0 w2 ∧ KeepB w0.heap.size XO w2 ∧ Below w0.heap.size XO w2 → ∃ j' : Nat, j' ≤ m ∧ Value.int .i64 ((j : Int) + 1) = .int .i64 j' ∧ FB WT (addWs L (itoa a.tick :: evN k :: esW (fs.take j') a.con)) w0 w2 ∧ KeepB w0.heap.size W2 w2 ∧ Below w0.heap.size w w2 ∧ BoxE w2 w.heap.size a ∧ FieldsAt w2 (some ⟨fb, 0, none⟩) fs) := Lib.hid (fun w2 h => by
        refine ⟨j + 1, by omega, by rw [Int.natCast_add]; rfl, ?_, HR.out.2.1.trans h.2.1, HR.out.2.2.trans h.2.2, HBX.out.keep h.2.1 HNE.out, hfA ▸ fb_keep_int HFL2.out HR.out.1 (by decide) h.2.1⟩
        have e1 : esW (fs.take (j + 1)) a.con = esW (fs.take j) a.con ++ eW a.con f := by
          unfold esW
          rw [take_snoc hf, List.flatMap_append]
          simp
        rw [e1, ← List.cons_append, ← List.cons_append, addWs_app, ← hLJ]
        exact h.1)
      rw [← hLJ] at HR
      have c2 := HBX.out.cell (j := 2) rfl
      have c3 := HBX.out.cell (j := 3) rfl
      have c4 := HBX.out.cell (j := 4) rfl
      have c5 := HBX.out.cell (j := 5) rfl
      have c6 := HBX.out.cell (j := 6) rfl
      have c7 := HBX.out.cell (j := 7) rfl
      have c8 := HBX.out.cell (j := 8) rfl
      have c9 := HBX.out.cell (j := 9) rfl
      have c10 := HBX.out.cell (j := 10) rfl
      have c11 := HBX.out.cell (j := 11) rfl
      have c12 := HBX.out.cell (j := 12) rfl
      have c13 := HBX.out.cell (j := 13) rfl
      have c14 := HBX.out.cell (j := 14) rfl
      have c15 := HBX.out.cell (j := 15) rfl
      have c16 := HBX.out.cell (j := 16) rfl
      have c17 := HBX.out.cell (j := 17) rfl
      have c18 := HBX.out.cell (j := 18) rfl
      have c19 := HBX.out.cell (j := 19) rfl
      have c20 := HBX.out.cell (j := 20) rfl
      have c21 := HBX.out.cell (j := 21) rfl
      have c22 := HBX.out.cell (j := 22) rfl
      have c23 := HBX.out.cell (j := 23) rfl
      have c24 := HBX.out.cell (j := 24) rfl
      have c25 := HBX.out.cell (j := 25) rfl
      have c26 := HBX.out.cell (j := 26) rfl
      clear hf hLJ hfA
      have hcase : f = 0 ∨ f = 1 ∨ f = 2 ∨ f = 3 ∨ f = 4 ∨ f = 5 ∨ f = 6 ∨ f = 7 := by omega
      rcases hcase with rfl | rfl | rfl | rfl | rfl | rfl | rfl | rfl
      · have HC := Lib.hid (number_any HA.out.2.2.1 HR.out.1 a.who HA.out.2.1.who (by have := HLN.out; omega))
        clear c3 c4 c5 c6 c7 c8 c9 c10 c11 c12 c13 c14 c15 c16 c17 c18 c19 c20 c21 c22 c23 c24 c25 c26
        go_wp2_with fail
        refine HC.out.mono ?_
        rintro e w2 ⟨rfl, h1, h2, h3⟩
        have H2 := Lib.hid (And.intro h1 (And.intro h2 h3))
        clear h1 h2 h3
        go_wp2_with fail
        go_roundw
        case rel => exact HRND.out w2 H2.out
        case measure => simp [intOf]; omega
      · have HC := Lib.hid (number_any HA.out.2.2.1 HR.out.1 a.call HA.out.2.1.call (by have := HLN.out; omega))
        clear c2 c4 c5 c6 c7 c8 c9 c10 c11 c12 c13 c14 c15 c16 c17 c18 c19 c20 c21 c22 c23 c24 c25 c26
        go_wp2_with fail
        refine HC.out.mono ?_
        rintro e w2 ⟨rfl, h1, h2, h3⟩
        have H2 := Lib.hid (And.intro h1 (And.intro h2 h3))
        clear h1 h2 h3
        go_wp2_with fail
        go_roundw
        case rel => exact HRND.out w2 H2.out
        case measure => simp [intOf]; omega
      · have HC := Lib.hid (number_any HA.out.2.2.1 HR.out.1 a.epoch HA.out.2.1.epoch (by have := HLN.out; omega))
        clear c2 c3 c5 c6 c7 c8 c9 c10 c11 c12 c13 c14 c15 c16 c17 c18 c19 c20 c21 c22 c23 c24 c25 c26
        go_wp2_with fail
        refine HC.out.mono ?_
        rintro e w2 ⟨rfl, h1, h2, h3⟩
        have H2 := Lib.hid (And.intro h1 (And.intro h2 h3))
        clear h1 h2 h3
        go_wp2_with fail
        go_roundw
        case rel => exact HRND.out w2 H2.out
        case measure => simp [intOf]; omega
      · have HC := Lib.hid (number_any HA.out.2.2.1 HR.out.1 a.n HA.out.2.1.n (by have := HLN.out; omega))
        clear c2 c3 c4 c6 c7 c8 c9 c10 c11 c12 c13 c14 c15 c16 c17 c18 c19 c20 c21 c22 c23 c24 c25 c26
        go_wp2_with fail
        refine HC.out.mono ?_
        rintro e w2 ⟨rfl, h1, h2, h3⟩
        have H2 := Lib.hid (And.intro h1 (And.intro h2 h3))
        clear h1 h2 h3
        go_wp2_with fail
        go_roundw
        case rel => exact HRND.out w2 H2.out
        case measure => simp [intOf]; omega
      · have HC := Lib.hid (action_any HA.out.2.2.1 HR.out.1 a.act (HA.out.1.below HR.out.2.2).act HA.out.2.1.act HA.out.2.2.2.1 (by have := HLN.out; omega))
        unfold actV at HC
        clear c2 c3 c4 c5 c6 c7 c8 c9 c10 c11 c12 c13 c14 c15 c16 c17 c18
        go_wp2_with fail
        refine HC.out.mono ?_
        rintro e w2 ⟨rfl, h1, h2, h3⟩
        have H2 := Lib.hid (And.intro h1 (And.intro h2 h3))
        clear h1 h2 h3
        go_wp2_with fail
        go_roundw
        case rel => exact HRND.out w2 H2.out
        case measure => simp [intOf]; omega
      · have HC := Lib.hid (number_any HA.out.2.2.1 HR.out.1 a.eterm HA.out.2.1.eterm (by have := HLN.out; omega))
        have HL5 : Hid (∀ x, Is64 x → ∀ y, Is64 y → (addW (addW LJ (itoa x)) (itoa y)).length ≤ 60000000) := Lib.hid (fun x hx y hy => by
          have h1 := addW_len (addW LJ (itoa x)) (itoa y)
          have h2 := addW_len LJ (itoa x)
          have h3 := itoa_len hx
          have h4 := itoa_len hy
          have h5 := HLN.out
          omega)
        clear c2 c3 c4 c5 c7 c8 c9 c10 c11 c12 c13 c14 c15 c16 c17 c18 c19 c20 c21 c22 c23 c24 c25 c26
        go_wp2_with fail
        refine HC.out.mono ?_
        rintro e w2 ⟨rfl, h1, h2, h3⟩
        have HC2 := Lib.hid (number_any HA.out.2.2.1 h1 a.ekind HA.out.2.1.ekind (by have h9 := HL5.out _ HA.out.2.1.eterm 0 is64_0; have h8 := addW_len LJ (itoa a.eterm); have h7 := itoa_len HA.out.2.1.eterm; have h6 := HLN.out; have e9 : a.con.eterm = a.eterm := rfl; rw [e9] at h7; omega))
        have HBX4 := Lib.hid (HBX.out.keep h2 HNE.out)
        have c7 := HBX4.out.cell (j := 7) rfl
        have H2 := Lib.hid (And.intro h1 (And.intro h2 h3))
        clear h1 h2 h3 c6
        go_wp2_with fail
        refine HC2.out.mono ?_
        rintro e w3 ⟨rfl, h1, h2, h3⟩
        have HBX5 := Lib.hid (HBX4.out.keep h2 HNE.out)
        have c8 := HBX5.out.cell (j := 8) rfl
        have HC3 := Lib.hid (bytes_any h1 a.eA a.ec a.ebody (Sl.more (HA.out.1.below (HR.out.2.2.trans (H2.out.2.2.trans h3))).body (by have := h1.lt; omega)) (by have := HA.out.2.2.2.2.1; omega) (by have h9 := HL5.out _ HA.out.2.1.eterm _ HA.out.2.1.ekind; have e9 : a.con.eterm = a.eterm := rfl; have e8 : a.con.ekind = a.ekind := rfl; rw [e9, e8] at h9; omega))
        have H3 := Lib.hid (And.intro h1 (And.intro h2 h3))
        clear h1 h2 h3 c7
        go_wp2_with fail
        refine HC3.out.mono ?_
        rintro e w4 ⟨rfl, h1, h2, h3⟩
        have H4 := Lib.hid (And.intro h1 (And.intro (H2.out.2.1.trans (H3.out.2.1.trans h2)) (H2.out.2.2.trans (H3.out.2.2.trans h3))))
        clear h1 h2 h3 c8
        go_wp2_with fail
        go_roundw
        case rel => exact HRND.out w4 H4.out
        case measure => simp [intOf]; omega
      · have HL5 : Hid (∀ i : Nat, i ≤ 5 → (addWs LJ ([itoa a.ord.unit, itoa a.ord.epoch, itoa a.ord.kind, itoa a.ord.incident, itoa a.ord.node].take i)).length ≤ 60000000) := Lib.hid (fun i hi => by
          have h1 := addWs_len (m := 21) ([itoa a.ord.unit, itoa a.ord.epoch, itoa a.ord.kind, itoa a.ord.incident, itoa a.ord.node].take i) LJ (fun x hx => by
            have h2 := List.mem_of_mem_take hx
            have h3 : ∀ y ∈ [itoa a.ord.unit, itoa a.ord.epoch, itoa a.ord.kind, itoa a.ord.incident, itoa a.ord.node], y.length ≤ 21 := by
              intro y hy
              rcases List.mem_cons.1 hy with q | hy
              · rw [q]; exact itoa_len HA.out.2.1.ord.1
              rcases List.mem_cons.1 hy with q | hy
              · rw [q]; exact itoa_len HA.out.2.1.ord.2.1
              rcases List.mem_cons.1 hy with q | hy
              · rw [q]; exact itoa_len HA.out.2.1.ord.2.2.1
              rcases List.mem_cons.1 hy with q | hy
              · rw [q]; exact itoa_len HA.out.2.1.ord.2.2.2.1
              · rw [List.mem_singleton.1 hy]; exact itoa_len HA.out.2.1.ord.2.2.2.2
            exact h3 x h2)
          have h4 : ([itoa a.ord.unit, itoa a.ord.epoch, itoa a.ord.kind, itoa a.ord.incident, itoa a.ord.node].take i).length ≤ 5 := by rw [List.length_take]; exact Nat.min_le_right _ _
          have h5 := HLN.out
          have h6 := Nat.mul_le_mul h4 (Nat.le_refl (21 + 1))
          omega)
        have HBN := Lib.hid (show Below XO.heap.size XO (XO.alloc (.cells #[.int .i64 a.ord.unit, .int .i64 a.ord.epoch, .int .i64 a.ord.kind, .int .i64 a.ord.incident, .int .i64 a.ord.node] 27)) from (Below.refl _ _).alloc (Nat.le_refl _) _)
        have HFN := Lib.hid (HR.out.1.next HBN.out)
        obtain ⟨W5, hW5⟩ : ∃ W, W = XO.alloc (.cells #[.int .i64 a.ord.unit, .int .i64 a.ord.epoch, .int .i64 a.ord.kind, .int .i64 a.ord.incident, .int .i64 a.ord.node] 27) := ⟨_, rfl⟩
        rw [← hW5] at HBN HFN
        clear c2 c3 c4 c5 c6 c7 c8 c14 c15 c16 c17 c18 c19 c20 c21 c22 c23 c24 c25 c26
        go_wp2_with fail
        rw [← hW5]
        clear hW5 c9 c10 c11 c12 c13
        go_loopw [96] (fun iv Y => ∃ i : Nat, i ≤ 5 ∧ iv = .int .i64 i ∧ FB WT (addWs LJ ([itoa a.ord.unit, itoa a.ord.epoch, itoa a.ord.kind, itoa a.ord.incident, itoa a.ord.node].take i)) w0 Y ∧ KeepB w0.heap.size XO Y ∧ Below w0.heap.size XO Y) (fun iv _ => 5 - (intOf iv).toNat)
        case atStart => exact ⟨0, Nat.zero_le _, rfl, HFN.out, KeepB.of_below HBN.out, HBN.out.mono (Nat.le_of_lt HR.out.1.lt)⟩
        case round =>
          obtain ⟨i, hi, rfl, hfb, hkb, hbl⟩ := hrel
          have HR3 := Lib.hid (And.intro hfb (And.intro hkb hbl))
          have hcase : i = 0 ∨ i = 1 ∨ i = 2 ∨ i = 3 ∨ i = 4 ∨ i = 5 := by omega
          clear hfb hkb hbl
          rcases hcase with rfl | rfl | rfl | rfl | rfl | rfl
          · have HC := Lib.hid (number_any HA.out.2.2.1 HR3.out.1 a.ord.unit HA.out.2.1.ord.1 (by have h9 := HL5.out 0 hi; omega))
            have hi5 := five_0 a.ord.unit a.ord.epoch a.ord.kind a.ord.incident a.ord.node wr
            go_wp2_with fail
            refine HC.out.mono ?_
            rintro e w2 ⟨rfl, h1, h2, h3⟩
            have H2 := Lib.hid (And.intro h1 (And.intro (HR3.out.2.1.trans h2) (HR3.out.2.2.trans h3)))
            clear h1 h2 h3
            go_wp2_with fail
            go_roundw
            case rel => exact ⟨1, by omega, rfl, H2.out⟩
            case measure => simp [intOf]
          · have HC := Lib.hid (number_any HA.out.2.2.1 HR3.out.1 a.ord.epoch HA.out.2.1.ord.2.1 (by have h9 := HL5.out 1 hi; omega))
            have hi5 := five_1 a.ord.unit a.ord.epoch a.ord.kind a.ord.incident a.ord.node wr
            go_wp2_with fail
            refine HC.out.mono ?_
            rintro e w2 ⟨rfl, h1, h2, h3⟩
            have H2 := Lib.hid (And.intro h1 (And.intro (HR3.out.2.1.trans h2) (HR3.out.2.2.trans h3)))
            clear h1 h2 h3
            go_wp2_with fail
            go_roundw
            case rel => exact ⟨2, by omega, rfl, H2.out⟩
            case measure => simp [intOf]
          · have HC := Lib.hid (number_any HA.out.2.2.1 HR3.out.1 a.ord.kind HA.out.2.1.ord.2.2.1 (by have h9 := HL5.out 2 hi; omega))
            have hi5 := five_2 a.ord.unit a.ord.epoch a.ord.kind a.ord.incident a.ord.node wr
            go_wp2_with fail
            refine HC.out.mono ?_
            rintro e w2 ⟨rfl, h1, h2, h3⟩
            have H2 := Lib.hid (And.intro h1 (And.intro (HR3.out.2.1.trans h2) (HR3.out.2.2.trans h3)))
            clear h1 h2 h3
            go_wp2_with fail
            go_roundw
            case rel => exact ⟨3, by omega, rfl, H2.out⟩
            case measure => simp [intOf]
          · have HC := Lib.hid (number_any HA.out.2.2.1 HR3.out.1 a.ord.incident HA.out.2.1.ord.2.2.2.1 (by have h9 := HL5.out 3 hi; omega))
            have hi5 := five_3 a.ord.unit a.ord.epoch a.ord.kind a.ord.incident a.ord.node wr
            go_wp2_with fail
            refine HC.out.mono ?_
            rintro e w2 ⟨rfl, h1, h2, h3⟩
            have H2 := Lib.hid (And.intro h1 (And.intro (HR3.out.2.1.trans h2) (HR3.out.2.2.trans h3)))
            clear h1 h2 h3
            go_wp2_with fail
            go_roundw
            case rel => exact ⟨4, by omega, rfl, H2.out⟩
            case measure => simp [intOf]
          · have HC := Lib.hid (number_any HA.out.2.2.1 HR3.out.1 a.ord.node HA.out.2.1.ord.2.2.2.2 (by have h9 := HL5.out 4 hi; omega))
            have hi5 := five_4 a.ord.unit a.ord.epoch a.ord.kind a.ord.incident a.ord.node wr
            go_wp2_with fail
            refine HC.out.mono ?_
            rintro e w2 ⟨rfl, h1, h2, h3⟩
            have H2 := Lib.hid (And.intro h1 (And.intro (HR3.out.2.1.trans h2) (HR3.out.2.2.trans h3)))
            clear h1 h2 h3
            go_wp2_with fail
            go_roundw
            case rel => exact ⟨5, by omega, rfl, H2.out⟩
            case measure => simp [intOf]
          · go_wp2_with fail
            go_roundw
            case rel => exact HRND.out wr HR3.out
            case measure => simp [intOf]; omega
      · have HL5 : Hid (∀ i : Nat, i ≤ 5 → (addWs LJ ([itoa a.sta.unit, itoa a.sta.seq, itoa a.sta.state, itoa a.sta.node, itoa a.sta.epoch].take i)).length ≤ 60000000) := Lib.hid (fun i hi => by
          have h1 := addWs_len (m := 21) ([itoa a.sta.unit, itoa a.sta.seq, itoa a.sta.state, itoa a.sta.node, itoa a.sta.epoch].take i) LJ (fun x hx => by
            have h2 := List.mem_of_mem_take hx
            have h3 : ∀ y ∈ [itoa a.sta.unit, itoa a.sta.seq, itoa a.sta.state, itoa a.sta.node, itoa a.sta.epoch], y.length ≤ 21 := by
              intro y hy
              rcases List.mem_cons.1 hy with q | hy
              · rw [q]; exact itoa_len HA.out.2.1.sta.1
              rcases List.mem_cons.1 hy with q | hy
              · rw [q]; exact itoa_len HA.out.2.1.sta.2.1
              rcases List.mem_cons.1 hy with q | hy
              · rw [q]; exact itoa_len HA.out.2.1.sta.2.2.1
              rcases List.mem_cons.1 hy with q | hy
              · rw [q]; exact itoa_len HA.out.2.1.sta.2.2.2.1
              · rw [List.mem_singleton.1 hy]; exact itoa_len HA.out.2.1.sta.2.2.2.2
            exact h3 x h2)
          have h4 : ([itoa a.sta.unit, itoa a.sta.seq, itoa a.sta.state, itoa a.sta.node, itoa a.sta.epoch].take i).length ≤ 5 := by rw [List.length_take]; exact Nat.min_le_right _ _
          have h5 := HLN.out
          have h6 := Nat.mul_le_mul h4 (Nat.le_refl (21 + 1))
          omega)
        have HBN := Lib.hid (show Below XO.heap.size XO (XO.alloc (.cells #[.int .i64 a.sta.unit, .int .i64 a.sta.seq, .int .i64 a.sta.state, .int .i64 a.sta.node, .int .i64 a.sta.epoch] 29)) from (Below.refl _ _).alloc (Nat.le_refl _) _)
        have HFN := Lib.hid (HR.out.1.next HBN.out)
        obtain ⟨W5, hW5⟩ : ∃ W, W = XO.alloc (.cells #[.int .i64 a.sta.unit, .int .i64 a.sta.seq, .int .i64 a.sta.state, .int .i64 a.sta.node, .int .i64 a.sta.epoch] 29) := ⟨_, rfl⟩
        rw [← hW5] at HBN HFN
        clear c2 c3 c4 c5 c6 c7 c8 c9 c10 c11 c12 c13 c19 c20 c21 c22 c23 c24 c25 c26
        go_wp2_with fail
        rw [← hW5]
        clear hW5 c14 c15 c16 c17 c18
        go_loopw [118] (fun iv Y => ∃ i : Nat, i ≤ 5 ∧ iv = .int .i64 i ∧ FB WT (addWs LJ ([itoa a.sta.unit, itoa a.sta.seq, itoa a.sta.state, itoa a.sta.node, itoa a.sta.epoch].take i)) w0 Y ∧ KeepB w0.heap.size XO Y ∧ Below w0.heap.size XO Y) (fun iv _ => 5 - (intOf iv).toNat)
        case atStart => exact ⟨0, Nat.zero_le _, rfl, HFN.out, KeepB.of_below HBN.out, HBN.out.mono (Nat.le_of_lt HR.out.1.lt)⟩
        case round =>
          obtain ⟨i, hi, rfl, hfb, hkb, hbl⟩ := hrel
          have HR3 := Lib.hid (And.intro hfb (And.intro hkb hbl))
          have hcase : i = 0 ∨ i = 1 ∨ i = 2 ∨ i = 3 ∨ i = 4 ∨ i = 5 := by omega
          clear hfb hkb hbl
          rcases hcase with rfl | rfl | rfl | rfl | rfl | rfl
          · have HC := Lib.hid (number_any HA.out.2.2.1 HR3.out.1 a.sta.unit HA.out.2.1.sta.1 (by have h9 := HL5.out 0 hi; omega))
            have hi5 := five_0 a.sta.unit a.sta.seq a.sta.state a.sta.node a.sta.epoch wr
            go_wp2_with fail
            refine HC.out.mono ?_
            rintro e w2 ⟨rfl, h1, h2, h3⟩
            have H2 := Lib.hid (And.intro h1 (And.intro (HR3.out.2.1.trans h2) (HR3.out.2.2.trans h3)))
            clear h1 h2 h3
            go_wp2_with fail
            go_roundw
            case rel => exact ⟨1, by omega, rfl, H2.out⟩
            case measure => simp [intOf]
          · have HC := Lib.hid (number_any HA.out.2.2.1 HR3.out.1 a.sta.seq HA.out.2.1.sta.2.1 (by have h9 := HL5.out 1 hi; omega))
            have hi5 := five_1 a.sta.unit a.sta.seq a.sta.state a.sta.node a.sta.epoch wr
            go_wp2_with fail
            refine HC.out.mono ?_
            rintro e w2 ⟨rfl, h1, h2, h3⟩
            have H2 := Lib.hid (And.intro h1 (And.intro (HR3.out.2.1.trans h2) (HR3.out.2.2.trans h3)))
            clear h1 h2 h3
            go_wp2_with fail
            go_roundw
            case rel => exact ⟨2, by omega, rfl, H2.out⟩
            case measure => simp [intOf]
          · have HC := Lib.hid (number_any HA.out.2.2.1 HR3.out.1 a.sta.state HA.out.2.1.sta.2.2.1 (by have h9 := HL5.out 2 hi; omega))
            have hi5 := five_2 a.sta.unit a.sta.seq a.sta.state a.sta.node a.sta.epoch wr
            go_wp2_with fail
            refine HC.out.mono ?_
            rintro e w2 ⟨rfl, h1, h2, h3⟩
            have H2 := Lib.hid (And.intro h1 (And.intro (HR3.out.2.1.trans h2) (HR3.out.2.2.trans h3)))
            clear h1 h2 h3
            go_wp2_with fail
            go_roundw
            case rel => exact ⟨3, by omega, rfl, H2.out⟩
            case measure => simp [intOf]
          · have HC := Lib.hid (number_any HA.out.2.2.1 HR3.out.1 a.sta.node HA.out.2.1.sta.2.2.2.1 (by have h9 := HL5.out 3 hi; omega))
            have hi5 := five_3 a.sta.unit a.sta.seq a.sta.state a.sta.node a.sta.epoch wr
            go_wp2_with fail
            refine HC.out.mono ?_
            rintro e w2 ⟨rfl, h1, h2, h3⟩
            have H2 := Lib.hid (And.intro h1 (And.intro (HR3.out.2.1.trans h2) (HR3.out.2.2.trans h3)))
            clear h1 h2 h3
            go_wp2_with fail
            go_roundw
            case rel => exact ⟨4, by omega, rfl, H2.out⟩
            case measure => simp [intOf]
          · have HC := Lib.hid (number_any HA.out.2.2.1 HR3.out.1 a.sta.epoch HA.out.2.1.sta.2.2.2.2 (by have h9 := HL5.out 4 hi; omega))
            have hi5 := five_4 a.sta.unit a.sta.seq a.sta.state a.sta.node a.sta.epoch wr
            go_wp2_with fail
            refine HC.out.mono ?_
            rintro e w2 ⟨rfl, h1, h2, h3⟩
            have H2 := Lib.hid (And.intro h1 (And.intro (HR3.out.2.1.trans h2) (HR3.out.2.2.trans h3)))
            clear h1 h2 h3
            go_wp2_with fail
            go_roundw
            case rel => exact ⟨5, by omega, rfl, H2.out⟩
            case measure => simp [intOf]
          · go_wp2_with fail
            go_roundw
            case rel => exact HRND.out wr HR3.out
            case measure => simp [intOf]; omega
    · obtain rfl : j = m := by omega
      go_wp2_with fail
      go_end0
      have e : fs.take j = fs := List.take_of_length_le (by have := HM.out; omega)
      obtain ⟨h1, h2, h3⟩ := HR.out
      rw [e] at h1
      refine ⟨rfl, ?_, (KeepB.of_below HB02.out).trans h2, h3⟩
      have e2 : evW a.con = itoa a.tick :: evN k :: esW fs a.con := by
        show itoa a.tick :: evN a.kind :: esW (evF a.kind) a.con = _
        rw [HFS.out, HK.out]
      rw [e2]
      exact h1
end Go.Proofs.YtakdkiggaalimaaGreatDoor
