/-
  trace.writer: action (printed by gentrwa.py).
-/
import Derived.Test.YtakdkiggaalimaaGreatDoorTrHx
namespace Go.Proofs.YtakdkiggaalimaaGreatDoor
open Go.RowKit Go.Maps
open Go.Lib (itoa)

/-- how many numbers the lists of an action hold, about. -/
def actSize (a : ActC) : Nat := a.groups.length + (a.srcs.map (fun s => s.nodes.length + 1)).sum
theorem srcs_size (l : List SrcC) : (srcsW l).length ≤ 2 * (l.map (fun s => s.nodes.length + 1)).sum := by
  induction l with
  | nil => simp [srcsW]
  | cons s r ih =>
    unfold srcsW at ih ⊢
    rw [List.flatMap_cons, List.length_append, List.map_cons, List.sum_cons]
    have e : (srcW s).length = s.nodes.length + 2 := by simp [srcW, listW]
    omega
theorem srcs_count (l : List SrcC) : l.length ≤ (l.map (fun s => s.nodes.length + 1)).sum := by
  induction l with
  | nil => simp
  | cons s r ih =>
    rw [List.map_cons, List.sum_cons, List.length_cons]
    omega
theorem src_size {l : List SrcC} {s : SrcC} (h : s ∈ l) : s.nodes.length + 1 ≤ (l.map (fun s => s.nodes.length + 1)).sum := by
  induction l with
  | nil => cases h
  | cons t r ih =>
    rw [List.map_cons, List.sum_cons]
    rcases List.mem_cons.1 h with e | e
    · rw [e]
      omega
    · have := ih e
      omega
theorem aW_len (a : ActC) (f : Nat) : (aW a f).length ≤ 2 * actSize a + 1 := by
  have h := srcs_size a.srcs
  unfold actSize
  rcases f with _ | _ | _ | _ | _ | _ | f
  · show 1 ≤ _; omega
  · show 1 ≤ _; omega
  · show 1 ≤ _; omega
  · show 1 ≤ _; omega
  · show 1 ≤ _; omega
  · show (srcsW a.srcs).length + 1 ≤ _
    omega
  · show (listW a.groups).length ≤ _
    simp [listW]
    omega
theorem asW_len (a : ActC) (fs : List Nat) : (asW fs a).length ≤ fs.length * (2 * actSize a + 1) := by
  induction fs with
  | nil => simp [asW]
  | cons f r ih =>
    have := aW_len a f
    unfold asW at ih ⊢
    rw [List.flatMap_cons, List.length_append, List.length_cons, Nat.add_mul]
    omega
theorem actN_21 (k : Int) : (actN k).length ≤ 21 := by
  by_cases h : actN k = []
  · rw [h]
    simp
  · exact int_19 (P := fun k => (actN k).length ≤ 21) (by decide) (actN_in h).1 (actN_in h).2
theorem evN_21 (k : Int) : (evN k).length ≤ 21 := by
  by_cases h : evN k = []
  · rw [h]
    simp
  · exact int_13 (P := fun k => (evN k).length ≤ 21) (by decide) (evN_in h).1 (evN_in h).2
theorem listW_21 {l : List Int} (hl : l.length ≤ 1099511627776) (h : ∀ v ∈ l, Is64 v) : ∀ w ∈ listW l, w.length ≤ 21 := fun w hw => by
  rcases List.mem_cons.1 hw with e | e
  · rw [e]
    exact itoa_len (by unfold Is64; omega)
  · exact ints_words l h w e
theorem aW_21 {a : ActC} (hR : ActR a) (f : Nat) : ∀ w ∈ aW a f, w.length ≤ 21 := fun w hw => by
  have one : ∀ v, Is64 v → w ∈ [itoa v] → w.length ≤ 21 := fun v hv h => by
    rw [List.mem_singleton.1 h]
    exact itoa_len hv
  rcases f with _ | _ | _ | _ | _ | _ | f
  · exact one _ hR.who hw
  · exact one _ hR.n hw
  · exact one _ hR.call hw
  · exact one _ hR.other hw
  · exact one _ hR.node hw
  · rcases List.mem_cons.1 hw with e | e
    · rw [e]
      exact itoa_len (by have := hR.slen; unfold Is64; omega)
    · obtain ⟨s, hs, e⟩ := List.mem_flatMap.1 e
      obtain ⟨h1, h2, h3⟩ := hR.srcs s hs
      rcases List.mem_cons.1 e with e | e
      · rw [e]
        exact itoa_len h1
      · exact listW_21 h2 h3 w e
  · exact listW_21 hR.glen hR.groups w hw
theorem asW_21 {a : ActC} (hR : ActR a) (fs : List Nat) : ∀ w ∈ asW fs a, w.length ≤ 21 := fun w hw => by
  obtain ⟨f, _, h⟩ := List.mem_flatMap.1 hw
  exact aW_21 hR f w h
theorem src_at {w : World} {B : Nat} {A : Option Addr} {xs : List SrcM} (h : RecsAt srcCs w B A xs) {i : Nat} {s : SrcM} (hi : xs[i]? = some s) : ∃ b o, A = some ⟨b, o, none⟩ ∧ b < B ∧ w.cell? ⟨b, o + i * 2, none⟩ = some (.int .i64 s.kind) ∧ w.cell? ⟨b, o + i * 2 + 1, none⟩ = some (.slice s.nA s.nodes.length s.nc) := by
  obtain ⟨b, o, e, hb, hc⟩ := RecsAt.at srcCs_len h hi (by decide)
  exact ⟨b, o, e, hb, hc 0 _ rfl, hc 1 _ rfl⟩
/-- the cells of a boxed action. -/
structure BoxA (X : World) (b : Nat) (a : ActM) : Prop where
  hb : X.heap[b]? = some (.cells (actCs a).toArray 33 (0, 0))
theorem BoxA.new (w : World) (a : ActM) : BoxA (w.alloc (.cells (actCs a).toArray 33)) w.heap.size a := ⟨new_obj _ _⟩
theorem BoxA.next {X Y : World} {b : Nat} {a : ActM} (h : BoxA X b a) (hb : Below X.heap.size X Y) : BoxA Y b a := ⟨(hb.block b (Array.getElem?_eq_some_iff.1 h.hb).1).trans h.hb⟩
theorem BoxA.keep {X Y : World} {b B : Nat} {a : ActM} (h : BoxA X b a) (hk : KeepB B X Y) (hne : b ≠ B) : BoxA Y b a := ⟨(hk b _ _ _ h.hb hne (by decide)).trans h.hb⟩
theorem BoxA.cell {X : World} {b : Nat} {a : ActM} (h : BoxA X b a) {j : Nat} {u : Value} (hj : (actCs a)[j]? = some u) : X.cell? ⟨b, j, none⟩ = some u := by
  rw [Lib.cell_of_heap h.hb]
  simpa using hj
theorem BoxA.lt {X : World} {b : Nat} {a : ActM} (h : BoxA X b a) : b < X.heap.size := (Array.getElem?_eq_some_iff.1 h.hb).1
theorem fb_keep_int {T : TypeId} {L : List UInt8} {w0 X Y : World} {A : Option Addr} {fs : List Nat} (hf : FieldsAt X A fs) (h : FB T L w0 X) (hT : T ≠ 3) (hk : KeepB w0.heap.size X Y) : FieldsAt Y A fs :=
  hf.keep hk (by obtain ⟨cs, fr, q⟩ := h.head; exact ⟨cs, T, fr, q, hT⟩)
theorem new_cell (w : World) (cs : Array Value) (t : TypeId) (j : Nat) : (w.alloc (.cells cs t)).cell? ⟨w.heap.size, j, none⟩ = cs[j]? := by
  rw [Lib.cell_of_heap (new_obj w (.cells cs t))]
theorem fresh2 (w : World) (u0 u1 : Value) (t : TypeId) : (w.alloc (.cells #[u0, u1] t)).cell? ⟨w.heap.size, 0, none⟩ = some u0 ∧ (w.alloc (.cells #[u0, u1] t)).cell? ⟨w.heap.size, 1, none⟩ = some u1 := ⟨new_cell w _ t 0, new_cell w _ t 1⟩
theorem len_bound {L : Wd} {ws : List Wd} (h21 : ∀ w ∈ ws, w.length ≤ 21) (hn : ws.length ≤ 100000000) (hL : L.length ≤ 1000000000) : (addWs L ws).length ≤ 4000000000 := by
  have := addWs_len (m := 21) ws L h21
  omega
set_option maxRecDepth 100000 in
set_option maxHeartbeats 8000000 in
theorem action_any {L : Wd} {w0 w : World} (hr : Ready w0) (h : FB WT L w0 w) (a : ActM) (hat : ActAt w w0.heap.size a) (hR : ActR a.con) (hsz : actSize a.con ≤ 100000) (hn : L.length ≤ 1000000000) :
    Calls Tryz.prog 45 #[.pointer (some ⟨w0.heap.size, 0, none⟩), actV a] w (RetW (addWs L (actW a.con)) w0 w) := by
  have hb1 : Below w.heap.size w (w.alloc (.cells (actCs a).toArray 33)) := (Below.refl _ _).alloc (Nat.le_refl _) _
  have HBX1 := Lib.hid (BoxA.new w a)
  have HZ := Lib.hid h.below.size
  have HNE : Hid (w.heap.size ≠ w0.heap.size) := Lib.hid (by have := h.lt; omega)
  have HF1 := Lib.hid (h.next hb1)
  have HB1 := Lib.hid hb1
  have HA := Lib.hid (And.intro hat (And.intro hR (And.intro hr (And.intro hsz hn))))
  obtain ⟨k, hk⟩ : ∃ k, k = a.kind := ⟨_, rfl⟩
  have HK := Lib.hid hk
  obtain ⟨W1, hW1⟩ : ∃ W1, W1 = w.alloc (.cells (actCs a).toArray 33) := ⟨_, rfl⟩
  rw [← hW1] at HBX1 HF1 HB1
  have c0 := HBX1.out.cell (j := 0) rfl
  rw [← hk] at c0
  have HFL := Lib.hid (aFields_any W1 k)
  unfold actV
  rw [← hk]
  unfold actCs at hW1
  rw [← hk] at hW1
  clear h hat hR hsz hn hr hb1 hk
  go_enter Tryz.func45, Tryz.ntmps45
  go_wp2_with fail
  rw [← hW1]
  clear hW1
  refine HFL.out.mono ?_
  rintro e W2 ⟨A, rfl, hfa, hw2⟩
  have HFA := Lib.hid hfa
  have HB2 : Hid (Below W1.heap.size W1 W2) := Lib.hid (by
    rcases hw2 with rfl | rfl
    · exact Below.refl _ _
    · exact (Below.refl _ _).alloc (Nat.le_refl _) _)
  have HWD := Lib.hid (word_any (HF1.out.next HB2.out) (actN k) (by have := actN_21 k; have := HA.out.2.2.2.2; omega))
  clear hfa hw2 c0
  go_wp2_with fail
  refine HWD.out.mono ?_
  rintro e W3 ⟨rfl, h1, h2, h3⟩
  have H3 := Lib.hid (And.intro h1 (And.intro h2 h3))
  have HB02 := Lib.hid (show Below w.heap.size w W2 from HB1.out.trans (HB2.out.mono HB1.out.size))
  have HFA3 := Lib.hid (fb_keep_int HFA.out (HF1.out.next HB2.out) (by decide) h2)
  have HBX3 := Lib.hid ((HBX1.out.next HB2.out).keep h2 HNE.out)
  clear h1 h2 h3
  obtain ⟨fs, hfs⟩ : ∃ fs, fs = actF k := ⟨_, rfl⟩
  have HFS := Lib.hid hfs
  rw [← hfs] at HFA3 ⊢
  obtain ⟨m, hm⟩ : ∃ m, m = fs.length := ⟨_, rfl⟩
  have HM := Lib.hid hm
  have hm3 : m ≤ 3 := by rw [hm, hfs]; exact actF_len k
  rw [← hm]
  clear hfs hm
  go_wp2_with fail
  go_loopw [21] (fun iv X => ∃ j : Nat, j ≤ m ∧ iv = .int .i64 j ∧ FB WT (addWs L (actN k :: asW (fs.take j) a.con)) w0 X ∧ KeepB w0.heap.size W2 X ∧ Below w0.heap.size w X ∧ BoxA X w.heap.size a ∧ FieldsAt X A fs) (fun iv _ => m - (intOf iv).toNat)
  case atStart => exact ⟨0, Nat.zero_le _, rfl, H3.out.1, H3.out.2.1, (HB02.out.mono HZ.out).trans H3.out.2.2, HBX3.out, HFA3.out⟩
  case round =>
    obtain ⟨j, hj, rfl, hfb, hkb, hbl, hbx, hfl⟩ := hrel
    obtain ⟨XO, rfl⟩ : ∃ XO : World, XO = wr := ⟨_, rfl⟩
    have HR := Lib.hid (And.intro hfb (And.intro hkb hbl))
    have HBX := Lib.hid hbx
    have HFL2 := Lib.hid hfl
    clear hfb hkb hbl hbx hfl
    by_cases hlt : j < m
    · obtain ⟨f, hf⟩ : ∃ f, fs[j]? = some f := ⟨fs[j]'(by have := HM.out; omega), by simp⟩
      have hf7 : f < 7 := actF_lt k f (by rw [← HFS.out]; exact List.mem_of_getElem? hf)
      obtain ⟨fb, hfA, hfbl, hfc⟩ := HFL2.out.at hf
      rw [hfA]
      obtain ⟨LJ, hLJ⟩ : ∃ l, l = addWs L (actN k :: asW (fs.take j) a.con) := ⟨_, rfl⟩
      have HLN : Hid (LJ.length ≤ 4000000000) := Lib.hid (by
        rw [hLJ]
        refine len_bound (fun x hx => ?_) ?_ HA.out.2.2.2.2
        · rcases List.mem_cons.1 hx with e | e
          · rw [e]
            exact actN_21 k
          · exact asW_21 HA.out.2.1 _ x e
        · have h1 := asW_len a.con (fs.take j)
          have h2 := HA.out.2.2.2.1
          have h3 : (fs.take j).length ≤ 3 := by rw [List.length_take]; omega
          have h4 := Nat.mul_le_mul h3 (Nat.le_refl (2 * actSize a.con + 1))
          rw [List.length_cons]
          omega)
      have HRND : Hid (∀ w2, FB WT (addWs LJ (aW a.con f)) w0 w2 ∧ KeepB w0.heap.size XO w2 ∧ Below w0.heap.size XO w2 → ∃ j' : Nat, j' ≤ m ∧ Value.int .i64 ((j : Int) + 1) = .int .i64 j' ∧ FB WT (addWs L (actN k :: asW (fs.take j') a.con)) w0 w2 ∧ KeepB w0.heap.size W2 w2 ∧ Below w0.heap.size w w2 ∧ BoxA w2 w.heap.size a ∧ FieldsAt w2 (some ⟨fb, 0, none⟩) fs) := Lib.hid (fun w2 h => by
        refine ⟨j + 1, by omega, by rw [Int.natCast_add]; rfl, ?_, HR.out.2.1.trans h.2.1, HR.out.2.2.trans h.2.2, HBX.out.keep h.2.1 HNE.out, hfA ▸ fb_keep_int HFL2.out HR.out.1 (by decide) h.2.1⟩
        have e1 : asW (fs.take (j + 1)) a.con = asW (fs.take j) a.con ++ aW a.con f := by
          unfold asW
          rw [take_snoc hf, List.flatMap_append]
          simp
        rw [e1, ← List.cons_append, addWs_app, ← hLJ]
        exact h.1)
      rw [← hLJ] at HR
      have c1 := HBX.out.cell (j := 1) rfl
      have c2 := HBX.out.cell (j := 2) rfl
      have c3 := HBX.out.cell (j := 3) rfl
      have c4 := HBX.out.cell (j := 4) rfl
      have c5 := HBX.out.cell (j := 5) rfl
      have c6 := HBX.out.cell (j := 6) rfl
      have c7 := HBX.out.cell (j := 7) rfl
      clear hf hLJ hfA
      have hcase : f = 0 ∨ f = 1 ∨ f = 2 ∨ f = 3 ∨ f = 4 ∨ f = 5 ∨ f = 6 := by omega
      rcases hcase with rfl | rfl | rfl | rfl | rfl | rfl | rfl
      · have HC := Lib.hid (number_any HA.out.2.2.1 HR.out.1 a.who HA.out.2.1.who (by have := HLN.out; omega))
        go_wp2_with fail
        refine HC.out.mono ?_
        rintro e w2 ⟨rfl, h1, h2, h3⟩
        have H2 := Lib.hid (And.intro h1 (And.intro h2 h3))
        clear h1 h2 h3
        go_wp2_with fail
        go_roundw
        case rel => exact HRND.out w2 H2.out
        case measure => simp [intOf]; omega
      · have HC := Lib.hid (number_any HA.out.2.2.1 HR.out.1 a.n HA.out.2.1.n (by have := HLN.out; omega))
        go_wp2_with fail
        refine HC.out.mono ?_
        rintro e w2 ⟨rfl, h1, h2, h3⟩
        have H2 := Lib.hid (And.intro h1 (And.intro h2 h3))
        clear h1 h2 h3
        go_wp2_with fail
        go_roundw
        case rel => exact HRND.out w2 H2.out
        case measure => simp [intOf]; omega
      · have HC := Lib.hid (number_any HA.out.2.2.1 HR.out.1 a.call HA.out.2.1.call (by have := HLN.out; omega))
        go_wp2_with fail
        refine HC.out.mono ?_
        rintro e w2 ⟨rfl, h1, h2, h3⟩
        have H2 := Lib.hid (And.intro h1 (And.intro h2 h3))
        clear h1 h2 h3
        go_wp2_with fail
        go_roundw
        case rel => exact HRND.out w2 H2.out
        case measure => simp [intOf]; omega
      · have HC := Lib.hid (number_any HA.out.2.2.1 HR.out.1 a.other HA.out.2.1.other (by have := HLN.out; omega))
        go_wp2_with fail
        refine HC.out.mono ?_
        rintro e w2 ⟨rfl, h1, h2, h3⟩
        have H2 := Lib.hid (And.intro h1 (And.intro h2 h3))
        clear h1 h2 h3
        go_wp2_with fail
        go_roundw
        case rel => exact HRND.out w2 H2.out
        case measure => simp [intOf]; omega
      · have HC := Lib.hid (number_any HA.out.2.2.1 HR.out.1 a.node HA.out.2.1.node (by have := HLN.out; omega))
        go_wp2_with fail
        refine HC.out.mono ?_
        rintro e w2 ⟨rfl, h1, h2, h3⟩
        have H2 := Lib.hid (And.intro h1 (And.intro h2 h3))
        clear h1 h2 h3
        go_wp2_with fail
        go_roundw
        case rel => exact HRND.out w2 H2.out
        case measure => simp [intOf]; omega
      · have HC := Lib.hid (number_any HA.out.2.2.1 HR.out.1 (a.srcs.length : Int) (by have := HA.out.2.1.slen; unfold Is64; simp only [ActM.con, List.length_map] at this; omega) (by have := HLN.out; omega))
        have HSS := Lib.hid HA.out.2.2.2.1
        obtain ⟨n, hn⟩ : ∃ n, n = a.srcs.length := ⟨_, rfl⟩
        have hnl : n ≤ 100000 := by have h1 := srcs_count a.con.srcs; have h2 := HA.out.2.2.2.1; unfold actSize at h2; simp only [ActM.con, List.length_map] at h1 h2; omega
        have HN := Lib.hid hn
        rw [← hn] at c6 HC
        clear hn
        go_wp2_with fail
        refine HC.out.mono ?_
        rintro e w2 ⟨rfl, h1, h2, h3⟩
        have H2 := Lib.hid (And.intro h1 (And.intro h2 h3))
        have HBX2 := Lib.hid (HBX.out.keep h2 HNE.out)
        have c6' := HBX2.out.cell (j := 6) rfl
        rw [← HN.out] at c6'
        clear h1 h2 h3 c1 c2 c3 c4 c5 c6 c7
        have H20 : Hid (Below w0.heap.size w w2) := Lib.hid (HR.out.2.2.trans H2.out.2.2)
        go_wp2_with fail
        go_loopw [66] (fun iv Y => ∃ i : Nat, i ≤ n ∧ iv = .int .i64 i ∧ FB WT (addWs (addW LJ (itoa n)) (srcsW ((a.srcs.map SrcM.con).take i))) w0 Y ∧ KeepB w0.heap.size w2 Y ∧ Below w0.heap.size w2 Y) (fun iv _ => n - (intOf iv).toNat)
        case atStart => exact ⟨0, Nat.zero_le _, rfl, H2.out.1, KeepB.refl, Below.refl _ _⟩
        case round =>
          obtain ⟨i, hi, rfl, hfb, hkb, hbl⟩ := hrel
          obtain ⟨wo, rfl⟩ : ∃ wo : World, wo = wr := ⟨_, rfl⟩
          have HR3 := Lib.hid (And.intro hfb (And.intro hkb hbl))
          clear hfb hkb hbl
          by_cases hil : i < n
          · have hil' : (i : Int) < (n : Int) := by omega
            obtain ⟨s, hs⟩ : ∃ s, a.srcs[i]? = some s := ⟨a.srcs[i]'(by have := HN.out; omega), by simp⟩
            have hsm := List.mem_of_getElem? hs
            have hat2 := HA.out.1.below (H20.out.trans HR3.out.2.2)
            obtain ⟨sb, so, hsA, hsb, q0, q1⟩ := src_at hat2.srcs.row hs
            have HND := Lib.hid (hat2.srcs.nodes s hsm)
            have HS := Lib.hid hs
            have HRS := Lib.hid (HA.out.2.1.srcs s.con (List.mem_map_of_mem hsm))
            have hnd : s.nodes.length ≤ 100000 := by
              have h1 := src_size (l := a.con.srcs) (s := s.con) (List.mem_map_of_mem hsm)
              have h2 := HSS.out
              unfold actSize at h2
              have e : s.con.nodes = s.nodes := rfl
              rw [e] at h1
              omega
            have HLI : Hid ((addWs (addW LJ (itoa n)) (srcsW ((a.srcs.map SrcM.con).take i))).length ≤ 9000000000) := Lib.hid (by
              have h1 := addWs_len (m := 21) (srcsW ((a.srcs.map SrcM.con).take i)) (addW LJ (itoa n)) (fun x hx => by
                refine aW_21 HA.out.2.1 5 x (List.mem_cons_of_mem _ ?_)
                obtain ⟨t, ht, hx⟩ := List.mem_flatMap.1 hx
                exact List.mem_flatMap.2 ⟨t, List.mem_of_mem_take ht, hx⟩)
              have h2 := addW_len LJ (itoa n)
              have h3 := itoa_len (n := (n : Int)) (by unfold Is64; omega)
              have h4 := HLN.out
              have h5 : (srcsW ((a.srcs.map SrcM.con).take i)).length ≤ (srcsW a.con.srcs).length := by
                have e : srcsW a.con.srcs = srcsW ((a.srcs.map SrcM.con).take i) ++ srcsW ((a.srcs.map SrcM.con).drop i) := by
                  unfold srcsW
                  rw [← List.flatMap_append, List.take_append_drop]
                  rfl
                rw [e, List.length_append]
                omega
              have h6 := srcs_size a.con.srcs
              have h7 := HSS.out
              unfold actSize at h7
              omega)
            obtain ⟨l, hl⟩ : ∃ l, l = s.nodes.length := ⟨_, rfl⟩
            have HL := Lib.hid hl
            rw [← hl] at q1 hnd
            have hbn : Below wo.heap.size wo (wo.alloc (.cells #[.int .i64 s.kind, .slice s.nA l s.nc] 80)) := (Below.refl _ _).alloc (Nat.le_refl _) _
            obtain ⟨g0, g1⟩ := fresh2 wo (.int .i64 s.kind) (.slice s.nA l s.nc) 80
            have HBN := Lib.hid hbn
            have HHB := Lib.hid (new_obj wo (.cells #[.int .i64 s.kind, .slice s.nA l s.nc] 80))
            have HC2 := Lib.hid (number_any HA.out.2.2.1 (HR3.out.1.next hbn) s.kind HRS.out.1 (by have := HLI.out; omega))
            obtain ⟨W5, hW5⟩ : ∃ W, W = wo.alloc (.cells #[.int .i64 s.kind, .slice s.nA l s.nc] 80) := ⟨_, rfl⟩
            rw [← hW5] at g0 g1 HBN HHB HC2
            rw [hsA]
            clear hs hsm hat2 hbn hl hsA
            go_wp2_with fail
            rw [← hW5]
            clear hW5
            refine HC2.out.mono ?_
            rintro e w6 ⟨rfl, h1, h2, h3⟩
            have hne : wo.heap.size ≠ w0.heap.size := by have := HR3.out.1.lt; omega
            have g1' : w6.cell? ⟨wo.heap.size, 1, none⟩ = some (.slice s.nA l s.nc) := by
              have q := (h2 wo.heap.size _ _ _ HHB.out hne (by decide)).trans HHB.out
              rw [Lib.cell_of_heap q]
              rfl
            have H6 := Lib.hid (And.intro h1 (And.intro h2 h3))
            have HC3 := Lib.hid (list_any HA.out.2.2.1 h1 s.nA s.nc s.nodes (Sl.below (Sl.below HND.out (HBN.out.mono (Nat.le_of_lt HR3.out.1.lt))) h3) HRS.out.2.2 (by have := HL.out; omega) (by have h4 := addW_len (addWs (addW LJ (itoa n)) (srcsW ((a.srcs.map SrcM.con).take i))) (itoa s.kind); have h5 := itoa_len HRS.out.1; have h6 := HLI.out; have e : s.con.kind = s.kind := rfl; rw [e] at h5; omega))
            rw [← HL.out] at HC3
            clear h1 h2 h3 g0 g1
            go_wp2_with fail
            refine HC3.out.mono ?_
            rintro e w7 ⟨rfl, h1, h2, h3⟩
            have H7 := Lib.hid (And.intro h1 (And.intro h2 h3))
            clear h1 h2 h3
            go_wp2_with fail
            go_roundw
            case rel =>
              refine ⟨i + 1, by omega, by go_num, ?_, (HR3.out.2.1.trans (KeepB.of_below HBN.out)).trans (H6.out.2.1.trans H7.out.2.1), (HR3.out.2.2.trans (HBN.out.mono (by have := HR3.out.1.lt; omega))).trans (H6.out.2.2.trans H7.out.2.2)⟩
              have e1 : (a.srcs.map SrcM.con).take (i + 1) = (a.srcs.map SrcM.con).take i ++ [s.con] := take_snoc (by rw [List.getElem?_map, HS.out]; rfl)
              have e2 : srcsW ((a.srcs.map SrcM.con).take (i + 1)) = srcsW ((a.srcs.map SrcM.con).take i) ++ (itoa s.kind :: listW s.nodes) := by
                rw [e1]
                unfold srcsW
                rw [List.flatMap_append]
                simp [srcW, SrcM.con]
              rw [e2, addWs_app]
              exact H7.out.1
            case measure => simp [intOf]; omega
          · obtain rfl : i = n := by omega
            have e : (a.srcs.map SrcM.con).take i = a.con.srcs := List.take_of_length_le (by rw [List.length_map]; have := HN.out; omega)
            go_wp2_with fail
            go_roundw
            case rel =>
              refine HRND.out wo ⟨?_, H2.out.2.1.trans HR3.out.2.1, H2.out.2.2.trans HR3.out.2.2⟩
              have h1 := HR3.out.1
              rw [e] at h1
              show FB WT (addWs LJ (itoa a.con.srcs.length :: srcsW a.con.srcs)) w0 wo
              have e2 : a.con.srcs.length = i := by rw [HN.out]; exact List.length_map _
              rw [e2]
              exact h1
            case measure => simp [intOf]; omega
      · have HGL : Hid (a.groups.length ≤ 100000) := Lib.hid (by have h2 := HA.out.2.2.2.1; unfold actSize at h2; have e : a.con.groups = a.groups := rfl; rw [e] at h2; omega)
        have HC := Lib.hid (list_any HA.out.2.2.1 HR.out.1 a.gA a.gc a.groups (HA.out.1.below HR.out.2.2).groups HA.out.2.1.groups (by have := HGL.out; omega) (by have := HLN.out; omega))
        go_wp2_with fail
        refine HC.out.mono ?_
        rintro e w2 ⟨rfl, h1, h2, h3⟩
        have H2 := Lib.hid (And.intro h1 (And.intro h2 h3))
        clear h1 h2 h3
        go_wp2_with fail
        go_roundw
        case rel => exact HRND.out w2 H2.out
        case measure => simp [intOf]; omega
    · obtain rfl : j = m := by omega
      go_wp2_with fail
      go_end0
      have e : fs.take j = fs := List.take_of_length_le (by have := HM.out; omega)
      obtain ⟨h1, h2, h3⟩ := HR.out
      rw [e] at h1
      refine ⟨rfl, ?_, (KeepB.of_below HB02.out).trans h2, h3⟩
      have e2 : actW a.con = actN k :: asW fs a.con := by
        show actN a.kind :: asW (actF a.kind) a.con = _
        rw [HFS.out, HK.out]
      rw [e2]
      exact h1
end Go.Proofs.YtakdkiggaalimaaGreatDoor
