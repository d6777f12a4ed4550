/-
  traveltimes.parseChange: the change whose line it is.
-/
import Derived.Test.YtppbmnlneoinhaaDoorCutL
import Derived.Test.YtppbmnlneoinhaaDoorReadyP
import Derived.Deep.RegionLaw
namespace Go.Proofs.YtppbmnlneoinhaaDoor
open Go.RowKit Go.Maps

def fourT (s : ByteArray) : List ByteArray := Lib.splitB ⟨#[32]⟩ 0 (min 4 (s.size + 1) - 1) s
theorem fourT_any (s : ByteArray) (hs : s.size ≤ 1099511627) (w : World) (hr : ReadyP w) :
    Calls Tryd.prog 42 #[.string s, .string ⟨#[32]⟩, .int .i64 4] w fun e w' =>
      ∃ N, e = .returned (.slice (some ⟨w.heap.size, 0, none⟩) (fourT s).length N) ∧ (fourT s).length ≤ N ∧ w' = w.alloc (.cells (Lib.cellsOf (fourT s) N) 9) ∧ N ≤ 4 := by
  obtain ⟨m, hm⟩ := hr.most
  refine (Tryd.strings_SplitN s ⟨#[32]⟩ 4 m w (by omega) hm (by decide) (by omega) (by omega)).mono ?_
  rintro e w' ⟨rfl, rfl⟩
  refine ⟨_, rfl, ?_, rfl, ?_⟩
  · have := Lib.splitB_length_le ⟨#[32]⟩ 0 (min 4 (s.size + 1) - 1) s
    unfold fourT
    omega
  · omega
theorem split_smallT (sep : ByteArray) : ∀ (k : Nat) (s : ByteArray), ∀ x ∈ Lib.splitB sep 0 k s, x.size ≤ s.size
  | 0, s, x, hx => by
    rcases List.mem_singleton.1 hx with rfl
    exact Nat.le_refl _
  | k + 1, s, x, hx => by
    unfold Lib.splitB at hx
    split at hx
    · rcases List.mem_singleton.1 hx with rfl
      exact Nat.le_refl _
    · rcases List.mem_cons.1 hx with rfl | hx
      · rw [ByteArray.size_extract]
        omega
      · have := split_smallT sep k _ x hx
        rw [ByteArray.size_extract] at this
        omega
theorem cells_atT {L : List ByteArray} {N k : Nat} {p : ByteArray} (h : L[k]? = some p) : (Lib.cellsOf L N)[k]? = some (.string p) := by
  have hk := (List.getElem?_eq_some_iff.1 h).1
  unfold Lib.cellsOf
  rw [List.getElem?_toArray, List.getElem?_append_left (by simpa using hk), List.getElem?_map, h]
  rfl
/-- the line without its newline. -/
def bare (s : ByteArray) : ByteArray := ⟨(Lib.trimSuffix s.data.toList [10]).toArray⟩
theorem bare_size (s : ByteArray) : (bare s).size ≤ s.size := by
  show (Lib.trimSuffix s.data.toList [10]).toArray.size ≤ s.data.size
  unfold Lib.trimSuffix
  split
  · simp
  · simp
theorem words_of {s : ByteArray} {c : ChgT} (hc : okR c) (h : lineC c = s.data.toList) : (fourT (bare s)).map (·.data.toList) = wordsC c := by
  have e : (bare s).data.toList = Lib.join (wordsC c) [32] := by
    unfold bare
    rw [← h, line_join, trim_line]
  have hr := join_room (wordsC c)
  have h3 : (wordsC c).length = 3 := rfl
  have hsz : (bare s).size = (Lib.join (wordsC c) [32]).length := by rw [← e]; exact (Array.length_toList).symm
  unfold fourT
  rw [Lib.splitB_data, e]
  exact split_join _ _ (by simp [wordsC]) (words_clean hc 32 (.inl rfl)) (by rw [h3]; omega)
/-- what parseChange returns. -/
def RetPC (s : ByteArray) (w : World) (e : Ending) (w' : World) : Prop :=
  ∃ (c : ChgT) (b : Bool), e = .returned (.tuple #[.agg #[.int .i64 c.tick, .int .i64 c.edge, .int .i64 c.time], .bool b]) ∧ (b = true → lineC c = s.data.toList ∧ wfC c) ∧ (b = false → ∀ c', okR c' → lineC c' ≠ s.data.toList) ∧ Below w.heap.size w w'
theorem closed_time {t : Int} {l : List UInt8} (h : l = timeText t) (hc : l ≠ [99, 108, 111, 115, 101, 100]) : l = Lib.itoa t := by
  unfold timeText at h
  split at h
  · exact absurd h hc
  · exact h
/-- what lies ahead of the last line of parseChange. -/
structure HoldP (w : World) (eb : Nat) (tick edge time : Int) (w' : World) : Prop where
  c0 : w'.cell? ⟨eb, 0, none⟩ = some (.int .i64 tick)
  c1 : w'.cell? ⟨eb, 0 + 1, none⟩ = some (.int .i64 edge)
  c2 : w'.cell? ⟨eb, 0 + 2, none⟩ = some (.int .i64 time)
  r0 : ∃ v, w'.cell? ⟨w.heap.size, 0, none⟩ = some v
  r1 : ∃ v, w'.cell? ⟨w.heap.size, 0 + 1, none⟩ = some v
  r2 : ∃ v, w'.cell? ⟨w.heap.size, 0 + 2, none⟩ = some v
  f0 : w'.frozen? ⟨w.heap.size, 0, none⟩ = false
  f1 : w'.frozen? ⟨w.heap.size, 0 + 1, none⟩ = false
  f2 : w'.frozen? ⟨w.heap.size, 0 + 2, none⟩ = false
  more : w.heap.size < eb ∧ eb < w'.heap.size ∧ Below w.heap.size w w' ∧ Ready w' ∧ Tryd.prog.globals.size ≤ w.heap.size
theorem HoldP.ready {w w' : World} {eb : Nat} {tick edge time : Int} (h : HoldP w eb tick edge time w') : Ready w' := h.more.2.2.2.1
theorem HoldP.next {w w' w2 : World} {eb : Nat} {tick edge time : Int} (h : HoldP w eb tick edge time w') (hb : Below w'.heap.size w' w2) : HoldP w eb tick edge time w2 := by
  obtain ⟨c0, c1, c2, r0, r1, r2, f0, f1, f2, m0, m1, m2, m3, m4⟩ := h
  have hl : w.heap.size < w'.heap.size := by omega
  have K : ∀ b o, b < w'.heap.size → w2.cell? ⟨b, o, none⟩ = w'.cell? ⟨b, o, none⟩ := fun b o h => hb.cell (p := ⟨b, o, none⟩) h
  have Z : ∀ b o, b < w'.heap.size → w2.frozen? ⟨b, o, none⟩ = w'.frozen? ⟨b, o, none⟩ := fun b o h => hb.frozen (p := ⟨b, o, none⟩) h
  refine ⟨(K _ _ m1).trans c0, (K _ _ m1).trans c1, (K _ _ m1).trans c2, ?_, ?_, ?_, (Z _ _ hl).trans f0, (Z _ _ hl).trans f1, (Z _ _ hl).trans f2, m0, Nat.lt_of_lt_of_le m1 hb.size, m2.trans (hb.mono (Nat.le_of_lt hl)), m3.below hb, m4⟩
  · rw [K _ _ hl]; exact r0
  · rw [K _ _ hl]; exact r1
  · rw [K _ _ hl]; exact r2
theorem HoldP.drewN {w w' : World} {eb : Nat} {tick edge time : Int} (h : HoldP w eb tick edge time w') (n : Nat) : HoldP w eb tick edge time (w'.drewN n) := h.next (below_drewN (Below.refl _ _) n)
theorem HoldP.drew {w w' : World} {eb : Nat} {tick edge time : Int} (h : HoldP w eb tick edge time w') : HoldP w eb tick edge time w'.drew := h.drewN 1
theorem HoldP.set {w w' : World} {eb : Nat} {tick edge time : Int} (h : HoldP w eb tick edge time w') (o : Nat) (v : Value) : HoldP w eb tick edge time (w'.setCell ⟨w.heap.size, o, none⟩ v) := by
  obtain ⟨c0, c1, c2, ⟨v0, r0⟩, ⟨v1, r1⟩, ⟨v2, r2⟩, f0, f1, f2, m0, m1, m2, m3, m4⟩ := h
  have K : ∀ j, (w'.setCell ⟨w.heap.size, o, none⟩ v).cell? ⟨eb, j, none⟩ = w'.cell? ⟨eb, j, none⟩ := fun j => World.cell?_setCell_other w' _ ⟨eb, j, none⟩ _ (fun q => by injection q with q; omega)
  refine ⟨(K _).trans c0, (K _).trans c1, (K _).trans c2, cell?_setCell_some r0, cell?_setCell_some r1, cell?_setCell_some r2, (World.frozen?_setCell _ _ _ _).trans f0, (World.frozen?_setCell _ _ _ _).trans f1, (World.frozen?_setCell _ _ _ _).trans f2, m0, by simpa using m1, m2.setCell (p := ⟨w.heap.size, o, none⟩) (Nat.le_refl _) v, ?_, m4⟩
  exact m3.keep ((Below.refl w.heap.size w').setCell (p := ⟨w.heap.size, o, none⟩) (Nat.le_refl _) v) m4

/-- the result's variable of parseChange. -/
structure OutP (w w' : World) : Prop where
  r0 : w'.cell? ⟨w.heap.size, 0, none⟩ = some (.int .i64 0)
  r1 : w'.cell? ⟨w.heap.size, 0 + 1, none⟩ = some (.int .i64 0)
  r2 : w'.cell? ⟨w.heap.size, 0 + 2, none⟩ = some (.int .i64 0)
  f0 : w'.frozen? ⟨w.heap.size, 0, none⟩ = false
  f1 : w'.frozen? ⟨w.heap.size, 0 + 1, none⟩ = false
  f2 : w'.frozen? ⟨w.heap.size, 0 + 2, none⟩ = false
  lt : w.heap.size < w'.heap.size
  below : Below w.heap.size w w'
theorem OutP.next {w w' w2 : World} (h : OutP w w') (hb : Below w'.heap.size w' w2) : OutP w w2 := by
  obtain ⟨r0, r1, r2, f0, f1, f2, hl, m2⟩ := h
  have K : ∀ o, w2.cell? ⟨w.heap.size, o, none⟩ = w'.cell? ⟨w.heap.size, o, none⟩ := fun o => hb.cell (p := ⟨w.heap.size, o, none⟩) hl
  have Z : ∀ o, w2.frozen? ⟨w.heap.size, o, none⟩ = w'.frozen? ⟨w.heap.size, o, none⟩ := fun o => hb.frozen (p := ⟨w.heap.size, o, none⟩) hl
  exact ⟨(K _).trans r0, (K _).trans r1, (K _).trans r2, (Z _).trans f0, (Z _).trans f1, (Z _).trans f2, Nat.lt_of_lt_of_le hl hb.size, m2.trans (hb.mono (Nat.le_of_lt hl))⟩
theorem outP_start (w : World) : OutP w (w.alloc (.cells #[.int .i64 0, .int .i64 0, .int .i64 0] 57)) := by
  refine ⟨?_, ?_, ?_, ?_, ?_, ?_, by simp, (Below.refl _ _).alloc (Nat.le_refl _) _⟩
  · rw [World.cell?_alloc_at (hn := rfl)]; rfl
  · rw [World.cell?_alloc_at (hn := rfl)]; rfl
  · rw [World.cell?_alloc_at (hn := rfl)]; rfl
  all_goals
    rw [World.frozen?_alloc_at (hn := rfl)]


theorem holdP_mk {w wc : World} (h : OutP w wc) (hr : Ready wc) (hg : Tryd.prog.globals.size ≤ w.heap.size) (tick edge time : Int) : HoldP w wc.heap.size tick edge time (wc.alloc (.cells #[.int .i64 tick, .int .i64 edge, .int .i64 time] 57)) := by
  have hb : Below wc.heap.size wc (wc.alloc (.cells #[.int .i64 tick, .int .i64 edge, .int .i64 time] 57)) := (Below.refl _ _).alloc (Nat.le_refl _) _
  obtain ⟨r0, r1, r2, f0, f1, f2, hl, m2⟩ := h.next hb
  refine ⟨?_, ?_, ?_, ⟨_, r0⟩, ⟨_, r1⟩, ⟨_, r2⟩, f0, f1, f2, h.lt, by simp, m2, hr.below hb, hg⟩
  all_goals
    rw [World.cell?_alloc_at (hn := rfl)]
    rfl
theorem put_below {w w1 : World} (h : Below w.heap.size w w1) (v0 v1 v2 : Value) : Below w.heap.size w (((w1.setCell ⟨w.heap.size, 0, none⟩ v0).setCell ⟨w.heap.size, 0 + 1, none⟩ v1).setCell ⟨w.heap.size, 0 + 2, none⟩ v2) :=
  ((h.setCell (p := ⟨w.heap.size, 0, none⟩) (Nat.le_refl _) v0).setCell (p := ⟨w.heap.size, 0 + 1, none⟩) (Nat.le_refl _) v1).setCell (p := ⟨w.heap.size, 0 + 2, none⟩) (Nat.le_refl _) v2
theorem zero_below {w w1 : World} (h : Below w.heap.size w w1) : Below w.heap.size w (((w1.setCell ⟨w.heap.size, 0, none⟩ (.int .i64 0)).setCell ⟨w.heap.size, 0 + 1, none⟩ (.int .i64 0)).setCell ⟨w.heap.size, 0 + 2, none⟩ (.int .i64 0)) := put_below h (.int .i64 0) (.int .i64 0) (.int .i64 0)

set_option maxRecDepth 100000 in
set_option maxHeartbeats 2000000 in
theorem parseChange_any (s : ByteArray) (hs : s.size ≤ 1099511627) (w : World) (hr : ReadyP w) :
    Calls Tryd.prog 27 #[.string s] w (RetPC s w) := by
  obtain ⟨W, hW⟩ : ∃ W, W = w.alloc (.cells #[.int .i64 0, .int .i64 0, .int .i64 0] 57) := ⟨_, rfl⟩
  have ho : OutP w W := by rw [hW]; exact outP_start w
  have hb0 : Below w.heap.size w W := ho.below
  have hr0 := hr.below hb0
  have HO := Lib.hid ho
  clear ho
  go_enter Tryd.func27, Tryd.ntmps27
  go_wp2_with fail
  rw [← hW]
  have HW := Lib.hid hW
  clear hW
  refine (Tryd.strings_TrimSuffix s ⟨#[10]⟩ W (by omega)).mono ?_
  rintro e w0 ⟨rfl, rfl⟩
  have hbs := bare_size s
  have hmap : ∀ c', okR c' → lineC c' = s.data.toList → (fourT (bare s)).map (·.data.toList) = wordsC c' := fun c' hc h => words_of hc h
  have hsm2 : ∀ x ∈ fourT (bare s), x.size ≤ (bare s).size := split_smallT ⟨#[32]⟩ _ _
  go_wp2_with fail
  refine (fourT_any (bare s) (by omega) w0 hr0).mono ?_
  obtain ⟨L, hL⟩ : ∃ L, L = fourT (bare s) := ⟨_, rfl⟩
  rw [← hL] at hsm2 hmap ⊢
  clear hL
  have HM := Lib.hid hmap
  clear hmap
  rintro e w1 ⟨N, rfl, hN, hw1, hN4⟩
  have hb1 : Below w0.heap.size w0 w1 := by rw [hw1]; exact (Below.refl _ _).alloc (Nat.le_refl _) _
  have hr1 := hr0.below hb1
  have ho1 := HO.out.next hb1
  have hcell : ∀ (k : Nat) p, L[k]? = some p → w1.cell? ⟨w0.heap.size, k, none⟩ = some (.string p) := by
    intro k p hp
    rw [hw1, World.cell?_alloc_at (hn := rfl)]
    exact cells_atT hp
  have hsz : w0.heap.size < w1.heap.size := by rw [hw1]; simp
  have HO1 := Lib.hid ho1
  have HR1 := Lib.hid hr1
  clear hw1 hb1 HO hr1 ho1 hr0 hb0
  by_cases h3 : L.length = 3
  · match L, h3 with
    | [a, b, c], _ =>
    have c0 := hcell 0 a rfl
    have c1 := hcell 1 b rfl
    have c2 := hcell 2 c rfl
    have z0 := hsm2 a (by simp)
    have z1 := hsm2 b (by simp)
    have z2 := hsm2 c (by simp)
    have hN3 : 3 ≤ N := hN
    clear hcell hsm2 hN
    simp only [List.length_cons, List.length_nil, Nat.zero_add, Nat.reduceAdd]
    go_wp2_with fail
    refine (parseInt_any a (by omega) w1 HR1.out).mono ?_
    rintro e w2 ⟨hres, hb2⟩
    have HO2 := Lib.hid (HO1.out.next hb2)
    have HR2 := Lib.hid (HR1.out.below hb2)
    have d1 := (hb2.cell (p := ⟨w0.heap.size, 1, none⟩) hsz).trans c1
    have d2 := (hb2.cell (p := ⟨w0.heap.size, 2, none⟩) hsz).trans c2
    have hsz2 := Nat.lt_of_lt_of_le hsz hb2.size
    clear c0 c1 c2 hsz hb2 HO1 HR1
    rcases hres with ⟨tick, hp, rfl⟩ | ⟨hp, n0, M0, rfl⟩
    case inr =>
      obtain ⟨r0, r1, r2, f0, f1, f2, rl, rb⟩ := HO2.out
      have q1 : w2.cell? ⟨w.heap.size, 1, none⟩ = some (.int .i64 0) := r1
      have q2 : w2.cell? ⟨w.heap.size, 2, none⟩ = some (.int .i64 0) := r2
      have HBB := Lib.hid (zero_below rb)
      go_wp2_with fail
      refine bodyPost_ret (v := .tuple #[.agg #[.int .i64 0, .int .i64 0, .int .i64 0], .bool false]) (by simp [results, Tryd.results27, go_sem, r0, q1, q2]) rfl ⟨⟨0, 0, 0⟩, false, rfl, (fun q => by cases q), fun _ c' hc' h => ?_, ?_⟩
      · have e := HM.out c' hc' h
        have e0 : a.data.toList = Lib.itoa c'.tick := by injection e
        rw [e0] at hp
        have hk := hc'
        unfold okR at hk
        exact hp _ (read_itoa (by omega) (by omega))
      · exact HBB.out
    go_wp2_with fail
    refine (atoi_any b (by omega) w2 HR2.out).mono ?_
    rintro e w3 ⟨hres, hb3⟩
    have HO3 := Lib.hid (HO2.out.next hb3)
    have HR3 := Lib.hid (HR2.out.below hb3)
    have d3 := (hb3.cell (p := ⟨w0.heap.size, 2, none⟩) hsz2).trans d2
    have hsz3 := Nat.lt_of_lt_of_le hsz2 hb3.size
    clear d1 d2 hsz2 hb3 HO2 HR2
    rcases hres with ⟨edge, hp1, rfl⟩ | ⟨hp1, n1, M1, rfl⟩
    case inr =>
      obtain ⟨r0, r1, r2, f0, f1, f2, rl, rb⟩ := HO3.out
      have q1 : w3.cell? ⟨w.heap.size, 1, none⟩ = some (.int .i64 0) := r1
      have q2 : w3.cell? ⟨w.heap.size, 2, none⟩ = some (.int .i64 0) := r2
      have HBB := Lib.hid (zero_below rb)
      go_wp2_with fail
      refine bodyPost_ret (v := .tuple #[.agg #[.int .i64 0, .int .i64 0, .int .i64 0], .bool false]) (by simp [results, Tryd.results27, go_sem, r0, q1, q2]) rfl ⟨⟨0, 0, 0⟩, false, rfl, (fun q => by cases q), fun _ c' hc' h => ?_, ?_⟩
      · have e := HM.out c' hc' h
        have e0 : b.data.toList = Lib.itoa c'.edge := by injection e with _ e; injection e
        rw [e0] at hp1
        have hk := hc'
        unfold okR at hk
        exact hp1 _ (atoi_itoa (by omega) (by omega))
      · exact HBB.out
    go_upto_if 40 with (fail)
    go_cut [6, 8] (fun er tv wx => er = .nilIface ∧ ∃ time, tv = .int .i64 time ∧ (-9223372036854775808 ≤ time ∧ time ≤ 9223372036854775807) ∧ (∀ c', okR c' → lineC c' = s.data.toList → time = c'.time) ∧ OutP w wx ∧ ReadyP wx)
    case first =>
      by_cases hc : c.data.toList = [99, 108, 111, 115, 101, 100]
      · have hq0 : (c.toList == [99, 108, 111, 115, 101, 100]) = true := by rw [Lib.toList_data, hc]; rfl
        have hq : (!(c.toList == [99, 108, 111, 115, 101, 100])) = false := by rw [hq0]; rfl
        clear hq0
        go_wp2_with fail
        · exact absurd (hq.symm.trans (‹(!c.toList == [99, 108, 111, 115, 101, 100]) = true›)) (by decide)
        go_meet
        case rel =>
          refine ⟨rfl, _, rfl, by omega, fun c' hc' h => ?_, HO3.out, HR3.out⟩
          have e := HM.out c' hc' h
          have e2 : c.data.toList = timeText c'.time := by injection e with _ e; injection e with _ e; injection e
          rw [hc] at e2
          unfold timeText at e2
          split at e2
          · rename_i h4; exact h4.symm
          · have hk := hc'
            unfold okR at hk
            rw [itoa_nat (by omega)] at e2
            have hd := dec_dig c'.time.toNat 99 (by rw [← e2]; simp)
            exact absurd hd (by unfold isDig; decide)
      · have hq0 : (c.toList == [99, 108, 111, 115, 101, 100]) = false := by rw [Lib.toList_data]; simpa using hc
        have hq : (!(c.toList == [99, 108, 111, 115, 101, 100])) = true := by rw [hq0]; rfl
        clear hq0
        have HC := Lib.hid hc
        clear hc
        go_wp2_with fail
        rotate_left
        · exact absurd (hq.symm.trans (‹(!c.toList == [99, 108, 111, 115, 101, 100]) = false›)) (by decide)
        refine (parseInt_any c (by omega) w3 HR3.out).mono ?_
        rintro e w4 ⟨hres, hb4⟩
        have HO4 := Lib.hid (HO3.out.next hb4)
        have HR4 := Lib.hid (HR3.out.below hb4)
        clear hb4 HO3 HR3
        have HE : Hid (∀ c', okR c' → lineC c' = s.data.toList → c.data.toList = Lib.itoa c'.time ∧ 0 ≤ c'.time ∧ c'.time ≤ 4611686018427387904) := Lib.hid (fun c' hc' h => by
          have e := HM.out c' hc' h
          have e2 : c.data.toList = timeText c'.time := by injection e with _ e; injection e with _ e; injection e
          have hk := hc'
          unfold okR at hk
          exact ⟨closed_time e2 HC.out, by omega, by omega⟩)
        rcases hres with ⟨time, hp2, rfl⟩ | ⟨hp2, n2, M2, rfl⟩
        case inr =>
          obtain ⟨r0, r1, r2, f0, f1, f2, rl, rb⟩ := HO4.out
          have q1 : w4.cell? ⟨w.heap.size, 1, none⟩ = some (.int .i64 0) := r1
          have q2 : w4.cell? ⟨w.heap.size, 2, none⟩ = some (.int .i64 0) := r2
          have HBB := Lib.hid (zero_below rb)
          go_wp2_with fail
          refine bodyPost_ret (v := .tuple #[.agg #[.int .i64 0, .int .i64 0, .int .i64 0], .bool false]) (by simp [results, Tryd.results27, go_sem, r0, q1, q2]) rfl ⟨⟨0, 0, 0⟩, false, rfl, (fun q => by cases q), fun _ c' hc' h => ?_, ?_⟩
          · obtain ⟨e0, e1, e2⟩ := HE.out c' hc' h
            rw [e0] at hp2
            exact hp2 _ (read_itoa e1 e2)
          · exact HBB.out
        go_wp2_with fail
        go_meet
        case rel =>
          refine ⟨rfl, _, rfl, int_range hp2, fun c' hc' h => ?_, HO4.out, HR4.out⟩
          obtain ⟨e0, e1, e2⟩ := HE.out c' hc' h
          rw [e0, read_itoa e1 e2] at hp2
          injection hp2 with hp2
          exact hp2.symm
    case rest =>
    obtain ⟨rfl, time, rfl, ht, hct, hoc, hrc⟩ := hcut
    have HALL : Hid (∀ c', okR c' → lineC c' = s.data.toList → lineC ⟨tick, edge, time⟩ = s.data.toList) := Lib.hid (fun c' hc' h => by
      have e := HM.out c' hc' h
      have e0 : a.data.toList = Lib.itoa c'.tick := by injection e
      have e1 : b.data.toList = Lib.itoa c'.edge := by injection e with _ e; injection e
      have hk := hc'
      unfold okR at hk
      rw [e0, read_itoa (by omega) (by omega)] at hp
      rw [e1, atoi_itoa (by omega) (by omega)] at hp1
      injection hp with hp
      injection hp1 with hp1
      have := hct c' hc' h
      rw [← hp, ← hp1, this]
      exact h)
    have hwf : wfC ⟨tick, edge, time⟩ := ⟨int_range hp, atoi_range hp1, ht⟩
    have hf : ∀ W : World, Ready W → Calls Tryd.prog 24 #[.agg #[.int .i64 tick, .int .i64 edge, .int .i64 time]] W fun e w' => e = .returned (.string (bs (lineC ⟨tick, edge, time⟩))) ∧ Below W.heap.size W w' := fun W h => fmtChange_any ⟨tick, edge, time⟩ W hwf h
    have HF := Lib.hid hf
    clear hf
    have HP := Lib.hid (holdP_mk hoc hrc.base hr.base.room tick edge time)
    have HOC := Lib.hid hoc
    have hzc : w.heap.size < wc.heap.size := hoc.lt
    clear hct hoc hrc hp hp1 HM HO3 HR3 d3
    go_wp2_with fail
    refine wp_region_held_drew (S := HoldP w wc.heap.size tick edge time) (by kernel_rfl) (HP.out.drewN 1) (fun hHeld => ?_)
    refine wpAnyH_take (i := 0) (v := .agg #[.int .i64 tick, .int .i64 edge, .int .i64 time]) rfl (by kernel_rfl) (by kernel_rfl) (by kernel_rfl) (fun _ _ _ h => h) (Or.inl ⟨by rfl, ?_⟩) (by assumption) ?_
    · intro w hSw
      obtain ⟨s0, s1, s2, s3, s4, s5, s6, s7, s8, _⟩ := hSw
      go_simp
    show wpAnyH _ _ _ _ _ _ _ (Act.put _ (some 55) _) _
    simp only [Act.put, List.setIfInBounds_toArray, List.set_cons_zero, List.set_cons_succ]
    refine wpAnyH_take (i := 1) (v := .agg #[.int .i64 tick, .int .i64 edge, .int .i64 time]) rfl (by kernel_rfl) (by kernel_rfl) (by kernel_rfl) (fun _ _ _ h => h) (Or.inl ⟨by rfl, ?_⟩) (by assumption) ?_
    · intro w hSw
      obtain ⟨s0, s1, s2, s3, s4, s5, s6, s7, s8, _⟩ := hSw
      go_simp
    show wpAnyH _ _ _ _ _ _ _ (Act.put _ (some 56) _) _
    simp only [Act.put, List.setIfInBounds_toArray, List.set_cons_zero, List.set_cons_succ]
    refine wpAnyH_take (i := 3) (v := .string s) rfl (by kernel_rfl) (by kernel_rfl) (by kernel_rfl) (fun _ _ _ h => h) (Or.inl ⟨by rfl, ?_⟩) (by assumption) ?_
    · intro w hSw
      obtain ⟨s0, s1, s2, s3, s4, s5, s6, s7, s8, _⟩ := hSw
      go_simp
    show wpAnyH _ _ _ _ _ _ _ (Act.put _ (some 58) _) _
    simp only [Act.put, List.setIfInBounds_toArray, List.set_cons_zero, List.set_cons_succ]
    refine wpAnyH_ready (rs := [2]) (by kernel_rfl) (by simp) ?_
    refine AllReadyH.cons rfl (fun K hK => ?_) AllReadyH.nil
    have hq := HP.out.drew
    go_simp
    ((with_reducible refine (HF.out _ hq.ready).mono ?_))
    rintro e w2 ⟨rfl, hbi⟩
    have hn := hq.next hbi
    clear hq
    go_simp
    refine hK.out _ _ hn (fun hHeld => ?_)
    clear hK K hbi hHeld
    have hHeld := hn
    clear hn
    refine wpAnyH_take (i := 4) (v := .bool ((bs (lineC ⟨tick, edge, time⟩)).toList == s.toList)) rfl (by kernel_rfl) (by kernel_rfl) (by kernel_rfl) (fun _ _ _ h => h) (Or.inl ⟨by rfl, ?_⟩) (by assumption) ?_
    · intro w hSw
      obtain ⟨s0, s1, s2, s3, s4, s5, s6, s7, s8, _⟩ := hSw
      go_simp
    show wpAnyH _ _ _ _ _ _ _ (Act.put _ (some 59) _) _
    simp only [Act.put, List.setIfInBounds_toArray, List.set_cons_zero, List.set_cons_succ]
    refine wpAnyH_ready (rs := [5]) (by kernel_rfl) (by simp) ?_
    refine AllReadyH.cons rfl (fun K hK => ?_) AllReadyH.nil
    have HX := Lib.hid (((hHeld.set 0 (.int .i64 tick)).set (0 + 1) (.int .i64 edge)).set (0 + 2) (.int .i64 time))
    obtain ⟨s0, s1, s2, ⟨v0, s3⟩, ⟨v1, s4⟩, ⟨v2, s5⟩, s6, s7, s8, _⟩ := hHeld
    have q1 : w2.cell? ⟨w.heap.size, 1, none⟩ = some v1 := s4
    have q2 : w2.cell? ⟨w.heap.size, 2, none⟩ = some v2 := s5
    go_simp
    refine hK.out _ _ HX.out (fun hHeld => ?_)
    clear hK K
    refine wpAnyH_take (i := 6) (v := .bool ((bs (lineC ⟨tick, edge, time⟩)).toList == s.toList)) rfl (by kernel_rfl) (by kernel_rfl) (by kernel_rfl) (fun _ _ _ h => h) (Or.inl ⟨by rfl, ?_⟩) (by assumption) ?_
    · intro w hSw
      obtain ⟨s0, s1, s2, s3, s4, s5, s6, s7, s8, _⟩ := hSw
      go_simp
    refine wpAnyH_done (by kernel_rfl) ?_ _
    go_wp2_with fail
    refine bodyPost_ret (v := .tuple #[.agg #[.int .i64 tick, .int .i64 edge, .int .i64 time], .bool ((bs (lineC ⟨tick, edge, time⟩)).toList == s.toList)]) (by simp [results, Tryd.results27, go_sem, s3, q1, q2]) rfl ⟨⟨tick, edge, time⟩, _, rfl, fun hq => ⟨?_, hwf⟩, fun hq c' hc' h => ?_, HX.out.more.2.2.1⟩
    · have h := beq_iff_eq.1 hq
      rw [Lib.toList_data, Lib.toList_data, bs_data] at h
      exact h
    · have h2 := HALL.out c' hc' h
      rw [Lib.toList_data, Lib.toList_data, bs_data, h2] at hq
      simp at hq
  · have dq : (((L.length : Nat) : Int) != 3) = true := by simpa using (show ¬ ((L.length : Int) = 3) by omega)
    have HC := Lib.hid hcell
    clear hcell hsm2
    obtain ⟨r0, r1, r2, f0, f1, f2, rl, rb⟩ := HO1.out
    have q1 : w1.cell? ⟨w.heap.size, 1, none⟩ = some (.int .i64 0) := r1
    have q2 : w1.cell? ⟨w.heap.size, 2, none⟩ = some (.int .i64 0) := r2
    have HBB := Lib.hid (zero_below rb)
    go_wp2_with fail
    refine bodyPost_ret (v := .tuple #[.agg #[.int .i64 0, .int .i64 0, .int .i64 0], .bool false]) (by simp [results, Tryd.results27, go_sem, r0, q1, q2]) rfl ⟨⟨0, 0, 0⟩, false, rfl, (fun q => by cases q), fun _ c' hc' h => ?_, ?_⟩
    · have e := congrArg List.length (HM.out c' hc' h)
      rw [List.length_map] at e
      exact h3 e
    · exact HBB.out
end Go.Proofs.YtppbmnlneoinhaaDoor
