/-
  All and Closed of a table.
-/
import Derived.Test.YtppbmnlneoinhaaDoorAt
namespace Go.Proofs.YtppbmnlneoinhaaDoor
open Go.RowKit Go.Maps

theorem OwnV.read {α : Type} {f : α → Value} {w : World} {base : Nat} {e : TypeId} {g n c : Nat} {zs : List α} (h : OwnV f w base e (.slice (some ⟨g, 0, none⟩) n c) zs) {k : Nat} {z : α} (hz : zs[k]? = some z) : w.cell? ⟨g, k, none⟩ = some (f z) ∧ w.frozen? ⟨g, k, none⟩ = false := by
  obtain ⟨g', c', hv, _, _, hc, hf⟩ := h.form hz
  injection hv with h1
  injection h1 with h1
  injection h1 with h1
  subst h1
  exact ⟨hc, hf⟩
theorem i64_info : (Tryd.prog.info? 2).map (fun i => (i.zero, i.size, i.bytes)) = some (some (.int .i64 0), 1, 8) := by kernel_rfl
theorem make_i64 (w : World) (n : Nat) (h : n ≤ 16777216) : (Instr.makeSlice 22 (.int .i64 n) (.int .i64 n)).run Tryd.prog w = .ok (.slice (some ⟨w.heap.size, 0, none⟩) n n) (w.alloc (.cells (madeCells #[.int .i64 0] n) 2)) := by
  obtain ⟨i0, hi, hz1, hz2, hz3⟩ := info_parts i64_info
  have := run_makeSlice (P := Tryd.prog) w 22 2 i0 (.int .i64 0) Tryd.underlying22 hi hz1 .i64 .i64 n n (by omega) (by omega) (by rw [hz2]; simp; omega) (by rw [hz3]; omega) (by omega)
  rw [hz2] at this
  have e : (Value.int .i64 0).cells = #[Value.int .i64 0] := rfl
  rw [e] at this
  simpa using this
theorem made_own (w : World) (base n : Nat) (hb : base ≤ w.heap.size) (hn : n ≤ 16777216) : OwnI (w.alloc (.cells (madeCells #[.int .i64 0] n) 2)) base 2 (.slice (some ⟨w.heap.size, 0, none⟩) n n) (List.replicate n 0) := by
  have h := World.ownsRow_lit (base := base) (e := 2) (size := 1) w (madeCells #[.int .i64 0] n) n hb (by unfold maxLen; omega) (by simp [size_madeCells])
  unfold OwnI OwnV
  rw [List.length_replicate]
  have e : (madeCells #[.int .i64 0] n).toList = (List.replicate n 0).map (Value.int .i64) := by
    apply List.ext_getElem?
    intro i
    by_cases hi : i < n
    · simp [madeCells, hi, Nat.mod_one]
    · simp [madeCells, hi]
  rw [← e]
  simpa using h

/-- the first k places filled. -/
def fillK (f : Nat → Int) (m k : Nat) : List Int := (List.range m).map (fun i => if i < k then f i else 0)
theorem fillK_zero (f : Nat → Int) (m : Nat) : fillK f m 0 = List.replicate m 0 := by
  unfold fillK
  apply List.ext_getElem?
  intro i
  by_cases hi : i < m <;> simp [hi]
theorem fillK_all (f : Nat → Int) (m : Nat) : fillK f m m = (List.range m).map f := by
  unfold fillK
  refine List.map_congr_left fun i hi => ?_
  rw [if_pos (List.mem_range.1 hi)]
theorem fillK_succ {f : Nat → Int} {m k : Nat} (hk : k < m) : (fillK f m k).set k (f k) = fillK f m (k + 1) := by
  unfold fillK
  apply List.ext_getElem?
  intro i
  rw [List.getElem?_set]
  by_cases e : k = i
  · subst e
    simp [hk]
  · rw [if_neg e]
    by_cases hi : i < m
    · simp only [List.getElem?_map, List.getElem?_range hi, Option.map_some, Option.some.injEq]
      by_cases h1 : i < k
      · rw [if_pos h1, if_pos (by omega)]
      · rw [if_neg h1, if_neg (by omega)]
    · rw [List.getElem?_eq_none (by simp; omega), List.getElem?_eq_none (by simp; omega)]
theorem fillK_len (f : Nat → Int) (m k : Nat) : (fillK f m k).length = m := by simp [fillK]

section
variable {w : World} {B gp n : Nat} {E : List EdgeT} {p cb : Nat} {F : Option Nat → Value} {L : List ChgT}
/-- what All returns. -/
def RetAll (w : World) (E : List EdgeT) (L : List ChgT) (t : Int) (e : Ending) (w' : World) : Prop := ∃ g, e = .returned (.slice (some ⟨g, 0, none⟩) E.length E.length) ∧ w.heap.size ≤ g ∧ OwnI w' w.heap.size 2 (.slice (some ⟨g, 0, none⟩) E.length E.length) (allE E L t) ∧ Below w.heap.size w w'
set_option maxRecDepth 100000 in
set_option maxHeartbeats 1000000 in
theorem all_any (h : TabAt w B gp n E p cb F L) (hl : L.length ≤ 100000) (hE : E.length ≤ 16384) (t : Int) :
    Calls Tryd.prog 16 #[.pointer (some ⟨p, 0, none⟩), .int .i64 t] w (RetAll w E L t) := by
  have hmk := make_i64 w E.length (by omega)
  have c2 := h.c2
  have HTAB := Lib.hid h
  have HB := Lib.hid ((Below.refl w.heap.size w).alloc (Nat.le_refl _) (.cells (madeCells #[.int .i64 0] E.length) 2))
  have HO := Lib.hid (made_own w w.heap.size E.length (Nat.le_refl _) (by omega))
  clear h
  go_enter Tryd.func16, Tryd.ntmps16
  go_wp2_with fail
  obtain ⟨m, hm⟩ : ∃ m, m = E.length := ⟨_, rfl⟩
  have HM := Lib.hid hm
  rw [← hm] at HO HB hE c2 ⊢
  obtain ⟨g, hg⟩ : ∃ g, g = w.heap.size := ⟨_, rfl⟩
  have hst : OwnI (w.alloc (.cells (madeCells #[.int .i64 0] m) 2)) w.heap.size 2 (.slice (some ⟨g, 0, none⟩) m m) (fillK (fun i => atE E L (i : Nat) t) m 0) := by rw [fillK_zero, hg]; exact HO.out
  have HST := Lib.hid hst
  rw [← hg]
  have hgz : w.heap.size ≤ g := by omega
  clear hmk HO hst hm hg
  go_loopw [15] (fun iv wr => ∃ k : Nat, k ≤ m ∧ iv = .int .i64 k ∧ OwnI wr w.heap.size 2 (.slice (some ⟨g, 0, none⟩) m m) (fillK (fun i => atE E L (i : Nat) t) m k) ∧ Below w.heap.size w wr) (fun i _ => m - (intOf i).toNat)
  case atStart => exact ⟨0, Nat.zero_le _, rfl, HST.out, HB.out⟩
  case round =>
    obtain ⟨k, hk, rfl, hown, hb⟩ := hrel
    have HOW := Lib.hid hown
    have HBR := Lib.hid hb
    by_cases hlt : k < m
    · obtain ⟨z, hz⟩ : ∃ z, (fillK (fun i => atE E L (i : Nat) t) m k)[k]? = some z := ⟨(fillK (fun i => atE E L (i : Nat) t) m k)[k]'(by rw [fillK_len]; exact hlt), by simp⟩
      have HZ := Lib.hid hz
      clear hown hb hz
      go_wp2_with fail
      refine (at_any (HTAB.out.below HBR.out) hl (k : Int) t).mono ?_
      rintro e w1 ⟨rfl, hb1⟩
      have HOW1 := Lib.hid (HOW.out.kept_new hb1)
      have HB1 := Lib.hid (HBR.out.trans (hb1.mono HBR.out.size))
      obtain ⟨cz, fz⟩ := HOW1.out.read HZ.out
      clear hb1
      go_wp2_with fail
      go_roundw
      case rel =>
        refine ⟨k + 1, by omega, by go_num, ?_, HB1.out.setCell (p := ⟨g, k, none⟩) hgz _⟩
        have := HOW1.out.stored k (atE E L (k : Nat) t)
        rw [fillK_succ (f := fun i => atE E L (i : Nat) t) hlt] at this
        exact this
      case measure => simp [intOf]; omega
    · have hkk : k = m := by omega
      subst hkk
      clear hown hb
      go_wp2_with fail
      go_ret
      obtain rfl := HM.out
      refine ⟨g, rfl, hgz, ?_, HBR.out⟩
      unfold allE
      rw [← fillK_all]
      exact HOW.out

/-- what Closed returns. -/
def RetClosed (w : World) (E : List EdgeT) (L : List ChgT) (t : Int) (e : Ending) (w' : World) : Prop := ∃ v, e = .returned v ∧ OwnI w' w.heap.size 3 v (closedE E L t E.length) ∧ Below w.heap.size w w'
set_option maxRecDepth 100000 in
set_option maxHeartbeats 1000000 in
theorem closed_any (h : TabAt w B gp n E p cb F L) (hl : L.length ≤ 100000) (hE : E.length ≤ 16384) (t : Int) :
    Calls Tryd.prog 17 #[.pointer (some ⟨p, 0, none⟩), .int .i64 t] w (RetClosed w E L t) := by
  have hall := all_any h hl hE t
  have HALL := Lib.hid hall
  clear hall h
  go_enter Tryd.func17, Tryd.ntmps17
  go_wp2_with fail
  refine HALL.out.mono ?_
  rintro e w1 ⟨g, rfl, hg, hown, hb1⟩
  obtain ⟨m, hm⟩ : ∃ m, m = E.length := ⟨_, rfl⟩
  have HM := Lib.hid hm
  have hEl : E.length ≤ m := by omega
  have HOWN := Lib.hid hown
  have HB1 := Lib.hid hb1
  have hgl : g < w1.heap.size := hown.lt_size g rfl
  have hc : ∀ k, k < E.length → w1.cell? ⟨g, k, none⟩ = some (.int .i64 (atE E L (k : Nat) t)) := fun k hk => (hown.read (allE_at hk L t)).1
  have HC := Lib.hid hc
  rw [← hm] at hE ⊢
  clear hown hb1 hm HALL hc
  go_wp2_with fail
  go_loopw [5, 6, 7, 12] (fun v _ _ iv wr => ∃ k : Nat, k ≤ m ∧ iv = .int .i64 k ∧ OwnI wr w1.heap.size 3 v (closedE E L t k) ∧ Below w1.heap.size w1 wr) (fun _ _ _ i _ => m - (intOf i).toNat)
  case atStart => exact ⟨0, Nat.zero_le _, rfl, OwnV.nil _ _ _, Below.refl _ _⟩
  case round =>
    obtain ⟨k, hk, rfl, hown, hb⟩ := hrel
    have HOW := Lib.hid hown
    have HBR := Lib.hid hb
    by_cases hlt : k < m
    · have hz := HC.out k (by have := HM.out; omega)
      have hz : wr.cell? ⟨g, k, none⟩ = some (.int .i64 (atE E L (k : Nat) t)) := (hb.cell (p := ⟨g, k, none⟩) hgl).trans hz
      have hcl := closedE_len E L t k
      by_cases hq : atE E L (k : Nat) t = 4611686018427387904
      · have HS := Lib.hid (show closedE E L t (k + 1) = closedE E L t k ++ [(k : Int)] by rw [closedE_succ, if_pos hq])
        rw [hq] at hz
        clear hown hb hq
        have hbz := HBR.out.size
        go_wp2_with (at_builtin; refine wpList_append_int _ rfl _ _ 46 rfl w1.heap.size 3 Tryd.underlying46 int_info35 _ (closedE E L t k) wr (k : Int) rfl rfl HOW.out rfl (by omega) hbz ?_; intro v' w' hown' hgrow')
        go_roundw
        case rel =>
          refine ⟨k + 1, by omega, by go_num, ?_, HBR.out.grown hgrow' HBR.out.size (fun j e => HOW.out.ge_base j e)⟩
          rw [HS.out]
          exact hown'
        case measure => simp [intOf]; omega
      · have HS := Lib.hid (show closedE E L t (k + 1) = closedE E L t k by rw [closedE_succ, if_neg hq, List.append_nil])
        have dq : (atE E L (k : Nat) t == 4611686018427387904) = false := by simpa using hq
        clear hown hb
        go_wp2_with fail
        go_roundw
        case rel => exact ⟨k + 1, by omega, by go_num, by rw [HS.out]; exact HOW.out, HBR.out⟩
        case measure => simp [intOf]; omega
    · have hkk : k = m := by omega
      subst hkk
      clear hown hb
      go_wp2_with fail
      go_ret
      obtain rfl := HM.out
      exact ⟨_, rfl, HOW.out.base_le HB1.out.size, HB1.out.trans (HBR.out.mono HB1.out.size)⟩
end
end Go.Proofs.YtppbmnlneoinhaaDoor
