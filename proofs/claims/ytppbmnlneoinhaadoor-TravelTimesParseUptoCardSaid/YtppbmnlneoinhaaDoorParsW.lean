/-
  traveltimes.Parse: the walk.
-/
import Derived.Test.YtppbmnlneoinhaaDoorParsA
namespace Go.Proofs.YtppbmnlneoinhaaDoor
open Go.RowKit Go.Shelf Go.Maps
attribute [local go_sem] Oper.semAt_some

/-- the world ahead of the loop. -/
def loopW (w4 : World) (p : Nat) (s : ByteArray) : World := ((((w4.alloc (.cells #[.pointer (some ⟨p, 0, none⟩)] 26)).alloc (.cells #[.int .i64 0] 3)).alloc (.cells #[.string s] 9)).alloc (.cells #[.string ⟨#[10]⟩] 9)).alloc (.cells #[.int .i64 1] 3)
theorem at_alloc {W : World} {b : Nat} (v : Value) (t : TypeId) (h : W.heap.size = b) : (W.alloc (.cells #[v] t)).cell? ⟨b, 0, none⟩ = some v ∧ (W.alloc (.cells #[v] t)).frozen? ⟨b, 0, none⟩ = false := by subst h; exact new_cell W v t
theorem kept_alloc {W : World} {b : Nat} {v : Value} (o : Obj) (hb : b < W.heap.size) (h : W.cell? ⟨b, 0, none⟩ = some v ∧ W.frozen? ⟨b, 0, none⟩ = false) : (W.alloc o).cell? ⟨b, 0, none⟩ = some v ∧ (W.alloc o).frozen? ⟨b, 0, none⟩ = false := by
  have hB : Below W.heap.size W (W.alloc o) := (Below.refl _ _).alloc (Nat.le_refl _) o
  exact ⟨(hB.cell (p := ⟨b, 0, none⟩) hb).trans h.1, (hB.frozen (p := ⟨b, 0, none⟩) hb).trans h.2⟩
theorem parse_start {w w3 w4 : World} {gp n : Nat} {E : List EdgeT} (s : ByteArray) (hg : GraphAt w w.heap.size gp n E) (hw3 : w3 = ((w.alloc (.cells #[.pointer none] 26)).alloc (.cells #[.int .i64 0] 3)).alloc (.cells #[.int .i64 0] 34))
    (hb4 : Below w3.heap.size w3 w4) (ht : TabAt w4 w3.heap.size gp n E (w3.heap.size + 1) w3.heap.size (fun _ => .slice none 0 0) []) (hr : ReadyP w) :
    POrd w (loopW w4 (w.heap.size + 1 + 1 + 1 + 1) s) (w.heap.size + 1 + 1 + 1) (w.heap.size + 1 + 1 + 1 + 1) (w.heap.size + 1 + 1 + 1) w.heap.size w4.heap.size (w4.heap.size + 1) (w4.heap.size + 1 + 1 + 1) (w4.heap.size + 1 + 1) (w4.heap.size + 1 + 1 + 1 + 1) 3 ∧
    PSt w (loopW w4 (w.heap.size + 1 + 1 + 1 + 1) s) (w.heap.size + 1 + 1 + 1) gp n E (w.heap.size + 1 + 1 + 1 + 1) (w.heap.size + 1 + 1 + 1) w.heap.size w4.heap.size (w4.heap.size + 1) (fun _ => .slice none 0 0) [] 0 (loopW w4 (w.heap.size + 1 + 1 + 1 + 1) s) ∧
    (loopW w4 (w.heap.size + 1 + 1 + 1 + 1) s).cell? ⟨w4.heap.size + 1 + 1 + 1, 0, none⟩ = some (.string ⟨#[10]⟩) ∧ (loopW w4 (w.heap.size + 1 + 1 + 1 + 1) s).cell? ⟨w4.heap.size + 1 + 1, 0, none⟩ = some (.string s) ∧ (loopW w4 (w.heap.size + 1 + 1 + 1 + 1) s).cell? ⟨w4.heap.size + 1 + 1 + 1 + 1, 0, none⟩ = some (.int .i64 ((1 : Nat) : Int)) ∧ (loopW w4 (w.heap.size + 1 + 1 + 1 + 1) s).frozen? ⟨w4.heap.size + 1 + 1, 0, none⟩ = false := by
  have hb3 : Below w.heap.size w w3 := by rw [hw3]; exact (((Below.refl _ _).alloc (Nat.le_refl _) _).alloc (by simp) _).alloc (by simp; omega) _
  have hz3 : w3.heap.size = w.heap.size + 1 + 1 + 1 := by rw [hw3]; simp
  have hp := ht.size
  have hlz : (loopW w4 (w.heap.size + 1 + 1 + 1 + 1) s).heap.size = w4.heap.size + 1 + 1 + 1 + 1 + 1 := by simp [loopW]
  have hl : Below w4.heap.size w4 (loopW w4 (w.heap.size + 1 + 1 + 1 + 1) s) := by
    unfold loopW
    exact (((((Below.refl w4.heap.size w4).alloc (Nat.le_refl _) _).alloc (by simp) _).alloc (by simp; omega) _).alloc (by simp; omega) _).alloc (by simp; omega) _
  have a0 := kept_alloc (.cells #[.int .i64 0] 34) (by simp <;> omega) (kept_alloc (.cells #[.int .i64 0] 3) (by simp <;> omega) (new_cell w (.pointer none) 26))
  have a1 := kept_alloc (.cells #[.int .i64 0] 34) (by simp <;> omega) (at_alloc (W := w.alloc (.cells #[.pointer none] 26)) (b := w.heap.size + 1) (.int .i64 0) 3 (by simp))
  have a2 := at_alloc (W := (w.alloc (.cells #[.pointer none] 26)).alloc (.cells #[.int .i64 0] 3)) (b := w.heap.size + 1 + 1) (.int .i64 0) 34 (by simp)
  rw [← hw3] at a0 a1 a2
  have hgm := lt_max
  have hrm := hr.base.room
  have hb34 : Below w3.heap.size w3 (loopW w4 (w.heap.size + 1 + 1 + 1 + 1) s) := hb4.trans (hl.mono hb4.size)
  have K : ∀ b, b < w3.heap.size → (loopW w4 (w.heap.size + 1 + 1 + 1 + 1) s).cell? ⟨b, 0, none⟩ = w3.cell? ⟨b, 0, none⟩ := fun b h => hb34.cell (p := ⟨b, 0, none⟩) h
  have Z : ∀ b, b < w3.heap.size → (loopW w4 (w.heap.size + 1 + 1 + 1 + 1) s).frozen? ⟨b, 0, none⟩ = w3.frozen? ⟨b, 0, none⟩ := fun b h => hb34.frozen (p := ⟨b, 0, none⟩) h
  have n0 := kept_alloc (.cells #[.int .i64 1] 3) (by simp <;> omega) (kept_alloc (.cells #[.string ⟨#[10]⟩] 9) (by simp <;> omega) (kept_alloc (.cells #[.string s] 9) (by simp <;> omega) (kept_alloc (.cells #[.int .i64 0] 3) (by simp <;> omega) (new_cell w4 (.pointer (some ⟨w.heap.size + 1 + 1 + 1 + 1, 0, none⟩)) 26))))
  have n1 := kept_alloc (.cells #[.int .i64 1] 3) (by simp <;> omega) (kept_alloc (.cells #[.string ⟨#[10]⟩] 9) (by simp <;> omega) (kept_alloc (.cells #[.string s] 9) (by simp <;> omega) (at_alloc (W := w4.alloc (.cells #[.pointer (some ⟨w.heap.size + 1 + 1 + 1 + 1, 0, none⟩)] 26)) (b := w4.heap.size + 1) (.int .i64 0) 3 (by simp))))
  have n2 := kept_alloc (.cells #[.int .i64 1] 3) (by simp <;> omega) (kept_alloc (.cells #[.string ⟨#[10]⟩] 9) (by simp <;> omega) (at_alloc (W := (w4.alloc (.cells #[.pointer (some ⟨w.heap.size + 1 + 1 + 1 + 1, 0, none⟩)] 26)).alloc (.cells #[.int .i64 0] 3)) (b := w4.heap.size + 1 + 1) (.string s) 9 (by simp)))
  have n3 := kept_alloc (.cells #[.int .i64 1] 3) (by simp <;> omega) (at_alloc (W := ((w4.alloc (.cells #[.pointer (some ⟨w.heap.size + 1 + 1 + 1 + 1, 0, none⟩)] 26)).alloc (.cells #[.int .i64 0] 3)).alloc (.cells #[.string s] 9)) (b := w4.heap.size + 1 + 1 + 1) (.string ⟨#[10]⟩) 9 (by simp))
  have n4 := at_alloc (W := (((w4.alloc (.cells #[.pointer (some ⟨w.heap.size + 1 + 1 + 1 + 1, 0, none⟩)] 26)).alloc (.cells #[.int .i64 0] 3)).alloc (.cells #[.string s] 9)).alloc (.cells #[.string ⟨#[10]⟩] 9)) (b := w4.heap.size + 1 + 1 + 1 + 1) (.int .i64 1) 3 (by simp)
  rw [hz3] at ht hp
  refine ⟨⟨by omega, rfl, by omega, by omega, by omega, by omega, by omega, by omega, by omega, by omega, by rw [hlz]; omega, hrm⟩,
    ⟨⟨(hg.below (hb3.trans (hb34.mono hb3.size))), by omega, (ht.below hl).cbp, (ht.below hl).c0, (ht.below hl).c2, (ht.below hl).fam, (ht.below hl).asc, (ht.below hl).oks⟩, fun b hb => ?_, n0.1, n1.1, n1.2, (K _ (by omega)).trans a0.1, (K _ (by omega)).trans a1.1, (K _ (by omega)).trans a2.1, (Z _ (by omega)).trans a0.2, (Z _ (by omega)).trans a1.2, (Z _ (by omega)).trans a2.2, (hr.below hb3).below hb34, hb3.trans (hb34.mono hb3.size), Nat.le_refl _⟩, n3.1, n2.1, n4.1, n2.2⟩
  rcases hb with e | e | ⟨i, _, e⟩
  · exact .inl e
  · exact .inr (.inl e)
  · cases e

theorem x_empty {zs : List ByteArray} (x : {z : ByteArray // z ∈ zs}) : x.1.toList.isEmpty = true ↔ x.1.data.toList = [] := by
  rw [ByteArray.toList_eq]
  simp
theorem list_flat_len {α : Type} : ∀ {A : List (List α)} {a : List α}, a ∈ A → a.length ≤ A.flatten.length
  | b :: A, a, h => by
    rw [List.flatten_cons, List.length_append]
    rcases List.mem_cons.1 h with rfl | h
    · omega
    · have := list_flat_len h
      omega
theorem zs_small {s : ByteArray} (hs : s.size ≤ 50000) {zs : List ByteArray} (hzs : zs = Lib.splitB ⟨#[10]⟩ 1 s.size s) {pre : List {z : ByteArray // z ∈ zs}} {L : List ChgT} (hlen : pre.length < zs.length) (hL : L.length = pre.length) (x : {z : ByteArray // z ∈ zs}) : x.1.size ≤ 50000 ∧ L.length ≤ 50001 := by
  have h1 : x.1.data.toList.length ≤ s.data.toList.length := by
    rw [← (zs_pieces hzs).2]
    exact list_flat_len (List.mem_map.2 ⟨_, x.2, rfl⟩)
  have h2 := Lib.splitB_length_le ⟨#[10]⟩ 1 s.size s
  rw [← hzs] at h2
  have h3 : x.1.data.toList.length = x.1.size := by simp
  have h4 : s.data.toList.length = s.size := by simp
  omega
theorem parse_end {w Wl : World} {gp n : Nat} {E : List EdgeT} {p cb r tb nb bp sb bv gm : Nat} {F : Option Nat → Value} {L : List ChgT} {W : World} {s : ByteArray} {t3 t2 : Value} {D : Nat} {rest : List Value}
    (O : POrd w Wl cb p cb r tb nb bp sb bv gm) (h : PSt w Wl cb gp n E p cb r tb nb F L L.length W) (hf : Fine E.length s.data.toList L) (hD : Wl.heap.size ≤ D) (hm : W.heap[D]? = some (.deferred (some []))) :
    LeavesInM Fence.wide 4 Tryd.prog Tryd.f10 (.mk (.pointer (some ⟨gp, 0, none⟩) :: .string s :: t2 :: t3 :: .pointer (some ⟨r, 0, none⟩) :: .pointer (some ⟨r + 1, 0, none⟩) :: .pointer (some ⟨r + 1 + 1, 0, none⟩) :: rest)) (RetParse w gp n E s) [{ target := .collected D, args := #[] }] .returning
      (((W.setCell ⟨r, 0, none⟩ (.pointer (some ⟨p, 0, none⟩))).setCell ⟨r + 1, 0, none⟩ (.int .i64 0)).setCell ⟨r + 1 + 1, 0, none⟩ (.int .i64 0)) := by
  have O' := O
  obtain ⟨o1, o2, o3, o4, o5, o6, o7, o8, o9, o10, o11, o12⟩ := O'
  have hW := h.big
  obtain ⟨W1, hW1⟩ : ∃ W1, W1 = ((W.setCell ⟨r, 0, none⟩ (.pointer (some ⟨p, 0, none⟩))).setCell ⟨r + 1, 0, none⟩ (.int .i64 0)).setCell ⟨r + 1 + 1, 0, none⟩ (.int .i64 0) := ⟨_, rfl⟩
  have ho : Only (fun b => r ≤ b ∧ b ≤ r + 1 + 1) W W1 := by
    rw [hW1]
    refine Only.setCell (Only.setCell (Only.setCell Only.refl (a := ⟨r, 0, none⟩) (fun _ => ?_) _) (a := ⟨r + 1, 0, none⟩) (fun _ => ?_) _) (a := ⟨r + 1 + 1, 0, none⟩) (fun _ => ?_) _
    all_goals (constructor <;> (dsimp only; omega))
  have k0 : W1.cell? ⟨r, 0, none⟩ = some (.pointer (some ⟨p, 0, none⟩)) := by
    rw [hW1, World.cell?_setCell_other _ _ _ _ (fun e => by injection e with e; omega), World.cell?_setCell_other _ _ _ _ (fun e => by injection e with e; omega)]
    exact World.cell?_setCell_same _ _ _ h.q0
  have k1 : W1.cell? ⟨r + 1, 0, none⟩ = some (.int .i64 0) := by
    rw [hW1, World.cell?_setCell_other _ _ _ _ (fun e => by injection e with e; omega)]
    exact World.cell?_setCell_same _ _ _ ((World.cell?_setCell_other _ _ _ _ (fun e => by injection e with e; omega)).trans h.q1)
  have k2 : W1.cell? ⟨r + 1 + 1, 0, none⟩ = some (.int .i64 0) := by
    rw [hW1]
    exact World.cell?_setCell_same _ _ _ ((World.cell?_setCell_other _ _ _ _ (fun e => by injection e with e; omega)).trans ((World.cell?_setCell_other _ _ _ _ (fun e => by injection e with e; omega)).trans h.q2))
  have hm1 : W1.heap[D]? = some (.deferred (some [])) := (ho.block D (Array.getElem?_eq_some_iff.1 hm).1 (fun e => by omega)).trans hm
  rw [← hW1]
  refine ret_cells rfl rfl rfl hm1 (by omega) k0 k1 k2 fun W' hW' => ?_
  have hB1 : Below r W W1 := ho.below (by omega) (fun j e => e.1)
  have hB2 : Below r W1 W' := hW'.below (by have := ho.size; omega) (fun j e => by have e : j = D := e; omega)
  refine ⟨h.low.trans (by rw [o2]; exact hB1.trans hB2), .inl ⟨p, cb, r, F, L, rfl, by omega, ?_, hf⟩⟩
  refine h.tab.only (S := fun b => (r ≤ b ∧ b ≤ r + 1 + 1) ∨ b = D) ((ho.mono fun j _ e => .inl e).trans (hW'.mono fun j _ e => .inr e) fun j _ e => e) (fun b e => ?_) (fun b hb e => ?_)
  · rcases e with e | e <;> omega
  · have := h.rows b hb
    have h2 := (h.tab.lt hb).2
    rcases e with e | e
    · omega
    · rcases Classical.em (b = p) with q | q
      · omega
      rcases Classical.em (b = cb) with q' | q'
      · omega
      obtain ⟨o, q1, q2⟩ := tab_cells_of h.tab hb q q'
      rw [e, hm] at q1
      cases q1
      cases q2
set_option maxRecDepth 100000 in
set_option maxHeartbeats 2000000 in
theorem parse_any (w : World) (gp n : Nat) (E : List EdgeT) (s : ByteArray) (hg : GraphAt w w.heap.size gp n E) (hE : E.length ≤ 16384) (hs : s.size ≤ 50000) (hr : ReadyP w) :
    Calls Tryd.prog 10 #[.pointer (some ⟨gp, 0, none⟩), .string s] w (RetParse w gp n E s) := by
  refine (callsIn_wide (n := 4)).1 ?_
  refine callsIn_of_wp_marks Tryd.func10 rfl trivial ?_ rfl
  simp only [Tryd.ntmps10, List.size_toArray, List.length_cons, List.length_nil, Nat.reduceAdd, Nat.reduceSub, Array.replicate_succ, Array.replicate_zero, List.push_toArray, List.append_toArray, List.nil_append, List.cons_append]
  obtain ⟨w3, hw3⟩ : ∃ w3, w3 = ((w.alloc (.cells #[.pointer none] 26)).alloc (.cells #[.int .i64 0] 3)).alloc (.cells #[.int .i64 0] 34) := ⟨_, rfl⟩
  have hb3 : Below w.heap.size w w3 := by rw [hw3]; exact (((Below.refl _ _).alloc (Nat.le_refl _) _).alloc (by simp) _).alloc (by simp; omega) _
  have hz3 : w3.heap.size = w.heap.size + 1 + 1 + 1 := by rw [hw3]; simp
  have HG := Lib.hid ((hg.below hb3).more hb3.size)
  gi_wp2
  rw [← hw3]
  refine ⟨trivial, (callsIn_wide.2 (newT_any w3 gp n E HG.out hE)).mono ?_⟩
  rintro e w4 ⟨rfl, htab, hb4⟩
  have HT := Lib.hid htab
  clear htab
  gi_wp2
  refine ⟨trivial, (callsIn_wide.2 (seqA_any s _)).mono ?_⟩
  rintro e w' ⟨rfl, rfl⟩
  gi_wp2
  change Code.wpIn _ _ _ _ _ _ (loopW w4 (w.heap.size + 1 + 1 + 1 + 1) s)
  obtain ⟨O, hst, hc1, hc2, hc3, hc4⟩ := parse_start s hg hw3 hb4 HT.out hr
  obtain ⟨Wl, hWl⟩ : ∃ Wl, Wl = loopW w4 (w.heap.size + 1 + 1 + 1 + 1) s := ⟨_, rfl⟩
  rw [← hWl] at O hst hc1 hc2 hc3 hc4 ⊢
  obtain ⟨bv, hbv⟩ : ∃ b, b = w4.heap.size + 1 + 1 + 1 + 1 := ⟨_, rfl⟩
  obtain ⟨bp, hbp⟩ : ∃ b, b = w4.heap.size + 1 + 1 + 1 := ⟨_, rfl⟩
  obtain ⟨sb, hsb⟩ : ∃ b, b = w4.heap.size + 1 + 1 := ⟨_, rfl⟩
  obtain ⟨nb, hnb⟩ : ∃ b, b = w4.heap.size + 1 := ⟨_, rfl⟩
  obtain ⟨tb, htb⟩ : ∃ b, b = w4.heap.size := ⟨_, rfl⟩
  obtain ⟨p, hp⟩ : ∃ b, b = w.heap.size + 1 + 1 + 1 + 1 := ⟨_, rfl⟩
  obtain ⟨cb, hcb⟩ : ∃ b, b = w.heap.size + 1 + 1 + 1 := ⟨_, rfl⟩
  obtain ⟨r, hrr⟩ : ∃ b, b = w.heap.size := ⟨_, rfl⟩
  rw [← hbv, ← hbp, ← hsb, ← hnb, ← htb, ← hp, ← hcb] at O
  rw [← hnb, ← htb, ← hp, ← hcb] at hst
  rw [← hbp] at hc1
  rw [← hsb] at hc2 hc4
  rw [← hbv] at hc3
  rw [← hbv, ← hbp, ← hsb, ← hnb, ← htb, ← hp]
  have O' : POrd w Wl cb p cb r tb nb bp sb bv 3 := by rw [hrr]; exact O
  have hst' : PSt w Wl cb gp n E p cb r tb nb (fun _ => .slice none 0 0) [] 0 Wl := by rw [hrr]; exact hst
  rw [← hrr]
  obtain ⟨mx, hmx⟩ := hst'.ready.most
  clear hst O hWl hbv hbp hsb hnb htb hp hcb hrr HT hb4 hw3 hb3 hz3 HG hg w3 w4
  rename POrd w Wl cb p cb r tb nb bp sb bv 3 => O
  rename PSt w Wl cb gp n E p cb r tb nb (fun _ => .slice none 0 0) [] 0 Wl => hst
  have hO := O
  obtain ⟨o1, o2, o3, o4, o5, o6, o7, o8, o9, o10, o11, o12⟩ := hO
  obtain ⟨zs, hzs⟩ : ∃ zs, zs = Lib.splitB ⟨#[10]⟩ 1 s.size s := ⟨_, rfl⟩
  have hix : ∀ (q : ByteArray) (W : World), q.size ≤ s.size → W.cell? ⟨3, 0, none⟩ = some (.int .i64 mx) → CallsIn Fence.wide 2 Tryd.prog 56 #[.string q, .string ⟨#[10]⟩] W fun e w' => e = .returned (.int .i64 (Lib.index q.data.toList (⟨#[10]⟩ : ByteArray).data.toList)) ∧ w' = W := fun q W hq hm => callsIn_wide.2 (Tryd.strings_Index q ⟨#[10]⟩ mx W (by omega) hm)
  refine wpIn_rangeFunc_state rfl (by omega) (gf := 54) (lb := #[.pointer (some ⟨bp, 0, none⟩), .pointer (some ⟨sb, 0, none⟩), .pointer (some ⟨bv, 0, none⟩)]) rfl trivial (enters_of Tryd.func54 (by kernel_rfl) rfl)
    (split_seq Fence.wide 3 trivial trivial rfl (by omega) bp sb bv 3 s ⟨#[10]⟩ 1 (by decide) (by decide) (by omega) (by omega) (by omega) (by omega) mx zs hzs hix Wl (by omega) (by omega) (by omega) (by omega) hc1 hc2 hc3 hc4 hmx)
    (by omega) KeepFour.trans (fun W l o o' hl _ _ _ => KeepFour.put (B := Wl.heap.size) (by omega) (by omega) (by omega) (by omega) W l o' hl) (Below.refl _ _) (fun _ => rfl)
    (PI w Wl cb gp n E p cb r tb nb zs) (PX 0 w Wl cb gp n E p cb r tb nb zs) (PI.own O) (PX.own O 0) (PI.stays O) (PX.stays O 0) ⟨_, [], hst, valid_nil _, rfl, rfl⟩
    (fun x => { tmps := #[Value.pointer (some { block := gp, off := 0 }), Value.string s, undef, undef, Value.pointer (some { block := r, off := 0 }), Value.pointer (some { block := r + 1, off := 0 }), Value.pointer (some { block := r + 1 + 1, off := 0 }), Value.pointer (some { block := tb, off := 0 }), Value.pointer (some { block := nb, off := 0 }), Value.string x.1, undef, undef, Value.pointer (some { block := gp, off := 0 }), Value.bool false, Value.pointer (some { block := gp, off := 0 }), Value.pointer (some { block := p, off := 0 }), Value.string s, Value.func (Fn.func 54) #[] #[Value.pointer (some { block := bp, off := 0 }), Value.pointer (some { block := sb, off := 0 }), Value.pointer (some { block := bv, off := 0 })], Value.string x.1, undef, undef, undef, undef, undef, undef, undef, undef, undef, undef, undef, undef, undef, undef, undef, undef, undef, undef, undef], defers := [] }) ?assign ?body ?done ?stop
  case assign =>
    intro l y W K hK
    gi_wp2
    exact hK
  case stop =>
    intro D c pre W hD hSp hX hm
    rcases hX with ⟨rfl, h⟩ | ⟨rfl, h⟩
    · obtain ⟨L, hbad, q0, q1, q2, hlow, hbig⟩ := perr_bad (by omega) hzs hSp h
      gi_wp2
      refine ret_cells rfl rfl rfl hm (by omega) q0 q1 q2 fun W' hW' => ?_
      exact ⟨hlow.trans (hW'.below (by omega) (fun j e => by have e : j = D := e; omega)), .inr ⟨L, rfl, hbad⟩⟩
    · obtain ⟨F, L, hP, hfine⟩ := pend_fine hzs hSp h
      obtain ⟨c0, d0, d1, d2, e0, e1, e2⟩ := And.intro hP.t (And.intro hP.q0 (And.intro hP.q1 (And.intro hP.q2 (And.intro hP.f0 (And.intro hP.f1 hP.f2)))))
      gi_wp2
      exact parse_end O hP hfine hD hm
  case done =>
    intro D xs W hD hS hI hm
    subst hS
    obtain ⟨F, L, hP, hfine⟩ := pi_fine hzs hI
    obtain ⟨c0, d0, d1, d2, e0, e1, e2⟩ := And.intro hP.t (And.intro hP.q0 (And.intro hP.q1 (And.intro hP.q2 (And.intro hP.f0 (And.intro hP.f1 hP.f2)))))
    gi_wp2
    exact parse_end O hP hfine hD hm
  case body =>
    intro l pre x W hI hlen
    obtain ⟨F, L, hP, hv, hL, htx⟩ := hI
    obtain ⟨n0, n1⟩ := And.intro hP.num hP.numf
    obtain ⟨hxz, hLz⟩ : x.1.size ≤ 50000 ∧ L.length ≤ 50001 := zs_small hs hzs hlen hL x
    have HL := Lib.hid hL
    have HTX := Lib.hid htx
    have HIX := Lib.hid hix
    have HZS := Lib.hid hzs
    clear hL htx hix hzs hst hs hr hmx hlen o1 o2 o3 o4 o5 o6 o7 o8 o9 o10 o11 o12 hc1 hc2 hc3 hc4
    have hx0 := x_empty x
    by_cases hx : x.1.toList.isEmpty = true
    · have hx1 := hx0.1 hx
      clear hx0
      gi_wp2
      exact ⟨KeepsFrom.refl _ _, .inr ⟨rfl, pre, x, rfl, hx1, F, L, hP, hv, HL.out, HTX.out⟩⟩
    · have hx1 : x.1.data.toList ≠ [] := fun e => hx (hx0.2 e)
      have hx : x.1.toList.isEmpty = false := by simpa using hx
      clear hx0
      gi_wp2
      have hwr : ((L.length : Int) + 1) = ((L.length + 1 : Nat) : Int) := by omega
      rw [hwr]
      have hP1 := hP.count O (L.length + 1)
      have ho1 := only_count (p := p) (cb := cb) (E := E) (F := F) (nb := nb) (Only.refl (w := W)) (.int .i64 ((L.length + 1 : Nat) : Int))
      obtain ⟨W1, hW1⟩ : ∃ W1, W1 = W.setCell ⟨nb, 0, none⟩ (.int .i64 ((L.length + 1 : Nat) : Int)) := ⟨_, rfl⟩
      rw [← hW1] at hP1 ho1 ⊢
      clear hW1 hwr n0
      refine ⟨trivial, (CallsIn.inRound l (callsIn_wide.2 (parseChange_any x.1 (by omega) W1 hP1.ready))).mono ?_⟩
      rintro e w1 ⟨c, b, rfl, hbt, hbf, hb1⟩
      have hb2 : Below W1.heap.size W1 (w1.alloc (.cells #[.int .i64 c.tick, .int .i64 c.edge, .int .i64 c.time] 57)) := hb1.alloc hb1.size _
      have hP2 := hP1.below O hb2
      have ho2 := ho1.trans (Only.of_below (S := rndB p cb E.length nb F) hb2) (fun _ _ s => s)
      have c0 := hP2.t
      cases b
      case false =>
        clear hbt c0
        have hbf := hbf rfl
        have HBF := Lib.hid hbf
        clear hbf
        gi_wp2
        refine ⟨trivial, ?_⟩
        obtain ⟨W3, hW3⟩ : ∃ W3, W3 = w1.alloc (.cells #[.int .i64 c.tick, .int .i64 c.edge, .int .i64 c.time] 57) := ⟨_, rfl⟩
        rw [← hW3] at hP2 ho2 ⊢
        clear hW3 hb2 hb1 hP1 ho1 n1
        gi_wp2
        have h0 := holdE_mk O hP2
        refine wpIn_region_held_round (S := HoldE W3 r nb (L.length + 1)) (by kernel_rfl) (by kernel_rfl) h0 (fun hHeld => ?_)
        obtain ⟨U0, hU0⟩ : ∃ U, U = W3.drew := ⟨_, rfl⟩
        rw [← hU0] at h0 hHeld ⊢
        clear hU0
        refine wpAnyH_take (i := 0) (v := .int .i64 ((L.length + 1 : Nat) : Int)) rfl (by kernel_rfl) (by kernel_rfl) (by kernel_rfl) (fun _ _ _ h => by cases h.1) (Or.inl ⟨by rfl, ?_⟩) (by assumption) ?_
        · intro w hSw
          obtain ⟨s0, _⟩ := hSw
          go_simp
        show wpAnyH _ _ _ _ _ _ _ (Act.put _ (some 36) _) _
        simp only [Act.put, List.setIfInBounds_toArray, List.set_cons_zero, List.set_cons_succ]
        have h1 := h0.set r (by omega) (.pointer none)
        refine wpAnyH_ready (rs := [1]) (by kernel_rfl) (by simp) ?_
        refine AllReadyH.cons rfl (fun K hK => ?_) AllReadyH.nil
        obtain ⟨s0, ⟨v0, s3⟩, ⟨v1, s4⟩, ⟨v2, s5⟩, s6, s7, s8, _⟩ := id h0
        clear hHeld
        go_simp
        refine hK.out _ _ h1 (fun hHeld => ?_)
        clear hK K s0 s3 s4 s5 s6 s7 s8
        obtain ⟨U1, hU1⟩ : ∃ U, U = U0.setCell ⟨r, 0, none⟩ (.pointer none) := ⟨_, rfl⟩
        rw [← hU1] at h1 hHeld ⊢
        have HU1 := Lib.hid hU1
        clear hU1
        have h2 := h1.set (r + 1) (by omega) (.int .i64 ((L.length + 1 : Nat) : Int))
        refine wpAnyH_ready (rs := [2]) (by kernel_rfl) (by simp) ?_
        refine AllReadyH.cons rfl (fun K hK => ?_) AllReadyH.nil
        obtain ⟨s0, ⟨v0, s3⟩, ⟨v1, s4⟩, ⟨v2, s5⟩, s6, s7, s8, _⟩ := id h1
        clear hHeld
        go_simp
        rw [show ((L.length : Int) + 1) = ((L.length + 1 : Nat) : Int) from by omega]
        refine hK.out _ _ h2 (fun hHeld => ?_)
        clear hK K s0 s3 s4 s5 s6 s7 s8
        obtain ⟨U2, hU2⟩ : ∃ U, U = U1.setCell ⟨r + 1, 0, none⟩ (.int .i64 ((L.length + 1 : Nat) : Int)) := ⟨_, rfl⟩
        rw [← hU2] at h2 hHeld ⊢
        have HU2 := Lib.hid hU2
        clear hU2
        have h3 := h2.set (r + 1 + 1) (by omega) (.int .i64 2)
        refine wpAnyH_ready (rs := [3]) (by kernel_rfl) (by simp) ?_
        refine AllReadyH.cons rfl (fun K hK => ?_) AllReadyH.nil
        obtain ⟨s0, ⟨v0, s3⟩, ⟨v1, s4⟩, ⟨v2, s5⟩, s6, s7, s8, _⟩ := id h2
        clear hHeld
        go_simp
        refine hK.out _ _ h3 (fun hHeld => ?_)
        clear hK K s0 s3 s4 s5 s6 s7 s8
        obtain ⟨U3, hU3⟩ : ∃ U, U = U2.setCell ⟨r + 1 + 1, 0, none⟩ (.int .i64 2) := ⟨_, rfl⟩
        rw [← hU3] at h3 hHeld ⊢
        have HU3 := Lib.hid hU3
        clear hU3
        refine wpAnyH_done (by kernel_rfl) ⟨rfl, ?_⟩ _
        have HH3 := Lib.hid h3
        have HH0 := Lib.hid h0
        clear h0 h1 h2 h3 hHeld
        gi_wp2
        have h3 := HH3.out
        obtain ⟨_, ⟨v0, s3⟩, ⟨v1, s4⟩, ⟨v2, s5⟩, _, _, _, _, _⟩ := HH0.out
        obtain ⟨t0, t1, t2⟩ := three_cells (W := U0) (a := ⟨r, 0, none⟩) (b := ⟨r + 1, 0, none⟩) (c := ⟨r + 1 + 1, 0, none⟩) (x := .pointer none) (y := .int .i64 ((L.length + 1 : Nat) : Int)) (z := .int .i64 2) (fun q => by injection q with q; omega) (fun q => by injection q with q; omega) (fun q => by injection q with q; omega) s3 s4 s5
        rw [← HU1.out, ← HU2.out, ← HU3.out] at t0 t1 t2
        exact rnd_bad O hP hv HTX.out hx1 (fun c' hc' _ => HBF.out c' (okR_of (by omega) hc')) hP2 ho2 h3.only t0 t1 t2
      case true =>
        have hbt := hbt rfl
        have HBT := Lib.hid hbt
        clear hbf hbt
        have HAP := Lib.hid (append_any hP2.tab c (by omega))
        gi_wp2
        refine ⟨trivial, (CallsIn.inRound l (callsIn_wide.2 HAP.out)).mono ?_⟩
        rintro e w4 hap
        obtain ⟨F', hP4, ho4⟩ := hP2.app O hap
        obtain ⟨rfl, _⟩ := hap
        have ho5 := ho2.trans ho4 (fun _ _ s => s)
        clear ho4 ho2 hP2 hP1 ho1 hb1 hb2 c0 n1 HAP
        by_cases herr : errC E.length L c = 0
        · have HE := Lib.hid herr
          rw [herr]
          clear herr
          gi_wp2
          have hput := putL_ok HE.out
          rw [hput] at hP4
          exact rnd_good O hP hv HL.out HTX.out (errC_null HE.out).1 (errC_null HE.out).2 HBT.out.1 hP4 ho5
        · have hee : (errC E.length L c != 0) = true := by simpa using herr
          have HE := Lib.hid herr
          clear herr
          gi_wp2
          have hput := putL_bad HE.out
          rw [hput] at hP4
          have h0 := holdE_mk O hP4
          refine wpIn_region_held_round (S := HoldE w4 r nb (L.length + 1)) (by kernel_rfl) (by kernel_rfl) h0 (fun hHeld => ?_)
          obtain ⟨U0, hU0⟩ : ∃ U, U = w4.drew := ⟨_, rfl⟩
          rw [← hU0] at h0 hHeld ⊢
          clear hU0
          refine wpAnyH_take (i := 0) (v := .int .i64 ((L.length + 1 : Nat) : Int)) rfl (by kernel_rfl) (by kernel_rfl) (by kernel_rfl) (fun _ _ _ h => by cases h.1) (Or.inl ⟨by rfl, ?_⟩) (by assumption) ?_
          · intro w hSw
            obtain ⟨s0, _⟩ := hSw
            go_simp
          show wpAnyH _ _ _ _ _ _ _ (Act.put _ (some 36) _) _
          simp only [Act.put, List.setIfInBounds_toArray, List.set_cons_zero, List.set_cons_succ]
          have h1 := h0.set r (by omega) (.pointer none)
          refine wpAnyH_ready (rs := [1]) (by kernel_rfl) (by simp) ?_
          refine AllReadyH.cons rfl (fun K hK => ?_) AllReadyH.nil
          obtain ⟨s0, ⟨v0, s3⟩, ⟨v1, s4⟩, ⟨v2, s5⟩, s6, s7, s8, _⟩ := id h0
          clear hHeld
          go_simp
          refine hK.out _ _ h1 (fun hHeld => ?_)
          clear hK K s0 s3 s4 s5 s6 s7 s8
          obtain ⟨U1, hU1⟩ : ∃ U, U = U0.setCell ⟨r, 0, none⟩ (.pointer none) := ⟨_, rfl⟩
          rw [← hU1] at h1 hHeld ⊢
          have HU1 := Lib.hid hU1
          clear hU1
          have h2 := h1.set (r + 1) (by omega) (.int .i64 ((L.length + 1 : Nat) : Int))
          refine wpAnyH_ready (rs := [2]) (by kernel_rfl) (by simp) ?_
          refine AllReadyH.cons rfl (fun K hK => ?_) AllReadyH.nil
          obtain ⟨s0, ⟨v0, s3⟩, ⟨v1, s4⟩, ⟨v2, s5⟩, s6, s7, s8, _⟩ := id h1
          clear hHeld
          go_simp
          rw [show ((L.length : Int) + 1) = ((L.length + 1 : Nat) : Int) from by omega]
          refine hK.out _ _ h2 (fun hHeld => ?_)
          clear hK K s0 s3 s4 s5 s6 s7 s8
          obtain ⟨U2, hU2⟩ : ∃ U, U = U1.setCell ⟨r + 1, 0, none⟩ (.int .i64 ((L.length + 1 : Nat) : Int)) := ⟨_, rfl⟩
          rw [← hU2] at h2 hHeld ⊢
          have HU2 := Lib.hid hU2
          clear hU2
          have h3 := h2.set (r + 1 + 1) (by omega) (.int .i64 2)
          refine wpAnyH_ready (rs := [3]) (by kernel_rfl) (by simp) ?_
          refine AllReadyH.cons rfl (fun K hK => ?_) AllReadyH.nil
          obtain ⟨s0, ⟨v0, s3⟩, ⟨v1, s4⟩, ⟨v2, s5⟩, s6, s7, s8, _⟩ := id h2
          clear hHeld
          go_simp
          refine hK.out _ _ h3 (fun hHeld => ?_)
          clear hK K s0 s3 s4 s5 s6 s7 s8
          obtain ⟨U3, hU3⟩ : ∃ U, U = U2.setCell ⟨r + 1 + 1, 0, none⟩ (.int .i64 2) := ⟨_, rfl⟩
          rw [← hU3] at h3 hHeld ⊢
          have HU3 := Lib.hid hU3
          clear hU3
          refine wpAnyH_done (by kernel_rfl) ⟨rfl, ?_⟩ _
          have HH3 := Lib.hid h3
          have HH0 := Lib.hid h0
          clear h0 h1 h2 h3 hHeld
          gi_wp2
          have h3 := HH3.out
          obtain ⟨_, ⟨v0, s3⟩, ⟨v1, s4⟩, ⟨v2, s5⟩, _, _, _, _, _⟩ := HH0.out
          obtain ⟨t0, t1, t2⟩ := three_cells (W := U0) (a := ⟨r, 0, none⟩) (b := ⟨r + 1, 0, none⟩) (c := ⟨r + 1 + 1, 0, none⟩) (x := .pointer none) (y := .int .i64 ((L.length + 1 : Nat) : Int)) (z := .int .i64 2) (fun q => by injection q with q; omega) (fun q => by injection q with q; omega) (fun q => by injection q with q; omega) s3 s4 s5
          rw [← HU1.out, ← HU2.out, ← HU3.out] at t0 t1 t2
          refine rnd_bad O hP hv HTX.out hx1 (fun c' hc' hl' e => HE.out ?_) hP4 ho5 h3.only t0 t1 t2
          have hcc : c' = c := line_one (e.trans HBT.out.1.symm)
          rw [← hcc]
          exact errC_ok hc' hl'
end Go.Proofs.YtppbmnlneoinhaaDoor
