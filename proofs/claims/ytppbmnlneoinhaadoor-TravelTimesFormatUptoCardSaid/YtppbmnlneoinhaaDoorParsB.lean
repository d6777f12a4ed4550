/-
  traveltimes.Parse: the steps of a round, in plain words.
-/
import Derived.Test.YtppbmnlneoinhaaDoorParsE
namespace Go.Proofs.YtppbmnlneoinhaaDoor
open Go.RowKit Go.Shelf Go.Maps

/-- the blocks that a round may change. -/
def rndB (p cb m nb : Nat) (F : Option Nat → Value) : Nat → Prop := fun b => b = nb ∨ tabB p cb m F b
section
variable {w Wl : World} {B gp n : Nat} {E : List EdgeT} {p cb r tb nb bp sb bv gm : Nat} {F : Option Nat → Value} {L : List ChgT} {N : Nat} {W W1 W' : World}
theorem PSt.count (O : POrd w Wl B p cb r tb nb bp sb bv gm) (h : PSt w Wl B gp n E p cb r tb nb F L N W) (M : Nat) : PSt w Wl B gp n E p cb r tb nb F L M (W.setCell ⟨nb, 0, none⟩ (.int .i64 (M : Nat))) := by
  have O' := O
  obtain ⟨o1, o2, o3, o4, o5, o6, o7, o8, o9, o10, o11, o12⟩ := O'
  have hz := h.big
  have hg : Only (fun b => b = nb) W (W.setCell ⟨nb, 0, none⟩ (.int .i64 (M : Nat))) := Only.setCell (S := fun b => b = nb) Only.refl (a := ⟨nb, 0, none⟩) (fun _ => rfl) _
  have hbel : Below w.heap.size W (W.setCell ⟨nb, 0, none⟩ (.int .i64 (M : Nat))) := hg.below (by omega) (fun j s => by have s : j = nb := s; omega)
  have K : ∀ b, b < W.heap.size → b ≠ nb → (W.setCell ⟨nb, 0, none⟩ (.int .i64 (M : Nat))).cell? ⟨b, 0, none⟩ = W.cell? ⟨b, 0, none⟩ := fun b hb hn => hg.cell (a := ⟨b, 0, none⟩) hb hn
  have Z : ∀ b, (W.setCell ⟨nb, 0, none⟩ (.int .i64 (M : Nat))).frozen? ⟨b, 0, none⟩ = W.frozen? ⟨b, 0, none⟩ := fun b => World.frozen?_setCell _ _ _ _
  refine ⟨h.tab.only hg (fun b s => by have s : b = nb := s; omega) (fun b hb s => ?_), h.rows, (K _ (by omega) (by omega)).trans h.t, World.cell?_setCell_same _ _ _ h.num, (Z _).trans h.numf, (K _ (by omega) (by omega)).trans h.q0, (K _ (by omega) (by omega)).trans h.q1, (K _ (by omega) (by omega)).trans h.q2, (Z _).trans h.f0, (Z _).trans h.f1, (Z _).trans h.f2, h.ready.keep hbel o12, h.low.trans hbel, Nat.le_trans hz hg.size⟩
  have s : b = nb := s
  have := h.rows b hb
  omega
theorem only_count (h : Only (rndB p cb E.length nb F) W W1) (v : Value) : Only (rndB p cb E.length nb F) W (W1.setCell ⟨nb, 0, none⟩ v) := h.setCell (a := ⟨nb, 0, none⟩) (fun _ => .inl rfl) v
theorem PSt.app (O : POrd w Wl B p cb r tb nb bp sb bv gm) (h : PSt w Wl B gp n E p cb r tb nb F L N W) {c : ChgT} {e : Ending} (ha : AppAny W r gp n E p cb F L c e W') : ∃ F', PSt w Wl B gp n E p cb r tb nb F' (putL E.length L c) N W' ∧ Only (rndB p cb E.length nb F) W W' := by
  have O' := O
  obtain ⟨o1, o2, o3, o4, o5, o6, o7, o8, o9, o10, o11, o12⟩ := O'
  have hz := h.big
  obtain ⟨_, F', ht, ho, hr, _⟩ := ha
  have hS : ∀ b, tabB p cb E.length F b → cb ≤ b ∧ b ≠ tb ∧ b ≠ nb := fun b hb => by
    have := h.rows b hb
    omega
  have hbel : Below w.heap.size W W' := ho.below (by omega) (fun j s => by have := (hS j s).1; omega)
  have K : ∀ b, b < W.heap.size → ¬ tabB p cb E.length F b → W'.cell? ⟨b, 0, none⟩ = W.cell? ⟨b, 0, none⟩ := fun b hb hn => ho.cell (a := ⟨b, 0, none⟩) hb hn
  have Z : ∀ b, b < W.heap.size → ¬ tabB p cb E.length F b → W'.frozen? ⟨b, 0, none⟩ = W.frozen? ⟨b, 0, none⟩ := fun b hb hn => ho.frozen (a := ⟨b, 0, none⟩) hb hn
  have nt : ¬ tabB p cb E.length F tb := fun s => (hS tb s).2.1 rfl
  have nn : ¬ tabB p cb E.length F nb := fun s => (hS nb s).2.2 rfl
  have n0 : ¬ tabB p cb E.length F r := fun s => by have := (hS r s).1; omega
  have n1 : ¬ tabB p cb E.length F (r + 1) := fun s => by have := (hS _ s).1; omega
  have n2 : ¬ tabB p cb E.length F (r + 1 + 1) := fun s => by have := (hS _ s).1; omega
  refine ⟨F', ⟨ht, fun b hb => ?_, (K _ (by omega) nt).trans h.t, (K _ (by omega) nn).trans h.num, (Z _ (by omega) nn).trans h.numf, (K _ (by omega) n0).trans h.q0, (K _ (by omega) n1).trans h.q1, (K _ (by omega) n2).trans h.q2,
    (Z _ (by omega) n0).trans h.f0, (Z _ (by omega) n1).trans h.f1, (Z _ (by omega) n2).trans h.f2, h.ready.keep hbel o12, h.low.trans hbel, Nat.le_trans hz ho.size⟩, ho.mono (fun j _ s => .inr s)⟩
  rcases hr b hb with q | q
  · exact h.rows b q
  · exact .inr (.inr (Nat.le_trans hz q))
theorem rnd_keeps (O : POrd w Wl B p cb r tb nb bp sb bv gm) (h : PSt w Wl B gp n E p cb r tb nb F L N W) {S : Nat → Prop} (ho : Only S W W') (hS : ∀ b, S b → rndB p cb E.length nb F b ∨ (r ≤ b ∧ b ≤ r + 1 + 1)) : KeepsFrom Wl.heap.size W W' ∧ KeepFour bp sb bv gm W W' := by
  have hz := h.big
  obtain ⟨o1, o2, o3, o4, o5, o6, o7, o8, o9, o10, o11, o12⟩ := O
  have hb : ∀ b, S b → b < nb + 1 ∧ r ≤ b ∨ Wl.heap.size ≤ b := fun b hb => by
    rcases hS b hb with (q | q) | q
    · omega
    · have := h.rows b q
      omega
    · omega
  have hN : ∀ b, nb < b ∧ b < Wl.heap.size ∨ b < r → W'.heap[b]? = W.heap[b]? := fun b hb2 => ho.block b (by omega) (fun s => by have := hb b s; omega)
  refine ⟨keeps_from ho (fun j s hj => ?_), hN _ (by omega), hN _ (by omega), hN _ (by omega), hN _ (by omega)⟩
  rcases hS j s with (q | q) | q
  · omega
  · exact tab_cells_of h.tab q (by omega) (by omega)
  · omega
theorem three_cells {a b c : Addr} {x y z u v t : Value} (hab : a ≠ b) (hac : a ≠ c) (hbc : b ≠ c) (ha : W.cell? a = some u) (hb : W.cell? b = some v) (hc : W.cell? c = some t) :
    (((W.setCell a x).setCell b y).setCell c z).cell? a = some x ∧ (((W.setCell a x).setCell b y).setCell c z).cell? b = some y ∧ (((W.setCell a x).setCell b y).setCell c z).cell? c = some z := by
  have h1 : (W.setCell a x).cell? a = some x := World.cell?_setCell_same _ _ _ ha
  have h2 : (W.setCell a x).cell? b = some v := (World.cell?_setCell_other _ _ _ _ hab).trans hb
  have h3 : (W.setCell a x).cell? c = some t := (World.cell?_setCell_other _ _ _ _ hac).trans hc
  have h4 : ((W.setCell a x).setCell b y).cell? a = some x := (World.cell?_setCell_other _ _ _ _ (Ne.symm hab)).trans h1
  have h5 : ((W.setCell a x).setCell b y).cell? b = some y := World.cell?_setCell_same _ _ _ h2
  have h6 : ((W.setCell a x).setCell b y).cell? c = some t := (World.cell?_setCell_other _ _ _ _ hbc).trans h3
  exact ⟨(World.cell?_setCell_other _ _ _ _ (Ne.symm hac)).trans h4, (World.cell?_setCell_other _ _ _ _ (Ne.symm hbc)).trans h5, World.cell?_setCell_same _ _ _ h6⟩
/-- the end of a round at a bad line. -/
theorem rnd_bad {zs : List ByteArray} {pre : List {z : ByteArray // z ∈ zs}} {x : {z : ByteArray // z ∈ zs}} {F' : Option Nat → Value} (O : POrd w Wl B p cb r tb nb bp sb bv gm) (h : PSt w Wl B gp n E p cb r tb nb F L L.length W) (hv : validL E.length L) (htx : (pre.map (fun x => x.1.data.toList)).flatten = textC L)
    (hx : x.1.data.toList ≠ []) (hb : ∀ c, okC E.length c → late L c = false → lineC c ≠ x.1.data.toList)
    (h1 : PSt w Wl B gp n E p cb r tb nb F' L (L.length + 1) W1) (ho : Only (rndB p cb E.length nb F) W W1) (hs : Only (fun b => r ≤ b ∧ b ≤ r + 1 + 1) W1 W')
    (c0 : W'.cell? ⟨r, 0, none⟩ = some (.pointer none)) (c1 : W'.cell? ⟨r + 1, 0, none⟩ = some (.int .i64 ((L.length + 1 : Nat) : Int))) (c2 : W'.cell? ⟨r + 1 + 1, 0, none⟩ = some (.int .i64 2)) :
    KeepsFrom Wl.heap.size W W' ∧ PX 0 w Wl B gp n E p cb r tb nb zs .ret (pre ++ [x]) W' := by
  have O' := O
  obtain ⟨o1, o2, o3, o4, o5, o6, o7, o8, o9, o10, o11, o12⟩ := O'
  have ht : Only (fun b => rndB p cb E.length nb F b ∨ (r ≤ b ∧ b ≤ r + 1 + 1)) W W' := (ho.mono fun _ _ s => .inl s).trans (hs.mono fun _ _ s => .inr s) fun _ _ s => s
  refine ⟨(rnd_keeps O h ht (fun _ s => s)).1, .inl ⟨rfl, pre, x, L, rfl, hv, htx, hx, hb, c0, c1, c2, ?_, Nat.le_trans h1.big hs.size⟩⟩
  refine h1.low.trans ?_
  rw [o2]
  exact hs.below (by have := h1.big; omega) (fun _ s => s.1)
/-- the end of a round at a good line. -/
theorem rnd_good {zs : List ByteArray} {pre : List {z : ByteArray // z ∈ zs}} {x : {z : ByteArray // z ∈ zs}} {F' : Option Nat → Value} {c : ChgT} (O : POrd w Wl B p cb r tb nb bp sb bv gm) (h : PSt w Wl B gp n E p cb r tb nb F L L.length W) (hv : validL E.length L) (hL : L.length = pre.length) (htx : (pre.map (fun x => x.1.data.toList)).flatten = textC L)
    (hc : okC E.length c) (hl : late L c = false) (hx : lineC c = x.1.data.toList)
    (h1 : PSt w Wl B gp n E p cb r tb nb F' (L ++ [c]) (L.length + 1) W') (ho : Only (rndB p cb E.length nb F) W W') :
    KeepsFrom Wl.heap.size W W' ∧ KeepFour bp sb bv gm W W' ∧ PI w Wl B gp n E p cb r tb nb zs (pre ++ [x]) W' := by
  obtain ⟨k1, k2⟩ := rnd_keeps O h ho (fun _ s => .inl s)
  refine ⟨k1, k2, F', L ++ [c], ?_, valid_snoc hv hc hl, by simp [hL], ?_⟩
  · have e : (L ++ [c]).length = L.length + 1 := by simp
    rw [e]
    exact h1
  · rw [List.map_append, List.flatten_append, htx, textC_snoc, hx]
    simp
end
/-- what lies ahead of the return at a bad line. -/
structure HoldE (W : World) (r nb N : Nat) (w' : World) : Prop where
  n : w'.cell? ⟨nb, 0, none⟩ = some (.int .i64 (N : Nat))
  r0 : ∃ v, w'.cell? ⟨r, 0, none⟩ = some v
  r1 : ∃ v, w'.cell? ⟨r + 1, 0, none⟩ = some v
  r2 : ∃ v, w'.cell? ⟨r + 1 + 1, 0, none⟩ = some v
  f0 : w'.frozen? ⟨r, 0, none⟩ = false
  f1 : w'.frozen? ⟨r + 1, 0, none⟩ = false
  f2 : w'.frozen? ⟨r + 1 + 1, 0, none⟩ = false
  only : Only (fun b => r ≤ b ∧ b ≤ r + 1 + 1) W w'
  lt : r + 1 + 1 < nb
theorem HoldE.set {W w' : World} {r nb N : Nat} (h : HoldE W r nb N w') (k : Nat) (hk : r ≤ k ∧ k ≤ r + 1 + 1) (v : Value) : HoldE W r nb N (w'.setCell ⟨k, 0, none⟩ v) := by
  obtain ⟨n, ⟨v0, r0⟩, ⟨v1, r1⟩, ⟨v2, r2⟩, f0, f1, f2, o, l⟩ := h
  exact ⟨(World.cell?_setCell_other _ _ _ _ (fun e => by injection e with e; omega)).trans n, cell?_setCell_some r0, cell?_setCell_some r1, cell?_setCell_some r2, (World.frozen?_setCell _ _ _ _).trans f0, (World.frozen?_setCell _ _ _ _).trans f1, (World.frozen?_setCell _ _ _ _).trans f2, o.setCell (a := ⟨k, 0, none⟩) (fun _ => hk) v, l⟩
theorem holdE_mk {w Wl : World} {B gp n : Nat} {E : List EdgeT} {p cb r tb nb bp sb bv gm : Nat} {F : Option Nat → Value} {L : List ChgT} {N : Nat} {W : World} (O : POrd w Wl B p cb r tb nb bp sb bv gm) (h : PSt w Wl B gp n E p cb r tb nb F L N W) : HoldE W r nb N W.drew := by
  obtain ⟨o1, o2, o3, o4, o5, o6, o7, o8, o9, o10, o11, o12⟩ := O
  exact ⟨h.num, ⟨_, h.q0⟩, ⟨_, h.q1⟩, ⟨_, h.q2⟩, h.f0, h.f1, h.f2, Only.refl.drew, by omega⟩
theorem errC_null {m : Nat} {L : List ChgT} {c : ChgT} (h : errC m L c = 0) : okC m c ∧ late L c = false := by
  by_cases q : okC m c
  · refine ⟨q, ?_⟩
    cases hl : late L c with
    | false => rfl
    | true =>
      rw [errC_late q hl] at h
      cases h
  · rw [errC_bad q] at h
    cases h
theorem itoa_chr (n : Int) : ∀ x ∈ Lib.itoa n, isDig x ∨ x = 45 := by
  intro x hx
  unfold Lib.itoa at hx
  split at hx
  · rcases List.mem_cons.1 hx with rfl | hx
    · exact .inr rfl
    · exact .inl (dec_dig _ x hx)
  · exact .inl (dec_dig _ x hx)
theorem itoa_inj_all {a b : Int} (h : Lib.itoa a = Lib.itoa b) : a = b := by
  have key : ∀ (n m : Nat) , 45 :: Lib.decDigits n ≠ Lib.decDigits m := fun n m e => by
    have := dec_dig m 45 (by rw [← e]; simp)
    unfold isDig at this
    exact absurd this (by decide)
  unfold Lib.itoa at h
  split at h <;> split at h
  · injection h with _ h
    have := dec_inj h
    omega
  · exact absurd h (key _ _)
  · exact absurd h.symm (key _ _)
  · have := dec_inj h
    omega
theorem time_inj_all {a b : Int} (h : timeText a = timeText b) : a = b := by
  have key : ∀ n : Int, Lib.itoa n ≠ [99, 108, 111, 115, 101, 100] := fun n e => by
    have := itoa_chr n 99 (by rw [e]; simp)
    unfold isDig at this
    exact absurd this (by decide)
  unfold timeText at h
  split at h
  · rename_i h1
    split at h
    · rename_i h2; rw [h1, h2]
    · exact absurd h.symm (key b)
  · split at h
    · exact absurd h (key a)
    · exact itoa_inj_all h
theorem words_clean_all (c : ChgT) : ∀ p ∈ wordsC c, (32 : UInt8) ∉ p := by
  have hn : ∀ n : Int, (32 : UInt8) ∉ Lib.itoa n := fun n hm => by
    have := itoa_chr n 32 hm
    unfold isDig at this
    exact absurd this (by decide)
  intro p hp
  unfold wordsC at hp
  simp only [List.mem_cons, List.not_mem_nil, or_false] at hp
  rcases hp with rfl | rfl | rfl
  · exact hn _
  · exact hn _
  · unfold timeText
    split
    · decide
    · exact hn _
theorem line_one {c d : ChgT} (h : lineC c = lineC d) : c = d := by
  rw [line_join, line_join] at h
  have e := List.append_cancel_right h
  have a := cuts_join (wordsC c) (by simp [wordsC]) (words_clean_all c)
  have b := cuts_join (wordsC d) (by simp [wordsC]) (words_clean_all d)
  rw [e, b] at a
  unfold wordsC at a
  simp only [List.cons.injEq, and_true] at a
  obtain ⟨h1, h2, h3⟩ := a
  have e1 := itoa_inj_all h1
  have e2 := itoa_inj_all h2
  have e3 := time_inj_all h3
  cases c
  cases d
  simp_all
end Go.Proofs.YtppbmnlneoinhaaDoor
