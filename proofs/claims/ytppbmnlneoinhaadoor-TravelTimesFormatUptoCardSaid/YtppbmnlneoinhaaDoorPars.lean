/-
  traveltimes.Parse: the table whose text it is, or the number of the first bad line.
-/
import Derived.Test.YtppbmnlneoinhaaDoorParC
import Derived.Test.YtppbmnlneoinhaaDoorFineC
import Derived.Test.YtppbmnlneoinhaaDoorMarks
namespace Go.Proofs.YtppbmnlneoinhaaDoor
open Go.RowKit Go.Shelf Go.Maps
attribute [local go_sem] Oper.semAt_some

theorem tab_cells_of {w : World} {B gp n : Nat} {E : List EdgeT} {p cb : Nat} {F : Option Nat → Value} {L : List ChgT} (h : TabAt w B gp n E p cb F L) {b : Nat} (hb : tabB p cb E.length F b) (hp : b ≠ p) (hc : b ≠ cb) : ∃ o, w.heap[b]? = some o ∧ o.isCells = true := by
  rcases hb with e | e | ⟨i, hi, e⟩
  · exact absurd e hp
  · exact absurd e hc
  · exact (ownR_cells (h.fam.own i hi) e).2

/-- the memory of Parse at work. -/
structure PSt (w Wl : World) (B gp n : Nat) (E : List EdgeT) (p cb r tb nb : Nat) (F : Option Nat → Value) (L : List ChgT) (N : Nat) (W : World) : Prop where
  tab : TabAt W r gp n E p cb F L
  rows : ∀ b, tabB p cb E.length F b → b = p ∨ b = cb ∨ Wl.heap.size ≤ b
  t : W.cell? ⟨tb, 0, none⟩ = some (.pointer (some ⟨p, 0, none⟩))
  num : W.cell? ⟨nb, 0, none⟩ = some (.int .i64 (N : Nat))
  numf : W.frozen? ⟨nb, 0, none⟩ = false
  q0 : W.cell? ⟨r, 0, none⟩ = some (.pointer none)
  q1 : W.cell? ⟨r + 1, 0, none⟩ = some (.int .i64 0)
  q2 : W.cell? ⟨r + 1 + 1, 0, none⟩ = some (.int .i64 0)
  f0 : W.frozen? ⟨r, 0, none⟩ = false
  f1 : W.frozen? ⟨r + 1, 0, none⟩ = false
  f2 : W.frozen? ⟨r + 1 + 1, 0, none⟩ = false
  ready : ReadyP W
  low : Below w.heap.size w W
  big : Wl.heap.size ≤ W.heap.size
/-- the order of the blocks. -/
structure POrd (w Wl : World) (B p cb r tb nb bp sb bv gm : Nat) : Prop where
  o1 : gm < w.heap.size
  o2 : w.heap.size = r
  o3 : r + 1 + 1 < B
  o4 : B ≤ cb
  o5 : cb < p
  o6 : p < tb
  o7 : tb < nb
  o8 : nb < sb
  o9 : sb < bp
  o10 : bp < bv
  o11 : bv < Wl.heap.size
  o12 : Tryd.prog.globals.size ≤ w.heap.size

section
variable {w Wl : World} {B gp n : Nat} {E : List EdgeT} {p cb r tb nb bp sb bv gm : Nat} {F : Option Nat → Value} {L : List ChgT} {N : Nat} {W W' : World}
theorem PSt.only (O : POrd w Wl B p cb r tb nb bp sb bv gm) (h : PSt w Wl B gp n E p cb r tb nb F L N W) {S : Nat → Prop} (hg : Only S W W') (hS : ∀ b, S b → B ≤ b ∧ b ≠ tb ∧ b ≠ nb ∧ ¬ tabB p cb E.length F b) : PSt w Wl B gp n E p cb r tb nb F L N W' := by
  obtain ⟨o1, o2, o3, o4, o5, o6, o7, o8, o9, o10, o11, o12⟩ := O
  have hz := h.big
  have hbel : Below w.heap.size W W' := hg.below (by omega) (fun j s => by have := (hS j s).1; omega)
  have K : ∀ b, b < W.heap.size → ¬ S b → W'.cell? ⟨b, 0, none⟩ = W.cell? ⟨b, 0, none⟩ := fun b hb hn => hg.cell (a := ⟨b, 0, none⟩) hb hn
  have Z : ∀ b, b < W.heap.size → ¬ S b → W'.frozen? ⟨b, 0, none⟩ = W.frozen? ⟨b, 0, none⟩ := fun b hb hn => hg.frozen (a := ⟨b, 0, none⟩) hb hn
  have nt : ¬ S tb := fun s => (hS tb s).2.1 rfl
  have nn : ¬ S nb := fun s => (hS nb s).2.2.1 rfl
  have n0 : ¬ S r := fun s => by have := (hS r s).1; omega
  have n1 : ¬ S (r + 1) := fun s => by have := (hS _ s).1; omega
  have n2 : ¬ S (r + 1 + 1) := fun s => by have := (hS _ s).1; omega
  exact ⟨h.tab.only hg (fun b s => by have := (hS b s).1; omega) (fun b hb s => (hS b s).2.2.2 hb), h.rows, (K _ (by omega) nt).trans h.t, (K _ (by omega) nn).trans h.num, (Z _ (by omega) nn).trans h.numf, (K _ (by omega) n0).trans h.q0, (K _ (by omega) n1).trans h.q1, (K _ (by omega) n2).trans h.q2,
    (Z _ (by omega) n0).trans h.f0, (Z _ (by omega) n1).trans h.f1, (Z _ (by omega) n2).trans h.f2, h.ready.keep hbel o12, h.low.trans hbel, Nat.le_trans hz hg.size⟩
theorem PSt.below (O : POrd w Wl B p cb r tb nb bp sb bv gm) (h : PSt w Wl B gp n E p cb r tb nb F L N W) (hg : Below W.heap.size W W') : PSt w Wl B gp n E p cb r tb nb F L N W' := h.only O (S := fun _ => False) (Only.of_below hg) (fun _ s => s.elim)

/-- between two rounds. -/
def PI (w Wl : World) (B gp n : Nat) (E : List EdgeT) (p cb r tb nb : Nat) (zs : List ByteArray) (pre : List {z : ByteArray // z ∈ zs}) (W : World) : Prop :=
  ∃ F L, PSt w Wl B gp n E p cb r tb nb F L L.length W ∧ validL E.length L ∧ L.length = pre.length ∧ (pre.map (fun x => x.1.data.toList)).flatten = textC L
/-- a bad line was met. -/
def PErr (w Wl : World) (m r : Nat) (zs : List ByteArray) (pre : List {z : ByteArray // z ∈ zs}) (W : World) : Prop :=
  ∃ (pre0 : List {z : ByteArray // z ∈ zs}) (x : {z : ByteArray // z ∈ zs}) (L : List ChgT), pre = pre0 ++ [x] ∧ validL m L ∧ (pre0.map (fun x => x.1.data.toList)).flatten = textC L ∧ x.1.data.toList ≠ [] ∧ (∀ c, okC m c → late L c = false → lineC c ≠ x.1.data.toList) ∧
    W.cell? ⟨r, 0, none⟩ = some (.pointer none) ∧ W.cell? ⟨r + 1, 0, none⟩ = some (.int .i64 ((L.length + 1 : Nat) : Int)) ∧ W.cell? ⟨r + 1 + 1, 0, none⟩ = some (.int .i64 2) ∧ Below w.heap.size w W ∧ Wl.heap.size ≤ W.heap.size
/-- the empty piece was met. -/
def PEnd (w Wl : World) (B gp n : Nat) (E : List EdgeT) (p cb r tb nb : Nat) (zs : List ByteArray) (pre : List {z : ByteArray // z ∈ zs}) (W : World) : Prop :=
  ∃ (pre0 : List {z : ByteArray // z ∈ zs}) (x : {z : ByteArray // z ∈ zs}), pre = pre0 ++ [x] ∧ x.1.data.toList = [] ∧ PI w Wl B gp n E p cb r tb nb zs pre0 W
def PX (K : Nat) (w Wl : World) (B gp n : Nat) (E : List EdgeT) (p cb r tb nb : Nat) (zs : List ByteArray) (c : Code) (pre : List {z : ByteArray // z ∈ zs}) (W : World) : Prop :=
  (c = .ret ∧ PErr w Wl E.length r zs pre W) ∨ (c = .exit K ∧ PEnd w Wl B gp n E p cb r tb nb zs pre W)

theorem PSt.grown (O : POrd w Wl B p cb r tb nb bp sb bv gm) (h : PSt w Wl B gp n E p cb r tb nb F L N W) {row : Option Nat} (hg : W.grownBy W' row) (hr : ∀ x, row = some x → Wl.heap.size ≤ x ∧ ∃ o : Obj, W.heap[x]? = some o ∧ o.isCells = false) : PSt w Wl B gp n E p cb r tb nb F L N W' := by
  have O' := O
  obtain ⟨o1, o2, o3, o4, o5, o6, o7, o8, o9, o10, o11, o12⟩ := O'
  refine h.only O (S := fun j => row = some j) (Only.of_grown hg (fun j e => e)) (fun b e => ?_)
  obtain ⟨h1, o, h2, h3⟩ := hr b e
  refine ⟨by omega, by omega, by omega, fun hb => ?_⟩
  obtain ⟨o', h4, h5⟩ := tab_cells_of h.tab hb (by omega) (by omega)
  rw [h2] at h4
  cases h4
  rw [h3] at h5
  cases h5
theorem PSt.stays (O : POrd w Wl B p cb r tb nb bp sb bv gm) (h : PSt w Wl B gp n E p cb r tb nb F L N W) (v : Value) : PSt w Wl B gp n E p cb r tb nb F L N (W.setCell ⟨sb, 0, none⟩ v) := by
  have O' := O
  obtain ⟨o1, o2, o3, o4, o5, o6, o7, o8, o9, o10, o11, o12⟩ := O'
  refine h.only O (S := fun j => j = sb) (Only.setCell (S := fun j => j = sb) Only.refl (a := ⟨sb, 0, none⟩) (fun _ => rfl) v) (fun b e => ?_)
  have e : b = sb := e
  refine ⟨by omega, by omega, by omega, fun hb => ?_⟩
  have := h.rows b hb
  omega
variable {zs : List ByteArray}
theorem PI.own (O : POrd w Wl B p cb r tb nb bp sb bv gm) : OwnFrom Wl.heap.size (PI w Wl B gp n E p cb r tb nb zs) := fun _ _ _ _ ⟨F, L, h, h2⟩ hg hr => ⟨F, L, h.grown O hg hr, h2⟩
theorem PI.stays (O : POrd w Wl B p cb r tb nb bp sb bv gm) : StaysAt sb (PI w Wl B gp n E p cb r tb nb zs) := fun _ _ v ⟨F, L, h, h2⟩ => ⟨F, L, h.stays O v, h2⟩
theorem PErr.only (O : POrd w Wl B p cb r tb nb bp sb bv gm) {m : Nat} {pre : List {z : ByteArray // z ∈ zs}} (h : PErr w Wl m r zs pre W) {S : Nat → Prop} (hg : Only S W W') (hS : ∀ b, S b → B ≤ b) : PErr w Wl m r zs pre W' := by
  obtain ⟨o1, o2, o3, o4, o5, o6, o7, o8, o9, o10, o11, o12⟩ := O
  obtain ⟨pre0, x, L, h1, h2, h3, h4, h5, c0, c1, c2, hb, hz⟩ := h
  have K : ∀ b, b < B → W'.cell? ⟨b, 0, none⟩ = W.cell? ⟨b, 0, none⟩ := fun b hb => hg.cell (a := ⟨b, 0, none⟩) (by show b < _; omega) (fun s => by have := hS b s; omega)
  exact ⟨pre0, x, L, h1, h2, h3, h4, h5, (K _ (by omega)).trans c0, (K _ (by omega)).trans c1, (K _ (by omega)).trans c2, hb.trans (hg.below (by omega) (fun j s => by have := hS j s; omega)), Nat.le_trans hz hg.size⟩
theorem PX.own (O : POrd w Wl B p cb r tb nb bp sb bv gm) (K : Nat) (c : Code) : OwnFrom Wl.heap.size (PX K w Wl B gp n E p cb r tb nb zs c) := by
  intro pre W W' row h hg hr
  rcases h with ⟨e, h⟩ | ⟨e, pre0, x, h1, h2, h3⟩
  · refine .inl ⟨e, h.only O (S := fun j => row = some j) (Only.of_grown hg (fun j e => e)) (fun b e => ?_)⟩
    have := (hr b e).1
    obtain ⟨o1, o2, o3, o4, o5, o6, o7, o8, o9, o10, o11, o12⟩ := O
    omega
  · exact .inr ⟨e, pre0, x, h1, h2, PI.own O _ _ _ _ h3 hg hr⟩
theorem PX.stays (O : POrd w Wl B p cb r tb nb bp sb bv gm) (K : Nat) (c : Code) : StaysAt sb (PX K w Wl B gp n E p cb r tb nb zs c) := by
  intro pre W v h
  rcases h with ⟨e, h⟩ | ⟨e, pre0, x, h1, h2, h3⟩
  · refine .inl ⟨e, h.only O (S := fun j => j = sb) (Only.setCell (S := fun j => j = sb) Only.refl (a := ⟨sb, 0, none⟩) (fun _ => rfl) v) (fun b e => ?_)⟩
    have e : b = sb := e
    obtain ⟨o1, o2, o3, o4, o5, o6, o7, o8, o9, o10, o11, o12⟩ := O
    omega
  · exact .inr ⟨e, pre0, x, h1, h2, PI.stays O _ _ v h3⟩
end

def RetParse (w : World) (gp n : Nat) (E : List EdgeT) (s : ByteArray) (e : Ending) (w' : World) : Prop :=
  Below w.heap.size w w' ∧ ((∃ p cb B F L, e = .returned (.tuple #[.pointer (some ⟨p, 0, none⟩), .int .i64 0, .int .i64 0]) ∧ w.heap.size ≤ B ∧ TabAt w' B gp n E p cb F L ∧ Fine E.length s.data.toList L) ∨
    ∃ L : List ChgT, e = .returned (.tuple #[.pointer none, .int .i64 ((L.length + 1 : Nat) : Int), .int .i64 2]) ∧ Bad E.length s.data.toList L)

theorem seqA_any (s : ByteArray) (w : World) : Calls Tryd.prog 26 #[.string s, .string ⟨#[10]⟩] w fun e w' =>
    e = .returned (.func (.func 54) #[] #[.pointer (some ⟨w.heap.size + 1, 0, none⟩), .pointer (some ⟨w.heap.size, 0, none⟩), .pointer (some ⟨w.heap.size + 1 + 1, 0, none⟩)]) ∧ w' = ((w.alloc (.cells #[.string s] 9)).alloc (.cells #[.string ⟨#[10]⟩] 9)).alloc (.cells #[.int .i64 1] 3) := by
  have h : Calls Tryd.prog 41 #[.string s, .string ⟨#[10]⟩, .int .i64 1] w fun e w' =>
    e = .returned (.func (.func 54) #[] #[.pointer (some ⟨w.heap.size + 1, 0, none⟩), .pointer (some ⟨w.heap.size, 0, none⟩), .pointer (some ⟨w.heap.size + 1 + 1, 0, none⟩)]) ∧ w' = ((w.alloc (.cells #[.string s] 9)).alloc (.cells #[.string ⟨#[10]⟩] 9)).alloc (.cells #[.int .i64 1] 3) := by
    go_enter Tryd.func41, Tryd.ntmps41
    go_wp2_with fail
    go_ret
    exact ⟨rfl, rfl⟩
  go_enter Tryd.func26, Tryd.ntmps26
  go_wp2_with fail
  refine h.mono ?_
  rintro e w' ⟨rfl, rfl⟩
  go_wp2_with fail
  go_ret
  exact ⟨rfl, rfl⟩
end Go.Proofs.YtppbmnlneoinhaaDoor
