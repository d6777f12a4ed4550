/-
  traveltimes.Parse: the table whose text it is, or the number of the first bad line.
  traveltimes.Parse: its two ends, in plain words.
  traveltimes.Parse: the steps of a round, in plain words.
-/
import Derived.Test.YtppbmnlneoinhaaDoorParC
import Derived.Test.YtppbmnlneoinhaaDoorFineC
import Derived.Test.YtppbmnlneoinhaaDoorMarks
namespace Go.Proofs.YtppbmnlneoinhaaDoor
section
open Go.RowKit Go.Shelf Go.Maps
attribute [local go_sem] Oper.semAt_some

theorem tab_cells_of {w : World} {B gp n : Nat} {E : List EdgeT} {p cb : Nat} {F : Option Nat → Value} {L : List ChgT} (h : TabAt w B gp n E p cb F L) {b : Nat} (hb : tabB p cb E.length F b) (hp : b ≠ p) (hc : b ≠ cb) : ∃ o, w.heap[b]? = some o ∧ o.isCells = true := by
  rcases hb with e | e | ⟨i, hi, e⟩
  · exact absurd e hp
  · exact absurd e hc
  · exact (ownR_cells (h.fam.own i hi) e).2

/-- the memory of Parse at work. -/
structure PSt (w Wl : World) (B gp n : Nat) (E : List EdgeT) (p cb r tb nb : Nat) (F : Option Nat → Value) (L : List ChgT) (N : Nat) (W : World) : Prop where
  tab : TabAt W r gp n E p cb F L
  rows : ∀ b, tabB p cb E.length F b → b = p ∨ b = cb ∨ Wl.heap.size ≤ b
  t : W.cell? ⟨tb, 0, none⟩ = some (.pointer (some ⟨p, 0, none⟩))
  num : W.cell? ⟨nb, 0, none⟩ = some (.int .i64 (N : Nat))
  numf : W.frozen? ⟨nb, 0, none⟩ = false
  q0 : W.cell? ⟨r, 0, none⟩ = some (.pointer none)
  q1 : W.cell? ⟨r + 1, 0, none⟩ = some (.int .i64 0)
  q2 : W.cell? ⟨r + 1 + 1, 0, none⟩ = some (.int .i64 0)
  f0 : W.frozen? ⟨r, 0, none⟩ = false
  f1 : W.frozen? ⟨r + 1, 0, none⟩ = false
  f2 : W.frozen? ⟨r + 1 + 1, 0, none⟩ = false
  ready : ReadyP W
  low : Below w.heap.size w W
  big : Wl.heap.size ≤ W.heap.size
/-- the order of the blocks. -/
structure POrd (w Wl : World) (B p cb r tb nb bp sb bv gm : Nat) : Prop where
  o1 : gm < w.heap.size
  o2 : w.heap.size = r
  o3 : r + 1 + 1 < B
  o4 : B ≤ cb
  o5 : cb < p
  o6 : p < tb
  o7 : tb < nb
  o8 : nb < sb
  o9 : sb < bp
  o10 : bp < bv
  o11 : bv < Wl.heap.size
  o12 : Tryd.prog.globals.size ≤ w.heap.size

section
variable {w Wl : World} {B gp n : Nat} {E : List EdgeT} {p cb r tb nb bp sb bv gm : Nat} {F : Option Nat → Value} {L : List ChgT} {N : Nat} {W W' : World}
theorem PSt.only (O : POrd w Wl B p cb r tb nb bp sb bv gm) (h : PSt w Wl B gp n E p cb r tb nb F L N W) {S : Nat → Prop} (hg : Only S W W') (hS : ∀ b, S b → B ≤ b ∧ b ≠ tb ∧ b ≠ nb ∧ ¬ tabB p cb E.length F b) : PSt w Wl B gp n E p cb r tb nb F L N W' := by
  obtain ⟨o1, o2, o3, o4, o5, o6, o7, o8, o9, o10, o11, o12⟩ := O
  have hz := h.big
  have hbel : Below w.heap.size W W' := hg.below (by omega) (fun j s => by have := (hS j s).1; omega)
  have K : ∀ b, b < W.heap.size → ¬ S b → W'.cell? ⟨b, 0, none⟩ = W.cell? ⟨b, 0, none⟩ := fun b hb hn => hg.cell (a := ⟨b, 0, none⟩) hb hn
  have Z : ∀ b, b < W.heap.size → ¬ S b → W'.frozen? ⟨b, 0, none⟩ = W.frozen? ⟨b, 0, none⟩ := fun b hb hn => hg.frozen (a := ⟨b, 0, none⟩) hb hn
  have nt : ¬ S tb := fun s => (hS tb s).2.1 rfl
  have nn : ¬ S nb := fun s => (hS nb s).2.2.1 rfl
  have n0 : ¬ S r := fun s => by have := (hS r s).1; omega
  have n1 : ¬ S (r + 1) := fun s => by have := (hS _ s).1; omega
  have n2 : ¬ S (r + 1 + 1) := fun s => by have := (hS _ s).1; omega
  exact ⟨h.tab.only hg (fun b s => by have := (hS b s).1; omega) (fun b hb s => (hS b s).2.2.2 hb), h.rows, (K _ (by omega) nt).trans h.t, (K _ (by omega) nn).trans h.num, (Z _ (by omega) nn).trans h.numf, (K _ (by omega) n0).trans h.q0, (K _ (by omega) n1).trans h.q1, (K _ (by omega) n2).trans h.q2,
    (Z _ (by omega) n0).trans h.f0, (Z _ (by omega) n1).trans h.f1, (Z _ (by omega) n2).trans h.f2, h.ready.keep hbel o12, h.low.trans hbel, Nat.le_trans hz hg.size⟩
theorem PSt.below (O : POrd w Wl B p cb r tb nb bp sb bv gm) (h : PSt w Wl B gp n E p cb r tb nb F L N W) (hg : Below W.heap.size W W') : PSt w Wl B gp n E p cb r tb nb F L N W' := h.only O (S := fun _ => False) (Only.of_below hg) (fun _ s => s.elim)

/-- between two rounds. -/
def PI (w Wl : World) (B gp n : Nat) (E : List EdgeT) (p cb r tb nb : Nat) (zs : List ByteArray) (pre : List {z : ByteArray // z ∈ zs}) (W : World) : Prop :=
  ∃ F L, PSt w Wl B gp n E p cb r tb nb F L L.length W ∧ validL E.length L ∧ L.length = pre.length ∧ (pre.map (fun x => x.1.data.toList)).flatten = textC L
/-- a bad line was met. -/
def PErr (w Wl : World) (m r : Nat) (zs : List ByteArray) (pre : List {z : ByteArray // z ∈ zs}) (W : World) : Prop :=
  ∃ (pre0 : List {z : ByteArray // z ∈ zs}) (x : {z : ByteArray // z ∈ zs}) (L : List ChgT), pre = pre0 ++ [x] ∧ validL m L ∧ (pre0.map (fun x => x.1.data.toList)).flatten = textC L ∧ x.1.data.toList ≠ [] ∧ (∀ c, okC m c → late L c = false → lineC c ≠ x.1.data.toList) ∧
    W.cell? ⟨r, 0, none⟩ = some (.pointer none) ∧ W.cell? ⟨r + 1, 0, none⟩ = some (.int .i64 ((L.length + 1 : Nat) : Int)) ∧ W.cell? ⟨r + 1 + 1, 0, none⟩ = some (.int .i64 2) ∧ Below w.heap.size w W ∧ Wl.heap.size ≤ W.heap.size
/-- the empty piece was met. -/
def PEnd (w Wl : World) (B gp n : Nat) (E : List EdgeT) (p cb r tb nb : Nat) (zs : List ByteArray) (pre : List {z : ByteArray // z ∈ zs}) (W : World) : Prop :=
  ∃ (pre0 : List {z : ByteArray // z ∈ zs}) (x : {z : ByteArray // z ∈ zs}), pre = pre0 ++ [x] ∧ x.1.data.toList = [] ∧ PI w Wl B gp n E p cb r tb nb zs pre0 W
def PX (K : Nat) (w Wl : World) (B gp n : Nat) (E : List EdgeT) (p cb r tb nb : Nat) (zs : List ByteArray) (c : Code) (pre : List {z : ByteArray // z ∈ zs}) (W : World) : Prop :=
  (c = .ret ∧ PErr w Wl E.length r zs pre W) ∨ (c = .exit K ∧ PEnd w Wl B gp n E p cb r tb nb zs pre W)

theorem PSt.grown (O : POrd w Wl B p cb r tb nb bp sb bv gm) (h : PSt w Wl B gp n E p cb r tb nb F L N W) {row : Option Nat} (hg : W.grownBy W' row) (hr : ∀ x, row = some x → Wl.heap.size ≤ x ∧ ∃ o : Obj, W.heap[x]? = some o ∧ o.isCells = false) : PSt w Wl B gp n E p cb r tb nb F L N W' := by
  have O' := O
  obtain ⟨o1, o2, o3, o4, o5, o6, o7, o8, o9, o10, o11, o12⟩ := O'
  refine h.only O (S := fun j => row = some j) (Only.of_grown hg (fun j e => e)) (fun b e => ?_)
  obtain ⟨h1, o, h2, h3⟩ := hr b e
  refine ⟨by omega, by omega, by omega, fun hb => ?_⟩
  obtain ⟨o', h4, h5⟩ := tab_cells_of h.tab hb (by omega) (by omega)
  rw [h2] at h4
  cases h4
  rw [h3] at h5
  cases h5
theorem PSt.stays (O : POrd w Wl B p cb r tb nb bp sb bv gm) (h : PSt w Wl B gp n E p cb r tb nb F L N W) (v : Value) : PSt w Wl B gp n E p cb r tb nb F L N (W.setCell ⟨sb, 0, none⟩ v) := by
  have O' := O
  obtain ⟨o1, o2, o3, o4, o5, o6, o7, o8, o9, o10, o11, o12⟩ := O'
  refine h.only O (S := fun j => j = sb) (Only.setCell (S := fun j => j = sb) Only.refl (a := ⟨sb, 0, none⟩) (fun _ => rfl) v) (fun b e => ?_)
  have e : b = sb := e
  refine ⟨by omega, by omega, by omega, fun hb => ?_⟩
  have := h.rows b hb
  omega
variable {zs : List ByteArray}
theorem PI.own (O : POrd w Wl B p cb r tb nb bp sb bv gm) : OwnFrom Wl.heap.size (PI w Wl B gp n E p cb r tb nb zs) := fun _ _ _ _ ⟨F, L, h, h2⟩ hg hr => ⟨F, L, h.grown O hg hr, h2⟩
theorem PI.stays (O : POrd w Wl B p cb r tb nb bp sb bv gm) : StaysAt sb (PI w Wl B gp n E p cb r tb nb zs) := fun _ _ v ⟨F, L, h, h2⟩ => ⟨F, L, h.stays O v, h2⟩
theorem PErr.only (O : POrd w Wl B p cb r tb nb bp sb bv gm) {m : Nat} {pre : List {z : ByteArray // z ∈ zs}} (h : PErr w Wl m r zs pre W) {S : Nat → Prop} (hg : Only S W W') (hS : ∀ b, S b → B ≤ b) : PErr w Wl m r zs pre W' := by
  obtain ⟨o1, o2, o3, o4, o5, o6, o7, o8, o9, o10, o11, o12⟩ := O
  obtain ⟨pre0, x, L, h1, h2, h3, h4, h5, c0, c1, c2, hb, hz⟩ := h
  have K : ∀ b, b < B → W'.cell? ⟨b, 0, none⟩ = W.cell? ⟨b, 0, none⟩ := fun b hb => hg.cell (a := ⟨b, 0, none⟩) (by show b < _; omega) (fun s => by have := hS b s; omega)
  exact ⟨pre0, x, L, h1, h2, h3, h4, h5, (K _ (by omega)).trans c0, (K _ (by omega)).trans c1, (K _ (by omega)).trans c2, hb.trans (hg.below (by omega) (fun j s => by have := hS j s; omega)), Nat.le_trans hz hg.size⟩
theorem PX.own (O : POrd w Wl B p cb r tb nb bp sb bv gm) (K : Nat) (c : Code) : OwnFrom Wl.heap.size (PX K w Wl B gp n E p cb r tb nb zs c) := by
  intro pre W W' row h hg hr
  rcases h with ⟨e, h⟩ | ⟨e, pre0, x, h1, h2, h3⟩
  · refine .inl ⟨e, h.only O (S := fun j => row = some j) (Only.of_grown hg (fun j e => e)) (fun b e => ?_)⟩
    have := (hr b e).1
    obtain ⟨o1, o2, o3, o4, o5, o6, o7, o8, o9, o10, o11, o12⟩ := O
    omega
  · exact .inr ⟨e, pre0, x, h1, h2, PI.own O _ _ _ _ h3 hg hr⟩
theorem PX.stays (O : POrd w Wl B p cb r tb nb bp sb bv gm) (K : Nat) (c : Code) : StaysAt sb (PX K w Wl B gp n E p cb r tb nb zs c) := by
  intro pre W v h
  rcases h with ⟨e, h⟩ | ⟨e, pre0, x, h1, h2, h3⟩
  · refine .inl ⟨e, h.only O (S := fun j => j = sb) (Only.setCell (S := fun j => j = sb) Only.refl (a := ⟨sb, 0, none⟩) (fun _ => rfl) v) (fun b e => ?_)⟩
    have e : b = sb := e
    obtain ⟨o1, o2, o3, o4, o5, o6, o7, o8, o9, o10, o11, o12⟩ := O
    omega
  · exact .inr ⟨e, pre0, x, h1, h2, PI.stays O _ _ v h3⟩
end

def RetParse (w : World) (gp n : Nat) (E : List EdgeT) (s : ByteArray) (e : Ending) (w' : World) : Prop :=
  Below w.heap.size w w' ∧ ((∃ p cb B F L, e = .returned (.tuple #[.pointer (some ⟨p, 0, none⟩), .int .i64 0, .int .i64 0]) ∧ w.heap.size ≤ B ∧ TabAt w' B gp n E p cb F L ∧ Fine E.length s.data.toList L) ∨
    ∃ L : List ChgT, e = .returned (.tuple #[.pointer none, .int .i64 ((L.length + 1 : Nat) : Int), .int .i64 2]) ∧ Bad E.length s.data.toList L)

theorem seqA_any (s : ByteArray) (w : World) : Calls Tryd.prog 26 #[.string s, .string ⟨#[10]⟩] w fun e w' =>
    e = .returned (.func (.func 54) #[] #[.pointer (some ⟨w.heap.size + 1, 0, none⟩), .pointer (some ⟨w.heap.size, 0, none⟩), .pointer (some ⟨w.heap.size + 1 + 1, 0, none⟩)]) ∧ w' = ((w.alloc (.cells #[.string s] 9)).alloc (.cells #[.string ⟨#[10]⟩] 9)).alloc (.cells #[.int .i64 1] 3) := by
  have h : Calls Tryd.prog 41 #[.string s, .string ⟨#[10]⟩, .int .i64 1] w fun e w' =>
    e = .returned (.func (.func 54) #[] #[.pointer (some ⟨w.heap.size + 1, 0, none⟩), .pointer (some ⟨w.heap.size, 0, none⟩), .pointer (some ⟨w.heap.size + 1 + 1, 0, none⟩)]) ∧ w' = ((w.alloc (.cells #[.string s] 9)).alloc (.cells #[.string ⟨#[10]⟩] 9)).alloc (.cells #[.int .i64 1] 3) := by
    go_enter Tryd.func41, Tryd.ntmps41
    go_wp2_with fail
    go_ret
    exact ⟨rfl, rfl⟩
  go_enter Tryd.func26, Tryd.ntmps26
  go_wp2_with fail
  refine h.mono ?_
  rintro e w' ⟨rfl, rfl⟩
  go_wp2_with fail
  go_ret
  exact ⟨rfl, rfl⟩
end
section
open Go.RowKit Go.Shelf Go.Maps

section
variable {s : ByteArray} {zs : List ByteArray}
theorem zs_data (hzs : zs = Lib.splitB ⟨#[10]⟩ 1 s.size s) : zs.map (fun z => z.data.toList) = Lib.splitK [10] 1 s.size s.data.toList := by
  rw [hzs]
  exact Lib.splitB_data _ _ _ _
theorem zs_pieces (hzs : zs = Lib.splitB ⟨#[10]⟩ 1 s.size s) : Pieces (zs.map (fun z => z.data.toList)) ∧ (zs.map (fun z => z.data.toList)).flatten = s.data.toList := by
  rw [zs_data hzs]
  exact splitA _ _ (by show s.data.toList.length ≤ s.data.size; simp)
theorem attach_data : zs.attach.map (fun x => x.1.data.toList) = zs.map (fun z => z.data.toList) := by
  have h : zs.attach.map (fun x => x.1.data.toList) = (zs.attach.map Subtype.val).map (fun z => z.data.toList) := by rw [List.map_map]; rfl
  rw [h, List.attach_map_subtype_val]
/-- a text cut into its pieces, at one of them. -/
theorem zs_at (hzs : zs = Lib.splitB ⟨#[10]⟩ 1 s.size s) {pre0 : List {z : ByteArray // z ∈ zs}} {x : {z : ByteArray // z ∈ zs}} (hp : pre0 ++ [x] <+: zs.attach) :
    ∃ R : List (List UInt8), s.data.toList = (pre0.map (fun x => x.1.data.toList)).flatten ++ (x.1.data.toList ++ R.flatten) ∧ (((∃ y, x.1.data.toList = y ++ [10] ∧ (10 : UInt8) ∉ y) ∧ R ≠ []) ∨ (R = [] ∧ (10 : UInt8) ∉ x.1.data.toList)) := by
  obtain ⟨t, ht⟩ := hp
  obtain ⟨h1, h2⟩ := zs_pieces hzs
  rw [← attach_data, ← ht] at h1 h2
  simp only [List.map_append, List.map_cons, List.append_assoc, List.cons_append, List.nil_append] at h1 h2
  refine ⟨t.map (fun x => x.1.data.toList), ?_, pieces_at h1⟩
  rw [← h2, List.flatten_append, List.flatten_cons]
section
variable {w Wl : World} {B gp n : Nat} {E : List EdgeT} {p cb r tb nb : Nat} {W : World}
theorem pi_fine (hzs : zs = Lib.splitB ⟨#[10]⟩ 1 s.size s) (h : PI w Wl B gp n E p cb r tb nb zs zs.attach W) : ∃ F L, PSt w Wl B gp n E p cb r tb nb F L L.length W ∧ Fine E.length s.data.toList L := by
  obtain ⟨F, L, h1, h2, _, h3⟩ := h
  refine ⟨F, L, h1, h2, ?_⟩
  rw [← h3, attach_data, (zs_pieces hzs).2]
theorem pend_fine (hzs : zs = Lib.splitB ⟨#[10]⟩ 1 s.size s) {pre : List {z : ByteArray // z ∈ zs}} (hp : pre <+: zs.attach) (h : PEnd w Wl B gp n E p cb r tb nb zs pre W) : ∃ F L, PSt w Wl B gp n E p cb r tb nb F L L.length W ∧ Fine E.length s.data.toList L := by
  obtain ⟨pre0, x, rfl, hx, F, L, h1, h2, _, h3⟩ := h
  obtain ⟨R, hR, hc⟩ := zs_at hzs hp
  refine ⟨F, L, h1, h2, ?_⟩
  rcases hc with ⟨⟨y, hy, _⟩, _⟩ | ⟨rfl, _⟩
  · rw [hx] at hy
    have := congrArg List.length hy
    simp at this
  · rw [hR, h3, hx]
    simp
theorem perr_bad (hm : E.length ≤ 1099511627776) (hzs : zs = Lib.splitB ⟨#[10]⟩ 1 s.size s) {pre : List {z : ByteArray // z ∈ zs}} (hp : pre <+: zs.attach) (h : PErr w Wl E.length r zs pre W) : ∃ L : List ChgT, Bad E.length s.data.toList L ∧
    W.cell? ⟨r, 0, none⟩ = some (.pointer none) ∧ W.cell? ⟨r + 1, 0, none⟩ = some (.int .i64 ((L.length + 1 : Nat) : Int)) ∧ W.cell? ⟨r + 1 + 1, 0, none⟩ = some (.int .i64 2) ∧ Below w.heap.size w W ∧ Wl.heap.size ≤ W.heap.size := by
  obtain ⟨pre0, x, L, rfl, h2, h3, h4, h5, h6⟩ := h
  obtain ⟨R, hR, hc⟩ := zs_at hzs hp
  refine ⟨L, ⟨h2, x.1.data.toList ++ R.flatten, by rw [hR, h3], ?_, fun c t hc' hl e => ?_⟩, h6⟩
  · intro e
    exact h4 (List.append_eq_nil_iff.1 e).1
  · exact h5 c hc' hl (piece_line (okR_of hm hc') hc e)
end
end

section
variable {r : Nat}
theorem ret_cells {R : Ending → World → Prop} {tmps : Array Value} {D : Nat} {W1 : World} {a b c : Value} (h4 : tmps[4]? = some (.pointer (some ⟨r, 0, none⟩))) (h5 : tmps[5]? = some (.pointer (some ⟨r + 1, 0, none⟩))) (h6 : tmps[6]? = some (.pointer (some ⟨r + 1 + 1, 0, none⟩)))
    (hm : W1.heap[D]? = some (.deferred (some []))) (hD : r + 1 + 1 < D) (c0 : W1.cell? ⟨r, 0, none⟩ = some a) (c1 : W1.cell? ⟨r + 1, 0, none⟩ = some b) (c2 : W1.cell? ⟨r + 1 + 1, 0, none⟩ = some c)
    (hR : ∀ W', Only (fun k => k = D) W1 W' → R (.returned (.tuple #[a, b, c])) W') :
    LeavesInM Fence.wide 4 Tryd.prog Tryd.f10 tmps R [{ target := .collected D, args := #[] }] .returning W1 := by
  refine leaves_one hm fun W' hW' => ?_
  have hDl := (Array.getElem?_eq_some_iff.1 hm).1
  have K : ∀ b, b < D → W'.cell? ⟨b, 0, none⟩ = W1.cell? ⟨b, 0, none⟩ := fun b hb => hW'.cell (a := ⟨b, 0, none⟩) (by show b < _; omega) (fun e => by have e : b = D := e; omega)
  have k0 := (K _ (by omega)).trans c0
  have k1 := (K _ (by omega)).trans c1
  have k2 := (K _ (by omega)).trans c2
  refine ⟨_, ?_, hR W' hW'⟩
  simp [results, Tryd.results10, go_sem, h4, h5, h6, k0, k1, k2]
end
end
section
open Go.RowKit Go.Shelf Go.Maps

/-- the blocks that a round may change. -/
def rndB (p cb m nb : Nat) (F : Option Nat → Value) : Nat → Prop := fun b => b = nb ∨ tabB p cb m F b
section
variable {w Wl : World} {B gp n : Nat} {E : List EdgeT} {p cb r tb nb bp sb bv gm : Nat} {F : Option Nat → Value} {L : List ChgT} {N : Nat} {W W1 W' : World}
theorem PSt.count (O : POrd w Wl B p cb r tb nb bp sb bv gm) (h : PSt w Wl B gp n E p cb r tb nb F L N W) (M : Nat) : PSt w Wl B gp n E p cb r tb nb F L M (W.setCell ⟨nb, 0, none⟩ (.int .i64 (M : Nat))) := by
  have O' := O
  obtain ⟨o1, o2, o3, o4, o5, o6, o7, o8, o9, o10, o11, o12⟩ := O'
  have hz := h.big
  have hg : Only (fun b => b = nb) W (W.setCell ⟨nb, 0, none⟩ (.int .i64 (M : Nat))) := Only.setCell (S := fun b => b = nb) Only.refl (a := ⟨nb, 0, none⟩) (fun _ => rfl) _
  have hbel : Below w.heap.size W (W.setCell ⟨nb, 0, none⟩ (.int .i64 (M : Nat))) := hg.below (by omega) (fun j s => by have s : j = nb := s; omega)
  have K : ∀ b, b < W.heap.size → b ≠ nb → (W.setCell ⟨nb, 0, none⟩ (.int .i64 (M : Nat))).cell? ⟨b, 0, none⟩ = W.cell? ⟨b, 0, none⟩ := fun b hb hn => hg.cell (a := ⟨b, 0, none⟩) hb hn
  have Z : ∀ b, (W.setCell ⟨nb, 0, none⟩ (.int .i64 (M : Nat))).frozen? ⟨b, 0, none⟩ = W.frozen? ⟨b, 0, none⟩ := fun b => World.frozen?_setCell _ _ _ _
  refine ⟨h.tab.only hg (fun b s => by have s : b = nb := s; omega) (fun b hb s => ?_), h.rows, (K _ (by omega) (by omega)).trans h.t, World.cell?_setCell_same _ _ _ h.num, (Z _).trans h.numf, (K _ (by omega) (by omega)).trans h.q0, (K _ (by omega) (by omega)).trans h.q1, (K _ (by omega) (by omega)).trans h.q2, (Z _).trans h.f0, (Z _).trans h.f1, (Z _).trans h.f2, h.ready.keep hbel o12, h.low.trans hbel, Nat.le_trans hz hg.size⟩
  have s : b = nb := s
  have := h.rows b hb
  omega
theorem only_count (h : Only (rndB p cb E.length nb F) W W1) (v : Value) : Only (rndB p cb E.length nb F) W (W1.setCell ⟨nb, 0, none⟩ v) := h.setCell (a := ⟨nb, 0, none⟩) (fun _ => .inl rfl) v
theorem PSt.app (O : POrd w Wl B p cb r tb nb bp sb bv gm) (h : PSt w Wl B gp n E p cb r tb nb F L N W) {c : ChgT} {e : Ending} (ha : AppAny W r gp n E p cb F L c e W') : ∃ F', PSt w Wl B gp n E p cb r tb nb F' (putL E.length L c) N W' ∧ Only (rndB p cb E.length nb F) W W' := by
  have O' := O
  obtain ⟨o1, o2, o3, o4, o5, o6, o7, o8, o9, o10, o11, o12⟩ := O'
  have hz := h.big
  obtain ⟨_, F', ht, ho, hr, _⟩ := ha
  have hS : ∀ b, tabB p cb E.length F b → cb ≤ b ∧ b ≠ tb ∧ b ≠ nb := fun b hb => by
    have := h.rows b hb
    omega
  have hbel : Below w.heap.size W W' := ho.below (by omega) (fun j s => by have := (hS j s).1; omega)
  have K : ∀ b, b < W.heap.size → ¬ tabB p cb E.length F b → W'.cell? ⟨b, 0, none⟩ = W.cell? ⟨b, 0, none⟩ := fun b hb hn => ho.cell (a := ⟨b, 0, none⟩) hb hn
  have Z : ∀ b, b < W.heap.size → ¬ tabB p cb E.length F b → W'.frozen? ⟨b, 0, none⟩ = W.frozen? ⟨b, 0, none⟩ := fun b hb hn => ho.frozen (a := ⟨b, 0, none⟩) hb hn
  have nt : ¬ tabB p cb E.length F tb := fun s => (hS tb s).2.1 rfl
  have nn : ¬ tabB p cb E.length F nb := fun s => (hS nb s).2.2 rfl
  have n0 : ¬ tabB p cb E.length F r := fun s => by have := (hS r s).1; omega
  have n1 : ¬ tabB p cb E.length F (r + 1) := fun s => by have := (hS _ s).1; omega
  have n2 : ¬ tabB p cb E.length F (r + 1 + 1) := fun s => by have := (hS _ s).1; omega
  refine ⟨F', ⟨ht, fun b hb => ?_, (K _ (by omega) nt).trans h.t, (K _ (by omega) nn).trans h.num, (Z _ (by omega) nn).trans h.numf, (K _ (by omega) n0).trans h.q0, (K _ (by omega) n1).trans h.q1, (K _ (by omega) n2).trans h.q2,
    (Z _ (by omega) n0).trans h.f0, (Z _ (by omega) n1).trans h.f1, (Z _ (by omega) n2).trans h.f2, h.ready.keep hbel o12, h.low.trans hbel, Nat.le_trans hz ho.size⟩, ho.mono (fun j _ s => .inr s)⟩
  rcases hr b hb with q | q
  · exact h.rows b q
  · exact .inr (.inr (Nat.le_trans hz q))
theorem rnd_keeps (O : POrd w Wl B p cb r tb nb bp sb bv gm) (h : PSt w Wl B gp n E p cb r tb nb F L N W) {S : Nat → Prop} (ho : Only S W W') (hS : ∀ b, S b → rndB p cb E.length nb F b ∨ (r ≤ b ∧ b ≤ r + 1 + 1)) : KeepsFrom Wl.heap.size W W' ∧ KeepFour bp sb bv gm W W' := by
  have hz := h.big
  obtain ⟨o1, o2, o3, o4, o5, o6, o7, o8, o9, o10, o11, o12⟩ := O
  have hb : ∀ b, S b → b < nb + 1 ∧ r ≤ b ∨ Wl.heap.size ≤ b := fun b hb => by
    rcases hS b hb with (q | q) | q
    · omega
    · have := h.rows b q
      omega
    · omega
  have hN : ∀ b, nb < b ∧ b < Wl.heap.size ∨ b < r → W'.heap[b]? = W.heap[b]? := fun b hb2 => ho.block b (by omega) (fun s => by have := hb b s; omega)
  refine ⟨keeps_from ho (fun j s hj => ?_), hN _ (by omega), hN _ (by omega), hN _ (by omega), hN _ (by omega)⟩
  rcases hS j s with (q | q) | q
  · omega
  · exact tab_cells_of h.tab q (by omega) (by omega)
  · omega
theorem three_cells {a b c : Addr} {x y z u v t : Value} (hab : a ≠ b) (hac : a ≠ c) (hbc : b ≠ c) (ha : W.cell? a = some u) (hb : W.cell? b = some v) (hc : W.cell? c = some t) :
    (((W.setCell a x).setCell b y).setCell c z).cell? a = some x ∧ (((W.setCell a x).setCell b y).setCell c z).cell? b = some y ∧ (((W.setCell a x).setCell b y).setCell c z).cell? c = some z := by
  have h1 : (W.setCell a x).cell? a = some x := World.cell?_setCell_same _ _ _ ha
  have h2 : (W.setCell a x).cell? b = some v := (World.cell?_setCell_other _ _ _ _ hab).trans hb
  have h3 : (W.setCell a x).cell? c = some t := (World.cell?_setCell_other _ _ _ _ hac).trans hc
  have h4 : ((W.setCell a x).setCell b y).cell? a = some x := (World.cell?_setCell_other _ _ _ _ (Ne.symm hab)).trans h1
  have h5 : ((W.setCell a x).setCell b y).cell? b = some y := World.cell?_setCell_same _ _ _ h2
  have h6 : ((W.setCell a x).setCell b y).cell? c = some t := (World.cell?_setCell_other _ _ _ _ hbc).trans h3
  exact ⟨(World.cell?_setCell_other _ _ _ _ (Ne.symm hac)).trans h4, (World.cell?_setCell_other _ _ _ _ (Ne.symm hbc)).trans h5, World.cell?_setCell_same _ _ _ h6⟩
/-- the end of a round at a bad line. -/
theorem rnd_bad {zs : List ByteArray} {pre : List {z : ByteArray // z ∈ zs}} {x : {z : ByteArray // z ∈ zs}} {F' : Option Nat → Value} (O : POrd w Wl B p cb r tb nb bp sb bv gm) (h : PSt w Wl B gp n E p cb r tb nb F L L.length W) (hv : validL E.length L) (htx : (pre.map (fun x => x.1.data.toList)).flatten = textC L)
    (hx : x.1.data.toList ≠ []) (hb : ∀ c, okC E.length c → late L c = false → lineC c ≠ x.1.data.toList)
    (h1 : PSt w Wl B gp n E p cb r tb nb F' L (L.length + 1) W1) (ho : Only (rndB p cb E.length nb F) W W1) (hs : Only (fun b => r ≤ b ∧ b ≤ r + 1 + 1) W1 W')
    (c0 : W'.cell? ⟨r, 0, none⟩ = some (.pointer none)) (c1 : W'.cell? ⟨r + 1, 0, none⟩ = some (.int .i64 ((L.length + 1 : Nat) : Int))) (c2 : W'.cell? ⟨r + 1 + 1, 0, none⟩ = some (.int .i64 2)) :
    KeepsFrom Wl.heap.size W W' ∧ PX 0 w Wl B gp n E p cb r tb nb zs .ret (pre ++ [x]) W' := by
  have O' := O
  obtain ⟨o1, o2, o3, o4, o5, o6, o7, o8, o9, o10, o11, o12⟩ := O'
  have ht : Only (fun b => rndB p cb E.length nb F b ∨ (r ≤ b ∧ b ≤ r + 1 + 1)) W W' := (ho.mono fun _ _ s => .inl s).trans (hs.mono fun _ _ s => .inr s) fun _ _ s => s
  refine ⟨(rnd_keeps O h ht (fun _ s => s)).1, .inl ⟨rfl, pre, x, L, rfl, hv, htx, hx, hb, c0, c1, c2, ?_, Nat.le_trans h1.big hs.size⟩⟩
  refine h1.low.trans ?_
  rw [o2]
  exact hs.below (by have := h1.big; omega) (fun _ s => s.1)
/-- the end of a round at a good line. -/
theorem rnd_good {zs : List ByteArray} {pre : List {z : ByteArray // z ∈ zs}} {x : {z : ByteArray // z ∈ zs}} {F' : Option Nat → Value} {c : ChgT} (O : POrd w Wl B p cb r tb nb bp sb bv gm) (h : PSt w Wl B gp n E p cb r tb nb F L L.length W) (hv : validL E.length L) (hL : L.length = pre.length) (htx : (pre.map (fun x => x.1.data.toList)).flatten = textC L)
    (hc : okC E.length c) (hl : late L c = false) (hx : lineC c = x.1.data.toList)
    (h1 : PSt w Wl B gp n E p cb r tb nb F' (L ++ [c]) (L.length + 1) W') (ho : Only (rndB p cb E.length nb F) W W') :
    KeepsFrom Wl.heap.size W W' ∧ KeepFour bp sb bv gm W W' ∧ PI w Wl B gp n E p cb r tb nb zs (pre ++ [x]) W' := by
  obtain ⟨k1, k2⟩ := rnd_keeps O h ho (fun _ s => .inl s)
  refine ⟨k1, k2, F', L ++ [c], ?_, valid_snoc hv hc hl, by simp [hL], ?_⟩
  · have e : (L ++ [c]).length = L.length + 1 := by simp
    rw [e]
    exact h1
  · rw [List.map_append, List.flatten_append, htx, textC_snoc, hx]
    simp
end
/-- what lies ahead of the return at a bad line. -/
structure HoldE (W : World) (r nb N : Nat) (w' : World) : Prop where
  n : w'.cell? ⟨nb, 0, none⟩ = some (.int .i64 (N : Nat))
  r0 : ∃ v, w'.cell? ⟨r, 0, none⟩ = some v
  r1 : ∃ v, w'.cell? ⟨r + 1, 0, none⟩ = some v
  r2 : ∃ v, w'.cell? ⟨r + 1 + 1, 0, none⟩ = some v
  f0 : w'.frozen? ⟨r, 0, none⟩ = false
  f1 : w'.frozen? ⟨r + 1, 0, none⟩ = false
  f2 : w'.frozen? ⟨r + 1 + 1, 0, none⟩ = false
  only : Only (fun b => r ≤ b ∧ b ≤ r + 1 + 1) W w'
  lt : r + 1 + 1 < nb
theorem HoldE.set {W w' : World} {r nb N : Nat} (h : HoldE W r nb N w') (k : Nat) (hk : r ≤ k ∧ k ≤ r + 1 + 1) (v : Value) : HoldE W r nb N (w'.setCell ⟨k, 0, none⟩ v) := by
  obtain ⟨n, ⟨v0, r0⟩, ⟨v1, r1⟩, ⟨v2, r2⟩, f0, f1, f2, o, l⟩ := h
  exact ⟨(World.cell?_setCell_other _ _ _ _ (fun e => by injection e with e; omega)).trans n, cell?_setCell_some r0, cell?_setCell_some r1, cell?_setCell_some r2, (World.frozen?_setCell _ _ _ _).trans f0, (World.frozen?_setCell _ _ _ _).trans f1, (World.frozen?_setCell _ _ _ _).trans f2, o.setCell (a := ⟨k, 0, none⟩) (fun _ => hk) v, l⟩
theorem holdE_mk {w Wl : World} {B gp n : Nat} {E : List EdgeT} {p cb r tb nb bp sb bv gm : Nat} {F : Option Nat → Value} {L : List ChgT} {N : Nat} {W : World} (O : POrd w Wl B p cb r tb nb bp sb bv gm) (h : PSt w Wl B gp n E p cb r tb nb F L N W) : HoldE W r nb N W.drew := by
  obtain ⟨o1, o2, o3, o4, o5, o6, o7, o8, o9, o10, o11, o12⟩ := O
  exact ⟨h.num, ⟨_, h.q0⟩, ⟨_, h.q1⟩, ⟨_, h.q2⟩, h.f0, h.f1, h.f2, Only.refl.drew, by omega⟩
theorem errC_null {m : Nat} {L : List ChgT} {c : ChgT} (h : errC m L c = 0) : okC m c ∧ late L c = false := by
  by_cases q : okC m c
  · refine ⟨q, ?_⟩
    cases hl : late L c with
    | false => rfl
    | true =>
      rw [errC_late q hl] at h
      cases h
  · rw [errC_bad q] at h
    cases h
theorem itoa_chr (n : Int) : ∀ x ∈ Lib.itoa n, isDig x ∨ x = 45 := by
  intro x hx
  unfold Lib.itoa at hx
  split at hx
  · rcases List.mem_cons.1 hx with rfl | hx
    · exact .inr rfl
    · exact .inl (dec_dig _ x hx)
  · exact .inl (dec_dig _ x hx)
theorem itoa_inj_all {a b : Int} (h : Lib.itoa a = Lib.itoa b) : a = b := by
  have key : ∀ (n m : Nat) , 45 :: Lib.decDigits n ≠ Lib.decDigits m := fun n m e => by
    have := dec_dig m 45 (by rw [← e]; simp)
    unfold isDig at this
    exact absurd this (by decide)
  unfold Lib.itoa at h
  split at h <;> split at h
  · injection h with _ h
    have := dec_inj h
    omega
  · exact absurd h (key _ _)
  · exact absurd h.symm (key _ _)
  · have := dec_inj h
    omega
theorem time_inj_all {a b : Int} (h : timeText a = timeText b) : a = b := by
  have key : ∀ n : Int, Lib.itoa n ≠ [99, 108, 111, 115, 101, 100] := fun n e => by
    have := itoa_chr n 99 (by rw [e]; simp)
    unfold isDig at this
    exact absurd this (by decide)
  unfold timeText at h
  split at h
  · rename_i h1
    split at h
    · rename_i h2; rw [h1, h2]
    · exact absurd h.symm (key b)
  · split at h
    · exact absurd h (key a)
    · exact itoa_inj_all h
theorem words_clean_all (c : ChgT) : ∀ p ∈ wordsC c, (32 : UInt8) ∉ p := by
  have hn : ∀ n : Int, (32 : UInt8) ∉ Lib.itoa n := fun n hm => by
    have := itoa_chr n 32 hm
    unfold isDig at this
    exact absurd this (by decide)
  intro p hp
  unfold wordsC at hp
  simp only [List.mem_cons, List.not_mem_nil, or_false] at hp
  rcases hp with rfl | rfl | rfl
  · exact hn _
  · exact hn _
  · unfold timeText
    split
    · decide
    · exact hn _
theorem line_one {c d : ChgT} (h : lineC c = lineC d) : c = d := by
  rw [line_join, line_join] at h
  have e := List.append_cancel_right h
  have a := cuts_join (wordsC c) (by simp [wordsC]) (words_clean_all c)
  have b := cuts_join (wordsC d) (by simp [wordsC]) (words_clean_all d)
  rw [e, b] at a
  unfold wordsC at a
  simp only [List.cons.injEq, and_true] at a
  obtain ⟨h1, h2, h3⟩ := a
  have e1 := itoa_inj_all h1
  have e2 := itoa_inj_all h2
  have e3 := time_inj_all h3
  cases c
  cases d
  simp_all
end
end Go.Proofs.YtppbmnlneoinhaaDoor
