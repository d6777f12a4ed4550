/-
  Slots as they lie in memory; the units assigned to each incident (dispatchcost.Slots, its first loop).
-/
import Derived.Test.YtpomakmmjbimfaaGroups
namespace Go.Proofs.Ytpomakmmjbimfaa
open Go.RowKit Go.Maps

structure SlotT where
  inc : Int
  urg : Int
  since : Int
  kind : Int
  nA : Option Addr
  nodes : List Int
  nc : Nat
structure SlotP where
  inc : Int
  urg : Int
  since : Int
  kind : Int
  nodes : List Int
def strip (s : SlotT) : SlotP := ⟨s.inc, s.urg, s.since, s.kind, s.nodes⟩
def cellsS (s : SlotT) : List Value := [.int .i64 s.inc, .int .i64 s.urg, .int .i64 s.since, .int .i64 s.kind, .slice s.nA s.nodes.length s.nc]
theorem cellsS_len (s : SlotT) : (cellsS s).length = 5 := rfl
theorem cellsS_one (s : SlotT) : ∀ v ∈ cellsS s, v.oneCell' = true := by
  intro v hv
  simp only [cellsS, List.mem_cons, List.not_mem_nil, or_false] at hv
  rcases hv with rfl | rfl | rfl | rfl | rfl <;> rfl
abbrev SlotsAt := RecsAt cellsS
abbrev OwnSlot := OwnR cellsS 5
theorem slot_info : (Try.prog.info? 48).map (fun i => (i.zero, i.size, i.bytes)) = some (some (.agg #[.int .i64 0, .int .i64 0, .int .i64 0, .int .i64 0, .slice none 0 0]), 5, 56) := by kernel_rfl
theorem rslot_info : (Try.prog.info? 46).map (fun i => (i.zero, i.size, i.bytes)) = some (some (.agg #[.int .i64 0, .int .i64 0, .int .i64 0, .int .i64 0, .slice none 0 0]), 5, 56) := by kernel_rfl
theorem slot_at {w : World} {B : Nat} {A : Option Addr} {ss : List SlotT} (h : SlotsAt w B A ss) {i : Nat} {s : SlotT} (hi : ss[i]? = some s) : ∃ b o, A = some ⟨b, o, none⟩ ∧ b < B ∧ w.cell? ⟨b, o + i * 5, none⟩ = some (.int .i64 s.inc) ∧ w.cell? ⟨b, o + i * 5 + 1, none⟩ = some (.int .i64 s.urg) ∧ w.cell? ⟨b, o + i * 5 + 2, none⟩ = some (.int .i64 s.since) ∧ w.cell? ⟨b, o + i * 5 + 3, none⟩ = some (.int .i64 s.kind) ∧ w.cell? ⟨b, o + i * 5 + 4, none⟩ = some (.slice s.nA s.nodes.length s.nc) := by
  obtain ⟨b, o, e, hb, hc⟩ := RecsAt.at cellsS_len h hi (by omega)
  exact ⟨b, o, e, hb, hc 0 _ rfl, hc 1 _ rfl, hc 2 _ rfl, hc 3 _ rfl, hc 4 _ rfl⟩
/-- the nodes of each slot. -/
def SNodes (w : World) (B : Nat) (ss : List SlotT) : Prop := ∀ s ∈ ss, Sl w B s.nA (s.nodes.map (Value.int .i64))
def RetSlots (w : World) (L : List SlotP) (e : Ending) (w' : World) : Prop :=
  ∃ (A : Option Addr) (c : Nat) (ss : List SlotT), e = .returned (.slice A ss.length c) ∧ SlotsAt w' w'.heap.size A ss ∧ SNodes w' w'.heap.size ss ∧ ss.map strip = L ∧ (∀ s ∈ ss, s.nA = none → s.nc = 0) ∧ Below w.heap.size w w'

/-- the kinds of the units that are assigned to z. -/
def haveK (us : List UnitT) (z : Int) : List Int := (us.filter (fun u => u.inc == z)).map UnitT.kind
theorem haveK_snoc (us : List UnitT) (u : UnitT) (z : Int) : haveK (us ++ [u]) z = if z = u.inc then haveK us u.inc ++ [u.kind] else haveK us z := by
  unfold haveK
  rw [List.filter_append, List.map_append]
  by_cases h : z = u.inc
  · subst h
    simp
  · rw [if_neg h]
    have : (u.inc == z) = false := by simp; exact fun e => h e.symm
    simp [List.filter, this]
theorem haveK_len (us : List UnitT) (z : Int) : (haveK us z).length ≤ us.length := by
  unfold haveK
  rw [List.length_map]
  exact List.length_filter_le _ _
theorem haveK_wf {us : List UnitT} (h : ∀ u ∈ us, UnitWf u) (z : Int) : ∀ y ∈ haveK us z, (Lit.int .i64 y).wf = true := by
  intro y hy
  unfold haveK at hy
  rw [List.mem_map] at hy
  obtain ⟨u, hu, rfl⟩ := hy
  exact (h u (List.mem_filter.1 hu).1).kind
def slotsX (us : List UnitT) (ps : List Plan) (x : IncT) : List SlotP := (unmet (kindsL ps x.code x.urg) (haveK us x.id)).map (fun kd => ⟨x.id, x.urg, x.since, kd, x.nodes⟩)
def slotsL (xs : List IncT) (us : List UnitT) (ps : List Plan) : List SlotP := (sortK (xs.filter openI)).flatMap (slotsX us ps)

section
variable {α : Type} {cs : α → List Value} {s : Nat}
/-- 'append(v, x)', x a struct, within a region that draws its order. -/
theorem step_append_rec {P : Program} {ops : Array Oper} {o : Oper} {a : Act} {K : Act → World → Prop} {Q : Exit → Act → World → Prop} {X : Prop} (w : World) (hgd : o.guard = none) (sl x : Operand) (t : TypeId)
    (ho : o.op = .call { callee := .builtin .append, args := #[sl, x], argTypes := #[t, t] })
    (base : Nat) (e : TypeId) (ht : P.underlying t = some (.slice e)) {z0 : Value} {by0 : Nat} (hinfo : (P.info? e).map (fun i => (i.zero, i.size, i.bytes)) = some (some z0, s, by0)) (hz0 : z0.cells.size = s) (h0 : 0 < s) (hby : by0 ≤ 256)
    (hs : ∀ a, (cs a).length = s) (v : Value) (xs : List α) (w0 : World) (z : α) (hone : ∀ u ∈ cs z, u.oneCell' = true) (vs : Array Value) (hvs : vs = (cs z).toArray) (hw : w = w0.alloc (.cells vs e)) (hv : a.eval sl = v) (hown : OwnR cs s w0 base e v xs)
    (nb : Nat) (hx : a.eval x = .slice (some ⟨nb, 0, none⟩) 1 1) (hnb : nb = w0.heap.size) (hlen : xs.length + 1 ≤ 549755813888) (hbase : base ≤ w0.heap.size)
    (h : ∀ g cap w', OwnR cs s w' base e (.slice (some ⟨g, 0, none⟩) (xs.length + 1) cap) (xs ++ [z]) → w0.grownBy w' v.ownBlock → (v.ownBlock = some g ∨ w0.heap.size ≤ g) → K (a.put o.dst (.slice (some ⟨g, 0, none⟩) (xs.length + 1) cap)) w') :
    if Region.wanted o (yielded ops a.tmps) = true then Oper.wp P o a w K Q else X := by
  obtain ⟨i0, hi, hz1, hz2, hz3⟩ := info_parts hinfo
  subst hw hvs hnb
  have hcell : ∀ j u, (cs z)[j]? = some u → (w0.alloc (.cells (cs z).toArray e)).cell? ((⟨w0.heap.size, 0, none⟩ : Addr).add j) = some u := by
    intro j u hj
    rw [add_none, Nat.zero_add, World.cell?_alloc_at (hn := rfl)]
    simpa using hj
  refine step_append_lies _ hgd sl x t ho base e i0 z0 s by0 ht hi hz1 hz2 hz3 hz0 h0 v xs.length _ hv (World.ownsRow.alloc hown _) ⟨w0.heap.size, 0, none⟩ 1 1 (cs z) hx (by rw [hs, Nat.one_mul]) hcell hone (by decide) (by unfold maxLen; omega) ?_ (by simp; omega) _ rfl ?_
  · have := Nat.mul_le_mul hlen hby
    omega
  intro g cap w' h1 h2 h3 _
  refine h g cap w' ?_ ((World.grownBy_alloc w0 _ _).trans h2) ?_
  · unfold OwnR
    rw [List.length_append, List.length_singleton, List.flatMap_append]
    simpa using h1
  · rcases h3 with h3 | h3
    · exact .inl h3
    · right
      rw [h3]
      simp
end
end Go.Proofs.Ytpomakmmjbimfaa
