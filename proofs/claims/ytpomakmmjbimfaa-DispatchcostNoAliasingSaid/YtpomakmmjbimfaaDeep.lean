/-
  Words for samaritanlaw35.DispatchcostNoAliasing: a deep copy of slots; rows whose contents may change.
-/
import Derived.Test.YtpomakmmjbimfaaSlotsC
namespace Go.Proofs.Ytpomakmmjbimfaa
open Go.RowKit Go.Maps

/-- the copied slots; each has nodes of its own. -/
structure DeepTo (B : Nat) (v : Value) (L : List SlotP) (wr : World) (ss : List SlotT) : Prop where
  own : OwnSlot wr B 46 v ss
  rows : ∀ s ∈ ss, OwnI wr B 3 (.slice s.nA s.nodes.length s.nc) s.nodes
  strip : ss.map strip = L
theorem deep_apart {w : World} {base base' : Nat} {v u : Value} {ss : List SlotT} {zs : List Int} (h : OwnSlot w base 46 v ss) (k : OwnI w base' 3 u zs) : u.ownBlock = none ∨ u.ownBlock ≠ v.ownBlock := by
  cases hu : u.ownBlock with
  | none => exact .inl rfl
  | some g =>
    refine .inr fun e => ?_
    obtain ⟨_, h2⟩ := h
    rcases h2 with ⟨rfl, _⟩ | ⟨g', cap, cur, rfl, _, hh, _⟩
    · cases e
    · simp only [Value.ownBlock, Option.some.injEq] at e
      subst e
      exact own_type k hu ⟨_, hh⟩ (by decide)
theorem DeepTo.start (B : Nat) (w : World) : DeepTo B (.slice none 0 0) [] w [] := ⟨OwnR.nil _ _ _, fun s hs => by simp at hs, rfl⟩
theorem DeepTo.kept_new {B : Nat} {v : Value} {L : List SlotP} {w w' : World} {ss : List SlotT} (h : DeepTo B v L w ss) (hb : Below w.heap.size w w') : DeepTo B v L w' ss :=
  ⟨h.own.kept_new hb, fun s hs => OwnV.kept_new (h.rows s hs) hb, h.strip⟩
theorem DeepTo.append {B : Nat} {v v' : Value} {L : List SlotP} {w0 w' : World} {ss : List SlotT} (h : DeepTo B v L w0 ss) (s : SlotT) (hs : OwnI w0 B 3 (.slice s.nA s.nodes.length s.nc) s.nodes)
    (hown : OwnSlot w' B 46 v' (ss ++ [s])) (hg : w0.grownBy w' v.ownBlock) : DeepTo B v' (L ++ [⟨s.inc, s.urg, s.since, s.kind, s.nodes⟩]) w' (ss ++ [s]) := by
  refine ⟨hown, fun q hq => ?_, by rw [List.map_append, h.strip]; rfl⟩
  have k : OwnI w0 B 3 (.slice q.nA q.nodes.length q.nc) q.nodes := by
    rcases List.mem_append.1 hq with hq | hq
    · exact h.rows q hq
    · simp at hq
      subst hq
      exact hs
  exact World.ownsRow.kept k hg (deep_apart h.own k)

theorem DeepTo.setBox {B : Nat} {v : Value} {L : List SlotP} {wr w6 : World} {ss : List SlotT} (h : DeepTo B v L wr ss) (hb : Below wr.heap.size wr w6) (j : Nat) (u : Value) : DeepTo B v L (w6.setCell ⟨wr.heap.size, j, none⟩ u) ss := by
  refine ⟨(h.own.kept_new hb).setCell_other (a := ⟨wr.heap.size, j, none⟩) (fun e => ?_) _, fun s hs => OwnV.setCell_other (OwnV.kept_new (h.rows s hs) hb) (a := ⟨wr.heap.size, j, none⟩) (fun e => ?_) _, h.strip⟩
  · have := h.own.lt_size _ e
    simp at this
  · have := OwnV.lt_size (h.rows s hs) _ e
    simp at this

/-- the slots as records, each with a row of its own that holds whatever. -/
structure Loose (B : Nat) (v : Value) (ss : List SlotT) (wr : World) : Prop where
  own : OwnSlot wr B 48 v ss
  rows : ∀ s ∈ ss, ∃ zs : List Int, zs.length = s.nodes.length ∧ OwnI wr B 3 (.slice s.nA s.nodes.length s.nc) zs
theorem Loose.kept_new {B : Nat} {v : Value} {w w' : World} {ss : List SlotT} (h : Loose B v ss w) (hb : Below w.heap.size w w') : Loose B v ss w' :=
  ⟨h.own.kept_new hb, fun s hs => by
    obtain ⟨zs, h1, h2⟩ := h.rows s hs
    exact ⟨zs, h1, OwnV.kept_new h2 hb⟩⟩
theorem Loose.put {B : Nat} {v : Value} {w : World} {ss : List SlotT} (h : Loose B v ss w) {s : SlotT} (hs : s ∈ ss) {j : Nat} (hj : j < s.nodes.length) : ∃ g, s.nA = some ⟨g, 0, none⟩ ∧ g < w.heap.size ∧ B ≤ g ∧ (∃ z, w.cell? ⟨g, j, none⟩ = some (.int .i64 z)) ∧ w.frozen? ⟨g, j, none⟩ = false ∧ ∀ z, Loose B v ss (w.setCell ⟨g, j, none⟩ (.int .i64 z)) := by
  obtain ⟨zs, h1, h2⟩ := h.rows s hs
  obtain ⟨y, hy⟩ : ∃ y, zs[j]? = some y := ⟨zs[j]'(by omega), by simp⟩
  obtain ⟨g, c', hv, hg1, hg2, hc, hf⟩ := OwnV.form h2 hy
  injection hv with e1 e2 e3
  refine ⟨g, e1, hg2, hg1, ⟨y, hc⟩, hf, fun z => ⟨?_, fun t ht => ?_⟩⟩
  · refine h.own.setCell_other (a := ⟨g, j, none⟩) (fun e => ?_) _
    rcases rows_apart h.own h2 with q | q
    · rw [e1] at q
      cases q
    · rw [e1] at q
      exact q e.symm
  · obtain ⟨ys, k1, k2⟩ := h.rows t ht
    by_cases he : (Value.slice t.nA t.nodes.length t.nc).ownBlock = some g
    · have hA : t.nA = some ⟨g, 0, none⟩ := by
        rcases k2.2 with ⟨e, _⟩ | ⟨g', cap, cur, e, _⟩
        · injection e with e
          rw [e] at he
          cases he
        · injection e with e _ _
          rw [e] at he
          simp only [Value.ownBlock, Option.some.injEq] at he
          rw [e, he]
      rw [hA] at k2 ⊢
      exact ⟨ys.set j z, by rw [List.length_set]; exact k1, k2.stored j z⟩
    · exact ⟨ys, k1, OwnV.setCell_other k2 (a := ⟨g, j, none⟩) he _⟩
end Go.Proofs.Ytpomakmmjbimfaa
