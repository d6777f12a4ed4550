/-
  Plain lemmas: what one change more does to the travel times.
-/
import Derived.Test.YtegifbmcapnkdaaDoorBehind
import Derived.Test.YtegifbmcapnkdaaDoorRefH
namespace Go.Proofs.YtegifbmcapnkdaaDoor
open Go.RowKit Go.Maps

theorem refAt_snoc (x : Int) (L : List ChgT) (c : ChgT) (i t : Int) : refAt x (L ++ [c]) i t = if c.edge = i ∧ c.tick ≤ clampT t then c.time else refAt x L i t := by
  unfold refAt
  rw [List.foldl_append]
  rfl
theorem atE_snoc {E : List EdgeT} {L : List ChgT} {c : ChgT} {i t : Int} (h : ¬ (c.edge = i ∧ c.tick ≤ clampT t)) : atE E (L ++ [c]) i t = atE E L i t := by
  unfold atE
  split
  · rw [refAt_snoc, if_neg h]
  · rfl
theorem atE_same {E : List EdgeT} {L : List ChgT} {c : ChgT} {t : Int} (hok : okC E.length c) (h : c.tick ≤ clampT t) : atE E (L ++ [c]) c.edge t = c.time := by
  unfold atE
  rw [if_pos ⟨hok.1.2.2.1, hok.1.2.2.2⟩, refAt_snoc, if_pos ⟨rfl, h⟩]
theorem allE_snoc {E : List EdgeT} {L : List ChgT} {c : ChgT} {t : Int} (h : clampT t < c.tick) : allE E (L ++ [c]) t = allE E L t := by
  unfold allE
  refine List.map_congr_left fun i _ => ?_
  exact atE_snoc (fun q => by omega)
theorem errC_zero {m : Nat} {L : List ChgT} {c : ChgT} (h : errC m L c = 0) : okC m c := by
  by_cases q : okC m c
  · exact q
  · rw [errC_bad q] at h
    cases h
theorem clamp_of {t : Int} (h0 : 0 ≤ t) (h1 : t ≤ 1099511627776) : clampT t = t := by unfold clampT; omega
theorem clamp_max : clampT 1099511627776 = 1099511627776 := by decide
/-- the tick before. -/
def before (t : Int) : Int := IntKind.i64.wrap (t - 1)
theorem before_of {t : Int} (h0 : 0 < t) (h1 : t ≤ 1099511627776) : before t = t - 1 := by
  unfold before
  exact IntWalk.i64_in _ (by omega)
theorem own_sl {w : World} {base : Nat} {e : TypeId} {g n c : Nat} {zs : List Int} (h : OwnI w base e (.slice (some ⟨g, 0, none⟩) n c) zs) : Sl w w.heap.size (some ⟨g, 0, none⟩) (zs.map (Value.int .i64)) := by
  obtain ⟨A, c', e1, hs⟩ := OwnV.sl h
  injection e1 with e1
  subst e1
  exact hs
theorem numE {w : World} {E : List EdgeT} {L L' : List ChgT} {t t' : Int} {g g' : Nat} (hE : E.length ≤ 16384) (h : Sl w w.heap.size (some ⟨g, 0, none⟩) ((allE E L t).map (Value.int .i64))) (h' : Sl w w.heap.size (some ⟨g', 0, none⟩) ((allE E L' t').map (Value.int .i64))) (e : allE E L t = allE E L' t') :
    Calls Tryd.prog 11 #[.slice (some ⟨g, 0, none⟩) E.length E.length, .slice (some ⟨g', 0, none⟩) E.length E.length] w fun e w' => e = .returned (.bool true) ∧ Below w.heap.size w w' := by
  rw [← e] at h'
  have := numbers_any (some ⟨g, 0, none⟩) (some ⟨g', 0, none⟩) E.length E.length (allE E L t) w h h' (by rw [allE_len]; exact hE)
  rw [allE_len] at this
  exact this
theorem Only.sl_far {S : Nat → Prop} {w w' : World} (h : Only S w w') {g : Nat} {xs : List Value} (hs : Sl w w.heap.size (some ⟨g, 0, none⟩) xs) (hg : ¬ S g) : Sl w' w'.heap.size (some ⟨g, 0, none⟩) xs :=
  (h.ofSl hs (Nat.le_refl _) (fun b o e => by injection e with e; injection e with e; subst e; exact hg)).more h.size
end Go.Proofs.YtegifbmcapnkdaaDoor
