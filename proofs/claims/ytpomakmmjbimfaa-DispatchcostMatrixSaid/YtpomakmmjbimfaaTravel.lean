/-
  dispatchcost.TravelTime.
-/
import Derived.Test.YtpomakmmjbimfaaFar
namespace Go.Proofs.Ytpomakmmjbimfaa
open Go.RowKit Go.Shelf Go.Maps

def RetTravel (w : World) (n : Nat) (fr : Int) (E : List EdgeT) (ts zs : List Int) (e : Ending) (w' : World) : Prop :=
  ∃ D, Fin35 n (fun s => (s : Int) ∈ [fr] ∧ s < n) E (timesL ts E.length) D ∧ e = .returned (.int .i64 (farL D zs)) ∧ Below w.heap.size w w'

set_option maxRecDepth 100000 in
set_option maxHeartbeats 1000000 in
theorem travel_any (p n : Nat) (E : List EdgeT) (A A2 : Option Addr) (c c2 : Nat) (ts zs : List Int) (fr : Int) (w : World) (hg : GraphAt w w.heap.size p n E) (hn : n ≤ 256) (hE : E.length ≤ 16384) (hok : ∀ e ∈ E, 0 ≤ e.to ∧ e.to < n) (hs : Sl w w.heap.size A (ts.map (Value.int .i64))) (hss : Sl w w.heap.size A2 (zs.map (Value.int .i64))) (hsl : zs.length ≤ 16384) :
    Calls Try.prog 12 #[.pointer (some ⟨p, 0, none⟩), .slice A ts.length c, .int .i64 fr, .slice A2 zs.length c2] w (RetTravel w n fr E ts zs) := by
  have hb1 := (Below.refl w.heap.size w).alloc (Nat.le_refl _) (.cells #[.int .i64 fr] 3)
  have hz1 : w.heap.size ≤ (w.alloc (.cells #[.int .i64 fr] 3)).heap.size := hb1.size
  have hfr := from_any p n E A (some ⟨w.heap.size, 0, none⟩) c 1 ts [fr] (w.alloc (.cells #[.int .i64 fr] 3)) ((hg.below hb1).more hz1) hn hE hok ((hs.below hb1).more hz1) (Sl.lit w [.int .i64 fr] 3 rfl) (by simp)
  have HF := Lib.hid hfr
  have HB := Lib.hid hb1
  have HSS := Lib.hid hss
  clear hg hs hss hok hfr hb1 hz1
  go_enter Try.func12, Try.ntmps12
  go_wp2_with fail
  refine HF.out.mono ?_
  rintro e w2 ⟨D, g, rfl, h1, h2, h3⟩
  have hbb := HB.out.trans (h3.mono HB.out.size)
  have hfa := farthest_any (some ⟨g, 0, none⟩) A2 n c2 D zs w2 w2.heap.size (own_sl h1) ((HSS.out.below hbb).more hbb.size) hsl
  rw [h2.len] at hfa
  have HFA := Lib.hid hfa
  clear h1 hfa h3
  go_wp2_with fail
  refine HFA.out.mono ?_
  rintro e w3 ⟨rfl, rfl⟩
  go_wp2_with fail
  go_ret
  exact ⟨D, h2, rfl, hbb⟩
end Go.Proofs.Ytpomakmmjbimfaa
