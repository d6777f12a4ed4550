/-
  shortestpath.From: the least travel times from the sources.
-/
import Derived.Test.YtpomakmmjbimfaaSearch
namespace Go.Proofs.Ytpomakmmjbimfaa
open Go.RowKit Go.Shelf Go.Maps

theorem own_sl {α : Type} {f : α → Value} {w : World} {base : Nat} {e : TypeId} {A : Option Addr} {n c : Nat} {zs : List α} (h : OwnV f w base e (.slice A n c) zs) : Sl w w.heap.size A (zs.map f) := by
  obtain ⟨A', c', e1, h1⟩ := OwnV.sl h
  cases e1
  exact h1
theorem timesL_len (ts : List Int) (m : Nat) : (timesL ts m).length = m := by simp [timesL]
theorem okW_times (ts : List Int) (m : Nat) : okW (timesL ts m) := fun i x h hne => by
  unfold timesL at h
  rw [List.getElem?_map] at h
  cases hr : (List.range m)[i]? with
  | none => rw [hr] at h; cases h
  | some j =>
    rw [hr] at h
    simp only [Option.map_some, Option.some.injEq] at h
    subst h
    obtain ⟨h1, h2 | h2⟩ := wAt_range ts j
    · exact ⟨h1, h2⟩
    · exact absurd h2 hne

set_option maxRecDepth 100000 in
set_option maxHeartbeats 1000000 in
theorem from_any (p n : Nat) (E : List EdgeT) (A A2 : Option Addr) (c c2 : Nat) (ts ss : List Int) (w : World) (hg : GraphAt w w.heap.size p n E) (hn : n ≤ 256) (hE : E.length ≤ 16384) (hok : ∀ e ∈ E, 0 ≤ e.to ∧ e.to < n) (hs : Sl w w.heap.size A (ts.map (Value.int .i64))) (hss : Sl w w.heap.size A2 (ss.map (Value.int .i64))) (hsl : ss.length ≤ 16384) :
    Calls Try.prog 27 #[.pointer (some ⟨p, 0, none⟩), .slice A ts.length c, .slice A2 ss.length c2] w (RetSearch w n (fun s => (s : Int) ∈ ss ∧ s < n) E (timesL ts E.length)) := by
  have HT := Lib.hid (travelTimes_any p n E A c ts w hg hE hs)
  have HG := Lib.hid hg
  have HSS := Lib.hid hss
  have HOK := Lib.hid hok
  clear hg hs hss hok
  go_enter Try.func27, Try.ntmps27
  go_wp2_with fail
  refine HT.out.mono ?_
  rintro e w1 ⟨g, rfl, hown, hb⟩
  have hb' := hb.size
  have hslw : Sl w1 w1.heap.size (some ⟨g, 0, none⟩) ((timesL ts E.length).map (Value.int .i64)) := own_sl hown
  have hse := search_any p n E (some ⟨g, 0, none⟩) A2 E.length c2 (timesL ts E.length) ss w1 ((HG.out.below hb).more hb') hn hE (timesL_len _ _) HOK.out (okW_times _ _) hslw ((HSS.out.below hb).more hb') hsl
  rw [timesL_len] at hse
  have HSE := Lib.hid hse
  clear hse hslw hown
  go_wp2_with fail
  refine HSE.out.mono ?_
  rintro e w2 ⟨D, g2, rfl, h1, h2, h3⟩
  go_wp2_with fail
  go_ret
  exact ⟨D, g2, rfl, OwnV.base_le h1 hb', h2, hb.trans (h3.mono hb')⟩
end Go.Proofs.Ytpomakmmjbimfaa
