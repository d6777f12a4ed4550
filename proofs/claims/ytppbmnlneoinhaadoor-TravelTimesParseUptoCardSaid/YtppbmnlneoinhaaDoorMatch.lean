/-
  Both tables beside a variable that holds the reference's.
-/
import Derived.Test.YtppbmnlneoinhaaDoorBehind
import Derived.Test.YtppbmnlneoinhaaDoorMade
namespace Go.Proofs.YtppbmnlneoinhaaDoor
open Go.RowKit Go.Maps

section
variable {w : World} {B gp n : Nat} {E : List EdgeT} {p cb : Nat}
theorem both_step' {F : Option Nat → Value} {L : List ChgT} {FA LA LA' : Option Addr} {lc lc' : Nat} {w3 w4 : World} {F' : Option Nat → Value} {c : ChgT} {S0 : Nat → Prop} (h : BothAt w B gp n E p cb F L FA LA lc)
    (hr : RoadsAt w3 E (putL E.length L c) FA LA' lc') (hd : (LA' = LA ∧ errC E.length L c ≠ 0) ∨ ∀ b o, LA' = some ⟨b, o, none⟩ → w.heap.size ≤ b) (h3 : Only S0 w w3) (hS0 : ∀ b, S0 b → B ≤ b)
    (t4 : TabAt w4 B gp n E p cb F' (putL E.length L c)) (h4 : Only (tabB p cb E.length F) w3 w4) (hF : ∀ b, tabB p cb E.length F' b → tabB p cb E.length F b ∨ w3.heap.size ≤ b) :
    BothAt w4 B gp n E p cb F' (putL E.length L c) FA LA' lc' := by
  have hlow := h.tab.low
  have hcp := h.tab.cbp
  have hz := h.tab.size
  have hz3 := h3.size
  have hap : ApartL LA' (putL E.length L c) (tabB p cb E.length F) := by
    intro hne b o e q
    rcases hd with ⟨rfl, he⟩ | hd
    · rw [putL_bad he] at hne
      exact h.apart hne b o e q
    · have := hd b o e
      have := (h.tab.lt q).2
      omega
  refine ⟨t4, ?_, ?_, hr.nil, ?_⟩
  · have h3 := h.first.below (h3.below (by omega) hS0)
    have hbB : Below B w3 w4 := h4.below (by omega) (fun b hb => (h.tab.lt hb).1)
    exact h3.below hbB
  · exact (h4.chgs hr.list (Nat.le_refl _) hap).more h4.size
  · intro hne b o e q
    rcases hF b q with q | q
    · exact hap hne b o e q
    · have := chgs_lt hr.list hne e
      omega

/-- both tables hold L; the variable at rb holds the reference's. -/
structure MBoth (w : World) (B gp n : Nat) (E : List EdgeT) (p cb : Nat) (L : List ChgT) (FA : Option Addr) (fc rb : Nat) (wr : World) : Prop where
  both : ∃ F LA lc, BothAt wr B gp n E p cb F L FA LA lc ∧ wr.cell? ⟨rb, 0 + 1, none⟩ = some (.slice LA L.length lc) ∧ (∀ b, tabB p cb E.length F b → b ≠ rb) ∧ ApartL LA L (fun b => b = rb)
  c0 : wr.cell? ⟨rb, 0, none⟩ = some (.slice FA E.length fc)
  f0 : wr.frozen? ⟨rb, 0, none⟩ = false
  f1 : wr.frozen? ⟨rb, 0 + 1, none⟩ = false
  lt : rb < wr.heap.size
  low : B ≤ rb
  below : Below w.heap.size w wr
theorem mboth_start {W : World} {FA : Option Addr} {fc : Nat} (hw : Below w.heap.size w W) (hB : w.heap.size ≤ B) (t : TabAt W B gp n E p cb (fun _ => .slice none 0 0) []) (hf : Sl w w.heap.size FA ((E.map EdgeT.tm).map (Value.int .i64))) :
    MBoth w B gp n E p cb [] FA fc W.heap.size (W.alloc (.cells #[.slice FA E.length fc, .slice none 0 0] 28)) := by
  have hb : Below W.heap.size W (W.alloc (.cells #[.slice FA E.length fc, .slice none 0 0] 28)) := (Below.refl _ _).alloc (Nat.le_refl _) _
  have hlow := t.low
  have hcp := t.cbp
  have hz := t.size
  have hbw := hw.trans (hb.mono hw.size)
  refine ⟨⟨fun _ => .slice none 0 0, none, 0, ⟨t.below hb, (hf.below hbw).more hB, RecsAt.empty, fun _ => rfl, fun h => absurd rfl h⟩, ?_, fun b hb => ?_, fun h => absurd rfl h⟩, ?_, ?_, ?_, by simp, by omega, hbw⟩
  · rw [World.cell?_alloc_at (hn := rfl)]
    rfl
  · have := (t.lt hb).2
    omega
  · rw [World.cell?_alloc_at (hn := rfl)]
    rfl
  · rw [World.frozen?_alloc_at (hn := rfl)]
  · rw [World.frozen?_alloc_at (hn := rfl)]
theorem both_start {W : World} {FA : Option Addr} (fc : Nat) (hw : Below w.heap.size w W) (hB : w.heap.size ≤ B) (t : TabAt W B gp n E p cb (fun _ => .slice none 0 0) []) (hf : Sl w w.heap.size FA ((E.map EdgeT.tm).map (Value.int .i64))) :
    BothAt (W.alloc (.cells #[.slice FA E.length fc, .slice none 0 0] 28)) B gp n E p cb (fun _ => .slice none 0 0) [] FA none 0 := by
  have hb : Below W.heap.size W (W.alloc (.cells #[.slice FA E.length fc, .slice none 0 0] 28)) := (Below.refl _ _).alloc (Nat.le_refl _) _
  exact ⟨t.below hb, (hf.below (hw.trans (hb.mono hw.size))).more hB, RecsAt.empty, fun _ => rfl, fun h => absurd rfl h⟩
theorem MBoth.next {L : List ChgT} {FA : Option Addr} {fc rb : Nat} {wr w' : World} (h : MBoth w B gp n E p cb L FA fc rb wr) (hb : Below wr.heap.size wr w') : MBoth w B gp n E p cb L FA fc rb w' := by
  obtain ⟨F, LA, lc, h1, h2, h3, h4⟩ := h.both
  have hl := h.lt
  exact ⟨⟨F, LA, lc, h1.below hb, (hb.cell (p := ⟨rb, 0 + 1, none⟩) hl).trans h2, h3, h4⟩, (hb.cell (p := ⟨rb, 0, none⟩) hl).trans h.c0, (hb.frozen (p := ⟨rb, 0, none⟩) hl).trans h.f0, (hb.frozen (p := ⟨rb, 0 + 1, none⟩) hl).trans h.f1,
    Nat.lt_of_lt_of_le hl hb.size, h.low, h.below.trans (hb.mono h.below.size)⟩

/-- a world with the two cells of the variable written. -/
def putRoads (w : World) (rb : Nat) (v0 v1 : Value) : World := (w.setCell ⟨rb, 0, none⟩ v0).setCell ⟨rb, 0 + 1, none⟩ v1
theorem putRoads_only (w : World) (rb : Nat) (v0 v1 : Value) : Only (fun b => b = rb) w (putRoads w rb v0 v1) := (Only.setCell (S := fun b => b = rb) Only.refl (a := ⟨rb, 0, none⟩) (fun _ => rfl) _).setCell (a := ⟨rb, 0 + 1, none⟩) (fun _ => rfl) _

/-- what Put leaves, the variable written: Append finds the table as it was. -/
theorem mboth_mid {L : List ChgT} {FA LA LA' : Option Addr} {fc lc lc' rb : Nat} {c : ChgT} {F : Option Nat → Value} {wr w3 w5 : World} (H : MBoth w B gp n E p cb L FA fc rb wr)
    (h : BothAt wr B gp n E p cb F L FA LA lc) (hF : ∀ b, tabB p cb E.length F b → b ≠ rb) (hb3 : Below wr.heap.size wr w3) (hb5 : Below (putRoads w3 rb (.slice FA E.length fc) (.slice LA' (putL E.length L c).length lc')).heap.size (putRoads w3 rb (.slice FA E.length fc) (.slice LA' (putL E.length L c).length lc')) w5) :
    TabAt w5 B gp n E p cb F L :=
  ((h.tab.below hb3).only (putRoads_only w3 rb (.slice FA E.length fc) (.slice LA' (putL E.length L c).length lc')) (fun b q => by have q : b = rb := q; have := H.low; omega) (fun b hb q => hF b hb q)).below hb5

theorem mboth_step {L : List ChgT} {FA LA LA' : Option Addr} {fc lc lc' rb : Nat} {c : ChgT} {F F' : Option Nat → Value} {wr w3 w5 w4 : World} (hwB : w.heap.size ≤ B) (H : MBoth w B gp n E p cb L FA fc rb wr)
    (h : BothAt wr B gp n E p cb F L FA LA lc) (r1 : wr.cell? ⟨rb, 0 + 1, none⟩ = some (.slice LA L.length lc)) (hF : ∀ b, tabB p cb E.length F b → b ≠ rb) (hap : ApartL LA L (fun b => b = rb))
    (hr : RoadsAt w3 E (putL E.length L c) FA LA' lc') (hd : (LA' = LA ∧ errC E.length L c ≠ 0) ∨ ∀ b o, LA' = some ⟨b, o, none⟩ → wr.heap.size ≤ b) (hb3 : Below wr.heap.size wr w3) (hb5 : Below (putRoads w3 rb (.slice FA E.length fc) (.slice LA' (putL E.length L c).length lc')).heap.size (putRoads w3 rb (.slice FA E.length fc) (.slice LA' (putL E.length L c).length lc')) w5)
    (t4 : TabAt w4 B gp n E p cb F' (putL E.length L c)) (h4 : Only (tabB p cb E.length F) w5 w4)
    (hF' : ∀ b, tabB p cb E.length F' b → tabB p cb E.length F b ∨ w5.heap.size ≤ b) :
    MBoth w B gp n E p cb (putL E.length L c) FA fc rb w4 := by
  have hS0 := putRoads_only w3 rb (.slice FA E.length fc) (.slice LA' (putL E.length L c).length lc')
  have hz3 := hb3.size
  have hzS0 := hS0.size
  have hz5 := hb5.size
  have hS : Only (fun b => b = rb) w3 w5 := hS0.trans (Only.of_below (S := fun b => b = rb) hb5) (fun _ _ q => q)
  have hz4 := h4.size
  have hlt := H.lt
  have hlow := H.low
  have hwz := H.below.size
  have hap' : ApartL LA' (putL E.length L c) (fun b => b = rb) := by
    intro hne b o e q
    rcases hd with ⟨rfl, he⟩ | hd
    · rw [putL_bad he] at hne
      exact hap hne b o e q
    · have := hd b o e
      have q : b = rb := q
      omega
  have hO : Only (fun b => b = rb) wr w5 := (Only.of_below (S := fun b => b = rb) hb3).trans hS (fun _ _ q => q)
  have hrS : RoadsAt w5 E (putL E.length L c) FA LA' lc' := by
    refine ⟨?_, (hS.chgs hr.list (Nat.le_refl _) hap').more hS.size, hr.nil⟩
    have hBw : B ≤ wr.heap.size := by have := h.tab.low; have := h.tab.cbp; have := h.tab.size; omega
    exact (h.first.below (hO.below hBw (fun b q => by have q : b = rb := q; omega))).more (by omega)
  have hb4 := both_step' h hrS hd hO (fun b q => by have q : b = rb := q; omega) t4 h4 hF'
  have k3 : ∀ j, w3.cell? ⟨rb, j, none⟩ = wr.cell? ⟨rb, j, none⟩ := fun j => hb3.cell (p := ⟨rb, j, none⟩) hlt
  have kf : ∀ j, w4.frozen? ⟨rb, j, none⟩ = wr.frozen? ⟨rb, j, none⟩ := fun j => by
    refine (h4.frozen (a := ⟨rb, j, none⟩) (by show rb < _; omega) (fun q => hF rb q rfl)).trans ((hb5.frozen (p := ⟨rb, j, none⟩) (by show rb < _; omega)).trans ?_)
    unfold putRoads
    rw [World.frozen?_setCell, World.frozen?_setCell]
    exact hb3.frozen (p := ⟨rb, j, none⟩) hlt
  have k4 : ∀ j, w4.cell? ⟨rb, j, none⟩ = (putRoads w3 rb (.slice FA E.length fc) (.slice LA' (putL E.length L c).length lc')).cell? ⟨rb, j, none⟩ := fun j => (h4.cell (a := ⟨rb, j, none⟩) (by show rb < _; omega) (fun q => hF rb q rfl)).trans (hb5.cell (p := ⟨rb, j, none⟩) (by show rb < _; omega))
  have s1 : (w3.setCell ⟨rb, 0, none⟩ (.slice FA E.length fc)).cell? ⟨rb, 0, none⟩ = some (.slice FA E.length fc) := World.cell?_setCell_same' _ _ _ (by rw [k3, H.c0]; rfl)
  have s2 : (w3.setCell ⟨rb, 0, none⟩ (.slice FA E.length fc)).cell? ⟨rb, 0 + 1, none⟩ = some (.slice LA L.length lc) := (World.cell?_setCell_other w3 _ ⟨rb, 0 + 1, none⟩ _ (by simp)).trans ((k3 (0 + 1)).trans r1)
  refine ⟨⟨F', LA', lc', hb4, ?_, fun b hb => ?_, hap'⟩, ?_, ?_, ?_, by omega, hlow, ?_⟩
  · rw [k4]
    exact World.cell?_setCell_same' _ _ _ (by rw [s2]; rfl)
  · rcases hF' b hb with q | q
    · exact hF b q
    · omega
  · rw [k4]
    exact (World.cell?_setCell_other _ _ ⟨rb, 0, none⟩ _ (by simp)).trans s1
  · rw [kf]
    exact H.f0
  · rw [kf]
    exact H.f1
  · have h1 : Below w.heap.size w w5 := H.below.trans (hO.below hwz (fun b q => by have q : b = rb := q; omega))
    exact h1.trans (h4.below (by omega) (fun b hb => by have := (h.tab.lt hb).1; omega))
end
end Go.Proofs.YtppbmnlneoinhaaDoor
