/-
  samaritanlaw08.behind: the same changes to the table and to the reference.
-/
import Derived.Test.YtppbmnlneoinhaaDoorPut
import Derived.Test.YtppbmnlneoinhaaDoorAppB
namespace Go.Proofs.YtppbmnlneoinhaaDoor
open Go.RowKit Go.Maps

/-- the changes l, one after the other. -/
def putAll (m : Nat) (L l : List ChgT) : List ChgT := l.foldl (putL m) L
theorem putL_len (m : Nat) (L : List ChgT) (c : ChgT) : (putL m L c).length ≤ L.length + 1 := by
  unfold putL
  split
  · simp
  · omega
theorem putAll_len (m : Nat) (l : List ChgT) : ∀ L, (putAll m L l).length ≤ L.length + l.length := by
  induction l with
  | nil => intro L; simp [putAll]
  | cons c l ih =>
    intro L
    have h1 := ih (putL m L c)
    have h2 := putL_len m L c
    show (putAll m (putL m L c) l).length ≤ _
    simp only [List.length_cons]
    omega
theorem putAll_take {m : Nat} {L l : List ChgT} {k : Nat} {c : ChgT} (h : l[k]? = some c) : putAll m L (l.take (k + 1)) = putL m (putAll m L (l.take k)) c := by
  have hk := (List.getElem?_eq_some_iff.1 h).1
  have e : l.take (k + 1) = l.take k ++ [c] := by rw [List.take_succ_eq_append_getElem hk, (List.getElem?_eq_some_iff.1 h).2]
  rw [e]
  unfold putAll
  rw [List.foldl_append]
  rfl

/-- the reference's list lies apart from the table. -/
def ApartL (LA : Option Addr) (L : List ChgT) (S : Nat → Prop) : Prop := L ≠ [] → ∀ b o, LA = some ⟨b, o, none⟩ → ¬ S b
theorem Only.chgs {S : Nat → Prop} {w w' : World} (h : Only S w w') {B : Nat} {LA : Option Addr} {L : List ChgT} (hl : ChgsAt w B LA L) (hB : B ≤ w.heap.size) (hA : ApartL LA L S) : ChgsAt w' B LA L := by
  by_cases q : L = []
  · subst q
    exact RecsAt.empty
  · exact h.ofRecs hl hB (hA q)
theorem chgs_lt {w : World} {B : Nat} {LA : Option Addr} {L : List ChgT} (hl : ChgsAt w B LA L) (hL : L ≠ []) {b o : Nat} (e : LA = some ⟨b, o, none⟩) : b < B := by
  cases L with
  | nil => exact absurd rfl hL
  | cons c L =>
    obtain ⟨b', o', e', hb, _⟩ := hl 0 _ rfl
    rw [e] at e'
    injection e' with e'
    injection e' with e'
    omega

section
variable {w : World} {B gp n : Nat} {E : List EdgeT} {p cb : Nat}
/-- both tables hold the changes L; the reference's first times lie below B. -/
structure BothAt (w : World) (B gp n : Nat) (E : List EdgeT) (p cb : Nat) (F : Option Nat → Value) (L : List ChgT) (FA LA : Option Addr) (lc : Nat) : Prop where
  tab : TabAt w B gp n E p cb F L
  first : Sl w B FA ((E.map EdgeT.tm).map (Value.int .i64))
  list : ChgsAt w w.heap.size LA L
  nil : LA = none → lc = 0
  apart : ApartL LA L (tabB p cb E.length F)
theorem BothAt.roads {F : Option Nat → Value} {L : List ChgT} {FA LA : Option Addr} {lc : Nat} (h : BothAt w B gp n E p cb F L FA LA lc) : RoadsAt w E L FA LA lc :=
  ⟨h.first.more (by have := h.tab.low; have := h.tab.cbp; have := h.tab.size; omega), h.list, h.nil⟩
theorem BothAt.below {F : Option Nat → Value} {L : List ChgT} {FA LA : Option Addr} {lc : Nat} {w' : World} (h : BothAt w B gp n E p cb F L FA LA lc) (hb : Below w.heap.size w w') : BothAt w' B gp n E p cb F L FA LA lc :=
  ⟨h.tab.below hb, h.first.below (hb.mono (by have := h.tab.low; have := h.tab.cbp; have := h.tab.size; omega)), (h.list.below hb).more hb.size, h.nil, h.apart⟩

/-- one change to both: Put in the world w, then Append in a world w3 that only has more blocks. -/
theorem both_step {F : Option Nat → Value} {L : List ChgT} {FA LA LA' : Option Addr} {lc lc' : Nat} {w3 w4 : World} {F' : Option Nat → Value} {c : ChgT} (h : BothAt w B gp n E p cb F L FA LA lc)
    (hr : RoadsAt w3 E (putL E.length L c) FA LA' lc') (hd : (LA' = LA ∧ errC E.length L c ≠ 0) ∨ ∀ b o, LA' = some ⟨b, o, none⟩ → w.heap.size ≤ b) (hb3 : Below w.heap.size w w3)
    (t4 : TabAt w4 B gp n E p cb F' (putL E.length L c)) (h4 : Only (tabB p cb E.length F) w3 w4) (hF : ∀ b, tabB p cb E.length F' b → tabB p cb E.length F b ∨ w3.heap.size ≤ b) :
    BothAt w4 B gp n E p cb F' (putL E.length L c) FA LA' lc' := by
  have hlow := h.tab.low
  have hcp := h.tab.cbp
  have hz := h.tab.size
  have hz3 := hb3.size
  have hap : ApartL LA' (putL E.length L c) (tabB p cb E.length F) := by
    intro hne b o e q
    rcases hd with ⟨rfl, he⟩ | hd
    · rw [putL_bad he] at hne
      exact h.apart hne b o e q
    · have := hd b o e
      have := (h.tab.lt q).2
      omega
  refine ⟨t4, ?_, ?_, hr.nil, ?_⟩
  · have h3 := h.first.below (hb3.mono (by omega))
    have hbB : Below B w3 w4 := h4.below (by omega) (fun b hb => (h.tab.lt hb).1)
    exact h3.below hbB
  · exact (h4.chgs hr.list (Nat.le_refl _) hap).more h4.size
  · intro hne b o e q
    rcases hF b q with q | q
    · exact hap hne b o e q
    · have := chgs_lt hr.list hne e
      omega

/-- what behind returns. -/
def RetBehind (w : World) (B gp n : Nat) (E : List EdgeT) (p cb : Nat) (F0 : Option Nat → Value) (L : List ChgT) (FA : Option Addr) (fc : Nat) (e : Ending) (w' : World) : Prop :=
  ∃ F LA lc, e = .returned (.tuple #[.agg #[.slice FA E.length fc, .slice LA L.length lc], .bool true]) ∧ BothAt w' B gp n E p cb F L FA LA lc ∧ Only (tabB p cb E.length F0) w w' ∧ (∀ b, tabB p cb E.length F b → tabB p cb E.length F0 b ∨ w.heap.size ≤ b)

/-- where the loop stands: k changes done; the variable m lies at rb, the result at ob. -/
structure BehAt (w : World) (B gp n : Nat) (E : List EdgeT) (p cb : Nat) (F0 : Option Nat → Value) (L : List ChgT) (FA : Option Addr) (fc rb ob : Nat) (wr : World) : Prop where
  both : ∃ F LA lc, BothAt wr B gp n E p cb F L FA LA lc ∧ wr.cell? ⟨rb, 0 + 1, none⟩ = some (.slice LA L.length lc) ∧ (∀ b, tabB p cb E.length F b → tabB p cb E.length F0 b ∨ ob < b) ∧ ApartL LA L (fun b => b = rb ∨ b = ob)
  c0 : wr.cell? ⟨rb, 0, none⟩ = some (.slice FA E.length fc)
  f0 : wr.frozen? ⟨rb, 0, none⟩ = false
  f1 : wr.frozen? ⟨rb, 0 + 1, none⟩ = false
  o0 : ∃ u, wr.cell? ⟨ob, 0, none⟩ = some u
  o1 : ∃ u, wr.cell? ⟨ob, 0 + 1, none⟩ = some u
  g0 : wr.frozen? ⟨ob, 0, none⟩ = false
  g1 : wr.frozen? ⟨ob, 0 + 1, none⟩ = false
  lt : ob < wr.heap.size
  only : Only (tabB p cb E.length F0) w wr
theorem BothAt.only {F : Option Nat → Value} {L : List ChgT} {FA LA : Option Addr} {lc : Nat} {w' : World} (h : BothAt w B gp n E p cb F L FA LA lc) {S : Nat → Prop} (hg : Only S w w') (hB : ∀ b, S b → B ≤ b) (hS : ∀ b, tabB p cb E.length F b → ¬ S b) (hA : ApartL LA L S) : BothAt w' B gp n E p cb F L FA LA lc := by
  have hBw : B ≤ w.heap.size := by have := h.tab.low; have := h.tab.cbp; have := h.tab.size; omega
  exact ⟨h.tab.only hg hB hS, h.first.below (hg.below hBw hB), (hg.chgs h.list (Nat.le_refl _) hA).more hg.size, h.nil, h.apart⟩

theorem beh_start {F : Option Nat → Value} {L : List ChgT} {FA LA : Option Addr} {lc : Nat} (h : BothAt w B gp n E p cb F L FA LA lc) (fc : Nat) :
    BehAt w B gp n E p cb F L FA fc w.heap.size (w.heap.size + 1) ((w.alloc (.cells #[.slice FA E.length fc, .slice LA L.length lc] 28)).alloc (.cells #[.slice none 0 0, .slice none 0 0] 28)) := by
  have hb : Below w.heap.size w ((w.alloc (.cells #[.slice FA E.length fc, .slice LA L.length lc] 28)).alloc (.cells #[.slice none 0 0, .slice none 0 0] 28)) := ((Below.refl _ _).alloc (Nat.le_refl _) _).alloc (by simp) _
  refine ⟨⟨F, LA, lc, h.below hb, ?_, fun b hb => .inl hb, fun hne b o e q => ?_⟩, ?_, ?_, ?_, ⟨.slice none 0 0, ?_⟩, ⟨.slice none 0 0, ?_⟩, ?_, ?_, by simp, Only.of_below hb⟩
  · rw [World.cell?_alloc_lt _ _ _ (by simp), World.cell?_alloc_at (hn := rfl)]
    rfl
  · have := chgs_lt h.list hne e
    omega
  · rw [World.cell?_alloc_lt _ _ _ (by simp), World.cell?_alloc_at (hn := rfl)]
    rfl
  · rw [World.frozen?_alloc_past (hn := by simp), World.frozen?_alloc_at (hn := rfl)]
  · rw [World.frozen?_alloc_past (hn := by simp), World.frozen?_alloc_at (hn := rfl)]
  · rw [World.cell?_alloc_at (hn := by simp)]
    rfl
  · rw [World.cell?_alloc_at (hn := by simp)]
    rfl
  · rw [World.frozen?_alloc_at (hn := by simp)]
  · rw [World.frozen?_alloc_at (hn := by simp)]

/-- one round. -/
theorem beh_step {F0 F F' : Option Nat → Value} {L : List ChgT} {FA LA LA' : Option Addr} {fc lc lc' rb ob : Nat} {c : ChgT} {wr w3 w4 : World} (hF0 : ∀ b, tabB p cb E.length F0 b → b < w.heap.size) (hw : w.heap.size ≤ rb) (hro : rb < ob) (H : BehAt w B gp n E p cb F0 L FA fc rb ob wr)
    (h : BothAt wr B gp n E p cb F L FA LA lc) (hF : ∀ b, tabB p cb E.length F b → tabB p cb E.length F0 b ∨ ob < b) (hap : ApartL LA L (fun b => b = rb ∨ b = ob))
    (hr : RoadsAt w3 E (putL E.length L c) FA LA' lc') (hd : (LA' = LA ∧ errC E.length L c ≠ 0) ∨ ∀ b o, LA' = some ⟨b, o, none⟩ → wr.heap.size ≤ b) (hb3 : Below wr.heap.size wr w3)
    (t4 : TabAt w4 B gp n E p cb F' (putL E.length L c)) (h4 : Only (tabB p cb E.length F) w3 w4) (hF' : ∀ b, tabB p cb E.length F' b → tabB p cb E.length F b ∨ w3.heap.size ≤ b) :
    BehAt w B gp n E p cb F0 (putL E.length L c) FA fc rb ob ((w4.setCell ⟨rb, 0, none⟩ (.slice FA E.length fc)).setCell ⟨rb, 0 + 1, none⟩ (.slice LA' (putL E.length L c).length lc')) := by
  have hz3 := hb3.size
  have hz4 := h4.size
  have hlt := H.lt
  have hB0 : B ≤ rb := by have := h.tab.low; have := h.tab.cbp; have := hF0 p (.inl rfl); omega
  have hb4 := both_step h hr hd hb3 t4 h4 hF'
  have hnF : ∀ b, b = rb ∨ b = ob → ¬ tabB p cb E.length F b := fun b hb q => by
    rcases hF b q with q | q
    · have := hF0 b q
      omega
    · omega
  have hnF' : ∀ b, b = rb ∨ b = ob → ¬ tabB p cb E.length F' b := fun b hb q => by
    rcases hF' b q with q | q
    · exact hnF b hb q
    · omega
  have hap' : ApartL LA' (putL E.length L c) (fun b => b = rb ∨ b = ob) := by
    intro hne b o e q
    rcases hd with ⟨rfl, he⟩ | hd
    · rw [putL_bad he] at hne
      exact hap hne b o e q
    · have := hd b o e
      omega
  have k4 : ∀ b j, b = rb ∨ b = ob → w4.cell? ⟨b, j, none⟩ = wr.cell? ⟨b, j, none⟩ := fun b j hb => (h4.cell (a := ⟨b, j, none⟩) (by show b < _; omega) (hnF b hb)).trans (hb3.cell (p := ⟨b, j, none⟩) (by show b < _; omega))
  have kf : ∀ b j, b = rb ∨ b = ob → w4.frozen? ⟨b, j, none⟩ = wr.frozen? ⟨b, j, none⟩ := fun b j hb => (h4.frozen (a := ⟨b, j, none⟩) (by show b < _; omega) (hnF b hb)).trans (hb3.frozen (p := ⟨b, j, none⟩) (by show b < _; omega))
  have hS : Only (fun b => b = rb) w4 ((w4.setCell ⟨rb, 0, none⟩ (.slice FA E.length fc)).setCell ⟨rb, 0 + 1, none⟩ (.slice LA' (putL E.length L c).length lc')) := (Only.setCell (S := fun b => b = rb) Only.refl (a := ⟨rb, 0, none⟩) (fun _ => rfl) _).setCell (a := ⟨rb, 0 + 1, none⟩) (fun _ => rfl) _
  have ko : ∀ j, ((w4.setCell ⟨rb, 0, none⟩ (.slice FA E.length fc)).setCell ⟨rb, 0 + 1, none⟩ (.slice LA' (putL E.length L c).length lc')).cell? ⟨ob, j, none⟩ = wr.cell? ⟨ob, j, none⟩ := fun j => (hS.cell (a := ⟨ob, j, none⟩) (by show ob < _; omega) (by show ¬ ob = rb; omega)).trans (k4 ob j (.inr rfl))
  obtain ⟨_, LA0, lc0, _, r1, _⟩ := H.both
  have s1 : (w4.setCell ⟨rb, 0, none⟩ (.slice FA E.length fc)).cell? ⟨rb, 0, none⟩ = some (.slice FA E.length fc) := World.cell?_setCell_same' _ _ _ (by rw [k4 rb 0 (.inl rfl), H.c0]; rfl)
  have s2 : (w4.setCell ⟨rb, 0, none⟩ (.slice FA E.length fc)).cell? ⟨rb, 0 + 1, none⟩ = some (.slice LA0 L.length lc0) := (World.cell?_setCell_other w4 _ ⟨rb, 0 + 1, none⟩ _ (by simp)).trans ((k4 rb (0 + 1) (.inl rfl)).trans r1)
  refine ⟨⟨F', LA', lc', hb4.only hS (fun b q => by rw [q]; exact hB0) (fun b hb q => hnF' b (.inl q) hb) (fun hne b o e q => hap' hne b o e (.inl q)), ?_, fun b hb => ?_, hap'⟩, ?_, ?_, ?_, ?_, ?_, ?_, ?_, ?_, ?_⟩
  · exact World.cell?_setCell_same' _ _ _ (by rw [s2]; rfl)
  · rcases hF' b hb with q | q
    · exact hF b q
    · right
      omega
  · exact (World.cell?_setCell_other _ _ ⟨rb, 0, none⟩ _ (by simp)).trans s1
  · rw [World.frozen?_setCell, World.frozen?_setCell, kf rb _ (.inl rfl)]
    exact H.f0
  · rw [World.frozen?_setCell, World.frozen?_setCell, kf rb _ (.inl rfl)]
    exact H.f1
  · rw [ko]
    exact H.o0
  · rw [ko]
    exact H.o1
  · rw [World.frozen?_setCell, World.frozen?_setCell, kf ob _ (.inr rfl)]
    exact H.g0
  · rw [World.frozen?_setCell, World.frozen?_setCell, kf ob _ (.inr rfl)]
    exact H.g1
  · have := hS.size
    omega
  · have h1 : Only (tabB p cb E.length F0) w w3 := H.only.trans (Only.of_below (S := tabB p cb E.length F0) hb3) (fun _ _ q => q)
    have h2 : Only (tabB p cb E.length F0) w w4 := h1.trans h4 (fun j hj q => by
      rcases hF j q with q | q
      · exact q
      · omega)
    exact h2.trans hS (fun j hj q => by have q : j = rb := q; omega)

set_option maxRecDepth 100000 in
set_option maxHeartbeats 2000000 in
theorem behind_any {F : Option Nat → Value} {L : List ChgT} {FA LA : Option Addr} {lc : Nat} (h : BothAt w B gp n E p cb F L FA LA lc) (fc : Nat) (lA : Option Addr) (lcap : Nat) (l : List ChgT) (hl : ChgsAt w B lA l) (hlen : L.length + l.length ≤ 100000) :
    Calls Tryd.prog 8 #[.pointer (some ⟨p, 0, none⟩), .agg #[.slice FA E.length fc, .slice LA L.length lc], .slice lA l.length lcap] w (RetBehind w B gp n E p cb F (putAll E.length L l) FA fc) := by
  have hst := beh_start h fc
  have hF0 : ∀ b, tabB p cb E.length F b → b < w.heap.size := fun b hb => (h.tab.lt hb).2
  have hF1 : ∀ b, tabB p cb E.length F b → B ≤ b := fun b hb => (h.tab.lt hb).1
  have hBw : B ≤ w.heap.size := by have := h.tab.low; have := h.tab.cbp; have := h.tab.size; omega
  obtain ⟨rb, hrb⟩ : ∃ rb, rb = w.heap.size := ⟨_, rfl⟩
  obtain ⟨ob, hob⟩ : ∃ ob, ob = w.heap.size + 1 := ⟨_, rfl⟩
  obtain ⟨m, hm⟩ : ∃ m, m = l.length := ⟨_, rfl⟩
  obtain ⟨W, hW⟩ : ∃ W, W = (w.alloc (.cells #[.slice FA E.length fc, .slice LA L.length lc] 28)).alloc (.cells #[.slice none 0 0, .slice none 0 0] 28) := ⟨_, rfl⟩
  rw [← hob, ← hrb, ← hW] at hst
  have HST := Lib.hid hst
  have HF0 := Lib.hid hF0
  have HF1 := Lib.hid hF1
  have HL := Lib.hid hl
  have HM := Lib.hid hm
  have HW := Lib.hid hW
  have HRB := Lib.hid hrb
  have HOB := Lib.hid hob
  rw [← hm] at hlen ⊢
  clear hst hF0 hF1 hl hm hW h
  go_enter Tryd.func8, Tryd.ntmps8
  go_wp2_with fail
  rw [← HW.out]
  rw [← hob, ← hrb]
  clear hrb hob
  go_loopw [9, 10, 11, 14] (fun _ _ _ iv wr => ∃ k : Nat, k ≤ m ∧ iv = .int .i64 k ∧ BehAt w B gp n E p cb F (putAll E.length L (l.take k)) FA fc rb ob wr) (fun _ _ _ i _ => m - (intOf i).toNat)
  case atStart => exact ⟨0, Nat.zero_le _, rfl, HST.out⟩
  case round =>
    obtain ⟨k, hk, rfl, hat⟩ := hrel
    obtain ⟨Lk, hLk⟩ : ∃ Lk, Lk = putAll E.length L (l.take k) := ⟨_, rfl⟩
    have HLK := Lib.hid hLk
    rw [← hLk] at hat
    have hLkl : Lk.length ≤ L.length + k := by
      rw [hLk]
      have h1 := putAll_len E.length (l.take k) L
      have h2 := List.length_take_le k l
      omega
    clear hLk
    obtain ⟨F1, LA1, lc1, hboth, r1, hF1, hap⟩ := hat.both
    have HAT := Lib.hid hat
    have HBOTH := Lib.hid hboth
    have HFF := Lib.hid (And.intro hF1 hap)
    have c0 := hat.c0
    have f0 := hat.f0
    have f1 := hat.f1
    have hoz := hat.lt
    have hrz : rb < wr.heap.size := by have := HRB.out; have := HOB.out; omega
    have hrne : ¬ rb = wr.heap.size := by omega
    by_cases hlt : k < m
    · obtain ⟨d, hd⟩ : ∃ d, l[k]? = some d := ⟨l[k]'(by have := HM.out; omega), by simp⟩
      have HD := Lib.hid hd
      have hBB : Below B w wr := hat.only.below hBw (fun b hb => HF1.out b hb)
      obtain ⟨b, o, rfl, _, q0, q1, q2⟩ := chg_at (HL.out.below hBB) hd
      obtain ⟨W1, hW1⟩ : ∃ W1, W1 = wr.alloc (.cells #[.int .i64 d.tick, .int .i64 d.edge, .int .i64 d.time] 57) := ⟨_, rfl⟩
      have hz1 : W1.heap.size = wr.heap.size + 1 := by rw [hW1]; simp
      have hb1 : Below wr.heap.size wr W1 := by rw [hW1]; exact (Below.refl _ _).alloc (Nat.le_refl _) _
      have e0 : W1.cell? ⟨wr.heap.size, 0, none⟩ = some (.int .i64 d.tick) := by rw [hW1, World.cell?_alloc_at (hn := rfl)]; rfl
      have e1 : W1.cell? ⟨wr.heap.size, 0 + 1, none⟩ = some (.int .i64 d.edge) := by rw [hW1, World.cell?_alloc_at (hn := rfl)]; rfl
      have e2 : W1.cell? ⟨wr.heap.size, 0 + 2, none⟩ = some (.int .i64 d.time) := by rw [hW1, World.cell?_alloc_at (hn := rfl)]; rfl
      have HE := Lib.hid (And.intro e0 (And.intro e1 e2))
      have HW1 := Lib.hid hW1
      have HB1 := Lib.hid hb1
      have HZ1 := Lib.hid hz1
      clear hat hboth hF1 hap hd hBB hW1 hz1 hb1 e0 e1 e2
      go_wp2_with fail
      rw [← HW1.out]
      refine (put_any W1 (HBOTH.out.below HB1.out).roads fc d (by omega)).mono ?_
      rintro e w2 ⟨LA2, lc2, rfl, hr2, hd2, hb2⟩
      have HR2 := Lib.hid hr2
      have HD2 := Lib.hid hd2
      have HB2 := Lib.hid hb2
      have hzw : wr.heap.size < w2.heap.size := by have := hb2.size; have := HZ1.out; omega
      have hzw' : ¬ wr.heap.size = w2.heap.size := by omega
      have e0 : w2.cell? ⟨wr.heap.size, 0, none⟩ = some (.int .i64 d.tick) := (hb2.cell (p := ⟨wr.heap.size, 0, none⟩) (by show wr.heap.size < _; have := HZ1.out; omega)).trans HE.out.1
      have e1 : w2.cell? ⟨wr.heap.size, 0 + 1, none⟩ = some (.int .i64 d.edge) := (hb2.cell (p := ⟨wr.heap.size, 0 + 1, none⟩) (by show wr.heap.size < _; have := HZ1.out; omega)).trans HE.out.2.1
      have e2 : w2.cell? ⟨wr.heap.size, 0 + 2, none⟩ = some (.int .i64 d.time) := (hb2.cell (p := ⟨wr.heap.size, 0 + 2, none⟩) (by show wr.heap.size < _; have := HZ1.out; omega)).trans HE.out.2.2
      obtain ⟨W3, hW3⟩ : ∃ W3, W3 = w2.alloc (.cells #[.slice FA E.length fc, .slice LA2 (putL E.length Lk d).length lc2] 28) := ⟨_, rfl⟩
      have hz3 : W3.heap.size = w2.heap.size + 1 := by rw [hW3]; simp
      have hb3 : Below w2.heap.size w2 W3 := by rw [hW3]; exact (Below.refl _ _).alloc (Nat.le_refl _) _
      have x0 : W3.cell? ⟨w2.heap.size, 0, none⟩ = some (.slice FA E.length fc) := by rw [hW3, World.cell?_alloc_at (hn := rfl)]; rfl
      have x1 : W3.cell? ⟨w2.heap.size, 0 + 1, none⟩ = some (.slice LA2 (putL E.length Lk d).length lc2) := by rw [hW3, World.cell?_alloc_at (hn := rfl)]; rfl
      have HX := Lib.hid (And.intro x0 x1)
      have HW3 := Lib.hid hW3
      have HZ3 := Lib.hid hz3
      have HB3 := Lib.hid (HB1.out.trans ((hb2.mono (by have := HZ1.out; omega)).trans (hb3.mono (by omega))))
      have HR3 := Lib.hid (hr2.below hb3)
      clear hr2 hd2 hb2 hW3 hz3 hb3 x0 x1
      go_wp2_with fail
      rw [← HW3.out]
      refine (append_any (HBOTH.out.tab.below HB3.out) d (by omega)).mono ?_
      rintro e w4 ⟨rfl, F4, t4, h4, hF4, _⟩
      have hnt : ¬ tabB p cb E.length F1 w2.heap.size := fun q => by have := (HBOTH.out.tab.lt q).2; omega
      have hnr : ¬ tabB p cb E.length F1 rb := fun q => by
        rcases HFF.out.1 rb q with q | q
        · have := HF0.out rb q; have := HRB.out; omega
        · have := HRB.out; have := HOB.out; omega
      have x0 : w4.cell? ⟨w2.heap.size, 0, none⟩ = some (.slice FA E.length fc) := (h4.cell (a := ⟨w2.heap.size, 0, none⟩) (by show w2.heap.size < _; have := HZ3.out; omega) hnt).trans HX.out.1
      have x1 : w4.cell? ⟨w2.heap.size, 0 + 1, none⟩ = some (.slice LA2 (putL E.length Lk d).length lc2) := (h4.cell (a := ⟨w2.heap.size, 0 + 1, none⟩) (by show w2.heap.size < _; have := HZ3.out; omega) hnt).trans HX.out.2
      have y0 : w4.cell? ⟨rb, 0, none⟩ = some (.slice FA E.length fc) := (h4.cell (a := ⟨rb, 0, none⟩) (by show rb < _; have := HZ3.out; omega) hnr).trans ((HB3.out.cell (p := ⟨rb, 0, none⟩) hrz).trans c0)
      have y1 : w4.cell? ⟨rb, 0 + 1, none⟩ = some (.slice LA1 Lk.length lc1) := (h4.cell (a := ⟨rb, 0 + 1, none⟩) (by show rb < _; have := HZ3.out; omega) hnr).trans ((HB3.out.cell (p := ⟨rb, 0 + 1, none⟩) hrz).trans r1)
      have z0 : w4.frozen? ⟨rb, 0, none⟩ = false := (h4.frozen (a := ⟨rb, 0, none⟩) (by show rb < _; have := HZ3.out; omega) hnr).trans ((HB3.out.frozen (p := ⟨rb, 0, none⟩) hrz).trans f0)
      have z1 : w4.frozen? ⟨rb, 0 + 1, none⟩ = false := (h4.frozen (a := ⟨rb, 0 + 1, none⟩) (by show rb < _; have := HZ3.out; omega) hnr).trans ((HB3.out.frozen (p := ⟨rb, 0 + 1, none⟩) hrz).trans f1)
      have HFIN := Lib.hid (beh_step HF0.out (by have := HRB.out; omega) (by have := HRB.out; have := HOB.out; omega) HAT.out HBOTH.out HFF.out.1 HFF.out.2 HR3.out (HD2.out.imp id (fun hh b o e => by have := hh b o e; have := HZ1.out; omega)) HB3.out t4 h4 hF4)
      have HPT := Lib.hid (putAll_take (m := E.length) (L := L) HD.out)
      clear t4 h4 hF4 hnt hnr e0 e1 e2 c0 r1 f0 f1
      go_wp2_with fail
      go_roundw
      case rel =>
        refine ⟨k + 1, by omega, by go_num, ?_⟩
        rw [HPT.out, ← HLK.out]
        exact HFIN.out
      case measure => simp [intOf]; omega
    · have hkk : k = m := by omega
      subst hkk
      obtain ⟨u0, o0⟩ := hat.o0
      obtain ⟨u1, o1⟩ := hat.o1
      have g0 := hat.g0
      have g1 := hat.g1
      have hro : ¬ rb = ob := by have := HRB.out; have := HOB.out; omega
      have HALL := Lib.hid (show Lk = putAll E.length L l from by rw [HLK.out, HM.out, List.take_length])
      clear hat hboth hF1 hap
      go_wp2_with fail
      refine bodyPost_ret (v := .tuple #[.agg #[.slice FA E.length fc, .slice LA1 Lk.length lc1], .bool true]) (by simp [results, Tryd.results8, go_sem, o0, o1]) rfl ?_
      have hS : Only (fun b => b = ob) wr ((wr.setCell ⟨ob, 0, none⟩ (.slice FA E.length fc)).setCell ⟨ob, 0 + 1, none⟩ (.slice LA1 Lk.length lc1)) := (Only.setCell (S := fun b => b = ob) Only.refl (a := ⟨ob, 0, none⟩) (fun _ => rfl) _).setCell (a := ⟨ob, 0 + 1, none⟩) (fun _ => rfl) _
      refine ⟨F1, LA1, lc1, by rw [HALL.out], ?_, ?_, ?_⟩
      · rw [← HALL.out]
        refine HBOTH.out.only hS (fun b q => by have q : b = ob := q; have := HOB.out; omega) (fun b hb q => ?_) (fun hne b o e q => HFF.out.2 hne b o e (.inr q))
        have q : b = ob := q
        rcases HFF.out.1 b hb with r | r
        · have := HF0.out b r; have := HOB.out; omega
        · omega
      · exact HAT.out.only.trans hS (fun j hj q => by have q : j = ob := q; have := HOB.out; omega)
      · intro b hb
        rcases HFF.out.1 b hb with r | r
        · exact .inl r
        · right
          have := HOB.out
          omega
end
end Go.Proofs.YtppbmnlneoinhaaDoor
