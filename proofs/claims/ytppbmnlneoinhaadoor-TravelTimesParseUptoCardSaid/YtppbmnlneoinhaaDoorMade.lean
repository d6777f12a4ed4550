/-
  samaritanlaw08.made: a ring of five nodes, its table and the reference's.
-/
import Derived.Test.YtppbmnlneoinhaaDoorRefN
namespace Go.Proofs.YtppbmnlneoinhaaDoor
open Go.RowKit Go.Maps

def cellsE1 (e : EdgeT) : List Value := [.int .i64 e.frm, .int .i64 e.to, .int .i64 e.tm]
theorem cellsE1_len (e : EdgeT) : (cellsE1 e).length = 3 := rfl
theorem cellsE1_one (e : EdgeT) : ∀ v ∈ cellsE1 e, v.oneCell' = true := by
  intro v hv
  simp only [cellsE1, List.mem_cons, List.not_mem_nil, or_false] at hv
  rcases hv with rfl | rfl | rfl <;> rfl

/-- the edge number k of the ring. -/
def ringAt (k : Nat) (t : Int) : EdgeT := ⟨(k : Int) % 5, ((k : Int) + 1) % 5, t⟩
/-- a ring of five nodes. -/
def ringE (first : List Int) : List EdgeT := first.zipIdx.map (fun p => ringAt p.2 p.1)
theorem ringE_len (first : List Int) : (ringE first).length = first.length := by simp [ringE]
theorem ringE_tm (first : List Int) : (ringE first).map EdgeT.tm = first := by
  unfold ringE
  rw [List.map_map]
  have : (EdgeT.tm ∘ fun p : Int × Nat => ringAt p.2 p.1) = Prod.fst := rfl
  rw [this, List.zipIdx_map_fst]
theorem ringE_take {first : List Int} {k : Nat} {t : Int} (h : first[k]? = some t) : ringE (first.take (k + 1)) = ringE (first.take k) ++ [ringAt k t] := by
  have hk := (List.getElem?_eq_some_iff.1 h).1
  have e1 : first.take (k + 1) = first.take k ++ [t] := by rw [List.take_succ_eq_append_getElem hk, (List.getElem?_eq_some_iff.1 h).2]
  unfold ringE
  rw [e1, List.zipIdx_append, List.map_append]
  have hl : (first.take k).length = k := by rw [List.length_take]; omega
  rw [hl]
  simp
/-- the travel times are valid. -/
def okF (first : List Int) : Prop := ∀ t ∈ first, 1 ≤ t ∧ t ≤ 1048576
theorem ring_valid {first : List Int} (h : okF first) : ∀ e ∈ ringE first, validE 5 e := by
  intro e he
  unfold ringE at he
  rw [List.mem_map] at he
  obtain ⟨p, hp, rfl⟩ := he
  have h1 := h p.1 (List.fst_mem_of_mem_zipIdx hp)
  unfold validE ringAt
  dsimp only
  omega

/-- a store into a block of slices alone leaves a graph as it was. -/
theorem graph_store {w : World} {B p n : Nat} {E : List EdgeT} (h : GraphAt w B p n E) (hn : 2 < n) {ob i : Nat} {v : Value} (h2 : w.cell? ⟨ob, 2, none⟩ = none) (hno : ∀ j z, w.cell? ⟨ob, j, none⟩ ≠ some (.int .i64 z)) : GraphAt (w.setCell ⟨ob, i, none⟩ v) B p n E := by
  have key : ∀ b j u, w.cell? ⟨b, j, none⟩ = some u → b ≠ ob → (w.setCell ⟨ob, i, none⟩ v).cell? ⟨b, j, none⟩ = some u := fun b j u hu hb => (World.cell?_setCell_other w _ ⟨b, j, none⟩ _ (fun q => by injection q with q; exact hb q.symm)).trans hu
  have ints : ∀ b j z, w.cell? ⟨b, j, none⟩ = some (.int .i64 z) → (w.setCell ⟨ob, i, none⟩ v).cell? ⟨b, j, none⟩ = some (.int .i64 z) := fun b j z hu => key b j _ hu (fun q => hno j z (by rw [← q]; exact hu))
  obtain ⟨A, c, q1, q2, q3, q4⟩ := h.edges
  obtain ⟨o2, k1, k2, k3⟩ := h.out
  obtain ⟨vi, m1⟩ := h.inn
  have hp : p ≠ ob := fun q => by rw [q, h2] at m1; cases m1
  have ho : o2 ≠ ob := fun q => by
    obtain ⟨_, _, r1, _⟩ := k3 2 hn
    rw [q, h2] at r1
    cases r1
  refine ⟨h.lt, ⟨A, c, key p 0 _ q1 hp, ?_, q3, q4⟩, ⟨o2, k1, key p 1 _ k2 hp, fun j hj => ?_⟩, ⟨vi, key p 2 _ m1 hp⟩⟩
  · intro j u hj
    obtain ⟨b, o, e, hb, hc⟩ := q2 j u hj
    have hint : ∃ z, u = .int .i64 z := by
      have := List.mem_of_getElem? hj
      unfold cellsE at this
      rw [List.mem_flatMap] at this
      obtain ⟨x, _, hx⟩ := this
      simp at hx
      rcases hx with rfl | rfl | rfl <;> exact ⟨_, rfl⟩
    obtain ⟨z, rfl⟩ := hint
    exact ⟨b, o, e, hb, ints _ _ _ hc⟩
  · obtain ⟨A', c', r1, r2, r3⟩ := k3 j hj
    refine ⟨A', c', key o2 j _ r1 ho, fun a u ha => ?_, r3⟩
    obtain ⟨b, o, e, hb, hc⟩ := r2 a u ha
    rw [List.getElem?_map] at ha
    obtain ⟨z, _, rfl⟩ := Option.map_eq_some_iff.1 ha
    exact ⟨b, o, e, hb, ints _ _ _ hc⟩
theorem TabAt.onlyG {w w' : World} {B gp n : Nat} {E : List EdgeT} {p cb : Nat} {F : Option Nat → Value} {L : List ChgT} (h : TabAt w B gp n E p cb F L) {S : Nat → Prop} (hg : Only S w w') (hgr : GraphAt w' B gp n E) (hS : ∀ b, tabB p cb E.length F b → ¬ S b) : TabAt w' B gp n E p cb F L := by
  have hp := h.size
  refine ⟨hgr, h.low, h.cbp, ?_, ?_, h.fam.only hg (fun b hb => hS b (fam_tab hb)), h.asc, h.oks⟩
  · exact (hg.cell (a := ⟨p, 0, none⟩) hp (hS p (.inl rfl))).trans h.c0
  · exact (hg.cell (a := ⟨p, 2, none⟩) hp (hS p (.inl rfl))).trans h.c2

/-- what made returns. -/
def RetMade (w : World) (FA : Option Addr) (fc : Nat) (first : List Int) (e : Ending) (w' : World) : Prop :=
  Below w.heap.size w w' ∧
  ((okF first ∧ first.length ≤ 30 ∧ ∃ gp p cb B, e = .returned (.tuple #[.pointer (some ⟨gp, 0, none⟩), .pointer (some ⟨p, 0, none⟩), .agg #[.slice FA first.length fc, .slice none 0 0], .bool true]) ∧ w.heap.size ≤ B ∧ TabAt w' B gp 5 (ringE first) p cb (fun _ => .slice none 0 0) [])
  ∨ (¬ (okF first ∧ first.length ≤ 30) ∧ e = .returned (.tuple #[.pointer none, .pointer none, .agg #[.slice none 0 0, .slice none 0 0], .bool false])))

theorem made_store {w w3 : World} {gp : Nat} {E : List EdgeT} {B p cb : Nat} {F : Option Nat → Value} {L : List ChgT} (T : TabAt w3 B gp 5 E p cb F L) (hob : w.heap.size < B) (hc : ∀ j, w3.cell? ⟨w.heap.size, j, none⟩ = (#[.slice none 0 0, .slice none 0 0] : Array Value)[j]?) (FA : Option Addr) (n c : Nat) :
    TabAt ((w3.setCell ⟨w.heap.size, 0, none⟩ (.slice FA n c)).setCell ⟨w.heap.size, 0 + 1, none⟩ (.slice none 0 0)) B gp 5 E p cb F L := by
  have hz := T.size
  have hlow := T.low
  have hcp := T.cbp
  have g1 : GraphAt (w3.setCell ⟨w.heap.size, 0, none⟩ (.slice FA n c)) B gp 5 E := graph_store T.graph (by omega) (by rw [hc]; rfl) (fun j z => by
    rw [hc]
    match j with
    | 0 => simp
    | 1 => simp
    | j + 2 => simp)
  have hs : (w3.setCell ⟨w.heap.size, 0, none⟩ (.slice FA n c)).cell? ⟨w.heap.size, 0, none⟩ = some (.slice FA n c) := World.cell?_setCell_same' _ _ _ (by rw [hc]; rfl)
  have ho : ∀ j, j ≠ 0 → (w3.setCell ⟨w.heap.size, 0, none⟩ (.slice FA n c)).cell? ⟨w.heap.size, j, none⟩ = (#[.slice none 0 0, .slice none 0 0] : Array Value)[j]? := fun j hj => (World.cell?_setCell_other w3 _ ⟨w.heap.size, j, none⟩ _ (fun q => by injection q with _ q; exact hj q.symm)).trans (hc j)
  have g2 : GraphAt ((w3.setCell ⟨w.heap.size, 0, none⟩ (.slice FA n c)).setCell ⟨w.heap.size, 0 + 1, none⟩ (.slice none 0 0)) B gp 5 E := graph_store g1 (by omega) (by rw [ho 2 (by omega)]; rfl) (fun j z => by
    match j with
    | 0 => rw [hs]; simp
    | 1 => rw [ho 1 (by omega)]; simp
    | j + 2 => rw [ho (j + 2) (by omega)]; simp)
  have hO : Only (fun b => b = w.heap.size) w3 ((w3.setCell ⟨w.heap.size, 0, none⟩ (.slice FA n c)).setCell ⟨w.heap.size, 0 + 1, none⟩ (.slice none 0 0)) := (Only.setCell (S := fun b => b = w.heap.size) Only.refl (a := ⟨w.heap.size, 0, none⟩) (fun _ => rfl) _).setCell (a := ⟨w.heap.size, 0 + 1, none⟩) (fun _ => rfl) _
  exact T.onlyG hO g2 (fun b hb q => by have := (T.lt hb).1; omega)

theorem ring_info : (Tryd.prog.info? 53).map (fun i => (i.zero, i.size, i.bytes)) = some (some (.agg #[.int .i64 0, .int .i64 0, .int .i64 0]), 3, 24) := by kernel_rfl

set_option maxRecDepth 100000 in
set_option maxHeartbeats 1000000 in
theorem made_any (w : World) (FA : Option Addr) (fc : Nat) (first : List Int) (h : Sl w w.heap.size FA (first.map (Value.int .i64))) (hN : first.length ≤ 1048576) :
    Calls Tryd.prog 7 #[.slice FA first.length fc] w (RetMade w FA fc first) := by
  obtain ⟨W, hW⟩ : ∃ W, W = w.alloc (.cells #[.slice none 0 0, .slice none 0 0] 28) := ⟨_, rfl⟩
  have hz : w.heap.size + 1 = W.heap.size := by rw [hW]; simp
  have hBW : Below w.heap.size w W := by rw [hW]; exact (Below.refl w.heap.size w).alloc (Nat.le_refl _) _
  have hob : ∀ j, W.cell? ⟨w.heap.size, j, none⟩ = (#[.slice none 0 0, .slice none 0 0] : Array Value)[j]? := fun j => by rw [hW, World.cell?_alloc_at (hn := rfl)]
  have hfz : ∀ j, W.frozen? ⟨w.heap.size, j, none⟩ = false := fun j => by rw [hW, World.frozen?_alloc_at (hn := rfl)]
  have HW := Lib.hid hW
  have HZ := Lib.hid hz
  have HOB := Lib.hid hob
  have HFZ := Lib.hid hfz
  have HBW := Lib.hid hBW
  have HF := Lib.hid h
  obtain ⟨m, hm⟩ : ∃ m, m = first.length := ⟨_, rfl⟩
  have HM := Lib.hid hm
  rw [← hm] at hN ⊢
  have hzl : w.heap.size < W.heap.size := by omega
  clear h hW hz hob hfz hBW hm
  go_enter Tryd.func7, Tryd.ntmps7
  go_wp2_with fail
  rw [← HW.out]
  go_loopw [6, 7, 8, 13] (fun v _ _ iv wr => ∃ k : Nat, k ≤ m ∧ iv = .int .i64 k ∧ okF (first.take k) ∧ OwnR cellsE1 3 wr W.heap.size 53 v (ringE (first.take k)) ∧ Below W.heap.size W wr) (fun _ _ _ i _ => m - (intOf i).toNat)
  case atStart => exact ⟨0, Nat.zero_le _, rfl, fun t ht => by simp at ht, OwnR.nil _ _ _, Below.refl _ _⟩
  case round =>
    obtain ⟨k, hk, rfl, hokk, hown, hb⟩ := hrel
    have HOKK := Lib.hid hokk
    have HOW := Lib.hid hown
    have HBR := Lib.hid hb
    have HB := Lib.hid (HBW.out.trans (hb.mono (Nat.le_of_lt hzl)))
    have o0 : wr.cell? ⟨w.heap.size, 0, none⟩ = some (.slice none 0 0) := (hb.cell (p := ⟨w.heap.size, 0, none⟩) hzl).trans (HOB.out 0)
    have o1 : wr.cell? ⟨w.heap.size, 0 + 1, none⟩ = some (.slice none 0 0) := (hb.cell (p := ⟨w.heap.size, 0 + 1, none⟩) hzl).trans (HOB.out 1)
    have f0 : wr.frozen? ⟨w.heap.size, 0, none⟩ = false := (hb.frozen (p := ⟨w.heap.size, 0, none⟩) hzl).trans (HFZ.out 0)
    have f1 : wr.frozen? ⟨w.heap.size, 0 + 1, none⟩ = false := (hb.frozen (p := ⟨w.heap.size, 0 + 1, none⟩) hzl).trans (HFZ.out 1)
    by_cases hlt : k < m
    · obtain ⟨t, ht⟩ : ∃ t, first[k]? = some t := ⟨first[k]'(by have := HM.out; omega), by simp⟩
      obtain ⟨b, o, rfl, _, q⟩ := (HF.out.below HB.out).int ht
      have HT := Lib.hid ht
      by_cases hv : 1 ≤ t ∧ t ≤ 1048576
      · have d0 : decide (t < 1) = false := by simp; omega
        have d1 : decide ((1048576 : Int) < t) = false := by simp; omega
        have HV := Lib.hid hv
        have hlr : (ringE (first.take k)).length ≤ k := by rw [ringE_len]; exact List.length_take_le _ _
        clear hokk hown hb ht hv o0 o1 f0 f1
        go_wp2_with (at_builtin; refine wpList_append_rec (cs := cellsE1) (s := 3) _ rfl _ _ 54 rfl W.heap.size 53 Tryd.underlying54 ring_info rfl (by decide) (by decide) cellsE1_len _ (ringE (first.take k)) wr (ringAt k t) (cellsE1_one _) _ rfl rfl rfl HOW.out _ rfl rfl (by omega) HBR.out.size ?_; intro v' w' hown' hgrow')
        go_roundw
        case rel =>
          refine ⟨k + 1, by omega, by go_num, ?_, ?_, HBR.out.grown hgrow' HBR.out.size (fun j e => HOW.out.ge_base j e)⟩
          · intro x hx
            have hk2 := (List.getElem?_eq_some_iff.1 HT.out).1
            rw [List.take_succ_eq_append_getElem hk2, (List.getElem?_eq_some_iff.1 HT.out).2, List.mem_append] at hx
            rcases hx with hx | hx
            · exact HOKK.out x hx
            · have : x = t := by simpa using hx
              rw [this]
              exact HV.out
          · rw [ringE_take HT.out]
            exact hown'
        case measure => simp [intOf]; omega
      · have HNO := Lib.hid (show ¬ (okF first ∧ first.length ≤ 30) from fun q => hv (q.1 t (List.mem_of_getElem? ht)))
        have HBB := Lib.hid ((HB.out.setCell (p := ⟨w.heap.size, 0, none⟩) (Nat.le_refl _) (.slice none 0 0)).setCell (p := ⟨w.heap.size, 0 + 1, none⟩) (Nat.le_refl _) (.slice none 0 0))
        by_cases g0 : t < 1
        · have d0 : decide (t < 1) = true := by simpa using g0
          clear hokk hown hb ht hv
          go_wp2_with fail
          refine bodyPost_ret (v := .tuple #[.pointer none, .pointer none, .agg #[.slice none 0 0, .slice none 0 0], .bool false]) (by simp [results, Tryd.results7, go_sem, o0, o1]) rfl ?_
          exact ⟨HBB.out, .inr ⟨HNO.out, rfl⟩⟩
        · have d0 : decide (t < 1) = false := by simpa using g0
          have d1 : decide ((1048576 : Int) < t) = true := by simp; omega
          clear hokk hown hb ht hv
          go_wp2_with fail
          refine bodyPost_ret (v := .tuple #[.pointer none, .pointer none, .agg #[.slice none 0 0, .slice none 0 0], .bool false]) (by simp [results, Tryd.results7, go_sem, o0, o1]) rfl ?_
          exact ⟨HBB.out, .inr ⟨HNO.out, rfl⟩⟩
    · have hkk : k = m := by omega
      subst hkk
      have HOKA := Lib.hid (show okF first from by have := hokk; rw [HM.out, List.take_length] at this; exact this)
      by_cases h30 : 30 < k
      · have d0 : decide (30 < k) = true := by simpa using h30
        have HNO := Lib.hid (show ¬ (okF first ∧ first.length ≤ 30) from fun q => by have := q.2; have := HM.out; omega)
        have HBB := Lib.hid ((HB.out.setCell (p := ⟨w.heap.size, 0, none⟩) (Nat.le_refl _) (.slice none 0 0)).setCell (p := ⟨w.heap.size, 0 + 1, none⟩) (Nat.le_refl _) (.slice none 0 0))
        clear hokk hown hb
        go_wp2_with fail
        refine bodyPost_ret (v := .tuple #[.pointer none, .pointer none, .agg #[.slice none 0 0, .slice none 0 0], .bool false]) (by simp [results, Tryd.results7, go_sem, o0, o1]) rfl ?_
        exact ⟨HBB.out, .inr ⟨HNO.out, rfl⟩⟩
      · have d0 : decide (30 < k) = false := by simpa using h30
        have hown2 := hown
        rw [HM.out, List.take_length] at hown2
        obtain ⟨EA, ec, rfl, hsl⟩ := OwnR.sl hown2
        obtain ⟨_, hec1, hec2, hen⟩ := OwnR.caps hown2
        have hnew := new_any 5 EA ec (ringE first) wr (by omega) (by omega) (by rw [ringE_len]; have := HM.out; omega) hsl hen (ring_valid HOKA.out)
        have HNEW := Lib.hid hnew
        have HTHEN := Lib.hid (show ∀ w2 gp, GraphAt w2 w2.heap.size gp 5 (ringE first) → Calls Tryd.prog 18 #[.pointer (some ⟨gp, 0, none⟩)] w2 (RetTab w2 gp 5 (ringE first)) from fun w2 gp hg => newT_any w2 gp 5 (ringE first) hg (by rw [ringE_len]; have := HM.out; omega))
        clear hokk hown hb hown2 hsl hec1 hec2 hen hnew o0 o1 f0 f1
        go_wp2_with fail
        refine HNEW.out.mono ?_
        rintro e w2 ⟨gp, rfl, hg, hgp, hb2⟩
        have HG := Lib.hid hg
        have HB2 := Lib.hid hb2
        clear hg hb2
        go_wp2_with fail
        refine (HTHEN.out w2 gp HG.out).mono ?_
        rintro e w3 ⟨rfl, ht3, hb3⟩
        have hz2 : W.heap.size ≤ w2.heap.size := Nat.le_trans HBR.out.size HB2.out.size
        have HB3 := Lib.hid (HBR.out.trans ((HB2.out.mono HBR.out.size).trans (hb3.mono hz2)))
        have HT3 := Lib.hid ht3
        have o0 : w3.cell? ⟨w.heap.size, 0, none⟩ = some (.slice none 0 0) := (HB3.out.cell (p := ⟨w.heap.size, 0, none⟩) hzl).trans (HOB.out 0)
        have o1 : w3.cell? ⟨w.heap.size, 0 + 1, none⟩ = some (.slice none 0 0) := (HB3.out.cell (p := ⟨w.heap.size, 0 + 1, none⟩) hzl).trans (HOB.out 1)
        have f0 : w3.frozen? ⟨w.heap.size, 0, none⟩ = false := (HB3.out.frozen (p := ⟨w.heap.size, 0, none⟩) hzl).trans (HFZ.out 0)
        have f1 : w3.frozen? ⟨w.heap.size, 0 + 1, none⟩ = false := (HB3.out.frozen (p := ⟨w.heap.size, 0 + 1, none⟩) hzl).trans (HFZ.out 1)
        clear ht3 hb3
        go_wp2_with fail
        refine bodyPost_ret (v := .tuple #[.pointer (some ⟨gp, 0, none⟩), .pointer (some ⟨w2.heap.size + 1, 0, none⟩), .agg #[.slice FA k fc, .slice none 0 0], .bool true]) (by simp [results, Tryd.results7, go_sem, o0, o1]) rfl ?_
        refine ⟨((HBW.out.trans (HB3.out.mono (Nat.le_of_lt hzl))).setCell (p := ⟨w.heap.size, 0, none⟩) (Nat.le_refl _) _).setCell (p := ⟨w.heap.size, 0 + 1, none⟩) (Nat.le_refl _) _, .inl ⟨HOKA.out, by have := HM.out; omega, gp, w2.heap.size + 1, w2.heap.size, w2.heap.size, by rw [HM.out], by omega, ?_⟩⟩
        exact made_store HT3.out (by omega) (fun j => (HB3.out.cell (p := ⟨w.heap.size, j, none⟩) hzl).trans (HOB.out j)) _ _ _
end Go.Proofs.YtppbmnlneoinhaaDoor
