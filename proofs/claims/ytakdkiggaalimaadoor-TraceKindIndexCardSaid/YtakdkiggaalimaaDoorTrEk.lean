/-
  trace.EventsOfKind and its iterator (printed by gentrek.py).
-/
import Derived.Test.YtakdkiggaalimaaDoorTrM
import Derived.Test.YtakdkiggaalimaaDoorMemB
import Derived.Test.YtakdkiggaalimaaDoorTb
import Derived.Deep.MidRow
import Derived.Deep.WholeRow
namespace Go.Proofs.YtakdkiggaalimaaDoor
open Go.RowKit Go.Maps

/-- the indices of the events of a kind, from k on. -/
def idxs (kind : Int) : List EvM → Nat → List Int
  | [], _ => []
  | e :: r, k => if e.kind = kind then (k : Int) :: idxs kind r (k + 1) else idxs kind r (k + 1)
theorem idxs_snoc (kind : Int) (x : EvM) : ∀ (l : List EvM) (k : Nat), idxs kind (l ++ [x]) k = idxs kind l k ++ if x.kind = kind then [((k + l.length : Nat) : Int)] else []
  | [], k => by simp [idxs]
  | e :: r, k => by
    have ih := idxs_snoc kind x r (k + 1)
    have e1 : k + 1 + r.length = k + (e :: r).length := by simp; omega
    rw [e1] at ih
    rw [List.cons_append]
    unfold idxs
    rw [ih]
    split <;> simp
theorem idxs_len (kind : Int) : ∀ (l : List EvM) (k : Nat), (idxs kind l k).length ≤ l.length
  | [], _ => Nat.le_refl _
  | e :: r, k => by
    have ih := idxs_len kind r (k + 1)
    unfold idxs
    split <;> simp <;> omega
theorem ek_range {w : World} {B : Nat} {A : Option Addr} {xs : List EvM} (h : RecsAt evCs w B A xs) {i : Nat} {s : EvM} (hi : xs[i]? = some s) : ∃ b o, A = some ⟨b, o, none⟩ ∧ b < B ∧ w.rangeAt b (o + i * 28) (evCs s) := by
  obtain ⟨b, o, e, hb, hc⟩ := RecsAt.at evCs_len h hi (by decide)
  exact ⟨b, o, e, hb, hc⟩
theorem ek_one (e : EvM) : ((evCs e).toArray.all (·.oneCell')) = true := by
  unfold evCs
  simp [Value.oneCell']
theorem ek_size : (Tryd.prog.info? 41).map (·.size) = some 28 := by kernel_rfl
theorem ek_int : (Tryd.prog.info? 3).map (fun i => (i.zero, i.size, i.bytes)) = some (some (.int .i64 0), 1, 8) := by kernel_rfl
abbrev IS : TypeId := 29
/-- the variable of the indices. -/
structure IxAt (w : World) (X : World) (b : Nat) (v : Value) (l : List Int) : Prop where
  blk : X.heap[b]? = some (.cells #[v] IS (0, 0))
  own : OwnI X (b + 1) 3 v l
  bel : Below w.heap.size w X
theorem IxAt.mid {w X Y : World} {b : Nat} {v : Value} {l : List Int} (h : IxAt w X b v l) (hg : X.grownBy Y v.ownBlock) : Y.heap[b]? = some (.cells #[v] IS (0, 0)) :=
  (hg.block b (Array.getElem?_eq_some_iff.1 h.blk).1 (fun e => by have := OwnV.ge_base h.own b e.symm; omega)).trans h.blk
theorem IxAt.cell {X : World} {b : Nat} {v : Value} (h : X.heap[b]? = some (.cells #[v] IS (0, 0))) : X.cell? ⟨b, 0, none⟩ = some v ∧ X.frozen? ⟨b, 0, none⟩ = false := by
  refine ⟨?_, ?_⟩
  · rw [cell_of_row _ _ _ _ _ _ h]
    rfl
  · unfold World.frozen?
    rw [h]
    rfl
theorem IxAt.push {w X Y : World} {b : Nat} {v v' : Value} {l l' : List Int} (h : IxAt w X b v l) (hg : X.grownBy Y v.ownBlock) (ho : OwnI Y (b + 1) 3 v' l') (hb : w.heap.size ≤ b) : IxAt w (Y.setCell ⟨b, 0, none⟩ v') b v' l' := by
  have h1 := h.mid hg
  refine ⟨?_, ?_, (h.bel.grown hg h.bel.size (fun k e => by have := OwnV.ge_base h.own k e; omega)).setCell (p := ⟨b, 0, none⟩) hb _⟩
  · have hlt := (Array.getElem?_eq_some_iff.1 h1).1
    unfold World.setCell
    simp only []
    rw [Array.getElem?_modify]
    simp [h1]
  · exact ownsRow_setCell_other ho (fun e => by have := OwnV.ge_base ho b e; omega) _
theorem IxAt.next {w X Y : World} {b : Nat} {v : Value} {l : List Int} (h : IxAt w X b v l) (hb : Below X.heap.size X Y) : IxAt w Y b v l :=
  ⟨(hb.block _ (Array.getElem?_eq_some_iff.1 h.blk).1).trans h.blk, World.ownsRow.kept h.own (row := none) ⟨hb.os, hb.tape, hb.output, hb.size, fun k hk _ => hb.block k hk⟩ (by
    cases v.ownBlock with
    | none => exact .inl rfl
    | some k => exact .inr (by simp)), h.bel.trans (hb.mono h.bel.size)⟩
set_option maxRecDepth 100000 in
set_option maxHeartbeats 8000000 in
theorem eventsOf_any (w : World) (A : Option Addr) (c : Nat) (l : List EvM) (kind : Int) (hat : RecsAt evCs w w.heap.size A l) (hl : l.length ≤ 100000) :
    Calls Tryd.prog 10 #[.slice A l.length c, .int .i64 kind] w fun e w' => e = .returned (.func (.func 22) #[] #[.pointer (some ⟨w.heap.size, 0, none⟩)]) ∧ ∃ v, IxAt w w' w.heap.size v (idxs kind l 0) := by
  have HA := Lib.hid hat
  obtain ⟨m, hm⟩ : ∃ m, m = l.length := ⟨_, rfl⟩
  have HM := Lib.hid hm
  have hml : m ≤ 100000 := by omega
  have HX0 : Hid (IxAt w (w.alloc (.cells #[.slice none 0 0] IS)) w.heap.size (.slice none 0 0) []) := Lib.hid ⟨new_obj _ _, OwnV.nil _ _ _, below_new _ _⟩
  rw [← hm]
  clear hat hl hm
  go_enter Tryd.func10, Tryd.ntmps10
  go_wp2_with fail
  go_loopw [10] (fun iv X => ∃ (i : Nat) (v : Value), i ≤ m ∧ iv = .int .i64 i ∧ IxAt w X w.heap.size v (idxs kind (l.take i) 0)) (fun iv _ => m - (intOf iv).toNat)
  case atStart => exact ⟨0, _, Nat.zero_le _, rfl, HX0.out⟩
  case round =>
    obtain ⟨i, v, hi, rfl, hx⟩ := hrel
    have HX := Lib.hid hx
    clear hx
    by_cases hlt : i < m
    · have hlt' : (i : Int) < (m : Int) := by omega
      obtain ⟨x, hxx⟩ : ∃ x, l[i]? = some x := ⟨l[i]'(by have := HM.out; omega), by simp⟩
      have hat2 := RecsAt.below HA.out HX.out.bel
      obtain ⟨b, o, hAe, hb, hrng⟩ := ek_range hat2 hxx
      have HXX := Lib.hid hxx
      obtain ⟨D, hD⟩ : ∃ D, D = evCs x := ⟨_, rfl⟩
      have c0 : D.toArray[0]? = some (.int .i64 x.kind) := by rw [hD]; rfl
      have hszl : (Tryd.prog.info? 41).map (·.size) = some D.length := by rw [hD]; exact ek_size
      have hsz : (Tryd.prog.info? 41).map (·.size) = some D.toArray.size := by rw [hD]; exact ek_size
      have hone : D.toArray.all (·.oneCell') = true := by rw [hD]; exact ek_one x
      have hold : (#[.int .i64 0, .int .i64 0, .int .i64 0, .int .i64 0, .int .i64 0, .int .i64 0, .int .i64 0, .int .i64 0, .slice none 0 0, .int .i64 0, .int .i64 0, .int .i64 0, .int .i64 0, .int .i64 0, .int .i64 0, .int .i64 0, .int .i64 0, .int .i64 0, .int .i64 0, .int .i64 0, .int .i64 0, .int .i64 0, .int .i64 0, .int .i64 0, .int .i64 0, .slice none 0 0, .slice none 0 0, .slice none 0 0] : Array Value).size = D.toArray.size := by rw [hD]; rfl
      rw [← hD] at hrng
      have hrow0 := new_obj wr (.cells #[.int .i64 0, .int .i64 0, .int .i64 0, .int .i64 0, .int .i64 0, .int .i64 0, .int .i64 0, .int .i64 0, .slice none 0 0, .int .i64 0, .int .i64 0, .int .i64 0, .int .i64 0, .int .i64 0, .int .i64 0, .int .i64 0, .int .i64 0, .int .i64 0, .int .i64 0, .int .i64 0, .int .i64 0, .int .i64 0, .int .i64 0, .int .i64 0, .int .i64 0, .slice none 0 0, .slice none 0 0, .slice none 0 0] 41)
      obtain ⟨W3, hW3⟩ : ∃ W3, W3 = wr.alloc (.cells D.toArray 41) := ⟨_, rfl⟩
      have hwz : (wr.alloc (.cells #[.int .i64 0, .int .i64 0, .int .i64 0, .int .i64 0, .int .i64 0, .int .i64 0, .int .i64 0, .int .i64 0, .slice none 0 0, .int .i64 0, .int .i64 0, .int .i64 0, .int .i64 0, .int .i64 0, .int .i64 0, .int .i64 0, .int .i64 0, .int .i64 0, .int .i64 0, .int .i64 0, .int .i64 0, .int .i64 0, .int .i64 0, .int .i64 0, .int .i64 0, .slice none 0 0, .slice none 0 0, .slice none 0 0] 41)).setRow wr.heap.size D.toArray = W3 := by rw [hW3]; exact World.setRow_alloc_new wr #[.int .i64 0, .int .i64 0, .int .i64 0, .int .i64 0, .int .i64 0, .int .i64 0, .int .i64 0, .int .i64 0, .slice none 0 0, .int .i64 0, .int .i64 0, .int .i64 0, .int .i64 0, .int .i64 0, .int .i64 0, .int .i64 0, .int .i64 0, .int .i64 0, .int .i64 0, .int .i64 0, .int .i64 0, .int .i64 0, .int .i64 0, .int .i64 0, .int .i64 0, .slice none 0 0, .slice none 0 0, .slice none 0 0] D.toArray 41
      have HD := Lib.hid (And.intro hszl (And.intro hsz (And.intro hone (And.intro hold hwz))))
      have hb3 : Below wr.heap.size wr W3 := by rw [hW3]; exact below_new wr (.cells D.toArray 41)
      have hlw : w.heap.size < wr.heap.size := (Array.getElem?_eq_some_iff.1 HX.out.blk).1
      have HX3 : Hid (IxAt w W3 w.heap.size v (idxs kind (l.take i) 0)) := Lib.hid ⟨(hb3.block _ hlw).trans HX.out.blk, by rw [hW3]; exact OwnV.alloc HX.out.own _, HX.out.bel.trans (hb3.mono HX.out.bel.size)⟩
      have cv : W3.cell? ⟨w.heap.size, 0, none⟩ = some v := by
        rw [cell_of_row _ _ _ _ _ _ HX3.out.blk]
        rfl
      have fv : W3.frozen? ⟨w.heap.size, 0, none⟩ = false := by
        unfold World.frozen?
        rw [HX3.out.blk]
        rfl
      have ck : W3.cell? ⟨wr.heap.size, 0, none⟩ = some (.int .i64 x.kind) := by
        rw [hW3, World.cell?_alloc_at (hn := rfl)]
        exact c0
      rw [hAe]
      clear hxx hat2 hD hAe hszl hsz hone hold hwz hb3 c0 hW3
      by_cases hk : x.kind = kind
      · have e : (x.kind == kind) = true := by simp [hk]
        have HK := Lib.hid hk
        clear hk
        have HN : Hid (idxs kind (l.take (i + 1)) 0 = idxs kind (l.take i) 0 ++ [(i : Int)]) := Lib.hid (by
          rw [take_snoc' HXX.out, idxs_snoc, if_pos HK.out]
          congr 2
          rw [List.length_take]
          have := HM.out
          omega)
        have HNL : Hid ((idxs kind (l.take i) 0).length ≤ 100000) := Lib.hid (Nat.le_trans (idxs_len _ _ _) (by rw [List.length_take]; omega))
        go_wp2_with (first | (refine wpList_load_mid rfl 41 (.tmp 13) rfl b (o + i * 28) rfl D _ hrng Tryd.underlying41 rfl HD.out.1 ?_) | (refine wpList_store_row rfl 41 (.tmp 7) (.tmp 14) rfl wr.heap.size D.toArray rfl rfl 41 _ hrow0 HD.out.2.1 HD.out.2.2.2.1 HD.out.2.2.1 ?_; rw [HD.out.2.2.2.2]) | (at_builtin; refine wpList_append_one _ rfl (.tmp 19) (.tmp 21) 29 rfl (w.heap.size + 1) 3 Tryd.underlying29 ek_int rfl (by decide) v (idxs kind (l.take i) 0) W3 (i : Int) (f := Value.int .i64) rfl rfl rfl HX3.out.own rfl (by have := HNL.out; omega) (by have := HX3.out.bel.size; have h9 := (Array.getElem?_eq_some_iff.1 HX3.out.blk).1; omega) ?_; intro v5 w5 hown5 hg5; have hpush := HX3.out.push hg5 hown5 (Nat.le_refl _); obtain ⟨y5, z5⟩ := IxAt.cell (HX3.out.mid hg5); have HPU := Lib.hid hpush; obtain ⟨A5, c5, rfl, _⟩ := OwnV.sl hown5; have hl5 := (Array.getElem?_eq_some_iff.1 (HX3.out.mid hg5)).1; simp only [List.length_append, List.length_cons, List.length_nil, Nat.zero_add] at HPU; clear hpush hown5 hg5))
        go_roundw
        case rel => exact ⟨i + 1, _, by omega, by go_num, by rw [HN.out]; exact HPU.out⟩
        case measure => simp [intOf]; omega
      · have e : (x.kind == kind) = false := by simp [hk]
        have HK := Lib.hid hk
        clear hk
        have HN : Hid (idxs kind (l.take (i + 1)) 0 = idxs kind (l.take i) 0) := Lib.hid (by
          rw [take_snoc' HXX.out, idxs_snoc, if_neg HK.out, List.append_nil])
        go_wp2_with (first | (refine wpList_load_mid rfl 41 (.tmp 13) rfl b (o + i * 28) rfl D _ hrng Tryd.underlying41 rfl HD.out.1 ?_) | (refine wpList_store_row rfl 41 (.tmp 7) (.tmp 14) rfl wr.heap.size D.toArray rfl rfl 41 _ hrow0 HD.out.2.1 HD.out.2.2.2.1 HD.out.2.2.1 ?_; rw [HD.out.2.2.2.2]))
        go_roundw
        case rel => exact ⟨i + 1, _, by omega, by go_num, by rw [HN.out]; exact HX3.out⟩
        case measure => simp [intOf]; omega
    · obtain rfl : i = m := by omega
      have e : l.take i = l := List.take_of_length_le (by have := HM.out; omega)
      rw [e] at HX
      clear e
      go_wp2_with fail
      go_ret
      exact ⟨rfl, v, HX.out⟩
end Go.Proofs.YtakdkiggaalimaaDoor
