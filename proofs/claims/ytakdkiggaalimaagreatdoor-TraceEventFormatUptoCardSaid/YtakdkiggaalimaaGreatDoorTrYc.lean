/-
  samaritanref51: Hex (printed by gentrxc.py).
  samaritanref51.One: places where two events differ (printed by gentrox.py).
  samaritanref51.One: places where two events differ (printed by gentrox.py).
  samaritanref51.One: places where two events differ (printed by gentrox.py).
  samaritanref51.One: places where two events differ (printed by gentrox.py).
  samaritanref51.One: places where two events differ (printed by gentrox.py).
  samaritanref51.One: places where two events differ (printed by gentrox.py).
  samaritanref51.One: places where two events differ (printed by gentrox.py).
  samaritanref51.One: places where two events differ (printed by gentrox.py).
  samaritanref51: Only (printed by gentrxs.py).
  samaritanref51: Only (printed by gentrxs.py).
-/
import Derived.Test.YtakdkiggaalimaaGreatDoorTrYa
import Derived.Test.YtakdkiggaalimaaGreatDoorTrEI
import Derived.ArgAppend
import Derived.Lib.SlBytesConst
import Derived.Test.YtakdkiggaalimaaGreatDoorTrOr
import Derived.Test.YtakdkiggaalimaaGreatDoorTrVa
import Derived.Test.YtakdkiggaalimaaGreatDoorTrRe
import Derived.Test.YtakdkiggaalimaaGreatDoorTrFs
import Derived.Test.YtakdkiggaalimaaGreatDoorTrGc
import Derived.RegionTactic
import Derived.ChangeAlike
import Derived.BigRegion
import Derived.Deep.MidRow
namespace Go.Proofs.YtakdkiggaalimaaGreatDoor
section
open Go.RowKit Go.Maps
open Go.Lib (itoa)

/-- a row of the call's own, or one that is full. -/
def OwnF {α : Type} (f : α → Value) (w : World) (base : Nat) (e : TypeId) (v : Value) (zs : List α) : Prop :=
  OwnV f w base e v zs ∨ ∃ g, v = .slice (some ⟨g, 0, none⟩) zs.length zs.length ∧ base ≤ g ∧ Sl w w.heap.size (some ⟨g, 0, none⟩) (zs.map f)
theorem wp_append_F {α : Type} {f : α → Value} {P : Program} (w : World) {o : Oper} {a : Act} {K : Act → World → Prop} {Q : Exit → Act → World → Prop} (s x : Operand) (t : TypeId)
    (ho : o.op = .call { callee := .builtin .append, args := #[s, x], argTypes := #[t, t] }) (e : TypeId) (ht : P.underlying t = some (.slice e)) {z0 : Value} {by0 : Nat} (hinfo : (P.info? e).map (fun i => (i.zero, i.size, i.bytes)) = some (some z0, 1, by0)) (hz0 : z0.cells.size = 1) (hby : by0 ≤ 32)
    (base : Nat) (v : Value) (zs : List α) (hv : a.eval s = v) (hown : OwnF f w base e v zs) (B : Nat) (b : Addr) (m c : Nat) (ys : List α) (hx : a.eval x = .slice (some b) m c) (hm : m = ys.length) (hm0 : 0 < m) (hs : Sl w B (some b) (ys.map f)) (hone : ∀ y ∈ ys, (f y).oneCell' = true)
    (hlen : zs.length + ys.length ≤ 4398046511104) (hbase : base ≤ w.heap.size)
    (h : ∀ v' w', OwnV f w' base e v' (zs ++ ys) → w.grownBy w' v.ownBlock → K (a.put o.dst v') w') : Oper.wp P o a w K Q := by
  rcases hown with hown | ⟨g, hg, hbg, hsl⟩
  · exact wp_append_sl w s x t ho e ht hinfo hz0 hby base v zs hv hown B (some b) m c ys hx hm (fun q => by cases q) hs hone hlen hbase h
  obtain ⟨i0, hi, hz1, hz2, hz3⟩ := info_parts hinfo
  subst hm hg
  obtain ⟨v', w', hr, h2, h3⟩ := run_append_arg_grows (P := P) w t o.type e i0 z0 1 by0 ht hi hz1 hz2 hz3 hz0 (by decide) ⟨g, 0, none⟩ zs.length zs.length (zs.map f) (by simp) (fun j u hj => by
    obtain ⟨b', o', e', _, hc⟩ := hsl j u hj
    injection e' with e'
    rw [e', add_none]
    exact hc) b ys.length c (ys.map f) (by simp) (fun j u hj => by
    obtain ⟨b', o', e', _, hc⟩ := hs j u hj
    injection e' with e'
    subst e'
    rw [add_none]
    exact hc) (by omega) (by unfold maxLen; omega) (by have := Nat.mul_le_mul hlen hby; omega)
  unfold Oper.wp execOp
  simp only [ho, resolve, invoke, builtin, Sem.run_bind, Sem.run_pure, Result.andThen_ok, List.map_toArray, List.map_cons, List.map_nil, hv, hx, hr]
  refine h v' w' (OwnV.base_le (base' := base) (base := w.heap.size) ?_ hbase) ⟨h3.os, h3.tape, h3.output, h3.size, fun k hk _ => h3.block k hk (by simp)⟩
  unfold OwnV
  rw [List.length_append, List.map_append]
  exact h2
theorem step_append_F {α : Type} {f : α → Value} {P : Program} (w : World) {ops : Array Oper} {o : Oper} {a : Act} {K : Act → World → Prop} {Q : Exit → Act → World → Prop} {E : Prop} (hw : Region.wanted o (yielded ops a.tmps) = true) (s x : Operand) (t : TypeId)
    (ho : o.op = .call { callee := .builtin .append, args := #[s, x], argTypes := #[t, t] }) (e : TypeId) (ht : P.underlying t = some (.slice e)) {z0 : Value} {by0 : Nat} (hinfo : (P.info? e).map (fun i => (i.zero, i.size, i.bytes)) = some (some z0, 1, by0)) (hz0 : z0.cells.size = 1) (hby : by0 ≤ 32)
    (base : Nat) (v : Value) (zs : List α) (hv : a.eval s = v) (hown : OwnF f w base e v zs) (B : Nat) (b : Addr) (m c : Nat) (ys : List α) (hx : a.eval x = .slice (some b) m c) (hm : m = ys.length) (hm0 : 0 < m) (hs : Sl w B (some b) (ys.map f)) (hone : ∀ y ∈ ys, (f y).oneCell' = true)
    (hlen : zs.length + ys.length ≤ 4398046511104) (hbase : base ≤ w.heap.size)
    (h : ∀ v' w', OwnV f w' base e v' (zs ++ ys) → w.grownBy w' v.ownBlock → K (a.put o.dst v') w') : if Region.wanted o (yielded ops a.tmps) = true then Oper.wp P o a w K Q else E := by
  rw [if_pos hw]
  exact wp_append_F w s x t ho e ht hinfo hz0 hby base v zs hv hown B b m c ys hx hm hm0 hs hone hlen hbase h
theorem OwnF.ge_base {α : Type} {f : α → Value} {w : World} {base : Nat} {e : TypeId} {v : Value} {zs : List α} (h : OwnF f w base e v zs) : ∀ k, v.ownBlock = some k → base ≤ k := fun k hk => by
  rcases h with h | ⟨g, rfl, hb, _⟩
  · exact OwnV.ge_base h k hk
  · have q : g = k := by simpa [Value.ownBlock] using hk
    omega
theorem OwnF.alloc {α : Type} {f : α → Value} {w : World} {base : Nat} {e : TypeId} {v : Value} {zs : List α} (h : OwnF f w base e v zs) (o : Obj) : OwnF f (w.alloc o) base e v zs := by
  rcases h with h | ⟨g, e1, hb, hs⟩
  · exact .inl (h.alloc o)
  · exact .inr ⟨g, e1, hb, Sl.more (Sl.alloc hs (Nat.le_refl _) o) (by simp)⟩
theorem OwnF.drew {α : Type} {f : α → Value} {w : World} {base : Nat} {e : TypeId} {v : Value} {zs : List α} (h : OwnF f w base e v zs) : OwnF f w.drew base e v zs := h
theorem own_strF {w : World} {base : Nat} {v : Value} {l : List UInt8} (h : OwnF byteV w base 5 v l) (h0 : l ≠ []) : ∃ A c, v = .slice A l.length c ∧ (convert 23 9 (.slice A l.length c)).run Tryz.prog w = .ok (.string (bs l)) w := by
  rcases h with h | ⟨g, e, _, hs⟩
  · exact own_str h h0
  · exact ⟨_, _, e, bytes_str hs _⟩
set_option maxRecDepth 100000 in
set_option maxHeartbeats 4000000 in
theorem hex51_any (l : List UInt8) (hl : l.length ≤ 1000000) (A : Option Addr) (c : Nat) (w : World) (hat : BytesAt w w.heap.size A l) :
    Calls Tryz.prog 41 #[.slice A l.length c] w fun e w' => e = .returned (.string (bs (hexW l))) ∧ Below w.heap.size w w' := by
  have HA := Lib.hid hat
  obtain ⟨m, hm⟩ : ∃ m, m = l.length := ⟨_, rfl⟩
  have HM := Lib.hid hm
  have hml : m ≤ 1000000 := by omega
  have hcb := Lib.run_convert_bytes_const (P := Tryz.prog) w 23 5 #[.int .u8 61] 1 1 Tryz.underlying23 Tryz.underlying5
  have HO0 : Hid (OwnF byteV (w.alloc (.cells #[.int .u8 61] 5 (1, 2))) w.heap.size 5 (.slice (some ⟨w.heap.size, 0, none⟩) 1 1) [61]) := Lib.hid (.inr ⟨w.heap.size, rfl, Nat.le_refl _, fun j u hj => by
    refine ⟨w.heap.size, 0, rfl, by simp, ?_⟩
    have h1 := new_obj w (.cells #[.int .u8 61] 5 (1, 2))
    rw [cell_of_row _ _ _ _ _ _ h1]
    have hj : [Value.int .u8 61][j]? = some u := hj
    simpa using hj⟩)
  have HB0 := Lib.hid (below_new w (.cells #[.int .u8 61] 5 (1, 2)))
  rw [← hm]
  clear hat hl hm
  go_enter Tryz.func41, Tryz.ntmps41
  go_wp2_with fail
  go_loopw [3, 5] (fun tv iv X => ∃ k : Nat, k ≤ m ∧ iv = .int .i64 k ∧ OwnF byteV X w.heap.size 5 tv (61 :: (l.take k).flatMap hex2) ∧ Below w.heap.size w X) (fun _ iv _ => m - (intOf iv).toNat)
  case atStart => exact ⟨0, Nat.zero_le _, rfl, HO0.out, HB0.out⟩
  case round =>
    obtain ⟨k, hk, rfl, hown, hbl⟩ := hrel
    have HR := Lib.hid (And.intro hown hbl)
    clear hown hbl hcb
    by_cases hlt : k < m
    · have hlt' : (k : Int) < (m : Int) := by omega
      obtain ⟨x, hx⟩ : ∃ x, l[k]? = some x := ⟨l[k]'(by have := HM.out; omega), by simp⟩
      obtain ⟨ab, ao, rfl, hab, hac⟩ := bcell_at (Sl.below HA.out HR.out.2) hx
      have HLY := Lib.hid (show ab < (World.drew wr).heap.size by have := HR.out.2.size; show ab < wr.heap.size; omega)
      have HLW := Lib.hid hab
      have HCW := Lib.hid (show w.cell? ⟨ab, ao + k, none⟩ = some (.int .u8 x.toNat) from (HR.out.2.cell (p := ⟨ab, ao + k, none⟩) hab).symm.trans hac)
      have HX := Lib.hid hx
      have hx8 := x.toNat_lt
      have hq4 : ((x.toNat : Int).tdiv 16) = ((x.toNat / 16 : Nat) : Int) := by rw [Int.tdiv_eq_ediv_of_nonneg (by omega)]; omega
      have hw8 : IntKind.u8.wrap ((x.toNat : Int) / 16) = (x.toNat : Int) / 16 := IntWalk.u8_in _ (by omega)
      have hq5 : ((x.toNat : Int).tmod 16) = ((x.toNat % 16 : Nat) : Int) := by rw [Int.tmod_eq_emod_of_nonneg (by omega)]; omega
      clear hx hab
      go_wp2_with fail
      refine wp_region_held_drew (S := fun W => W.cell? ⟨ab, ao + k, none⟩ = some (.int .u8 x.toNat)) (by kernel_rfl) hac (fun hHeld => ?_)
      have HY := Lib.hid (And.intro HR.out.1.drew HR.out.2.drew)
      have hacY : (World.drew wr).cell? ⟨ab, ao + k, none⟩ = some (.int .u8 x.toNat) := hac
      obtain ⟨Y, hY⟩ : ∃ Y, Y = World.drew wr := ⟨_, rfl⟩
      rw [← hY] at HY hacY HLY ⊢
      clear hY
      refine wpAnyH_take (i := 0) (v := u3) rfl (by kernel_rfl) (by kernel_rfl) (by kernel_rfl) (fun _ _ _ h => h) (Or.inl ⟨by rfl, ?_⟩) (by assumption) ?_
      · intro w hSw
        go_simp
      show wpAnyH _ _ _ _ _ _ _ (Act.put _ (some 14) _) _
      simp only [Act.put, List.setIfInBounds_toArray, List.set_cons_zero, List.set_cons_succ]
      refine wpAnyH_take (i := 1) (v := .string ⟨#[48, 49, 50, 51, 52, 53, 54, 55, 56, 57, 97, 98, 99, 100, 101, 102]⟩) rfl (by kernel_rfl) (by kernel_rfl) (by kernel_rfl) (fun _ _ _ h => h) (Or.inl ⟨by rfl, ?_⟩) (by assumption) ?_
      · intro w hSw
        go_simp
      show wpAnyH _ _ _ _ _ _ _ (Act.put _ (some 15) _) _
      simp only [Act.put, List.setIfInBounds_toArray, List.set_cons_zero, List.set_cons_succ]
      refine wpAnyH_take (i := 2) (v := .slice (some ⟨ab, ao, none⟩) m c) rfl (by kernel_rfl) (by kernel_rfl) (by kernel_rfl) (fun _ _ _ h => h) (Or.inl ⟨by rfl, ?_⟩) (by assumption) ?_
      · intro w hSw
        go_simp
      show wpAnyH _ _ _ _ _ _ _ (Act.put _ (some 16) _) _
      simp only [Act.put, List.setIfInBounds_toArray, List.set_cons_zero, List.set_cons_succ]
      refine wpAnyH_take (i := 3) (v := .int .i64 k) rfl (by kernel_rfl) (by kernel_rfl) (by kernel_rfl) (fun _ _ _ h => h) (Or.inl ⟨by rfl, ?_⟩) (by assumption) ?_
      · intro w hSw
        go_simp
      show wpAnyH _ _ _ _ _ _ _ (Act.put _ (some 17) _) _
      simp only [Act.put, List.setIfInBounds_toArray, List.set_cons_zero, List.set_cons_succ]
      refine wpAnyH_take (i := 4) (v := .pointer (some ⟨ab, ao + k, none⟩)) rfl (by kernel_rfl) (by kernel_rfl) (by kernel_rfl) (fun _ _ _ h => h) (Or.inl ⟨by rfl, ?_⟩) (by assumption) ?_
      · intro w hSw
        go_simp
      show wpAnyH _ _ _ _ _ _ _ (Act.put _ (some 18) _) _
      simp only [Act.put, List.setIfInBounds_toArray, List.set_cons_zero, List.set_cons_succ]
      refine wpAnyH_take (i := 5) (v := .int .u8 x.toNat) rfl (by kernel_rfl) (by kernel_rfl) (by kernel_rfl) (fun _ _ _ h => h) (Or.inl ⟨by rfl, ?_⟩) (by assumption) ?_
      · intro w hSw
        have hq : w.cell? ⟨ab, ao + k, none⟩ = some (.int .u8 x.toNat) := hSw
        go_simp
      show wpAnyH _ _ _ _ _ _ _ (Act.put _ (some 19) _) _
      simp only [Act.put, List.setIfInBounds_toArray, List.set_cons_zero, List.set_cons_succ]
      refine wpAnyH_take (i := 6) (v := .int .u8 ((x.toNat / 16 : Nat) : Int)) rfl (by kernel_rfl) (by kernel_rfl) (by kernel_rfl) (fun _ _ _ h => h) (Or.inl ⟨by rfl, ?_⟩) (by assumption) ?_
      · intro w hSw
        go_simp
      show wpAnyH _ _ _ _ _ _ _ (Act.put _ (some 20) _) _
      simp only [Act.put, List.setIfInBounds_toArray, List.set_cons_zero, List.set_cons_succ]
      refine wpAnyH_take (i := 7) (v := .int .u8 (hexD (x.toNat / 16)).toNat) rfl (by kernel_rfl) (by kernel_rfl) (by kernel_rfl) (fun _ _ _ h => h) (Or.inl ⟨by rfl, ?_⟩) (by assumption) ?_
      · intro w hSw
        go_simp
        rw [dif_pos (by omega)]
        simp only [Result.andThen]
        rw [hex_at _ (x.toNat / 16) (by omega) (by omega)]
      show wpAnyH _ _ _ _ _ _ _ (Act.put _ (some 21) _) _
      simp only [Act.put, List.setIfInBounds_toArray, List.set_cons_zero, List.set_cons_succ]
      refine wpAnyH_take (i := 8) (v := .string ⟨#[48, 49, 50, 51, 52, 53, 54, 55, 56, 57, 97, 98, 99, 100, 101, 102]⟩) rfl (by kernel_rfl) (by kernel_rfl) (by kernel_rfl) (fun _ _ _ h => h) (Or.inl ⟨by rfl, ?_⟩) (by assumption) ?_
      · intro w hSw
        go_simp
      show wpAnyH _ _ _ _ _ _ _ (Act.put _ (some 22) _) _
      simp only [Act.put, List.setIfInBounds_toArray, List.set_cons_zero, List.set_cons_succ]
      refine wpAnyH_take (i := 9) (v := .slice (some ⟨ab, ao, none⟩) m c) rfl (by kernel_rfl) (by kernel_rfl) (by kernel_rfl) (fun _ _ _ h => h) (Or.inl ⟨by rfl, ?_⟩) (by assumption) ?_
      · intro w hSw
        go_simp
      show wpAnyH _ _ _ _ _ _ _ (Act.put _ (some 23) _) _
      simp only [Act.put, List.setIfInBounds_toArray, List.set_cons_zero, List.set_cons_succ]
      refine wpAnyH_take (i := 10) (v := .int .i64 k) rfl (by kernel_rfl) (by kernel_rfl) (by kernel_rfl) (fun _ _ _ h => h) (Or.inl ⟨by rfl, ?_⟩) (by assumption) ?_
      · intro w hSw
        go_simp
      show wpAnyH _ _ _ _ _ _ _ (Act.put _ (some 24) _) _
      simp only [Act.put, List.setIfInBounds_toArray, List.set_cons_zero, List.set_cons_succ]
      refine wpAnyH_take (i := 11) (v := .pointer (some ⟨ab, ao + k, none⟩)) rfl (by kernel_rfl) (by kernel_rfl) (by kernel_rfl) (fun _ _ _ h => h) (Or.inl ⟨by rfl, ?_⟩) (by assumption) ?_
      · intro w hSw
        go_simp
      show wpAnyH _ _ _ _ _ _ _ (Act.put _ (some 25) _) _
      simp only [Act.put, List.setIfInBounds_toArray, List.set_cons_zero, List.set_cons_succ]
      refine wpAnyH_take (i := 12) (v := .int .u8 x.toNat) rfl (by kernel_rfl) (by kernel_rfl) (by kernel_rfl) (fun _ _ _ h => h) (Or.inl ⟨by rfl, ?_⟩) (by assumption) ?_
      · intro w hSw
        have hq : w.cell? ⟨ab, ao + k, none⟩ = some (.int .u8 x.toNat) := hSw
        go_simp
      show wpAnyH _ _ _ _ _ _ _ (Act.put _ (some 26) _) _
      simp only [Act.put, List.setIfInBounds_toArray, List.set_cons_zero, List.set_cons_succ]
      refine wpAnyH_take (i := 13) (v := .int .u8 ((x.toNat % 16 : Nat) : Int)) rfl (by kernel_rfl) (by kernel_rfl) (by kernel_rfl) (fun _ _ _ h => h) (Or.inl ⟨by rfl, ?_⟩) (by assumption) ?_
      · intro w hSw
        go_simp
      show wpAnyH _ _ _ _ _ _ _ (Act.put _ (some 27) _) _
      simp only [Act.put, List.setIfInBounds_toArray, List.set_cons_zero, List.set_cons_succ]
      refine wpAnyH_take (i := 14) (v := .int .u8 (hexD (x.toNat % 16)).toNat) rfl (by kernel_rfl) (by kernel_rfl) (by kernel_rfl) (fun _ _ _ h => h) (Or.inl ⟨by rfl, ?_⟩) (by assumption) ?_
      · intro w hSw
        go_simp
        rw [dif_pos (by omega)]
        simp only [Result.andThen]
        rw [hex_at _ (x.toNat % 16) (by omega) (by omega)]
      show wpAnyH _ _ _ _ _ _ _ (Act.put _ (some 28) _) _
      simp only [Act.put, List.setIfInBounds_toArray, List.set_cons_zero, List.set_cons_succ]
      refine wpAnyH_ready (rs := [15]) (by kernel_rfl) (by simp) ?_
      refine AllReadyH.cons rfl (fun K hK => ?_) AllReadyH.nil
      go_simp
      refine hK.out _ _ ?_ (fun hHeld => ?_)
      · rw [World.cell?_alloc_past (hn := HLY.out)]
        exact hacY
      clear hK K
      refine wpAnyH_ready (rs := [16]) (by kernel_rfl) (by simp) ?_
      refine AllReadyH.cons rfl (fun K hK => ?_) AllReadyH.nil
      refine step_append_F _ (by rfl) (.tmp 14) (.tmp 29) 23 (by rfl) 5 Tryz.underlying23 byte_info rfl (by decide) w.heap.size u3 (61 :: (l.take k).flatMap hex2) (by rfl) (HY.out.1.alloc _) (Y.heap.size + 1) ⟨Y.heap.size, 0, none⟩ 2 2 (hex2 x) (by rfl) rfl (by decide) (Sl.more (Sl.lit Y ((hex2 x).map byteV) 5 rfl) (by simp)) (fun y _ => rfl) (by rw [List.length_cons, hex2_len, List.length_take]; show _ + 2 ≤ _; omega) (by have := HY.out.2.size; simp; omega) ?_
      intro v9 w9 ho9 hg9
      have hb9 : Below w.heap.size w w9 := (HY.out.2.alloc (HY.out.2.size) _).grown hg9 (by have := HY.out.2.size; simp; omega) (fun q hq => HY.out.1.ge_base q hq)
      have hh9 : w9.cell? ⟨ab, ao + k, none⟩ = some (.int .u8 x.toNat) := (hb9.cell (p := ⟨ab, ao + k, none⟩) HLW.out).trans HCW.out
      have H9 := Lib.hid (And.intro ho9 hb9)
      clear ho9 hg9 hb9
      refine hK.out _ _ hh9 (fun hHeld => ?_)
      clear hK K
      refine wpAnyH_take (i := 17) (v := v9) rfl (by kernel_rfl) (by kernel_rfl) (by kernel_rfl) (fun _ _ _ h => h) (Or.inl ⟨by rfl, ?_⟩) (by assumption) ?_
      · intro w hSw
        go_simp
      refine wpAnyH_done (by kernel_rfl) ?_ _
      clear hHeld hh9 hacY hac
      go_wp2_with fail
      go_roundw
      case rel =>
        refine ⟨k + 1, by omega, by go_num, .inl ?_, H9.out.2⟩
        rw [take_snoc HX.out, List.flatMap_append]
        have := H9.out.1
        simpa [hex2] using this
      case measure => simp [intOf]; omega
    · obtain rfl : k = m := by omega
      have e : l.take k = l := List.take_of_length_le (by have := HM.out; omega)
      have ho : OwnF byteV wr w.heap.size 5 u3 (hexW l) := by
        have := HR.out.1
        rw [e] at this
        exact this
      obtain ⟨A', c', rfl, hcv⟩ := own_strF ho (by rw [hexW_eq]; simp)
      clear e ho
      go_wp2_with fail
      go_ret
      exact ⟨rfl, HR.out.2⟩
end
section
open Go.RowKit Go.Maps

/-- what One returns. -/
def RetOne (a b : EvM) (w : World) (e : Ending) (w' : World) : Prop := e = .returned (.bool (tb (a.con = b.con))) ∧ Below w.heap.size w w'
theorem wpList_at {P : Program} {ops : Array Oper} {Q : Exit → Act → World → Prop} {o : Oper} {r : List Oper} {a : Act} {w : World} (d : Nat) (_ho : o.dst = some d) (h : wpList P ops Q (o :: r) a w) : wpList P ops Q (o :: r) a w := h
theorem wpList_convV {P : Program} {ops : Array Oper} {Q : Exit → Act → World → Prop} {o : Oper} {r : List Oper} {a : Act} {w : World} {s : ByteArray} {t1 t2 : TypeId} {x : Operand} {v : Value} (ho : o.op = .convert t1 t2 x) (hw : Region.wanted o (yielded ops a.tmps) = true)
    (hx : a.eval x = v) (hrun : (convert t1 t2 v).run P w = .ok (.string s) w) (h : wpList P ops Q r (a.put o.dst (.string s)) w) : wpList P ops Q (o :: r) a w := by
  unfold wpList
  rw [if_pos hw]
  refine .inl ?_
  unfold Oper.wp execOp
  rw [ho]
  simp only [Sem.run_bind, hx]
  rw [hrun]
  exact h
theorem wpList_eqO {ops : Array Oper} {Q : Exit → Act → World → Prop} {o : Oper} {r : List Oper} {a : Act} {w : World} {i j : Nat} {t2 : TypeId} {o1 o2 : OrdC} (ho : o.op = .binOp .eql 27 (.tmp i) (.tmp j) t2) (hw : Region.wanted o (yielded ops a.tmps) = true)
    (hx : a.eval (.tmp i) = ordV o1) (hy : a.eval (.tmp j) = ordV o2) (b : Bool) (hb : tb (o1 = o2) = b) (h : wpList Tryz.prog ops Q r (a.put o.dst (.bool b)) w) : wpList Tryz.prog ops Q (o :: r) a w :=
  wpList_binB ho hw (by rw [hx, hy, ← hb]; exact ord_run' i j o1 o2 w) h
theorem wpList_eqS {ops : Array Oper} {Q : Exit → Act → World → Prop} {o : Oper} {r : List Oper} {a : Act} {w : World} {i j : Nat} {t2 : TypeId} {o1 o2 : StaC} (ho : o.op = .binOp .eql 29 (.tmp i) (.tmp j) t2) (hw : Region.wanted o (yielded ops a.tmps) = true)
    (hx : a.eval (.tmp i) = staV o1) (hy : a.eval (.tmp j) = staV o2) (b : Bool) (hb : tb (o1 = o2) = b) (h : wpList Tryz.prog ops Q r (a.put o.dst (.bool b)) w) : wpList Tryz.prog ops Q (o :: r) a w :=
  wpList_binB ho hw (by rw [hx, hy, ← hb]; exact sta_run' i j o1 o2 w) h
end
section
open Go.RowKit Go.Maps

set_option maxRecDepth 100000 in
set_option maxHeartbeats 16000000 in
theorem one_0 (a b : EvM) (w : World)  (hne : ¬ a.kind = b.kind) : Calls Tryz.prog 11 #[evV a, evV b] w (RetOne a b w) := by
  obtain ⟨C, hC⟩ : ∃ C, C = (evCs a).toArray := ⟨_, rfl⟩
  obtain ⟨D, hD⟩ : ∃ D, D = (evCs b).toArray := ⟨_, rfl⟩
  have hva : evV a = .agg C := by rw [hC]; rfl
  have hvb : evV b = .agg D := by rw [hD]; rfl
  have c0 : C[0]? = some (.int .i64 a.kind) := by rw [hC]; rfl
  have d0 : D[0]? = some (.int .i64 b.kind) := by rw [hD]; rfl
  rw [hva, hvb]
  have hb1 : Below w.heap.size w ((w.alloc (.cells C 35)).alloc (.cells D 35)) := ((Below.refl _ _).alloc (Nat.le_refl _) _).alloc (by simp) _
  have HB1 := Lib.hid hb1
  have ek : (a.kind == b.kind) = false := by simpa using hne
  have HNE := Lib.hid hne
  clear hC hD hva hvb hb1   hne 
  go_enter Tryz.func11, Tryz.ntmps11
  simp only [List.append]
  go_wp2_with fail
  go_ret
  exact ⟨ret_no (fun q => HNE.out (congrArg EvC.kind q)), HB1.out⟩
set_option maxRecDepth 100000 in
set_option maxHeartbeats 16000000 in
theorem one_1 (a b : EvM) (w : World) (h0 : a.kind = b.kind) (hne : ¬ a.tick = b.tick) : Calls Tryz.prog 11 #[evV a, evV b] w (RetOne a b w) := by
  obtain ⟨C, hC⟩ : ∃ C, C = (evCs a).toArray := ⟨_, rfl⟩
  obtain ⟨D, hD⟩ : ∃ D, D = (evCs b).toArray := ⟨_, rfl⟩
  have hva : evV a = .agg C := by rw [hC]; rfl
  have hvb : evV b = .agg D := by rw [hD]; rfl
  have c0 : C[0]? = some (.int .i64 a.kind) := by rw [hC]; rfl
  have d0 : D[0]? = some (.int .i64 a.kind) := by rw [hD, h0]; rfl
  have c1 : C[1]? = some (.int .i64 a.tick) := by rw [hC]; rfl
  have d1 : D[1]? = some (.int .i64 b.tick) := by rw [hD]; rfl
  rw [hva, hvb]
  have hb1 : Below w.heap.size w ((w.alloc (.cells C 35)).alloc (.cells D 35)) := ((Below.refl _ _).alloc (Nat.le_refl _) _).alloc (by simp) _
  have HB1 := Lib.hid hb1
  have ek : (a.tick == b.tick) = false := by simpa using hne
  have HNE := Lib.hid hne
  clear hC hD hva hvb hb1  h0 hne 
  go_enter Tryz.func11, Tryz.ntmps11
  simp only [List.append]
  go_wp2_with fail
  go_ret
  exact ⟨ret_no (fun q => HNE.out (congrArg EvC.tick q)), HB1.out⟩
set_option maxRecDepth 100000 in
set_option maxHeartbeats 16000000 in
theorem one_2 (a b : EvM) (w : World) (h0 : a.kind = b.kind) (h1 : a.tick = b.tick) (hne : ¬ a.who = b.who) : Calls Tryz.prog 11 #[evV a, evV b] w (RetOne a b w) := by
  obtain ⟨C, hC⟩ : ∃ C, C = (evCs a).toArray := ⟨_, rfl⟩
  obtain ⟨D, hD⟩ : ∃ D, D = (evCs b).toArray := ⟨_, rfl⟩
  have hva : evV a = .agg C := by rw [hC]; rfl
  have hvb : evV b = .agg D := by rw [hD]; rfl
  have c0 : C[0]? = some (.int .i64 a.kind) := by rw [hC]; rfl
  have d0 : D[0]? = some (.int .i64 a.kind) := by rw [hD, h0]; rfl
  have c1 : C[1]? = some (.int .i64 a.tick) := by rw [hC]; rfl
  have d1 : D[1]? = some (.int .i64 a.tick) := by rw [hD, h1]; rfl
  have c2 : C[2]? = some (.int .i64 a.who) := by rw [hC]; rfl
  have d2 : D[2]? = some (.int .i64 b.who) := by rw [hD]; rfl
  rw [hva, hvb]
  have hb1 : Below w.heap.size w ((w.alloc (.cells C 35)).alloc (.cells D 35)) := ((Below.refl _ _).alloc (Nat.le_refl _) _).alloc (by simp) _
  have HB1 := Lib.hid hb1
  have ek : (a.who == b.who) = false := by simpa using hne
  have HNE := Lib.hid hne
  clear hC hD hva hvb hb1  h0 h1 hne 
  go_enter Tryz.func11, Tryz.ntmps11
  simp only [List.append]
  go_wp2_with fail
  go_ret
  exact ⟨ret_no (fun q => HNE.out (congrArg EvC.who q)), HB1.out⟩
set_option maxRecDepth 100000 in
set_option maxHeartbeats 16000000 in
theorem one_3 (a b : EvM) (w : World) (h0 : a.kind = b.kind) (h1 : a.tick = b.tick) (h2 : a.who = b.who) (hne : ¬ a.call = b.call) : Calls Tryz.prog 11 #[evV a, evV b] w (RetOne a b w) := by
  obtain ⟨C, hC⟩ : ∃ C, C = (evCs a).toArray := ⟨_, rfl⟩
  obtain ⟨D, hD⟩ : ∃ D, D = (evCs b).toArray := ⟨_, rfl⟩
  have hva : evV a = .agg C := by rw [hC]; rfl
  have hvb : evV b = .agg D := by rw [hD]; rfl
  have c0 : C[0]? = some (.int .i64 a.kind) := by rw [hC]; rfl
  have d0 : D[0]? = some (.int .i64 a.kind) := by rw [hD, h0]; rfl
  have c1 : C[1]? = some (.int .i64 a.tick) := by rw [hC]; rfl
  have d1 : D[1]? = some (.int .i64 a.tick) := by rw [hD, h1]; rfl
  have c2 : C[2]? = some (.int .i64 a.who) := by rw [hC]; rfl
  have d2 : D[2]? = some (.int .i64 a.who) := by rw [hD, h2]; rfl
  have c3 : C[3]? = some (.int .i64 a.call) := by rw [hC]; rfl
  have d3 : D[3]? = some (.int .i64 b.call) := by rw [hD]; rfl
  rw [hva, hvb]
  have hb1 : Below w.heap.size w ((w.alloc (.cells C 35)).alloc (.cells D 35)) := ((Below.refl _ _).alloc (Nat.le_refl _) _).alloc (by simp) _
  have HB1 := Lib.hid hb1
  have ek : (a.call == b.call) = false := by simpa using hne
  have HNE := Lib.hid hne
  clear hC hD hva hvb hb1  h0 h1 h2 hne 
  go_enter Tryz.func11, Tryz.ntmps11
  simp only [List.append]
  go_wp2_with fail
  go_ret
  exact ⟨ret_no (fun q => HNE.out (congrArg EvC.call q)), HB1.out⟩
set_option maxRecDepth 100000 in
set_option maxHeartbeats 16000000 in
theorem one_4 (a b : EvM) (w : World) (h0 : a.kind = b.kind) (h1 : a.tick = b.tick) (h2 : a.who = b.who) (h3 : a.call = b.call) (hne : ¬ a.epoch = b.epoch) : Calls Tryz.prog 11 #[evV a, evV b] w (RetOne a b w) := by
  obtain ⟨C, hC⟩ : ∃ C, C = (evCs a).toArray := ⟨_, rfl⟩
  obtain ⟨D, hD⟩ : ∃ D, D = (evCs b).toArray := ⟨_, rfl⟩
  have hva : evV a = .agg C := by rw [hC]; rfl
  have hvb : evV b = .agg D := by rw [hD]; rfl
  have c0 : C[0]? = some (.int .i64 a.kind) := by rw [hC]; rfl
  have d0 : D[0]? = some (.int .i64 a.kind) := by rw [hD, h0]; rfl
  have c1 : C[1]? = some (.int .i64 a.tick) := by rw [hC]; rfl
  have d1 : D[1]? = some (.int .i64 a.tick) := by rw [hD, h1]; rfl
  have c2 : C[2]? = some (.int .i64 a.who) := by rw [hC]; rfl
  have d2 : D[2]? = some (.int .i64 a.who) := by rw [hD, h2]; rfl
  have c3 : C[3]? = some (.int .i64 a.call) := by rw [hC]; rfl
  have d3 : D[3]? = some (.int .i64 a.call) := by rw [hD, h3]; rfl
  have c4 : C[4]? = some (.int .i64 a.epoch) := by rw [hC]; rfl
  have d4 : D[4]? = some (.int .i64 b.epoch) := by rw [hD]; rfl
  rw [hva, hvb]
  have hb1 : Below w.heap.size w ((w.alloc (.cells C 35)).alloc (.cells D 35)) := ((Below.refl _ _).alloc (Nat.le_refl _) _).alloc (by simp) _
  have HB1 := Lib.hid hb1
  have ek : (a.epoch == b.epoch) = false := by simpa using hne
  have HNE := Lib.hid hne
  clear hC hD hva hvb hb1  h0 h1 h2 h3 hne 
  go_enter Tryz.func11, Tryz.ntmps11
  simp only [List.append]
  go_wp2_with fail
  go_ret
  exact ⟨ret_no (fun q => HNE.out (congrArg EvC.epoch q)), HB1.out⟩
end
section
open Go.RowKit Go.Maps

set_option maxRecDepth 100000 in
set_option maxHeartbeats 16000000 in
theorem one_5 (a b : EvM) (w : World) (h0 : a.kind = b.kind) (h1 : a.tick = b.tick) (h2 : a.who = b.who) (h3 : a.call = b.call) (h4 : a.epoch = b.epoch) (hne : ¬ a.n = b.n) : Calls Tryz.prog 11 #[evV a, evV b] w (RetOne a b w) := by
  obtain ⟨C, hC⟩ : ∃ C, C = (evCs a).toArray := ⟨_, rfl⟩
  obtain ⟨D, hD⟩ : ∃ D, D = (evCs b).toArray := ⟨_, rfl⟩
  have hva : evV a = .agg C := by rw [hC]; rfl
  have hvb : evV b = .agg D := by rw [hD]; rfl
  have c0 : C[0]? = some (.int .i64 a.kind) := by rw [hC]; rfl
  have d0 : D[0]? = some (.int .i64 a.kind) := by rw [hD, h0]; rfl
  have c1 : C[1]? = some (.int .i64 a.tick) := by rw [hC]; rfl
  have d1 : D[1]? = some (.int .i64 a.tick) := by rw [hD, h1]; rfl
  have c2 : C[2]? = some (.int .i64 a.who) := by rw [hC]; rfl
  have d2 : D[2]? = some (.int .i64 a.who) := by rw [hD, h2]; rfl
  have c3 : C[3]? = some (.int .i64 a.call) := by rw [hC]; rfl
  have d3 : D[3]? = some (.int .i64 a.call) := by rw [hD, h3]; rfl
  have c4 : C[4]? = some (.int .i64 a.epoch) := by rw [hC]; rfl
  have d4 : D[4]? = some (.int .i64 a.epoch) := by rw [hD, h4]; rfl
  have c5 : C[5]? = some (.int .i64 a.n) := by rw [hC]; rfl
  have d5 : D[5]? = some (.int .i64 b.n) := by rw [hD]; rfl
  rw [hva, hvb]
  have hb1 : Below w.heap.size w ((w.alloc (.cells C 35)).alloc (.cells D 35)) := ((Below.refl _ _).alloc (Nat.le_refl _) _).alloc (by simp) _
  have HB1 := Lib.hid hb1
  have ek : (a.n == b.n) = false := by simpa using hne
  have HNE := Lib.hid hne
  clear hC hD hva hvb hb1  h0 h1 h2 h3 h4 hne 
  go_enter Tryz.func11, Tryz.ntmps11
  simp only [List.append]
  go_wp2_with fail
  go_ret
  exact ⟨ret_no (fun q => HNE.out (congrArg EvC.n q)), HB1.out⟩
set_option maxRecDepth 100000 in
set_option maxHeartbeats 16000000 in
theorem one_6 (a b : EvM) (w : World) (h0 : a.kind = b.kind) (h1 : a.tick = b.tick) (h2 : a.who = b.who) (h3 : a.call = b.call) (h4 : a.epoch = b.epoch) (h5 : a.n = b.n) (hne : ¬ a.eterm = b.eterm) : Calls Tryz.prog 11 #[evV a, evV b] w (RetOne a b w) := by
  obtain ⟨C, hC⟩ : ∃ C, C = (evCs a).toArray := ⟨_, rfl⟩
  obtain ⟨D, hD⟩ : ∃ D, D = (evCs b).toArray := ⟨_, rfl⟩
  have hva : evV a = .agg C := by rw [hC]; rfl
  have hvb : evV b = .agg D := by rw [hD]; rfl
  have c0 : C[0]? = some (.int .i64 a.kind) := by rw [hC]; rfl
  have d0 : D[0]? = some (.int .i64 a.kind) := by rw [hD, h0]; rfl
  have c1 : C[1]? = some (.int .i64 a.tick) := by rw [hC]; rfl
  have d1 : D[1]? = some (.int .i64 a.tick) := by rw [hD, h1]; rfl
  have c2 : C[2]? = some (.int .i64 a.who) := by rw [hC]; rfl
  have d2 : D[2]? = some (.int .i64 a.who) := by rw [hD, h2]; rfl
  have c3 : C[3]? = some (.int .i64 a.call) := by rw [hC]; rfl
  have d3 : D[3]? = some (.int .i64 a.call) := by rw [hD, h3]; rfl
  have c4 : C[4]? = some (.int .i64 a.epoch) := by rw [hC]; rfl
  have d4 : D[4]? = some (.int .i64 a.epoch) := by rw [hD, h4]; rfl
  have c5 : C[5]? = some (.int .i64 a.n) := by rw [hC]; rfl
  have d5 : D[5]? = some (.int .i64 a.n) := by rw [hD, h5]; rfl
  have c6 : C[6]? = some (.int .i64 a.eterm) := by rw [hC]; rfl
  have d6 : D[6]? = some (.int .i64 b.eterm) := by rw [hD]; rfl
  rw [hva, hvb]
  have hb1 : Below w.heap.size w ((w.alloc (.cells C 35)).alloc (.cells D 35)) := ((Below.refl _ _).alloc (Nat.le_refl _) _).alloc (by simp) _
  have HB1 := Lib.hid hb1
  have ek : (a.eterm == b.eterm) = false := by simpa using hne
  have HNE := Lib.hid hne
  clear hC hD hva hvb hb1  h0 h1 h2 h3 h4 h5 hne 
  go_enter Tryz.func11, Tryz.ntmps11
  simp only [List.append]
  go_wp2_with fail
  go_ret
  exact ⟨ret_no (fun q => HNE.out (congrArg EvC.eterm q)), HB1.out⟩
set_option maxRecDepth 100000 in
set_option maxHeartbeats 16000000 in
theorem one_7 (a b : EvM) (w : World) (h0 : a.kind = b.kind) (h1 : a.tick = b.tick) (h2 : a.who = b.who) (h3 : a.call = b.call) (h4 : a.epoch = b.epoch) (h5 : a.n = b.n) (h6 : a.eterm = b.eterm) (hne : ¬ a.ekind = b.ekind) : Calls Tryz.prog 11 #[evV a, evV b] w (RetOne a b w) := by
  obtain ⟨C, hC⟩ : ∃ C, C = (evCs a).toArray := ⟨_, rfl⟩
  obtain ⟨D, hD⟩ : ∃ D, D = (evCs b).toArray := ⟨_, rfl⟩
  have hva : evV a = .agg C := by rw [hC]; rfl
  have hvb : evV b = .agg D := by rw [hD]; rfl
  have c0 : C[0]? = some (.int .i64 a.kind) := by rw [hC]; rfl
  have d0 : D[0]? = some (.int .i64 a.kind) := by rw [hD, h0]; rfl
  have c1 : C[1]? = some (.int .i64 a.tick) := by rw [hC]; rfl
  have d1 : D[1]? = some (.int .i64 a.tick) := by rw [hD, h1]; rfl
  have c2 : C[2]? = some (.int .i64 a.who) := by rw [hC]; rfl
  have d2 : D[2]? = some (.int .i64 a.who) := by rw [hD, h2]; rfl
  have c3 : C[3]? = some (.int .i64 a.call) := by rw [hC]; rfl
  have d3 : D[3]? = some (.int .i64 a.call) := by rw [hD, h3]; rfl
  have c4 : C[4]? = some (.int .i64 a.epoch) := by rw [hC]; rfl
  have d4 : D[4]? = some (.int .i64 a.epoch) := by rw [hD, h4]; rfl
  have c5 : C[5]? = some (.int .i64 a.n) := by rw [hC]; rfl
  have d5 : D[5]? = some (.int .i64 a.n) := by rw [hD, h5]; rfl
  have c6 : C[6]? = some (.int .i64 a.eterm) := by rw [hC]; rfl
  have d6 : D[6]? = some (.int .i64 a.eterm) := by rw [hD, h6]; rfl
  have c7 : C[7]? = some (.int .i64 a.ekind) := by rw [hC]; rfl
  have d7 : D[7]? = some (.int .i64 b.ekind) := by rw [hD]; rfl
  rw [hva, hvb]
  have hb1 : Below w.heap.size w ((w.alloc (.cells C 35)).alloc (.cells D 35)) := ((Below.refl _ _).alloc (Nat.le_refl _) _).alloc (by simp) _
  have HB1 := Lib.hid hb1
  have ek : (a.ekind == b.ekind) = false := by simpa using hne
  have HNE := Lib.hid hne
  clear hC hD hva hvb hb1  h0 h1 h2 h3 h4 h5 h6 hne 
  go_enter Tryz.func11, Tryz.ntmps11
  simp only [List.append]
  go_wp2_with fail
  go_ret
  exact ⟨ret_no (fun q => HNE.out (congrArg EvC.ekind q)), HB1.out⟩
end
section
open Go.RowKit Go.Maps

set_option maxRecDepth 100000 in
set_option maxHeartbeats 16000000 in
theorem one_8 (a b : EvM) (w : World) (BA BB : Nat) (ha : EvAt w BA a) (hb : EvAt w BB b) (hA : BA ≤ w.heap.size) (hB : BB ≤ w.heap.size) (h0 : a.kind = b.kind) (h1 : a.tick = b.tick) (h2 : a.who = b.who) (h3 : a.call = b.call) (h4 : a.epoch = b.epoch) (h5 : a.n = b.n) (h6 : a.eterm = b.eterm) (h7 : a.ekind = b.ekind) (hne : ¬ a.ebody = b.ebody) : Calls Tryz.prog 11 #[evV a, evV b] w (RetOne a b w) := by
  obtain ⟨C, hC⟩ : ∃ C, C = (evCs a).toArray := ⟨_, rfl⟩
  obtain ⟨D, hD⟩ : ∃ D, D = (evCs b).toArray := ⟨_, rfl⟩
  have hva : evV a = .agg C := by rw [hC]; rfl
  have hvb : evV b = .agg D := by rw [hD]; rfl
  have c0 : C[0]? = some (.int .i64 a.kind) := by rw [hC]; rfl
  have d0 : D[0]? = some (.int .i64 a.kind) := by rw [hD, h0]; rfl
  have c1 : C[1]? = some (.int .i64 a.tick) := by rw [hC]; rfl
  have d1 : D[1]? = some (.int .i64 a.tick) := by rw [hD, h1]; rfl
  have c2 : C[2]? = some (.int .i64 a.who) := by rw [hC]; rfl
  have d2 : D[2]? = some (.int .i64 a.who) := by rw [hD, h2]; rfl
  have c3 : C[3]? = some (.int .i64 a.call) := by rw [hC]; rfl
  have d3 : D[3]? = some (.int .i64 a.call) := by rw [hD, h3]; rfl
  have c4 : C[4]? = some (.int .i64 a.epoch) := by rw [hC]; rfl
  have d4 : D[4]? = some (.int .i64 a.epoch) := by rw [hD, h4]; rfl
  have c5 : C[5]? = some (.int .i64 a.n) := by rw [hC]; rfl
  have d5 : D[5]? = some (.int .i64 a.n) := by rw [hD, h5]; rfl
  have c6 : C[6]? = some (.int .i64 a.eterm) := by rw [hC]; rfl
  have d6 : D[6]? = some (.int .i64 a.eterm) := by rw [hD, h6]; rfl
  have c7 : C[7]? = some (.int .i64 a.ekind) := by rw [hC]; rfl
  have d7 : D[7]? = some (.int .i64 a.ekind) := by rw [hD, h7]; rfl
  have c8 : C[8]? = some (.slice a.eA a.ebody.length a.ec) := by rw [hC]; rfl
  have d8 : D[8]? = some (.slice b.eA b.ebody.length b.ec) := by rw [hD]; rfl
  rw [hva, hvb]
  have hb1 : Below w.heap.size w ((w.alloc (.cells C 35)).alloc (.cells D 35)) := ((Below.refl _ _).alloc (Nat.le_refl _) _).alloc (by simp) _
  have HB1 := Lib.hid hb1
  have S8 := Lib.hid (And.intro (bytes_str (Sl.below ha.body (hb1.mono hA)) a.ec) (bytes_str (Sl.below hb.body (hb1.mono hB)) b.ec))
  have e8 : ((bs a.ebody).toList == (bs b.ebody).toList) = false := str_ne (fun q => hne (bs_inj q))
  have e8b : ¬ (bs a.ebody).toList = (bs b.ebody).toList := fun q => by rw [q] at e8; simp at e8
  have HNE := Lib.hid hne
  clear hC hD hva hvb hb1 ha hb hA hB h0 h1 h2 h3 h4 h5 h6 h7 hne 
  go_enter Tryz.func11, Tryz.ntmps11
  simp only [List.append]
  go_wp2_with (first | ((with_reducible refine wpList_at 67 rfl ?_); (refine wpList_convV (v := .slice a.eA a.ebody.length a.ec) rfl rfl rfl S8.out.1 ?_; simp only [Act.put, List.setIfInBounds_toArray, List.set_cons_zero, List.set_cons_succ])) | ((with_reducible refine wpList_at 71 rfl ?_); (refine wpList_convV (v := .slice b.eA b.ebody.length b.ec) rfl rfl rfl S8.out.2 ?_; simp only [Act.put, List.setIfInBounds_toArray, List.set_cons_zero, List.set_cons_succ])))
  go_ret
  exact ⟨ret_no (fun q => HNE.out (congrArg EvC.ebody q)), HB1.out⟩
set_option maxRecDepth 100000 in
set_option maxHeartbeats 16000000 in
theorem one_9 (a b : EvM) (w : World) (BA BB : Nat) (ha : EvAt w BA a) (hb : EvAt w BB b) (hA : BA ≤ w.heap.size) (hB : BB ≤ w.heap.size) (h0 : a.kind = b.kind) (h1 : a.tick = b.tick) (h2 : a.who = b.who) (h3 : a.call = b.call) (h4 : a.epoch = b.epoch) (h5 : a.n = b.n) (h6 : a.eterm = b.eterm) (h7 : a.ekind = b.ekind) (h8 : a.ebody = b.ebody) (hne : ¬ a.ord = b.ord) : Calls Tryz.prog 11 #[evV a, evV b] w (RetOne a b w) := by
  obtain ⟨C, hC⟩ : ∃ C, C = (evCs a).toArray := ⟨_, rfl⟩
  obtain ⟨D, hD⟩ : ∃ D, D = (evCs b).toArray := ⟨_, rfl⟩
  have hva : evV a = .agg C := by rw [hC]; rfl
  have hvb : evV b = .agg D := by rw [hD]; rfl
  have c0 : C[0]? = some (.int .i64 a.kind) := by rw [hC]; rfl
  have d0 : D[0]? = some (.int .i64 a.kind) := by rw [hD, h0]; rfl
  have c1 : C[1]? = some (.int .i64 a.tick) := by rw [hC]; rfl
  have d1 : D[1]? = some (.int .i64 a.tick) := by rw [hD, h1]; rfl
  have c2 : C[2]? = some (.int .i64 a.who) := by rw [hC]; rfl
  have d2 : D[2]? = some (.int .i64 a.who) := by rw [hD, h2]; rfl
  have c3 : C[3]? = some (.int .i64 a.call) := by rw [hC]; rfl
  have d3 : D[3]? = some (.int .i64 a.call) := by rw [hD, h3]; rfl
  have c4 : C[4]? = some (.int .i64 a.epoch) := by rw [hC]; rfl
  have d4 : D[4]? = some (.int .i64 a.epoch) := by rw [hD, h4]; rfl
  have c5 : C[5]? = some (.int .i64 a.n) := by rw [hC]; rfl
  have d5 : D[5]? = some (.int .i64 a.n) := by rw [hD, h5]; rfl
  have c6 : C[6]? = some (.int .i64 a.eterm) := by rw [hC]; rfl
  have d6 : D[6]? = some (.int .i64 a.eterm) := by rw [hD, h6]; rfl
  have c7 : C[7]? = some (.int .i64 a.ekind) := by rw [hC]; rfl
  have d7 : D[7]? = some (.int .i64 a.ekind) := by rw [hD, h7]; rfl
  have c8 : C[8]? = some (.slice a.eA a.ebody.length a.ec) := by rw [hC]; rfl
  have d8 : D[8]? = some (.slice b.eA a.ebody.length b.ec) := by rw [hD, h8]; rfl
  have c9 : C[9]? = some (.int .i64 a.ord.unit) := by rw [hC]; rfl
  have d9 : D[9]? = some (.int .i64 b.ord.unit) := by rw [hD]; rfl
  have c10 : C[10]? = some (.int .i64 a.ord.epoch) := by rw [hC]; rfl
  have d10 : D[10]? = some (.int .i64 b.ord.epoch) := by rw [hD]; rfl
  have c11 : C[11]? = some (.int .i64 a.ord.kind) := by rw [hC]; rfl
  have d11 : D[11]? = some (.int .i64 b.ord.kind) := by rw [hD]; rfl
  have c12 : C[12]? = some (.int .i64 a.ord.incident) := by rw [hC]; rfl
  have d12 : D[12]? = some (.int .i64 b.ord.incident) := by rw [hD]; rfl
  have c13 : C[13]? = some (.int .i64 a.ord.node) := by rw [hC]; rfl
  have d13 : D[13]? = some (.int .i64 b.ord.node) := by rw [hD]; rfl
  rw [hva, hvb]
  have hb1 : Below w.heap.size w ((w.alloc (.cells C 35)).alloc (.cells D 35)) := ((Below.refl _ _).alloc (Nat.le_refl _) _).alloc (by simp) _
  have HB1 := Lib.hid hb1
  have S8 := Lib.hid (And.intro (bytes_str (Sl.below ha.body (hb1.mono hA)) a.ec) (bytes_str (Sl.below hb.body (hb1.mono hB)) b.ec))
  rw [← h8] at S8
  have HNE := Lib.hid hne
  clear hC hD hva hvb hb1 ha hb hA hB h0 h1 h2 h3 h4 h5 h6 h7 h8 hne 
  go_enter Tryz.func11, Tryz.ntmps11
  simp only [List.append]
  go_wp2_with (first | ((with_reducible refine wpList_at 67 rfl ?_); (refine wpList_convV (v := .slice a.eA a.ebody.length a.ec) rfl rfl rfl S8.out.1 ?_; simp only [Act.put, List.setIfInBounds_toArray, List.set_cons_zero, List.set_cons_succ])) | ((with_reducible refine wpList_at 71 rfl ?_); (refine wpList_convV (v := .slice b.eA a.ebody.length b.ec) rfl rfl rfl S8.out.2 ?_; simp only [Act.put, List.setIfInBounds_toArray, List.set_cons_zero, List.set_cons_succ])) | ((with_reducible refine wpList_at 79 rfl ?_); (refine wpList_eqO (o1 := a.ord) (o2 := b.ord) rfl rfl rfl rfl false (tb_false HNE.out) ?_; simp only [Act.put, List.setIfInBounds_toArray, List.set_cons_zero, List.set_cons_succ])))
  go_ret
  exact ⟨ret_no (fun q => HNE.out (congrArg EvC.ord q)), HB1.out⟩
end
section
open Go.RowKit Go.Maps

set_option maxRecDepth 100000 in
set_option maxHeartbeats 16000000 in
theorem one_10 (a b : EvM) (w : World) (BA BB : Nat) (ha : EvAt w BA a) (hb : EvAt w BB b) (hA : BA ≤ w.heap.size) (hB : BB ≤ w.heap.size) (h0 : a.kind = b.kind) (h1 : a.tick = b.tick) (h2 : a.who = b.who) (h3 : a.call = b.call) (h4 : a.epoch = b.epoch) (h5 : a.n = b.n) (h6 : a.eterm = b.eterm) (h7 : a.ekind = b.ekind) (h8 : a.ebody = b.ebody) (h9 : a.ord = b.ord) (hne : ¬ a.sta = b.sta) : Calls Tryz.prog 11 #[evV a, evV b] w (RetOne a b w) := by
  obtain ⟨C, hC⟩ : ∃ C, C = (evCs a).toArray := ⟨_, rfl⟩
  obtain ⟨D, hD⟩ : ∃ D, D = (evCs b).toArray := ⟨_, rfl⟩
  have hva : evV a = .agg C := by rw [hC]; rfl
  have hvb : evV b = .agg D := by rw [hD]; rfl
  have c0 : C[0]? = some (.int .i64 a.kind) := by rw [hC]; rfl
  have d0 : D[0]? = some (.int .i64 a.kind) := by rw [hD, h0]; rfl
  have c1 : C[1]? = some (.int .i64 a.tick) := by rw [hC]; rfl
  have d1 : D[1]? = some (.int .i64 a.tick) := by rw [hD, h1]; rfl
  have c2 : C[2]? = some (.int .i64 a.who) := by rw [hC]; rfl
  have d2 : D[2]? = some (.int .i64 a.who) := by rw [hD, h2]; rfl
  have c3 : C[3]? = some (.int .i64 a.call) := by rw [hC]; rfl
  have d3 : D[3]? = some (.int .i64 a.call) := by rw [hD, h3]; rfl
  have c4 : C[4]? = some (.int .i64 a.epoch) := by rw [hC]; rfl
  have d4 : D[4]? = some (.int .i64 a.epoch) := by rw [hD, h4]; rfl
  have c5 : C[5]? = some (.int .i64 a.n) := by rw [hC]; rfl
  have d5 : D[5]? = some (.int .i64 a.n) := by rw [hD, h5]; rfl
  have c6 : C[6]? = some (.int .i64 a.eterm) := by rw [hC]; rfl
  have d6 : D[6]? = some (.int .i64 a.eterm) := by rw [hD, h6]; rfl
  have c7 : C[7]? = some (.int .i64 a.ekind) := by rw [hC]; rfl
  have d7 : D[7]? = some (.int .i64 a.ekind) := by rw [hD, h7]; rfl
  have c8 : C[8]? = some (.slice a.eA a.ebody.length a.ec) := by rw [hC]; rfl
  have d8 : D[8]? = some (.slice b.eA a.ebody.length b.ec) := by rw [hD, h8]; rfl
  have c9 : C[9]? = some (.int .i64 a.ord.unit) := by rw [hC]; rfl
  have d9 : D[9]? = some (.int .i64 a.ord.unit) := by rw [hD, h9]; rfl
  have c10 : C[10]? = some (.int .i64 a.ord.epoch) := by rw [hC]; rfl
  have d10 : D[10]? = some (.int .i64 a.ord.epoch) := by rw [hD, h9]; rfl
  have c11 : C[11]? = some (.int .i64 a.ord.kind) := by rw [hC]; rfl
  have d11 : D[11]? = some (.int .i64 a.ord.kind) := by rw [hD, h9]; rfl
  have c12 : C[12]? = some (.int .i64 a.ord.incident) := by rw [hC]; rfl
  have d12 : D[12]? = some (.int .i64 a.ord.incident) := by rw [hD, h9]; rfl
  have c13 : C[13]? = some (.int .i64 a.ord.node) := by rw [hC]; rfl
  have d13 : D[13]? = some (.int .i64 a.ord.node) := by rw [hD, h9]; rfl
  have c14 : C[14]? = some (.int .i64 a.sta.unit) := by rw [hC]; rfl
  have d14 : D[14]? = some (.int .i64 b.sta.unit) := by rw [hD]; rfl
  have c15 : C[15]? = some (.int .i64 a.sta.seq) := by rw [hC]; rfl
  have d15 : D[15]? = some (.int .i64 b.sta.seq) := by rw [hD]; rfl
  have c16 : C[16]? = some (.int .i64 a.sta.state) := by rw [hC]; rfl
  have d16 : D[16]? = some (.int .i64 b.sta.state) := by rw [hD]; rfl
  have c17 : C[17]? = some (.int .i64 a.sta.node) := by rw [hC]; rfl
  have d17 : D[17]? = some (.int .i64 b.sta.node) := by rw [hD]; rfl
  have c18 : C[18]? = some (.int .i64 a.sta.epoch) := by rw [hC]; rfl
  have d18 : D[18]? = some (.int .i64 b.sta.epoch) := by rw [hD]; rfl
  rw [hva, hvb]
  have hb1 : Below w.heap.size w ((w.alloc (.cells C 35)).alloc (.cells D 35)) := ((Below.refl _ _).alloc (Nat.le_refl _) _).alloc (by simp) _
  have HB1 := Lib.hid hb1
  have S8 := Lib.hid (And.intro (bytes_str (Sl.below ha.body (hb1.mono hA)) a.ec) (bytes_str (Sl.below hb.body (hb1.mono hB)) b.ec))
  rw [← h8] at S8
  have HNE := Lib.hid hne
  clear hC hD hva hvb hb1 ha hb hA hB h0 h1 h2 h3 h4 h5 h6 h7 h8 h9 hne 
  go_enter Tryz.func11, Tryz.ntmps11
  simp only [List.append]
  go_wp2_with (first | ((with_reducible refine wpList_at 67 rfl ?_); (refine wpList_convV (v := .slice a.eA a.ebody.length a.ec) rfl rfl rfl S8.out.1 ?_; simp only [Act.put, List.setIfInBounds_toArray, List.set_cons_zero, List.set_cons_succ])) | ((with_reducible refine wpList_at 71 rfl ?_); (refine wpList_convV (v := .slice b.eA a.ebody.length b.ec) rfl rfl rfl S8.out.2 ?_; simp only [Act.put, List.setIfInBounds_toArray, List.set_cons_zero, List.set_cons_succ])) | ((with_reducible refine wpList_at 79 rfl ?_); (refine wpList_eqO (o1 := a.ord) (o2 := a.ord) rfl rfl rfl rfl true (tb_true rfl) ?_; simp only [Act.put, List.setIfInBounds_toArray, List.set_cons_zero, List.set_cons_succ])) | ((with_reducible refine wpList_at 86 rfl ?_); (refine wpList_eqS (o1 := a.sta) (o2 := b.sta) rfl rfl rfl rfl false (tb_false HNE.out) ?_; simp only [Act.put, List.setIfInBounds_toArray, List.set_cons_zero, List.set_cons_succ])))
  go_ret
  exact ⟨ret_no (fun q => HNE.out (congrArg EvC.sta q)), HB1.out⟩
set_option maxRecDepth 100000 in
set_option maxHeartbeats 16000000 in
theorem one_11 (a b : EvM) (w : World) (BA BB : Nat) (ha : EvAt w BA a) (hb : EvAt w BB b) (hA : BA ≤ w.heap.size) (hB : BB ≤ w.heap.size) (hl : ActL a.act) (h0 : a.kind = b.kind) (h1 : a.tick = b.tick) (h2 : a.who = b.who) (h3 : a.call = b.call) (h4 : a.epoch = b.epoch) (h5 : a.n = b.n) (h6 : a.eterm = b.eterm) (h7 : a.ekind = b.ekind) (h8 : a.ebody = b.ebody) (h9 : a.ord = b.ord) (h10 : a.sta = b.sta) (hne : ¬ a.act.con = b.act.con) : Calls Tryz.prog 11 #[evV a, evV b] w (RetOne a b w) := by
  obtain ⟨C, hC⟩ : ∃ C, C = (evCs a).toArray := ⟨_, rfl⟩
  obtain ⟨D, hD⟩ : ∃ D, D = (evCs b).toArray := ⟨_, rfl⟩
  have hva : evV a = .agg C := by rw [hC]; rfl
  have hvb : evV b = .agg D := by rw [hD]; rfl
  have c0 : C[0]? = some (.int .i64 a.kind) := by rw [hC]; rfl
  have d0 : D[0]? = some (.int .i64 a.kind) := by rw [hD, h0]; rfl
  have c1 : C[1]? = some (.int .i64 a.tick) := by rw [hC]; rfl
  have d1 : D[1]? = some (.int .i64 a.tick) := by rw [hD, h1]; rfl
  have c2 : C[2]? = some (.int .i64 a.who) := by rw [hC]; rfl
  have d2 : D[2]? = some (.int .i64 a.who) := by rw [hD, h2]; rfl
  have c3 : C[3]? = some (.int .i64 a.call) := by rw [hC]; rfl
  have d3 : D[3]? = some (.int .i64 a.call) := by rw [hD, h3]; rfl
  have c4 : C[4]? = some (.int .i64 a.epoch) := by rw [hC]; rfl
  have d4 : D[4]? = some (.int .i64 a.epoch) := by rw [hD, h4]; rfl
  have c5 : C[5]? = some (.int .i64 a.n) := by rw [hC]; rfl
  have d5 : D[5]? = some (.int .i64 a.n) := by rw [hD, h5]; rfl
  have c6 : C[6]? = some (.int .i64 a.eterm) := by rw [hC]; rfl
  have d6 : D[6]? = some (.int .i64 a.eterm) := by rw [hD, h6]; rfl
  have c7 : C[7]? = some (.int .i64 a.ekind) := by rw [hC]; rfl
  have d7 : D[7]? = some (.int .i64 a.ekind) := by rw [hD, h7]; rfl
  have c8 : C[8]? = some (.slice a.eA a.ebody.length a.ec) := by rw [hC]; rfl
  have d8 : D[8]? = some (.slice b.eA a.ebody.length b.ec) := by rw [hD, h8]; rfl
  have c9 : C[9]? = some (.int .i64 a.ord.unit) := by rw [hC]; rfl
  have d9 : D[9]? = some (.int .i64 a.ord.unit) := by rw [hD, h9]; rfl
  have c10 : C[10]? = some (.int .i64 a.ord.epoch) := by rw [hC]; rfl
  have d10 : D[10]? = some (.int .i64 a.ord.epoch) := by rw [hD, h9]; rfl
  have c11 : C[11]? = some (.int .i64 a.ord.kind) := by rw [hC]; rfl
  have d11 : D[11]? = some (.int .i64 a.ord.kind) := by rw [hD, h9]; rfl
  have c12 : C[12]? = some (.int .i64 a.ord.incident) := by rw [hC]; rfl
  have d12 : D[12]? = some (.int .i64 a.ord.incident) := by rw [hD, h9]; rfl
  have c13 : C[13]? = some (.int .i64 a.ord.node) := by rw [hC]; rfl
  have d13 : D[13]? = some (.int .i64 a.ord.node) := by rw [hD, h9]; rfl
  have c14 : C[14]? = some (.int .i64 a.sta.unit) := by rw [hC]; rfl
  have d14 : D[14]? = some (.int .i64 a.sta.unit) := by rw [hD, h10]; rfl
  have c15 : C[15]? = some (.int .i64 a.sta.seq) := by rw [hC]; rfl
  have d15 : D[15]? = some (.int .i64 a.sta.seq) := by rw [hD, h10]; rfl
  have c16 : C[16]? = some (.int .i64 a.sta.state) := by rw [hC]; rfl
  have d16 : D[16]? = some (.int .i64 a.sta.state) := by rw [hD, h10]; rfl
  have c17 : C[17]? = some (.int .i64 a.sta.node) := by rw [hC]; rfl
  have d17 : D[17]? = some (.int .i64 a.sta.node) := by rw [hD, h10]; rfl
  have c18 : C[18]? = some (.int .i64 a.sta.epoch) := by rw [hC]; rfl
  have d18 : D[18]? = some (.int .i64 a.sta.epoch) := by rw [hD, h10]; rfl
  have c19 : C[19]? = some (.int .i64 a.act.kind) := by rw [hC]; rfl
  have d19 : D[19]? = some (.int .i64 b.act.kind) := by rw [hD]; rfl
  have c20 : C[20]? = some (.int .i64 a.act.who) := by rw [hC]; rfl
  have d20 : D[20]? = some (.int .i64 b.act.who) := by rw [hD]; rfl
  have c21 : C[21]? = some (.int .i64 a.act.n) := by rw [hC]; rfl
  have d21 : D[21]? = some (.int .i64 b.act.n) := by rw [hD]; rfl
  have c22 : C[22]? = some (.int .i64 a.act.call) := by rw [hC]; rfl
  have d22 : D[22]? = some (.int .i64 b.act.call) := by rw [hD]; rfl
  have c23 : C[23]? = some (.int .i64 a.act.other) := by rw [hC]; rfl
  have d23 : D[23]? = some (.int .i64 b.act.other) := by rw [hD]; rfl
  have c24 : C[24]? = some (.int .i64 a.act.node) := by rw [hC]; rfl
  have d24 : D[24]? = some (.int .i64 b.act.node) := by rw [hD]; rfl
  have c25 : C[25]? = some (.slice a.act.sA a.act.srcs.length a.act.sc) := by rw [hC]; rfl
  have d25 : D[25]? = some (.slice b.act.sA b.act.srcs.length b.act.sc) := by rw [hD]; rfl
  have c26 : C[26]? = some (.slice a.act.gA a.act.groups.length a.act.gc) := by rw [hC]; rfl
  have d26 : D[26]? = some (.slice b.act.gA b.act.groups.length b.act.gc) := by rw [hD]; rfl
  rw [hva, hvb]
  have hb1 : Below w.heap.size w ((w.alloc (.cells C 35)).alloc (.cells D 35)) := ((Below.refl _ _).alloc (Nat.le_refl _) _).alloc (by simp) _
  have HB1 := Lib.hid hb1
  have S8 := Lib.hid (And.intro (bytes_str (Sl.below ha.body (hb1.mono hA)) a.ec) (bytes_str (Sl.below hb.body (hb1.mono hB)) b.ec))
  rw [← h8] at S8
  obtain ⟨W1, hW1⟩ : ∃ W1, W1 = ((w.alloc (.cells C 35)).alloc (.cells D 35)) := ⟨_, rfl⟩
  have HC19 := Lib.hid (sameAct_any a.act b.act W1 BA BB (ha.act.below (by rw [hW1]; exact hb1.mono hA)) (hb.act.below (by rw [hW1]; exact hb1.mono hB)) (by rw [hW1]; exact Nat.le_trans hA hb1.size) (by rw [hW1]; exact Nat.le_trans hB hb1.size) hl.ns hl.nn hl.ng)
  unfold actV at HC19
  rw [tb_false hne] at HC19
  have HBY := Lib.hid (And.intro ha.bytes (And.intro hb.bytes (And.intro hA hB)))
  have HPQ : Hid (W1.cell? ⟨w.heap.size, 27, none⟩ = some (.slice a.bA a.bytes.length a.bc) ∧ W1.cell? ⟨w.heap.size + 1, 27, none⟩ = some (.slice b.bA b.bytes.length b.bc) ∧ w.heap.size + 1 < W1.heap.size) := Lib.hid (by
    obtain ⟨h1, h2, _, h4⟩ := two_boxes w (evCs a) (evCs b) 35 35 W1 (by rw [hW1, hC, hD])
    exact ⟨h1 27 _ rfl, h2 27 _ rfl, h4⟩)
  have HW := Lib.hid hW1
  have HNE := Lib.hid hne
  clear hC hD hva hvb hb1 ha hb hA hB hl h0 h1 h2 h3 h4 h5 h6 h7 h8 h9 h10 hne hW1
  go_enter Tryz.func11, Tryz.ntmps11
  simp only [List.append]
  go_wp2_with (first | ((with_reducible refine wpList_at 67 rfl ?_); (refine wpList_convV (v := .slice a.eA a.ebody.length a.ec) rfl rfl rfl S8.out.1 ?_; simp only [Act.put, List.setIfInBounds_toArray, List.set_cons_zero, List.set_cons_succ])) | ((with_reducible refine wpList_at 71 rfl ?_); (refine wpList_convV (v := .slice b.eA a.ebody.length b.ec) rfl rfl rfl S8.out.2 ?_; simp only [Act.put, List.setIfInBounds_toArray, List.set_cons_zero, List.set_cons_succ])) | ((with_reducible refine wpList_at 79 rfl ?_); (refine wpList_eqO (o1 := a.ord) (o2 := a.ord) rfl rfl rfl rfl true (tb_true rfl) ?_; simp only [Act.put, List.setIfInBounds_toArray, List.set_cons_zero, List.set_cons_succ])) | ((with_reducible refine wpList_at 86 rfl ?_); (refine wpList_eqS (o1 := a.sta) (o2 := a.sta) rfl rfl rfl rfl true (tb_true rfl) ?_; simp only [Act.put, List.setIfInBounds_toArray, List.set_cons_zero, List.set_cons_succ])))
  rw [← HW.out]
  refine HC19.out.mono ?_
  rintro e V ⟨rfl, hbv⟩
  have HV := Lib.hid (show Below w.heap.size w V from HB1.out.trans ((HW.out ▸ hbv).mono HB1.out.size))
  clear hbv c0 d0 c1 d1 c2 d2 c3 d3 c4 d4 c5 d5 c6 d6 c7 d7 c8 d8 c9 d9 c10 d10 c11 d11 c12 d12 c13 d13 c14 d14 c15 d15 c16 d16 c17 d17 c18 d18 c19 d19 c20 d20 c21 d21 c22 d22 c23 d23 c24 d24 c25 d25 c26 d26
  go_wp2_with fail
  go_ret
  exact ⟨ret_no (fun q => HNE.out (congrArg EvC.act q)), HV.out⟩
end
section
open Go.RowKit Go.Maps

set_option maxRecDepth 100000 in
set_option maxHeartbeats 16000000 in
theorem one_12 (a b : EvM) (w : World) (BA BB : Nat) (ha : EvAt w BA a) (hb : EvAt w BB b) (hA : BA ≤ w.heap.size) (hB : BB ≤ w.heap.size) (hl : ActL a.act) (h0 : a.kind = b.kind) (h1 : a.tick = b.tick) (h2 : a.who = b.who) (h3 : a.call = b.call) (h4 : a.epoch = b.epoch) (h5 : a.n = b.n) (h6 : a.eterm = b.eterm) (h7 : a.ekind = b.ekind) (h8 : a.ebody = b.ebody) (h9 : a.ord = b.ord) (h10 : a.sta = b.sta) (h11 : a.act.con = b.act.con) (hne : ¬ a.bytes = b.bytes) : Calls Tryz.prog 11 #[evV a, evV b] w (RetOne a b w) := by
  obtain ⟨C, hC⟩ : ∃ C, C = (evCs a).toArray := ⟨_, rfl⟩
  obtain ⟨D, hD⟩ : ∃ D, D = (evCs b).toArray := ⟨_, rfl⟩
  have hva : evV a = .agg C := by rw [hC]; rfl
  have hvb : evV b = .agg D := by rw [hD]; rfl
  have c0 : C[0]? = some (.int .i64 a.kind) := by rw [hC]; rfl
  have d0 : D[0]? = some (.int .i64 a.kind) := by rw [hD, h0]; rfl
  have c1 : C[1]? = some (.int .i64 a.tick) := by rw [hC]; rfl
  have d1 : D[1]? = some (.int .i64 a.tick) := by rw [hD, h1]; rfl
  have c2 : C[2]? = some (.int .i64 a.who) := by rw [hC]; rfl
  have d2 : D[2]? = some (.int .i64 a.who) := by rw [hD, h2]; rfl
  have c3 : C[3]? = some (.int .i64 a.call) := by rw [hC]; rfl
  have d3 : D[3]? = some (.int .i64 a.call) := by rw [hD, h3]; rfl
  have c4 : C[4]? = some (.int .i64 a.epoch) := by rw [hC]; rfl
  have d4 : D[4]? = some (.int .i64 a.epoch) := by rw [hD, h4]; rfl
  have c5 : C[5]? = some (.int .i64 a.n) := by rw [hC]; rfl
  have d5 : D[5]? = some (.int .i64 a.n) := by rw [hD, h5]; rfl
  have c6 : C[6]? = some (.int .i64 a.eterm) := by rw [hC]; rfl
  have d6 : D[6]? = some (.int .i64 a.eterm) := by rw [hD, h6]; rfl
  have c7 : C[7]? = some (.int .i64 a.ekind) := by rw [hC]; rfl
  have d7 : D[7]? = some (.int .i64 a.ekind) := by rw [hD, h7]; rfl
  have c8 : C[8]? = some (.slice a.eA a.ebody.length a.ec) := by rw [hC]; rfl
  have d8 : D[8]? = some (.slice b.eA a.ebody.length b.ec) := by rw [hD, h8]; rfl
  have c9 : C[9]? = some (.int .i64 a.ord.unit) := by rw [hC]; rfl
  have d9 : D[9]? = some (.int .i64 a.ord.unit) := by rw [hD, h9]; rfl
  have c10 : C[10]? = some (.int .i64 a.ord.epoch) := by rw [hC]; rfl
  have d10 : D[10]? = some (.int .i64 a.ord.epoch) := by rw [hD, h9]; rfl
  have c11 : C[11]? = some (.int .i64 a.ord.kind) := by rw [hC]; rfl
  have d11 : D[11]? = some (.int .i64 a.ord.kind) := by rw [hD, h9]; rfl
  have c12 : C[12]? = some (.int .i64 a.ord.incident) := by rw [hC]; rfl
  have d12 : D[12]? = some (.int .i64 a.ord.incident) := by rw [hD, h9]; rfl
  have c13 : C[13]? = some (.int .i64 a.ord.node) := by rw [hC]; rfl
  have d13 : D[13]? = some (.int .i64 a.ord.node) := by rw [hD, h9]; rfl
  have c14 : C[14]? = some (.int .i64 a.sta.unit) := by rw [hC]; rfl
  have d14 : D[14]? = some (.int .i64 a.sta.unit) := by rw [hD, h10]; rfl
  have c15 : C[15]? = some (.int .i64 a.sta.seq) := by rw [hC]; rfl
  have d15 : D[15]? = some (.int .i64 a.sta.seq) := by rw [hD, h10]; rfl
  have c16 : C[16]? = some (.int .i64 a.sta.state) := by rw [hC]; rfl
  have d16 : D[16]? = some (.int .i64 a.sta.state) := by rw [hD, h10]; rfl
  have c17 : C[17]? = some (.int .i64 a.sta.node) := by rw [hC]; rfl
  have d17 : D[17]? = some (.int .i64 a.sta.node) := by rw [hD, h10]; rfl
  have c18 : C[18]? = some (.int .i64 a.sta.epoch) := by rw [hC]; rfl
  have d18 : D[18]? = some (.int .i64 a.sta.epoch) := by rw [hD, h10]; rfl
  have c19 : C[19]? = some (.int .i64 a.act.kind) := by rw [hC]; rfl
  have d19 : D[19]? = some (.int .i64 b.act.kind) := by rw [hD]; rfl
  have c20 : C[20]? = some (.int .i64 a.act.who) := by rw [hC]; rfl
  have d20 : D[20]? = some (.int .i64 b.act.who) := by rw [hD]; rfl
  have c21 : C[21]? = some (.int .i64 a.act.n) := by rw [hC]; rfl
  have d21 : D[21]? = some (.int .i64 b.act.n) := by rw [hD]; rfl
  have c22 : C[22]? = some (.int .i64 a.act.call) := by rw [hC]; rfl
  have d22 : D[22]? = some (.int .i64 b.act.call) := by rw [hD]; rfl
  have c23 : C[23]? = some (.int .i64 a.act.other) := by rw [hC]; rfl
  have d23 : D[23]? = some (.int .i64 b.act.other) := by rw [hD]; rfl
  have c24 : C[24]? = some (.int .i64 a.act.node) := by rw [hC]; rfl
  have d24 : D[24]? = some (.int .i64 b.act.node) := by rw [hD]; rfl
  have c25 : C[25]? = some (.slice a.act.sA a.act.srcs.length a.act.sc) := by rw [hC]; rfl
  have d25 : D[25]? = some (.slice b.act.sA b.act.srcs.length b.act.sc) := by rw [hD]; rfl
  have c26 : C[26]? = some (.slice a.act.gA a.act.groups.length a.act.gc) := by rw [hC]; rfl
  have d26 : D[26]? = some (.slice b.act.gA b.act.groups.length b.act.gc) := by rw [hD]; rfl
  rw [hva, hvb]
  have hb1 : Below w.heap.size w ((w.alloc (.cells C 35)).alloc (.cells D 35)) := ((Below.refl _ _).alloc (Nat.le_refl _) _).alloc (by simp) _
  have HB1 := Lib.hid hb1
  have S8 := Lib.hid (And.intro (bytes_str (Sl.below ha.body (hb1.mono hA)) a.ec) (bytes_str (Sl.below hb.body (hb1.mono hB)) b.ec))
  rw [← h8] at S8
  obtain ⟨W1, hW1⟩ : ∃ W1, W1 = ((w.alloc (.cells C 35)).alloc (.cells D 35)) := ⟨_, rfl⟩
  have HC19 := Lib.hid (sameAct_any a.act b.act W1 BA BB (ha.act.below (by rw [hW1]; exact hb1.mono hA)) (hb.act.below (by rw [hW1]; exact hb1.mono hB)) (by rw [hW1]; exact Nat.le_trans hA hb1.size) (by rw [hW1]; exact Nat.le_trans hB hb1.size) hl.ns hl.nn hl.ng)
  unfold actV at HC19
  rw [tb_true h11] at HC19
  have HBY := Lib.hid (And.intro ha.bytes (And.intro hb.bytes (And.intro hA hB)))
  have HPQ : Hid (W1.cell? ⟨w.heap.size, 27, none⟩ = some (.slice a.bA a.bytes.length a.bc) ∧ W1.cell? ⟨w.heap.size + 1, 27, none⟩ = some (.slice b.bA b.bytes.length b.bc) ∧ w.heap.size + 1 < W1.heap.size) := Lib.hid (by
    obtain ⟨h1, h2, _, h4⟩ := two_boxes w (evCs a) (evCs b) 35 35 W1 (by rw [hW1, hC, hD])
    exact ⟨h1 27 _ rfl, h2 27 _ rfl, h4⟩)
  have HW := Lib.hid hW1
  have HNE := Lib.hid hne
  have H12 := Lib.hid hne
  clear hC hD hva hvb hb1 ha hb hA hB hl h0 h1 h2 h3 h4 h5 h6 h7 h8 h9 h10 h11 hne hW1
  go_enter Tryz.func11, Tryz.ntmps11
  simp only [List.append]
  go_wp2_with (first | ((with_reducible refine wpList_at 67 rfl ?_); (refine wpList_convV (v := .slice a.eA a.ebody.length a.ec) rfl rfl rfl S8.out.1 ?_; simp only [Act.put, List.setIfInBounds_toArray, List.set_cons_zero, List.set_cons_succ])) | ((with_reducible refine wpList_at 71 rfl ?_); (refine wpList_convV (v := .slice b.eA a.ebody.length b.ec) rfl rfl rfl S8.out.2 ?_; simp only [Act.put, List.setIfInBounds_toArray, List.set_cons_zero, List.set_cons_succ])) | ((with_reducible refine wpList_at 79 rfl ?_); (refine wpList_eqO (o1 := a.ord) (o2 := a.ord) rfl rfl rfl rfl true (tb_true rfl) ?_; simp only [Act.put, List.setIfInBounds_toArray, List.set_cons_zero, List.set_cons_succ])) | ((with_reducible refine wpList_at 86 rfl ?_); (refine wpList_eqS (o1 := a.sta) (o2 := a.sta) rfl rfl rfl rfl true (tb_true rfl) ?_; simp only [Act.put, List.setIfInBounds_toArray, List.set_cons_zero, List.set_cons_succ])))
  rw [← HW.out]
  refine HC19.out.mono ?_
  rintro e V ⟨rfl, hbv⟩
  have HV := Lib.hid (show Below w.heap.size w V from HB1.out.trans ((HW.out ▸ hbv).mono HB1.out.size))
  have p27 := (hbv.cell (p := ⟨w.heap.size, 27, none⟩) (by have := HPQ.out.2.2; show w.heap.size < _; omega)).trans HPQ.out.1
  have q27 := (hbv.cell (p := ⟨w.heap.size + 1, 27, none⟩) HPQ.out.2.2).trans HPQ.out.2.1
  have s20a := bytes_str (Sl.below HBY.out.1 (HV.out.mono HBY.out.2.2.1)) a.bc
  have s20b := bytes_str (Sl.below HBY.out.2.1 (HV.out.mono HBY.out.2.2.2)) b.bc
  have e20 : ((bs a.bytes).toList == (bs b.bytes).toList) = false := str_ne (fun q => H12.out (bs_inj q))
  clear hbv c0 d0 c1 d1 c2 d2 c3 d3 c4 d4 c5 d5 c6 d6 c7 d7 c8 d8 c9 d9 c10 d10 c11 d11 c12 d12 c13 d13 c14 d14 c15 d15 c16 d16 c17 d17 c18 d18 c19 d19 c20 d20 c21 d21 c22 d22 c23 d23 c24 d24 c25 d25 c26 d26
  go_wp2_with fail
  go_ret
  exact ⟨ret_no (fun q => HNE.out (congrArg EvC.bytes q)), HV.out⟩
end
section
open Go.RowKit Go.Maps

set_option maxRecDepth 100000 in
set_option maxHeartbeats 16000000 in
theorem one_13 (a b : EvM) (w : World) (BA BB : Nat) (ha : EvAt w BA a) (hb : EvAt w BB b) (hA : BA ≤ w.heap.size) (hB : BB ≤ w.heap.size) (hl : ActL a.act) (h0 : a.kind = b.kind) (h1 : a.tick = b.tick) (h2 : a.who = b.who) (h3 : a.call = b.call) (h4 : a.epoch = b.epoch) (h5 : a.n = b.n) (h6 : a.eterm = b.eterm) (h7 : a.ekind = b.ekind) (h8 : a.ebody = b.ebody) (h9 : a.ord = b.ord) (h10 : a.sta = b.sta) (h11 : a.act.con = b.act.con) (h12 : a.bytes = b.bytes) : Calls Tryz.prog 11 #[evV a, evV b] w (RetOne a b w) := by
  obtain ⟨C, hC⟩ : ∃ C, C = (evCs a).toArray := ⟨_, rfl⟩
  obtain ⟨D, hD⟩ : ∃ D, D = (evCs b).toArray := ⟨_, rfl⟩
  have hva : evV a = .agg C := by rw [hC]; rfl
  have hvb : evV b = .agg D := by rw [hD]; rfl
  have c0 : C[0]? = some (.int .i64 a.kind) := by rw [hC]; rfl
  have d0 : D[0]? = some (.int .i64 a.kind) := by rw [hD, h0]; rfl
  have c1 : C[1]? = some (.int .i64 a.tick) := by rw [hC]; rfl
  have d1 : D[1]? = some (.int .i64 a.tick) := by rw [hD, h1]; rfl
  have c2 : C[2]? = some (.int .i64 a.who) := by rw [hC]; rfl
  have d2 : D[2]? = some (.int .i64 a.who) := by rw [hD, h2]; rfl
  have c3 : C[3]? = some (.int .i64 a.call) := by rw [hC]; rfl
  have d3 : D[3]? = some (.int .i64 a.call) := by rw [hD, h3]; rfl
  have c4 : C[4]? = some (.int .i64 a.epoch) := by rw [hC]; rfl
  have d4 : D[4]? = some (.int .i64 a.epoch) := by rw [hD, h4]; rfl
  have c5 : C[5]? = some (.int .i64 a.n) := by rw [hC]; rfl
  have d5 : D[5]? = some (.int .i64 a.n) := by rw [hD, h5]; rfl
  have c6 : C[6]? = some (.int .i64 a.eterm) := by rw [hC]; rfl
  have d6 : D[6]? = some (.int .i64 a.eterm) := by rw [hD, h6]; rfl
  have c7 : C[7]? = some (.int .i64 a.ekind) := by rw [hC]; rfl
  have d7 : D[7]? = some (.int .i64 a.ekind) := by rw [hD, h7]; rfl
  have c8 : C[8]? = some (.slice a.eA a.ebody.length a.ec) := by rw [hC]; rfl
  have d8 : D[8]? = some (.slice b.eA a.ebody.length b.ec) := by rw [hD, h8]; rfl
  have c9 : C[9]? = some (.int .i64 a.ord.unit) := by rw [hC]; rfl
  have d9 : D[9]? = some (.int .i64 a.ord.unit) := by rw [hD, h9]; rfl
  have c10 : C[10]? = some (.int .i64 a.ord.epoch) := by rw [hC]; rfl
  have d10 : D[10]? = some (.int .i64 a.ord.epoch) := by rw [hD, h9]; rfl
  have c11 : C[11]? = some (.int .i64 a.ord.kind) := by rw [hC]; rfl
  have d11 : D[11]? = some (.int .i64 a.ord.kind) := by rw [hD, h9]; rfl
  have c12 : C[12]? = some (.int .i64 a.ord.incident) := by rw [hC]; rfl
  have d12 : D[12]? = some (.int .i64 a.ord.incident) := by rw [hD, h9]; rfl
  have c13 : C[13]? = some (.int .i64 a.ord.node) := by rw [hC]; rfl
  have d13 : D[13]? = some (.int .i64 a.ord.node) := by rw [hD, h9]; rfl
  have c14 : C[14]? = some (.int .i64 a.sta.unit) := by rw [hC]; rfl
  have d14 : D[14]? = some (.int .i64 a.sta.unit) := by rw [hD, h10]; rfl
  have c15 : C[15]? = some (.int .i64 a.sta.seq) := by rw [hC]; rfl
  have d15 : D[15]? = some (.int .i64 a.sta.seq) := by rw [hD, h10]; rfl
  have c16 : C[16]? = some (.int .i64 a.sta.state) := by rw [hC]; rfl
  have d16 : D[16]? = some (.int .i64 a.sta.state) := by rw [hD, h10]; rfl
  have c17 : C[17]? = some (.int .i64 a.sta.node) := by rw [hC]; rfl
  have d17 : D[17]? = some (.int .i64 a.sta.node) := by rw [hD, h10]; rfl
  have c18 : C[18]? = some (.int .i64 a.sta.epoch) := by rw [hC]; rfl
  have d18 : D[18]? = some (.int .i64 a.sta.epoch) := by rw [hD, h10]; rfl
  have c19 : C[19]? = some (.int .i64 a.act.kind) := by rw [hC]; rfl
  have d19 : D[19]? = some (.int .i64 b.act.kind) := by rw [hD]; rfl
  have c20 : C[20]? = some (.int .i64 a.act.who) := by rw [hC]; rfl
  have d20 : D[20]? = some (.int .i64 b.act.who) := by rw [hD]; rfl
  have c21 : C[21]? = some (.int .i64 a.act.n) := by rw [hC]; rfl
  have d21 : D[21]? = some (.int .i64 b.act.n) := by rw [hD]; rfl
  have c22 : C[22]? = some (.int .i64 a.act.call) := by rw [hC]; rfl
  have d22 : D[22]? = some (.int .i64 b.act.call) := by rw [hD]; rfl
  have c23 : C[23]? = some (.int .i64 a.act.other) := by rw [hC]; rfl
  have d23 : D[23]? = some (.int .i64 b.act.other) := by rw [hD]; rfl
  have c24 : C[24]? = some (.int .i64 a.act.node) := by rw [hC]; rfl
  have d24 : D[24]? = some (.int .i64 b.act.node) := by rw [hD]; rfl
  have c25 : C[25]? = some (.slice a.act.sA a.act.srcs.length a.act.sc) := by rw [hC]; rfl
  have d25 : D[25]? = some (.slice b.act.sA b.act.srcs.length b.act.sc) := by rw [hD]; rfl
  have c26 : C[26]? = some (.slice a.act.gA a.act.groups.length a.act.gc) := by rw [hC]; rfl
  have d26 : D[26]? = some (.slice b.act.gA b.act.groups.length b.act.gc) := by rw [hD]; rfl
  rw [hva, hvb]
  have hb1 : Below w.heap.size w ((w.alloc (.cells C 35)).alloc (.cells D 35)) := ((Below.refl _ _).alloc (Nat.le_refl _) _).alloc (by simp) _
  have HB1 := Lib.hid hb1
  have S8 := Lib.hid (And.intro (bytes_str (Sl.below ha.body (hb1.mono hA)) a.ec) (bytes_str (Sl.below hb.body (hb1.mono hB)) b.ec))
  rw [← h8] at S8
  obtain ⟨W1, hW1⟩ : ∃ W1, W1 = ((w.alloc (.cells C 35)).alloc (.cells D 35)) := ⟨_, rfl⟩
  have HC19 := Lib.hid (sameAct_any a.act b.act W1 BA BB (ha.act.below (by rw [hW1]; exact hb1.mono hA)) (hb.act.below (by rw [hW1]; exact hb1.mono hB)) (by rw [hW1]; exact Nat.le_trans hA hb1.size) (by rw [hW1]; exact Nat.le_trans hB hb1.size) hl.ns hl.nn hl.ng)
  unfold actV at HC19
  rw [tb_true h11] at HC19
  have HBY := Lib.hid (And.intro ha.bytes (And.intro hb.bytes (And.intro hA hB)))
  have HPQ : Hid (W1.cell? ⟨w.heap.size, 27, none⟩ = some (.slice a.bA a.bytes.length a.bc) ∧ W1.cell? ⟨w.heap.size + 1, 27, none⟩ = some (.slice b.bA b.bytes.length b.bc) ∧ w.heap.size + 1 < W1.heap.size) := Lib.hid (by
    obtain ⟨h1, h2, _, h4⟩ := two_boxes w (evCs a) (evCs b) 35 35 W1 (by rw [hW1, hC, hD])
    exact ⟨h1 27 _ rfl, h2 27 _ rfl, h4⟩)
  have HW := Lib.hid hW1
  have HEQ : Hid (a.con = b.con) := Lib.hid (by
    obtain ⟨o1, o2, o3, o4, o5⟩ := (ord_iff _ _).1 h9
    obtain ⟨s1, s2, s3, s4, s5⟩ := (sta_iff _ _).1 h10
    exact (evc_iff a b).2 ⟨h0, h1, h2, h3, h4, h5, h6, h7, h8, o1, o2, o3, o4, o5, s1, s2, s3, s4, s5, h11, h12⟩)
  have H12 := Lib.hid h12
  clear hC hD hva hvb hb1 ha hb hA hB hl h0 h1 h2 h3 h4 h5 h6 h7 h8 h9 h10 h11 h12  hW1
  go_enter Tryz.func11, Tryz.ntmps11
  simp only [List.append]
  go_wp2_with (first | ((with_reducible refine wpList_at 67 rfl ?_); (refine wpList_convV (v := .slice a.eA a.ebody.length a.ec) rfl rfl rfl S8.out.1 ?_; simp only [Act.put, List.setIfInBounds_toArray, List.set_cons_zero, List.set_cons_succ])) | ((with_reducible refine wpList_at 71 rfl ?_); (refine wpList_convV (v := .slice b.eA a.ebody.length b.ec) rfl rfl rfl S8.out.2 ?_; simp only [Act.put, List.setIfInBounds_toArray, List.set_cons_zero, List.set_cons_succ])) | ((with_reducible refine wpList_at 79 rfl ?_); (refine wpList_eqO (o1 := a.ord) (o2 := a.ord) rfl rfl rfl rfl true (tb_true rfl) ?_; simp only [Act.put, List.setIfInBounds_toArray, List.set_cons_zero, List.set_cons_succ])) | ((with_reducible refine wpList_at 86 rfl ?_); (refine wpList_eqS (o1 := a.sta) (o2 := a.sta) rfl rfl rfl rfl true (tb_true rfl) ?_; simp only [Act.put, List.setIfInBounds_toArray, List.set_cons_zero, List.set_cons_succ])))
  rw [← HW.out]
  refine HC19.out.mono ?_
  rintro e V ⟨rfl, hbv⟩
  have HV := Lib.hid (show Below w.heap.size w V from HB1.out.trans ((HW.out ▸ hbv).mono HB1.out.size))
  have p27 := (hbv.cell (p := ⟨w.heap.size, 27, none⟩) (by have := HPQ.out.2.2; show w.heap.size < _; omega)).trans HPQ.out.1
  have q27 := (hbv.cell (p := ⟨w.heap.size + 1, 27, none⟩) HPQ.out.2.2).trans HPQ.out.2.1
  have s20a := bytes_str (Sl.below HBY.out.1 (HV.out.mono HBY.out.2.2.1)) a.bc
  have s20b := bytes_str (Sl.below HBY.out.2.1 (HV.out.mono HBY.out.2.2.2)) b.bc
  have e20 : ((bs a.bytes).toList == (bs b.bytes).toList) = true := str_eq (congrArg bs H12.out)
  clear hbv c0 d0 c1 d1 c2 d2 c3 d3 c4 d4 c5 d5 c6 d6 c7 d7 c8 d8 c9 d9 c10 d10 c11 d11 c12 d12 c13 d13 c14 d14 c15 d15 c16 d16 c17 d17 c18 d18 c19 d19 c20 d20 c21 d21 c22 d22 c23 d23 c24 d24 c25 d25 c26 d26
  go_wp2_with fail
  go_ret
  exact ⟨ret_yes HEQ.out, HV.out⟩
end
section
open Go.RowKit Go.Maps

theorem one_any (a b : EvM) (w : World) (BA BB : Nat) (ha : EvAt w BA a) (hb : EvAt w BB b) (hA : BA ≤ w.heap.size) (hB : BB ≤ w.heap.size) (hl : ActL a.act) : Calls Tryz.prog 11 #[evV a, evV b] w (RetOne a b w) := by
  by_cases h0 : a.kind = b.kind
  rotate_left
  · exact one_0 a b w h0
  by_cases h1 : a.tick = b.tick
  rotate_left
  · exact one_1 a b w h0 h1
  by_cases h2 : a.who = b.who
  rotate_left
  · exact one_2 a b w h0 h1 h2
  by_cases h3 : a.call = b.call
  rotate_left
  · exact one_3 a b w h0 h1 h2 h3
  by_cases h4 : a.epoch = b.epoch
  rotate_left
  · exact one_4 a b w h0 h1 h2 h3 h4
  by_cases h5 : a.n = b.n
  rotate_left
  · exact one_5 a b w h0 h1 h2 h3 h4 h5
  by_cases h6 : a.eterm = b.eterm
  rotate_left
  · exact one_6 a b w h0 h1 h2 h3 h4 h5 h6
  by_cases h7 : a.ekind = b.ekind
  rotate_left
  · exact one_7 a b w h0 h1 h2 h3 h4 h5 h6 h7
  by_cases h8 : a.ebody = b.ebody
  rotate_left
  · exact one_8 a b w BA BB ha hb hA hB h0 h1 h2 h3 h4 h5 h6 h7 h8
  by_cases h9 : a.ord = b.ord
  rotate_left
  · exact one_9 a b w BA BB ha hb hA hB h0 h1 h2 h3 h4 h5 h6 h7 h8 h9
  by_cases h10 : a.sta = b.sta
  rotate_left
  · exact one_10 a b w BA BB ha hb hA hB h0 h1 h2 h3 h4 h5 h6 h7 h8 h9 h10
  by_cases h11 : a.act.con = b.act.con
  rotate_left
  · exact one_11 a b w BA BB ha hb hA hB hl h0 h1 h2 h3 h4 h5 h6 h7 h8 h9 h10 h11
  by_cases h12 : a.bytes = b.bytes
  rotate_left
  · exact one_12 a b w BA BB ha hb hA hB hl h0 h1 h2 h3 h4 h5 h6 h7 h8 h9 h10 h11 h12
  exact one_13 a b w BA BB ha hb hA hB hl h0 h1 h2 h3 h4 h5 h6 h7 h8 h9 h10 h11 h12
end
section
open Go.RowKit Go.Maps

theorem wpList_op {P : Program} {ops : Array Oper} {Q : Exit → Act → World → Prop} {o : Oper} {r : List Oper} {a : Act} {w : World} (x : Op) (_ho : o.op = x) (h : wpList P ops Q (o :: r) a w) : wpList P ops Q (o :: r) a w := h
theorem wpList_build_v {P : Program} {ops : Array Oper} {rest : List Oper} {o : Oper} {a : Act} {w : World} {Q : Exit → Act → World → Prop} (hg : o.guard = none) (t : TypeId) (parts : Array (Nat × Operand)) (ho : o.op = .build t parts) (D : Array Value) (vals : List (Nat × Value))
    (hv : (parts.map fun (i, x) => (i, a.eval x)).toList = vals) (hf : P.built t vals = some D) (h : wpList P ops Q rest (a.put o.dst (.agg D)) w) : wpList P ops Q (o :: rest) a w :=
  wpList_build_to hg t parts ho D (by rw [hv]; exact hf) h
theorem blk_range {X : World} {b : Nat} {T : TypeId} {cs : List Value} (h : Blk X b T cs) : X.rangeAt b 0 cs := fun j v hj => by
  have := h.cell hj
  simpa using this
theorem range_part {X : World} {b o : Nat} {cs ds : List Value} (h : X.rangeAt b 0 cs) (hd : ∀ j v, ds[j]? = some v → cs[o + j]? = some v) : X.rangeAt b o ds := fun j v hj => by
  have := h (o + j) v (hd j v hj)
  simpa using this
theorem blk_there {X : World} {b : Nat} {T : TypeId} {cs : List Value} (h : Blk X b T cs) {o n : Nat} (hn : o + n ≤ cs.length) : X.there b o n := fun j hj => by
  refine ⟨?_, h.free _⟩
  have e : cs[o + j]? = some (cs[o + j]'(by omega)) := by simp
  rw [h.cell e]
  rfl
theorem step_store_mid {P : Program} {ops : Array Oper} {o : Oper} {a : Act} {w : World} {K : Act → World → Prop} {Q : Exit → Act → World → Prop} {E : Prop} (hw : Region.wanted o (yielded ops a.tmps) = true) (ty : TypeId) (x y : Operand) (ho : o.op = .store ty x y)
    (b k : Nat) (cells : Array Value) (hx : a.eval x = .pointer (some ⟨b, k, none⟩)) (hy : a.eval y = .agg cells) (ht : w.there b k cells.size) (hi : (P.info? ty).map (·.size) = some cells.size) (h1 : cells.all (·.oneCell') = true)
    (W' : World) (hW : w.setCells b k cells.toList = W') (h : K (a.put o.dst undef) W') : if Region.wanted o (yielded ops a.tmps) = true then Oper.wp P o a w K Q else E := by
  rw [if_pos hw]
  exact wp_store_mid ty x y ho b k cells hx hy ht hi h1 (by rw [hW]; exact h)
theorem wpList_store_to {P : Program} {ops : Array Oper} {rest : List Oper} {o : Oper} {a : Act} {w : World} {Q : Exit → Act → World → Prop} (hg : o.guard = none) (ty : TypeId) (x y : Operand) (ho : o.op = .store ty x y)
    (b k : Nat) (cells : Array Value) (hx : a.eval x = .pointer (some ⟨b, k, none⟩)) (hy : a.eval y = .agg cells) (ht : w.there b k cells.size) (hi : (P.info? ty).map (·.size) = some cells.size) (h1 : cells.all (·.oneCell') = true)
    (W' : World) (hW : w.setCells b k cells.toList = W') (h : wpList P ops Q rest (a.put o.dst undef) W') : wpList P ops Q (o :: rest) a w :=
  wpList_store_mid hg ty x y ho b k cells hx hy ht hi h1 (by rw [hW]; exact h)
/-- what Only returns. -/
def RetOE (a : EvM) (B : Nat) (w : World) (e : Ending) (w' : World) : Prop := ∃ a' : EvM, e = .returned (evV a') ∧ a'.con = onlyE a.con ∧ EvAt w' B a' ∧ ActL a'.act ∧ Below w.heap.size w w'
set_option maxRecDepth 100000 in
set_option maxHeartbeats 8000000 in
theorem onlyEv_1 (a : EvM) (w : World) (B : Nat) (hat : EvAt w B a) (hB : B ≤ w.heap.size) (hl : ActL a.act) (hk : a.kind = 1) : Calls Tryz.prog 69 #[evV a] w (RetOE a B w) := by
  obtain ⟨C, hC⟩ : ∃ C, C = (evCs a).toArray := ⟨_, rfl⟩
  have hv : evV a = .agg C := by rw [hC]; rfl
  have c0 : C[0]? = some (.int .i64 1) := by rw [hC, ← hk]; rfl
  have c1 : C[1]? = some (.int .i64 a.tick) := by rw [hC]; rfl
  obtain ⟨D0, hD0⟩ : ∃ D, D = (evCs (EvM.zero 1 a.tick)).toArray := ⟨_, rfl⟩
  have hbt : Tryz.prog.built 35 [(0, .int .i64 1), (1, .int .i64 a.tick)] = some D0 := by rw [hD0]; rfl
  have hsz0 : (Tryz.prog.info? 35).map (·.size) = some D0.size := by rw [hD0]; exact ev_size
  have hone0 : D0.all (·.oneCell') = true := by rw [hD0]; exact evCs_one _
  have hold0 : (#[.int .i64 0, .int .i64 0, .int .i64 0, .int .i64 0, .int .i64 0, .int .i64 0, .int .i64 0, .int .i64 0, .slice none 0 0, .int .i64 0, .int .i64 0, .int .i64 0, .int .i64 0, .int .i64 0, .int .i64 0, .int .i64 0, .int .i64 0, .int .i64 0, .int .i64 0, .int .i64 0, .int .i64 0, .int .i64 0, .int .i64 0, .int .i64 0, .int .i64 0, .slice none 0 0, .slice none 0 0, .slice none 0 0] : Array Value).size = D0.size := by rw [hD0]; rfl
  obtain ⟨Z, hZ⟩ : ∃ Z : Array Value, Z = #[.int .i64 0, .int .i64 0, .int .i64 0, .int .i64 0, .int .i64 0, .int .i64 0, .int .i64 0, .int .i64 0, .slice none 0 0, .int .i64 0, .int .i64 0, .int .i64 0, .int .i64 0, .int .i64 0, .int .i64 0, .int .i64 0, .int .i64 0, .int .i64 0, .int .i64 0, .int .i64 0, .int .i64 0, .int .i64 0, .int .i64 0, .int .i64 0, .int .i64 0, .slice none 0 0, .slice none 0 0, .slice none 0 0] := ⟨_, rfl⟩
  obtain ⟨W2, hW2⟩ : ∃ W2, W2 = (w.alloc (.cells C 35)).alloc (.cells #[.int .i64 0, .int .i64 0, .int .i64 0, .int .i64 0, .int .i64 0, .int .i64 0, .int .i64 0, .int .i64 0, .slice none 0 0, .int .i64 0, .int .i64 0, .int .i64 0, .int .i64 0, .int .i64 0, .int .i64 0, .int .i64 0, .int .i64 0, .int .i64 0, .int .i64 0, .int .i64 0, .int .i64 0, .int .i64 0, .int .i64 0, .int .i64 0, .int .i64 0, .slice none 0 0, .slice none 0 0, .slice none 0 0] 35) := ⟨_, rfl⟩
  have hsW2 : W2.heap.size = w.heap.size + 1 + 1 := by rw [hW2]; simp
  have hoy := new_obj W2 (.cells #[.int .i64 0, .int .i64 0, .int .i64 0, .int .i64 0, .int .i64 0, .int .i64 0, .int .i64 0, .int .i64 0, .slice none 0 0, .int .i64 0, .int .i64 0, .int .i64 0, .int .i64 0, .int .i64 0, .int .i64 0, .int .i64 0, .int .i64 0, .int .i64 0, .int .i64 0, .int .i64 0, .int .i64 0, .int .i64 0, .int .i64 0, .int .i64 0, .int .i64 0, .slice none 0 0, .slice none 0 0, .slice none 0 0] 35)
  have hsr := World.setRow_alloc_new W2 #[.int .i64 0, .int .i64 0, .int .i64 0, .int .i64 0, .int .i64 0, .int .i64 0, .int .i64 0, .int .i64 0, .slice none 0 0, .int .i64 0, .int .i64 0, .int .i64 0, .int .i64 0, .int .i64 0, .int .i64 0, .int .i64 0, .int .i64 0, .int .i64 0, .int .i64 0, .int .i64 0, .int .i64 0, .int .i64 0, .int .i64 0, .int .i64 0, .int .i64 0, .slice none 0 0, .slice none 0 0, .slice none 0 0] D0 35
  obtain ⟨X1, hX1⟩ : ∃ X1, X1 = W2.alloc (.cells D0 35) := ⟨_, rfl⟩
  have HBL : Hid (Blk X1 w.heap.size 35 (evCs a) ∧ Blk X1 (w.heap.size + 1) 35 [.int .i64 0, .int .i64 0, .int .i64 0, .int .i64 0, .int .i64 0, .int .i64 0, .int .i64 0, .int .i64 0, .slice none 0 0, .int .i64 0, .int .i64 0, .int .i64 0, .int .i64 0, .int .i64 0, .int .i64 0, .int .i64 0, .int .i64 0, .int .i64 0, .int .i64 0, .int .i64 0, .int .i64 0, .int .i64 0, .int .i64 0, .int .i64 0, .int .i64 0, .slice none 0 0, .slice none 0 0, .slice none 0 0] ∧ Blk X1 (w.heap.size + 1 + 1) 35 (evCs (EvM.zero 1 a.tick)) ∧ Below w.heap.size w X1) := Lib.hid (by
    obtain ⟨h1, h2⟩ := two_blk w (evCs a) [.int .i64 0, .int .i64 0, .int .i64 0, .int .i64 0, .int .i64 0, .int .i64 0, .int .i64 0, .int .i64 0, .slice none 0 0, .int .i64 0, .int .i64 0, .int .i64 0, .int .i64 0, .int .i64 0, .int .i64 0, .int .i64 0, .int .i64 0, .int .i64 0, .int .i64 0, .int .i64 0, .int .i64 0, .int .i64 0, .int .i64 0, .int .i64 0, .int .i64 0, .slice none 0 0, .slice none 0 0, .slice none 0 0] 35 35
    rw [← hC] at h1 h2
    have hb3 := below_new W2 (.cells D0 35)
    rw [← hX1] at hb3
    rw [hW2] at hb3
    have hn := new_obj W2 (.cells D0 35)
    rw [← hX1, hsW2, hD0] at hn
    refine ⟨?_, ?_, hn, ?_⟩
    · exact (hb3.block _ h1.lt).trans h1
    · exact (hb3.block _ h2.lt).trans h2
    · exact (((Below.refl _ _).alloc (Nat.le_refl _) _).alloc (by simp) _).trans (hb3.mono (by simp; omega)))
  rw [← hX1, hsW2] at hsr
  rw [hsW2] at hoy
  rw [hW2] at hsr hoy
  have p19 := HBL.out.1.cell (j := 19) (u := .int .i64 a.act.kind) rfl
  have p20 := HBL.out.1.cell (j := 20) (u := .int .i64 a.act.who) rfl
  have p21 := HBL.out.1.cell (j := 21) (u := .int .i64 a.act.n) rfl
  have p22 := HBL.out.1.cell (j := 22) (u := .int .i64 a.act.call) rfl
  have p23 := HBL.out.1.cell (j := 23) (u := .int .i64 a.act.other) rfl
  have p24 := HBL.out.1.cell (j := 24) (u := .int .i64 a.act.node) rfl
  have p25 := HBL.out.1.cell (j := 25) (u := .slice a.act.sA a.act.srcs.length a.act.sc) rfl
  have p26 := HBL.out.1.cell (j := 26) (u := .slice a.act.gA a.act.groups.length a.act.gc) rfl
  have p0 : X1.cell? ⟨w.heap.size, 0, none⟩ = some (.int .i64 1) := by rw [← hk]; exact HBL.out.1.cell (j := 0) rfl
  have q19 := HBL.out.2.2.1.cell (j := 19) rfl
  have f19 := HBL.out.2.2.1.free 19
  have q20 := HBL.out.2.2.1.cell (j := 20) rfl
  have f20 := HBL.out.2.2.1.free 20
  have q21 := HBL.out.2.2.1.cell (j := 21) rfl
  have f21 := HBL.out.2.2.1.free 21
  have q22 := HBL.out.2.2.1.cell (j := 22) rfl
  have f22 := HBL.out.2.2.1.free 22
  have q23 := HBL.out.2.2.1.cell (j := 23) rfl
  have f23 := HBL.out.2.2.1.free 23
  have q24 := HBL.out.2.2.1.cell (j := 24) rfl
  have f24 := HBL.out.2.2.1.free 24
  have q25 := HBL.out.2.2.1.cell (j := 25) rfl
  have f25 := HBL.out.2.2.1.free 25
  have q26 := HBL.out.2.2.1.cell (j := 26) rfl
  have f26 := HBL.out.2.2.1.free 26
  have hlt3 := HBL.out.2.2.1.lt
  have hlt1 := HBL.out.1.lt
  obtain ⟨D, hD⟩ : ∃ D, D = (evCs ({ EvM.zero 1 a.tick with act := a.act } : EvM)).toArray := ⟨_, rfl⟩
  have hszd : (Tryz.prog.info? 35).map (·.size) = some D.size := by rw [hD]; exact ev_size
  have holdd : (#[.int .i64 0, .int .i64 0, .int .i64 0, .int .i64 0, .int .i64 0, .int .i64 0, .int .i64 0, .int .i64 0, .slice none 0 0, .int .i64 0, .int .i64 0, .int .i64 0, .int .i64 0, .int .i64 0, .int .i64 0, .int .i64 0, .int .i64 0, .int .i64 0, .int .i64 0, .int .i64 0, .int .i64 0, .int .i64 0, .int .i64 0, .int .i64 0, .int .i64 0, .slice none 0 0, .slice none 0 0, .slice none 0 0] : Array Value).size = D.size := by rw [hD]; rfl
  have honed : D.all (·.oneCell') = true := by rw [hD]; exact evCs_one _
  have HDV := Lib.hid (show evV ({ EvM.zero 1 a.tick with act := a.act } : EvM) = .agg D by rw [hD]; rfl)
  have HC0 : Hid (((((((((X1.setCell ⟨w.heap.size + 1 + 1, 19, none⟩ (.int .i64 a.act.kind)).setCell ⟨w.heap.size + 1 + 1, 20, none⟩ (.int .i64 a.act.who)).setCell ⟨w.heap.size + 1 + 1, 21, none⟩ (.int .i64 a.act.n)).setCell ⟨w.heap.size + 1 + 1, 22, none⟩ (.int .i64 a.act.call)).setCell ⟨w.heap.size + 1 + 1, 23, none⟩ (.int .i64 a.act.other)).setCell ⟨w.heap.size + 1 + 1, 24, none⟩ (.int .i64 a.act.node)).setCell ⟨w.heap.size + 1 + 1, 25, none⟩ (.slice a.act.sA a.act.srcs.length a.act.sc)).setCell ⟨w.heap.size + 1 + 1, 26, none⟩ (.slice a.act.gA a.act.groups.length a.act.gc)).heap[w.heap.size + 1 + 1]? = some (.cells D 35 (0, 0))) := Lib.hid (by rw [hD]; exact ((((((((HBL.out.2.2.1.set 19 (.int .i64 a.act.kind)).set 20 (.int .i64 a.act.who)).set 21 (.int .i64 a.act.n)).set 22 (.int .i64 a.act.call)).set 23 (.int .i64 a.act.other)).set 24 (.int .i64 a.act.node)).set 25 (.slice a.act.sA a.act.srcs.length a.act.sc)).set 26 (.slice a.act.gA a.act.groups.length a.act.gc)))
  have HO0 := Lib.hid (show ((((((((X1.setCell ⟨w.heap.size + 1 + 1, 19, none⟩ (.int .i64 a.act.kind)).setCell ⟨w.heap.size + 1 + 1, 20, none⟩ (.int .i64 a.act.who)).setCell ⟨w.heap.size + 1 + 1, 21, none⟩ (.int .i64 a.act.n)).setCell ⟨w.heap.size + 1 + 1, 22, none⟩ (.int .i64 a.act.call)).setCell ⟨w.heap.size + 1 + 1, 23, none⟩ (.int .i64 a.act.other)).setCell ⟨w.heap.size + 1 + 1, 24, none⟩ (.int .i64 a.act.node)).setCell ⟨w.heap.size + 1 + 1, 25, none⟩ (.slice a.act.sA a.act.srcs.length a.act.sc)).setCell ⟨w.heap.size + 1 + 1, 26, none⟩ (.slice a.act.gA a.act.groups.length a.act.gc)).heap[w.heap.size + 1]? = some (.cells #[.int .i64 0, .int .i64 0, .int .i64 0, .int .i64 0, .int .i64 0, .int .i64 0, .int .i64 0, .int .i64 0, .slice none 0 0, .int .i64 0, .int .i64 0, .int .i64 0, .int .i64 0, .int .i64 0, .int .i64 0, .int .i64 0, .int .i64 0, .int .i64 0, .int .i64 0, .int .i64 0, .int .i64 0, .int .i64 0, .int .i64 0, .int .i64 0, .int .i64 0, .slice none 0 0, .slice none 0 0, .slice none 0 0] 35 (0, 0)) from ((((((((HBL.out.2.1.other (g := w.heap.size + 1 + 1) (by omega) 19 (.int .i64 a.act.kind)).other (g := w.heap.size + 1 + 1) (by omega) 20 (.int .i64 a.act.who)).other (g := w.heap.size + 1 + 1) (by omega) 21 (.int .i64 a.act.n)).other (g := w.heap.size + 1 + 1) (by omega) 22 (.int .i64 a.act.call)).other (g := w.heap.size + 1 + 1) (by omega) 23 (.int .i64 a.act.other)).other (g := w.heap.size + 1 + 1) (by omega) 24 (.int .i64 a.act.node)).other (g := w.heap.size + 1 + 1) (by omega) 25 (.slice a.act.sA a.act.srcs.length a.act.sc)).other (g := w.heap.size + 1 + 1) (by omega) 26 (.slice a.act.gA a.act.groups.length a.act.gc)))
  have HE0 := Lib.hid (((((((((HBL.out.2.2.2.setCell (p := ⟨w.heap.size + 1 + 1, 19, none⟩) (by show w.heap.size ≤ w.heap.size + 1 + 1; omega) (.int .i64 a.act.kind)).setCell (p := ⟨w.heap.size + 1 + 1, 20, none⟩) (by show w.heap.size ≤ w.heap.size + 1 + 1; omega) (.int .i64 a.act.who)).setCell (p := ⟨w.heap.size + 1 + 1, 21, none⟩) (by show w.heap.size ≤ w.heap.size + 1 + 1; omega) (.int .i64 a.act.n)).setCell (p := ⟨w.heap.size + 1 + 1, 22, none⟩) (by show w.heap.size ≤ w.heap.size + 1 + 1; omega) (.int .i64 a.act.call)).setCell (p := ⟨w.heap.size + 1 + 1, 23, none⟩) (by show w.heap.size ≤ w.heap.size + 1 + 1; omega) (.int .i64 a.act.other)).setCell (p := ⟨w.heap.size + 1 + 1, 24, none⟩) (by show w.heap.size ≤ w.heap.size + 1 + 1; omega) (.int .i64 a.act.node)).setCell (p := ⟨w.heap.size + 1 + 1, 25, none⟩) (by show w.heap.size ≤ w.heap.size + 1 + 1; omega) (.slice a.act.sA a.act.srcs.length a.act.sc)).setCell (p := ⟨w.heap.size + 1 + 1, 26, none⟩) (by show w.heap.size ≤ w.heap.size + 1 + 1; omega) (.slice a.act.gA a.act.groups.length a.act.gc)))
  clear hD
  have HMI := Lib.hid (And.intro (show (Tryz.prog.info? 33).map (·.size) = some 8 by kernel_rfl) (show (#[.int .i64 a.act.kind, .int .i64 a.act.who, .int .i64 a.act.n, .int .i64 a.act.call, .int .i64 a.act.other, .int .i64 a.act.node, .slice a.act.sA a.act.srcs.length a.act.sc, .slice a.act.gA a.act.groups.length a.act.gc] : Array Value).all (·.oneCell') = true by simp [Value.oneCell']))
  have HPT := Lib.hid (show ∀ X : World, X.rangeAt w.heap.size 0 (evCs a) → X.rangeAt w.heap.size 19 [.int .i64 a.act.kind, .int .i64 a.act.who, .int .i64 a.act.n, .int .i64 a.act.call, .int .i64 a.act.other, .int .i64 a.act.node, .slice a.act.sA a.act.srcs.length a.act.sc, .slice a.act.gA a.act.groups.length a.act.gc] from fun X h => range_part h (fun j v hj => by
    match j, hj with
    | 0, hj => exact hj
    | 1, hj => exact hj
    | 2, hj => exact hj
    | 3, hj => exact hj
    | 4, hj => exact hj
    | 5, hj => exact hj
    | 6, hj => exact hj
    | 7, hj => exact hj
    | j + 8, hj => simp at hj))
  have HA := Lib.hid (And.intro hat (And.intro hl (And.intro hB hk)))
  have HH0 := Lib.hid (And.intro hbt (And.intro hsz0 (And.intro hone0 hold0)))
  have HH1 := Lib.hid (And.intro hoy hsr)
  have HH2 := Lib.hid (And.intro hszd (And.intro holdd honed))
  rw [hv]
  clear hC hv hX1 hsW2 hW2 hat hl hB hk hD0 hbt hsz0 hone0 hold0 hoy hsr hszd holdd honed hZ Z
  go_enter Tryz.func69, Tryz.ntmps69
  go_wp2_with (first | ((with_reducible refine wpList_at 8 rfl ?_); refine wpList_build_v rfl 35 #[(0, .tmp 5), (1, .tmp 7)] rfl D0 [(0, .int .i64 1), (1, .int .i64 a.tick)] (by rw [Array.toList_map]; rfl) HH0.out.1 ?_) | ((with_reducible refine wpList_op (.store 35 (.tmp 3) (.tmp 8)) rfl ?_); refine wpList_store_row rfl 35 (.tmp 3) (.tmp 8) rfl (w.heap.size + 1 + 1) D0 rfl rfl 35 _ HH1.out.1 HH0.out.2.1 HH0.out.2.2.2 HH0.out.2.2.1 ?_; rw [HH1.out.2]) | ((with_reducible refine wpList_at 14 rfl ?_); refine wpList_load_mid rfl 33 (.tmp 13) rfl w.heap.size 19 rfl [.int .i64 a.act.kind, .int .i64 a.act.who, .int .i64 a.act.n, .int .i64 a.act.call, .int .i64 a.act.other, .int .i64 a.act.node, .slice a.act.sA a.act.srcs.length a.act.sc, .slice a.act.gA a.act.groups.length a.act.gc] _ (HPT.out X1 (blk_range HBL.out.1)) Tryz.underlying33 rfl HMI.out.1 ?_) | ((with_reducible refine wpList_op (.store 33 (.tmp 15) (.tmp 14)) rfl ?_); refine wpList_store_to rfl 33 (.tmp 15) (.tmp 14) rfl (w.heap.size + 1 + 1) 19 #[.int .i64 a.act.kind, .int .i64 a.act.who, .int .i64 a.act.n, .int .i64 a.act.call, .int .i64 a.act.other, .int .i64 a.act.node, .slice a.act.sA a.act.srcs.length a.act.sc, .slice a.act.gA a.act.groups.length a.act.gc] rfl rfl (blk_there HBL.out.2.2.1 (by decide)) HMI.out.1 HMI.out.2 ((((((((X1.setCell ⟨w.heap.size + 1 + 1, 19, none⟩ (.int .i64 a.act.kind)).setCell ⟨w.heap.size + 1 + 1, 20, none⟩ (.int .i64 a.act.who)).setCell ⟨w.heap.size + 1 + 1, 21, none⟩ (.int .i64 a.act.n)).setCell ⟨w.heap.size + 1 + 1, 22, none⟩ (.int .i64 a.act.call)).setCell ⟨w.heap.size + 1 + 1, 23, none⟩ (.int .i64 a.act.other)).setCell ⟨w.heap.size + 1 + 1, 24, none⟩ (.int .i64 a.act.node)).setCell ⟨w.heap.size + 1 + 1, 25, none⟩ (.slice a.act.sA a.act.srcs.length a.act.sc)).setCell ⟨w.heap.size + 1 + 1, 26, none⟩ (.slice a.act.gA a.act.groups.length a.act.gc)) rfl ?_) | ((with_reducible refine wpList_at 101 rfl ?_); refine wpList_load_row_g (by rfl) 35 (.tmp 3) rfl (w.heap.size + 1 + 1) rfl 35 D (0, 0) _ HC0.out Tryz.underlying35 rfl HH2.out.1 ?_) | ((with_reducible refine wpList_op (.store 35 (.tmp 2) (.tmp 101)) rfl ?_); refine wpList_store_row rfl 35 (.tmp 2) (.tmp 101) rfl (w.heap.size + 1) D rfl rfl 35 _ HO0.out HH2.out.1 HH2.out.2.1 HH2.out.2.2 ?_))
  all_goals (refine bodyPost_ret (results_cell1 Tryz.results69 _ _ (w.heap.size + 1) 35 D (0, 0) _ (by rfl) (setRow_heap _ _ _ _ _ _ HO0.out) Tryz.underlying35 rfl HH2.out.1) rfl ?_)
  all_goals (have HEX := HE0.out)
  all_goals (refine ⟨({ EvM.zero 1 a.tick with act := a.act } : EvM), by rw [HDV.out], ?_, ⟨Sl.empty, HA.out.1.act.below (Below.mono (below_setR HEX (by omega) D) HA.out.2.2.1), Sl.empty⟩, HA.out.2.1, below_setR HEX (by omega) D⟩)
  all_goals (
    unfold onlyE
    rw [show a.con.kind = 1 from HA.out.2.2.2]
    rfl
  )
set_option maxRecDepth 100000 in
set_option maxHeartbeats 8000000 in
theorem onlyEv_2 (a : EvM) (w : World) (B : Nat) (hat : EvAt w B a) (hB : B ≤ w.heap.size) (hl : ActL a.act) (hk : a.kind = 2) : Calls Tryz.prog 69 #[evV a] w (RetOE a B w) := by
  obtain ⟨C, hC⟩ : ∃ C, C = (evCs a).toArray := ⟨_, rfl⟩
  have hv : evV a = .agg C := by rw [hC]; rfl
  have c0 : C[0]? = some (.int .i64 2) := by rw [hC, ← hk]; rfl
  have c1 : C[1]? = some (.int .i64 a.tick) := by rw [hC]; rfl
  obtain ⟨D0, hD0⟩ : ∃ D, D = (evCs (EvM.zero 2 a.tick)).toArray := ⟨_, rfl⟩
  have hbt : Tryz.prog.built 35 [(0, .int .i64 2), (1, .int .i64 a.tick)] = some D0 := by rw [hD0]; rfl
  have hsz0 : (Tryz.prog.info? 35).map (·.size) = some D0.size := by rw [hD0]; exact ev_size
  have hone0 : D0.all (·.oneCell') = true := by rw [hD0]; exact evCs_one _
  have hold0 : (#[.int .i64 0, .int .i64 0, .int .i64 0, .int .i64 0, .int .i64 0, .int .i64 0, .int .i64 0, .int .i64 0, .slice none 0 0, .int .i64 0, .int .i64 0, .int .i64 0, .int .i64 0, .int .i64 0, .int .i64 0, .int .i64 0, .int .i64 0, .int .i64 0, .int .i64 0, .int .i64 0, .int .i64 0, .int .i64 0, .int .i64 0, .int .i64 0, .int .i64 0, .slice none 0 0, .slice none 0 0, .slice none 0 0] : Array Value).size = D0.size := by rw [hD0]; rfl
  obtain ⟨Z, hZ⟩ : ∃ Z : Array Value, Z = #[.int .i64 0, .int .i64 0, .int .i64 0, .int .i64 0, .int .i64 0, .int .i64 0, .int .i64 0, .int .i64 0, .slice none 0 0, .int .i64 0, .int .i64 0, .int .i64 0, .int .i64 0, .int .i64 0, .int .i64 0, .int .i64 0, .int .i64 0, .int .i64 0, .int .i64 0, .int .i64 0, .int .i64 0, .int .i64 0, .int .i64 0, .int .i64 0, .int .i64 0, .slice none 0 0, .slice none 0 0, .slice none 0 0] := ⟨_, rfl⟩
  obtain ⟨W2, hW2⟩ : ∃ W2, W2 = (w.alloc (.cells C 35)).alloc (.cells #[.int .i64 0, .int .i64 0, .int .i64 0, .int .i64 0, .int .i64 0, .int .i64 0, .int .i64 0, .int .i64 0, .slice none 0 0, .int .i64 0, .int .i64 0, .int .i64 0, .int .i64 0, .int .i64 0, .int .i64 0, .int .i64 0, .int .i64 0, .int .i64 0, .int .i64 0, .int .i64 0, .int .i64 0, .int .i64 0, .int .i64 0, .int .i64 0, .int .i64 0, .slice none 0 0, .slice none 0 0, .slice none 0 0] 35) := ⟨_, rfl⟩
  have hsW2 : W2.heap.size = w.heap.size + 1 + 1 := by rw [hW2]; simp
  have hoy := new_obj W2 (.cells #[.int .i64 0, .int .i64 0, .int .i64 0, .int .i64 0, .int .i64 0, .int .i64 0, .int .i64 0, .int .i64 0, .slice none 0 0, .int .i64 0, .int .i64 0, .int .i64 0, .int .i64 0, .int .i64 0, .int .i64 0, .int .i64 0, .int .i64 0, .int .i64 0, .int .i64 0, .int .i64 0, .int .i64 0, .int .i64 0, .int .i64 0, .int .i64 0, .int .i64 0, .slice none 0 0, .slice none 0 0, .slice none 0 0] 35)
  have hsr := World.setRow_alloc_new W2 #[.int .i64 0, .int .i64 0, .int .i64 0, .int .i64 0, .int .i64 0, .int .i64 0, .int .i64 0, .int .i64 0, .slice none 0 0, .int .i64 0, .int .i64 0, .int .i64 0, .int .i64 0, .int .i64 0, .int .i64 0, .int .i64 0, .int .i64 0, .int .i64 0, .int .i64 0, .int .i64 0, .int .i64 0, .int .i64 0, .int .i64 0, .int .i64 0, .int .i64 0, .slice none 0 0, .slice none 0 0, .slice none 0 0] D0 35
  obtain ⟨X1, hX1⟩ : ∃ X1, X1 = W2.alloc (.cells D0 35) := ⟨_, rfl⟩
  have HBL : Hid (Blk X1 w.heap.size 35 (evCs a) ∧ Blk X1 (w.heap.size + 1) 35 [.int .i64 0, .int .i64 0, .int .i64 0, .int .i64 0, .int .i64 0, .int .i64 0, .int .i64 0, .int .i64 0, .slice none 0 0, .int .i64 0, .int .i64 0, .int .i64 0, .int .i64 0, .int .i64 0, .int .i64 0, .int .i64 0, .int .i64 0, .int .i64 0, .int .i64 0, .int .i64 0, .int .i64 0, .int .i64 0, .int .i64 0, .int .i64 0, .int .i64 0, .slice none 0 0, .slice none 0 0, .slice none 0 0] ∧ Blk X1 (w.heap.size + 1 + 1) 35 (evCs (EvM.zero 2 a.tick)) ∧ Below w.heap.size w X1) := Lib.hid (by
    obtain ⟨h1, h2⟩ := two_blk w (evCs a) [.int .i64 0, .int .i64 0, .int .i64 0, .int .i64 0, .int .i64 0, .int .i64 0, .int .i64 0, .int .i64 0, .slice none 0 0, .int .i64 0, .int .i64 0, .int .i64 0, .int .i64 0, .int .i64 0, .int .i64 0, .int .i64 0, .int .i64 0, .int .i64 0, .int .i64 0, .int .i64 0, .int .i64 0, .int .i64 0, .int .i64 0, .int .i64 0, .int .i64 0, .slice none 0 0, .slice none 0 0, .slice none 0 0] 35 35
    rw [← hC] at h1 h2
    have hb3 := below_new W2 (.cells D0 35)
    rw [← hX1] at hb3
    rw [hW2] at hb3
    have hn := new_obj W2 (.cells D0 35)
    rw [← hX1, hsW2, hD0] at hn
    refine ⟨?_, ?_, hn, ?_⟩
    · exact (hb3.block _ h1.lt).trans h1
    · exact (hb3.block _ h2.lt).trans h2
    · exact (((Below.refl _ _).alloc (Nat.le_refl _) _).alloc (by simp) _).trans (hb3.mono (by simp; omega)))
  rw [← hX1, hsW2] at hsr
  rw [hsW2] at hoy
  rw [hW2] at hsr hoy
  have p3 := HBL.out.1.cell (j := 3) (u := .int .i64 a.call) rfl
  have p2 := HBL.out.1.cell (j := 2) (u := .int .i64 a.who) rfl
  have p0 : X1.cell? ⟨w.heap.size, 0, none⟩ = some (.int .i64 2) := by rw [← hk]; exact HBL.out.1.cell (j := 0) rfl
  have q3 := HBL.out.2.2.1.cell (j := 3) rfl
  have f3 := HBL.out.2.2.1.free 3
  have q2 := HBL.out.2.2.1.cell (j := 2) rfl
  have f2 := HBL.out.2.2.1.free 2
  have hlt3 := HBL.out.2.2.1.lt
  have hlt1 := HBL.out.1.lt
  obtain ⟨D, hD⟩ : ∃ D, D = (evCs ({ EvM.zero 2 a.tick with call := a.call, who := a.who } : EvM)).toArray := ⟨_, rfl⟩
  have hszd : (Tryz.prog.info? 35).map (·.size) = some D.size := by rw [hD]; exact ev_size
  have holdd : (#[.int .i64 0, .int .i64 0, .int .i64 0, .int .i64 0, .int .i64 0, .int .i64 0, .int .i64 0, .int .i64 0, .slice none 0 0, .int .i64 0, .int .i64 0, .int .i64 0, .int .i64 0, .int .i64 0, .int .i64 0, .int .i64 0, .int .i64 0, .int .i64 0, .int .i64 0, .int .i64 0, .int .i64 0, .int .i64 0, .int .i64 0, .int .i64 0, .int .i64 0, .slice none 0 0, .slice none 0 0, .slice none 0 0] : Array Value).size = D.size := by rw [hD]; rfl
  have honed : D.all (·.oneCell') = true := by rw [hD]; exact evCs_one _
  have HDV := Lib.hid (show evV ({ EvM.zero 2 a.tick with call := a.call, who := a.who } : EvM) = .agg D by rw [hD]; rfl)
  have HC0 : Hid (((X1.setCell ⟨w.heap.size + 1 + 1, 3, none⟩ (.int .i64 a.call)).setCell ⟨w.heap.size + 1 + 1, 2, none⟩ (.int .i64 a.who)).drew.heap[w.heap.size + 1 + 1]? = some (.cells D 35 (0, 0))) := Lib.hid (by rw [hD]; exact ((HBL.out.2.2.1.set 3 (.int .i64 a.call)).set 2 (.int .i64 a.who)))
  have HO0 := Lib.hid (show ((X1.setCell ⟨w.heap.size + 1 + 1, 3, none⟩ (.int .i64 a.call)).setCell ⟨w.heap.size + 1 + 1, 2, none⟩ (.int .i64 a.who)).drew.heap[w.heap.size + 1]? = some (.cells #[.int .i64 0, .int .i64 0, .int .i64 0, .int .i64 0, .int .i64 0, .int .i64 0, .int .i64 0, .int .i64 0, .slice none 0 0, .int .i64 0, .int .i64 0, .int .i64 0, .int .i64 0, .int .i64 0, .int .i64 0, .int .i64 0, .int .i64 0, .int .i64 0, .int .i64 0, .int .i64 0, .int .i64 0, .int .i64 0, .int .i64 0, .int .i64 0, .int .i64 0, .slice none 0 0, .slice none 0 0, .slice none 0 0] 35 (0, 0)) from ((HBL.out.2.1.other (g := w.heap.size + 1 + 1) (by omega) 3 (.int .i64 a.call)).other (g := w.heap.size + 1 + 1) (by omega) 2 (.int .i64 a.who)))
  have HE0 := Lib.hid ((show Below w.heap.size w ((X1.setCell ⟨w.heap.size + 1 + 1, 3, none⟩ (.int .i64 a.call)).setCell ⟨w.heap.size + 1 + 1, 2, none⟩ (.int .i64 a.who)).drew from ⟨((HBL.out.2.2.2.setCell (p := ⟨w.heap.size + 1 + 1, 3, none⟩) (by show w.heap.size ≤ w.heap.size + 1 + 1; omega) (.int .i64 a.call)).setCell (p := ⟨w.heap.size + 1 + 1, 2, none⟩) (by show w.heap.size ≤ w.heap.size + 1 + 1; omega) (.int .i64 a.who)).os, ((HBL.out.2.2.2.setCell (p := ⟨w.heap.size + 1 + 1, 3, none⟩) (by show w.heap.size ≤ w.heap.size + 1 + 1; omega) (.int .i64 a.call)).setCell (p := ⟨w.heap.size + 1 + 1, 2, none⟩) (by show w.heap.size ≤ w.heap.size + 1 + 1; omega) (.int .i64 a.who)).tape, ((HBL.out.2.2.2.setCell (p := ⟨w.heap.size + 1 + 1, 3, none⟩) (by show w.heap.size ≤ w.heap.size + 1 + 1; omega) (.int .i64 a.call)).setCell (p := ⟨w.heap.size + 1 + 1, 2, none⟩) (by show w.heap.size ≤ w.heap.size + 1 + 1; omega) (.int .i64 a.who)).output, ((HBL.out.2.2.2.setCell (p := ⟨w.heap.size + 1 + 1, 3, none⟩) (by show w.heap.size ≤ w.heap.size + 1 + 1; omega) (.int .i64 a.call)).setCell (p := ⟨w.heap.size + 1 + 1, 2, none⟩) (by show w.heap.size ≤ w.heap.size + 1 + 1; omega) (.int .i64 a.who)).size, ((HBL.out.2.2.2.setCell (p := ⟨w.heap.size + 1 + 1, 3, none⟩) (by show w.heap.size ≤ w.heap.size + 1 + 1; omega) (.int .i64 a.call)).setCell (p := ⟨w.heap.size + 1 + 1, 2, none⟩) (by show w.heap.size ≤ w.heap.size + 1 + 1; omega) (.int .i64 a.who)).block⟩))
  clear hD
  have HA := Lib.hid (And.intro hat (And.intro hl (And.intro hB hk)))
  have HH0 := Lib.hid (And.intro hbt (And.intro hsz0 (And.intro hone0 hold0)))
  have HH1 := Lib.hid (And.intro hoy hsr)
  have HH2 := Lib.hid (And.intro hszd (And.intro holdd honed))
  rw [hv]
  clear hC hv hX1 hsW2 hW2 hat hl hB hk hD0 hbt hsz0 hone0 hold0 hoy hsr hszd holdd honed hZ Z
  go_enter Tryz.func69, Tryz.ntmps69
  go_wp2_with (first | ((with_reducible refine wpList_at 8 rfl ?_); refine wpList_build_v rfl 35 #[(0, .tmp 5), (1, .tmp 7)] rfl D0 [(0, .int .i64 2), (1, .int .i64 a.tick)] (by rw [Array.toList_map]; rfl) HH0.out.1 ?_) | ((with_reducible refine wpList_op (.store 35 (.tmp 3) (.tmp 8)) rfl ?_); refine wpList_store_row rfl 35 (.tmp 3) (.tmp 8) rfl (w.heap.size + 1 + 1) D0 rfl rfl 35 _ HH1.out.1 HH0.out.2.1 HH0.out.2.2.2 HH0.out.2.2.1 ?_; rw [HH1.out.2]))
  go_region
  all_goals (go_wp2_with (first | ((with_reducible refine wpList_at 101 rfl ?_); refine wpList_load_row_g (by rfl) 35 (.tmp 3) rfl (w.heap.size + 1 + 1) rfl 35 D (0, 0) _ HC0.out Tryz.underlying35 rfl HH2.out.1 ?_) | ((with_reducible refine wpList_op (.store 35 (.tmp 2) (.tmp 101)) rfl ?_); refine wpList_store_row rfl 35 (.tmp 2) (.tmp 101) rfl (w.heap.size + 1) D rfl rfl 35 _ HO0.out HH2.out.1 HH2.out.2.1 HH2.out.2.2 ?_)))
  all_goals (refine bodyPost_ret (results_cell1 Tryz.results69 _ _ (w.heap.size + 1) 35 D (0, 0) _ (by rfl) (setRow_heap _ _ _ _ _ _ HO0.out) Tryz.underlying35 rfl HH2.out.1) rfl ?_)
  all_goals (have HEX := HE0.out)
  all_goals (refine ⟨({ EvM.zero 2 a.tick with call := a.call, who := a.who } : EvM), by rw [HDV.out], ?_, ⟨Sl.empty, ⟨SrcsAt.empty, Sl.empty⟩, Sl.empty⟩, ⟨Nat.zero_le _, (fun s hs => by cases hs), Nat.zero_le _⟩, below_setR HEX (by omega) D⟩)
  all_goals (
    unfold onlyE
    rw [show a.con.kind = 2 from HA.out.2.2.2]
    rfl
  )
set_option maxRecDepth 100000 in
set_option maxHeartbeats 8000000 in
theorem onlyEv_3 (a : EvM) (w : World) (B : Nat) (hat : EvAt w B a) (hB : B ≤ w.heap.size) (hl : ActL a.act) (hk : a.kind = 3) : Calls Tryz.prog 69 #[evV a] w (RetOE a B w) := by
  obtain ⟨C, hC⟩ : ∃ C, C = (evCs a).toArray := ⟨_, rfl⟩
  have hv : evV a = .agg C := by rw [hC]; rfl
  have c0 : C[0]? = some (.int .i64 3) := by rw [hC, ← hk]; rfl
  have c1 : C[1]? = some (.int .i64 a.tick) := by rw [hC]; rfl
  obtain ⟨D0, hD0⟩ : ∃ D, D = (evCs (EvM.zero 3 a.tick)).toArray := ⟨_, rfl⟩
  have hbt : Tryz.prog.built 35 [(0, .int .i64 3), (1, .int .i64 a.tick)] = some D0 := by rw [hD0]; rfl
  have hsz0 : (Tryz.prog.info? 35).map (·.size) = some D0.size := by rw [hD0]; exact ev_size
  have hone0 : D0.all (·.oneCell') = true := by rw [hD0]; exact evCs_one _
  have hold0 : (#[.int .i64 0, .int .i64 0, .int .i64 0, .int .i64 0, .int .i64 0, .int .i64 0, .int .i64 0, .int .i64 0, .slice none 0 0, .int .i64 0, .int .i64 0, .int .i64 0, .int .i64 0, .int .i64 0, .int .i64 0, .int .i64 0, .int .i64 0, .int .i64 0, .int .i64 0, .int .i64 0, .int .i64 0, .int .i64 0, .int .i64 0, .int .i64 0, .int .i64 0, .slice none 0 0, .slice none 0 0, .slice none 0 0] : Array Value).size = D0.size := by rw [hD0]; rfl
  obtain ⟨Z, hZ⟩ : ∃ Z : Array Value, Z = #[.int .i64 0, .int .i64 0, .int .i64 0, .int .i64 0, .int .i64 0, .int .i64 0, .int .i64 0, .int .i64 0, .slice none 0 0, .int .i64 0, .int .i64 0, .int .i64 0, .int .i64 0, .int .i64 0, .int .i64 0, .int .i64 0, .int .i64 0, .int .i64 0, .int .i64 0, .int .i64 0, .int .i64 0, .int .i64 0, .int .i64 0, .int .i64 0, .int .i64 0, .slice none 0 0, .slice none 0 0, .slice none 0 0] := ⟨_, rfl⟩
  obtain ⟨W2, hW2⟩ : ∃ W2, W2 = (w.alloc (.cells C 35)).alloc (.cells #[.int .i64 0, .int .i64 0, .int .i64 0, .int .i64 0, .int .i64 0, .int .i64 0, .int .i64 0, .int .i64 0, .slice none 0 0, .int .i64 0, .int .i64 0, .int .i64 0, .int .i64 0, .int .i64 0, .int .i64 0, .int .i64 0, .int .i64 0, .int .i64 0, .int .i64 0, .int .i64 0, .int .i64 0, .int .i64 0, .int .i64 0, .int .i64 0, .int .i64 0, .slice none 0 0, .slice none 0 0, .slice none 0 0] 35) := ⟨_, rfl⟩
  have hsW2 : W2.heap.size = w.heap.size + 1 + 1 := by rw [hW2]; simp
  have hoy := new_obj W2 (.cells #[.int .i64 0, .int .i64 0, .int .i64 0, .int .i64 0, .int .i64 0, .int .i64 0, .int .i64 0, .int .i64 0, .slice none 0 0, .int .i64 0, .int .i64 0, .int .i64 0, .int .i64 0, .int .i64 0, .int .i64 0, .int .i64 0, .int .i64 0, .int .i64 0, .int .i64 0, .int .i64 0, .int .i64 0, .int .i64 0, .int .i64 0, .int .i64 0, .int .i64 0, .slice none 0 0, .slice none 0 0, .slice none 0 0] 35)
  have hsr := World.setRow_alloc_new W2 #[.int .i64 0, .int .i64 0, .int .i64 0, .int .i64 0, .int .i64 0, .int .i64 0, .int .i64 0, .int .i64 0, .slice none 0 0, .int .i64 0, .int .i64 0, .int .i64 0, .int .i64 0, .int .i64 0, .int .i64 0, .int .i64 0, .int .i64 0, .int .i64 0, .int .i64 0, .int .i64 0, .int .i64 0, .int .i64 0, .int .i64 0, .int .i64 0, .int .i64 0, .slice none 0 0, .slice none 0 0, .slice none 0 0] D0 35
  obtain ⟨X1, hX1⟩ : ∃ X1, X1 = W2.alloc (.cells D0 35) := ⟨_, rfl⟩
  have HBL : Hid (Blk X1 w.heap.size 35 (evCs a) ∧ Blk X1 (w.heap.size + 1) 35 [.int .i64 0, .int .i64 0, .int .i64 0, .int .i64 0, .int .i64 0, .int .i64 0, .int .i64 0, .int .i64 0, .slice none 0 0, .int .i64 0, .int .i64 0, .int .i64 0, .int .i64 0, .int .i64 0, .int .i64 0, .int .i64 0, .int .i64 0, .int .i64 0, .int .i64 0, .int .i64 0, .int .i64 0, .int .i64 0, .int .i64 0, .int .i64 0, .int .i64 0, .slice none 0 0, .slice none 0 0, .slice none 0 0] ∧ Blk X1 (w.heap.size + 1 + 1) 35 (evCs (EvM.zero 3 a.tick)) ∧ Below w.heap.size w X1) := Lib.hid (by
    obtain ⟨h1, h2⟩ := two_blk w (evCs a) [.int .i64 0, .int .i64 0, .int .i64 0, .int .i64 0, .int .i64 0, .int .i64 0, .int .i64 0, .int .i64 0, .slice none 0 0, .int .i64 0, .int .i64 0, .int .i64 0, .int .i64 0, .int .i64 0, .int .i64 0, .int .i64 0, .int .i64 0, .int .i64 0, .int .i64 0, .int .i64 0, .int .i64 0, .int .i64 0, .int .i64 0, .int .i64 0, .int .i64 0, .slice none 0 0, .slice none 0 0, .slice none 0 0] 35 35
    rw [← hC] at h1 h2
    have hb3 := below_new W2 (.cells D0 35)
    rw [← hX1] at hb3
    rw [hW2] at hb3
    have hn := new_obj W2 (.cells D0 35)
    rw [← hX1, hsW2, hD0] at hn
    refine ⟨?_, ?_, hn, ?_⟩
    · exact (hb3.block _ h1.lt).trans h1
    · exact (hb3.block _ h2.lt).trans h2
    · exact (((Below.refl _ _).alloc (Nat.le_refl _) _).alloc (by simp) _).trans (hb3.mono (by simp; omega)))
  rw [← hX1, hsW2] at hsr
  rw [hsW2] at hoy
  rw [hW2] at hsr hoy
  have p3 := HBL.out.1.cell (j := 3) (u := .int .i64 a.call) rfl
  have p2 := HBL.out.1.cell (j := 2) (u := .int .i64 a.who) rfl
  have p4 := HBL.out.1.cell (j := 4) (u := .int .i64 a.epoch) rfl
  have p0 : X1.cell? ⟨w.heap.size, 0, none⟩ = some (.int .i64 3) := by rw [← hk]; exact HBL.out.1.cell (j := 0) rfl
  have q3 := HBL.out.2.2.1.cell (j := 3) rfl
  have f3 := HBL.out.2.2.1.free 3
  have q2 := HBL.out.2.2.1.cell (j := 2) rfl
  have f2 := HBL.out.2.2.1.free 2
  have q4 := HBL.out.2.2.1.cell (j := 4) rfl
  have f4 := HBL.out.2.2.1.free 4
  have hlt3 := HBL.out.2.2.1.lt
  have hlt1 := HBL.out.1.lt
  obtain ⟨D, hD⟩ : ∃ D, D = (evCs ({ EvM.zero 3 a.tick with call := a.call, who := a.who, epoch := a.epoch } : EvM)).toArray := ⟨_, rfl⟩
  have hszd : (Tryz.prog.info? 35).map (·.size) = some D.size := by rw [hD]; exact ev_size
  have holdd : (#[.int .i64 0, .int .i64 0, .int .i64 0, .int .i64 0, .int .i64 0, .int .i64 0, .int .i64 0, .int .i64 0, .slice none 0 0, .int .i64 0, .int .i64 0, .int .i64 0, .int .i64 0, .int .i64 0, .int .i64 0, .int .i64 0, .int .i64 0, .int .i64 0, .int .i64 0, .int .i64 0, .int .i64 0, .int .i64 0, .int .i64 0, .int .i64 0, .int .i64 0, .slice none 0 0, .slice none 0 0, .slice none 0 0] : Array Value).size = D.size := by rw [hD]; rfl
  have honed : D.all (·.oneCell') = true := by rw [hD]; exact evCs_one _
  have HDV := Lib.hid (show evV ({ EvM.zero 3 a.tick with call := a.call, who := a.who, epoch := a.epoch } : EvM) = .agg D by rw [hD]; rfl)
  have HC0 : Hid ((((X1.setCell ⟨w.heap.size + 1 + 1, 3, none⟩ (.int .i64 a.call)).setCell ⟨w.heap.size + 1 + 1, 2, none⟩ (.int .i64 a.who)).setCell ⟨w.heap.size + 1 + 1, 4, none⟩ (.int .i64 a.epoch)).drew.heap[w.heap.size + 1 + 1]? = some (.cells D 35 (0, 0))) := Lib.hid (by rw [hD]; exact (((HBL.out.2.2.1.set 3 (.int .i64 a.call)).set 2 (.int .i64 a.who)).set 4 (.int .i64 a.epoch)))
  have HO0 := Lib.hid (show (((X1.setCell ⟨w.heap.size + 1 + 1, 3, none⟩ (.int .i64 a.call)).setCell ⟨w.heap.size + 1 + 1, 2, none⟩ (.int .i64 a.who)).setCell ⟨w.heap.size + 1 + 1, 4, none⟩ (.int .i64 a.epoch)).drew.heap[w.heap.size + 1]? = some (.cells #[.int .i64 0, .int .i64 0, .int .i64 0, .int .i64 0, .int .i64 0, .int .i64 0, .int .i64 0, .int .i64 0, .slice none 0 0, .int .i64 0, .int .i64 0, .int .i64 0, .int .i64 0, .int .i64 0, .int .i64 0, .int .i64 0, .int .i64 0, .int .i64 0, .int .i64 0, .int .i64 0, .int .i64 0, .int .i64 0, .int .i64 0, .int .i64 0, .int .i64 0, .slice none 0 0, .slice none 0 0, .slice none 0 0] 35 (0, 0)) from (((HBL.out.2.1.other (g := w.heap.size + 1 + 1) (by omega) 3 (.int .i64 a.call)).other (g := w.heap.size + 1 + 1) (by omega) 2 (.int .i64 a.who)).other (g := w.heap.size + 1 + 1) (by omega) 4 (.int .i64 a.epoch)))
  have HE0 := Lib.hid ((show Below w.heap.size w (((X1.setCell ⟨w.heap.size + 1 + 1, 3, none⟩ (.int .i64 a.call)).setCell ⟨w.heap.size + 1 + 1, 2, none⟩ (.int .i64 a.who)).setCell ⟨w.heap.size + 1 + 1, 4, none⟩ (.int .i64 a.epoch)).drew from ⟨(((HBL.out.2.2.2.setCell (p := ⟨w.heap.size + 1 + 1, 3, none⟩) (by show w.heap.size ≤ w.heap.size + 1 + 1; omega) (.int .i64 a.call)).setCell (p := ⟨w.heap.size + 1 + 1, 2, none⟩) (by show w.heap.size ≤ w.heap.size + 1 + 1; omega) (.int .i64 a.who)).setCell (p := ⟨w.heap.size + 1 + 1, 4, none⟩) (by show w.heap.size ≤ w.heap.size + 1 + 1; omega) (.int .i64 a.epoch)).os, (((HBL.out.2.2.2.setCell (p := ⟨w.heap.size + 1 + 1, 3, none⟩) (by show w.heap.size ≤ w.heap.size + 1 + 1; omega) (.int .i64 a.call)).setCell (p := ⟨w.heap.size + 1 + 1, 2, none⟩) (by show w.heap.size ≤ w.heap.size + 1 + 1; omega) (.int .i64 a.who)).setCell (p := ⟨w.heap.size + 1 + 1, 4, none⟩) (by show w.heap.size ≤ w.heap.size + 1 + 1; omega) (.int .i64 a.epoch)).tape, (((HBL.out.2.2.2.setCell (p := ⟨w.heap.size + 1 + 1, 3, none⟩) (by show w.heap.size ≤ w.heap.size + 1 + 1; omega) (.int .i64 a.call)).setCell (p := ⟨w.heap.size + 1 + 1, 2, none⟩) (by show w.heap.size ≤ w.heap.size + 1 + 1; omega) (.int .i64 a.who)).setCell (p := ⟨w.heap.size + 1 + 1, 4, none⟩) (by show w.heap.size ≤ w.heap.size + 1 + 1; omega) (.int .i64 a.epoch)).output, (((HBL.out.2.2.2.setCell (p := ⟨w.heap.size + 1 + 1, 3, none⟩) (by show w.heap.size ≤ w.heap.size + 1 + 1; omega) (.int .i64 a.call)).setCell (p := ⟨w.heap.size + 1 + 1, 2, none⟩) (by show w.heap.size ≤ w.heap.size + 1 + 1; omega) (.int .i64 a.who)).setCell (p := ⟨w.heap.size + 1 + 1, 4, none⟩) (by show w.heap.size ≤ w.heap.size + 1 + 1; omega) (.int .i64 a.epoch)).size, (((HBL.out.2.2.2.setCell (p := ⟨w.heap.size + 1 + 1, 3, none⟩) (by show w.heap.size ≤ w.heap.size + 1 + 1; omega) (.int .i64 a.call)).setCell (p := ⟨w.heap.size + 1 + 1, 2, none⟩) (by show w.heap.size ≤ w.heap.size + 1 + 1; omega) (.int .i64 a.who)).setCell (p := ⟨w.heap.size + 1 + 1, 4, none⟩) (by show w.heap.size ≤ w.heap.size + 1 + 1; omega) (.int .i64 a.epoch)).block⟩))
  clear hD
  have HA := Lib.hid (And.intro hat (And.intro hl (And.intro hB hk)))
  have HH0 := Lib.hid (And.intro hbt (And.intro hsz0 (And.intro hone0 hold0)))
  have HH1 := Lib.hid (And.intro hoy hsr)
  have HH2 := Lib.hid (And.intro hszd (And.intro holdd honed))
  rw [hv]
  clear hC hv hX1 hsW2 hW2 hat hl hB hk hD0 hbt hsz0 hone0 hold0 hoy hsr hszd holdd honed hZ Z
  go_enter Tryz.func69, Tryz.ntmps69
  go_wp2_with (first | ((with_reducible refine wpList_at 8 rfl ?_); refine wpList_build_v rfl 35 #[(0, .tmp 5), (1, .tmp 7)] rfl D0 [(0, .int .i64 3), (1, .int .i64 a.tick)] (by rw [Array.toList_map]; rfl) HH0.out.1 ?_) | ((with_reducible refine wpList_op (.store 35 (.tmp 3) (.tmp 8)) rfl ?_); refine wpList_store_row rfl 35 (.tmp 3) (.tmp 8) rfl (w.heap.size + 1 + 1) D0 rfl rfl 35 _ HH1.out.1 HH0.out.2.1 HH0.out.2.2.2 HH0.out.2.2.1 ?_; rw [HH1.out.2]))
  go_region
  all_goals (go_wp2_with (first | ((with_reducible refine wpList_at 101 rfl ?_); refine wpList_load_row_g (by rfl) 35 (.tmp 3) rfl (w.heap.size + 1 + 1) rfl 35 D (0, 0) _ HC0.out Tryz.underlying35 rfl HH2.out.1 ?_) | ((with_reducible refine wpList_op (.store 35 (.tmp 2) (.tmp 101)) rfl ?_); refine wpList_store_row rfl 35 (.tmp 2) (.tmp 101) rfl (w.heap.size + 1) D rfl rfl 35 _ HO0.out HH2.out.1 HH2.out.2.1 HH2.out.2.2 ?_)))
  all_goals (refine bodyPost_ret (results_cell1 Tryz.results69 _ _ (w.heap.size + 1) 35 D (0, 0) _ (by rfl) (setRow_heap _ _ _ _ _ _ HO0.out) Tryz.underlying35 rfl HH2.out.1) rfl ?_)
  all_goals (have HEX := HE0.out)
  all_goals (refine ⟨({ EvM.zero 3 a.tick with call := a.call, who := a.who, epoch := a.epoch } : EvM), by rw [HDV.out], ?_, ⟨Sl.empty, ⟨SrcsAt.empty, Sl.empty⟩, Sl.empty⟩, ⟨Nat.zero_le _, (fun s hs => by cases hs), Nat.zero_le _⟩, below_setR HEX (by omega) D⟩)
  all_goals (
    unfold onlyE
    rw [show a.con.kind = 3 from HA.out.2.2.2]
    rfl
  )
set_option maxRecDepth 100000 in
set_option maxHeartbeats 8000000 in
theorem onlyEv_4 (a : EvM) (w : World) (B : Nat) (hat : EvAt w B a) (hB : B ≤ w.heap.size) (hl : ActL a.act) (hk : a.kind = 4) : Calls Tryz.prog 69 #[evV a] w (RetOE a B w) := by
  obtain ⟨C, hC⟩ : ∃ C, C = (evCs a).toArray := ⟨_, rfl⟩
  have hv : evV a = .agg C := by rw [hC]; rfl
  have c0 : C[0]? = some (.int .i64 4) := by rw [hC, ← hk]; rfl
  have c1 : C[1]? = some (.int .i64 a.tick) := by rw [hC]; rfl
  obtain ⟨D0, hD0⟩ : ∃ D, D = (evCs (EvM.zero 4 a.tick)).toArray := ⟨_, rfl⟩
  have hbt : Tryz.prog.built 35 [(0, .int .i64 4), (1, .int .i64 a.tick)] = some D0 := by rw [hD0]; rfl
  have hsz0 : (Tryz.prog.info? 35).map (·.size) = some D0.size := by rw [hD0]; exact ev_size
  have hone0 : D0.all (·.oneCell') = true := by rw [hD0]; exact evCs_one _
  have hold0 : (#[.int .i64 0, .int .i64 0, .int .i64 0, .int .i64 0, .int .i64 0, .int .i64 0, .int .i64 0, .int .i64 0, .slice none 0 0, .int .i64 0, .int .i64 0, .int .i64 0, .int .i64 0, .int .i64 0, .int .i64 0, .int .i64 0, .int .i64 0, .int .i64 0, .int .i64 0, .int .i64 0, .int .i64 0, .int .i64 0, .int .i64 0, .int .i64 0, .int .i64 0, .slice none 0 0, .slice none 0 0, .slice none 0 0] : Array Value).size = D0.size := by rw [hD0]; rfl
  obtain ⟨Z, hZ⟩ : ∃ Z : Array Value, Z = #[.int .i64 0, .int .i64 0, .int .i64 0, .int .i64 0, .int .i64 0, .int .i64 0, .int .i64 0, .int .i64 0, .slice none 0 0, .int .i64 0, .int .i64 0, .int .i64 0, .int .i64 0, .int .i64 0, .int .i64 0, .int .i64 0, .int .i64 0, .int .i64 0, .int .i64 0, .int .i64 0, .int .i64 0, .int .i64 0, .int .i64 0, .int .i64 0, .int .i64 0, .slice none 0 0, .slice none 0 0, .slice none 0 0] := ⟨_, rfl⟩
  obtain ⟨W2, hW2⟩ : ∃ W2, W2 = (w.alloc (.cells C 35)).alloc (.cells #[.int .i64 0, .int .i64 0, .int .i64 0, .int .i64 0, .int .i64 0, .int .i64 0, .int .i64 0, .int .i64 0, .slice none 0 0, .int .i64 0, .int .i64 0, .int .i64 0, .int .i64 0, .int .i64 0, .int .i64 0, .int .i64 0, .int .i64 0, .int .i64 0, .int .i64 0, .int .i64 0, .int .i64 0, .int .i64 0, .int .i64 0, .int .i64 0, .int .i64 0, .slice none 0 0, .slice none 0 0, .slice none 0 0] 35) := ⟨_, rfl⟩
  have hsW2 : W2.heap.size = w.heap.size + 1 + 1 := by rw [hW2]; simp
  have hoy := new_obj W2 (.cells #[.int .i64 0, .int .i64 0, .int .i64 0, .int .i64 0, .int .i64 0, .int .i64 0, .int .i64 0, .int .i64 0, .slice none 0 0, .int .i64 0, .int .i64 0, .int .i64 0, .int .i64 0, .int .i64 0, .int .i64 0, .int .i64 0, .int .i64 0, .int .i64 0, .int .i64 0, .int .i64 0, .int .i64 0, .int .i64 0, .int .i64 0, .int .i64 0, .int .i64 0, .slice none 0 0, .slice none 0 0, .slice none 0 0] 35)
  have hsr := World.setRow_alloc_new W2 #[.int .i64 0, .int .i64 0, .int .i64 0, .int .i64 0, .int .i64 0, .int .i64 0, .int .i64 0, .int .i64 0, .slice none 0 0, .int .i64 0, .int .i64 0, .int .i64 0, .int .i64 0, .int .i64 0, .int .i64 0, .int .i64 0, .int .i64 0, .int .i64 0, .int .i64 0, .int .i64 0, .int .i64 0, .int .i64 0, .int .i64 0, .int .i64 0, .int .i64 0, .slice none 0 0, .slice none 0 0, .slice none 0 0] D0 35
  obtain ⟨X1, hX1⟩ : ∃ X1, X1 = W2.alloc (.cells D0 35) := ⟨_, rfl⟩
  have HBL : Hid (Blk X1 w.heap.size 35 (evCs a) ∧ Blk X1 (w.heap.size + 1) 35 [.int .i64 0, .int .i64 0, .int .i64 0, .int .i64 0, .int .i64 0, .int .i64 0, .int .i64 0, .int .i64 0, .slice none 0 0, .int .i64 0, .int .i64 0, .int .i64 0, .int .i64 0, .int .i64 0, .int .i64 0, .int .i64 0, .int .i64 0, .int .i64 0, .int .i64 0, .int .i64 0, .int .i64 0, .int .i64 0, .int .i64 0, .int .i64 0, .int .i64 0, .slice none 0 0, .slice none 0 0, .slice none 0 0] ∧ Blk X1 (w.heap.size + 1 + 1) 35 (evCs (EvM.zero 4 a.tick)) ∧ Below w.heap.size w X1) := Lib.hid (by
    obtain ⟨h1, h2⟩ := two_blk w (evCs a) [.int .i64 0, .int .i64 0, .int .i64 0, .int .i64 0, .int .i64 0, .int .i64 0, .int .i64 0, .int .i64 0, .slice none 0 0, .int .i64 0, .int .i64 0, .int .i64 0, .int .i64 0, .int .i64 0, .int .i64 0, .int .i64 0, .int .i64 0, .int .i64 0, .int .i64 0, .int .i64 0, .int .i64 0, .int .i64 0, .int .i64 0, .int .i64 0, .int .i64 0, .slice none 0 0, .slice none 0 0, .slice none 0 0] 35 35
    rw [← hC] at h1 h2
    have hb3 := below_new W2 (.cells D0 35)
    rw [← hX1] at hb3
    rw [hW2] at hb3
    have hn := new_obj W2 (.cells D0 35)
    rw [← hX1, hsW2, hD0] at hn
    refine ⟨?_, ?_, hn, ?_⟩
    · exact (hb3.block _ h1.lt).trans h1
    · exact (hb3.block _ h2.lt).trans h2
    · exact (((Below.refl _ _).alloc (Nat.le_refl _) _).alloc (by simp) _).trans (hb3.mono (by simp; omega)))
  rw [← hX1, hsW2] at hsr
  rw [hsW2] at hoy
  rw [hW2] at hsr hoy
  have p3 := HBL.out.1.cell (j := 3) (u := .int .i64 a.call) rfl
  have p5 := HBL.out.1.cell (j := 5) (u := .int .i64 a.n) rfl
  have p0 : X1.cell? ⟨w.heap.size, 0, none⟩ = some (.int .i64 4) := by rw [← hk]; exact HBL.out.1.cell (j := 0) rfl
  have q3 := HBL.out.2.2.1.cell (j := 3) rfl
  have f3 := HBL.out.2.2.1.free 3
  have q5 := HBL.out.2.2.1.cell (j := 5) rfl
  have f5 := HBL.out.2.2.1.free 5
  have hlt3 := HBL.out.2.2.1.lt
  have hlt1 := HBL.out.1.lt
  obtain ⟨D, hD⟩ : ∃ D, D = (evCs ({ EvM.zero 4 a.tick with call := a.call, n := a.n } : EvM)).toArray := ⟨_, rfl⟩
  have hszd : (Tryz.prog.info? 35).map (·.size) = some D.size := by rw [hD]; exact ev_size
  have holdd : (#[.int .i64 0, .int .i64 0, .int .i64 0, .int .i64 0, .int .i64 0, .int .i64 0, .int .i64 0, .int .i64 0, .slice none 0 0, .int .i64 0, .int .i64 0, .int .i64 0, .int .i64 0, .int .i64 0, .int .i64 0, .int .i64 0, .int .i64 0, .int .i64 0, .int .i64 0, .int .i64 0, .int .i64 0, .int .i64 0, .int .i64 0, .int .i64 0, .int .i64 0, .slice none 0 0, .slice none 0 0, .slice none 0 0] : Array Value).size = D.size := by rw [hD]; rfl
  have honed : D.all (·.oneCell') = true := by rw [hD]; exact evCs_one _
  have HDV := Lib.hid (show evV ({ EvM.zero 4 a.tick with call := a.call, n := a.n } : EvM) = .agg D by rw [hD]; rfl)
  have HC0 : Hid (((X1.setCell ⟨w.heap.size + 1 + 1, 3, none⟩ (.int .i64 a.call)).setCell ⟨w.heap.size + 1 + 1, 5, none⟩ (.int .i64 a.n)).drew.heap[w.heap.size + 1 + 1]? = some (.cells D 35 (0, 0))) := Lib.hid (by rw [hD]; exact ((HBL.out.2.2.1.set 3 (.int .i64 a.call)).set 5 (.int .i64 a.n)))
  have HO0 := Lib.hid (show ((X1.setCell ⟨w.heap.size + 1 + 1, 3, none⟩ (.int .i64 a.call)).setCell ⟨w.heap.size + 1 + 1, 5, none⟩ (.int .i64 a.n)).drew.heap[w.heap.size + 1]? = some (.cells #[.int .i64 0, .int .i64 0, .int .i64 0, .int .i64 0, .int .i64 0, .int .i64 0, .int .i64 0, .int .i64 0, .slice none 0 0, .int .i64 0, .int .i64 0, .int .i64 0, .int .i64 0, .int .i64 0, .int .i64 0, .int .i64 0, .int .i64 0, .int .i64 0, .int .i64 0, .int .i64 0, .int .i64 0, .int .i64 0, .int .i64 0, .int .i64 0, .int .i64 0, .slice none 0 0, .slice none 0 0, .slice none 0 0] 35 (0, 0)) from ((HBL.out.2.1.other (g := w.heap.size + 1 + 1) (by omega) 3 (.int .i64 a.call)).other (g := w.heap.size + 1 + 1) (by omega) 5 (.int .i64 a.n)))
  have HE0 := Lib.hid ((show Below w.heap.size w ((X1.setCell ⟨w.heap.size + 1 + 1, 3, none⟩ (.int .i64 a.call)).setCell ⟨w.heap.size + 1 + 1, 5, none⟩ (.int .i64 a.n)).drew from ⟨((HBL.out.2.2.2.setCell (p := ⟨w.heap.size + 1 + 1, 3, none⟩) (by show w.heap.size ≤ w.heap.size + 1 + 1; omega) (.int .i64 a.call)).setCell (p := ⟨w.heap.size + 1 + 1, 5, none⟩) (by show w.heap.size ≤ w.heap.size + 1 + 1; omega) (.int .i64 a.n)).os, ((HBL.out.2.2.2.setCell (p := ⟨w.heap.size + 1 + 1, 3, none⟩) (by show w.heap.size ≤ w.heap.size + 1 + 1; omega) (.int .i64 a.call)).setCell (p := ⟨w.heap.size + 1 + 1, 5, none⟩) (by show w.heap.size ≤ w.heap.size + 1 + 1; omega) (.int .i64 a.n)).tape, ((HBL.out.2.2.2.setCell (p := ⟨w.heap.size + 1 + 1, 3, none⟩) (by show w.heap.size ≤ w.heap.size + 1 + 1; omega) (.int .i64 a.call)).setCell (p := ⟨w.heap.size + 1 + 1, 5, none⟩) (by show w.heap.size ≤ w.heap.size + 1 + 1; omega) (.int .i64 a.n)).output, ((HBL.out.2.2.2.setCell (p := ⟨w.heap.size + 1 + 1, 3, none⟩) (by show w.heap.size ≤ w.heap.size + 1 + 1; omega) (.int .i64 a.call)).setCell (p := ⟨w.heap.size + 1 + 1, 5, none⟩) (by show w.heap.size ≤ w.heap.size + 1 + 1; omega) (.int .i64 a.n)).size, ((HBL.out.2.2.2.setCell (p := ⟨w.heap.size + 1 + 1, 3, none⟩) (by show w.heap.size ≤ w.heap.size + 1 + 1; omega) (.int .i64 a.call)).setCell (p := ⟨w.heap.size + 1 + 1, 5, none⟩) (by show w.heap.size ≤ w.heap.size + 1 + 1; omega) (.int .i64 a.n)).block⟩))
  clear hD
  have HA := Lib.hid (And.intro hat (And.intro hl (And.intro hB hk)))
  have HH0 := Lib.hid (And.intro hbt (And.intro hsz0 (And.intro hone0 hold0)))
  have HH1 := Lib.hid (And.intro hoy hsr)
  have HH2 := Lib.hid (And.intro hszd (And.intro holdd honed))
  rw [hv]
  clear hC hv hX1 hsW2 hW2 hat hl hB hk hD0 hbt hsz0 hone0 hold0 hoy hsr hszd holdd honed hZ Z
  go_enter Tryz.func69, Tryz.ntmps69
  go_wp2_with (first | ((with_reducible refine wpList_at 8 rfl ?_); refine wpList_build_v rfl 35 #[(0, .tmp 5), (1, .tmp 7)] rfl D0 [(0, .int .i64 4), (1, .int .i64 a.tick)] (by rw [Array.toList_map]; rfl) HH0.out.1 ?_) | ((with_reducible refine wpList_op (.store 35 (.tmp 3) (.tmp 8)) rfl ?_); refine wpList_store_row rfl 35 (.tmp 3) (.tmp 8) rfl (w.heap.size + 1 + 1) D0 rfl rfl 35 _ HH1.out.1 HH0.out.2.1 HH0.out.2.2.2 HH0.out.2.2.1 ?_; rw [HH1.out.2]))
  go_region
  all_goals (go_wp2_with (first | ((with_reducible refine wpList_at 101 rfl ?_); refine wpList_load_row_g (by rfl) 35 (.tmp 3) rfl (w.heap.size + 1 + 1) rfl 35 D (0, 0) _ HC0.out Tryz.underlying35 rfl HH2.out.1 ?_) | ((with_reducible refine wpList_op (.store 35 (.tmp 2) (.tmp 101)) rfl ?_); refine wpList_store_row rfl 35 (.tmp 2) (.tmp 101) rfl (w.heap.size + 1) D rfl rfl 35 _ HO0.out HH2.out.1 HH2.out.2.1 HH2.out.2.2 ?_)))
  all_goals (refine bodyPost_ret (results_cell1 Tryz.results69 _ _ (w.heap.size + 1) 35 D (0, 0) _ (by rfl) (setRow_heap _ _ _ _ _ _ HO0.out) Tryz.underlying35 rfl HH2.out.1) rfl ?_)
  all_goals (have HEX := HE0.out)
  all_goals (refine ⟨({ EvM.zero 4 a.tick with call := a.call, n := a.n } : EvM), by rw [HDV.out], ?_, ⟨Sl.empty, ⟨SrcsAt.empty, Sl.empty⟩, Sl.empty⟩, ⟨Nat.zero_le _, (fun s hs => by cases hs), Nat.zero_le _⟩, below_setR HEX (by omega) D⟩)
  all_goals (
    unfold onlyE
    rw [show a.con.kind = 4 from HA.out.2.2.2]
    rfl
  )
set_option maxRecDepth 100000 in
set_option maxHeartbeats 8000000 in
theorem onlyEv_5 (a : EvM) (w : World) (B : Nat) (hat : EvAt w B a) (hB : B ≤ w.heap.size) (hl : ActL a.act) (hk : a.kind = 5) : Calls Tryz.prog 69 #[evV a] w (RetOE a B w) := by
  obtain ⟨C, hC⟩ : ∃ C, C = (evCs a).toArray := ⟨_, rfl⟩
  have hv : evV a = .agg C := by rw [hC]; rfl
  have c0 : C[0]? = some (.int .i64 5) := by rw [hC, ← hk]; rfl
  have c1 : C[1]? = some (.int .i64 a.tick) := by rw [hC]; rfl
  obtain ⟨D0, hD0⟩ : ∃ D, D = (evCs (EvM.zero 5 a.tick)).toArray := ⟨_, rfl⟩
  have hbt : Tryz.prog.built 35 [(0, .int .i64 5), (1, .int .i64 a.tick)] = some D0 := by rw [hD0]; rfl
  have hsz0 : (Tryz.prog.info? 35).map (·.size) = some D0.size := by rw [hD0]; exact ev_size
  have hone0 : D0.all (·.oneCell') = true := by rw [hD0]; exact evCs_one _
  have hold0 : (#[.int .i64 0, .int .i64 0, .int .i64 0, .int .i64 0, .int .i64 0, .int .i64 0, .int .i64 0, .int .i64 0, .slice none 0 0, .int .i64 0, .int .i64 0, .int .i64 0, .int .i64 0, .int .i64 0, .int .i64 0, .int .i64 0, .int .i64 0, .int .i64 0, .int .i64 0, .int .i64 0, .int .i64 0, .int .i64 0, .int .i64 0, .int .i64 0, .int .i64 0, .slice none 0 0, .slice none 0 0, .slice none 0 0] : Array Value).size = D0.size := by rw [hD0]; rfl
  obtain ⟨Z, hZ⟩ : ∃ Z : Array Value, Z = #[.int .i64 0, .int .i64 0, .int .i64 0, .int .i64 0, .int .i64 0, .int .i64 0, .int .i64 0, .int .i64 0, .slice none 0 0, .int .i64 0, .int .i64 0, .int .i64 0, .int .i64 0, .int .i64 0, .int .i64 0, .int .i64 0, .int .i64 0, .int .i64 0, .int .i64 0, .int .i64 0, .int .i64 0, .int .i64 0, .int .i64 0, .int .i64 0, .int .i64 0, .slice none 0 0, .slice none 0 0, .slice none 0 0] := ⟨_, rfl⟩
  obtain ⟨W2, hW2⟩ : ∃ W2, W2 = (w.alloc (.cells C 35)).alloc (.cells #[.int .i64 0, .int .i64 0, .int .i64 0, .int .i64 0, .int .i64 0, .int .i64 0, .int .i64 0, .int .i64 0, .slice none 0 0, .int .i64 0, .int .i64 0, .int .i64 0, .int .i64 0, .int .i64 0, .int .i64 0, .int .i64 0, .int .i64 0, .int .i64 0, .int .i64 0, .int .i64 0, .int .i64 0, .int .i64 0, .int .i64 0, .int .i64 0, .int .i64 0, .slice none 0 0, .slice none 0 0, .slice none 0 0] 35) := ⟨_, rfl⟩
  have hsW2 : W2.heap.size = w.heap.size + 1 + 1 := by rw [hW2]; simp
  have hoy := new_obj W2 (.cells #[.int .i64 0, .int .i64 0, .int .i64 0, .int .i64 0, .int .i64 0, .int .i64 0, .int .i64 0, .int .i64 0, .slice none 0 0, .int .i64 0, .int .i64 0, .int .i64 0, .int .i64 0, .int .i64 0, .int .i64 0, .int .i64 0, .int .i64 0, .int .i64 0, .int .i64 0, .int .i64 0, .int .i64 0, .int .i64 0, .int .i64 0, .int .i64 0, .int .i64 0, .slice none 0 0, .slice none 0 0, .slice none 0 0] 35)
  have hsr := World.setRow_alloc_new W2 #[.int .i64 0, .int .i64 0, .int .i64 0, .int .i64 0, .int .i64 0, .int .i64 0, .int .i64 0, .int .i64 0, .slice none 0 0, .int .i64 0, .int .i64 0, .int .i64 0, .int .i64 0, .int .i64 0, .int .i64 0, .int .i64 0, .int .i64 0, .int .i64 0, .int .i64 0, .int .i64 0, .int .i64 0, .int .i64 0, .int .i64 0, .int .i64 0, .int .i64 0, .slice none 0 0, .slice none 0 0, .slice none 0 0] D0 35
  obtain ⟨X1, hX1⟩ : ∃ X1, X1 = W2.alloc (.cells D0 35) := ⟨_, rfl⟩
  have HBL : Hid (Blk X1 w.heap.size 35 (evCs a) ∧ Blk X1 (w.heap.size + 1) 35 [.int .i64 0, .int .i64 0, .int .i64 0, .int .i64 0, .int .i64 0, .int .i64 0, .int .i64 0, .int .i64 0, .slice none 0 0, .int .i64 0, .int .i64 0, .int .i64 0, .int .i64 0, .int .i64 0, .int .i64 0, .int .i64 0, .int .i64 0, .int .i64 0, .int .i64 0, .int .i64 0, .int .i64 0, .int .i64 0, .int .i64 0, .int .i64 0, .int .i64 0, .slice none 0 0, .slice none 0 0, .slice none 0 0] ∧ Blk X1 (w.heap.size + 1 + 1) 35 (evCs (EvM.zero 5 a.tick)) ∧ Below w.heap.size w X1) := Lib.hid (by
    obtain ⟨h1, h2⟩ := two_blk w (evCs a) [.int .i64 0, .int .i64 0, .int .i64 0, .int .i64 0, .int .i64 0, .int .i64 0, .int .i64 0, .int .i64 0, .slice none 0 0, .int .i64 0, .int .i64 0, .int .i64 0, .int .i64 0, .int .i64 0, .int .i64 0, .int .i64 0, .int .i64 0, .int .i64 0, .int .i64 0, .int .i64 0, .int .i64 0, .int .i64 0, .int .i64 0, .int .i64 0, .int .i64 0, .slice none 0 0, .slice none 0 0, .slice none 0 0] 35 35
    rw [← hC] at h1 h2
    have hb3 := below_new W2 (.cells D0 35)
    rw [← hX1] at hb3
    rw [hW2] at hb3
    have hn := new_obj W2 (.cells D0 35)
    rw [← hX1, hsW2, hD0] at hn
    refine ⟨?_, ?_, hn, ?_⟩
    · exact (hb3.block _ h1.lt).trans h1
    · exact (hb3.block _ h2.lt).trans h2
    · exact (((Below.refl _ _).alloc (Nat.le_refl _) _).alloc (by simp) _).trans (hb3.mono (by simp; omega)))
  rw [← hX1, hsW2] at hsr
  rw [hsW2] at hoy
  rw [hW2] at hsr hoy
  have p3 := HBL.out.1.cell (j := 3) (u := .int .i64 a.call) rfl
  have p0 : X1.cell? ⟨w.heap.size, 0, none⟩ = some (.int .i64 5) := by rw [← hk]; exact HBL.out.1.cell (j := 0) rfl
  have q3 := HBL.out.2.2.1.cell (j := 3) rfl
  have f3 := HBL.out.2.2.1.free 3
  have hlt3 := HBL.out.2.2.1.lt
  have hlt1 := HBL.out.1.lt
  obtain ⟨D, hD⟩ : ∃ D, D = (evCs ({ EvM.zero 5 a.tick with call := a.call } : EvM)).toArray := ⟨_, rfl⟩
  have hszd : (Tryz.prog.info? 35).map (·.size) = some D.size := by rw [hD]; exact ev_size
  have holdd : (#[.int .i64 0, .int .i64 0, .int .i64 0, .int .i64 0, .int .i64 0, .int .i64 0, .int .i64 0, .int .i64 0, .slice none 0 0, .int .i64 0, .int .i64 0, .int .i64 0, .int .i64 0, .int .i64 0, .int .i64 0, .int .i64 0, .int .i64 0, .int .i64 0, .int .i64 0, .int .i64 0, .int .i64 0, .int .i64 0, .int .i64 0, .int .i64 0, .int .i64 0, .slice none 0 0, .slice none 0 0, .slice none 0 0] : Array Value).size = D.size := by rw [hD]; rfl
  have honed : D.all (·.oneCell') = true := by rw [hD]; exact evCs_one _
  have HDV := Lib.hid (show evV ({ EvM.zero 5 a.tick with call := a.call } : EvM) = .agg D by rw [hD]; rfl)
  have HC0 : Hid ((X1.setCell ⟨w.heap.size + 1 + 1, 3, none⟩ (.int .i64 a.call)).heap[w.heap.size + 1 + 1]? = some (.cells D 35 (0, 0))) := Lib.hid (by rw [hD]; exact (HBL.out.2.2.1.set 3 (.int .i64 a.call)))
  have HO0 := Lib.hid (show (X1.setCell ⟨w.heap.size + 1 + 1, 3, none⟩ (.int .i64 a.call)).heap[w.heap.size + 1]? = some (.cells #[.int .i64 0, .int .i64 0, .int .i64 0, .int .i64 0, .int .i64 0, .int .i64 0, .int .i64 0, .int .i64 0, .slice none 0 0, .int .i64 0, .int .i64 0, .int .i64 0, .int .i64 0, .int .i64 0, .int .i64 0, .int .i64 0, .int .i64 0, .int .i64 0, .int .i64 0, .int .i64 0, .int .i64 0, .int .i64 0, .int .i64 0, .int .i64 0, .int .i64 0, .slice none 0 0, .slice none 0 0, .slice none 0 0] 35 (0, 0)) from (HBL.out.2.1.other (g := w.heap.size + 1 + 1) (by omega) 3 (.int .i64 a.call)))
  have HE0 := Lib.hid ((HBL.out.2.2.2.setCell (p := ⟨w.heap.size + 1 + 1, 3, none⟩) (by show w.heap.size ≤ w.heap.size + 1 + 1; omega) (.int .i64 a.call)))
  clear hD
  have HA := Lib.hid (And.intro hat (And.intro hl (And.intro hB hk)))
  have HH0 := Lib.hid (And.intro hbt (And.intro hsz0 (And.intro hone0 hold0)))
  have HH1 := Lib.hid (And.intro hoy hsr)
  have HH2 := Lib.hid (And.intro hszd (And.intro holdd honed))
  rw [hv]
  clear hC hv hX1 hsW2 hW2 hat hl hB hk hD0 hbt hsz0 hone0 hold0 hoy hsr hszd holdd honed hZ Z
  go_enter Tryz.func69, Tryz.ntmps69
  go_wp2_with (first | ((with_reducible refine wpList_at 8 rfl ?_); refine wpList_build_v rfl 35 #[(0, .tmp 5), (1, .tmp 7)] rfl D0 [(0, .int .i64 5), (1, .int .i64 a.tick)] (by rw [Array.toList_map]; rfl) HH0.out.1 ?_) | ((with_reducible refine wpList_op (.store 35 (.tmp 3) (.tmp 8)) rfl ?_); refine wpList_store_row rfl 35 (.tmp 3) (.tmp 8) rfl (w.heap.size + 1 + 1) D0 rfl rfl 35 _ HH1.out.1 HH0.out.2.1 HH0.out.2.2.2 HH0.out.2.2.1 ?_; rw [HH1.out.2]) | ((with_reducible refine wpList_at 101 rfl ?_); refine wpList_load_row_g (by rfl) 35 (.tmp 3) rfl (w.heap.size + 1 + 1) rfl 35 D (0, 0) _ HC0.out Tryz.underlying35 rfl HH2.out.1 ?_) | ((with_reducible refine wpList_op (.store 35 (.tmp 2) (.tmp 101)) rfl ?_); refine wpList_store_row rfl 35 (.tmp 2) (.tmp 101) rfl (w.heap.size + 1) D rfl rfl 35 _ HO0.out HH2.out.1 HH2.out.2.1 HH2.out.2.2 ?_))
  all_goals (refine bodyPost_ret (results_cell1 Tryz.results69 _ _ (w.heap.size + 1) 35 D (0, 0) _ (by rfl) (setRow_heap _ _ _ _ _ _ HO0.out) Tryz.underlying35 rfl HH2.out.1) rfl ?_)
  all_goals (have HEX := HE0.out)
  all_goals (refine ⟨({ EvM.zero 5 a.tick with call := a.call } : EvM), by rw [HDV.out], ?_, ⟨Sl.empty, ⟨SrcsAt.empty, Sl.empty⟩, Sl.empty⟩, ⟨Nat.zero_le _, (fun s hs => by cases hs), Nat.zero_le _⟩, below_setR HEX (by omega) D⟩)
  all_goals (
    unfold onlyE
    rw [show a.con.kind = 5 from HA.out.2.2.2]
    rfl
  )
set_option maxRecDepth 100000 in
set_option maxHeartbeats 8000000 in
theorem onlyEv_6 (a : EvM) (w : World) (B : Nat) (hat : EvAt w B a) (hB : B ≤ w.heap.size) (hl : ActL a.act) (hk : a.kind = 6) : Calls Tryz.prog 69 #[evV a] w (RetOE a B w) := by
  obtain ⟨C, hC⟩ : ∃ C, C = (evCs a).toArray := ⟨_, rfl⟩
  have hv : evV a = .agg C := by rw [hC]; rfl
  have c0 : C[0]? = some (.int .i64 6) := by rw [hC, ← hk]; rfl
  have c1 : C[1]? = some (.int .i64 a.tick) := by rw [hC]; rfl
  obtain ⟨D0, hD0⟩ : ∃ D, D = (evCs (EvM.zero 6 a.tick)).toArray := ⟨_, rfl⟩
  have hbt : Tryz.prog.built 35 [(0, .int .i64 6), (1, .int .i64 a.tick)] = some D0 := by rw [hD0]; rfl
  have hsz0 : (Tryz.prog.info? 35).map (·.size) = some D0.size := by rw [hD0]; exact ev_size
  have hone0 : D0.all (·.oneCell') = true := by rw [hD0]; exact evCs_one _
  have hold0 : (#[.int .i64 0, .int .i64 0, .int .i64 0, .int .i64 0, .int .i64 0, .int .i64 0, .int .i64 0, .int .i64 0, .slice none 0 0, .int .i64 0, .int .i64 0, .int .i64 0, .int .i64 0, .int .i64 0, .int .i64 0, .int .i64 0, .int .i64 0, .int .i64 0, .int .i64 0, .int .i64 0, .int .i64 0, .int .i64 0, .int .i64 0, .int .i64 0, .int .i64 0, .slice none 0 0, .slice none 0 0, .slice none 0 0] : Array Value).size = D0.size := by rw [hD0]; rfl
  obtain ⟨Z, hZ⟩ : ∃ Z : Array Value, Z = #[.int .i64 0, .int .i64 0, .int .i64 0, .int .i64 0, .int .i64 0, .int .i64 0, .int .i64 0, .int .i64 0, .slice none 0 0, .int .i64 0, .int .i64 0, .int .i64 0, .int .i64 0, .int .i64 0, .int .i64 0, .int .i64 0, .int .i64 0, .int .i64 0, .int .i64 0, .int .i64 0, .int .i64 0, .int .i64 0, .int .i64 0, .int .i64 0, .int .i64 0, .slice none 0 0, .slice none 0 0, .slice none 0 0] := ⟨_, rfl⟩
  obtain ⟨W2, hW2⟩ : ∃ W2, W2 = (w.alloc (.cells C 35)).alloc (.cells #[.int .i64 0, .int .i64 0, .int .i64 0, .int .i64 0, .int .i64 0, .int .i64 0, .int .i64 0, .int .i64 0, .slice none 0 0, .int .i64 0, .int .i64 0, .int .i64 0, .int .i64 0, .int .i64 0, .int .i64 0, .int .i64 0, .int .i64 0, .int .i64 0, .int .i64 0, .int .i64 0, .int .i64 0, .int .i64 0, .int .i64 0, .int .i64 0, .int .i64 0, .slice none 0 0, .slice none 0 0, .slice none 0 0] 35) := ⟨_, rfl⟩
  have hsW2 : W2.heap.size = w.heap.size + 1 + 1 := by rw [hW2]; simp
  have hoy := new_obj W2 (.cells #[.int .i64 0, .int .i64 0, .int .i64 0, .int .i64 0, .int .i64 0, .int .i64 0, .int .i64 0, .int .i64 0, .slice none 0 0, .int .i64 0, .int .i64 0, .int .i64 0, .int .i64 0, .int .i64 0, .int .i64 0, .int .i64 0, .int .i64 0, .int .i64 0, .int .i64 0, .int .i64 0, .int .i64 0, .int .i64 0, .int .i64 0, .int .i64 0, .int .i64 0, .slice none 0 0, .slice none 0 0, .slice none 0 0] 35)
  have hsr := World.setRow_alloc_new W2 #[.int .i64 0, .int .i64 0, .int .i64 0, .int .i64 0, .int .i64 0, .int .i64 0, .int .i64 0, .int .i64 0, .slice none 0 0, .int .i64 0, .int .i64 0, .int .i64 0, .int .i64 0, .int .i64 0, .int .i64 0, .int .i64 0, .int .i64 0, .int .i64 0, .int .i64 0, .int .i64 0, .int .i64 0, .int .i64 0, .int .i64 0, .int .i64 0, .int .i64 0, .slice none 0 0, .slice none 0 0, .slice none 0 0] D0 35
  obtain ⟨X1, hX1⟩ : ∃ X1, X1 = W2.alloc (.cells D0 35) := ⟨_, rfl⟩
  have HBL : Hid (Blk X1 w.heap.size 35 (evCs a) ∧ Blk X1 (w.heap.size + 1) 35 [.int .i64 0, .int .i64 0, .int .i64 0, .int .i64 0, .int .i64 0, .int .i64 0, .int .i64 0, .int .i64 0, .slice none 0 0, .int .i64 0, .int .i64 0, .int .i64 0, .int .i64 0, .int .i64 0, .int .i64 0, .int .i64 0, .int .i64 0, .int .i64 0, .int .i64 0, .int .i64 0, .int .i64 0, .int .i64 0, .int .i64 0, .int .i64 0, .int .i64 0, .slice none 0 0, .slice none 0 0, .slice none 0 0] ∧ Blk X1 (w.heap.size + 1 + 1) 35 (evCs (EvM.zero 6 a.tick)) ∧ Below w.heap.size w X1) := Lib.hid (by
    obtain ⟨h1, h2⟩ := two_blk w (evCs a) [.int .i64 0, .int .i64 0, .int .i64 0, .int .i64 0, .int .i64 0, .int .i64 0, .int .i64 0, .int .i64 0, .slice none 0 0, .int .i64 0, .int .i64 0, .int .i64 0, .int .i64 0, .int .i64 0, .int .i64 0, .int .i64 0, .int .i64 0, .int .i64 0, .int .i64 0, .int .i64 0, .int .i64 0, .int .i64 0, .int .i64 0, .int .i64 0, .int .i64 0, .slice none 0 0, .slice none 0 0, .slice none 0 0] 35 35
    rw [← hC] at h1 h2
    have hb3 := below_new W2 (.cells D0 35)
    rw [← hX1] at hb3
    rw [hW2] at hb3
    have hn := new_obj W2 (.cells D0 35)
    rw [← hX1, hsW2, hD0] at hn
    refine ⟨?_, ?_, hn, ?_⟩
    · exact (hb3.block _ h1.lt).trans h1
    · exact (hb3.block _ h2.lt).trans h2
    · exact (((Below.refl _ _).alloc (Nat.le_refl _) _).alloc (by simp) _).trans (hb3.mono (by simp; omega)))
  rw [← hX1, hsW2] at hsr
  rw [hsW2] at hoy
  rw [hW2] at hsr hoy
  have p3 := HBL.out.1.cell (j := 3) (u := .int .i64 a.call) rfl
  have p2 := HBL.out.1.cell (j := 2) (u := .int .i64 a.who) rfl
  have p4 := HBL.out.1.cell (j := 4) (u := .int .i64 a.epoch) rfl
  have p0 : X1.cell? ⟨w.heap.size, 0, none⟩ = some (.int .i64 6) := by rw [← hk]; exact HBL.out.1.cell (j := 0) rfl
  have q3 := HBL.out.2.2.1.cell (j := 3) rfl
  have f3 := HBL.out.2.2.1.free 3
  have q2 := HBL.out.2.2.1.cell (j := 2) rfl
  have f2 := HBL.out.2.2.1.free 2
  have q4 := HBL.out.2.2.1.cell (j := 4) rfl
  have f4 := HBL.out.2.2.1.free 4
  have hlt3 := HBL.out.2.2.1.lt
  have hlt1 := HBL.out.1.lt
  obtain ⟨D, hD⟩ : ∃ D, D = (evCs ({ EvM.zero 6 a.tick with call := a.call, who := a.who, epoch := a.epoch } : EvM)).toArray := ⟨_, rfl⟩
  have hszd : (Tryz.prog.info? 35).map (·.size) = some D.size := by rw [hD]; exact ev_size
  have holdd : (#[.int .i64 0, .int .i64 0, .int .i64 0, .int .i64 0, .int .i64 0, .int .i64 0, .int .i64 0, .int .i64 0, .slice none 0 0, .int .i64 0, .int .i64 0, .int .i64 0, .int .i64 0, .int .i64 0, .int .i64 0, .int .i64 0, .int .i64 0, .int .i64 0, .int .i64 0, .int .i64 0, .int .i64 0, .int .i64 0, .int .i64 0, .int .i64 0, .int .i64 0, .slice none 0 0, .slice none 0 0, .slice none 0 0] : Array Value).size = D.size := by rw [hD]; rfl
  have honed : D.all (·.oneCell') = true := by rw [hD]; exact evCs_one _
  have HDV := Lib.hid (show evV ({ EvM.zero 6 a.tick with call := a.call, who := a.who, epoch := a.epoch } : EvM) = .agg D by rw [hD]; rfl)
  have HC0 : Hid ((((X1.setCell ⟨w.heap.size + 1 + 1, 3, none⟩ (.int .i64 a.call)).setCell ⟨w.heap.size + 1 + 1, 2, none⟩ (.int .i64 a.who)).setCell ⟨w.heap.size + 1 + 1, 4, none⟩ (.int .i64 a.epoch)).drew.heap[w.heap.size + 1 + 1]? = some (.cells D 35 (0, 0))) := Lib.hid (by rw [hD]; exact (((HBL.out.2.2.1.set 3 (.int .i64 a.call)).set 2 (.int .i64 a.who)).set 4 (.int .i64 a.epoch)))
  have HO0 := Lib.hid (show (((X1.setCell ⟨w.heap.size + 1 + 1, 3, none⟩ (.int .i64 a.call)).setCell ⟨w.heap.size + 1 + 1, 2, none⟩ (.int .i64 a.who)).setCell ⟨w.heap.size + 1 + 1, 4, none⟩ (.int .i64 a.epoch)).drew.heap[w.heap.size + 1]? = some (.cells #[.int .i64 0, .int .i64 0, .int .i64 0, .int .i64 0, .int .i64 0, .int .i64 0, .int .i64 0, .int .i64 0, .slice none 0 0, .int .i64 0, .int .i64 0, .int .i64 0, .int .i64 0, .int .i64 0, .int .i64 0, .int .i64 0, .int .i64 0, .int .i64 0, .int .i64 0, .int .i64 0, .int .i64 0, .int .i64 0, .int .i64 0, .int .i64 0, .int .i64 0, .slice none 0 0, .slice none 0 0, .slice none 0 0] 35 (0, 0)) from (((HBL.out.2.1.other (g := w.heap.size + 1 + 1) (by omega) 3 (.int .i64 a.call)).other (g := w.heap.size + 1 + 1) (by omega) 2 (.int .i64 a.who)).other (g := w.heap.size + 1 + 1) (by omega) 4 (.int .i64 a.epoch)))
  have HE0 := Lib.hid ((show Below w.heap.size w (((X1.setCell ⟨w.heap.size + 1 + 1, 3, none⟩ (.int .i64 a.call)).setCell ⟨w.heap.size + 1 + 1, 2, none⟩ (.int .i64 a.who)).setCell ⟨w.heap.size + 1 + 1, 4, none⟩ (.int .i64 a.epoch)).drew from ⟨(((HBL.out.2.2.2.setCell (p := ⟨w.heap.size + 1 + 1, 3, none⟩) (by show w.heap.size ≤ w.heap.size + 1 + 1; omega) (.int .i64 a.call)).setCell (p := ⟨w.heap.size + 1 + 1, 2, none⟩) (by show w.heap.size ≤ w.heap.size + 1 + 1; omega) (.int .i64 a.who)).setCell (p := ⟨w.heap.size + 1 + 1, 4, none⟩) (by show w.heap.size ≤ w.heap.size + 1 + 1; omega) (.int .i64 a.epoch)).os, (((HBL.out.2.2.2.setCell (p := ⟨w.heap.size + 1 + 1, 3, none⟩) (by show w.heap.size ≤ w.heap.size + 1 + 1; omega) (.int .i64 a.call)).setCell (p := ⟨w.heap.size + 1 + 1, 2, none⟩) (by show w.heap.size ≤ w.heap.size + 1 + 1; omega) (.int .i64 a.who)).setCell (p := ⟨w.heap.size + 1 + 1, 4, none⟩) (by show w.heap.size ≤ w.heap.size + 1 + 1; omega) (.int .i64 a.epoch)).tape, (((HBL.out.2.2.2.setCell (p := ⟨w.heap.size + 1 + 1, 3, none⟩) (by show w.heap.size ≤ w.heap.size + 1 + 1; omega) (.int .i64 a.call)).setCell (p := ⟨w.heap.size + 1 + 1, 2, none⟩) (by show w.heap.size ≤ w.heap.size + 1 + 1; omega) (.int .i64 a.who)).setCell (p := ⟨w.heap.size + 1 + 1, 4, none⟩) (by show w.heap.size ≤ w.heap.size + 1 + 1; omega) (.int .i64 a.epoch)).output, (((HBL.out.2.2.2.setCell (p := ⟨w.heap.size + 1 + 1, 3, none⟩) (by show w.heap.size ≤ w.heap.size + 1 + 1; omega) (.int .i64 a.call)).setCell (p := ⟨w.heap.size + 1 + 1, 2, none⟩) (by show w.heap.size ≤ w.heap.size + 1 + 1; omega) (.int .i64 a.who)).setCell (p := ⟨w.heap.size + 1 + 1, 4, none⟩) (by show w.heap.size ≤ w.heap.size + 1 + 1; omega) (.int .i64 a.epoch)).size, (((HBL.out.2.2.2.setCell (p := ⟨w.heap.size + 1 + 1, 3, none⟩) (by show w.heap.size ≤ w.heap.size + 1 + 1; omega) (.int .i64 a.call)).setCell (p := ⟨w.heap.size + 1 + 1, 2, none⟩) (by show w.heap.size ≤ w.heap.size + 1 + 1; omega) (.int .i64 a.who)).setCell (p := ⟨w.heap.size + 1 + 1, 4, none⟩) (by show w.heap.size ≤ w.heap.size + 1 + 1; omega) (.int .i64 a.epoch)).block⟩))
  clear hD
  have HA := Lib.hid (And.intro hat (And.intro hl (And.intro hB hk)))
  have HH0 := Lib.hid (And.intro hbt (And.intro hsz0 (And.intro hone0 hold0)))
  have HH1 := Lib.hid (And.intro hoy hsr)
  have HH2 := Lib.hid (And.intro hszd (And.intro holdd honed))
  rw [hv]
  clear hC hv hX1 hsW2 hW2 hat hl hB hk hD0 hbt hsz0 hone0 hold0 hoy hsr hszd holdd honed hZ Z
  go_enter Tryz.func69, Tryz.ntmps69
  go_wp2_with (first | ((with_reducible refine wpList_at 8 rfl ?_); refine wpList_build_v rfl 35 #[(0, .tmp 5), (1, .tmp 7)] rfl D0 [(0, .int .i64 6), (1, .int .i64 a.tick)] (by rw [Array.toList_map]; rfl) HH0.out.1 ?_) | ((with_reducible refine wpList_op (.store 35 (.tmp 3) (.tmp 8)) rfl ?_); refine wpList_store_row rfl 35 (.tmp 3) (.tmp 8) rfl (w.heap.size + 1 + 1) D0 rfl rfl 35 _ HH1.out.1 HH0.out.2.1 HH0.out.2.2.2 HH0.out.2.2.1 ?_; rw [HH1.out.2]))
  go_region
  all_goals (go_wp2_with (first | ((with_reducible refine wpList_at 101 rfl ?_); refine wpList_load_row_g (by rfl) 35 (.tmp 3) rfl (w.heap.size + 1 + 1) rfl 35 D (0, 0) _ HC0.out Tryz.underlying35 rfl HH2.out.1 ?_) | ((with_reducible refine wpList_op (.store 35 (.tmp 2) (.tmp 101)) rfl ?_); refine wpList_store_row rfl 35 (.tmp 2) (.tmp 101) rfl (w.heap.size + 1) D rfl rfl 35 _ HO0.out HH2.out.1 HH2.out.2.1 HH2.out.2.2 ?_)))
  all_goals (refine bodyPost_ret (results_cell1 Tryz.results69 _ _ (w.heap.size + 1) 35 D (0, 0) _ (by rfl) (setRow_heap _ _ _ _ _ _ HO0.out) Tryz.underlying35 rfl HH2.out.1) rfl ?_)
  all_goals (have HEX := HE0.out)
  all_goals (refine ⟨({ EvM.zero 6 a.tick with call := a.call, who := a.who, epoch := a.epoch } : EvM), by rw [HDV.out], ?_, ⟨Sl.empty, ⟨SrcsAt.empty, Sl.empty⟩, Sl.empty⟩, ⟨Nat.zero_le _, (fun s hs => by cases hs), Nat.zero_le _⟩, below_setR HEX (by omega) D⟩)
  all_goals (
    unfold onlyE
    rw [show a.con.kind = 6 from HA.out.2.2.2]
    rfl
  )
set_option maxRecDepth 100000 in
set_option maxHeartbeats 8000000 in
theorem onlyEv_7 (a : EvM) (w : World) (B : Nat) (hat : EvAt w B a) (hB : B ≤ w.heap.size) (hl : ActL a.act) (hk : a.kind = 7) : Calls Tryz.prog 69 #[evV a] w (RetOE a B w) := by
  obtain ⟨C, hC⟩ : ∃ C, C = (evCs a).toArray := ⟨_, rfl⟩
  have hv : evV a = .agg C := by rw [hC]; rfl
  have c0 : C[0]? = some (.int .i64 7) := by rw [hC, ← hk]; rfl
  have c1 : C[1]? = some (.int .i64 a.tick) := by rw [hC]; rfl
  obtain ⟨D0, hD0⟩ : ∃ D, D = (evCs (EvM.zero 7 a.tick)).toArray := ⟨_, rfl⟩
  have hbt : Tryz.prog.built 35 [(0, .int .i64 7), (1, .int .i64 a.tick)] = some D0 := by rw [hD0]; rfl
  have hsz0 : (Tryz.prog.info? 35).map (·.size) = some D0.size := by rw [hD0]; exact ev_size
  have hone0 : D0.all (·.oneCell') = true := by rw [hD0]; exact evCs_one _
  have hold0 : (#[.int .i64 0, .int .i64 0, .int .i64 0, .int .i64 0, .int .i64 0, .int .i64 0, .int .i64 0, .int .i64 0, .slice none 0 0, .int .i64 0, .int .i64 0, .int .i64 0, .int .i64 0, .int .i64 0, .int .i64 0, .int .i64 0, .int .i64 0, .int .i64 0, .int .i64 0, .int .i64 0, .int .i64 0, .int .i64 0, .int .i64 0, .int .i64 0, .int .i64 0, .slice none 0 0, .slice none 0 0, .slice none 0 0] : Array Value).size = D0.size := by rw [hD0]; rfl
  obtain ⟨Z, hZ⟩ : ∃ Z : Array Value, Z = #[.int .i64 0, .int .i64 0, .int .i64 0, .int .i64 0, .int .i64 0, .int .i64 0, .int .i64 0, .int .i64 0, .slice none 0 0, .int .i64 0, .int .i64 0, .int .i64 0, .int .i64 0, .int .i64 0, .int .i64 0, .int .i64 0, .int .i64 0, .int .i64 0, .int .i64 0, .int .i64 0, .int .i64 0, .int .i64 0, .int .i64 0, .int .i64 0, .int .i64 0, .slice none 0 0, .slice none 0 0, .slice none 0 0] := ⟨_, rfl⟩
  obtain ⟨W2, hW2⟩ : ∃ W2, W2 = (w.alloc (.cells C 35)).alloc (.cells #[.int .i64 0, .int .i64 0, .int .i64 0, .int .i64 0, .int .i64 0, .int .i64 0, .int .i64 0, .int .i64 0, .slice none 0 0, .int .i64 0, .int .i64 0, .int .i64 0, .int .i64 0, .int .i64 0, .int .i64 0, .int .i64 0, .int .i64 0, .int .i64 0, .int .i64 0, .int .i64 0, .int .i64 0, .int .i64 0, .int .i64 0, .int .i64 0, .int .i64 0, .slice none 0 0, .slice none 0 0, .slice none 0 0] 35) := ⟨_, rfl⟩
  have hsW2 : W2.heap.size = w.heap.size + 1 + 1 := by rw [hW2]; simp
  have hoy := new_obj W2 (.cells #[.int .i64 0, .int .i64 0, .int .i64 0, .int .i64 0, .int .i64 0, .int .i64 0, .int .i64 0, .int .i64 0, .slice none 0 0, .int .i64 0, .int .i64 0, .int .i64 0, .int .i64 0, .int .i64 0, .int .i64 0, .int .i64 0, .int .i64 0, .int .i64 0, .int .i64 0, .int .i64 0, .int .i64 0, .int .i64 0, .int .i64 0, .int .i64 0, .int .i64 0, .slice none 0 0, .slice none 0 0, .slice none 0 0] 35)
  have hsr := World.setRow_alloc_new W2 #[.int .i64 0, .int .i64 0, .int .i64 0, .int .i64 0, .int .i64 0, .int .i64 0, .int .i64 0, .int .i64 0, .slice none 0 0, .int .i64 0, .int .i64 0, .int .i64 0, .int .i64 0, .int .i64 0, .int .i64 0, .int .i64 0, .int .i64 0, .int .i64 0, .int .i64 0, .int .i64 0, .int .i64 0, .int .i64 0, .int .i64 0, .int .i64 0, .int .i64 0, .slice none 0 0, .slice none 0 0, .slice none 0 0] D0 35
  obtain ⟨X1, hX1⟩ : ∃ X1, X1 = W2.alloc (.cells D0 35) := ⟨_, rfl⟩
  have HBL : Hid (Blk X1 w.heap.size 35 (evCs a) ∧ Blk X1 (w.heap.size + 1) 35 [.int .i64 0, .int .i64 0, .int .i64 0, .int .i64 0, .int .i64 0, .int .i64 0, .int .i64 0, .int .i64 0, .slice none 0 0, .int .i64 0, .int .i64 0, .int .i64 0, .int .i64 0, .int .i64 0, .int .i64 0, .int .i64 0, .int .i64 0, .int .i64 0, .int .i64 0, .int .i64 0, .int .i64 0, .int .i64 0, .int .i64 0, .int .i64 0, .int .i64 0, .slice none 0 0, .slice none 0 0, .slice none 0 0] ∧ Blk X1 (w.heap.size + 1 + 1) 35 (evCs (EvM.zero 7 a.tick)) ∧ Below w.heap.size w X1) := Lib.hid (by
    obtain ⟨h1, h2⟩ := two_blk w (evCs a) [.int .i64 0, .int .i64 0, .int .i64 0, .int .i64 0, .int .i64 0, .int .i64 0, .int .i64 0, .int .i64 0, .slice none 0 0, .int .i64 0, .int .i64 0, .int .i64 0, .int .i64 0, .int .i64 0, .int .i64 0, .int .i64 0, .int .i64 0, .int .i64 0, .int .i64 0, .int .i64 0, .int .i64 0, .int .i64 0, .int .i64 0, .int .i64 0, .int .i64 0, .slice none 0 0, .slice none 0 0, .slice none 0 0] 35 35
    rw [← hC] at h1 h2
    have hb3 := below_new W2 (.cells D0 35)
    rw [← hX1] at hb3
    rw [hW2] at hb3
    have hn := new_obj W2 (.cells D0 35)
    rw [← hX1, hsW2, hD0] at hn
    refine ⟨?_, ?_, hn, ?_⟩
    · exact (hb3.block _ h1.lt).trans h1
    · exact (hb3.block _ h2.lt).trans h2
    · exact (((Below.refl _ _).alloc (Nat.le_refl _) _).alloc (by simp) _).trans (hb3.mono (by simp; omega)))
  rw [← hX1, hsW2] at hsr
  rw [hsW2] at hoy
  rw [hW2] at hsr hoy
  have p2 := HBL.out.1.cell (j := 2) (u := .int .i64 a.who) rfl
  have p5 := HBL.out.1.cell (j := 5) (u := .int .i64 a.n) rfl
  have p6 := HBL.out.1.cell (j := 6) (u := .int .i64 a.eterm) rfl
  have p7 := HBL.out.1.cell (j := 7) (u := .int .i64 a.ekind) rfl
  have p8 := HBL.out.1.cell (j := 8) (u := .slice a.eA a.ebody.length a.ec) rfl
  have p0 : X1.cell? ⟨w.heap.size, 0, none⟩ = some (.int .i64 7) := by rw [← hk]; exact HBL.out.1.cell (j := 0) rfl
  have q2 := HBL.out.2.2.1.cell (j := 2) rfl
  have f2 := HBL.out.2.2.1.free 2
  have q5 := HBL.out.2.2.1.cell (j := 5) rfl
  have f5 := HBL.out.2.2.1.free 5
  have q6 := HBL.out.2.2.1.cell (j := 6) rfl
  have f6 := HBL.out.2.2.1.free 6
  have q7 := HBL.out.2.2.1.cell (j := 7) rfl
  have f7 := HBL.out.2.2.1.free 7
  have q8 := HBL.out.2.2.1.cell (j := 8) rfl
  have f8 := HBL.out.2.2.1.free 8
  have hlt3 := HBL.out.2.2.1.lt
  have hlt1 := HBL.out.1.lt
  obtain ⟨D, hD⟩ : ∃ D, D = (evCs ({ EvM.zero 7 a.tick with who := a.who, n := a.n, eterm := a.eterm, ekind := a.ekind, eA := a.eA, ec := a.ec, ebody := a.ebody } : EvM)).toArray := ⟨_, rfl⟩
  have hszd : (Tryz.prog.info? 35).map (·.size) = some D.size := by rw [hD]; exact ev_size
  have holdd : (#[.int .i64 0, .int .i64 0, .int .i64 0, .int .i64 0, .int .i64 0, .int .i64 0, .int .i64 0, .int .i64 0, .slice none 0 0, .int .i64 0, .int .i64 0, .int .i64 0, .int .i64 0, .int .i64 0, .int .i64 0, .int .i64 0, .int .i64 0, .int .i64 0, .int .i64 0, .int .i64 0, .int .i64 0, .int .i64 0, .int .i64 0, .int .i64 0, .int .i64 0, .slice none 0 0, .slice none 0 0, .slice none 0 0] : Array Value).size = D.size := by rw [hD]; rfl
  have honed : D.all (·.oneCell') = true := by rw [hD]; exact evCs_one _
  have HDV := Lib.hid (show evV ({ EvM.zero 7 a.tick with who := a.who, n := a.n, eterm := a.eterm, ekind := a.ekind, eA := a.eA, ec := a.ec, ebody := a.ebody } : EvM) = .agg D by rw [hD]; rfl)
  have HC0 : Hid ((((((X1.drew.setCell ⟨w.heap.size + 1 + 1, 2, none⟩ (.int .i64 a.who)).setCell ⟨w.heap.size + 1 + 1, 5, none⟩ (.int .i64 a.n)).setCell ⟨w.heap.size + 1 + 1, 6, none⟩ (.int .i64 a.eterm)).setCell ⟨w.heap.size + 1 + 1, 7, none⟩ (.int .i64 a.ekind)).setCell ⟨w.heap.size + 1 + 1, 8, none⟩ (.slice a.eA a.ebody.length a.ec)).heap[w.heap.size + 1 + 1]? = some (.cells D 35 (0, 0))) := Lib.hid (by rw [hD]; exact (((((HBL.out.2.2.1.set 2 (.int .i64 a.who)).set 5 (.int .i64 a.n)).set 6 (.int .i64 a.eterm)).set 7 (.int .i64 a.ekind)).set 8 (.slice a.eA a.ebody.length a.ec)))
  have HO0 := Lib.hid (show (((((X1.drew.setCell ⟨w.heap.size + 1 + 1, 2, none⟩ (.int .i64 a.who)).setCell ⟨w.heap.size + 1 + 1, 5, none⟩ (.int .i64 a.n)).setCell ⟨w.heap.size + 1 + 1, 6, none⟩ (.int .i64 a.eterm)).setCell ⟨w.heap.size + 1 + 1, 7, none⟩ (.int .i64 a.ekind)).setCell ⟨w.heap.size + 1 + 1, 8, none⟩ (.slice a.eA a.ebody.length a.ec)).heap[w.heap.size + 1]? = some (.cells #[.int .i64 0, .int .i64 0, .int .i64 0, .int .i64 0, .int .i64 0, .int .i64 0, .int .i64 0, .int .i64 0, .slice none 0 0, .int .i64 0, .int .i64 0, .int .i64 0, .int .i64 0, .int .i64 0, .int .i64 0, .int .i64 0, .int .i64 0, .int .i64 0, .int .i64 0, .int .i64 0, .int .i64 0, .int .i64 0, .int .i64 0, .int .i64 0, .int .i64 0, .slice none 0 0, .slice none 0 0, .slice none 0 0] 35 (0, 0)) from (((((HBL.out.2.1.other (g := w.heap.size + 1 + 1) (by omega) 2 (.int .i64 a.who)).other (g := w.heap.size + 1 + 1) (by omega) 5 (.int .i64 a.n)).other (g := w.heap.size + 1 + 1) (by omega) 6 (.int .i64 a.eterm)).other (g := w.heap.size + 1 + 1) (by omega) 7 (.int .i64 a.ekind)).other (g := w.heap.size + 1 + 1) (by omega) 8 (.slice a.eA a.ebody.length a.ec)))
  have HE0 := Lib.hid (((((((show Below w.heap.size w X1.drew from ⟨HBL.out.2.2.2.os, HBL.out.2.2.2.tape, HBL.out.2.2.2.output, HBL.out.2.2.2.size, HBL.out.2.2.2.block⟩).setCell (p := ⟨w.heap.size + 1 + 1, 2, none⟩) (by show w.heap.size ≤ w.heap.size + 1 + 1; omega) (.int .i64 a.who)).setCell (p := ⟨w.heap.size + 1 + 1, 5, none⟩) (by show w.heap.size ≤ w.heap.size + 1 + 1; omega) (.int .i64 a.n)).setCell (p := ⟨w.heap.size + 1 + 1, 6, none⟩) (by show w.heap.size ≤ w.heap.size + 1 + 1; omega) (.int .i64 a.eterm)).setCell (p := ⟨w.heap.size + 1 + 1, 7, none⟩) (by show w.heap.size ≤ w.heap.size + 1 + 1; omega) (.int .i64 a.ekind)).setCell (p := ⟨w.heap.size + 1 + 1, 8, none⟩) (by show w.heap.size ≤ w.heap.size + 1 + 1; omega) (.slice a.eA a.ebody.length a.ec)))
  clear hD
  have HMI := Lib.hid (And.intro (show (Tryz.prog.info? 25).map (·.size) = some 3 by kernel_rfl) (show (#[.int .i64 a.eterm, .int .i64 a.ekind, .slice a.eA a.ebody.length a.ec] : Array Value).all (·.oneCell') = true by simp [Value.oneCell']))
  have HPT := Lib.hid (show ∀ X : World, X.rangeAt w.heap.size 0 (evCs a) → X.rangeAt w.heap.size 6 [.int .i64 a.eterm, .int .i64 a.ekind, .slice a.eA a.ebody.length a.ec] from fun X h => range_part h (fun j v hj => by
    match j, hj with
    | 0, hj => exact hj
    | 1, hj => exact hj
    | 2, hj => exact hj
    | j + 3, hj => simp at hj))
  have HA := Lib.hid (And.intro hat (And.intro hl (And.intro hB hk)))
  have HH0 := Lib.hid (And.intro hbt (And.intro hsz0 (And.intro hone0 hold0)))
  have HH1 := Lib.hid (And.intro hoy hsr)
  have HH2 := Lib.hid (And.intro hszd (And.intro holdd honed))
  rw [hv]
  clear hC hv hX1 hsW2 hW2 hat hl hB hk hD0 hbt hsz0 hone0 hold0 hoy hsr hszd holdd honed hZ Z
  go_enter Tryz.func69, Tryz.ntmps69
  go_wp2_with (first | ((with_reducible refine wpList_at 8 rfl ?_); refine wpList_build_v rfl 35 #[(0, .tmp 5), (1, .tmp 7)] rfl D0 [(0, .int .i64 7), (1, .int .i64 a.tick)] (by rw [Array.toList_map]; rfl) HH0.out.1 ?_) | ((with_reducible refine wpList_op (.store 35 (.tmp 3) (.tmp 8)) rfl ?_); refine wpList_store_row rfl 35 (.tmp 3) (.tmp 8) rfl (w.heap.size + 1 + 1) D0 rfl rfl 35 _ HH1.out.1 HH0.out.2.1 HH0.out.2.2.2 HH0.out.2.2.1 ?_; rw [HH1.out.2]))
  refine wp_region_held_drew (S := fun W' => W'.rangeAt w.heap.size 0 (evCs a)) (by kernel_rfl) (blk_range HBL.out.1) (fun hHeld => ?_)
  refine wpAnyH_take (i := 0) (v := .pointer (some ⟨w.heap.size, 2, none⟩)) rfl (by kernel_rfl) (by kernel_rfl) (by kernel_rfl) (fun _ _ _ h => h) (Or.inl ⟨by rfl, ?_⟩) (by assumption) ?_
  · intro w' hSw
    go_simp
  show wpAnyH _ _ _ _ _ _ _ (Act.put _ (some 51) _) _
  simp only [Act.put, List.setIfInBounds_toArray, List.set_cons_zero, List.set_cons_succ]
  refine wpAnyH_take (i := 1) (v := .int .i64 a.who) rfl (by kernel_rfl) (by kernel_rfl) (by kernel_rfl) (fun _ _ _ h => h) (Or.inl ⟨by rfl, ?_⟩) (by assumption) ?_
  · intro w' hSw
    have hc : w'.cell? ⟨w.heap.size, 2, none⟩ = some (.int .i64 a.who) := by have h := hSw 2 _ rfl; simpa using h
    go_simp
  show wpAnyH _ _ _ _ _ _ _ (Act.put _ (some 52) _) _
  simp only [Act.put, List.setIfInBounds_toArray, List.set_cons_zero, List.set_cons_succ]
  refine wpAnyH_take (i := 2) (v := .pointer (some ⟨w.heap.size, 5, none⟩)) rfl (by kernel_rfl) (by kernel_rfl) (by kernel_rfl) (fun _ _ _ h => h) (Or.inl ⟨by rfl, ?_⟩) (by assumption) ?_
  · intro w' hSw
    go_simp
  show wpAnyH _ _ _ _ _ _ _ (Act.put _ (some 53) _) _
  simp only [Act.put, List.setIfInBounds_toArray, List.set_cons_zero, List.set_cons_succ]
  refine wpAnyH_take (i := 3) (v := .int .i64 a.n) rfl (by kernel_rfl) (by kernel_rfl) (by kernel_rfl) (fun _ _ _ h => h) (Or.inl ⟨by rfl, ?_⟩) (by assumption) ?_
  · intro w' hSw
    have hc : w'.cell? ⟨w.heap.size, 5, none⟩ = some (.int .i64 a.n) := by have h := hSw 5 _ rfl; simpa using h
    go_simp
  show wpAnyH _ _ _ _ _ _ _ (Act.put _ (some 54) _) _
  simp only [Act.put, List.setIfInBounds_toArray, List.set_cons_zero, List.set_cons_succ]
  refine wpAnyH_take (i := 4) (v := .pointer (some ⟨w.heap.size, 6, none⟩)) rfl (by kernel_rfl) (by kernel_rfl) (by kernel_rfl) (fun _ _ _ h => h) (Or.inl ⟨by rfl, ?_⟩) (by assumption) ?_
  · intro w' hSw
    go_simp
  show wpAnyH _ _ _ _ _ _ _ (Act.put _ (some 55) _) _
  simp only [Act.put, List.setIfInBounds_toArray, List.set_cons_zero, List.set_cons_succ]
  refine wpAnyH_take (i := 5) (v := .agg #[.int .i64 a.eterm, .int .i64 a.ekind, .slice a.eA a.ebody.length a.ec]) rfl (by kernel_rfl) (by kernel_rfl) (by kernel_rfl) (fun _ _ _ h => h) (yieldsIf_load_mid (by rfl) 25 (.tmp 55) rfl w.heap.size 6 rfl [.int .i64 a.eterm, .int .i64 a.ekind, .slice a.eA a.ebody.length a.ec] _ (fun w' hSw => HPT.out w' hSw) Tryz.underlying25 rfl HMI.out.1) (by assumption) ?_
  show wpAnyH _ _ _ _ _ _ _ (Act.put _ (some 56) _) _
  simp only [Act.put, List.setIfInBounds_toArray, List.set_cons_zero, List.set_cons_succ]
  refine wpAnyH_take (i := 6) (v := .pointer (some ⟨w.heap.size + 1 + 1, 2, none⟩)) rfl (by kernel_rfl) (by kernel_rfl) (by kernel_rfl) (fun _ _ _ h => h) (Or.inl ⟨by rfl, ?_⟩) (by assumption) ?_
  · intro w' hSw
    go_simp
  show wpAnyH _ _ _ _ _ _ _ (Act.put _ (some 57) _) _
  simp only [Act.put, List.setIfInBounds_toArray, List.set_cons_zero, List.set_cons_succ]
  refine wpAnyH_ready (rs := [7]) (by kernel_rfl) (by simp) ?_
  refine AllReadyH.cons rfl (fun K hK => ?_) AllReadyH.nil
  have hz0 := Blk.cell (j := 2) HBL.out.2.2.1 rfl
  have hy0 := Blk.free HBL.out.2.2.1 2
  have hl0 := Blk.lt HBL.out.2.2.1
  go_simp
  refine hK.out _ _ (blk_range (HBL.out.1.other (g := w.heap.size + 1 + 1) (by omega) 2 (.int .i64 a.who))) (fun hHeld => ?_)
  clear hK K hz0 hy0 hl0
  refine wpAnyH_take (i := 8) (v := .pointer (some ⟨w.heap.size + 1 + 1, 5, none⟩)) rfl (by kernel_rfl) (by kernel_rfl) (by kernel_rfl) (fun _ _ _ h => h) (Or.inl ⟨by rfl, ?_⟩) (by assumption) ?_
  · intro w' hSw
    go_simp
  show wpAnyH _ _ _ _ _ _ _ (Act.put _ (some 58) _) _
  simp only [Act.put, List.setIfInBounds_toArray, List.set_cons_zero, List.set_cons_succ]
  refine wpAnyH_ready (rs := [9]) (by kernel_rfl) (by simp) ?_
  refine AllReadyH.cons rfl (fun K hK => ?_) AllReadyH.nil
  have hz1 := Blk.cell (j := 5) (HBL.out.2.2.1.set 2 (.int .i64 a.who)) rfl
  have hy1 := Blk.free (HBL.out.2.2.1.set 2 (.int .i64 a.who)) 5
  have hl1 := Blk.lt (HBL.out.2.2.1.set 2 (.int .i64 a.who))
  go_simp
  refine hK.out _ _ (blk_range ((HBL.out.1.other (g := w.heap.size + 1 + 1) (by omega) 2 (.int .i64 a.who)).other (g := w.heap.size + 1 + 1) (by omega) 5 (.int .i64 a.n))) (fun hHeld => ?_)
  clear hK K hz1 hy1 hl1
  refine wpAnyH_take (i := 10) (v := .pointer (some ⟨w.heap.size + 1 + 1, 6, none⟩)) rfl (by kernel_rfl) (by kernel_rfl) (by kernel_rfl) (fun _ _ _ h => h) (Or.inl ⟨by rfl, ?_⟩) (by assumption) ?_
  · intro w' hSw
    go_simp
  show wpAnyH _ _ _ _ _ _ _ (Act.put _ (some 59) _) _
  simp only [Act.put, List.setIfInBounds_toArray, List.set_cons_zero, List.set_cons_succ]
  refine wpAnyH_ready (rs := [11]) (by kernel_rfl) (by simp) ?_
  refine AllReadyH.cons rfl (fun K hK => ?_) AllReadyH.nil
  refine step_store_mid (by rfl) 25 (.tmp 59) (.tmp 56) rfl (w.heap.size + 1 + 1) 6 #[.int .i64 a.eterm, .int .i64 a.ekind, .slice a.eA a.ebody.length a.ec] rfl rfl (blk_there ((HBL.out.2.2.1.set 2 (.int .i64 a.who)).set 5 (.int .i64 a.n)) (Nat.le_of_ble_eq_true rfl)) HMI.out.1 HMI.out.2 (((((X1.drew.setCell ⟨w.heap.size + 1 + 1, 2, none⟩ (.int .i64 a.who)).setCell ⟨w.heap.size + 1 + 1, 5, none⟩ (.int .i64 a.n)).setCell ⟨w.heap.size + 1 + 1, 6, none⟩ (.int .i64 a.eterm)).setCell ⟨w.heap.size + 1 + 1, 7, none⟩ (.int .i64 a.ekind)).setCell ⟨w.heap.size + 1 + 1, 8, none⟩ (.slice a.eA a.ebody.length a.ec)) rfl ?_
  refine hK.out _ _ (blk_range (((((HBL.out.1.other (g := w.heap.size + 1 + 1) (by omega) 2 (.int .i64 a.who)).other (g := w.heap.size + 1 + 1) (by omega) 5 (.int .i64 a.n)).other (g := w.heap.size + 1 + 1) (by omega) 6 (.int .i64 a.eterm)).other (g := w.heap.size + 1 + 1) (by omega) 7 (.int .i64 a.ekind)).other (g := w.heap.size + 1 + 1) (by omega) 8 (.slice a.eA a.ebody.length a.ec))) (fun hHeld => ?_)
  clear hK K
  refine wpAnyH_done (by kernel_rfl) ?_ _
  all_goals (go_wp2_with (first | ((with_reducible refine wpList_at 101 rfl ?_); refine wpList_load_row_g (by rfl) 35 (.tmp 3) rfl (w.heap.size + 1 + 1) rfl 35 D (0, 0) _ HC0.out Tryz.underlying35 rfl HH2.out.1 ?_) | ((with_reducible refine wpList_op (.store 35 (.tmp 2) (.tmp 101)) rfl ?_); refine wpList_store_row rfl 35 (.tmp 2) (.tmp 101) rfl (w.heap.size + 1) D rfl rfl 35 _ HO0.out HH2.out.1 HH2.out.2.1 HH2.out.2.2 ?_)))
  all_goals (refine bodyPost_ret (results_cell1 Tryz.results69 _ _ (w.heap.size + 1) 35 D (0, 0) _ (by rfl) (setRow_heap _ _ _ _ _ _ HO0.out) Tryz.underlying35 rfl HH2.out.1) rfl ?_)
  all_goals (have HEX := HE0.out)
  all_goals (refine ⟨({ EvM.zero 7 a.tick with who := a.who, n := a.n, eterm := a.eterm, ekind := a.ekind, eA := a.eA, ec := a.ec, ebody := a.ebody } : EvM), by rw [HDV.out], ?_, ⟨Sl.below HA.out.1.body (Below.mono (below_setR HEX (by omega) D) HA.out.2.2.1), ⟨SrcsAt.empty, Sl.empty⟩, Sl.empty⟩, ⟨Nat.zero_le _, (fun s hs => by cases hs), Nat.zero_le _⟩, below_setR HEX (by omega) D⟩)
  all_goals (
    unfold onlyE
    rw [show a.con.kind = 7 from HA.out.2.2.2]
    rfl
  )
end
section
open Go.RowKit Go.Maps

set_option maxRecDepth 100000 in
set_option maxHeartbeats 8000000 in
theorem onlyEv_8 (a : EvM) (w : World) (B : Nat) (hat : EvAt w B a) (hB : B ≤ w.heap.size) (hl : ActL a.act) (hk : a.kind = 8) : Calls Tryz.prog 69 #[evV a] w (RetOE a B w) := by
  obtain ⟨C, hC⟩ : ∃ C, C = (evCs a).toArray := ⟨_, rfl⟩
  have hv : evV a = .agg C := by rw [hC]; rfl
  have c0 : C[0]? = some (.int .i64 8) := by rw [hC, ← hk]; rfl
  have c1 : C[1]? = some (.int .i64 a.tick) := by rw [hC]; rfl
  obtain ⟨D0, hD0⟩ : ∃ D, D = (evCs (EvM.zero 8 a.tick)).toArray := ⟨_, rfl⟩
  have hbt : Tryz.prog.built 35 [(0, .int .i64 8), (1, .int .i64 a.tick)] = some D0 := by rw [hD0]; rfl
  have hsz0 : (Tryz.prog.info? 35).map (·.size) = some D0.size := by rw [hD0]; exact ev_size
  have hone0 : D0.all (·.oneCell') = true := by rw [hD0]; exact evCs_one _
  have hold0 : (#[.int .i64 0, .int .i64 0, .int .i64 0, .int .i64 0, .int .i64 0, .int .i64 0, .int .i64 0, .int .i64 0, .slice none 0 0, .int .i64 0, .int .i64 0, .int .i64 0, .int .i64 0, .int .i64 0, .int .i64 0, .int .i64 0, .int .i64 0, .int .i64 0, .int .i64 0, .int .i64 0, .int .i64 0, .int .i64 0, .int .i64 0, .int .i64 0, .int .i64 0, .slice none 0 0, .slice none 0 0, .slice none 0 0] : Array Value).size = D0.size := by rw [hD0]; rfl
  obtain ⟨Z, hZ⟩ : ∃ Z : Array Value, Z = #[.int .i64 0, .int .i64 0, .int .i64 0, .int .i64 0, .int .i64 0, .int .i64 0, .int .i64 0, .int .i64 0, .slice none 0 0, .int .i64 0, .int .i64 0, .int .i64 0, .int .i64 0, .int .i64 0, .int .i64 0, .int .i64 0, .int .i64 0, .int .i64 0, .int .i64 0, .int .i64 0, .int .i64 0, .int .i64 0, .int .i64 0, .int .i64 0, .int .i64 0, .slice none 0 0, .slice none 0 0, .slice none 0 0] := ⟨_, rfl⟩
  obtain ⟨W2, hW2⟩ : ∃ W2, W2 = (w.alloc (.cells C 35)).alloc (.cells #[.int .i64 0, .int .i64 0, .int .i64 0, .int .i64 0, .int .i64 0, .int .i64 0, .int .i64 0, .int .i64 0, .slice none 0 0, .int .i64 0, .int .i64 0, .int .i64 0, .int .i64 0, .int .i64 0, .int .i64 0, .int .i64 0, .int .i64 0, .int .i64 0, .int .i64 0, .int .i64 0, .int .i64 0, .int .i64 0, .int .i64 0, .int .i64 0, .int .i64 0, .slice none 0 0, .slice none 0 0, .slice none 0 0] 35) := ⟨_, rfl⟩
  have hsW2 : W2.heap.size = w.heap.size + 1 + 1 := by rw [hW2]; simp
  have hoy := new_obj W2 (.cells #[.int .i64 0, .int .i64 0, .int .i64 0, .int .i64 0, .int .i64 0, .int .i64 0, .int .i64 0, .int .i64 0, .slice none 0 0, .int .i64 0, .int .i64 0, .int .i64 0, .int .i64 0, .int .i64 0, .int .i64 0, .int .i64 0, .int .i64 0, .int .i64 0, .int .i64 0, .int .i64 0, .int .i64 0, .int .i64 0, .int .i64 0, .int .i64 0, .int .i64 0, .slice none 0 0, .slice none 0 0, .slice none 0 0] 35)
  have hsr := World.setRow_alloc_new W2 #[.int .i64 0, .int .i64 0, .int .i64 0, .int .i64 0, .int .i64 0, .int .i64 0, .int .i64 0, .int .i64 0, .slice none 0 0, .int .i64 0, .int .i64 0, .int .i64 0, .int .i64 0, .int .i64 0, .int .i64 0, .int .i64 0, .int .i64 0, .int .i64 0, .int .i64 0, .int .i64 0, .int .i64 0, .int .i64 0, .int .i64 0, .int .i64 0, .int .i64 0, .slice none 0 0, .slice none 0 0, .slice none 0 0] D0 35
  obtain ⟨X1, hX1⟩ : ∃ X1, X1 = W2.alloc (.cells D0 35) := ⟨_, rfl⟩
  have HBL : Hid (Blk X1 w.heap.size 35 (evCs a) ∧ Blk X1 (w.heap.size + 1) 35 [.int .i64 0, .int .i64 0, .int .i64 0, .int .i64 0, .int .i64 0, .int .i64 0, .int .i64 0, .int .i64 0, .slice none 0 0, .int .i64 0, .int .i64 0, .int .i64 0, .int .i64 0, .int .i64 0, .int .i64 0, .int .i64 0, .int .i64 0, .int .i64 0, .int .i64 0, .int .i64 0, .int .i64 0, .int .i64 0, .int .i64 0, .int .i64 0, .int .i64 0, .slice none 0 0, .slice none 0 0, .slice none 0 0] ∧ Blk X1 (w.heap.size + 1 + 1) 35 (evCs (EvM.zero 8 a.tick)) ∧ Below w.heap.size w X1) := Lib.hid (by
    obtain ⟨h1, h2⟩ := two_blk w (evCs a) [.int .i64 0, .int .i64 0, .int .i64 0, .int .i64 0, .int .i64 0, .int .i64 0, .int .i64 0, .int .i64 0, .slice none 0 0, .int .i64 0, .int .i64 0, .int .i64 0, .int .i64 0, .int .i64 0, .int .i64 0, .int .i64 0, .int .i64 0, .int .i64 0, .int .i64 0, .int .i64 0, .int .i64 0, .int .i64 0, .int .i64 0, .int .i64 0, .int .i64 0, .slice none 0 0, .slice none 0 0, .slice none 0 0] 35 35
    rw [← hC] at h1 h2
    have hb3 := below_new W2 (.cells D0 35)
    rw [← hX1] at hb3
    rw [hW2] at hb3
    have hn := new_obj W2 (.cells D0 35)
    rw [← hX1, hsW2, hD0] at hn
    refine ⟨?_, ?_, hn, ?_⟩
    · exact (hb3.block _ h1.lt).trans h1
    · exact (hb3.block _ h2.lt).trans h2
    · exact (((Below.refl _ _).alloc (Nat.le_refl _) _).alloc (by simp) _).trans (hb3.mono (by simp; omega)))
  rw [← hX1, hsW2] at hsr
  rw [hsW2] at hoy
  rw [hW2] at hsr hoy
  have p2 := HBL.out.1.cell (j := 2) (u := .int .i64 a.who) rfl
  have p9 := HBL.out.1.cell (j := 9) (u := .int .i64 a.ord.unit) rfl
  have p10 := HBL.out.1.cell (j := 10) (u := .int .i64 a.ord.epoch) rfl
  have p11 := HBL.out.1.cell (j := 11) (u := .int .i64 a.ord.kind) rfl
  have p12 := HBL.out.1.cell (j := 12) (u := .int .i64 a.ord.incident) rfl
  have p13 := HBL.out.1.cell (j := 13) (u := .int .i64 a.ord.node) rfl
  have p0 : X1.cell? ⟨w.heap.size, 0, none⟩ = some (.int .i64 8) := by rw [← hk]; exact HBL.out.1.cell (j := 0) rfl
  have q2 := HBL.out.2.2.1.cell (j := 2) rfl
  have f2 := HBL.out.2.2.1.free 2
  have q9 := HBL.out.2.2.1.cell (j := 9) rfl
  have f9 := HBL.out.2.2.1.free 9
  have q10 := HBL.out.2.2.1.cell (j := 10) rfl
  have f10 := HBL.out.2.2.1.free 10
  have q11 := HBL.out.2.2.1.cell (j := 11) rfl
  have f11 := HBL.out.2.2.1.free 11
  have q12 := HBL.out.2.2.1.cell (j := 12) rfl
  have f12 := HBL.out.2.2.1.free 12
  have q13 := HBL.out.2.2.1.cell (j := 13) rfl
  have f13 := HBL.out.2.2.1.free 13
  have hlt3 := HBL.out.2.2.1.lt
  have hlt1 := HBL.out.1.lt
  obtain ⟨D, hD⟩ : ∃ D, D = (evCs ({ EvM.zero 8 a.tick with who := a.who, ord := a.ord } : EvM)).toArray := ⟨_, rfl⟩
  have hszd : (Tryz.prog.info? 35).map (·.size) = some D.size := by rw [hD]; exact ev_size
  have holdd : (#[.int .i64 0, .int .i64 0, .int .i64 0, .int .i64 0, .int .i64 0, .int .i64 0, .int .i64 0, .int .i64 0, .slice none 0 0, .int .i64 0, .int .i64 0, .int .i64 0, .int .i64 0, .int .i64 0, .int .i64 0, .int .i64 0, .int .i64 0, .int .i64 0, .int .i64 0, .int .i64 0, .int .i64 0, .int .i64 0, .int .i64 0, .int .i64 0, .int .i64 0, .slice none 0 0, .slice none 0 0, .slice none 0 0] : Array Value).size = D.size := by rw [hD]; rfl
  have honed : D.all (·.oneCell') = true := by rw [hD]; exact evCs_one _
  have HDV := Lib.hid (show evV ({ EvM.zero 8 a.tick with who := a.who, ord := a.ord } : EvM) = .agg D by rw [hD]; rfl)
  have HC0 : Hid (((((((X1.drew.setCell ⟨w.heap.size + 1 + 1, 2, none⟩ (.int .i64 a.who)).setCell ⟨w.heap.size + 1 + 1, 9, none⟩ (.int .i64 a.ord.unit)).setCell ⟨w.heap.size + 1 + 1, 10, none⟩ (.int .i64 a.ord.epoch)).setCell ⟨w.heap.size + 1 + 1, 11, none⟩ (.int .i64 a.ord.kind)).setCell ⟨w.heap.size + 1 + 1, 12, none⟩ (.int .i64 a.ord.incident)).setCell ⟨w.heap.size + 1 + 1, 13, none⟩ (.int .i64 a.ord.node)).heap[w.heap.size + 1 + 1]? = some (.cells D 35 (0, 0))) := Lib.hid (by rw [hD]; exact ((((((HBL.out.2.2.1.set 2 (.int .i64 a.who)).set 9 (.int .i64 a.ord.unit)).set 10 (.int .i64 a.ord.epoch)).set 11 (.int .i64 a.ord.kind)).set 12 (.int .i64 a.ord.incident)).set 13 (.int .i64 a.ord.node)))
  have HO0 := Lib.hid (show ((((((X1.drew.setCell ⟨w.heap.size + 1 + 1, 2, none⟩ (.int .i64 a.who)).setCell ⟨w.heap.size + 1 + 1, 9, none⟩ (.int .i64 a.ord.unit)).setCell ⟨w.heap.size + 1 + 1, 10, none⟩ (.int .i64 a.ord.epoch)).setCell ⟨w.heap.size + 1 + 1, 11, none⟩ (.int .i64 a.ord.kind)).setCell ⟨w.heap.size + 1 + 1, 12, none⟩ (.int .i64 a.ord.incident)).setCell ⟨w.heap.size + 1 + 1, 13, none⟩ (.int .i64 a.ord.node)).heap[w.heap.size + 1]? = some (.cells #[.int .i64 0, .int .i64 0, .int .i64 0, .int .i64 0, .int .i64 0, .int .i64 0, .int .i64 0, .int .i64 0, .slice none 0 0, .int .i64 0, .int .i64 0, .int .i64 0, .int .i64 0, .int .i64 0, .int .i64 0, .int .i64 0, .int .i64 0, .int .i64 0, .int .i64 0, .int .i64 0, .int .i64 0, .int .i64 0, .int .i64 0, .int .i64 0, .int .i64 0, .slice none 0 0, .slice none 0 0, .slice none 0 0] 35 (0, 0)) from ((((((HBL.out.2.1.other (g := w.heap.size + 1 + 1) (by omega) 2 (.int .i64 a.who)).other (g := w.heap.size + 1 + 1) (by omega) 9 (.int .i64 a.ord.unit)).other (g := w.heap.size + 1 + 1) (by omega) 10 (.int .i64 a.ord.epoch)).other (g := w.heap.size + 1 + 1) (by omega) 11 (.int .i64 a.ord.kind)).other (g := w.heap.size + 1 + 1) (by omega) 12 (.int .i64 a.ord.incident)).other (g := w.heap.size + 1 + 1) (by omega) 13 (.int .i64 a.ord.node)))
  have HE0 := Lib.hid ((((((((show Below w.heap.size w X1.drew from ⟨HBL.out.2.2.2.os, HBL.out.2.2.2.tape, HBL.out.2.2.2.output, HBL.out.2.2.2.size, HBL.out.2.2.2.block⟩).setCell (p := ⟨w.heap.size + 1 + 1, 2, none⟩) (by show w.heap.size ≤ w.heap.size + 1 + 1; omega) (.int .i64 a.who)).setCell (p := ⟨w.heap.size + 1 + 1, 9, none⟩) (by show w.heap.size ≤ w.heap.size + 1 + 1; omega) (.int .i64 a.ord.unit)).setCell (p := ⟨w.heap.size + 1 + 1, 10, none⟩) (by show w.heap.size ≤ w.heap.size + 1 + 1; omega) (.int .i64 a.ord.epoch)).setCell (p := ⟨w.heap.size + 1 + 1, 11, none⟩) (by show w.heap.size ≤ w.heap.size + 1 + 1; omega) (.int .i64 a.ord.kind)).setCell (p := ⟨w.heap.size + 1 + 1, 12, none⟩) (by show w.heap.size ≤ w.heap.size + 1 + 1; omega) (.int .i64 a.ord.incident)).setCell (p := ⟨w.heap.size + 1 + 1, 13, none⟩) (by show w.heap.size ≤ w.heap.size + 1 + 1; omega) (.int .i64 a.ord.node)))
  clear hD
  have HMI := Lib.hid (And.intro (show (Tryz.prog.info? 27).map (·.size) = some 5 by kernel_rfl) (show (#[.int .i64 a.ord.unit, .int .i64 a.ord.epoch, .int .i64 a.ord.kind, .int .i64 a.ord.incident, .int .i64 a.ord.node] : Array Value).all (·.oneCell') = true by simp [Value.oneCell']))
  have HPT := Lib.hid (show ∀ X : World, X.rangeAt w.heap.size 0 (evCs a) → X.rangeAt w.heap.size 9 [.int .i64 a.ord.unit, .int .i64 a.ord.epoch, .int .i64 a.ord.kind, .int .i64 a.ord.incident, .int .i64 a.ord.node] from fun X h => range_part h (fun j v hj => by
    match j, hj with
    | 0, hj => exact hj
    | 1, hj => exact hj
    | 2, hj => exact hj
    | 3, hj => exact hj
    | 4, hj => exact hj
    | j + 5, hj => simp at hj))
  have HA := Lib.hid (And.intro hat (And.intro hl (And.intro hB hk)))
  have HH0 := Lib.hid (And.intro hbt (And.intro hsz0 (And.intro hone0 hold0)))
  have HH1 := Lib.hid (And.intro hoy hsr)
  have HH2 := Lib.hid (And.intro hszd (And.intro holdd honed))
  rw [hv]
  clear hC hv hX1 hsW2 hW2 hat hl hB hk hD0 hbt hsz0 hone0 hold0 hoy hsr hszd holdd honed hZ Z
  go_enter Tryz.func69, Tryz.ntmps69
  go_wp2_with (first | ((with_reducible refine wpList_at 8 rfl ?_); refine wpList_build_v rfl 35 #[(0, .tmp 5), (1, .tmp 7)] rfl D0 [(0, .int .i64 8), (1, .int .i64 a.tick)] (by rw [Array.toList_map]; rfl) HH0.out.1 ?_) | ((with_reducible refine wpList_op (.store 35 (.tmp 3) (.tmp 8)) rfl ?_); refine wpList_store_row rfl 35 (.tmp 3) (.tmp 8) rfl (w.heap.size + 1 + 1) D0 rfl rfl 35 _ HH1.out.1 HH0.out.2.1 HH0.out.2.2.2 HH0.out.2.2.1 ?_; rw [HH1.out.2]))
  refine wp_region_held_drew (S := fun W' => W'.rangeAt w.heap.size 0 (evCs a)) (by kernel_rfl) (blk_range HBL.out.1) (fun hHeld => ?_)
  refine wpAnyH_take (i := 0) (v := .pointer (some ⟨w.heap.size, 2, none⟩)) rfl (by kernel_rfl) (by kernel_rfl) (by kernel_rfl) (fun _ _ _ h => h) (Or.inl ⟨by rfl, ?_⟩) (by assumption) ?_
  · intro w' hSw
    go_simp
  show wpAnyH _ _ _ _ _ _ _ (Act.put _ (some 62) _) _
  simp only [Act.put, List.setIfInBounds_toArray, List.set_cons_zero, List.set_cons_succ]
  refine wpAnyH_take (i := 1) (v := .int .i64 a.who) rfl (by kernel_rfl) (by kernel_rfl) (by kernel_rfl) (fun _ _ _ h => h) (Or.inl ⟨by rfl, ?_⟩) (by assumption) ?_
  · intro w' hSw
    have hc : w'.cell? ⟨w.heap.size, 2, none⟩ = some (.int .i64 a.who) := by have h := hSw 2 _ rfl; simpa using h
    go_simp
  show wpAnyH _ _ _ _ _ _ _ (Act.put _ (some 63) _) _
  simp only [Act.put, List.setIfInBounds_toArray, List.set_cons_zero, List.set_cons_succ]
  refine wpAnyH_take (i := 2) (v := .pointer (some ⟨w.heap.size, 9, none⟩)) rfl (by kernel_rfl) (by kernel_rfl) (by kernel_rfl) (fun _ _ _ h => h) (Or.inl ⟨by rfl, ?_⟩) (by assumption) ?_
  · intro w' hSw
    go_simp
  show wpAnyH _ _ _ _ _ _ _ (Act.put _ (some 64) _) _
  simp only [Act.put, List.setIfInBounds_toArray, List.set_cons_zero, List.set_cons_succ]
  refine wpAnyH_take (i := 3) (v := .agg #[.int .i64 a.ord.unit, .int .i64 a.ord.epoch, .int .i64 a.ord.kind, .int .i64 a.ord.incident, .int .i64 a.ord.node]) rfl (by kernel_rfl) (by kernel_rfl) (by kernel_rfl) (fun _ _ _ h => h) (yieldsIf_load_mid (by rfl) 27 (.tmp 64) rfl w.heap.size 9 rfl [.int .i64 a.ord.unit, .int .i64 a.ord.epoch, .int .i64 a.ord.kind, .int .i64 a.ord.incident, .int .i64 a.ord.node] _ (fun w' hSw => HPT.out w' hSw) Tryz.underlying27 rfl HMI.out.1) (by assumption) ?_
  show wpAnyH _ _ _ _ _ _ _ (Act.put _ (some 65) _) _
  simp only [Act.put, List.setIfInBounds_toArray, List.set_cons_zero, List.set_cons_succ]
  refine wpAnyH_take (i := 4) (v := .pointer (some ⟨w.heap.size + 1 + 1, 2, none⟩)) rfl (by kernel_rfl) (by kernel_rfl) (by kernel_rfl) (fun _ _ _ h => h) (Or.inl ⟨by rfl, ?_⟩) (by assumption) ?_
  · intro w' hSw
    go_simp
  show wpAnyH _ _ _ _ _ _ _ (Act.put _ (some 66) _) _
  simp only [Act.put, List.setIfInBounds_toArray, List.set_cons_zero, List.set_cons_succ]
  refine wpAnyH_ready (rs := [5]) (by kernel_rfl) (by simp) ?_
  refine AllReadyH.cons rfl (fun K hK => ?_) AllReadyH.nil
  have hz0 := Blk.cell (j := 2) HBL.out.2.2.1 rfl
  have hy0 := Blk.free HBL.out.2.2.1 2
  have hl0 := Blk.lt HBL.out.2.2.1
  go_simp
  refine hK.out _ _ (blk_range (HBL.out.1.other (g := w.heap.size + 1 + 1) (by omega) 2 (.int .i64 a.who))) (fun hHeld => ?_)
  clear hK K hz0 hy0 hl0
  refine wpAnyH_take (i := 6) (v := .pointer (some ⟨w.heap.size + 1 + 1, 9, none⟩)) rfl (by kernel_rfl) (by kernel_rfl) (by kernel_rfl) (fun _ _ _ h => h) (Or.inl ⟨by rfl, ?_⟩) (by assumption) ?_
  · intro w' hSw
    go_simp
  show wpAnyH _ _ _ _ _ _ _ (Act.put _ (some 67) _) _
  simp only [Act.put, List.setIfInBounds_toArray, List.set_cons_zero, List.set_cons_succ]
  refine wpAnyH_ready (rs := [7]) (by kernel_rfl) (by simp) ?_
  refine AllReadyH.cons rfl (fun K hK => ?_) AllReadyH.nil
  refine step_store_mid (by rfl) 27 (.tmp 67) (.tmp 65) rfl (w.heap.size + 1 + 1) 9 #[.int .i64 a.ord.unit, .int .i64 a.ord.epoch, .int .i64 a.ord.kind, .int .i64 a.ord.incident, .int .i64 a.ord.node] rfl rfl (blk_there (HBL.out.2.2.1.set 2 (.int .i64 a.who)) (Nat.le_of_ble_eq_true rfl)) HMI.out.1 HMI.out.2 ((((((X1.drew.setCell ⟨w.heap.size + 1 + 1, 2, none⟩ (.int .i64 a.who)).setCell ⟨w.heap.size + 1 + 1, 9, none⟩ (.int .i64 a.ord.unit)).setCell ⟨w.heap.size + 1 + 1, 10, none⟩ (.int .i64 a.ord.epoch)).setCell ⟨w.heap.size + 1 + 1, 11, none⟩ (.int .i64 a.ord.kind)).setCell ⟨w.heap.size + 1 + 1, 12, none⟩ (.int .i64 a.ord.incident)).setCell ⟨w.heap.size + 1 + 1, 13, none⟩ (.int .i64 a.ord.node)) rfl ?_
  refine hK.out _ _ (blk_range ((((((HBL.out.1.other (g := w.heap.size + 1 + 1) (by omega) 2 (.int .i64 a.who)).other (g := w.heap.size + 1 + 1) (by omega) 9 (.int .i64 a.ord.unit)).other (g := w.heap.size + 1 + 1) (by omega) 10 (.int .i64 a.ord.epoch)).other (g := w.heap.size + 1 + 1) (by omega) 11 (.int .i64 a.ord.kind)).other (g := w.heap.size + 1 + 1) (by omega) 12 (.int .i64 a.ord.incident)).other (g := w.heap.size + 1 + 1) (by omega) 13 (.int .i64 a.ord.node))) (fun hHeld => ?_)
  clear hK K
  refine wpAnyH_done (by kernel_rfl) ?_ _
  all_goals (go_wp2_with (first | ((with_reducible refine wpList_at 101 rfl ?_); refine wpList_load_row_g (by rfl) 35 (.tmp 3) rfl (w.heap.size + 1 + 1) rfl 35 D (0, 0) _ HC0.out Tryz.underlying35 rfl HH2.out.1 ?_) | ((with_reducible refine wpList_op (.store 35 (.tmp 2) (.tmp 101)) rfl ?_); refine wpList_store_row rfl 35 (.tmp 2) (.tmp 101) rfl (w.heap.size + 1) D rfl rfl 35 _ HO0.out HH2.out.1 HH2.out.2.1 HH2.out.2.2 ?_)))
  all_goals (refine bodyPost_ret (results_cell1 Tryz.results69 _ _ (w.heap.size + 1) 35 D (0, 0) _ (by rfl) (setRow_heap _ _ _ _ _ _ HO0.out) Tryz.underlying35 rfl HH2.out.1) rfl ?_)
  all_goals (have HEX := HE0.out)
  all_goals (refine ⟨({ EvM.zero 8 a.tick with who := a.who, ord := a.ord } : EvM), by rw [HDV.out], ?_, ⟨Sl.empty, ⟨SrcsAt.empty, Sl.empty⟩, Sl.empty⟩, ⟨Nat.zero_le _, (fun s hs => by cases hs), Nat.zero_le _⟩, below_setR HEX (by omega) D⟩)
  all_goals (
    unfold onlyE
    rw [show a.con.kind = 8 from HA.out.2.2.2]
    rfl
  )
set_option maxRecDepth 100000 in
set_option maxHeartbeats 8000000 in
theorem onlyEv_9 (a : EvM) (w : World) (B : Nat) (hat : EvAt w B a) (hB : B ≤ w.heap.size) (hl : ActL a.act) (hk : a.kind = 9) : Calls Tryz.prog 69 #[evV a] w (RetOE a B w) := by
  obtain ⟨C, hC⟩ : ∃ C, C = (evCs a).toArray := ⟨_, rfl⟩
  have hv : evV a = .agg C := by rw [hC]; rfl
  have c0 : C[0]? = some (.int .i64 9) := by rw [hC, ← hk]; rfl
  have c1 : C[1]? = some (.int .i64 a.tick) := by rw [hC]; rfl
  obtain ⟨D0, hD0⟩ : ∃ D, D = (evCs (EvM.zero 9 a.tick)).toArray := ⟨_, rfl⟩
  have hbt : Tryz.prog.built 35 [(0, .int .i64 9), (1, .int .i64 a.tick)] = some D0 := by rw [hD0]; rfl
  have hsz0 : (Tryz.prog.info? 35).map (·.size) = some D0.size := by rw [hD0]; exact ev_size
  have hone0 : D0.all (·.oneCell') = true := by rw [hD0]; exact evCs_one _
  have hold0 : (#[.int .i64 0, .int .i64 0, .int .i64 0, .int .i64 0, .int .i64 0, .int .i64 0, .int .i64 0, .int .i64 0, .slice none 0 0, .int .i64 0, .int .i64 0, .int .i64 0, .int .i64 0, .int .i64 0, .int .i64 0, .int .i64 0, .int .i64 0, .int .i64 0, .int .i64 0, .int .i64 0, .int .i64 0, .int .i64 0, .int .i64 0, .int .i64 0, .int .i64 0, .slice none 0 0, .slice none 0 0, .slice none 0 0] : Array Value).size = D0.size := by rw [hD0]; rfl
  obtain ⟨Z, hZ⟩ : ∃ Z : Array Value, Z = #[.int .i64 0, .int .i64 0, .int .i64 0, .int .i64 0, .int .i64 0, .int .i64 0, .int .i64 0, .int .i64 0, .slice none 0 0, .int .i64 0, .int .i64 0, .int .i64 0, .int .i64 0, .int .i64 0, .int .i64 0, .int .i64 0, .int .i64 0, .int .i64 0, .int .i64 0, .int .i64 0, .int .i64 0, .int .i64 0, .int .i64 0, .int .i64 0, .int .i64 0, .slice none 0 0, .slice none 0 0, .slice none 0 0] := ⟨_, rfl⟩
  obtain ⟨W2, hW2⟩ : ∃ W2, W2 = (w.alloc (.cells C 35)).alloc (.cells #[.int .i64 0, .int .i64 0, .int .i64 0, .int .i64 0, .int .i64 0, .int .i64 0, .int .i64 0, .int .i64 0, .slice none 0 0, .int .i64 0, .int .i64 0, .int .i64 0, .int .i64 0, .int .i64 0, .int .i64 0, .int .i64 0, .int .i64 0, .int .i64 0, .int .i64 0, .int .i64 0, .int .i64 0, .int .i64 0, .int .i64 0, .int .i64 0, .int .i64 0, .slice none 0 0, .slice none 0 0, .slice none 0 0] 35) := ⟨_, rfl⟩
  have hsW2 : W2.heap.size = w.heap.size + 1 + 1 := by rw [hW2]; simp
  have hoy := new_obj W2 (.cells #[.int .i64 0, .int .i64 0, .int .i64 0, .int .i64 0, .int .i64 0, .int .i64 0, .int .i64 0, .int .i64 0, .slice none 0 0, .int .i64 0, .int .i64 0, .int .i64 0, .int .i64 0, .int .i64 0, .int .i64 0, .int .i64 0, .int .i64 0, .int .i64 0, .int .i64 0, .int .i64 0, .int .i64 0, .int .i64 0, .int .i64 0, .int .i64 0, .int .i64 0, .slice none 0 0, .slice none 0 0, .slice none 0 0] 35)
  have hsr := World.setRow_alloc_new W2 #[.int .i64 0, .int .i64 0, .int .i64 0, .int .i64 0, .int .i64 0, .int .i64 0, .int .i64 0, .int .i64 0, .slice none 0 0, .int .i64 0, .int .i64 0, .int .i64 0, .int .i64 0, .int .i64 0, .int .i64 0, .int .i64 0, .int .i64 0, .int .i64 0, .int .i64 0, .int .i64 0, .int .i64 0, .int .i64 0, .int .i64 0, .int .i64 0, .int .i64 0, .slice none 0 0, .slice none 0 0, .slice none 0 0] D0 35
  obtain ⟨X1, hX1⟩ : ∃ X1, X1 = W2.alloc (.cells D0 35) := ⟨_, rfl⟩
  have HBL : Hid (Blk X1 w.heap.size 35 (evCs a) ∧ Blk X1 (w.heap.size + 1) 35 [.int .i64 0, .int .i64 0, .int .i64 0, .int .i64 0, .int .i64 0, .int .i64 0, .int .i64 0, .int .i64 0, .slice none 0 0, .int .i64 0, .int .i64 0, .int .i64 0, .int .i64 0, .int .i64 0, .int .i64 0, .int .i64 0, .int .i64 0, .int .i64 0, .int .i64 0, .int .i64 0, .int .i64 0, .int .i64 0, .int .i64 0, .int .i64 0, .int .i64 0, .slice none 0 0, .slice none 0 0, .slice none 0 0] ∧ Blk X1 (w.heap.size + 1 + 1) 35 (evCs (EvM.zero 9 a.tick)) ∧ Below w.heap.size w X1) := Lib.hid (by
    obtain ⟨h1, h2⟩ := two_blk w (evCs a) [.int .i64 0, .int .i64 0, .int .i64 0, .int .i64 0, .int .i64 0, .int .i64 0, .int .i64 0, .int .i64 0, .slice none 0 0, .int .i64 0, .int .i64 0, .int .i64 0, .int .i64 0, .int .i64 0, .int .i64 0, .int .i64 0, .int .i64 0, .int .i64 0, .int .i64 0, .int .i64 0, .int .i64 0, .int .i64 0, .int .i64 0, .int .i64 0, .int .i64 0, .slice none 0 0, .slice none 0 0, .slice none 0 0] 35 35
    rw [← hC] at h1 h2
    have hb3 := below_new W2 (.cells D0 35)
    rw [← hX1] at hb3
    rw [hW2] at hb3
    have hn := new_obj W2 (.cells D0 35)
    rw [← hX1, hsW2, hD0] at hn
    refine ⟨?_, ?_, hn, ?_⟩
    · exact (hb3.block _ h1.lt).trans h1
    · exact (hb3.block _ h2.lt).trans h2
    · exact (((Below.refl _ _).alloc (Nat.le_refl _) _).alloc (by simp) _).trans (hb3.mono (by simp; omega)))
  rw [← hX1, hsW2] at hsr
  rw [hsW2] at hoy
  rw [hW2] at hsr hoy
  have p2 := HBL.out.1.cell (j := 2) (u := .int .i64 a.who) rfl
  have p14 := HBL.out.1.cell (j := 14) (u := .int .i64 a.sta.unit) rfl
  have p15 := HBL.out.1.cell (j := 15) (u := .int .i64 a.sta.seq) rfl
  have p16 := HBL.out.1.cell (j := 16) (u := .int .i64 a.sta.state) rfl
  have p17 := HBL.out.1.cell (j := 17) (u := .int .i64 a.sta.node) rfl
  have p18 := HBL.out.1.cell (j := 18) (u := .int .i64 a.sta.epoch) rfl
  have p0 : X1.cell? ⟨w.heap.size, 0, none⟩ = some (.int .i64 9) := by rw [← hk]; exact HBL.out.1.cell (j := 0) rfl
  have q2 := HBL.out.2.2.1.cell (j := 2) rfl
  have f2 := HBL.out.2.2.1.free 2
  have q14 := HBL.out.2.2.1.cell (j := 14) rfl
  have f14 := HBL.out.2.2.1.free 14
  have q15 := HBL.out.2.2.1.cell (j := 15) rfl
  have f15 := HBL.out.2.2.1.free 15
  have q16 := HBL.out.2.2.1.cell (j := 16) rfl
  have f16 := HBL.out.2.2.1.free 16
  have q17 := HBL.out.2.2.1.cell (j := 17) rfl
  have f17 := HBL.out.2.2.1.free 17
  have q18 := HBL.out.2.2.1.cell (j := 18) rfl
  have f18 := HBL.out.2.2.1.free 18
  have hlt3 := HBL.out.2.2.1.lt
  have hlt1 := HBL.out.1.lt
  obtain ⟨D, hD⟩ : ∃ D, D = (evCs ({ EvM.zero 9 a.tick with who := a.who, sta := a.sta } : EvM)).toArray := ⟨_, rfl⟩
  have hszd : (Tryz.prog.info? 35).map (·.size) = some D.size := by rw [hD]; exact ev_size
  have holdd : (#[.int .i64 0, .int .i64 0, .int .i64 0, .int .i64 0, .int .i64 0, .int .i64 0, .int .i64 0, .int .i64 0, .slice none 0 0, .int .i64 0, .int .i64 0, .int .i64 0, .int .i64 0, .int .i64 0, .int .i64 0, .int .i64 0, .int .i64 0, .int .i64 0, .int .i64 0, .int .i64 0, .int .i64 0, .int .i64 0, .int .i64 0, .int .i64 0, .int .i64 0, .slice none 0 0, .slice none 0 0, .slice none 0 0] : Array Value).size = D.size := by rw [hD]; rfl
  have honed : D.all (·.oneCell') = true := by rw [hD]; exact evCs_one _
  have HDV := Lib.hid (show evV ({ EvM.zero 9 a.tick with who := a.who, sta := a.sta } : EvM) = .agg D by rw [hD]; rfl)
  have HC0 : Hid (((((((X1.drew.setCell ⟨w.heap.size + 1 + 1, 2, none⟩ (.int .i64 a.who)).setCell ⟨w.heap.size + 1 + 1, 14, none⟩ (.int .i64 a.sta.unit)).setCell ⟨w.heap.size + 1 + 1, 15, none⟩ (.int .i64 a.sta.seq)).setCell ⟨w.heap.size + 1 + 1, 16, none⟩ (.int .i64 a.sta.state)).setCell ⟨w.heap.size + 1 + 1, 17, none⟩ (.int .i64 a.sta.node)).setCell ⟨w.heap.size + 1 + 1, 18, none⟩ (.int .i64 a.sta.epoch)).heap[w.heap.size + 1 + 1]? = some (.cells D 35 (0, 0))) := Lib.hid (by rw [hD]; exact ((((((HBL.out.2.2.1.set 2 (.int .i64 a.who)).set 14 (.int .i64 a.sta.unit)).set 15 (.int .i64 a.sta.seq)).set 16 (.int .i64 a.sta.state)).set 17 (.int .i64 a.sta.node)).set 18 (.int .i64 a.sta.epoch)))
  have HO0 := Lib.hid (show ((((((X1.drew.setCell ⟨w.heap.size + 1 + 1, 2, none⟩ (.int .i64 a.who)).setCell ⟨w.heap.size + 1 + 1, 14, none⟩ (.int .i64 a.sta.unit)).setCell ⟨w.heap.size + 1 + 1, 15, none⟩ (.int .i64 a.sta.seq)).setCell ⟨w.heap.size + 1 + 1, 16, none⟩ (.int .i64 a.sta.state)).setCell ⟨w.heap.size + 1 + 1, 17, none⟩ (.int .i64 a.sta.node)).setCell ⟨w.heap.size + 1 + 1, 18, none⟩ (.int .i64 a.sta.epoch)).heap[w.heap.size + 1]? = some (.cells #[.int .i64 0, .int .i64 0, .int .i64 0, .int .i64 0, .int .i64 0, .int .i64 0, .int .i64 0, .int .i64 0, .slice none 0 0, .int .i64 0, .int .i64 0, .int .i64 0, .int .i64 0, .int .i64 0, .int .i64 0, .int .i64 0, .int .i64 0, .int .i64 0, .int .i64 0, .int .i64 0, .int .i64 0, .int .i64 0, .int .i64 0, .int .i64 0, .int .i64 0, .slice none 0 0, .slice none 0 0, .slice none 0 0] 35 (0, 0)) from ((((((HBL.out.2.1.other (g := w.heap.size + 1 + 1) (by omega) 2 (.int .i64 a.who)).other (g := w.heap.size + 1 + 1) (by omega) 14 (.int .i64 a.sta.unit)).other (g := w.heap.size + 1 + 1) (by omega) 15 (.int .i64 a.sta.seq)).other (g := w.heap.size + 1 + 1) (by omega) 16 (.int .i64 a.sta.state)).other (g := w.heap.size + 1 + 1) (by omega) 17 (.int .i64 a.sta.node)).other (g := w.heap.size + 1 + 1) (by omega) 18 (.int .i64 a.sta.epoch)))
  have HE0 := Lib.hid ((((((((show Below w.heap.size w X1.drew from ⟨HBL.out.2.2.2.os, HBL.out.2.2.2.tape, HBL.out.2.2.2.output, HBL.out.2.2.2.size, HBL.out.2.2.2.block⟩).setCell (p := ⟨w.heap.size + 1 + 1, 2, none⟩) (by show w.heap.size ≤ w.heap.size + 1 + 1; omega) (.int .i64 a.who)).setCell (p := ⟨w.heap.size + 1 + 1, 14, none⟩) (by show w.heap.size ≤ w.heap.size + 1 + 1; omega) (.int .i64 a.sta.unit)).setCell (p := ⟨w.heap.size + 1 + 1, 15, none⟩) (by show w.heap.size ≤ w.heap.size + 1 + 1; omega) (.int .i64 a.sta.seq)).setCell (p := ⟨w.heap.size + 1 + 1, 16, none⟩) (by show w.heap.size ≤ w.heap.size + 1 + 1; omega) (.int .i64 a.sta.state)).setCell (p := ⟨w.heap.size + 1 + 1, 17, none⟩) (by show w.heap.size ≤ w.heap.size + 1 + 1; omega) (.int .i64 a.sta.node)).setCell (p := ⟨w.heap.size + 1 + 1, 18, none⟩) (by show w.heap.size ≤ w.heap.size + 1 + 1; omega) (.int .i64 a.sta.epoch)))
  clear hD
  have HMI := Lib.hid (And.intro (show (Tryz.prog.info? 29).map (·.size) = some 5 by kernel_rfl) (show (#[.int .i64 a.sta.unit, .int .i64 a.sta.seq, .int .i64 a.sta.state, .int .i64 a.sta.node, .int .i64 a.sta.epoch] : Array Value).all (·.oneCell') = true by simp [Value.oneCell']))
  have HPT := Lib.hid (show ∀ X : World, X.rangeAt w.heap.size 0 (evCs a) → X.rangeAt w.heap.size 14 [.int .i64 a.sta.unit, .int .i64 a.sta.seq, .int .i64 a.sta.state, .int .i64 a.sta.node, .int .i64 a.sta.epoch] from fun X h => range_part h (fun j v hj => by
    match j, hj with
    | 0, hj => exact hj
    | 1, hj => exact hj
    | 2, hj => exact hj
    | 3, hj => exact hj
    | 4, hj => exact hj
    | j + 5, hj => simp at hj))
  have HA := Lib.hid (And.intro hat (And.intro hl (And.intro hB hk)))
  have HH0 := Lib.hid (And.intro hbt (And.intro hsz0 (And.intro hone0 hold0)))
  have HH1 := Lib.hid (And.intro hoy hsr)
  have HH2 := Lib.hid (And.intro hszd (And.intro holdd honed))
  rw [hv]
  clear hC hv hX1 hsW2 hW2 hat hl hB hk hD0 hbt hsz0 hone0 hold0 hoy hsr hszd holdd honed hZ Z
  go_enter Tryz.func69, Tryz.ntmps69
  go_wp2_with (first | ((with_reducible refine wpList_at 8 rfl ?_); refine wpList_build_v rfl 35 #[(0, .tmp 5), (1, .tmp 7)] rfl D0 [(0, .int .i64 9), (1, .int .i64 a.tick)] (by rw [Array.toList_map]; rfl) HH0.out.1 ?_) | ((with_reducible refine wpList_op (.store 35 (.tmp 3) (.tmp 8)) rfl ?_); refine wpList_store_row rfl 35 (.tmp 3) (.tmp 8) rfl (w.heap.size + 1 + 1) D0 rfl rfl 35 _ HH1.out.1 HH0.out.2.1 HH0.out.2.2.2 HH0.out.2.2.1 ?_; rw [HH1.out.2]))
  refine wp_region_held_drew (S := fun W' => W'.rangeAt w.heap.size 0 (evCs a)) (by kernel_rfl) (blk_range HBL.out.1) (fun hHeld => ?_)
  refine wpAnyH_take (i := 0) (v := .pointer (some ⟨w.heap.size, 2, none⟩)) rfl (by kernel_rfl) (by kernel_rfl) (by kernel_rfl) (fun _ _ _ h => h) (Or.inl ⟨by rfl, ?_⟩) (by assumption) ?_
  · intro w' hSw
    go_simp
  show wpAnyH _ _ _ _ _ _ _ (Act.put _ (some 70) _) _
  simp only [Act.put, List.setIfInBounds_toArray, List.set_cons_zero, List.set_cons_succ]
  refine wpAnyH_take (i := 1) (v := .int .i64 a.who) rfl (by kernel_rfl) (by kernel_rfl) (by kernel_rfl) (fun _ _ _ h => h) (Or.inl ⟨by rfl, ?_⟩) (by assumption) ?_
  · intro w' hSw
    have hc : w'.cell? ⟨w.heap.size, 2, none⟩ = some (.int .i64 a.who) := by have h := hSw 2 _ rfl; simpa using h
    go_simp
  show wpAnyH _ _ _ _ _ _ _ (Act.put _ (some 71) _) _
  simp only [Act.put, List.setIfInBounds_toArray, List.set_cons_zero, List.set_cons_succ]
  refine wpAnyH_take (i := 2) (v := .pointer (some ⟨w.heap.size, 14, none⟩)) rfl (by kernel_rfl) (by kernel_rfl) (by kernel_rfl) (fun _ _ _ h => h) (Or.inl ⟨by rfl, ?_⟩) (by assumption) ?_
  · intro w' hSw
    go_simp
  show wpAnyH _ _ _ _ _ _ _ (Act.put _ (some 72) _) _
  simp only [Act.put, List.setIfInBounds_toArray, List.set_cons_zero, List.set_cons_succ]
  refine wpAnyH_take (i := 3) (v := .agg #[.int .i64 a.sta.unit, .int .i64 a.sta.seq, .int .i64 a.sta.state, .int .i64 a.sta.node, .int .i64 a.sta.epoch]) rfl (by kernel_rfl) (by kernel_rfl) (by kernel_rfl) (fun _ _ _ h => h) (yieldsIf_load_mid (by rfl) 29 (.tmp 72) rfl w.heap.size 14 rfl [.int .i64 a.sta.unit, .int .i64 a.sta.seq, .int .i64 a.sta.state, .int .i64 a.sta.node, .int .i64 a.sta.epoch] _ (fun w' hSw => HPT.out w' hSw) Tryz.underlying29 rfl HMI.out.1) (by assumption) ?_
  show wpAnyH _ _ _ _ _ _ _ (Act.put _ (some 73) _) _
  simp only [Act.put, List.setIfInBounds_toArray, List.set_cons_zero, List.set_cons_succ]
  refine wpAnyH_take (i := 4) (v := .pointer (some ⟨w.heap.size + 1 + 1, 2, none⟩)) rfl (by kernel_rfl) (by kernel_rfl) (by kernel_rfl) (fun _ _ _ h => h) (Or.inl ⟨by rfl, ?_⟩) (by assumption) ?_
  · intro w' hSw
    go_simp
  show wpAnyH _ _ _ _ _ _ _ (Act.put _ (some 74) _) _
  simp only [Act.put, List.setIfInBounds_toArray, List.set_cons_zero, List.set_cons_succ]
  refine wpAnyH_ready (rs := [5]) (by kernel_rfl) (by simp) ?_
  refine AllReadyH.cons rfl (fun K hK => ?_) AllReadyH.nil
  have hz0 := Blk.cell (j := 2) HBL.out.2.2.1 rfl
  have hy0 := Blk.free HBL.out.2.2.1 2
  have hl0 := Blk.lt HBL.out.2.2.1
  go_simp
  refine hK.out _ _ (blk_range (HBL.out.1.other (g := w.heap.size + 1 + 1) (by omega) 2 (.int .i64 a.who))) (fun hHeld => ?_)
  clear hK K hz0 hy0 hl0
  refine wpAnyH_take (i := 6) (v := .pointer (some ⟨w.heap.size + 1 + 1, 14, none⟩)) rfl (by kernel_rfl) (by kernel_rfl) (by kernel_rfl) (fun _ _ _ h => h) (Or.inl ⟨by rfl, ?_⟩) (by assumption) ?_
  · intro w' hSw
    go_simp
  show wpAnyH _ _ _ _ _ _ _ (Act.put _ (some 75) _) _
  simp only [Act.put, List.setIfInBounds_toArray, List.set_cons_zero, List.set_cons_succ]
  refine wpAnyH_ready (rs := [7]) (by kernel_rfl) (by simp) ?_
  refine AllReadyH.cons rfl (fun K hK => ?_) AllReadyH.nil
  refine step_store_mid (by rfl) 29 (.tmp 75) (.tmp 73) rfl (w.heap.size + 1 + 1) 14 #[.int .i64 a.sta.unit, .int .i64 a.sta.seq, .int .i64 a.sta.state, .int .i64 a.sta.node, .int .i64 a.sta.epoch] rfl rfl (blk_there (HBL.out.2.2.1.set 2 (.int .i64 a.who)) (Nat.le_of_ble_eq_true rfl)) HMI.out.1 HMI.out.2 ((((((X1.drew.setCell ⟨w.heap.size + 1 + 1, 2, none⟩ (.int .i64 a.who)).setCell ⟨w.heap.size + 1 + 1, 14, none⟩ (.int .i64 a.sta.unit)).setCell ⟨w.heap.size + 1 + 1, 15, none⟩ (.int .i64 a.sta.seq)).setCell ⟨w.heap.size + 1 + 1, 16, none⟩ (.int .i64 a.sta.state)).setCell ⟨w.heap.size + 1 + 1, 17, none⟩ (.int .i64 a.sta.node)).setCell ⟨w.heap.size + 1 + 1, 18, none⟩ (.int .i64 a.sta.epoch)) rfl ?_
  refine hK.out _ _ (blk_range ((((((HBL.out.1.other (g := w.heap.size + 1 + 1) (by omega) 2 (.int .i64 a.who)).other (g := w.heap.size + 1 + 1) (by omega) 14 (.int .i64 a.sta.unit)).other (g := w.heap.size + 1 + 1) (by omega) 15 (.int .i64 a.sta.seq)).other (g := w.heap.size + 1 + 1) (by omega) 16 (.int .i64 a.sta.state)).other (g := w.heap.size + 1 + 1) (by omega) 17 (.int .i64 a.sta.node)).other (g := w.heap.size + 1 + 1) (by omega) 18 (.int .i64 a.sta.epoch))) (fun hHeld => ?_)
  clear hK K
  refine wpAnyH_done (by kernel_rfl) ?_ _
  all_goals (go_wp2_with (first | ((with_reducible refine wpList_at 101 rfl ?_); refine wpList_load_row_g (by rfl) 35 (.tmp 3) rfl (w.heap.size + 1 + 1) rfl 35 D (0, 0) _ HC0.out Tryz.underlying35 rfl HH2.out.1 ?_) | ((with_reducible refine wpList_op (.store 35 (.tmp 2) (.tmp 101)) rfl ?_); refine wpList_store_row rfl 35 (.tmp 2) (.tmp 101) rfl (w.heap.size + 1) D rfl rfl 35 _ HO0.out HH2.out.1 HH2.out.2.1 HH2.out.2.2 ?_)))
  all_goals (refine bodyPost_ret (results_cell1 Tryz.results69 _ _ (w.heap.size + 1) 35 D (0, 0) _ (by rfl) (setRow_heap _ _ _ _ _ _ HO0.out) Tryz.underlying35 rfl HH2.out.1) rfl ?_)
  all_goals (have HEX := HE0.out)
  all_goals (refine ⟨({ EvM.zero 9 a.tick with who := a.who, sta := a.sta } : EvM), by rw [HDV.out], ?_, ⟨Sl.empty, ⟨SrcsAt.empty, Sl.empty⟩, Sl.empty⟩, ⟨Nat.zero_le _, (fun s hs => by cases hs), Nat.zero_le _⟩, below_setR HEX (by omega) D⟩)
  all_goals (
    unfold onlyE
    rw [show a.con.kind = 9 from HA.out.2.2.2]
    rfl
  )
set_option maxRecDepth 100000 in
set_option maxHeartbeats 8000000 in
theorem onlyEv_10 (a : EvM) (w : World) (B : Nat) (hat : EvAt w B a) (hB : B ≤ w.heap.size) (hl : ActL a.act) (hk : a.kind = 10) : Calls Tryz.prog 69 #[evV a] w (RetOE a B w) := by
  obtain ⟨C, hC⟩ : ∃ C, C = (evCs a).toArray := ⟨_, rfl⟩
  have hv : evV a = .agg C := by rw [hC]; rfl
  have c0 : C[0]? = some (.int .i64 10) := by rw [hC, ← hk]; rfl
  have c1 : C[1]? = some (.int .i64 a.tick) := by rw [hC]; rfl
  obtain ⟨D0, hD0⟩ : ∃ D, D = (evCs (EvM.zero 10 a.tick)).toArray := ⟨_, rfl⟩
  have hbt : Tryz.prog.built 35 [(0, .int .i64 10), (1, .int .i64 a.tick)] = some D0 := by rw [hD0]; rfl
  have hsz0 : (Tryz.prog.info? 35).map (·.size) = some D0.size := by rw [hD0]; exact ev_size
  have hone0 : D0.all (·.oneCell') = true := by rw [hD0]; exact evCs_one _
  have hold0 : (#[.int .i64 0, .int .i64 0, .int .i64 0, .int .i64 0, .int .i64 0, .int .i64 0, .int .i64 0, .int .i64 0, .slice none 0 0, .int .i64 0, .int .i64 0, .int .i64 0, .int .i64 0, .int .i64 0, .int .i64 0, .int .i64 0, .int .i64 0, .int .i64 0, .int .i64 0, .int .i64 0, .int .i64 0, .int .i64 0, .int .i64 0, .int .i64 0, .int .i64 0, .slice none 0 0, .slice none 0 0, .slice none 0 0] : Array Value).size = D0.size := by rw [hD0]; rfl
  obtain ⟨Z, hZ⟩ : ∃ Z : Array Value, Z = #[.int .i64 0, .int .i64 0, .int .i64 0, .int .i64 0, .int .i64 0, .int .i64 0, .int .i64 0, .int .i64 0, .slice none 0 0, .int .i64 0, .int .i64 0, .int .i64 0, .int .i64 0, .int .i64 0, .int .i64 0, .int .i64 0, .int .i64 0, .int .i64 0, .int .i64 0, .int .i64 0, .int .i64 0, .int .i64 0, .int .i64 0, .int .i64 0, .int .i64 0, .slice none 0 0, .slice none 0 0, .slice none 0 0] := ⟨_, rfl⟩
  obtain ⟨W2, hW2⟩ : ∃ W2, W2 = (w.alloc (.cells C 35)).alloc (.cells #[.int .i64 0, .int .i64 0, .int .i64 0, .int .i64 0, .int .i64 0, .int .i64 0, .int .i64 0, .int .i64 0, .slice none 0 0, .int .i64 0, .int .i64 0, .int .i64 0, .int .i64 0, .int .i64 0, .int .i64 0, .int .i64 0, .int .i64 0, .int .i64 0, .int .i64 0, .int .i64 0, .int .i64 0, .int .i64 0, .int .i64 0, .int .i64 0, .int .i64 0, .slice none 0 0, .slice none 0 0, .slice none 0 0] 35) := ⟨_, rfl⟩
  have hsW2 : W2.heap.size = w.heap.size + 1 + 1 := by rw [hW2]; simp
  have hoy := new_obj W2 (.cells #[.int .i64 0, .int .i64 0, .int .i64 0, .int .i64 0, .int .i64 0, .int .i64 0, .int .i64 0, .int .i64 0, .slice none 0 0, .int .i64 0, .int .i64 0, .int .i64 0, .int .i64 0, .int .i64 0, .int .i64 0, .int .i64 0, .int .i64 0, .int .i64 0, .int .i64 0, .int .i64 0, .int .i64 0, .int .i64 0, .int .i64 0, .int .i64 0, .int .i64 0, .slice none 0 0, .slice none 0 0, .slice none 0 0] 35)
  have hsr := World.setRow_alloc_new W2 #[.int .i64 0, .int .i64 0, .int .i64 0, .int .i64 0, .int .i64 0, .int .i64 0, .int .i64 0, .int .i64 0, .slice none 0 0, .int .i64 0, .int .i64 0, .int .i64 0, .int .i64 0, .int .i64 0, .int .i64 0, .int .i64 0, .int .i64 0, .int .i64 0, .int .i64 0, .int .i64 0, .int .i64 0, .int .i64 0, .int .i64 0, .int .i64 0, .int .i64 0, .slice none 0 0, .slice none 0 0, .slice none 0 0] D0 35
  obtain ⟨X1, hX1⟩ : ∃ X1, X1 = W2.alloc (.cells D0 35) := ⟨_, rfl⟩
  have HBL : Hid (Blk X1 w.heap.size 35 (evCs a) ∧ Blk X1 (w.heap.size + 1) 35 [.int .i64 0, .int .i64 0, .int .i64 0, .int .i64 0, .int .i64 0, .int .i64 0, .int .i64 0, .int .i64 0, .slice none 0 0, .int .i64 0, .int .i64 0, .int .i64 0, .int .i64 0, .int .i64 0, .int .i64 0, .int .i64 0, .int .i64 0, .int .i64 0, .int .i64 0, .int .i64 0, .int .i64 0, .int .i64 0, .int .i64 0, .int .i64 0, .int .i64 0, .slice none 0 0, .slice none 0 0, .slice none 0 0] ∧ Blk X1 (w.heap.size + 1 + 1) 35 (evCs (EvM.zero 10 a.tick)) ∧ Below w.heap.size w X1) := Lib.hid (by
    obtain ⟨h1, h2⟩ := two_blk w (evCs a) [.int .i64 0, .int .i64 0, .int .i64 0, .int .i64 0, .int .i64 0, .int .i64 0, .int .i64 0, .int .i64 0, .slice none 0 0, .int .i64 0, .int .i64 0, .int .i64 0, .int .i64 0, .int .i64 0, .int .i64 0, .int .i64 0, .int .i64 0, .int .i64 0, .int .i64 0, .int .i64 0, .int .i64 0, .int .i64 0, .int .i64 0, .int .i64 0, .int .i64 0, .slice none 0 0, .slice none 0 0, .slice none 0 0] 35 35
    rw [← hC] at h1 h2
    have hb3 := below_new W2 (.cells D0 35)
    rw [← hX1] at hb3
    rw [hW2] at hb3
    have hn := new_obj W2 (.cells D0 35)
    rw [← hX1, hsW2, hD0] at hn
    refine ⟨?_, ?_, hn, ?_⟩
    · exact (hb3.block _ h1.lt).trans h1
    · exact (hb3.block _ h2.lt).trans h2
    · exact (((Below.refl _ _).alloc (Nat.le_refl _) _).alloc (by simp) _).trans (hb3.mono (by simp; omega)))
  rw [← hX1, hsW2] at hsr
  rw [hsW2] at hoy
  rw [hW2] at hsr hoy
  have p2 := HBL.out.1.cell (j := 2) (u := .int .i64 a.who) rfl
  have p0 : X1.cell? ⟨w.heap.size, 0, none⟩ = some (.int .i64 10) := by rw [← hk]; exact HBL.out.1.cell (j := 0) rfl
  have q2 := HBL.out.2.2.1.cell (j := 2) rfl
  have f2 := HBL.out.2.2.1.free 2
  have hlt3 := HBL.out.2.2.1.lt
  have hlt1 := HBL.out.1.lt
  obtain ⟨D, hD⟩ : ∃ D, D = (evCs ({ EvM.zero 10 a.tick with who := a.who } : EvM)).toArray := ⟨_, rfl⟩
  have hszd : (Tryz.prog.info? 35).map (·.size) = some D.size := by rw [hD]; exact ev_size
  have holdd : (#[.int .i64 0, .int .i64 0, .int .i64 0, .int .i64 0, .int .i64 0, .int .i64 0, .int .i64 0, .int .i64 0, .slice none 0 0, .int .i64 0, .int .i64 0, .int .i64 0, .int .i64 0, .int .i64 0, .int .i64 0, .int .i64 0, .int .i64 0, .int .i64 0, .int .i64 0, .int .i64 0, .int .i64 0, .int .i64 0, .int .i64 0, .int .i64 0, .int .i64 0, .slice none 0 0, .slice none 0 0, .slice none 0 0] : Array Value).size = D.size := by rw [hD]; rfl
  have honed : D.all (·.oneCell') = true := by rw [hD]; exact evCs_one _
  have HDV := Lib.hid (show evV ({ EvM.zero 10 a.tick with who := a.who } : EvM) = .agg D by rw [hD]; rfl)
  have HC0 : Hid ((X1.setCell ⟨w.heap.size + 1 + 1, 2, none⟩ (.int .i64 a.who)).heap[w.heap.size + 1 + 1]? = some (.cells D 35 (0, 0))) := Lib.hid (by rw [hD]; exact (HBL.out.2.2.1.set 2 (.int .i64 a.who)))
  have HO0 := Lib.hid (show (X1.setCell ⟨w.heap.size + 1 + 1, 2, none⟩ (.int .i64 a.who)).heap[w.heap.size + 1]? = some (.cells #[.int .i64 0, .int .i64 0, .int .i64 0, .int .i64 0, .int .i64 0, .int .i64 0, .int .i64 0, .int .i64 0, .slice none 0 0, .int .i64 0, .int .i64 0, .int .i64 0, .int .i64 0, .int .i64 0, .int .i64 0, .int .i64 0, .int .i64 0, .int .i64 0, .int .i64 0, .int .i64 0, .int .i64 0, .int .i64 0, .int .i64 0, .int .i64 0, .int .i64 0, .slice none 0 0, .slice none 0 0, .slice none 0 0] 35 (0, 0)) from (HBL.out.2.1.other (g := w.heap.size + 1 + 1) (by omega) 2 (.int .i64 a.who)))
  have HE0 := Lib.hid ((HBL.out.2.2.2.setCell (p := ⟨w.heap.size + 1 + 1, 2, none⟩) (by show w.heap.size ≤ w.heap.size + 1 + 1; omega) (.int .i64 a.who)))
  clear hD
  have HA := Lib.hid (And.intro hat (And.intro hl (And.intro hB hk)))
  have HH0 := Lib.hid (And.intro hbt (And.intro hsz0 (And.intro hone0 hold0)))
  have HH1 := Lib.hid (And.intro hoy hsr)
  have HH2 := Lib.hid (And.intro hszd (And.intro holdd honed))
  rw [hv]
  clear hC hv hX1 hsW2 hW2 hat hl hB hk hD0 hbt hsz0 hone0 hold0 hoy hsr hszd holdd honed hZ Z
  go_enter Tryz.func69, Tryz.ntmps69
  go_wp2_with (first | ((with_reducible refine wpList_at 8 rfl ?_); refine wpList_build_v rfl 35 #[(0, .tmp 5), (1, .tmp 7)] rfl D0 [(0, .int .i64 10), (1, .int .i64 a.tick)] (by rw [Array.toList_map]; rfl) HH0.out.1 ?_) | ((with_reducible refine wpList_op (.store 35 (.tmp 3) (.tmp 8)) rfl ?_); refine wpList_store_row rfl 35 (.tmp 3) (.tmp 8) rfl (w.heap.size + 1 + 1) D0 rfl rfl 35 _ HH1.out.1 HH0.out.2.1 HH0.out.2.2.2 HH0.out.2.2.1 ?_; rw [HH1.out.2]) | ((with_reducible refine wpList_at 101 rfl ?_); refine wpList_load_row_g (by rfl) 35 (.tmp 3) rfl (w.heap.size + 1 + 1) rfl 35 D (0, 0) _ HC0.out Tryz.underlying35 rfl HH2.out.1 ?_) | ((with_reducible refine wpList_op (.store 35 (.tmp 2) (.tmp 101)) rfl ?_); refine wpList_store_row rfl 35 (.tmp 2) (.tmp 101) rfl (w.heap.size + 1) D rfl rfl 35 _ HO0.out HH2.out.1 HH2.out.2.1 HH2.out.2.2 ?_))
  all_goals (refine bodyPost_ret (results_cell1 Tryz.results69 _ _ (w.heap.size + 1) 35 D (0, 0) _ (by rfl) (setRow_heap _ _ _ _ _ _ HO0.out) Tryz.underlying35 rfl HH2.out.1) rfl ?_)
  all_goals (have HEX := HE0.out)
  all_goals (refine ⟨({ EvM.zero 10 a.tick with who := a.who } : EvM), by rw [HDV.out], ?_, ⟨Sl.empty, ⟨SrcsAt.empty, Sl.empty⟩, Sl.empty⟩, ⟨Nat.zero_le _, (fun s hs => by cases hs), Nat.zero_le _⟩, below_setR HEX (by omega) D⟩)
  all_goals (
    unfold onlyE
    rw [show a.con.kind = 10 from HA.out.2.2.2]
    rfl
  )
set_option maxRecDepth 100000 in
set_option maxHeartbeats 8000000 in
theorem onlyEv_11 (a : EvM) (w : World) (B : Nat) (hat : EvAt w B a) (hB : B ≤ w.heap.size) (hl : ActL a.act) (hk : a.kind = 11) : Calls Tryz.prog 69 #[evV a] w (RetOE a B w) := by
  obtain ⟨C, hC⟩ : ∃ C, C = (evCs a).toArray := ⟨_, rfl⟩
  have hv : evV a = .agg C := by rw [hC]; rfl
  have c0 : C[0]? = some (.int .i64 11) := by rw [hC, ← hk]; rfl
  have c1 : C[1]? = some (.int .i64 a.tick) := by rw [hC]; rfl
  obtain ⟨D0, hD0⟩ : ∃ D, D = (evCs (EvM.zero 11 a.tick)).toArray := ⟨_, rfl⟩
  have hbt : Tryz.prog.built 35 [(0, .int .i64 11), (1, .int .i64 a.tick)] = some D0 := by rw [hD0]; rfl
  have hsz0 : (Tryz.prog.info? 35).map (·.size) = some D0.size := by rw [hD0]; exact ev_size
  have hone0 : D0.all (·.oneCell') = true := by rw [hD0]; exact evCs_one _
  have hold0 : (#[.int .i64 0, .int .i64 0, .int .i64 0, .int .i64 0, .int .i64 0, .int .i64 0, .int .i64 0, .int .i64 0, .slice none 0 0, .int .i64 0, .int .i64 0, .int .i64 0, .int .i64 0, .int .i64 0, .int .i64 0, .int .i64 0, .int .i64 0, .int .i64 0, .int .i64 0, .int .i64 0, .int .i64 0, .int .i64 0, .int .i64 0, .int .i64 0, .int .i64 0, .slice none 0 0, .slice none 0 0, .slice none 0 0] : Array Value).size = D0.size := by rw [hD0]; rfl
  obtain ⟨Z, hZ⟩ : ∃ Z : Array Value, Z = #[.int .i64 0, .int .i64 0, .int .i64 0, .int .i64 0, .int .i64 0, .int .i64 0, .int .i64 0, .int .i64 0, .slice none 0 0, .int .i64 0, .int .i64 0, .int .i64 0, .int .i64 0, .int .i64 0, .int .i64 0, .int .i64 0, .int .i64 0, .int .i64 0, .int .i64 0, .int .i64 0, .int .i64 0, .int .i64 0, .int .i64 0, .int .i64 0, .int .i64 0, .slice none 0 0, .slice none 0 0, .slice none 0 0] := ⟨_, rfl⟩
  obtain ⟨W2, hW2⟩ : ∃ W2, W2 = (w.alloc (.cells C 35)).alloc (.cells #[.int .i64 0, .int .i64 0, .int .i64 0, .int .i64 0, .int .i64 0, .int .i64 0, .int .i64 0, .int .i64 0, .slice none 0 0, .int .i64 0, .int .i64 0, .int .i64 0, .int .i64 0, .int .i64 0, .int .i64 0, .int .i64 0, .int .i64 0, .int .i64 0, .int .i64 0, .int .i64 0, .int .i64 0, .int .i64 0, .int .i64 0, .int .i64 0, .int .i64 0, .slice none 0 0, .slice none 0 0, .slice none 0 0] 35) := ⟨_, rfl⟩
  have hsW2 : W2.heap.size = w.heap.size + 1 + 1 := by rw [hW2]; simp
  have hoy := new_obj W2 (.cells #[.int .i64 0, .int .i64 0, .int .i64 0, .int .i64 0, .int .i64 0, .int .i64 0, .int .i64 0, .int .i64 0, .slice none 0 0, .int .i64 0, .int .i64 0, .int .i64 0, .int .i64 0, .int .i64 0, .int .i64 0, .int .i64 0, .int .i64 0, .int .i64 0, .int .i64 0, .int .i64 0, .int .i64 0, .int .i64 0, .int .i64 0, .int .i64 0, .int .i64 0, .slice none 0 0, .slice none 0 0, .slice none 0 0] 35)
  have hsr := World.setRow_alloc_new W2 #[.int .i64 0, .int .i64 0, .int .i64 0, .int .i64 0, .int .i64 0, .int .i64 0, .int .i64 0, .int .i64 0, .slice none 0 0, .int .i64 0, .int .i64 0, .int .i64 0, .int .i64 0, .int .i64 0, .int .i64 0, .int .i64 0, .int .i64 0, .int .i64 0, .int .i64 0, .int .i64 0, .int .i64 0, .int .i64 0, .int .i64 0, .int .i64 0, .int .i64 0, .slice none 0 0, .slice none 0 0, .slice none 0 0] D0 35
  obtain ⟨X1, hX1⟩ : ∃ X1, X1 = W2.alloc (.cells D0 35) := ⟨_, rfl⟩
  have HBL : Hid (Blk X1 w.heap.size 35 (evCs a) ∧ Blk X1 (w.heap.size + 1) 35 [.int .i64 0, .int .i64 0, .int .i64 0, .int .i64 0, .int .i64 0, .int .i64 0, .int .i64 0, .int .i64 0, .slice none 0 0, .int .i64 0, .int .i64 0, .int .i64 0, .int .i64 0, .int .i64 0, .int .i64 0, .int .i64 0, .int .i64 0, .int .i64 0, .int .i64 0, .int .i64 0, .int .i64 0, .int .i64 0, .int .i64 0, .int .i64 0, .int .i64 0, .slice none 0 0, .slice none 0 0, .slice none 0 0] ∧ Blk X1 (w.heap.size + 1 + 1) 35 (evCs (EvM.zero 11 a.tick)) ∧ Below w.heap.size w X1) := Lib.hid (by
    obtain ⟨h1, h2⟩ := two_blk w (evCs a) [.int .i64 0, .int .i64 0, .int .i64 0, .int .i64 0, .int .i64 0, .int .i64 0, .int .i64 0, .int .i64 0, .slice none 0 0, .int .i64 0, .int .i64 0, .int .i64 0, .int .i64 0, .int .i64 0, .int .i64 0, .int .i64 0, .int .i64 0, .int .i64 0, .int .i64 0, .int .i64 0, .int .i64 0, .int .i64 0, .int .i64 0, .int .i64 0, .int .i64 0, .slice none 0 0, .slice none 0 0, .slice none 0 0] 35 35
    rw [← hC] at h1 h2
    have hb3 := below_new W2 (.cells D0 35)
    rw [← hX1] at hb3
    rw [hW2] at hb3
    have hn := new_obj W2 (.cells D0 35)
    rw [← hX1, hsW2, hD0] at hn
    refine ⟨?_, ?_, hn, ?_⟩
    · exact (hb3.block _ h1.lt).trans h1
    · exact (hb3.block _ h2.lt).trans h2
    · exact (((Below.refl _ _).alloc (Nat.le_refl _) _).alloc (by simp) _).trans (hb3.mono (by simp; omega)))
  rw [← hX1, hsW2] at hsr
  rw [hsW2] at hoy
  rw [hW2] at hsr hoy
  have p2 := HBL.out.1.cell (j := 2) (u := .int .i64 a.who) rfl
  have p0 : X1.cell? ⟨w.heap.size, 0, none⟩ = some (.int .i64 11) := by rw [← hk]; exact HBL.out.1.cell (j := 0) rfl
  have q2 := HBL.out.2.2.1.cell (j := 2) rfl
  have f2 := HBL.out.2.2.1.free 2
  have hlt3 := HBL.out.2.2.1.lt
  have hlt1 := HBL.out.1.lt
  obtain ⟨D, hD⟩ : ∃ D, D = (evCs ({ EvM.zero 11 a.tick with who := a.who } : EvM)).toArray := ⟨_, rfl⟩
  have hszd : (Tryz.prog.info? 35).map (·.size) = some D.size := by rw [hD]; exact ev_size
  have holdd : (#[.int .i64 0, .int .i64 0, .int .i64 0, .int .i64 0, .int .i64 0, .int .i64 0, .int .i64 0, .int .i64 0, .slice none 0 0, .int .i64 0, .int .i64 0, .int .i64 0, .int .i64 0, .int .i64 0, .int .i64 0, .int .i64 0, .int .i64 0, .int .i64 0, .int .i64 0, .int .i64 0, .int .i64 0, .int .i64 0, .int .i64 0, .int .i64 0, .int .i64 0, .slice none 0 0, .slice none 0 0, .slice none 0 0] : Array Value).size = D.size := by rw [hD]; rfl
  have honed : D.all (·.oneCell') = true := by rw [hD]; exact evCs_one _
  have HDV := Lib.hid (show evV ({ EvM.zero 11 a.tick with who := a.who } : EvM) = .agg D by rw [hD]; rfl)
  have HC0 : Hid ((X1.setCell ⟨w.heap.size + 1 + 1, 2, none⟩ (.int .i64 a.who)).heap[w.heap.size + 1 + 1]? = some (.cells D 35 (0, 0))) := Lib.hid (by rw [hD]; exact (HBL.out.2.2.1.set 2 (.int .i64 a.who)))
  have HO0 := Lib.hid (show (X1.setCell ⟨w.heap.size + 1 + 1, 2, none⟩ (.int .i64 a.who)).heap[w.heap.size + 1]? = some (.cells #[.int .i64 0, .int .i64 0, .int .i64 0, .int .i64 0, .int .i64 0, .int .i64 0, .int .i64 0, .int .i64 0, .slice none 0 0, .int .i64 0, .int .i64 0, .int .i64 0, .int .i64 0, .int .i64 0, .int .i64 0, .int .i64 0, .int .i64 0, .int .i64 0, .int .i64 0, .int .i64 0, .int .i64 0, .int .i64 0, .int .i64 0, .int .i64 0, .int .i64 0, .slice none 0 0, .slice none 0 0, .slice none 0 0] 35 (0, 0)) from (HBL.out.2.1.other (g := w.heap.size + 1 + 1) (by omega) 2 (.int .i64 a.who)))
  have HE0 := Lib.hid ((HBL.out.2.2.2.setCell (p := ⟨w.heap.size + 1 + 1, 2, none⟩) (by show w.heap.size ≤ w.heap.size + 1 + 1; omega) (.int .i64 a.who)))
  clear hD
  have HA := Lib.hid (And.intro hat (And.intro hl (And.intro hB hk)))
  have HH0 := Lib.hid (And.intro hbt (And.intro hsz0 (And.intro hone0 hold0)))
  have HH1 := Lib.hid (And.intro hoy hsr)
  have HH2 := Lib.hid (And.intro hszd (And.intro holdd honed))
  rw [hv]
  clear hC hv hX1 hsW2 hW2 hat hl hB hk hD0 hbt hsz0 hone0 hold0 hoy hsr hszd holdd honed hZ Z
  go_enter Tryz.func69, Tryz.ntmps69
  go_wp2_with (first | ((with_reducible refine wpList_at 8 rfl ?_); refine wpList_build_v rfl 35 #[(0, .tmp 5), (1, .tmp 7)] rfl D0 [(0, .int .i64 11), (1, .int .i64 a.tick)] (by rw [Array.toList_map]; rfl) HH0.out.1 ?_) | ((with_reducible refine wpList_op (.store 35 (.tmp 3) (.tmp 8)) rfl ?_); refine wpList_store_row rfl 35 (.tmp 3) (.tmp 8) rfl (w.heap.size + 1 + 1) D0 rfl rfl 35 _ HH1.out.1 HH0.out.2.1 HH0.out.2.2.2 HH0.out.2.2.1 ?_; rw [HH1.out.2]) | ((with_reducible refine wpList_at 101 rfl ?_); refine wpList_load_row_g (by rfl) 35 (.tmp 3) rfl (w.heap.size + 1 + 1) rfl 35 D (0, 0) _ HC0.out Tryz.underlying35 rfl HH2.out.1 ?_) | ((with_reducible refine wpList_op (.store 35 (.tmp 2) (.tmp 101)) rfl ?_); refine wpList_store_row rfl 35 (.tmp 2) (.tmp 101) rfl (w.heap.size + 1) D rfl rfl 35 _ HO0.out HH2.out.1 HH2.out.2.1 HH2.out.2.2 ?_))
  all_goals (refine bodyPost_ret (results_cell1 Tryz.results69 _ _ (w.heap.size + 1) 35 D (0, 0) _ (by rfl) (setRow_heap _ _ _ _ _ _ HO0.out) Tryz.underlying35 rfl HH2.out.1) rfl ?_)
  all_goals (have HEX := HE0.out)
  all_goals (refine ⟨({ EvM.zero 11 a.tick with who := a.who } : EvM), by rw [HDV.out], ?_, ⟨Sl.empty, ⟨SrcsAt.empty, Sl.empty⟩, Sl.empty⟩, ⟨Nat.zero_le _, (fun s hs => by cases hs), Nat.zero_le _⟩, below_setR HEX (by omega) D⟩)
  all_goals (
    unfold onlyE
    rw [show a.con.kind = 11 from HA.out.2.2.2]
    rfl
  )
set_option maxRecDepth 100000 in
set_option maxHeartbeats 8000000 in
theorem onlyEv_12 (a : EvM) (w : World) (B : Nat) (hat : EvAt w B a) (hB : B ≤ w.heap.size) (hl : ActL a.act) (hk : a.kind = 12) : Calls Tryz.prog 69 #[evV a] w (RetOE a B w) := by
  obtain ⟨C, hC⟩ : ∃ C, C = (evCs a).toArray := ⟨_, rfl⟩
  have hv : evV a = .agg C := by rw [hC]; rfl
  have c0 : C[0]? = some (.int .i64 12) := by rw [hC, ← hk]; rfl
  have c1 : C[1]? = some (.int .i64 a.tick) := by rw [hC]; rfl
  obtain ⟨D0, hD0⟩ : ∃ D, D = (evCs (EvM.zero 12 a.tick)).toArray := ⟨_, rfl⟩
  have hbt : Tryz.prog.built 35 [(0, .int .i64 12), (1, .int .i64 a.tick)] = some D0 := by rw [hD0]; rfl
  have hsz0 : (Tryz.prog.info? 35).map (·.size) = some D0.size := by rw [hD0]; exact ev_size
  have hone0 : D0.all (·.oneCell') = true := by rw [hD0]; exact evCs_one _
  have hold0 : (#[.int .i64 0, .int .i64 0, .int .i64 0, .int .i64 0, .int .i64 0, .int .i64 0, .int .i64 0, .int .i64 0, .slice none 0 0, .int .i64 0, .int .i64 0, .int .i64 0, .int .i64 0, .int .i64 0, .int .i64 0, .int .i64 0, .int .i64 0, .int .i64 0, .int .i64 0, .int .i64 0, .int .i64 0, .int .i64 0, .int .i64 0, .int .i64 0, .int .i64 0, .slice none 0 0, .slice none 0 0, .slice none 0 0] : Array Value).size = D0.size := by rw [hD0]; rfl
  obtain ⟨Z, hZ⟩ : ∃ Z : Array Value, Z = #[.int .i64 0, .int .i64 0, .int .i64 0, .int .i64 0, .int .i64 0, .int .i64 0, .int .i64 0, .int .i64 0, .slice none 0 0, .int .i64 0, .int .i64 0, .int .i64 0, .int .i64 0, .int .i64 0, .int .i64 0, .int .i64 0, .int .i64 0, .int .i64 0, .int .i64 0, .int .i64 0, .int .i64 0, .int .i64 0, .int .i64 0, .int .i64 0, .int .i64 0, .slice none 0 0, .slice none 0 0, .slice none 0 0] := ⟨_, rfl⟩
  obtain ⟨W2, hW2⟩ : ∃ W2, W2 = (w.alloc (.cells C 35)).alloc (.cells #[.int .i64 0, .int .i64 0, .int .i64 0, .int .i64 0, .int .i64 0, .int .i64 0, .int .i64 0, .int .i64 0, .slice none 0 0, .int .i64 0, .int .i64 0, .int .i64 0, .int .i64 0, .int .i64 0, .int .i64 0, .int .i64 0, .int .i64 0, .int .i64 0, .int .i64 0, .int .i64 0, .int .i64 0, .int .i64 0, .int .i64 0, .int .i64 0, .int .i64 0, .slice none 0 0, .slice none 0 0, .slice none 0 0] 35) := ⟨_, rfl⟩
  have hsW2 : W2.heap.size = w.heap.size + 1 + 1 := by rw [hW2]; simp
  have hoy := new_obj W2 (.cells #[.int .i64 0, .int .i64 0, .int .i64 0, .int .i64 0, .int .i64 0, .int .i64 0, .int .i64 0, .int .i64 0, .slice none 0 0, .int .i64 0, .int .i64 0, .int .i64 0, .int .i64 0, .int .i64 0, .int .i64 0, .int .i64 0, .int .i64 0, .int .i64 0, .int .i64 0, .int .i64 0, .int .i64 0, .int .i64 0, .int .i64 0, .int .i64 0, .int .i64 0, .slice none 0 0, .slice none 0 0, .slice none 0 0] 35)
  have hsr := World.setRow_alloc_new W2 #[.int .i64 0, .int .i64 0, .int .i64 0, .int .i64 0, .int .i64 0, .int .i64 0, .int .i64 0, .int .i64 0, .slice none 0 0, .int .i64 0, .int .i64 0, .int .i64 0, .int .i64 0, .int .i64 0, .int .i64 0, .int .i64 0, .int .i64 0, .int .i64 0, .int .i64 0, .int .i64 0, .int .i64 0, .int .i64 0, .int .i64 0, .int .i64 0, .int .i64 0, .slice none 0 0, .slice none 0 0, .slice none 0 0] D0 35
  obtain ⟨X1, hX1⟩ : ∃ X1, X1 = W2.alloc (.cells D0 35) := ⟨_, rfl⟩
  have HBL : Hid (Blk X1 w.heap.size 35 (evCs a) ∧ Blk X1 (w.heap.size + 1) 35 [.int .i64 0, .int .i64 0, .int .i64 0, .int .i64 0, .int .i64 0, .int .i64 0, .int .i64 0, .int .i64 0, .slice none 0 0, .int .i64 0, .int .i64 0, .int .i64 0, .int .i64 0, .int .i64 0, .int .i64 0, .int .i64 0, .int .i64 0, .int .i64 0, .int .i64 0, .int .i64 0, .int .i64 0, .int .i64 0, .int .i64 0, .int .i64 0, .int .i64 0, .slice none 0 0, .slice none 0 0, .slice none 0 0] ∧ Blk X1 (w.heap.size + 1 + 1) 35 (evCs (EvM.zero 12 a.tick)) ∧ Below w.heap.size w X1) := Lib.hid (by
    obtain ⟨h1, h2⟩ := two_blk w (evCs a) [.int .i64 0, .int .i64 0, .int .i64 0, .int .i64 0, .int .i64 0, .int .i64 0, .int .i64 0, .int .i64 0, .slice none 0 0, .int .i64 0, .int .i64 0, .int .i64 0, .int .i64 0, .int .i64 0, .int .i64 0, .int .i64 0, .int .i64 0, .int .i64 0, .int .i64 0, .int .i64 0, .int .i64 0, .int .i64 0, .int .i64 0, .int .i64 0, .int .i64 0, .slice none 0 0, .slice none 0 0, .slice none 0 0] 35 35
    rw [← hC] at h1 h2
    have hb3 := below_new W2 (.cells D0 35)
    rw [← hX1] at hb3
    rw [hW2] at hb3
    have hn := new_obj W2 (.cells D0 35)
    rw [← hX1, hsW2, hD0] at hn
    refine ⟨?_, ?_, hn, ?_⟩
    · exact (hb3.block _ h1.lt).trans h1
    · exact (hb3.block _ h2.lt).trans h2
    · exact (((Below.refl _ _).alloc (Nat.le_refl _) _).alloc (by simp) _).trans (hb3.mono (by simp; omega)))
  rw [← hX1, hsW2] at hsr
  rw [hsW2] at hoy
  rw [hW2] at hsr hoy
  have p2 := HBL.out.1.cell (j := 2) (u := .int .i64 a.who) rfl
  have p5 := HBL.out.1.cell (j := 5) (u := .int .i64 a.n) rfl
  have p4 := HBL.out.1.cell (j := 4) (u := .int .i64 a.epoch) rfl
  have p0 : X1.cell? ⟨w.heap.size, 0, none⟩ = some (.int .i64 12) := by rw [← hk]; exact HBL.out.1.cell (j := 0) rfl
  have q2 := HBL.out.2.2.1.cell (j := 2) rfl
  have f2 := HBL.out.2.2.1.free 2
  have q5 := HBL.out.2.2.1.cell (j := 5) rfl
  have f5 := HBL.out.2.2.1.free 5
  have q4 := HBL.out.2.2.1.cell (j := 4) rfl
  have f4 := HBL.out.2.2.1.free 4
  have hlt3 := HBL.out.2.2.1.lt
  have hlt1 := HBL.out.1.lt
  obtain ⟨D, hD⟩ : ∃ D, D = (evCs ({ EvM.zero 12 a.tick with who := a.who, n := a.n, epoch := a.epoch } : EvM)).toArray := ⟨_, rfl⟩
  have hszd : (Tryz.prog.info? 35).map (·.size) = some D.size := by rw [hD]; exact ev_size
  have holdd : (#[.int .i64 0, .int .i64 0, .int .i64 0, .int .i64 0, .int .i64 0, .int .i64 0, .int .i64 0, .int .i64 0, .slice none 0 0, .int .i64 0, .int .i64 0, .int .i64 0, .int .i64 0, .int .i64 0, .int .i64 0, .int .i64 0, .int .i64 0, .int .i64 0, .int .i64 0, .int .i64 0, .int .i64 0, .int .i64 0, .int .i64 0, .int .i64 0, .int .i64 0, .slice none 0 0, .slice none 0 0, .slice none 0 0] : Array Value).size = D.size := by rw [hD]; rfl
  have honed : D.all (·.oneCell') = true := by rw [hD]; exact evCs_one _
  have HDV := Lib.hid (show evV ({ EvM.zero 12 a.tick with who := a.who, n := a.n, epoch := a.epoch } : EvM) = .agg D by rw [hD]; rfl)
  have HC0 : Hid ((((X1.setCell ⟨w.heap.size + 1 + 1, 2, none⟩ (.int .i64 a.who)).setCell ⟨w.heap.size + 1 + 1, 5, none⟩ (.int .i64 a.n)).setCell ⟨w.heap.size + 1 + 1, 4, none⟩ (.int .i64 a.epoch)).drew.heap[w.heap.size + 1 + 1]? = some (.cells D 35 (0, 0))) := Lib.hid (by rw [hD]; exact (((HBL.out.2.2.1.set 2 (.int .i64 a.who)).set 5 (.int .i64 a.n)).set 4 (.int .i64 a.epoch)))
  have HO0 := Lib.hid (show (((X1.setCell ⟨w.heap.size + 1 + 1, 2, none⟩ (.int .i64 a.who)).setCell ⟨w.heap.size + 1 + 1, 5, none⟩ (.int .i64 a.n)).setCell ⟨w.heap.size + 1 + 1, 4, none⟩ (.int .i64 a.epoch)).drew.heap[w.heap.size + 1]? = some (.cells #[.int .i64 0, .int .i64 0, .int .i64 0, .int .i64 0, .int .i64 0, .int .i64 0, .int .i64 0, .int .i64 0, .slice none 0 0, .int .i64 0, .int .i64 0, .int .i64 0, .int .i64 0, .int .i64 0, .int .i64 0, .int .i64 0, .int .i64 0, .int .i64 0, .int .i64 0, .int .i64 0, .int .i64 0, .int .i64 0, .int .i64 0, .int .i64 0, .int .i64 0, .slice none 0 0, .slice none 0 0, .slice none 0 0] 35 (0, 0)) from (((HBL.out.2.1.other (g := w.heap.size + 1 + 1) (by omega) 2 (.int .i64 a.who)).other (g := w.heap.size + 1 + 1) (by omega) 5 (.int .i64 a.n)).other (g := w.heap.size + 1 + 1) (by omega) 4 (.int .i64 a.epoch)))
  have HE0 := Lib.hid ((show Below w.heap.size w (((X1.setCell ⟨w.heap.size + 1 + 1, 2, none⟩ (.int .i64 a.who)).setCell ⟨w.heap.size + 1 + 1, 5, none⟩ (.int .i64 a.n)).setCell ⟨w.heap.size + 1 + 1, 4, none⟩ (.int .i64 a.epoch)).drew from ⟨(((HBL.out.2.2.2.setCell (p := ⟨w.heap.size + 1 + 1, 2, none⟩) (by show w.heap.size ≤ w.heap.size + 1 + 1; omega) (.int .i64 a.who)).setCell (p := ⟨w.heap.size + 1 + 1, 5, none⟩) (by show w.heap.size ≤ w.heap.size + 1 + 1; omega) (.int .i64 a.n)).setCell (p := ⟨w.heap.size + 1 + 1, 4, none⟩) (by show w.heap.size ≤ w.heap.size + 1 + 1; omega) (.int .i64 a.epoch)).os, (((HBL.out.2.2.2.setCell (p := ⟨w.heap.size + 1 + 1, 2, none⟩) (by show w.heap.size ≤ w.heap.size + 1 + 1; omega) (.int .i64 a.who)).setCell (p := ⟨w.heap.size + 1 + 1, 5, none⟩) (by show w.heap.size ≤ w.heap.size + 1 + 1; omega) (.int .i64 a.n)).setCell (p := ⟨w.heap.size + 1 + 1, 4, none⟩) (by show w.heap.size ≤ w.heap.size + 1 + 1; omega) (.int .i64 a.epoch)).tape, (((HBL.out.2.2.2.setCell (p := ⟨w.heap.size + 1 + 1, 2, none⟩) (by show w.heap.size ≤ w.heap.size + 1 + 1; omega) (.int .i64 a.who)).setCell (p := ⟨w.heap.size + 1 + 1, 5, none⟩) (by show w.heap.size ≤ w.heap.size + 1 + 1; omega) (.int .i64 a.n)).setCell (p := ⟨w.heap.size + 1 + 1, 4, none⟩) (by show w.heap.size ≤ w.heap.size + 1 + 1; omega) (.int .i64 a.epoch)).output, (((HBL.out.2.2.2.setCell (p := ⟨w.heap.size + 1 + 1, 2, none⟩) (by show w.heap.size ≤ w.heap.size + 1 + 1; omega) (.int .i64 a.who)).setCell (p := ⟨w.heap.size + 1 + 1, 5, none⟩) (by show w.heap.size ≤ w.heap.size + 1 + 1; omega) (.int .i64 a.n)).setCell (p := ⟨w.heap.size + 1 + 1, 4, none⟩) (by show w.heap.size ≤ w.heap.size + 1 + 1; omega) (.int .i64 a.epoch)).size, (((HBL.out.2.2.2.setCell (p := ⟨w.heap.size + 1 + 1, 2, none⟩) (by show w.heap.size ≤ w.heap.size + 1 + 1; omega) (.int .i64 a.who)).setCell (p := ⟨w.heap.size + 1 + 1, 5, none⟩) (by show w.heap.size ≤ w.heap.size + 1 + 1; omega) (.int .i64 a.n)).setCell (p := ⟨w.heap.size + 1 + 1, 4, none⟩) (by show w.heap.size ≤ w.heap.size + 1 + 1; omega) (.int .i64 a.epoch)).block⟩))
  clear hD
  have HA := Lib.hid (And.intro hat (And.intro hl (And.intro hB hk)))
  have HH0 := Lib.hid (And.intro hbt (And.intro hsz0 (And.intro hone0 hold0)))
  have HH1 := Lib.hid (And.intro hoy hsr)
  have HH2 := Lib.hid (And.intro hszd (And.intro holdd honed))
  rw [hv]
  clear hC hv hX1 hsW2 hW2 hat hl hB hk hD0 hbt hsz0 hone0 hold0 hoy hsr hszd holdd honed hZ Z
  go_enter Tryz.func69, Tryz.ntmps69
  go_wp2_with (first | ((with_reducible refine wpList_at 8 rfl ?_); refine wpList_build_v rfl 35 #[(0, .tmp 5), (1, .tmp 7)] rfl D0 [(0, .int .i64 12), (1, .int .i64 a.tick)] (by rw [Array.toList_map]; rfl) HH0.out.1 ?_) | ((with_reducible refine wpList_op (.store 35 (.tmp 3) (.tmp 8)) rfl ?_); refine wpList_store_row rfl 35 (.tmp 3) (.tmp 8) rfl (w.heap.size + 1 + 1) D0 rfl rfl 35 _ HH1.out.1 HH0.out.2.1 HH0.out.2.2.2 HH0.out.2.2.1 ?_; rw [HH1.out.2]))
  go_region
  all_goals (go_wp2_with (first | ((with_reducible refine wpList_at 101 rfl ?_); refine wpList_load_row_g (by rfl) 35 (.tmp 3) rfl (w.heap.size + 1 + 1) rfl 35 D (0, 0) _ HC0.out Tryz.underlying35 rfl HH2.out.1 ?_) | ((with_reducible refine wpList_op (.store 35 (.tmp 2) (.tmp 101)) rfl ?_); refine wpList_store_row rfl 35 (.tmp 2) (.tmp 101) rfl (w.heap.size + 1) D rfl rfl 35 _ HO0.out HH2.out.1 HH2.out.2.1 HH2.out.2.2 ?_)))
  all_goals (refine bodyPost_ret (results_cell1 Tryz.results69 _ _ (w.heap.size + 1) 35 D (0, 0) _ (by rfl) (setRow_heap _ _ _ _ _ _ HO0.out) Tryz.underlying35 rfl HH2.out.1) rfl ?_)
  all_goals (have HEX := HE0.out)
  all_goals (refine ⟨({ EvM.zero 12 a.tick with who := a.who, n := a.n, epoch := a.epoch } : EvM), by rw [HDV.out], ?_, ⟨Sl.empty, ⟨SrcsAt.empty, Sl.empty⟩, Sl.empty⟩, ⟨Nat.zero_le _, (fun s hs => by cases hs), Nat.zero_le _⟩, below_setR HEX (by omega) D⟩)
  all_goals (
    unfold onlyE
    rw [show a.con.kind = 12 from HA.out.2.2.2]
    rfl
  )
set_option maxRecDepth 100000 in
set_option maxHeartbeats 8000000 in
theorem onlyEv_13 (a : EvM) (w : World) (B : Nat) (hat : EvAt w B a) (hB : B ≤ w.heap.size) (hl : ActL a.act) (hk : a.kind = 13) : Calls Tryz.prog 69 #[evV a] w (RetOE a B w) := by
  obtain ⟨C, hC⟩ : ∃ C, C = (evCs a).toArray := ⟨_, rfl⟩
  have hv : evV a = .agg C := by rw [hC]; rfl
  have c0 : C[0]? = some (.int .i64 13) := by rw [hC, ← hk]; rfl
  have c1 : C[1]? = some (.int .i64 a.tick) := by rw [hC]; rfl
  obtain ⟨D0, hD0⟩ : ∃ D, D = (evCs (EvM.zero 13 a.tick)).toArray := ⟨_, rfl⟩
  have hbt : Tryz.prog.built 35 [(0, .int .i64 13), (1, .int .i64 a.tick)] = some D0 := by rw [hD0]; rfl
  have hsz0 : (Tryz.prog.info? 35).map (·.size) = some D0.size := by rw [hD0]; exact ev_size
  have hone0 : D0.all (·.oneCell') = true := by rw [hD0]; exact evCs_one _
  have hold0 : (#[.int .i64 0, .int .i64 0, .int .i64 0, .int .i64 0, .int .i64 0, .int .i64 0, .int .i64 0, .int .i64 0, .slice none 0 0, .int .i64 0, .int .i64 0, .int .i64 0, .int .i64 0, .int .i64 0, .int .i64 0, .int .i64 0, .int .i64 0, .int .i64 0, .int .i64 0, .int .i64 0, .int .i64 0, .int .i64 0, .int .i64 0, .int .i64 0, .int .i64 0, .slice none 0 0, .slice none 0 0, .slice none 0 0] : Array Value).size = D0.size := by rw [hD0]; rfl
  obtain ⟨Z, hZ⟩ : ∃ Z : Array Value, Z = #[.int .i64 0, .int .i64 0, .int .i64 0, .int .i64 0, .int .i64 0, .int .i64 0, .int .i64 0, .int .i64 0, .slice none 0 0, .int .i64 0, .int .i64 0, .int .i64 0, .int .i64 0, .int .i64 0, .int .i64 0, .int .i64 0, .int .i64 0, .int .i64 0, .int .i64 0, .int .i64 0, .int .i64 0, .int .i64 0, .int .i64 0, .int .i64 0, .int .i64 0, .slice none 0 0, .slice none 0 0, .slice none 0 0] := ⟨_, rfl⟩
  obtain ⟨W2, hW2⟩ : ∃ W2, W2 = (w.alloc (.cells C 35)).alloc (.cells #[.int .i64 0, .int .i64 0, .int .i64 0, .int .i64 0, .int .i64 0, .int .i64 0, .int .i64 0, .int .i64 0, .slice none 0 0, .int .i64 0, .int .i64 0, .int .i64 0, .int .i64 0, .int .i64 0, .int .i64 0, .int .i64 0, .int .i64 0, .int .i64 0, .int .i64 0, .int .i64 0, .int .i64 0, .int .i64 0, .int .i64 0, .int .i64 0, .int .i64 0, .slice none 0 0, .slice none 0 0, .slice none 0 0] 35) := ⟨_, rfl⟩
  have hsW2 : W2.heap.size = w.heap.size + 1 + 1 := by rw [hW2]; simp
  have hoy := new_obj W2 (.cells #[.int .i64 0, .int .i64 0, .int .i64 0, .int .i64 0, .int .i64 0, .int .i64 0, .int .i64 0, .int .i64 0, .slice none 0 0, .int .i64 0, .int .i64 0, .int .i64 0, .int .i64 0, .int .i64 0, .int .i64 0, .int .i64 0, .int .i64 0, .int .i64 0, .int .i64 0, .int .i64 0, .int .i64 0, .int .i64 0, .int .i64 0, .int .i64 0, .int .i64 0, .slice none 0 0, .slice none 0 0, .slice none 0 0] 35)
  have hsr := World.setRow_alloc_new W2 #[.int .i64 0, .int .i64 0, .int .i64 0, .int .i64 0, .int .i64 0, .int .i64 0, .int .i64 0, .int .i64 0, .slice none 0 0, .int .i64 0, .int .i64 0, .int .i64 0, .int .i64 0, .int .i64 0, .int .i64 0, .int .i64 0, .int .i64 0, .int .i64 0, .int .i64 0, .int .i64 0, .int .i64 0, .int .i64 0, .int .i64 0, .int .i64 0, .int .i64 0, .slice none 0 0, .slice none 0 0, .slice none 0 0] D0 35
  obtain ⟨X1, hX1⟩ : ∃ X1, X1 = W2.alloc (.cells D0 35) := ⟨_, rfl⟩
  have HBL : Hid (Blk X1 w.heap.size 35 (evCs a) ∧ Blk X1 (w.heap.size + 1) 35 [.int .i64 0, .int .i64 0, .int .i64 0, .int .i64 0, .int .i64 0, .int .i64 0, .int .i64 0, .int .i64 0, .slice none 0 0, .int .i64 0, .int .i64 0, .int .i64 0, .int .i64 0, .int .i64 0, .int .i64 0, .int .i64 0, .int .i64 0, .int .i64 0, .int .i64 0, .int .i64 0, .int .i64 0, .int .i64 0, .int .i64 0, .int .i64 0, .int .i64 0, .slice none 0 0, .slice none 0 0, .slice none 0 0] ∧ Blk X1 (w.heap.size + 1 + 1) 35 (evCs (EvM.zero 13 a.tick)) ∧ Below w.heap.size w X1) := Lib.hid (by
    obtain ⟨h1, h2⟩ := two_blk w (evCs a) [.int .i64 0, .int .i64 0, .int .i64 0, .int .i64 0, .int .i64 0, .int .i64 0, .int .i64 0, .int .i64 0, .slice none 0 0, .int .i64 0, .int .i64 0, .int .i64 0, .int .i64 0, .int .i64 0, .int .i64 0, .int .i64 0, .int .i64 0, .int .i64 0, .int .i64 0, .int .i64 0, .int .i64 0, .int .i64 0, .int .i64 0, .int .i64 0, .int .i64 0, .slice none 0 0, .slice none 0 0, .slice none 0 0] 35 35
    rw [← hC] at h1 h2
    have hb3 := below_new W2 (.cells D0 35)
    rw [← hX1] at hb3
    rw [hW2] at hb3
    have hn := new_obj W2 (.cells D0 35)
    rw [← hX1, hsW2, hD0] at hn
    refine ⟨?_, ?_, hn, ?_⟩
    · exact (hb3.block _ h1.lt).trans h1
    · exact (hb3.block _ h2.lt).trans h2
    · exact (((Below.refl _ _).alloc (Nat.le_refl _) _).alloc (by simp) _).trans (hb3.mono (by simp; omega)))
  rw [← hX1, hsW2] at hsr
  rw [hsW2] at hoy
  rw [hW2] at hsr hoy
  have p2 := HBL.out.1.cell (j := 2) (u := .int .i64 a.who) rfl
  have p5 := HBL.out.1.cell (j := 5) (u := .int .i64 a.n) rfl
  have p0 : X1.cell? ⟨w.heap.size, 0, none⟩ = some (.int .i64 13) := by rw [← hk]; exact HBL.out.1.cell (j := 0) rfl
  have q2 := HBL.out.2.2.1.cell (j := 2) rfl
  have f2 := HBL.out.2.2.1.free 2
  have q5 := HBL.out.2.2.1.cell (j := 5) rfl
  have f5 := HBL.out.2.2.1.free 5
  have hlt3 := HBL.out.2.2.1.lt
  have hlt1 := HBL.out.1.lt
  obtain ⟨D, hD⟩ : ∃ D, D = (evCs ({ EvM.zero 13 a.tick with who := a.who, n := a.n } : EvM)).toArray := ⟨_, rfl⟩
  have hszd : (Tryz.prog.info? 35).map (·.size) = some D.size := by rw [hD]; exact ev_size
  have holdd : (#[.int .i64 0, .int .i64 0, .int .i64 0, .int .i64 0, .int .i64 0, .int .i64 0, .int .i64 0, .int .i64 0, .slice none 0 0, .int .i64 0, .int .i64 0, .int .i64 0, .int .i64 0, .int .i64 0, .int .i64 0, .int .i64 0, .int .i64 0, .int .i64 0, .int .i64 0, .int .i64 0, .int .i64 0, .int .i64 0, .int .i64 0, .int .i64 0, .int .i64 0, .slice none 0 0, .slice none 0 0, .slice none 0 0] : Array Value).size = D.size := by rw [hD]; rfl
  have honed : D.all (·.oneCell') = true := by rw [hD]; exact evCs_one _
  have HDV := Lib.hid (show evV ({ EvM.zero 13 a.tick with who := a.who, n := a.n } : EvM) = .agg D by rw [hD]; rfl)
  have HC0 : Hid (((X1.setCell ⟨w.heap.size + 1 + 1, 2, none⟩ (.int .i64 a.who)).setCell ⟨w.heap.size + 1 + 1, 5, none⟩ (.int .i64 a.n)).drew.heap[w.heap.size + 1 + 1]? = some (.cells D 35 (0, 0))) := Lib.hid (by rw [hD]; exact ((HBL.out.2.2.1.set 2 (.int .i64 a.who)).set 5 (.int .i64 a.n)))
  have HO0 := Lib.hid (show ((X1.setCell ⟨w.heap.size + 1 + 1, 2, none⟩ (.int .i64 a.who)).setCell ⟨w.heap.size + 1 + 1, 5, none⟩ (.int .i64 a.n)).drew.heap[w.heap.size + 1]? = some (.cells #[.int .i64 0, .int .i64 0, .int .i64 0, .int .i64 0, .int .i64 0, .int .i64 0, .int .i64 0, .int .i64 0, .slice none 0 0, .int .i64 0, .int .i64 0, .int .i64 0, .int .i64 0, .int .i64 0, .int .i64 0, .int .i64 0, .int .i64 0, .int .i64 0, .int .i64 0, .int .i64 0, .int .i64 0, .int .i64 0, .int .i64 0, .int .i64 0, .int .i64 0, .slice none 0 0, .slice none 0 0, .slice none 0 0] 35 (0, 0)) from ((HBL.out.2.1.other (g := w.heap.size + 1 + 1) (by omega) 2 (.int .i64 a.who)).other (g := w.heap.size + 1 + 1) (by omega) 5 (.int .i64 a.n)))
  have HE0 := Lib.hid ((show Below w.heap.size w ((X1.setCell ⟨w.heap.size + 1 + 1, 2, none⟩ (.int .i64 a.who)).setCell ⟨w.heap.size + 1 + 1, 5, none⟩ (.int .i64 a.n)).drew from ⟨((HBL.out.2.2.2.setCell (p := ⟨w.heap.size + 1 + 1, 2, none⟩) (by show w.heap.size ≤ w.heap.size + 1 + 1; omega) (.int .i64 a.who)).setCell (p := ⟨w.heap.size + 1 + 1, 5, none⟩) (by show w.heap.size ≤ w.heap.size + 1 + 1; omega) (.int .i64 a.n)).os, ((HBL.out.2.2.2.setCell (p := ⟨w.heap.size + 1 + 1, 2, none⟩) (by show w.heap.size ≤ w.heap.size + 1 + 1; omega) (.int .i64 a.who)).setCell (p := ⟨w.heap.size + 1 + 1, 5, none⟩) (by show w.heap.size ≤ w.heap.size + 1 + 1; omega) (.int .i64 a.n)).tape, ((HBL.out.2.2.2.setCell (p := ⟨w.heap.size + 1 + 1, 2, none⟩) (by show w.heap.size ≤ w.heap.size + 1 + 1; omega) (.int .i64 a.who)).setCell (p := ⟨w.heap.size + 1 + 1, 5, none⟩) (by show w.heap.size ≤ w.heap.size + 1 + 1; omega) (.int .i64 a.n)).output, ((HBL.out.2.2.2.setCell (p := ⟨w.heap.size + 1 + 1, 2, none⟩) (by show w.heap.size ≤ w.heap.size + 1 + 1; omega) (.int .i64 a.who)).setCell (p := ⟨w.heap.size + 1 + 1, 5, none⟩) (by show w.heap.size ≤ w.heap.size + 1 + 1; omega) (.int .i64 a.n)).size, ((HBL.out.2.2.2.setCell (p := ⟨w.heap.size + 1 + 1, 2, none⟩) (by show w.heap.size ≤ w.heap.size + 1 + 1; omega) (.int .i64 a.who)).setCell (p := ⟨w.heap.size + 1 + 1, 5, none⟩) (by show w.heap.size ≤ w.heap.size + 1 + 1; omega) (.int .i64 a.n)).block⟩))
  clear hD
  have HA := Lib.hid (And.intro hat (And.intro hl (And.intro hB hk)))
  have HH0 := Lib.hid (And.intro hbt (And.intro hsz0 (And.intro hone0 hold0)))
  have HH1 := Lib.hid (And.intro hoy hsr)
  have HH2 := Lib.hid (And.intro hszd (And.intro holdd honed))
  rw [hv]
  clear hC hv hX1 hsW2 hW2 hat hl hB hk hD0 hbt hsz0 hone0 hold0 hoy hsr hszd holdd honed hZ Z
  go_enter Tryz.func69, Tryz.ntmps69
  go_wp2_with (first | ((with_reducible refine wpList_at 8 rfl ?_); refine wpList_build_v rfl 35 #[(0, .tmp 5), (1, .tmp 7)] rfl D0 [(0, .int .i64 13), (1, .int .i64 a.tick)] (by rw [Array.toList_map]; rfl) HH0.out.1 ?_) | ((with_reducible refine wpList_op (.store 35 (.tmp 3) (.tmp 8)) rfl ?_); refine wpList_store_row rfl 35 (.tmp 3) (.tmp 8) rfl (w.heap.size + 1 + 1) D0 rfl rfl 35 _ HH1.out.1 HH0.out.2.1 HH0.out.2.2.2 HH0.out.2.2.1 ?_; rw [HH1.out.2]))
  go_region
  all_goals (go_wp2_with (first | ((with_reducible refine wpList_at 101 rfl ?_); refine wpList_load_row_g (by rfl) 35 (.tmp 3) rfl (w.heap.size + 1 + 1) rfl 35 D (0, 0) _ HC0.out Tryz.underlying35 rfl HH2.out.1 ?_) | ((with_reducible refine wpList_op (.store 35 (.tmp 2) (.tmp 101)) rfl ?_); refine wpList_store_row rfl 35 (.tmp 2) (.tmp 101) rfl (w.heap.size + 1) D rfl rfl 35 _ HO0.out HH2.out.1 HH2.out.2.1 HH2.out.2.2 ?_)))
  all_goals (refine bodyPost_ret (results_cell1 Tryz.results69 _ _ (w.heap.size + 1) 35 D (0, 0) _ (by rfl) (setRow_heap _ _ _ _ _ _ HO0.out) Tryz.underlying35 rfl HH2.out.1) rfl ?_)
  all_goals (have HEX := HE0.out)
  all_goals (refine ⟨({ EvM.zero 13 a.tick with who := a.who, n := a.n } : EvM), by rw [HDV.out], ?_, ⟨Sl.empty, ⟨SrcsAt.empty, Sl.empty⟩, Sl.empty⟩, ⟨Nat.zero_le _, (fun s hs => by cases hs), Nat.zero_le _⟩, below_setR HEX (by omega) D⟩)
  all_goals (
    unfold onlyE
    rw [show a.con.kind = 13 from HA.out.2.2.2]
    rfl
  )
set_option maxRecDepth 100000 in
set_option maxHeartbeats 8000000 in
theorem onlyEv_rest (a : EvM) (w : World) (B : Nat) (hat : EvAt w B a) (hB : B ≤ w.heap.size) (hl : ActL a.act) (hk : a.kind ≠ 1 ∧ a.kind ≠ 2 ∧ a.kind ≠ 3 ∧ a.kind ≠ 4 ∧ a.kind ≠ 5 ∧ a.kind ≠ 6 ∧ a.kind ≠ 7 ∧ a.kind ≠ 8 ∧ a.kind ≠ 9 ∧ a.kind ≠ 10 ∧ a.kind ≠ 11 ∧ a.kind ≠ 12 ∧ a.kind ≠ 13) : Calls Tryz.prog 69 #[evV a] w (RetOE a B w) := by
  obtain ⟨C, hC⟩ : ∃ C, C = (evCs a).toArray := ⟨_, rfl⟩
  have hv : evV a = .agg C := by rw [hC]; rfl
  have HKR := Lib.hid hk
  obtain ⟨kk, hkk⟩ : ∃ kk, kk = a.kind := ⟨_, rfl⟩
  have c0 : C[0]? = some (.int .i64 kk) := by rw [hC, hkk]; rfl
  have c1 : C[1]? = some (.int .i64 a.tick) := by rw [hC]; rfl
  obtain ⟨D0, hD0⟩ : ∃ D, D = (evCs (EvM.zero kk a.tick)).toArray := ⟨_, rfl⟩
  have hbt : Tryz.prog.built 35 [(0, .int .i64 kk), (1, .int .i64 a.tick)] = some D0 := by rw [hD0]; rfl
  have hsz0 : (Tryz.prog.info? 35).map (·.size) = some D0.size := by rw [hD0]; exact ev_size
  have hone0 : D0.all (·.oneCell') = true := by rw [hD0]; exact evCs_one _
  have hold0 : (#[.int .i64 0, .int .i64 0, .int .i64 0, .int .i64 0, .int .i64 0, .int .i64 0, .int .i64 0, .int .i64 0, .slice none 0 0, .int .i64 0, .int .i64 0, .int .i64 0, .int .i64 0, .int .i64 0, .int .i64 0, .int .i64 0, .int .i64 0, .int .i64 0, .int .i64 0, .int .i64 0, .int .i64 0, .int .i64 0, .int .i64 0, .int .i64 0, .int .i64 0, .slice none 0 0, .slice none 0 0, .slice none 0 0] : Array Value).size = D0.size := by rw [hD0]; rfl
  obtain ⟨Z, hZ⟩ : ∃ Z : Array Value, Z = #[.int .i64 0, .int .i64 0, .int .i64 0, .int .i64 0, .int .i64 0, .int .i64 0, .int .i64 0, .int .i64 0, .slice none 0 0, .int .i64 0, .int .i64 0, .int .i64 0, .int .i64 0, .int .i64 0, .int .i64 0, .int .i64 0, .int .i64 0, .int .i64 0, .int .i64 0, .int .i64 0, .int .i64 0, .int .i64 0, .int .i64 0, .int .i64 0, .int .i64 0, .slice none 0 0, .slice none 0 0, .slice none 0 0] := ⟨_, rfl⟩
  obtain ⟨W2, hW2⟩ : ∃ W2, W2 = (w.alloc (.cells C 35)).alloc (.cells #[.int .i64 0, .int .i64 0, .int .i64 0, .int .i64 0, .int .i64 0, .int .i64 0, .int .i64 0, .int .i64 0, .slice none 0 0, .int .i64 0, .int .i64 0, .int .i64 0, .int .i64 0, .int .i64 0, .int .i64 0, .int .i64 0, .int .i64 0, .int .i64 0, .int .i64 0, .int .i64 0, .int .i64 0, .int .i64 0, .int .i64 0, .int .i64 0, .int .i64 0, .slice none 0 0, .slice none 0 0, .slice none 0 0] 35) := ⟨_, rfl⟩
  have hsW2 : W2.heap.size = w.heap.size + 1 + 1 := by rw [hW2]; simp
  have hoy := new_obj W2 (.cells #[.int .i64 0, .int .i64 0, .int .i64 0, .int .i64 0, .int .i64 0, .int .i64 0, .int .i64 0, .int .i64 0, .slice none 0 0, .int .i64 0, .int .i64 0, .int .i64 0, .int .i64 0, .int .i64 0, .int .i64 0, .int .i64 0, .int .i64 0, .int .i64 0, .int .i64 0, .int .i64 0, .int .i64 0, .int .i64 0, .int .i64 0, .int .i64 0, .int .i64 0, .slice none 0 0, .slice none 0 0, .slice none 0 0] 35)
  have hsr := World.setRow_alloc_new W2 #[.int .i64 0, .int .i64 0, .int .i64 0, .int .i64 0, .int .i64 0, .int .i64 0, .int .i64 0, .int .i64 0, .slice none 0 0, .int .i64 0, .int .i64 0, .int .i64 0, .int .i64 0, .int .i64 0, .int .i64 0, .int .i64 0, .int .i64 0, .int .i64 0, .int .i64 0, .int .i64 0, .int .i64 0, .int .i64 0, .int .i64 0, .int .i64 0, .int .i64 0, .slice none 0 0, .slice none 0 0, .slice none 0 0] D0 35
  obtain ⟨X1, hX1⟩ : ∃ X1, X1 = W2.alloc (.cells D0 35) := ⟨_, rfl⟩
  have HBL : Hid (Blk X1 w.heap.size 35 (evCs a) ∧ Blk X1 (w.heap.size + 1) 35 [.int .i64 0, .int .i64 0, .int .i64 0, .int .i64 0, .int .i64 0, .int .i64 0, .int .i64 0, .int .i64 0, .slice none 0 0, .int .i64 0, .int .i64 0, .int .i64 0, .int .i64 0, .int .i64 0, .int .i64 0, .int .i64 0, .int .i64 0, .int .i64 0, .int .i64 0, .int .i64 0, .int .i64 0, .int .i64 0, .int .i64 0, .int .i64 0, .int .i64 0, .slice none 0 0, .slice none 0 0, .slice none 0 0] ∧ Blk X1 (w.heap.size + 1 + 1) 35 (evCs (EvM.zero kk a.tick)) ∧ Below w.heap.size w X1) := Lib.hid (by
    obtain ⟨h1, h2⟩ := two_blk w (evCs a) [.int .i64 0, .int .i64 0, .int .i64 0, .int .i64 0, .int .i64 0, .int .i64 0, .int .i64 0, .int .i64 0, .slice none 0 0, .int .i64 0, .int .i64 0, .int .i64 0, .int .i64 0, .int .i64 0, .int .i64 0, .int .i64 0, .int .i64 0, .int .i64 0, .int .i64 0, .int .i64 0, .int .i64 0, .int .i64 0, .int .i64 0, .int .i64 0, .int .i64 0, .slice none 0 0, .slice none 0 0, .slice none 0 0] 35 35
    rw [← hC] at h1 h2
    have hb3 := below_new W2 (.cells D0 35)
    rw [← hX1] at hb3
    rw [hW2] at hb3
    have hn := new_obj W2 (.cells D0 35)
    rw [← hX1, hsW2, hD0] at hn
    refine ⟨?_, ?_, hn, ?_⟩
    · exact (hb3.block _ h1.lt).trans h1
    · exact (hb3.block _ h2.lt).trans h2
    · exact (((Below.refl _ _).alloc (Nat.le_refl _) _).alloc (by simp) _).trans (hb3.mono (by simp; omega)))
  rw [← hX1, hsW2] at hsr
  rw [hsW2] at hoy
  rw [hW2] at hsr hoy
  have p0 : X1.cell? ⟨w.heap.size, 0, none⟩ = some (.int .i64 kk) := by rw [hkk]; exact HBL.out.1.cell (j := 0) rfl
  have hlt3 := HBL.out.2.2.1.lt
  have hlt1 := HBL.out.1.lt
  obtain ⟨D, hD⟩ : ∃ D, D = (evCs (EvM.zero kk a.tick)).toArray := ⟨_, rfl⟩
  have hszd : (Tryz.prog.info? 35).map (·.size) = some D.size := by rw [hD]; exact ev_size
  have holdd : (#[.int .i64 0, .int .i64 0, .int .i64 0, .int .i64 0, .int .i64 0, .int .i64 0, .int .i64 0, .int .i64 0, .slice none 0 0, .int .i64 0, .int .i64 0, .int .i64 0, .int .i64 0, .int .i64 0, .int .i64 0, .int .i64 0, .int .i64 0, .int .i64 0, .int .i64 0, .int .i64 0, .int .i64 0, .int .i64 0, .int .i64 0, .int .i64 0, .int .i64 0, .slice none 0 0, .slice none 0 0, .slice none 0 0] : Array Value).size = D.size := by rw [hD]; rfl
  have honed : D.all (·.oneCell') = true := by rw [hD]; exact evCs_one _
  have HDV := Lib.hid (show evV (EvM.zero kk a.tick) = .agg D by rw [hD]; rfl)
  have HC0 : Hid (X1.heap[w.heap.size + 1 + 1]? = some (.cells D 35 (0, 0))) := Lib.hid (by rw [hD]; exact HBL.out.2.2.1)
  have HO0 := Lib.hid (show X1.heap[w.heap.size + 1]? = some (.cells #[.int .i64 0, .int .i64 0, .int .i64 0, .int .i64 0, .int .i64 0, .int .i64 0, .int .i64 0, .int .i64 0, .slice none 0 0, .int .i64 0, .int .i64 0, .int .i64 0, .int .i64 0, .int .i64 0, .int .i64 0, .int .i64 0, .int .i64 0, .int .i64 0, .int .i64 0, .int .i64 0, .int .i64 0, .int .i64 0, .int .i64 0, .int .i64 0, .int .i64 0, .slice none 0 0, .slice none 0 0, .slice none 0 0] 35 (0, 0)) from HBL.out.2.1)
  have HE0 := Lib.hid (HBL.out.2.2.2)
  clear hD
  have HKK := Lib.hid hkk
  obtain ⟨g1, g2, g3, g4, g5, g6, g7, g8, g9, g10, g11, g12, g13⟩ := hk
  have e1 : (kk == 1) = false := by rw [hkk]; simpa using g1
  have e2 : (kk == 2) = false := by rw [hkk]; simpa using g2
  have e3 : (kk == 3) = false := by rw [hkk]; simpa using g3
  have e4 : (kk == 4) = false := by rw [hkk]; simpa using g4
  have e5 : (kk == 5) = false := by rw [hkk]; simpa using g5
  have e6 : (kk == 6) = false := by rw [hkk]; simpa using g6
  have e7 : (kk == 7) = false := by rw [hkk]; simpa using g7
  have e8 : (kk == 8) = false := by rw [hkk]; simpa using g8
  have e9 : (kk == 9) = false := by rw [hkk]; simpa using g9
  have e10 : (kk == 10) = false := by rw [hkk]; simpa using g10
  have e11 : (kk == 11) = false := by rw [hkk]; simpa using g11
  have e12 : (kk == 12) = false := by rw [hkk]; simpa using g12
  have e13 : (kk == 13) = false := by rw [hkk]; simpa using g13
  have hk := HKR.out
  clear g1 g2 g3 g4 g5 g6 g7 g8 g9 g10 g11 g12 g13
  have HA := Lib.hid (And.intro hat (And.intro hl (And.intro hB hk)))
  have HH0 := Lib.hid (And.intro hbt (And.intro hsz0 (And.intro hone0 hold0)))
  have HH1 := Lib.hid (And.intro hoy hsr)
  have HH2 := Lib.hid (And.intro hszd (And.intro holdd honed))
  rw [hv]
  clear hC hv hX1 hsW2 hW2 hat hl hB hk hD0 hkk hbt hsz0 hone0 hold0 hoy hsr hszd holdd honed hZ Z
  go_enter Tryz.func69, Tryz.ntmps69
  go_wp2_with (first | ((with_reducible refine wpList_at 8 rfl ?_); refine wpList_build_v rfl 35 #[(0, .tmp 5), (1, .tmp 7)] rfl D0 [(0, .int .i64 kk), (1, .int .i64 a.tick)] (by rw [Array.toList_map]; rfl) HH0.out.1 ?_) | ((with_reducible refine wpList_op (.store 35 (.tmp 3) (.tmp 8)) rfl ?_); refine wpList_store_row rfl 35 (.tmp 3) (.tmp 8) rfl (w.heap.size + 1 + 1) D0 rfl rfl 35 _ HH1.out.1 HH0.out.2.1 HH0.out.2.2.2 HH0.out.2.2.1 ?_; rw [HH1.out.2]) | ((with_reducible refine wpList_at 101 rfl ?_); refine wpList_load_row_g (by rfl) 35 (.tmp 3) rfl (w.heap.size + 1 + 1) rfl 35 D (0, 0) _ HC0.out Tryz.underlying35 rfl HH2.out.1 ?_) | ((with_reducible refine wpList_op (.store 35 (.tmp 2) (.tmp 101)) rfl ?_); refine wpList_store_row rfl 35 (.tmp 2) (.tmp 101) rfl (w.heap.size + 1) D rfl rfl 35 _ HO0.out HH2.out.1 HH2.out.2.1 HH2.out.2.2 ?_))
  all_goals (refine bodyPost_ret (results_cell1 Tryz.results69 _ _ (w.heap.size + 1) 35 D (0, 0) _ (by rfl) (setRow_heap _ _ _ _ _ _ HO0.out) Tryz.underlying35 rfl HH2.out.1) rfl ?_)
  all_goals (have HEX := HE0.out)
  all_goals (refine ⟨(EvM.zero kk a.tick), by rw [HDV.out], ?_, ⟨Sl.empty, ⟨SrcsAt.empty, Sl.empty⟩, Sl.empty⟩, ⟨Nat.zero_le _, (fun s hs => by cases hs), Nat.zero_le _⟩, below_setR HEX (by omega) D⟩)
  all_goals (
    unfold onlyE
    have e : evF a.kind = [] := tabF_out (by show a.kind < 1 ∨ ((13 : Nat) : Int) < a.kind; have := HA.out.2.2.2; omega)
    rw [show evF a.con.kind = [] from e, HKK.out]
    rfl
  )
theorem onlyEv_any (a : EvM) (w : World) (B : Nat) (hat : EvAt w B a) (hB : B ≤ w.heap.size) (hl : ActL a.act) : Calls Tryz.prog 69 #[evV a] w (RetOE a B w) := by
  by_cases h1 : a.kind = 1
  · exact onlyEv_1 a w B hat hB hl h1
  by_cases h2 : a.kind = 2
  · exact onlyEv_2 a w B hat hB hl h2
  by_cases h3 : a.kind = 3
  · exact onlyEv_3 a w B hat hB hl h3
  by_cases h4 : a.kind = 4
  · exact onlyEv_4 a w B hat hB hl h4
  by_cases h5 : a.kind = 5
  · exact onlyEv_5 a w B hat hB hl h5
  by_cases h6 : a.kind = 6
  · exact onlyEv_6 a w B hat hB hl h6
  by_cases h7 : a.kind = 7
  · exact onlyEv_7 a w B hat hB hl h7
  by_cases h8 : a.kind = 8
  · exact onlyEv_8 a w B hat hB hl h8
  by_cases h9 : a.kind = 9
  · exact onlyEv_9 a w B hat hB hl h9
  by_cases h10 : a.kind = 10
  · exact onlyEv_10 a w B hat hB hl h10
  by_cases h11 : a.kind = 11
  · exact onlyEv_11 a w B hat hB hl h11
  by_cases h12 : a.kind = 12
  · exact onlyEv_12 a w B hat hB hl h12
  by_cases h13 : a.kind = 13
  · exact onlyEv_13 a w B hat hB hl h13
  exact onlyEv_rest a w B hat hB hl ⟨h1, h2, h3, h4, h5, h6, h7, h8, h9, h10, h11, h12, h13⟩
end
end Go.Proofs.YtakdkiggaalimaaGreatDoor
