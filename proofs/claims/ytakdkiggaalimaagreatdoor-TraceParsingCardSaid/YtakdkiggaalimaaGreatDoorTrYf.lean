/-
  samaritanref51: Hex (printed by gentrxc.py).
  samaritanref51.One: places where two events differ (printed by gentrox.py).
  samaritanref51.One: places where two events differ (printed by gentrox.py).
  samaritanref51.One: places where two events differ (printed by gentrox.py).
  samaritanref51.One: places where two events differ (printed by gentrox.py).
  samaritanref51.One: places where two events differ (printed by gentrox.py).
  samaritanref51.One: places where two events differ (printed by gentrox.py).
  samaritanref51.One: places where two events differ (printed by gentrox.py).
  samaritanref51.One: places where two events differ (printed by gentrox.py).
-/
import Derived.Test.YtakdkiggaalimaaGreatDoorTrYa
import Derived.Test.YtakdkiggaalimaaGreatDoorTrEI
import Derived.ArgAppend
import Derived.Lib.SlBytesConst
import Derived.Test.YtakdkiggaalimaaGreatDoorTrOr
import Derived.Test.YtakdkiggaalimaaGreatDoorTrVa
namespace Go.Proofs.YtakdkiggaalimaaGreatDoor
section
open Go.RowKit Go.Maps
open Go.Lib (itoa)

/-- a row of the call's own, or one that is full. -/
def OwnF {α : Type} (f : α → Value) (w : World) (base : Nat) (e : TypeId) (v : Value) (zs : List α) : Prop :=
  OwnV f w base e v zs ∨ ∃ g, v = .slice (some ⟨g, 0, none⟩) zs.length zs.length ∧ base ≤ g ∧ Sl w w.heap.size (some ⟨g, 0, none⟩) (zs.map f)
theorem wp_append_F {α : Type} {f : α → Value} {P : Program} (w : World) {o : Oper} {a : Act} {K : Act → World → Prop} {Q : Exit → Act → World → Prop} (s x : Operand) (t : TypeId)
    (ho : o.op = .call { callee := .builtin .append, args := #[s, x], argTypes := #[t, t] }) (e : TypeId) (ht : P.underlying t = some (.slice e)) {z0 : Value} {by0 : Nat} (hinfo : (P.info? e).map (fun i => (i.zero, i.size, i.bytes)) = some (some z0, 1, by0)) (hz0 : z0.cells.size = 1) (hby : by0 ≤ 32)
    (base : Nat) (v : Value) (zs : List α) (hv : a.eval s = v) (hown : OwnF f w base e v zs) (B : Nat) (b : Addr) (m c : Nat) (ys : List α) (hx : a.eval x = .slice (some b) m c) (hm : m = ys.length) (hm0 : 0 < m) (hs : Sl w B (some b) (ys.map f)) (hone : ∀ y ∈ ys, (f y).oneCell' = true)
    (hlen : zs.length + ys.length ≤ 4398046511104) (hbase : base ≤ w.heap.size)
    (h : ∀ v' w', OwnV f w' base e v' (zs ++ ys) → w.grownBy w' v.ownBlock → K (a.put o.dst v') w') : Oper.wp P o a w K Q := by
  rcases hown with hown | ⟨g, hg, hbg, hsl⟩
  · exact wp_append_sl w s x t ho e ht hinfo hz0 hby base v zs hv hown B (some b) m c ys hx hm (fun q => by cases q) hs hone hlen hbase h
  obtain ⟨i0, hi, hz1, hz2, hz3⟩ := info_parts hinfo
  subst hm hg
  obtain ⟨v', w', hr, h2, h3⟩ := run_append_arg_grows (P := P) w t o.type e i0 z0 1 by0 ht hi hz1 hz2 hz3 hz0 (by decide) ⟨g, 0, none⟩ zs.length zs.length (zs.map f) (by simp) (fun j u hj => by
    obtain ⟨b', o', e', _, hc⟩ := hsl j u hj
    injection e' with e'
    rw [e', add_none]
    exact hc) b ys.length c (ys.map f) (by simp) (fun j u hj => by
    obtain ⟨b', o', e', _, hc⟩ := hs j u hj
    injection e' with e'
    subst e'
    rw [add_none]
    exact hc) (by omega) (by unfold maxLen; omega) (by have := Nat.mul_le_mul hlen hby; omega)
  unfold Oper.wp execOp
  simp only [ho, resolve, invoke, builtin, Sem.run_bind, Sem.run_pure, Result.andThen_ok, List.map_toArray, List.map_cons, List.map_nil, hv, hx, hr]
  refine h v' w' (OwnV.base_le (base' := base) (base := w.heap.size) ?_ hbase) ⟨h3.os, h3.tape, h3.output, h3.size, fun k hk _ => h3.block k hk (by simp)⟩
  unfold OwnV
  rw [List.length_append, List.map_append]
  exact h2
theorem step_append_F {α : Type} {f : α → Value} {P : Program} (w : World) {ops : Array Oper} {o : Oper} {a : Act} {K : Act → World → Prop} {Q : Exit → Act → World → Prop} {E : Prop} (hw : Region.wanted o (yielded ops a.tmps) = true) (s x : Operand) (t : TypeId)
    (ho : o.op = .call { callee := .builtin .append, args := #[s, x], argTypes := #[t, t] }) (e : TypeId) (ht : P.underlying t = some (.slice e)) {z0 : Value} {by0 : Nat} (hinfo : (P.info? e).map (fun i => (i.zero, i.size, i.bytes)) = some (some z0, 1, by0)) (hz0 : z0.cells.size = 1) (hby : by0 ≤ 32)
    (base : Nat) (v : Value) (zs : List α) (hv : a.eval s = v) (hown : OwnF f w base e v zs) (B : Nat) (b : Addr) (m c : Nat) (ys : List α) (hx : a.eval x = .slice (some b) m c) (hm : m = ys.length) (hm0 : 0 < m) (hs : Sl w B (some b) (ys.map f)) (hone : ∀ y ∈ ys, (f y).oneCell' = true)
    (hlen : zs.length + ys.length ≤ 4398046511104) (hbase : base ≤ w.heap.size)
    (h : ∀ v' w', OwnV f w' base e v' (zs ++ ys) → w.grownBy w' v.ownBlock → K (a.put o.dst v') w') : if Region.wanted o (yielded ops a.tmps) = true then Oper.wp P o a w K Q else E := by
  rw [if_pos hw]
  exact wp_append_F w s x t ho e ht hinfo hz0 hby base v zs hv hown B b m c ys hx hm hm0 hs hone hlen hbase h
theorem OwnF.ge_base {α : Type} {f : α → Value} {w : World} {base : Nat} {e : TypeId} {v : Value} {zs : List α} (h : OwnF f w base e v zs) : ∀ k, v.ownBlock = some k → base ≤ k := fun k hk => by
  rcases h with h | ⟨g, rfl, hb, _⟩
  · exact OwnV.ge_base h k hk
  · have q : g = k := by simpa [Value.ownBlock] using hk
    omega
theorem OwnF.alloc {α : Type} {f : α → Value} {w : World} {base : Nat} {e : TypeId} {v : Value} {zs : List α} (h : OwnF f w base e v zs) (o : Obj) : OwnF f (w.alloc o) base e v zs := by
  rcases h with h | ⟨g, e1, hb, hs⟩
  · exact .inl (h.alloc o)
  · exact .inr ⟨g, e1, hb, Sl.more (Sl.alloc hs (Nat.le_refl _) o) (by simp)⟩
theorem OwnF.drew {α : Type} {f : α → Value} {w : World} {base : Nat} {e : TypeId} {v : Value} {zs : List α} (h : OwnF f w base e v zs) : OwnF f w.drew base e v zs := h
theorem own_strF {w : World} {base : Nat} {v : Value} {l : List UInt8} (h : OwnF byteV w base 5 v l) (h0 : l ≠ []) : ∃ A c, v = .slice A l.length c ∧ (convert 23 9 (.slice A l.length c)).run Tryz.prog w = .ok (.string (bs l)) w := by
  rcases h with h | ⟨g, e, _, hs⟩
  · exact own_str h h0
  · exact ⟨_, _, e, bytes_str hs _⟩
set_option maxRecDepth 100000 in
set_option maxHeartbeats 4000000 in
theorem hex51_any (l : List UInt8) (hl : l.length ≤ 1000000) (A : Option Addr) (c : Nat) (w : World) (hat : BytesAt w w.heap.size A l) :
    Calls Tryz.prog 41 #[.slice A l.length c] w fun e w' => e = .returned (.string (bs (hexW l))) ∧ Below w.heap.size w w' := by
  have HA := Lib.hid hat
  obtain ⟨m, hm⟩ : ∃ m, m = l.length := ⟨_, rfl⟩
  have HM := Lib.hid hm
  have hml : m ≤ 1000000 := by omega
  have hcb := Lib.run_convert_bytes_const (P := Tryz.prog) w 23 5 #[.int .u8 61] 1 1 Tryz.underlying23 Tryz.underlying5
  have HO0 : Hid (OwnF byteV (w.alloc (.cells #[.int .u8 61] 5 (1, 2))) w.heap.size 5 (.slice (some ⟨w.heap.size, 0, none⟩) 1 1) [61]) := Lib.hid (.inr ⟨w.heap.size, rfl, Nat.le_refl _, fun j u hj => by
    refine ⟨w.heap.size, 0, rfl, by simp, ?_⟩
    have h1 := new_obj w (.cells #[.int .u8 61] 5 (1, 2))
    rw [cell_of_row _ _ _ _ _ _ h1]
    have hj : [Value.int .u8 61][j]? = some u := hj
    simpa using hj⟩)
  have HB0 := Lib.hid (below_new w (.cells #[.int .u8 61] 5 (1, 2)))
  rw [← hm]
  clear hat hl hm
  go_enter Tryz.func41, Tryz.ntmps41
  go_wp2_with fail
  go_loopw [3, 5] (fun tv iv X => ∃ k : Nat, k ≤ m ∧ iv = .int .i64 k ∧ OwnF byteV X w.heap.size 5 tv (61 :: (l.take k).flatMap hex2) ∧ Below w.heap.size w X) (fun _ iv _ => m - (intOf iv).toNat)
  case atStart => exact ⟨0, Nat.zero_le _, rfl, HO0.out, HB0.out⟩
  case round =>
    obtain ⟨k, hk, rfl, hown, hbl⟩ := hrel
    have HR := Lib.hid (And.intro hown hbl)
    clear hown hbl hcb
    by_cases hlt : k < m
    · have hlt' : (k : Int) < (m : Int) := by omega
      obtain ⟨x, hx⟩ : ∃ x, l[k]? = some x := ⟨l[k]'(by have := HM.out; omega), by simp⟩
      obtain ⟨ab, ao, rfl, hab, hac⟩ := bcell_at (Sl.below HA.out HR.out.2) hx
      have HLY := Lib.hid (show ab < (World.drew wr).heap.size by have := HR.out.2.size; show ab < wr.heap.size; omega)
      have HLW := Lib.hid hab
      have HCW := Lib.hid (show w.cell? ⟨ab, ao + k, none⟩ = some (.int .u8 x.toNat) from (HR.out.2.cell (p := ⟨ab, ao + k, none⟩) hab).symm.trans hac)
      have HX := Lib.hid hx
      have hx8 := x.toNat_lt
      have hq4 : ((x.toNat : Int).tdiv 16) = ((x.toNat / 16 : Nat) : Int) := by rw [Int.tdiv_eq_ediv_of_nonneg (by omega)]; omega
      have hw8 : IntKind.u8.wrap ((x.toNat : Int) / 16) = (x.toNat : Int) / 16 := IntWalk.u8_in _ (by omega)
      have hq5 : ((x.toNat : Int).tmod 16) = ((x.toNat % 16 : Nat) : Int) := by rw [Int.tmod_eq_emod_of_nonneg (by omega)]; omega
      clear hx hab
      go_wp2_with fail
      refine wp_region_held_drew (S := fun W => W.cell? ⟨ab, ao + k, none⟩ = some (.int .u8 x.toNat)) (by kernel_rfl) hac (fun hHeld => ?_)
      have HY := Lib.hid (And.intro HR.out.1.drew HR.out.2.drew)
      have hacY : (World.drew wr).cell? ⟨ab, ao + k, none⟩ = some (.int .u8 x.toNat) := hac
      obtain ⟨Y, hY⟩ : ∃ Y, Y = World.drew wr := ⟨_, rfl⟩
      rw [← hY] at HY hacY HLY ⊢
      clear hY
      refine wpAnyH_take (i := 0) (v := u3) rfl (by kernel_rfl) (by kernel_rfl) (by kernel_rfl) (fun _ _ _ h => h) (Or.inl ⟨by rfl, ?_⟩) (by assumption) ?_
      · intro w hSw
        go_simp
      show wpAnyH _ _ _ _ _ _ _ (Act.put _ (some 14) _) _
      simp only [Act.put, List.setIfInBounds_toArray, List.set_cons_zero, List.set_cons_succ]
      refine wpAnyH_take (i := 1) (v := .string ⟨#[48, 49, 50, 51, 52, 53, 54, 55, 56, 57, 97, 98, 99, 100, 101, 102]⟩) rfl (by kernel_rfl) (by kernel_rfl) (by kernel_rfl) (fun _ _ _ h => h) (Or.inl ⟨by rfl, ?_⟩) (by assumption) ?_
      · intro w hSw
        go_simp
      show wpAnyH _ _ _ _ _ _ _ (Act.put _ (some 15) _) _
      simp only [Act.put, List.setIfInBounds_toArray, List.set_cons_zero, List.set_cons_succ]
      refine wpAnyH_take (i := 2) (v := .slice (some ⟨ab, ao, none⟩) m c) rfl (by kernel_rfl) (by kernel_rfl) (by kernel_rfl) (fun _ _ _ h => h) (Or.inl ⟨by rfl, ?_⟩) (by assumption) ?_
      · intro w hSw
        go_simp
      show wpAnyH _ _ _ _ _ _ _ (Act.put _ (some 16) _) _
      simp only [Act.put, List.setIfInBounds_toArray, List.set_cons_zero, List.set_cons_succ]
      refine wpAnyH_take (i := 3) (v := .int .i64 k) rfl (by kernel_rfl) (by kernel_rfl) (by kernel_rfl) (fun _ _ _ h => h) (Or.inl ⟨by rfl, ?_⟩) (by assumption) ?_
      · intro w hSw
        go_simp
      show wpAnyH _ _ _ _ _ _ _ (Act.put _ (some 17) _) _
      simp only [Act.put, List.setIfInBounds_toArray, List.set_cons_zero, List.set_cons_succ]
      refine wpAnyH_take (i := 4) (v := .pointer (some ⟨ab, ao + k, none⟩)) rfl (by kernel_rfl) (by kernel_rfl) (by kernel_rfl) (fun _ _ _ h => h) (Or.inl ⟨by rfl, ?_⟩) (by assumption) ?_
      · intro w hSw
        go_simp
      show wpAnyH _ _ _ _ _ _ _ (Act.put _ (some 18) _) _
      simp only [Act.put, List.setIfInBounds_toArray, List.set_cons_zero, List.set_cons_succ]
      refine wpAnyH_take (i := 5) (v := .int .u8 x.toNat) rfl (by kernel_rfl) (by kernel_rfl) (by kernel_rfl) (fun _ _ _ h => h) (Or.inl ⟨by rfl, ?_⟩) (by assumption) ?_
      · intro w hSw
        have hq : w.cell? ⟨ab, ao + k, none⟩ = some (.int .u8 x.toNat) := hSw
        go_simp
      show wpAnyH _ _ _ _ _ _ _ (Act.put _ (some 19) _) _
      simp only [Act.put, List.setIfInBounds_toArray, List.set_cons_zero, List.set_cons_succ]
      refine wpAnyH_take (i := 6) (v := .int .u8 ((x.toNat / 16 : Nat) : Int)) rfl (by kernel_rfl) (by kernel_rfl) (by kernel_rfl) (fun _ _ _ h => h) (Or.inl ⟨by rfl, ?_⟩) (by assumption) ?_
      · intro w hSw
        go_simp
      show wpAnyH _ _ _ _ _ _ _ (Act.put _ (some 20) _) _
      simp only [Act.put, List.setIfInBounds_toArray, List.set_cons_zero, List.set_cons_succ]
      refine wpAnyH_take (i := 7) (v := .int .u8 (hexD (x.toNat / 16)).toNat) rfl (by kernel_rfl) (by kernel_rfl) (by kernel_rfl) (fun _ _ _ h => h) (Or.inl ⟨by rfl, ?_⟩) (by assumption) ?_
      · intro w hSw
        go_simp
        rw [dif_pos (by omega)]
        simp only [Result.andThen]
        rw [hex_at _ (x.toNat / 16) (by omega) (by omega)]
      show wpAnyH _ _ _ _ _ _ _ (Act.put _ (some 21) _) _
      simp only [Act.put, List.setIfInBounds_toArray, List.set_cons_zero, List.set_cons_succ]
      refine wpAnyH_take (i := 8) (v := .string ⟨#[48, 49, 50, 51, 52, 53, 54, 55, 56, 57, 97, 98, 99, 100, 101, 102]⟩) rfl (by kernel_rfl) (by kernel_rfl) (by kernel_rfl) (fun _ _ _ h => h) (Or.inl ⟨by rfl, ?_⟩) (by assumption) ?_
      · intro w hSw
        go_simp
      show wpAnyH _ _ _ _ _ _ _ (Act.put _ (some 22) _) _
      simp only [Act.put, List.setIfInBounds_toArray, List.set_cons_zero, List.set_cons_succ]
      refine wpAnyH_take (i := 9) (v := .slice (some ⟨ab, ao, none⟩) m c) rfl (by kernel_rfl) (by kernel_rfl) (by kernel_rfl) (fun _ _ _ h => h) (Or.inl ⟨by rfl, ?_⟩) (by assumption) ?_
      · intro w hSw
        go_simp
      show wpAnyH _ _ _ _ _ _ _ (Act.put _ (some 23) _) _
      simp only [Act.put, List.setIfInBounds_toArray, List.set_cons_zero, List.set_cons_succ]
      refine wpAnyH_take (i := 10) (v := .int .i64 k) rfl (by kernel_rfl) (by kernel_rfl) (by kernel_rfl) (fun _ _ _ h => h) (Or.inl ⟨by rfl, ?_⟩) (by assumption) ?_
      · intro w hSw
        go_simp
      show wpAnyH _ _ _ _ _ _ _ (Act.put _ (some 24) _) _
      simp only [Act.put, List.setIfInBounds_toArray, List.set_cons_zero, List.set_cons_succ]
      refine wpAnyH_take (i := 11) (v := .pointer (some ⟨ab, ao + k, none⟩)) rfl (by kernel_rfl) (by kernel_rfl) (by kernel_rfl) (fun _ _ _ h => h) (Or.inl ⟨by rfl, ?_⟩) (by assumption) ?_
      · intro w hSw
        go_simp
      show wpAnyH _ _ _ _ _ _ _ (Act.put _ (some 25) _) _
      simp only [Act.put, List.setIfInBounds_toArray, List.set_cons_zero, List.set_cons_succ]
      refine wpAnyH_take (i := 12) (v := .int .u8 x.toNat) rfl (by kernel_rfl) (by kernel_rfl) (by kernel_rfl) (fun _ _ _ h => h) (Or.inl ⟨by rfl, ?_⟩) (by assumption) ?_
      · intro w hSw
        have hq : w.cell? ⟨ab, ao + k, none⟩ = some (.int .u8 x.toNat) := hSw
        go_simp
      show wpAnyH _ _ _ _ _ _ _ (Act.put _ (some 26) _) _
      simp only [Act.put, List.setIfInBounds_toArray, List.set_cons_zero, List.set_cons_succ]
      refine wpAnyH_take (i := 13) (v := .int .u8 ((x.toNat % 16 : Nat) : Int)) rfl (by kernel_rfl) (by kernel_rfl) (by kernel_rfl) (fun _ _ _ h => h) (Or.inl ⟨by rfl, ?_⟩) (by assumption) ?_
      · intro w hSw
        go_simp
      show wpAnyH _ _ _ _ _ _ _ (Act.put _ (some 27) _) _
      simp only [Act.put, List.setIfInBounds_toArray, List.set_cons_zero, List.set_cons_succ]
      refine wpAnyH_take (i := 14) (v := .int .u8 (hexD (x.toNat % 16)).toNat) rfl (by kernel_rfl) (by kernel_rfl) (by kernel_rfl) (fun _ _ _ h => h) (Or.inl ⟨by rfl, ?_⟩) (by assumption) ?_
      · intro w hSw
        go_simp
        rw [dif_pos (by omega)]
        simp only [Result.andThen]
        rw [hex_at _ (x.toNat % 16) (by omega) (by omega)]
      show wpAnyH _ _ _ _ _ _ _ (Act.put _ (some 28) _) _
      simp only [Act.put, List.setIfInBounds_toArray, List.set_cons_zero, List.set_cons_succ]
      refine wpAnyH_ready (rs := [15]) (by kernel_rfl) (by simp) ?_
      refine AllReadyH.cons rfl (fun K hK => ?_) AllReadyH.nil
      go_simp
      refine hK.out _ _ ?_ (fun hHeld => ?_)
      · rw [World.cell?_alloc_past (hn := HLY.out)]
        exact hacY
      clear hK K
      refine wpAnyH_ready (rs := [16]) (by kernel_rfl) (by simp) ?_
      refine AllReadyH.cons rfl (fun K hK => ?_) AllReadyH.nil
      refine step_append_F _ (by rfl) (.tmp 14) (.tmp 29) 23 (by rfl) 5 Tryz.underlying23 byte_info rfl (by decide) w.heap.size u3 (61 :: (l.take k).flatMap hex2) (by rfl) (HY.out.1.alloc _) (Y.heap.size + 1) ⟨Y.heap.size, 0, none⟩ 2 2 (hex2 x) (by rfl) rfl (by decide) (Sl.more (Sl.lit Y ((hex2 x).map byteV) 5 rfl) (by simp)) (fun y _ => rfl) (by rw [List.length_cons, hex2_len, List.length_take]; show _ + 2 ≤ _; omega) (by have := HY.out.2.size; simp; omega) ?_
      intro v9 w9 ho9 hg9
      have hb9 : Below w.heap.size w w9 := (HY.out.2.alloc (HY.out.2.size) _).grown hg9 (by have := HY.out.2.size; simp; omega) (fun q hq => HY.out.1.ge_base q hq)
      have hh9 : w9.cell? ⟨ab, ao + k, none⟩ = some (.int .u8 x.toNat) := (hb9.cell (p := ⟨ab, ao + k, none⟩) HLW.out).trans HCW.out
      have H9 := Lib.hid (And.intro ho9 hb9)
      clear ho9 hg9 hb9
      refine hK.out _ _ hh9 (fun hHeld => ?_)
      clear hK K
      refine wpAnyH_take (i := 17) (v := v9) rfl (by kernel_rfl) (by kernel_rfl) (by kernel_rfl) (fun _ _ _ h => h) (Or.inl ⟨by rfl, ?_⟩) (by assumption) ?_
      · intro w hSw
        go_simp
      refine wpAnyH_done (by kernel_rfl) ?_ _
      clear hHeld hh9 hacY hac
      go_wp2_with fail
      go_roundw
      case rel =>
        refine ⟨k + 1, by omega, by go_num, .inl ?_, H9.out.2⟩
        rw [take_snoc HX.out, List.flatMap_append]
        have := H9.out.1
        simpa [hex2] using this
      case measure => simp [intOf]; omega
    · obtain rfl : k = m := by omega
      have e : l.take k = l := List.take_of_length_le (by have := HM.out; omega)
      have ho : OwnF byteV wr w.heap.size 5 u3 (hexW l) := by
        have := HR.out.1
        rw [e] at this
        exact this
      obtain ⟨A', c', rfl, hcv⟩ := own_strF ho (by rw [hexW_eq]; simp)
      clear e ho
      go_wp2_with fail
      go_ret
      exact ⟨rfl, HR.out.2⟩
end
section
open Go.RowKit Go.Maps

/-- what One returns. -/
def RetOne (a b : EvM) (w : World) (e : Ending) (w' : World) : Prop := e = .returned (.bool (tb (a.con = b.con))) ∧ Below w.heap.size w w'
theorem wpList_at {P : Program} {ops : Array Oper} {Q : Exit → Act → World → Prop} {o : Oper} {r : List Oper} {a : Act} {w : World} (d : Nat) (_ho : o.dst = some d) (h : wpList P ops Q (o :: r) a w) : wpList P ops Q (o :: r) a w := h
theorem wpList_convV {P : Program} {ops : Array Oper} {Q : Exit → Act → World → Prop} {o : Oper} {r : List Oper} {a : Act} {w : World} {s : ByteArray} {t1 t2 : TypeId} {x : Operand} {v : Value} (ho : o.op = .convert t1 t2 x) (hw : Region.wanted o (yielded ops a.tmps) = true)
    (hx : a.eval x = v) (hrun : (convert t1 t2 v).run P w = .ok (.string s) w) (h : wpList P ops Q r (a.put o.dst (.string s)) w) : wpList P ops Q (o :: r) a w := by
  unfold wpList
  rw [if_pos hw]
  refine .inl ?_
  unfold Oper.wp execOp
  rw [ho]
  simp only [Sem.run_bind, hx]
  rw [hrun]
  exact h
theorem wpList_eqO {ops : Array Oper} {Q : Exit → Act → World → Prop} {o : Oper} {r : List Oper} {a : Act} {w : World} {i j : Nat} {t2 : TypeId} {o1 o2 : OrdC} (ho : o.op = .binOp .eql 27 (.tmp i) (.tmp j) t2) (hw : Region.wanted o (yielded ops a.tmps) = true)
    (hx : a.eval (.tmp i) = ordV o1) (hy : a.eval (.tmp j) = ordV o2) (b : Bool) (hb : tb (o1 = o2) = b) (h : wpList Tryz.prog ops Q r (a.put o.dst (.bool b)) w) : wpList Tryz.prog ops Q (o :: r) a w :=
  wpList_binB ho hw (by rw [hx, hy, ← hb]; exact ord_run' i j o1 o2 w) h
theorem wpList_eqS {ops : Array Oper} {Q : Exit → Act → World → Prop} {o : Oper} {r : List Oper} {a : Act} {w : World} {i j : Nat} {t2 : TypeId} {o1 o2 : StaC} (ho : o.op = .binOp .eql 29 (.tmp i) (.tmp j) t2) (hw : Region.wanted o (yielded ops a.tmps) = true)
    (hx : a.eval (.tmp i) = staV o1) (hy : a.eval (.tmp j) = staV o2) (b : Bool) (hb : tb (o1 = o2) = b) (h : wpList Tryz.prog ops Q r (a.put o.dst (.bool b)) w) : wpList Tryz.prog ops Q (o :: r) a w :=
  wpList_binB ho hw (by rw [hx, hy, ← hb]; exact sta_run' i j o1 o2 w) h
end
section
open Go.RowKit Go.Maps

set_option maxRecDepth 100000 in
set_option maxHeartbeats 16000000 in
theorem one_0 (a b : EvM) (w : World)  (hne : ¬ a.kind = b.kind) : Calls Tryz.prog 11 #[evV a, evV b] w (RetOne a b w) := by
  obtain ⟨C, hC⟩ : ∃ C, C = (evCs a).toArray := ⟨_, rfl⟩
  obtain ⟨D, hD⟩ : ∃ D, D = (evCs b).toArray := ⟨_, rfl⟩
  have hva : evV a = .agg C := by rw [hC]; rfl
  have hvb : evV b = .agg D := by rw [hD]; rfl
  have c0 : C[0]? = some (.int .i64 a.kind) := by rw [hC]; rfl
  have d0 : D[0]? = some (.int .i64 b.kind) := by rw [hD]; rfl
  rw [hva, hvb]
  have hb1 : Below w.heap.size w ((w.alloc (.cells C 35)).alloc (.cells D 35)) := ((Below.refl _ _).alloc (Nat.le_refl _) _).alloc (by simp) _
  have HB1 := Lib.hid hb1
  have ek : (a.kind == b.kind) = false := by simpa using hne
  have HNE := Lib.hid hne
  clear hC hD hva hvb hb1   hne 
  go_enter Tryz.func11, Tryz.ntmps11
  simp only [List.append]
  go_wp2_with fail
  go_ret
  exact ⟨ret_no (fun q => HNE.out (congrArg EvC.kind q)), HB1.out⟩
set_option maxRecDepth 100000 in
set_option maxHeartbeats 16000000 in
theorem one_1 (a b : EvM) (w : World) (h0 : a.kind = b.kind) (hne : ¬ a.tick = b.tick) : Calls Tryz.prog 11 #[evV a, evV b] w (RetOne a b w) := by
  obtain ⟨C, hC⟩ : ∃ C, C = (evCs a).toArray := ⟨_, rfl⟩
  obtain ⟨D, hD⟩ : ∃ D, D = (evCs b).toArray := ⟨_, rfl⟩
  have hva : evV a = .agg C := by rw [hC]; rfl
  have hvb : evV b = .agg D := by rw [hD]; rfl
  have c0 : C[0]? = some (.int .i64 a.kind) := by rw [hC]; rfl
  have d0 : D[0]? = some (.int .i64 a.kind) := by rw [hD, h0]; rfl
  have c1 : C[1]? = some (.int .i64 a.tick) := by rw [hC]; rfl
  have d1 : D[1]? = some (.int .i64 b.tick) := by rw [hD]; rfl
  rw [hva, hvb]
  have hb1 : Below w.heap.size w ((w.alloc (.cells C 35)).alloc (.cells D 35)) := ((Below.refl _ _).alloc (Nat.le_refl _) _).alloc (by simp) _
  have HB1 := Lib.hid hb1
  have ek : (a.tick == b.tick) = false := by simpa using hne
  have HNE := Lib.hid hne
  clear hC hD hva hvb hb1  h0 hne 
  go_enter Tryz.func11, Tryz.ntmps11
  simp only [List.append]
  go_wp2_with fail
  go_ret
  exact ⟨ret_no (fun q => HNE.out (congrArg EvC.tick q)), HB1.out⟩
set_option maxRecDepth 100000 in
set_option maxHeartbeats 16000000 in
theorem one_2 (a b : EvM) (w : World) (h0 : a.kind = b.kind) (h1 : a.tick = b.tick) (hne : ¬ a.who = b.who) : Calls Tryz.prog 11 #[evV a, evV b] w (RetOne a b w) := by
  obtain ⟨C, hC⟩ : ∃ C, C = (evCs a).toArray := ⟨_, rfl⟩
  obtain ⟨D, hD⟩ : ∃ D, D = (evCs b).toArray := ⟨_, rfl⟩
  have hva : evV a = .agg C := by rw [hC]; rfl
  have hvb : evV b = .agg D := by rw [hD]; rfl
  have c0 : C[0]? = some (.int .i64 a.kind) := by rw [hC]; rfl
  have d0 : D[0]? = some (.int .i64 a.kind) := by rw [hD, h0]; rfl
  have c1 : C[1]? = some (.int .i64 a.tick) := by rw [hC]; rfl
  have d1 : D[1]? = some (.int .i64 a.tick) := by rw [hD, h1]; rfl
  have c2 : C[2]? = some (.int .i64 a.who) := by rw [hC]; rfl
  have d2 : D[2]? = some (.int .i64 b.who) := by rw [hD]; rfl
  rw [hva, hvb]
  have hb1 : Below w.heap.size w ((w.alloc (.cells C 35)).alloc (.cells D 35)) := ((Below.refl _ _).alloc (Nat.le_refl _) _).alloc (by simp) _
  have HB1 := Lib.hid hb1
  have ek : (a.who == b.who) = false := by simpa using hne
  have HNE := Lib.hid hne
  clear hC hD hva hvb hb1  h0 h1 hne 
  go_enter Tryz.func11, Tryz.ntmps11
  simp only [List.append]
  go_wp2_with fail
  go_ret
  exact ⟨ret_no (fun q => HNE.out (congrArg EvC.who q)), HB1.out⟩
set_option maxRecDepth 100000 in
set_option maxHeartbeats 16000000 in
theorem one_3 (a b : EvM) (w : World) (h0 : a.kind = b.kind) (h1 : a.tick = b.tick) (h2 : a.who = b.who) (hne : ¬ a.call = b.call) : Calls Tryz.prog 11 #[evV a, evV b] w (RetOne a b w) := by
  obtain ⟨C, hC⟩ : ∃ C, C = (evCs a).toArray := ⟨_, rfl⟩
  obtain ⟨D, hD⟩ : ∃ D, D = (evCs b).toArray := ⟨_, rfl⟩
  have hva : evV a = .agg C := by rw [hC]; rfl
  have hvb : evV b = .agg D := by rw [hD]; rfl
  have c0 : C[0]? = some (.int .i64 a.kind) := by rw [hC]; rfl
  have d0 : D[0]? = some (.int .i64 a.kind) := by rw [hD, h0]; rfl
  have c1 : C[1]? = some (.int .i64 a.tick) := by rw [hC]; rfl
  have d1 : D[1]? = some (.int .i64 a.tick) := by rw [hD, h1]; rfl
  have c2 : C[2]? = some (.int .i64 a.who) := by rw [hC]; rfl
  have d2 : D[2]? = some (.int .i64 a.who) := by rw [hD, h2]; rfl
  have c3 : C[3]? = some (.int .i64 a.call) := by rw [hC]; rfl
  have d3 : D[3]? = some (.int .i64 b.call) := by rw [hD]; rfl
  rw [hva, hvb]
  have hb1 : Below w.heap.size w ((w.alloc (.cells C 35)).alloc (.cells D 35)) := ((Below.refl _ _).alloc (Nat.le_refl _) _).alloc (by simp) _
  have HB1 := Lib.hid hb1
  have ek : (a.call == b.call) = false := by simpa using hne
  have HNE := Lib.hid hne
  clear hC hD hva hvb hb1  h0 h1 h2 hne 
  go_enter Tryz.func11, Tryz.ntmps11
  simp only [List.append]
  go_wp2_with fail
  go_ret
  exact ⟨ret_no (fun q => HNE.out (congrArg EvC.call q)), HB1.out⟩
set_option maxRecDepth 100000 in
set_option maxHeartbeats 16000000 in
theorem one_4 (a b : EvM) (w : World) (h0 : a.kind = b.kind) (h1 : a.tick = b.tick) (h2 : a.who = b.who) (h3 : a.call = b.call) (hne : ¬ a.epoch = b.epoch) : Calls Tryz.prog 11 #[evV a, evV b] w (RetOne a b w) := by
  obtain ⟨C, hC⟩ : ∃ C, C = (evCs a).toArray := ⟨_, rfl⟩
  obtain ⟨D, hD⟩ : ∃ D, D = (evCs b).toArray := ⟨_, rfl⟩
  have hva : evV a = .agg C := by rw [hC]; rfl
  have hvb : evV b = .agg D := by rw [hD]; rfl
  have c0 : C[0]? = some (.int .i64 a.kind) := by rw [hC]; rfl
  have d0 : D[0]? = some (.int .i64 a.kind) := by rw [hD, h0]; rfl
  have c1 : C[1]? = some (.int .i64 a.tick) := by rw [hC]; rfl
  have d1 : D[1]? = some (.int .i64 a.tick) := by rw [hD, h1]; rfl
  have c2 : C[2]? = some (.int .i64 a.who) := by rw [hC]; rfl
  have d2 : D[2]? = some (.int .i64 a.who) := by rw [hD, h2]; rfl
  have c3 : C[3]? = some (.int .i64 a.call) := by rw [hC]; rfl
  have d3 : D[3]? = some (.int .i64 a.call) := by rw [hD, h3]; rfl
  have c4 : C[4]? = some (.int .i64 a.epoch) := by rw [hC]; rfl
  have d4 : D[4]? = some (.int .i64 b.epoch) := by rw [hD]; rfl
  rw [hva, hvb]
  have hb1 : Below w.heap.size w ((w.alloc (.cells C 35)).alloc (.cells D 35)) := ((Below.refl _ _).alloc (Nat.le_refl _) _).alloc (by simp) _
  have HB1 := Lib.hid hb1
  have ek : (a.epoch == b.epoch) = false := by simpa using hne
  have HNE := Lib.hid hne
  clear hC hD hva hvb hb1  h0 h1 h2 h3 hne 
  go_enter Tryz.func11, Tryz.ntmps11
  simp only [List.append]
  go_wp2_with fail
  go_ret
  exact ⟨ret_no (fun q => HNE.out (congrArg EvC.epoch q)), HB1.out⟩
end
section
open Go.RowKit Go.Maps

set_option maxRecDepth 100000 in
set_option maxHeartbeats 16000000 in
theorem one_5 (a b : EvM) (w : World) (h0 : a.kind = b.kind) (h1 : a.tick = b.tick) (h2 : a.who = b.who) (h3 : a.call = b.call) (h4 : a.epoch = b.epoch) (hne : ¬ a.n = b.n) : Calls Tryz.prog 11 #[evV a, evV b] w (RetOne a b w) := by
  obtain ⟨C, hC⟩ : ∃ C, C = (evCs a).toArray := ⟨_, rfl⟩
  obtain ⟨D, hD⟩ : ∃ D, D = (evCs b).toArray := ⟨_, rfl⟩
  have hva : evV a = .agg C := by rw [hC]; rfl
  have hvb : evV b = .agg D := by rw [hD]; rfl
  have c0 : C[0]? = some (.int .i64 a.kind) := by rw [hC]; rfl
  have d0 : D[0]? = some (.int .i64 a.kind) := by rw [hD, h0]; rfl
  have c1 : C[1]? = some (.int .i64 a.tick) := by rw [hC]; rfl
  have d1 : D[1]? = some (.int .i64 a.tick) := by rw [hD, h1]; rfl
  have c2 : C[2]? = some (.int .i64 a.who) := by rw [hC]; rfl
  have d2 : D[2]? = some (.int .i64 a.who) := by rw [hD, h2]; rfl
  have c3 : C[3]? = some (.int .i64 a.call) := by rw [hC]; rfl
  have d3 : D[3]? = some (.int .i64 a.call) := by rw [hD, h3]; rfl
  have c4 : C[4]? = some (.int .i64 a.epoch) := by rw [hC]; rfl
  have d4 : D[4]? = some (.int .i64 a.epoch) := by rw [hD, h4]; rfl
  have c5 : C[5]? = some (.int .i64 a.n) := by rw [hC]; rfl
  have d5 : D[5]? = some (.int .i64 b.n) := by rw [hD]; rfl
  rw [hva, hvb]
  have hb1 : Below w.heap.size w ((w.alloc (.cells C 35)).alloc (.cells D 35)) := ((Below.refl _ _).alloc (Nat.le_refl _) _).alloc (by simp) _
  have HB1 := Lib.hid hb1
  have ek : (a.n == b.n) = false := by simpa using hne
  have HNE := Lib.hid hne
  clear hC hD hva hvb hb1  h0 h1 h2 h3 h4 hne 
  go_enter Tryz.func11, Tryz.ntmps11
  simp only [List.append]
  go_wp2_with fail
  go_ret
  exact ⟨ret_no (fun q => HNE.out (congrArg EvC.n q)), HB1.out⟩
set_option maxRecDepth 100000 in
set_option maxHeartbeats 16000000 in
theorem one_6 (a b : EvM) (w : World) (h0 : a.kind = b.kind) (h1 : a.tick = b.tick) (h2 : a.who = b.who) (h3 : a.call = b.call) (h4 : a.epoch = b.epoch) (h5 : a.n = b.n) (hne : ¬ a.eterm = b.eterm) : Calls Tryz.prog 11 #[evV a, evV b] w (RetOne a b w) := by
  obtain ⟨C, hC⟩ : ∃ C, C = (evCs a).toArray := ⟨_, rfl⟩
  obtain ⟨D, hD⟩ : ∃ D, D = (evCs b).toArray := ⟨_, rfl⟩
  have hva : evV a = .agg C := by rw [hC]; rfl
  have hvb : evV b = .agg D := by rw [hD]; rfl
  have c0 : C[0]? = some (.int .i64 a.kind) := by rw [hC]; rfl
  have d0 : D[0]? = some (.int .i64 a.kind) := by rw [hD, h0]; rfl
  have c1 : C[1]? = some (.int .i64 a.tick) := by rw [hC]; rfl
  have d1 : D[1]? = some (.int .i64 a.tick) := by rw [hD, h1]; rfl
  have c2 : C[2]? = some (.int .i64 a.who) := by rw [hC]; rfl
  have d2 : D[2]? = some (.int .i64 a.who) := by rw [hD, h2]; rfl
  have c3 : C[3]? = some (.int .i64 a.call) := by rw [hC]; rfl
  have d3 : D[3]? = some (.int .i64 a.call) := by rw [hD, h3]; rfl
  have c4 : C[4]? = some (.int .i64 a.epoch) := by rw [hC]; rfl
  have d4 : D[4]? = some (.int .i64 a.epoch) := by rw [hD, h4]; rfl
  have c5 : C[5]? = some (.int .i64 a.n) := by rw [hC]; rfl
  have d5 : D[5]? = some (.int .i64 a.n) := by rw [hD, h5]; rfl
  have c6 : C[6]? = some (.int .i64 a.eterm) := by rw [hC]; rfl
  have d6 : D[6]? = some (.int .i64 b.eterm) := by rw [hD]; rfl
  rw [hva, hvb]
  have hb1 : Below w.heap.size w ((w.alloc (.cells C 35)).alloc (.cells D 35)) := ((Below.refl _ _).alloc (Nat.le_refl _) _).alloc (by simp) _
  have HB1 := Lib.hid hb1
  have ek : (a.eterm == b.eterm) = false := by simpa using hne
  have HNE := Lib.hid hne
  clear hC hD hva hvb hb1  h0 h1 h2 h3 h4 h5 hne 
  go_enter Tryz.func11, Tryz.ntmps11
  simp only [List.append]
  go_wp2_with fail
  go_ret
  exact ⟨ret_no (fun q => HNE.out (congrArg EvC.eterm q)), HB1.out⟩
set_option maxRecDepth 100000 in
set_option maxHeartbeats 16000000 in
theorem one_7 (a b : EvM) (w : World) (h0 : a.kind = b.kind) (h1 : a.tick = b.tick) (h2 : a.who = b.who) (h3 : a.call = b.call) (h4 : a.epoch = b.epoch) (h5 : a.n = b.n) (h6 : a.eterm = b.eterm) (hne : ¬ a.ekind = b.ekind) : Calls Tryz.prog 11 #[evV a, evV b] w (RetOne a b w) := by
  obtain ⟨C, hC⟩ : ∃ C, C = (evCs a).toArray := ⟨_, rfl⟩
  obtain ⟨D, hD⟩ : ∃ D, D = (evCs b).toArray := ⟨_, rfl⟩
  have hva : evV a = .agg C := by rw [hC]; rfl
  have hvb : evV b = .agg D := by rw [hD]; rfl
  have c0 : C[0]? = some (.int .i64 a.kind) := by rw [hC]; rfl
  have d0 : D[0]? = some (.int .i64 a.kind) := by rw [hD, h0]; rfl
  have c1 : C[1]? = some (.int .i64 a.tick) := by rw [hC]; rfl
  have d1 : D[1]? = some (.int .i64 a.tick) := by rw [hD, h1]; rfl
  have c2 : C[2]? = some (.int .i64 a.who) := by rw [hC]; rfl
  have d2 : D[2]? = some (.int .i64 a.who) := by rw [hD, h2]; rfl
  have c3 : C[3]? = some (.int .i64 a.call) := by rw [hC]; rfl
  have d3 : D[3]? = some (.int .i64 a.call) := by rw [hD, h3]; rfl
  have c4 : C[4]? = some (.int .i64 a.epoch) := by rw [hC]; rfl
  have d4 : D[4]? = some (.int .i64 a.epoch) := by rw [hD, h4]; rfl
  have c5 : C[5]? = some (.int .i64 a.n) := by rw [hC]; rfl
  have d5 : D[5]? = some (.int .i64 a.n) := by rw [hD, h5]; rfl
  have c6 : C[6]? = some (.int .i64 a.eterm) := by rw [hC]; rfl
  have d6 : D[6]? = some (.int .i64 a.eterm) := by rw [hD, h6]; rfl
  have c7 : C[7]? = some (.int .i64 a.ekind) := by rw [hC]; rfl
  have d7 : D[7]? = some (.int .i64 b.ekind) := by rw [hD]; rfl
  rw [hva, hvb]
  have hb1 : Below w.heap.size w ((w.alloc (.cells C 35)).alloc (.cells D 35)) := ((Below.refl _ _).alloc (Nat.le_refl _) _).alloc (by simp) _
  have HB1 := Lib.hid hb1
  have ek : (a.ekind == b.ekind) = false := by simpa using hne
  have HNE := Lib.hid hne
  clear hC hD hva hvb hb1  h0 h1 h2 h3 h4 h5 h6 hne 
  go_enter Tryz.func11, Tryz.ntmps11
  simp only [List.append]
  go_wp2_with fail
  go_ret
  exact ⟨ret_no (fun q => HNE.out (congrArg EvC.ekind q)), HB1.out⟩
end
section
open Go.RowKit Go.Maps

set_option maxRecDepth 100000 in
set_option maxHeartbeats 16000000 in
theorem one_8 (a b : EvM) (w : World) (BA BB : Nat) (ha : EvAt w BA a) (hb : EvAt w BB b) (hA : BA ≤ w.heap.size) (hB : BB ≤ w.heap.size) (h0 : a.kind = b.kind) (h1 : a.tick = b.tick) (h2 : a.who = b.who) (h3 : a.call = b.call) (h4 : a.epoch = b.epoch) (h5 : a.n = b.n) (h6 : a.eterm = b.eterm) (h7 : a.ekind = b.ekind) (hne : ¬ a.ebody = b.ebody) : Calls Tryz.prog 11 #[evV a, evV b] w (RetOne a b w) := by
  obtain ⟨C, hC⟩ : ∃ C, C = (evCs a).toArray := ⟨_, rfl⟩
  obtain ⟨D, hD⟩ : ∃ D, D = (evCs b).toArray := ⟨_, rfl⟩
  have hva : evV a = .agg C := by rw [hC]; rfl
  have hvb : evV b = .agg D := by rw [hD]; rfl
  have c0 : C[0]? = some (.int .i64 a.kind) := by rw [hC]; rfl
  have d0 : D[0]? = some (.int .i64 a.kind) := by rw [hD, h0]; rfl
  have c1 : C[1]? = some (.int .i64 a.tick) := by rw [hC]; rfl
  have d1 : D[1]? = some (.int .i64 a.tick) := by rw [hD, h1]; rfl
  have c2 : C[2]? = some (.int .i64 a.who) := by rw [hC]; rfl
  have d2 : D[2]? = some (.int .i64 a.who) := by rw [hD, h2]; rfl
  have c3 : C[3]? = some (.int .i64 a.call) := by rw [hC]; rfl
  have d3 : D[3]? = some (.int .i64 a.call) := by rw [hD, h3]; rfl
  have c4 : C[4]? = some (.int .i64 a.epoch) := by rw [hC]; rfl
  have d4 : D[4]? = some (.int .i64 a.epoch) := by rw [hD, h4]; rfl
  have c5 : C[5]? = some (.int .i64 a.n) := by rw [hC]; rfl
  have d5 : D[5]? = some (.int .i64 a.n) := by rw [hD, h5]; rfl
  have c6 : C[6]? = some (.int .i64 a.eterm) := by rw [hC]; rfl
  have d6 : D[6]? = some (.int .i64 a.eterm) := by rw [hD, h6]; rfl
  have c7 : C[7]? = some (.int .i64 a.ekind) := by rw [hC]; rfl
  have d7 : D[7]? = some (.int .i64 a.ekind) := by rw [hD, h7]; rfl
  have c8 : C[8]? = some (.slice a.eA a.ebody.length a.ec) := by rw [hC]; rfl
  have d8 : D[8]? = some (.slice b.eA b.ebody.length b.ec) := by rw [hD]; rfl
  rw [hva, hvb]
  have hb1 : Below w.heap.size w ((w.alloc (.cells C 35)).alloc (.cells D 35)) := ((Below.refl _ _).alloc (Nat.le_refl _) _).alloc (by simp) _
  have HB1 := Lib.hid hb1
  have S8 := Lib.hid (And.intro (bytes_str (Sl.below ha.body (hb1.mono hA)) a.ec) (bytes_str (Sl.below hb.body (hb1.mono hB)) b.ec))
  have e8 : ((bs a.ebody).toList == (bs b.ebody).toList) = false := str_ne (fun q => hne (bs_inj q))
  have e8b : ¬ (bs a.ebody).toList = (bs b.ebody).toList := fun q => by rw [q] at e8; simp at e8
  have HNE := Lib.hid hne
  clear hC hD hva hvb hb1 ha hb hA hB h0 h1 h2 h3 h4 h5 h6 h7 hne 
  go_enter Tryz.func11, Tryz.ntmps11
  simp only [List.append]
  go_wp2_with (first | ((with_reducible refine wpList_at 67 rfl ?_); (refine wpList_convV (v := .slice a.eA a.ebody.length a.ec) rfl rfl rfl S8.out.1 ?_; simp only [Act.put, List.setIfInBounds_toArray, List.set_cons_zero, List.set_cons_succ])) | ((with_reducible refine wpList_at 71 rfl ?_); (refine wpList_convV (v := .slice b.eA b.ebody.length b.ec) rfl rfl rfl S8.out.2 ?_; simp only [Act.put, List.setIfInBounds_toArray, List.set_cons_zero, List.set_cons_succ])))
  go_ret
  exact ⟨ret_no (fun q => HNE.out (congrArg EvC.ebody q)), HB1.out⟩
set_option maxRecDepth 100000 in
set_option maxHeartbeats 16000000 in
theorem one_9 (a b : EvM) (w : World) (BA BB : Nat) (ha : EvAt w BA a) (hb : EvAt w BB b) (hA : BA ≤ w.heap.size) (hB : BB ≤ w.heap.size) (h0 : a.kind = b.kind) (h1 : a.tick = b.tick) (h2 : a.who = b.who) (h3 : a.call = b.call) (h4 : a.epoch = b.epoch) (h5 : a.n = b.n) (h6 : a.eterm = b.eterm) (h7 : a.ekind = b.ekind) (h8 : a.ebody = b.ebody) (hne : ¬ a.ord = b.ord) : Calls Tryz.prog 11 #[evV a, evV b] w (RetOne a b w) := by
  obtain ⟨C, hC⟩ : ∃ C, C = (evCs a).toArray := ⟨_, rfl⟩
  obtain ⟨D, hD⟩ : ∃ D, D = (evCs b).toArray := ⟨_, rfl⟩
  have hva : evV a = .agg C := by rw [hC]; rfl
  have hvb : evV b = .agg D := by rw [hD]; rfl
  have c0 : C[0]? = some (.int .i64 a.kind) := by rw [hC]; rfl
  have d0 : D[0]? = some (.int .i64 a.kind) := by rw [hD, h0]; rfl
  have c1 : C[1]? = some (.int .i64 a.tick) := by rw [hC]; rfl
  have d1 : D[1]? = some (.int .i64 a.tick) := by rw [hD, h1]; rfl
  have c2 : C[2]? = some (.int .i64 a.who) := by rw [hC]; rfl
  have d2 : D[2]? = some (.int .i64 a.who) := by rw [hD, h2]; rfl
  have c3 : C[3]? = some (.int .i64 a.call) := by rw [hC]; rfl
  have d3 : D[3]? = some (.int .i64 a.call) := by rw [hD, h3]; rfl
  have c4 : C[4]? = some (.int .i64 a.epoch) := by rw [hC]; rfl
  have d4 : D[4]? = some (.int .i64 a.epoch) := by rw [hD, h4]; rfl
  have c5 : C[5]? = some (.int .i64 a.n) := by rw [hC]; rfl
  have d5 : D[5]? = some (.int .i64 a.n) := by rw [hD, h5]; rfl
  have c6 : C[6]? = some (.int .i64 a.eterm) := by rw [hC]; rfl
  have d6 : D[6]? = some (.int .i64 a.eterm) := by rw [hD, h6]; rfl
  have c7 : C[7]? = some (.int .i64 a.ekind) := by rw [hC]; rfl
  have d7 : D[7]? = some (.int .i64 a.ekind) := by rw [hD, h7]; rfl
  have c8 : C[8]? = some (.slice a.eA a.ebody.length a.ec) := by rw [hC]; rfl
  have d8 : D[8]? = some (.slice b.eA a.ebody.length b.ec) := by rw [hD, h8]; rfl
  have c9 : C[9]? = some (.int .i64 a.ord.unit) := by rw [hC]; rfl
  have d9 : D[9]? = some (.int .i64 b.ord.unit) := by rw [hD]; rfl
  have c10 : C[10]? = some (.int .i64 a.ord.epoch) := by rw [hC]; rfl
  have d10 : D[10]? = some (.int .i64 b.ord.epoch) := by rw [hD]; rfl
  have c11 : C[11]? = some (.int .i64 a.ord.kind) := by rw [hC]; rfl
  have d11 : D[11]? = some (.int .i64 b.ord.kind) := by rw [hD]; rfl
  have c12 : C[12]? = some (.int .i64 a.ord.incident) := by rw [hC]; rfl
  have d12 : D[12]? = some (.int .i64 b.ord.incident) := by rw [hD]; rfl
  have c13 : C[13]? = some (.int .i64 a.ord.node) := by rw [hC]; rfl
  have d13 : D[13]? = some (.int .i64 b.ord.node) := by rw [hD]; rfl
  rw [hva, hvb]
  have hb1 : Below w.heap.size w ((w.alloc (.cells C 35)).alloc (.cells D 35)) := ((Below.refl _ _).alloc (Nat.le_refl _) _).alloc (by simp) _
  have HB1 := Lib.hid hb1
  have S8 := Lib.hid (And.intro (bytes_str (Sl.below ha.body (hb1.mono hA)) a.ec) (bytes_str (Sl.below hb.body (hb1.mono hB)) b.ec))
  rw [← h8] at S8
  have HNE := Lib.hid hne
  clear hC hD hva hvb hb1 ha hb hA hB h0 h1 h2 h3 h4 h5 h6 h7 h8 hne 
  go_enter Tryz.func11, Tryz.ntmps11
  simp only [List.append]
  go_wp2_with (first | ((with_reducible refine wpList_at 67 rfl ?_); (refine wpList_convV (v := .slice a.eA a.ebody.length a.ec) rfl rfl rfl S8.out.1 ?_; simp only [Act.put, List.setIfInBounds_toArray, List.set_cons_zero, List.set_cons_succ])) | ((with_reducible refine wpList_at 71 rfl ?_); (refine wpList_convV (v := .slice b.eA a.ebody.length b.ec) rfl rfl rfl S8.out.2 ?_; simp only [Act.put, List.setIfInBounds_toArray, List.set_cons_zero, List.set_cons_succ])) | ((with_reducible refine wpList_at 79 rfl ?_); (refine wpList_eqO (o1 := a.ord) (o2 := b.ord) rfl rfl rfl rfl false (tb_false HNE.out) ?_; simp only [Act.put, List.setIfInBounds_toArray, List.set_cons_zero, List.set_cons_succ])))
  go_ret
  exact ⟨ret_no (fun q => HNE.out (congrArg EvC.ord q)), HB1.out⟩
end
section
open Go.RowKit Go.Maps

set_option maxRecDepth 100000 in
set_option maxHeartbeats 16000000 in
theorem one_10 (a b : EvM) (w : World) (BA BB : Nat) (ha : EvAt w BA a) (hb : EvAt w BB b) (hA : BA ≤ w.heap.size) (hB : BB ≤ w.heap.size) (h0 : a.kind = b.kind) (h1 : a.tick = b.tick) (h2 : a.who = b.who) (h3 : a.call = b.call) (h4 : a.epoch = b.epoch) (h5 : a.n = b.n) (h6 : a.eterm = b.eterm) (h7 : a.ekind = b.ekind) (h8 : a.ebody = b.ebody) (h9 : a.ord = b.ord) (hne : ¬ a.sta = b.sta) : Calls Tryz.prog 11 #[evV a, evV b] w (RetOne a b w) := by
  obtain ⟨C, hC⟩ : ∃ C, C = (evCs a).toArray := ⟨_, rfl⟩
  obtain ⟨D, hD⟩ : ∃ D, D = (evCs b).toArray := ⟨_, rfl⟩
  have hva : evV a = .agg C := by rw [hC]; rfl
  have hvb : evV b = .agg D := by rw [hD]; rfl
  have c0 : C[0]? = some (.int .i64 a.kind) := by rw [hC]; rfl
  have d0 : D[0]? = some (.int .i64 a.kind) := by rw [hD, h0]; rfl
  have c1 : C[1]? = some (.int .i64 a.tick) := by rw [hC]; rfl
  have d1 : D[1]? = some (.int .i64 a.tick) := by rw [hD, h1]; rfl
  have c2 : C[2]? = some (.int .i64 a.who) := by rw [hC]; rfl
  have d2 : D[2]? = some (.int .i64 a.who) := by rw [hD, h2]; rfl
  have c3 : C[3]? = some (.int .i64 a.call) := by rw [hC]; rfl
  have d3 : D[3]? = some (.int .i64 a.call) := by rw [hD, h3]; rfl
  have c4 : C[4]? = some (.int .i64 a.epoch) := by rw [hC]; rfl
  have d4 : D[4]? = some (.int .i64 a.epoch) := by rw [hD, h4]; rfl
  have c5 : C[5]? = some (.int .i64 a.n) := by rw [hC]; rfl
  have d5 : D[5]? = some (.int .i64 a.n) := by rw [hD, h5]; rfl
  have c6 : C[6]? = some (.int .i64 a.eterm) := by rw [hC]; rfl
  have d6 : D[6]? = some (.int .i64 a.eterm) := by rw [hD, h6]; rfl
  have c7 : C[7]? = some (.int .i64 a.ekind) := by rw [hC]; rfl
  have d7 : D[7]? = some (.int .i64 a.ekind) := by rw [hD, h7]; rfl
  have c8 : C[8]? = some (.slice a.eA a.ebody.length a.ec) := by rw [hC]; rfl
  have d8 : D[8]? = some (.slice b.eA a.ebody.length b.ec) := by rw [hD, h8]; rfl
  have c9 : C[9]? = some (.int .i64 a.ord.unit) := by rw [hC]; rfl
  have d9 : D[9]? = some (.int .i64 a.ord.unit) := by rw [hD, h9]; rfl
  have c10 : C[10]? = some (.int .i64 a.ord.epoch) := by rw [hC]; rfl
  have d10 : D[10]? = some (.int .i64 a.ord.epoch) := by rw [hD, h9]; rfl
  have c11 : C[11]? = some (.int .i64 a.ord.kind) := by rw [hC]; rfl
  have d11 : D[11]? = some (.int .i64 a.ord.kind) := by rw [hD, h9]; rfl
  have c12 : C[12]? = some (.int .i64 a.ord.incident) := by rw [hC]; rfl
  have d12 : D[12]? = some (.int .i64 a.ord.incident) := by rw [hD, h9]; rfl
  have c13 : C[13]? = some (.int .i64 a.ord.node) := by rw [hC]; rfl
  have d13 : D[13]? = some (.int .i64 a.ord.node) := by rw [hD, h9]; rfl
  have c14 : C[14]? = some (.int .i64 a.sta.unit) := by rw [hC]; rfl
  have d14 : D[14]? = some (.int .i64 b.sta.unit) := by rw [hD]; rfl
  have c15 : C[15]? = some (.int .i64 a.sta.seq) := by rw [hC]; rfl
  have d15 : D[15]? = some (.int .i64 b.sta.seq) := by rw [hD]; rfl
  have c16 : C[16]? = some (.int .i64 a.sta.state) := by rw [hC]; rfl
  have d16 : D[16]? = some (.int .i64 b.sta.state) := by rw [hD]; rfl
  have c17 : C[17]? = some (.int .i64 a.sta.node) := by rw [hC]; rfl
  have d17 : D[17]? = some (.int .i64 b.sta.node) := by rw [hD]; rfl
  have c18 : C[18]? = some (.int .i64 a.sta.epoch) := by rw [hC]; rfl
  have d18 : D[18]? = some (.int .i64 b.sta.epoch) := by rw [hD]; rfl
  rw [hva, hvb]
  have hb1 : Below w.heap.size w ((w.alloc (.cells C 35)).alloc (.cells D 35)) := ((Below.refl _ _).alloc (Nat.le_refl _) _).alloc (by simp) _
  have HB1 := Lib.hid hb1
  have S8 := Lib.hid (And.intro (bytes_str (Sl.below ha.body (hb1.mono hA)) a.ec) (bytes_str (Sl.below hb.body (hb1.mono hB)) b.ec))
  rw [← h8] at S8
  have HNE := Lib.hid hne
  clear hC hD hva hvb hb1 ha hb hA hB h0 h1 h2 h3 h4 h5 h6 h7 h8 h9 hne 
  go_enter Tryz.func11, Tryz.ntmps11
  simp only [List.append]
  go_wp2_with (first | ((with_reducible refine wpList_at 67 rfl ?_); (refine wpList_convV (v := .slice a.eA a.ebody.length a.ec) rfl rfl rfl S8.out.1 ?_; simp only [Act.put, List.setIfInBounds_toArray, List.set_cons_zero, List.set_cons_succ])) | ((with_reducible refine wpList_at 71 rfl ?_); (refine wpList_convV (v := .slice b.eA a.ebody.length b.ec) rfl rfl rfl S8.out.2 ?_; simp only [Act.put, List.setIfInBounds_toArray, List.set_cons_zero, List.set_cons_succ])) | ((with_reducible refine wpList_at 79 rfl ?_); (refine wpList_eqO (o1 := a.ord) (o2 := a.ord) rfl rfl rfl rfl true (tb_true rfl) ?_; simp only [Act.put, List.setIfInBounds_toArray, List.set_cons_zero, List.set_cons_succ])) | ((with_reducible refine wpList_at 86 rfl ?_); (refine wpList_eqS (o1 := a.sta) (o2 := b.sta) rfl rfl rfl rfl false (tb_false HNE.out) ?_; simp only [Act.put, List.setIfInBounds_toArray, List.set_cons_zero, List.set_cons_succ])))
  go_ret
  exact ⟨ret_no (fun q => HNE.out (congrArg EvC.sta q)), HB1.out⟩
set_option maxRecDepth 100000 in
set_option maxHeartbeats 16000000 in
theorem one_11 (a b : EvM) (w : World) (BA BB : Nat) (ha : EvAt w BA a) (hb : EvAt w BB b) (hA : BA ≤ w.heap.size) (hB : BB ≤ w.heap.size) (hl : ActL a.act) (h0 : a.kind = b.kind) (h1 : a.tick = b.tick) (h2 : a.who = b.who) (h3 : a.call = b.call) (h4 : a.epoch = b.epoch) (h5 : a.n = b.n) (h6 : a.eterm = b.eterm) (h7 : a.ekind = b.ekind) (h8 : a.ebody = b.ebody) (h9 : a.ord = b.ord) (h10 : a.sta = b.sta) (hne : ¬ a.act.con = b.act.con) : Calls Tryz.prog 11 #[evV a, evV b] w (RetOne a b w) := by
  obtain ⟨C, hC⟩ : ∃ C, C = (evCs a).toArray := ⟨_, rfl⟩
  obtain ⟨D, hD⟩ : ∃ D, D = (evCs b).toArray := ⟨_, rfl⟩
  have hva : evV a = .agg C := by rw [hC]; rfl
  have hvb : evV b = .agg D := by rw [hD]; rfl
  have c0 : C[0]? = some (.int .i64 a.kind) := by rw [hC]; rfl
  have d0 : D[0]? = some (.int .i64 a.kind) := by rw [hD, h0]; rfl
  have c1 : C[1]? = some (.int .i64 a.tick) := by rw [hC]; rfl
  have d1 : D[1]? = some (.int .i64 a.tick) := by rw [hD, h1]; rfl
  have c2 : C[2]? = some (.int .i64 a.who) := by rw [hC]; rfl
  have d2 : D[2]? = some (.int .i64 a.who) := by rw [hD, h2]; rfl
  have c3 : C[3]? = some (.int .i64 a.call) := by rw [hC]; rfl
  have d3 : D[3]? = some (.int .i64 a.call) := by rw [hD, h3]; rfl
  have c4 : C[4]? = some (.int .i64 a.epoch) := by rw [hC]; rfl
  have d4 : D[4]? = some (.int .i64 a.epoch) := by rw [hD, h4]; rfl
  have c5 : C[5]? = some (.int .i64 a.n) := by rw [hC]; rfl
  have d5 : D[5]? = some (.int .i64 a.n) := by rw [hD, h5]; rfl
  have c6 : C[6]? = some (.int .i64 a.eterm) := by rw [hC]; rfl
  have d6 : D[6]? = some (.int .i64 a.eterm) := by rw [hD, h6]; rfl
  have c7 : C[7]? = some (.int .i64 a.ekind) := by rw [hC]; rfl
  have d7 : D[7]? = some (.int .i64 a.ekind) := by rw [hD, h7]; rfl
  have c8 : C[8]? = some (.slice a.eA a.ebody.length a.ec) := by rw [hC]; rfl
  have d8 : D[8]? = some (.slice b.eA a.ebody.length b.ec) := by rw [hD, h8]; rfl
  have c9 : C[9]? = some (.int .i64 a.ord.unit) := by rw [hC]; rfl
  have d9 : D[9]? = some (.int .i64 a.ord.unit) := by rw [hD, h9]; rfl
  have c10 : C[10]? = some (.int .i64 a.ord.epoch) := by rw [hC]; rfl
  have d10 : D[10]? = some (.int .i64 a.ord.epoch) := by rw [hD, h9]; rfl
  have c11 : C[11]? = some (.int .i64 a.ord.kind) := by rw [hC]; rfl
  have d11 : D[11]? = some (.int .i64 a.ord.kind) := by rw [hD, h9]; rfl
  have c12 : C[12]? = some (.int .i64 a.ord.incident) := by rw [hC]; rfl
  have d12 : D[12]? = some (.int .i64 a.ord.incident) := by rw [hD, h9]; rfl
  have c13 : C[13]? = some (.int .i64 a.ord.node) := by rw [hC]; rfl
  have d13 : D[13]? = some (.int .i64 a.ord.node) := by rw [hD, h9]; rfl
  have c14 : C[14]? = some (.int .i64 a.sta.unit) := by rw [hC]; rfl
  have d14 : D[14]? = some (.int .i64 a.sta.unit) := by rw [hD, h10]; rfl
  have c15 : C[15]? = some (.int .i64 a.sta.seq) := by rw [hC]; rfl
  have d15 : D[15]? = some (.int .i64 a.sta.seq) := by rw [hD, h10]; rfl
  have c16 : C[16]? = some (.int .i64 a.sta.state) := by rw [hC]; rfl
  have d16 : D[16]? = some (.int .i64 a.sta.state) := by rw [hD, h10]; rfl
  have c17 : C[17]? = some (.int .i64 a.sta.node) := by rw [hC]; rfl
  have d17 : D[17]? = some (.int .i64 a.sta.node) := by rw [hD, h10]; rfl
  have c18 : C[18]? = some (.int .i64 a.sta.epoch) := by rw [hC]; rfl
  have d18 : D[18]? = some (.int .i64 a.sta.epoch) := by rw [hD, h10]; rfl
  have c19 : C[19]? = some (.int .i64 a.act.kind) := by rw [hC]; rfl
  have d19 : D[19]? = some (.int .i64 b.act.kind) := by rw [hD]; rfl
  have c20 : C[20]? = some (.int .i64 a.act.who) := by rw [hC]; rfl
  have d20 : D[20]? = some (.int .i64 b.act.who) := by rw [hD]; rfl
  have c21 : C[21]? = some (.int .i64 a.act.n) := by rw [hC]; rfl
  have d21 : D[21]? = some (.int .i64 b.act.n) := by rw [hD]; rfl
  have c22 : C[22]? = some (.int .i64 a.act.call) := by rw [hC]; rfl
  have d22 : D[22]? = some (.int .i64 b.act.call) := by rw [hD]; rfl
  have c23 : C[23]? = some (.int .i64 a.act.other) := by rw [hC]; rfl
  have d23 : D[23]? = some (.int .i64 b.act.other) := by rw [hD]; rfl
  have c24 : C[24]? = some (.int .i64 a.act.node) := by rw [hC]; rfl
  have d24 : D[24]? = some (.int .i64 b.act.node) := by rw [hD]; rfl
  have c25 : C[25]? = some (.slice a.act.sA a.act.srcs.length a.act.sc) := by rw [hC]; rfl
  have d25 : D[25]? = some (.slice b.act.sA b.act.srcs.length b.act.sc) := by rw [hD]; rfl
  have c26 : C[26]? = some (.slice a.act.gA a.act.groups.length a.act.gc) := by rw [hC]; rfl
  have d26 : D[26]? = some (.slice b.act.gA b.act.groups.length b.act.gc) := by rw [hD]; rfl
  rw [hva, hvb]
  have hb1 : Below w.heap.size w ((w.alloc (.cells C 35)).alloc (.cells D 35)) := ((Below.refl _ _).alloc (Nat.le_refl _) _).alloc (by simp) _
  have HB1 := Lib.hid hb1
  have S8 := Lib.hid (And.intro (bytes_str (Sl.below ha.body (hb1.mono hA)) a.ec) (bytes_str (Sl.below hb.body (hb1.mono hB)) b.ec))
  rw [← h8] at S8
  obtain ⟨W1, hW1⟩ : ∃ W1, W1 = ((w.alloc (.cells C 35)).alloc (.cells D 35)) := ⟨_, rfl⟩
  have HC19 := Lib.hid (sameAct_any a.act b.act W1 BA BB (ha.act.below (by rw [hW1]; exact hb1.mono hA)) (hb.act.below (by rw [hW1]; exact hb1.mono hB)) (by rw [hW1]; exact Nat.le_trans hA hb1.size) (by rw [hW1]; exact Nat.le_trans hB hb1.size) hl.ns hl.nn hl.ng)
  unfold actV at HC19
  rw [tb_false hne] at HC19
  have HBY := Lib.hid (And.intro ha.bytes (And.intro hb.bytes (And.intro hA hB)))
  have HPQ : Hid (W1.cell? ⟨w.heap.size, 27, none⟩ = some (.slice a.bA a.bytes.length a.bc) ∧ W1.cell? ⟨w.heap.size + 1, 27, none⟩ = some (.slice b.bA b.bytes.length b.bc) ∧ w.heap.size + 1 < W1.heap.size) := Lib.hid (by
    obtain ⟨h1, h2, _, h4⟩ := two_boxes w (evCs a) (evCs b) 35 35 W1 (by rw [hW1, hC, hD])
    exact ⟨h1 27 _ rfl, h2 27 _ rfl, h4⟩)
  have HW := Lib.hid hW1
  have HNE := Lib.hid hne
  clear hC hD hva hvb hb1 ha hb hA hB hl h0 h1 h2 h3 h4 h5 h6 h7 h8 h9 h10 hne hW1
  go_enter Tryz.func11, Tryz.ntmps11
  simp only [List.append]
  go_wp2_with (first | ((with_reducible refine wpList_at 67 rfl ?_); (refine wpList_convV (v := .slice a.eA a.ebody.length a.ec) rfl rfl rfl S8.out.1 ?_; simp only [Act.put, List.setIfInBounds_toArray, List.set_cons_zero, List.set_cons_succ])) | ((with_reducible refine wpList_at 71 rfl ?_); (refine wpList_convV (v := .slice b.eA a.ebody.length b.ec) rfl rfl rfl S8.out.2 ?_; simp only [Act.put, List.setIfInBounds_toArray, List.set_cons_zero, List.set_cons_succ])) | ((with_reducible refine wpList_at 79 rfl ?_); (refine wpList_eqO (o1 := a.ord) (o2 := a.ord) rfl rfl rfl rfl true (tb_true rfl) ?_; simp only [Act.put, List.setIfInBounds_toArray, List.set_cons_zero, List.set_cons_succ])) | ((with_reducible refine wpList_at 86 rfl ?_); (refine wpList_eqS (o1 := a.sta) (o2 := a.sta) rfl rfl rfl rfl true (tb_true rfl) ?_; simp only [Act.put, List.setIfInBounds_toArray, List.set_cons_zero, List.set_cons_succ])))
  rw [← HW.out]
  refine HC19.out.mono ?_
  rintro e V ⟨rfl, hbv⟩
  have HV := Lib.hid (show Below w.heap.size w V from HB1.out.trans ((HW.out ▸ hbv).mono HB1.out.size))
  clear hbv c0 d0 c1 d1 c2 d2 c3 d3 c4 d4 c5 d5 c6 d6 c7 d7 c8 d8 c9 d9 c10 d10 c11 d11 c12 d12 c13 d13 c14 d14 c15 d15 c16 d16 c17 d17 c18 d18 c19 d19 c20 d20 c21 d21 c22 d22 c23 d23 c24 d24 c25 d25 c26 d26
  go_wp2_with fail
  go_ret
  exact ⟨ret_no (fun q => HNE.out (congrArg EvC.act q)), HV.out⟩
end
section
open Go.RowKit Go.Maps

set_option maxRecDepth 100000 in
set_option maxHeartbeats 16000000 in
theorem one_12 (a b : EvM) (w : World) (BA BB : Nat) (ha : EvAt w BA a) (hb : EvAt w BB b) (hA : BA ≤ w.heap.size) (hB : BB ≤ w.heap.size) (hl : ActL a.act) (h0 : a.kind = b.kind) (h1 : a.tick = b.tick) (h2 : a.who = b.who) (h3 : a.call = b.call) (h4 : a.epoch = b.epoch) (h5 : a.n = b.n) (h6 : a.eterm = b.eterm) (h7 : a.ekind = b.ekind) (h8 : a.ebody = b.ebody) (h9 : a.ord = b.ord) (h10 : a.sta = b.sta) (h11 : a.act.con = b.act.con) (hne : ¬ a.bytes = b.bytes) : Calls Tryz.prog 11 #[evV a, evV b] w (RetOne a b w) := by
  obtain ⟨C, hC⟩ : ∃ C, C = (evCs a).toArray := ⟨_, rfl⟩
  obtain ⟨D, hD⟩ : ∃ D, D = (evCs b).toArray := ⟨_, rfl⟩
  have hva : evV a = .agg C := by rw [hC]; rfl
  have hvb : evV b = .agg D := by rw [hD]; rfl
  have c0 : C[0]? = some (.int .i64 a.kind) := by rw [hC]; rfl
  have d0 : D[0]? = some (.int .i64 a.kind) := by rw [hD, h0]; rfl
  have c1 : C[1]? = some (.int .i64 a.tick) := by rw [hC]; rfl
  have d1 : D[1]? = some (.int .i64 a.tick) := by rw [hD, h1]; rfl
  have c2 : C[2]? = some (.int .i64 a.who) := by rw [hC]; rfl
  have d2 : D[2]? = some (.int .i64 a.who) := by rw [hD, h2]; rfl
  have c3 : C[3]? = some (.int .i64 a.call) := by rw [hC]; rfl
  have d3 : D[3]? = some (.int .i64 a.call) := by rw [hD, h3]; rfl
  have c4 : C[4]? = some (.int .i64 a.epoch) := by rw [hC]; rfl
  have d4 : D[4]? = some (.int .i64 a.epoch) := by rw [hD, h4]; rfl
  have c5 : C[5]? = some (.int .i64 a.n) := by rw [hC]; rfl
  have d5 : D[5]? = some (.int .i64 a.n) := by rw [hD, h5]; rfl
  have c6 : C[6]? = some (.int .i64 a.eterm) := by rw [hC]; rfl
  have d6 : D[6]? = some (.int .i64 a.eterm) := by rw [hD, h6]; rfl
  have c7 : C[7]? = some (.int .i64 a.ekind) := by rw [hC]; rfl
  have d7 : D[7]? = some (.int .i64 a.ekind) := by rw [hD, h7]; rfl
  have c8 : C[8]? = some (.slice a.eA a.ebody.length a.ec) := by rw [hC]; rfl
  have d8 : D[8]? = some (.slice b.eA a.ebody.length b.ec) := by rw [hD, h8]; rfl
  have c9 : C[9]? = some (.int .i64 a.ord.unit) := by rw [hC]; rfl
  have d9 : D[9]? = some (.int .i64 a.ord.unit) := by rw [hD, h9]; rfl
  have c10 : C[10]? = some (.int .i64 a.ord.epoch) := by rw [hC]; rfl
  have d10 : D[10]? = some (.int .i64 a.ord.epoch) := by rw [hD, h9]; rfl
  have c11 : C[11]? = some (.int .i64 a.ord.kind) := by rw [hC]; rfl
  have d11 : D[11]? = some (.int .i64 a.ord.kind) := by rw [hD, h9]; rfl
  have c12 : C[12]? = some (.int .i64 a.ord.incident) := by rw [hC]; rfl
  have d12 : D[12]? = some (.int .i64 a.ord.incident) := by rw [hD, h9]; rfl
  have c13 : C[13]? = some (.int .i64 a.ord.node) := by rw [hC]; rfl
  have d13 : D[13]? = some (.int .i64 a.ord.node) := by rw [hD, h9]; rfl
  have c14 : C[14]? = some (.int .i64 a.sta.unit) := by rw [hC]; rfl
  have d14 : D[14]? = some (.int .i64 a.sta.unit) := by rw [hD, h10]; rfl
  have c15 : C[15]? = some (.int .i64 a.sta.seq) := by rw [hC]; rfl
  have d15 : D[15]? = some (.int .i64 a.sta.seq) := by rw [hD, h10]; rfl
  have c16 : C[16]? = some (.int .i64 a.sta.state) := by rw [hC]; rfl
  have d16 : D[16]? = some (.int .i64 a.sta.state) := by rw [hD, h10]; rfl
  have c17 : C[17]? = some (.int .i64 a.sta.node) := by rw [hC]; rfl
  have d17 : D[17]? = some (.int .i64 a.sta.node) := by rw [hD, h10]; rfl
  have c18 : C[18]? = some (.int .i64 a.sta.epoch) := by rw [hC]; rfl
  have d18 : D[18]? = some (.int .i64 a.sta.epoch) := by rw [hD, h10]; rfl
  have c19 : C[19]? = some (.int .i64 a.act.kind) := by rw [hC]; rfl
  have d19 : D[19]? = some (.int .i64 b.act.kind) := by rw [hD]; rfl
  have c20 : C[20]? = some (.int .i64 a.act.who) := by rw [hC]; rfl
  have d20 : D[20]? = some (.int .i64 b.act.who) := by rw [hD]; rfl
  have c21 : C[21]? = some (.int .i64 a.act.n) := by rw [hC]; rfl
  have d21 : D[21]? = some (.int .i64 b.act.n) := by rw [hD]; rfl
  have c22 : C[22]? = some (.int .i64 a.act.call) := by rw [hC]; rfl
  have d22 : D[22]? = some (.int .i64 b.act.call) := by rw [hD]; rfl
  have c23 : C[23]? = some (.int .i64 a.act.other) := by rw [hC]; rfl
  have d23 : D[23]? = some (.int .i64 b.act.other) := by rw [hD]; rfl
  have c24 : C[24]? = some (.int .i64 a.act.node) := by rw [hC]; rfl
  have d24 : D[24]? = some (.int .i64 b.act.node) := by rw [hD]; rfl
  have c25 : C[25]? = some (.slice a.act.sA a.act.srcs.length a.act.sc) := by rw [hC]; rfl
  have d25 : D[25]? = some (.slice b.act.sA b.act.srcs.length b.act.sc) := by rw [hD]; rfl
  have c26 : C[26]? = some (.slice a.act.gA a.act.groups.length a.act.gc) := by rw [hC]; rfl
  have d26 : D[26]? = some (.slice b.act.gA b.act.groups.length b.act.gc) := by rw [hD]; rfl
  rw [hva, hvb]
  have hb1 : Below w.heap.size w ((w.alloc (.cells C 35)).alloc (.cells D 35)) := ((Below.refl _ _).alloc (Nat.le_refl _) _).alloc (by simp) _
  have HB1 := Lib.hid hb1
  have S8 := Lib.hid (And.intro (bytes_str (Sl.below ha.body (hb1.mono hA)) a.ec) (bytes_str (Sl.below hb.body (hb1.mono hB)) b.ec))
  rw [← h8] at S8
  obtain ⟨W1, hW1⟩ : ∃ W1, W1 = ((w.alloc (.cells C 35)).alloc (.cells D 35)) := ⟨_, rfl⟩
  have HC19 := Lib.hid (sameAct_any a.act b.act W1 BA BB (ha.act.below (by rw [hW1]; exact hb1.mono hA)) (hb.act.below (by rw [hW1]; exact hb1.mono hB)) (by rw [hW1]; exact Nat.le_trans hA hb1.size) (by rw [hW1]; exact Nat.le_trans hB hb1.size) hl.ns hl.nn hl.ng)
  unfold actV at HC19
  rw [tb_true h11] at HC19
  have HBY := Lib.hid (And.intro ha.bytes (And.intro hb.bytes (And.intro hA hB)))
  have HPQ : Hid (W1.cell? ⟨w.heap.size, 27, none⟩ = some (.slice a.bA a.bytes.length a.bc) ∧ W1.cell? ⟨w.heap.size + 1, 27, none⟩ = some (.slice b.bA b.bytes.length b.bc) ∧ w.heap.size + 1 < W1.heap.size) := Lib.hid (by
    obtain ⟨h1, h2, _, h4⟩ := two_boxes w (evCs a) (evCs b) 35 35 W1 (by rw [hW1, hC, hD])
    exact ⟨h1 27 _ rfl, h2 27 _ rfl, h4⟩)
  have HW := Lib.hid hW1
  have HNE := Lib.hid hne
  have H12 := Lib.hid hne
  clear hC hD hva hvb hb1 ha hb hA hB hl h0 h1 h2 h3 h4 h5 h6 h7 h8 h9 h10 h11 hne hW1
  go_enter Tryz.func11, Tryz.ntmps11
  simp only [List.append]
  go_wp2_with (first | ((with_reducible refine wpList_at 67 rfl ?_); (refine wpList_convV (v := .slice a.eA a.ebody.length a.ec) rfl rfl rfl S8.out.1 ?_; simp only [Act.put, List.setIfInBounds_toArray, List.set_cons_zero, List.set_cons_succ])) | ((with_reducible refine wpList_at 71 rfl ?_); (refine wpList_convV (v := .slice b.eA a.ebody.length b.ec) rfl rfl rfl S8.out.2 ?_; simp only [Act.put, List.setIfInBounds_toArray, List.set_cons_zero, List.set_cons_succ])) | ((with_reducible refine wpList_at 79 rfl ?_); (refine wpList_eqO (o1 := a.ord) (o2 := a.ord) rfl rfl rfl rfl true (tb_true rfl) ?_; simp only [Act.put, List.setIfInBounds_toArray, List.set_cons_zero, List.set_cons_succ])) | ((with_reducible refine wpList_at 86 rfl ?_); (refine wpList_eqS (o1 := a.sta) (o2 := a.sta) rfl rfl rfl rfl true (tb_true rfl) ?_; simp only [Act.put, List.setIfInBounds_toArray, List.set_cons_zero, List.set_cons_succ])))
  rw [← HW.out]
  refine HC19.out.mono ?_
  rintro e V ⟨rfl, hbv⟩
  have HV := Lib.hid (show Below w.heap.size w V from HB1.out.trans ((HW.out ▸ hbv).mono HB1.out.size))
  have p27 := (hbv.cell (p := ⟨w.heap.size, 27, none⟩) (by have := HPQ.out.2.2; show w.heap.size < _; omega)).trans HPQ.out.1
  have q27 := (hbv.cell (p := ⟨w.heap.size + 1, 27, none⟩) HPQ.out.2.2).trans HPQ.out.2.1
  have s20a := bytes_str (Sl.below HBY.out.1 (HV.out.mono HBY.out.2.2.1)) a.bc
  have s20b := bytes_str (Sl.below HBY.out.2.1 (HV.out.mono HBY.out.2.2.2)) b.bc
  have e20 : ((bs a.bytes).toList == (bs b.bytes).toList) = false := str_ne (fun q => H12.out (bs_inj q))
  clear hbv c0 d0 c1 d1 c2 d2 c3 d3 c4 d4 c5 d5 c6 d6 c7 d7 c8 d8 c9 d9 c10 d10 c11 d11 c12 d12 c13 d13 c14 d14 c15 d15 c16 d16 c17 d17 c18 d18 c19 d19 c20 d20 c21 d21 c22 d22 c23 d23 c24 d24 c25 d25 c26 d26
  go_wp2_with fail
  go_ret
  exact ⟨ret_no (fun q => HNE.out (congrArg EvC.bytes q)), HV.out⟩
end
section
open Go.RowKit Go.Maps

set_option maxRecDepth 100000 in
set_option maxHeartbeats 16000000 in
theorem one_13 (a b : EvM) (w : World) (BA BB : Nat) (ha : EvAt w BA a) (hb : EvAt w BB b) (hA : BA ≤ w.heap.size) (hB : BB ≤ w.heap.size) (hl : ActL a.act) (h0 : a.kind = b.kind) (h1 : a.tick = b.tick) (h2 : a.who = b.who) (h3 : a.call = b.call) (h4 : a.epoch = b.epoch) (h5 : a.n = b.n) (h6 : a.eterm = b.eterm) (h7 : a.ekind = b.ekind) (h8 : a.ebody = b.ebody) (h9 : a.ord = b.ord) (h10 : a.sta = b.sta) (h11 : a.act.con = b.act.con) (h12 : a.bytes = b.bytes) : Calls Tryz.prog 11 #[evV a, evV b] w (RetOne a b w) := by
  obtain ⟨C, hC⟩ : ∃ C, C = (evCs a).toArray := ⟨_, rfl⟩
  obtain ⟨D, hD⟩ : ∃ D, D = (evCs b).toArray := ⟨_, rfl⟩
  have hva : evV a = .agg C := by rw [hC]; rfl
  have hvb : evV b = .agg D := by rw [hD]; rfl
  have c0 : C[0]? = some (.int .i64 a.kind) := by rw [hC]; rfl
  have d0 : D[0]? = some (.int .i64 a.kind) := by rw [hD, h0]; rfl
  have c1 : C[1]? = some (.int .i64 a.tick) := by rw [hC]; rfl
  have d1 : D[1]? = some (.int .i64 a.tick) := by rw [hD, h1]; rfl
  have c2 : C[2]? = some (.int .i64 a.who) := by rw [hC]; rfl
  have d2 : D[2]? = some (.int .i64 a.who) := by rw [hD, h2]; rfl
  have c3 : C[3]? = some (.int .i64 a.call) := by rw [hC]; rfl
  have d3 : D[3]? = some (.int .i64 a.call) := by rw [hD, h3]; rfl
  have c4 : C[4]? = some (.int .i64 a.epoch) := by rw [hC]; rfl
  have d4 : D[4]? = some (.int .i64 a.epoch) := by rw [hD, h4]; rfl
  have c5 : C[5]? = some (.int .i64 a.n) := by rw [hC]; rfl
  have d5 : D[5]? = some (.int .i64 a.n) := by rw [hD, h5]; rfl
  have c6 : C[6]? = some (.int .i64 a.eterm) := by rw [hC]; rfl
  have d6 : D[6]? = some (.int .i64 a.eterm) := by rw [hD, h6]; rfl
  have c7 : C[7]? = some (.int .i64 a.ekind) := by rw [hC]; rfl
  have d7 : D[7]? = some (.int .i64 a.ekind) := by rw [hD, h7]; rfl
  have c8 : C[8]? = some (.slice a.eA a.ebody.length a.ec) := by rw [hC]; rfl
  have d8 : D[8]? = some (.slice b.eA a.ebody.length b.ec) := by rw [hD, h8]; rfl
  have c9 : C[9]? = some (.int .i64 a.ord.unit) := by rw [hC]; rfl
  have d9 : D[9]? = some (.int .i64 a.ord.unit) := by rw [hD, h9]; rfl
  have c10 : C[10]? = some (.int .i64 a.ord.epoch) := by rw [hC]; rfl
  have d10 : D[10]? = some (.int .i64 a.ord.epoch) := by rw [hD, h9]; rfl
  have c11 : C[11]? = some (.int .i64 a.ord.kind) := by rw [hC]; rfl
  have d11 : D[11]? = some (.int .i64 a.ord.kind) := by rw [hD, h9]; rfl
  have c12 : C[12]? = some (.int .i64 a.ord.incident) := by rw [hC]; rfl
  have d12 : D[12]? = some (.int .i64 a.ord.incident) := by rw [hD, h9]; rfl
  have c13 : C[13]? = some (.int .i64 a.ord.node) := by rw [hC]; rfl
  have d13 : D[13]? = some (.int .i64 a.ord.node) := by rw [hD, h9]; rfl
  have c14 : C[14]? = some (.int .i64 a.sta.unit) := by rw [hC]; rfl
  have d14 : D[14]? = some (.int .i64 a.sta.unit) := by rw [hD, h10]; rfl
  have c15 : C[15]? = some (.int .i64 a.sta.seq) := by rw [hC]; rfl
  have d15 : D[15]? = some (.int .i64 a.sta.seq) := by rw [hD, h10]; rfl
  have c16 : C[16]? = some (.int .i64 a.sta.state) := by rw [hC]; rfl
  have d16 : D[16]? = some (.int .i64 a.sta.state) := by rw [hD, h10]; rfl
  have c17 : C[17]? = some (.int .i64 a.sta.node) := by rw [hC]; rfl
  have d17 : D[17]? = some (.int .i64 a.sta.node) := by rw [hD, h10]; rfl
  have c18 : C[18]? = some (.int .i64 a.sta.epoch) := by rw [hC]; rfl
  have d18 : D[18]? = some (.int .i64 a.sta.epoch) := by rw [hD, h10]; rfl
  have c19 : C[19]? = some (.int .i64 a.act.kind) := by rw [hC]; rfl
  have d19 : D[19]? = some (.int .i64 b.act.kind) := by rw [hD]; rfl
  have c20 : C[20]? = some (.int .i64 a.act.who) := by rw [hC]; rfl
  have d20 : D[20]? = some (.int .i64 b.act.who) := by rw [hD]; rfl
  have c21 : C[21]? = some (.int .i64 a.act.n) := by rw [hC]; rfl
  have d21 : D[21]? = some (.int .i64 b.act.n) := by rw [hD]; rfl
  have c22 : C[22]? = some (.int .i64 a.act.call) := by rw [hC]; rfl
  have d22 : D[22]? = some (.int .i64 b.act.call) := by rw [hD]; rfl
  have c23 : C[23]? = some (.int .i64 a.act.other) := by rw [hC]; rfl
  have d23 : D[23]? = some (.int .i64 b.act.other) := by rw [hD]; rfl
  have c24 : C[24]? = some (.int .i64 a.act.node) := by rw [hC]; rfl
  have d24 : D[24]? = some (.int .i64 b.act.node) := by rw [hD]; rfl
  have c25 : C[25]? = some (.slice a.act.sA a.act.srcs.length a.act.sc) := by rw [hC]; rfl
  have d25 : D[25]? = some (.slice b.act.sA b.act.srcs.length b.act.sc) := by rw [hD]; rfl
  have c26 : C[26]? = some (.slice a.act.gA a.act.groups.length a.act.gc) := by rw [hC]; rfl
  have d26 : D[26]? = some (.slice b.act.gA b.act.groups.length b.act.gc) := by rw [hD]; rfl
  rw [hva, hvb]
  have hb1 : Below w.heap.size w ((w.alloc (.cells C 35)).alloc (.cells D 35)) := ((Below.refl _ _).alloc (Nat.le_refl _) _).alloc (by simp) _
  have HB1 := Lib.hid hb1
  have S8 := Lib.hid (And.intro (bytes_str (Sl.below ha.body (hb1.mono hA)) a.ec) (bytes_str (Sl.below hb.body (hb1.mono hB)) b.ec))
  rw [← h8] at S8
  obtain ⟨W1, hW1⟩ : ∃ W1, W1 = ((w.alloc (.cells C 35)).alloc (.cells D 35)) := ⟨_, rfl⟩
  have HC19 := Lib.hid (sameAct_any a.act b.act W1 BA BB (ha.act.below (by rw [hW1]; exact hb1.mono hA)) (hb.act.below (by rw [hW1]; exact hb1.mono hB)) (by rw [hW1]; exact Nat.le_trans hA hb1.size) (by rw [hW1]; exact Nat.le_trans hB hb1.size) hl.ns hl.nn hl.ng)
  unfold actV at HC19
  rw [tb_true h11] at HC19
  have HBY := Lib.hid (And.intro ha.bytes (And.intro hb.bytes (And.intro hA hB)))
  have HPQ : Hid (W1.cell? ⟨w.heap.size, 27, none⟩ = some (.slice a.bA a.bytes.length a.bc) ∧ W1.cell? ⟨w.heap.size + 1, 27, none⟩ = some (.slice b.bA b.bytes.length b.bc) ∧ w.heap.size + 1 < W1.heap.size) := Lib.hid (by
    obtain ⟨h1, h2, _, h4⟩ := two_boxes w (evCs a) (evCs b) 35 35 W1 (by rw [hW1, hC, hD])
    exact ⟨h1 27 _ rfl, h2 27 _ rfl, h4⟩)
  have HW := Lib.hid hW1
  have HEQ : Hid (a.con = b.con) := Lib.hid (by
    obtain ⟨o1, o2, o3, o4, o5⟩ := (ord_iff _ _).1 h9
    obtain ⟨s1, s2, s3, s4, s5⟩ := (sta_iff _ _).1 h10
    exact (evc_iff a b).2 ⟨h0, h1, h2, h3, h4, h5, h6, h7, h8, o1, o2, o3, o4, o5, s1, s2, s3, s4, s5, h11, h12⟩)
  have H12 := Lib.hid h12
  clear hC hD hva hvb hb1 ha hb hA hB hl h0 h1 h2 h3 h4 h5 h6 h7 h8 h9 h10 h11 h12  hW1
  go_enter Tryz.func11, Tryz.ntmps11
  simp only [List.append]
  go_wp2_with (first | ((with_reducible refine wpList_at 67 rfl ?_); (refine wpList_convV (v := .slice a.eA a.ebody.length a.ec) rfl rfl rfl S8.out.1 ?_; simp only [Act.put, List.setIfInBounds_toArray, List.set_cons_zero, List.set_cons_succ])) | ((with_reducible refine wpList_at 71 rfl ?_); (refine wpList_convV (v := .slice b.eA a.ebody.length b.ec) rfl rfl rfl S8.out.2 ?_; simp only [Act.put, List.setIfInBounds_toArray, List.set_cons_zero, List.set_cons_succ])) | ((with_reducible refine wpList_at 79 rfl ?_); (refine wpList_eqO (o1 := a.ord) (o2 := a.ord) rfl rfl rfl rfl true (tb_true rfl) ?_; simp only [Act.put, List.setIfInBounds_toArray, List.set_cons_zero, List.set_cons_succ])) | ((with_reducible refine wpList_at 86 rfl ?_); (refine wpList_eqS (o1 := a.sta) (o2 := a.sta) rfl rfl rfl rfl true (tb_true rfl) ?_; simp only [Act.put, List.setIfInBounds_toArray, List.set_cons_zero, List.set_cons_succ])))
  rw [← HW.out]
  refine HC19.out.mono ?_
  rintro e V ⟨rfl, hbv⟩
  have HV := Lib.hid (show Below w.heap.size w V from HB1.out.trans ((HW.out ▸ hbv).mono HB1.out.size))
  have p27 := (hbv.cell (p := ⟨w.heap.size, 27, none⟩) (by have := HPQ.out.2.2; show w.heap.size < _; omega)).trans HPQ.out.1
  have q27 := (hbv.cell (p := ⟨w.heap.size + 1, 27, none⟩) HPQ.out.2.2).trans HPQ.out.2.1
  have s20a := bytes_str (Sl.below HBY.out.1 (HV.out.mono HBY.out.2.2.1)) a.bc
  have s20b := bytes_str (Sl.below HBY.out.2.1 (HV.out.mono HBY.out.2.2.2)) b.bc
  have e20 : ((bs a.bytes).toList == (bs b.bytes).toList) = true := str_eq (congrArg bs H12.out)
  clear hbv c0 d0 c1 d1 c2 d2 c3 d3 c4 d4 c5 d5 c6 d6 c7 d7 c8 d8 c9 d9 c10 d10 c11 d11 c12 d12 c13 d13 c14 d14 c15 d15 c16 d16 c17 d17 c18 d18 c19 d19 c20 d20 c21 d21 c22 d22 c23 d23 c24 d24 c25 d25 c26 d26
  go_wp2_with fail
  go_ret
  exact ⟨ret_yes HEQ.out, HV.out⟩
end
section
open Go.RowKit Go.Maps

theorem one_any (a b : EvM) (w : World) (BA BB : Nat) (ha : EvAt w BA a) (hb : EvAt w BB b) (hA : BA ≤ w.heap.size) (hB : BB ≤ w.heap.size) (hl : ActL a.act) : Calls Tryz.prog 11 #[evV a, evV b] w (RetOne a b w) := by
  by_cases h0 : a.kind = b.kind
  rotate_left
  · exact one_0 a b w h0
  by_cases h1 : a.tick = b.tick
  rotate_left
  · exact one_1 a b w h0 h1
  by_cases h2 : a.who = b.who
  rotate_left
  · exact one_2 a b w h0 h1 h2
  by_cases h3 : a.call = b.call
  rotate_left
  · exact one_3 a b w h0 h1 h2 h3
  by_cases h4 : a.epoch = b.epoch
  rotate_left
  · exact one_4 a b w h0 h1 h2 h3 h4
  by_cases h5 : a.n = b.n
  rotate_left
  · exact one_5 a b w h0 h1 h2 h3 h4 h5
  by_cases h6 : a.eterm = b.eterm
  rotate_left
  · exact one_6 a b w h0 h1 h2 h3 h4 h5 h6
  by_cases h7 : a.ekind = b.ekind
  rotate_left
  · exact one_7 a b w h0 h1 h2 h3 h4 h5 h6 h7
  by_cases h8 : a.ebody = b.ebody
  rotate_left
  · exact one_8 a b w BA BB ha hb hA hB h0 h1 h2 h3 h4 h5 h6 h7 h8
  by_cases h9 : a.ord = b.ord
  rotate_left
  · exact one_9 a b w BA BB ha hb hA hB h0 h1 h2 h3 h4 h5 h6 h7 h8 h9
  by_cases h10 : a.sta = b.sta
  rotate_left
  · exact one_10 a b w BA BB ha hb hA hB h0 h1 h2 h3 h4 h5 h6 h7 h8 h9 h10
  by_cases h11 : a.act.con = b.act.con
  rotate_left
  · exact one_11 a b w BA BB ha hb hA hB hl h0 h1 h2 h3 h4 h5 h6 h7 h8 h9 h10 h11
  by_cases h12 : a.bytes = b.bytes
  rotate_left
  · exact one_12 a b w BA BB ha hb hA hB hl h0 h1 h2 h3 h4 h5 h6 h7 h8 h9 h10 h11 h12
  exact one_13 a b w BA BB ha hb hA hB hl h0 h1 h2 h3 h4 h5 h6 h7 h8 h9 h10 h11 h12
end
end Go.Proofs.YtakdkiggaalimaaGreatDoor
