/-
  config.Format's closure add: what it does to the lines (printed by genadd6.py).
-/
import Derived.Test.YtloacoalmfaceaaGreatDoorTxt6
import Derived.Deep.RegionHeld3
namespace Go.Proofs.YtloacoalmfaceaaGreatDoor
open Go.RowKit Go.Maps Go.Shelf

theorem lens_small {k : Nat} : ∀ (acc : List (List UInt8)), (∀ x ∈ acc, x.length ≤ k) → Lib.lens acc ≤ k * acc.length
  | [], _ => Nat.zero_le _
  | x :: acc, h => by
    have h1 := lens_small acc (fun y hy => h y (by simp [hy]))
    have h2 := h x (by simp)
    simp only [Lib.lens, List.map_cons, List.sum_cons, List.length_cons] at h1 ⊢
    rw [Nat.mul_succ]
    omega
theorem join_le {k : Nat} {acc : List (List UInt8)} (sep : List UInt8) (hs : sep.length ≤ 1) (h : ∀ x ∈ acc, x.length ≤ k) : (Lib.join acc sep).length ≤ (k + 1) * acc.length := by
  cases acc with
  | nil => exact Nat.zero_le _
  | cons x r =>
    rw [Lib.join_length]
    have := lens_small _ h
    simp only [List.length_cons] at this ⊢
    have h2 : sep.length * r.length ≤ 1 * r.length := Nat.mul_le_mul_right _ hs
    rw [Nat.add_mul]
    have e1 : r.length * sep.length = sep.length * r.length := Nat.mul_comm _ _
    omega
/-- how add leaves a world: one more line. -/
def RetAdd (W0 W : World) (v : Value) (L : List (List UInt8)) (ws : List (List UInt8)) (w' : World) : Prop :=
  ∃ v', FSt W0 v' (L ++ [lineT ws]) w' ∧ Only (fmtB W0 v) W w' ∧ ∀ k, v'.ownBlock = some k → v.ownBlock = some k ∨ W.heap.size ≤ k
set_option maxRecDepth 100000 in
set_option maxHeartbeats 4000000 in
theorem add_any (W0 W : World) (v : Value) (L : List (List UInt8)) (h : FSt W0 v L W) (ws : List (List UInt8)) (A : Option Addr) (n c base : Nat) (hw : OwnV strV W base 9 (.slice A n c) ws) (hl : ws.length ≤ 1000) (hx : ∀ x ∈ ws, x.length ≤ 1000) (hL : L.length ≤ 100000000) :
    Calls Tryz.prog 32 #[.slice A n c, .pointer (some ⟨W0.heap.size, 0, none⟩)] W fun e w' => e = .returned (.tuple #[]) ∧ RetAdd W0 W v L ws w' := by
  have HJ := Lib.hid (fun (X : World) (hb : Below W.heap.size W X) => joinV_any X (.slice A n c) base ws (hw.kept_new hb) [32] (by omega) (by have := join_le [32] (by simp) hx; have e : (1000 + 1) * ws.length ≤ 1001 * 1000 := Nat.mul_le_mul_left _ hl; omega))
  obtain ⟨J, hJ⟩ : ∃ J, J = Lib.join ws [32] := ⟨_, rfl⟩
  have HJJ := Lib.hid hJ
  obtain ⟨T, hT⟩ : ∃ T, T = lineT ws := ⟨_, rfl⟩
  have HT := Lib.hid hT
  have htt : bs J ++ ⟨#[10]⟩ = bs T := by
    rw [hJ, hT]
    show bs (Lib.join ws [32]) ++ bs [10] = bs (Lib.join ws [32] ++ [10])
    exact bs_append _ _
  have HTT := Lib.hid htt
  have hjl : (Lib.join ws [32]).length ≤ 1001000 := by have := join_le [32] (by simp) hx; have e : (1000 + 1) * ws.length ≤ 1001 * 1000 := Nat.mul_le_mul_left _ hl; omega
  have hbj : ¬ 9223372036854775807 < (bs J).size + 1 := by rw [hJ, bs_size]; omega
  have hTriv : True := trivial
  rw [← hJ] at HJ
  have e32 : (⟨#[32]⟩ : ByteArray) = bs [32] := rfl
  have HE := Lib.hid e32
  clear hw hx hJ hT htt e32 hjl
  go_enter Tryz.func32, Tryz.ntmps32
  go_wp2_with fail
  have h0 : FSt W0 v L W.drew := h.next (Below.refl _ _).drew
  have hB0 : Below W.heap.size W W.drew := (Below.refl _ _).drew
  have HZ := Lib.hid (show W.heap.size ≤ W.drew.heap.size from Nat.le_refl _)
  refine wp_region_held_drew (S := fun _ => True) (by kernel_rfl) trivial (fun hHeld => ?_)
  obtain ⟨U0, hU0⟩ : ∃ U, U = W.drew := ⟨_, rfl⟩
  rw [← hU0] at h0 hB0 HZ ⊢
  clear hU0 hHeld
  refine wpAnyH_take (i := 1) (v := .slice A n c) rfl (by kernel_rfl) (by kernel_rfl) (by kernel_rfl) (fun _ _ _ h => h) (Or.inl ⟨by rfl, ?_⟩) (by assumption) ?_
  · intro w hSw
    go_simp
  show wpAnyH _ _ _ _ _ _ _ (Act.put _ (some 4) _) _
  simp only [Act.put, List.setIfInBounds_toArray, List.set_cons_zero, List.set_cons_succ]
  refine wpAnyH_ready (rs := [0, 2]) (by kernel_rfl) (by simp) ?_
  refine AllReadyH.cons rfl (fun K hK => ?_) (AllReadyH.cons rfl (fun K hK => ?_) AllReadyH.nil)
  · have cr := (one_cell h0.cl).1
    go_simp
    refine hK.out _ _ trivial (fun _ => ?_)
    clear hK K cr
    refine wpAnyH_ready (rs := [2]) (by kernel_rfl) (by simp) ?_
    refine AllReadyH.cons rfl (fun K hK => ?_) AllReadyH.nil
    rw [HE.out]
    go_simp
    refine (HJ.out _ hB0).mono ?_
    rintro e w2 ⟨rfl, hb2⟩
    have h2 := h0.next hb2
    go_simp
    refine hK.out _ _ trivial (fun _ => ?_)
    clear hK K
    refine wpAnyH_ready (rs := [3]) (by kernel_rfl) (by simp) ?_
    refine AllReadyH.cons rfl (fun K hK => ?_) AllReadyH.nil
    go_simp
    rw [HTT.out]
    refine hK.out _ _ trivial (fun _ => ?_)
    clear hK K
    refine wpAnyH_ready (rs := [4]) (by kernel_rfl) (by simp) ?_
    refine AllReadyH.cons rfl (fun K hK => ?_) AllReadyH.nil
    have h3 := h2.next ((Below.refl _ _).alloc (Nat.le_refl _) (.cells #[strV T] 9))
    go_simp
    refine hK.out _ _ trivial (fun _ => ?_)
    clear hK K
    refine wpAnyH_ready (rs := [5]) (by kernel_rfl) (by simp) ?_
    refine AllReadyH.cons rfl (fun K hK => ?_) AllReadyH.nil
    refine step_append_keep (cs := strC) (s := 1) _ rfl (.tmp 3) (.tmp 7) 59 (by rfl) (W0.heap.size + 1) 9 Tryz.underlying59 str_info rfl (by decide) (by decide) strC_len _ L w2 T (by intro u hu; rw [List.mem_singleton.1 hu]; rfl) _ rfl rfl (by rfl) h2.own w2.heap.size (by rfl) rfl (by omega) h2.lt ?_
    intro g cap w' hown' hg' hat _
    obtain ⟨c1, c2, h4, ho4⟩ := h2.push hown' hg'
    refine hK.out _ _ trivial (fun _ => ?_)
    clear hK K
    refine wpAnyH_ready (rs := [6]) (by kernel_rfl) (by simp) ?_
    refine AllReadyH.cons rfl (fun K hK => ?_) AllReadyH.nil
    go_simp
    refine hK.out _ _ trivial (fun _ => ?_)
    clear hK K c1 c2
    refine wpAnyH_done (by kernel_rfl) ?_ _
    have ho5 : Only (fmtB W0 v) W (w'.setCell ⟨W0.heap.size, 0, none⟩ (.slice (some ⟨g, 0, none⟩) (L.length + 1) cap)) := (Only.of_below (hB0.trans (hb2.mono hB0.size))).trans ho4 (fun _ _ s => s)
    have HF := Lib.hid (And.intro h4 (And.intro ho5 (show ∀ k, (Value.slice (some ⟨g, 0, none⟩) (L.length + 1) cap).ownBlock = some k → v.ownBlock = some k ∨ W.heap.size ≤ k from fun k hk => by
      have e : g = k := by simpa [Value.ownBlock] using hk
      rw [← e]
      exact hat.imp id (fun q => Nat.le_trans (Nat.le_trans HZ.out hb2.size) q))))
    obtain ⟨U4, hU4⟩ : ∃ U, U = w'.setCell ⟨W0.heap.size, 0, none⟩ (.slice (some ⟨g, 0, none⟩) (L.length + 1) cap) := ⟨_, rfl⟩
    rw [← hU4] at HF ⊢
    clear hU4 hown' hg' h3 h2 hb2 h0 hB0 h4 ho4 ho5 hat
    go_end0
    exact ⟨rfl, _, by rw [← HT.out]; exact HF.out.1, HF.out.2.1, HF.out.2.2⟩
  · rw [HE.out]
    go_simp
    refine (HJ.out _ hB0).mono ?_
    rintro e w2 ⟨rfl, hb2⟩
    have h2 := h0.next hb2
    go_simp
    refine hK.out _ _ trivial (fun _ => ?_)
    clear hK K
    refine wpAnyH_ready (rs := [0, 3]) (by kernel_rfl) (by simp) ?_
    refine AllReadyH.cons rfl (fun K hK => ?_) (AllReadyH.cons rfl (fun K hK => ?_) AllReadyH.nil)
    · have cr := (one_cell h2.cl).1
      go_simp
      refine hK.out _ _ trivial (fun _ => ?_)
      clear hK K cr
      refine wpAnyH_ready (rs := [3]) (by kernel_rfl) (by simp) ?_
      refine AllReadyH.cons rfl (fun K hK => ?_) AllReadyH.nil
      go_simp
      rw [HTT.out]
      refine hK.out _ _ trivial (fun _ => ?_)
      clear hK K
      refine wpAnyH_ready (rs := [4]) (by kernel_rfl) (by simp) ?_
      refine AllReadyH.cons rfl (fun K hK => ?_) AllReadyH.nil
      have h3 := h2.next ((Below.refl _ _).alloc (Nat.le_refl _) (.cells #[strV T] 9))
      go_simp
      refine hK.out _ _ trivial (fun _ => ?_)
      clear hK K
      refine wpAnyH_ready (rs := [5]) (by kernel_rfl) (by simp) ?_
      refine AllReadyH.cons rfl (fun K hK => ?_) AllReadyH.nil
      refine step_append_keep (cs := strC) (s := 1) _ rfl (.tmp 3) (.tmp 7) 59 (by rfl) (W0.heap.size + 1) 9 Tryz.underlying59 str_info rfl (by decide) (by decide) strC_len _ L w2 T (by intro u hu; rw [List.mem_singleton.1 hu]; rfl) _ rfl rfl (by rfl) h2.own w2.heap.size (by rfl) rfl (by omega) h2.lt ?_
      intro g cap w' hown' hg' hat _
      obtain ⟨c1, c2, h4, ho4⟩ := h2.push hown' hg'
      refine hK.out _ _ trivial (fun _ => ?_)
      clear hK K
      refine wpAnyH_ready (rs := [6]) (by kernel_rfl) (by simp) ?_
      refine AllReadyH.cons rfl (fun K hK => ?_) AllReadyH.nil
      go_simp
      refine hK.out _ _ trivial (fun _ => ?_)
      clear hK K c1 c2
      refine wpAnyH_done (by kernel_rfl) ?_ _
      have ho5 : Only (fmtB W0 v) W (w'.setCell ⟨W0.heap.size, 0, none⟩ (.slice (some ⟨g, 0, none⟩) (L.length + 1) cap)) := (Only.of_below (hB0.trans (hb2.mono hB0.size))).trans ho4 (fun _ _ s => s)
      have HF := Lib.hid (And.intro h4 (And.intro ho5 (show ∀ k, (Value.slice (some ⟨g, 0, none⟩) (L.length + 1) cap).ownBlock = some k → v.ownBlock = some k ∨ W.heap.size ≤ k from fun k hk => by
        have e : g = k := by simpa [Value.ownBlock] using hk
        rw [← e]
        exact hat.imp id (fun q => Nat.le_trans (Nat.le_trans HZ.out hb2.size) q))))
      obtain ⟨U4, hU4⟩ : ∃ U, U = w'.setCell ⟨W0.heap.size, 0, none⟩ (.slice (some ⟨g, 0, none⟩) (L.length + 1) cap) := ⟨_, rfl⟩
      rw [← hU4] at HF ⊢
      clear hU4 hown' hg' h3 h2 hb2 h0 hB0 h4 ho4 ho5 hat
      go_end0
      exact ⟨rfl, _, by rw [← HT.out]; exact HF.out.1, HF.out.2.1, HF.out.2.2⟩
    · go_simp
      rw [HTT.out]
      refine hK.out _ _ trivial (fun _ => ?_)
      clear hK K
      refine wpAnyH_ready (rs := [0, 4]) (by kernel_rfl) (by simp) ?_
      refine AllReadyH.cons rfl (fun K hK => ?_) (AllReadyH.cons rfl (fun K hK => ?_) AllReadyH.nil)
      · have cr := (one_cell h2.cl).1
        go_simp
        refine hK.out _ _ trivial (fun _ => ?_)
        clear hK K cr
        refine wpAnyH_ready (rs := [4]) (by kernel_rfl) (by simp) ?_
        refine AllReadyH.cons rfl (fun K hK => ?_) AllReadyH.nil
        have h3 := h2.next ((Below.refl _ _).alloc (Nat.le_refl _) (.cells #[strV T] 9))
        go_simp
        refine hK.out _ _ trivial (fun _ => ?_)
        clear hK K
        refine wpAnyH_ready (rs := [5]) (by kernel_rfl) (by simp) ?_
        refine AllReadyH.cons rfl (fun K hK => ?_) AllReadyH.nil
        refine step_append_keep (cs := strC) (s := 1) _ rfl (.tmp 3) (.tmp 7) 59 (by rfl) (W0.heap.size + 1) 9 Tryz.underlying59 str_info rfl (by decide) (by decide) strC_len _ L w2 T (by intro u hu; rw [List.mem_singleton.1 hu]; rfl) _ rfl rfl (by rfl) h2.own w2.heap.size (by rfl) rfl (by omega) h2.lt ?_
        intro g cap w' hown' hg' hat _
        obtain ⟨c1, c2, h4, ho4⟩ := h2.push hown' hg'
        refine hK.out _ _ trivial (fun _ => ?_)
        clear hK K
        refine wpAnyH_ready (rs := [6]) (by kernel_rfl) (by simp) ?_
        refine AllReadyH.cons rfl (fun K hK => ?_) AllReadyH.nil
        go_simp
        refine hK.out _ _ trivial (fun _ => ?_)
        clear hK K c1 c2
        refine wpAnyH_done (by kernel_rfl) ?_ _
        have ho5 : Only (fmtB W0 v) W (w'.setCell ⟨W0.heap.size, 0, none⟩ (.slice (some ⟨g, 0, none⟩) (L.length + 1) cap)) := (Only.of_below (hB0.trans (hb2.mono hB0.size))).trans ho4 (fun _ _ s => s)
        have HF := Lib.hid (And.intro h4 (And.intro ho5 (show ∀ k, (Value.slice (some ⟨g, 0, none⟩) (L.length + 1) cap).ownBlock = some k → v.ownBlock = some k ∨ W.heap.size ≤ k from fun k hk => by
          have e : g = k := by simpa [Value.ownBlock] using hk
          rw [← e]
          exact hat.imp id (fun q => Nat.le_trans (Nat.le_trans HZ.out hb2.size) q))))
        obtain ⟨U4, hU4⟩ : ∃ U, U = w'.setCell ⟨W0.heap.size, 0, none⟩ (.slice (some ⟨g, 0, none⟩) (L.length + 1) cap) := ⟨_, rfl⟩
        rw [← hU4] at HF ⊢
        clear hU4 hown' hg' h3 h2 hb2 h0 hB0 h4 ho4 ho5 hat
        go_end0
        exact ⟨rfl, _, by rw [← HT.out]; exact HF.out.1, HF.out.2.1, HF.out.2.2⟩
      · have h3 := h2.next ((Below.refl _ _).alloc (Nat.le_refl _) (.cells #[strV T] 9))
        go_simp
        refine hK.out _ _ trivial (fun _ => ?_)
        clear hK K
        refine wpAnyH_ready (rs := [0]) (by kernel_rfl) (by simp) ?_
        refine AllReadyH.cons rfl (fun K hK => ?_) AllReadyH.nil
        have cr := (one_cell h3.cl).1
        go_simp
        refine hK.out _ _ trivial (fun _ => ?_)
        clear hK K cr
        refine wpAnyH_ready (rs := [5]) (by kernel_rfl) (by simp) ?_
        refine AllReadyH.cons rfl (fun K hK => ?_) AllReadyH.nil
        refine step_append_keep (cs := strC) (s := 1) _ rfl (.tmp 3) (.tmp 7) 59 (by rfl) (W0.heap.size + 1) 9 Tryz.underlying59 str_info rfl (by decide) (by decide) strC_len _ L w2 T (by intro u hu; rw [List.mem_singleton.1 hu]; rfl) _ rfl rfl (by rfl) h2.own w2.heap.size (by rfl) rfl (by omega) h2.lt ?_
        intro g cap w' hown' hg' hat _
        obtain ⟨c1, c2, h4, ho4⟩ := h2.push hown' hg'
        refine hK.out _ _ trivial (fun _ => ?_)
        clear hK K
        refine wpAnyH_ready (rs := [6]) (by kernel_rfl) (by simp) ?_
        refine AllReadyH.cons rfl (fun K hK => ?_) AllReadyH.nil
        go_simp
        refine hK.out _ _ trivial (fun _ => ?_)
        clear hK K c1 c2
        refine wpAnyH_done (by kernel_rfl) ?_ _
        have ho5 : Only (fmtB W0 v) W (w'.setCell ⟨W0.heap.size, 0, none⟩ (.slice (some ⟨g, 0, none⟩) (L.length + 1) cap)) := (Only.of_below (hB0.trans (hb2.mono hB0.size))).trans ho4 (fun _ _ s => s)
        have HF := Lib.hid (And.intro h4 (And.intro ho5 (show ∀ k, (Value.slice (some ⟨g, 0, none⟩) (L.length + 1) cap).ownBlock = some k → v.ownBlock = some k ∨ W.heap.size ≤ k from fun k hk => by
          have e : g = k := by simpa [Value.ownBlock] using hk
          rw [← e]
          exact hat.imp id (fun q => Nat.le_trans (Nat.le_trans HZ.out hb2.size) q))))
        obtain ⟨U4, hU4⟩ : ∃ U, U = w'.setCell ⟨W0.heap.size, 0, none⟩ (.slice (some ⟨g, 0, none⟩) (L.length + 1) cap) := ⟨_, rfl⟩
        rw [← hU4] at HF ⊢
        clear hU4 hown' hg' h3 h2 hb2 h0 hB0 h4 ho4 ho5 hat
        go_end0
        exact ⟨rfl, _, by rw [← HT.out]; exact HF.out.1, HF.out.2.1, HF.out.2.2⟩
end Go.Proofs.YtloacoalmfaceaaGreatDoor
