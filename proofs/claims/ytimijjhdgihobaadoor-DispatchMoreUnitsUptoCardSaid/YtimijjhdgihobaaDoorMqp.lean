/-
  shortestpath.search: the walk.
-/
import Derived.Test.YtimijjhdgihobaaDoorMqo
namespace Go.Proofs.YtimijjhdgihobaaDoor
section
open Go.RowKit Go.Shelf Go.Maps
attribute [local go_sem] Oper.semAt_some

/-- the first k made infinite. -/
def infK (n k : Nat) : List Int := List.replicate k 4611686018427387904 ++ List.replicate (n - k) 0
theorem infK_len {n k : Nat} (h : k ≤ n) : (infK n k).length = n := by simp [infK]; omega
theorem infK_succ {n k : Nat} (h : k < n) : (infK n k).set k 4611686018427387904 = infK n (k + 1) := by
  unfold infK
  rw [List.set_append_right _ _ (by simp)]
  obtain ⟨m, hm⟩ : ∃ m, n - k = m + 1 := ⟨n - k - 1, by omega⟩
  have hm' : n - (k + 1) = m := by omega
  rw [hm, hm', List.length_replicate, Nat.sub_self, List.replicate_succ, List.set_cons_zero, List.replicate_succ' (n := k)]
  simp

/-- the world behind the first five blocks. -/
def five (w : World) (p : Nat) (A : Option Addr) (m c n : Nat) : World := ((((w.alloc (.cells #[.pointer (some ⟨p, 0, none⟩)] 31)).alloc (.cells #[.slice A m c] 25)).alloc (.cells #[.bool true] 4)).alloc (.cells (madeCells #[.int .i64 0] n) 2)).alloc (.cells #[.slice (some ⟨w.heap.size + 1 + 1 + 1, 0, none⟩) n n] 25)
theorem five_at (w : World) (p : Nat) (A : Option Addr) (m c n : Nat) (hn : n ≤ 256) : ∃ bG bW bF bD bS, (bG = w.heap.size ∧ bW = w.heap.size + 1 ∧ bF = w.heap.size + 1 + 1 ∧ bD = w.heap.size + 1 + 1 + 1 ∧ bS = w.heap.size + 1 + 1 + 1 + 1) ∧
    Below w.heap.size w (five w p A m c n) ∧ (w.heap.size ≤ bG ∧ bG < bW ∧ bW < bF ∧ bF < bD ∧ bD < bS ∧ bS < (five w p A m c n).heap.size) ∧
    (five w p A m c n).cell? ⟨bG, 0, none⟩ = some (.pointer (some ⟨p, 0, none⟩)) ∧ (five w p A m c n).cell? ⟨bW, 0, none⟩ = some (.slice A m c) ∧ (five w p A m c n).cell? ⟨bF, 0, none⟩ = some (.bool true) ∧
    (five w p A m c n).cell? ⟨bS, 0, none⟩ = some (.slice (some ⟨bD, 0, none⟩) n n) ∧ OwnI (five w p A m c n) w.heap.size 2 (.slice (some ⟨bD, 0, none⟩) n n) (infK n 0) := by
  refine ⟨_, _, _, _, _, ⟨rfl, rfl, rfl, rfl, rfl⟩, ?_, ⟨by omega, by omega, by omega, by omega, by omega, by simp [five]⟩, ?_, ?_, ?_, ?_, ?_⟩
  · unfold five
    exact (((((Below.refl w.heap.size w).alloc (Nat.le_refl _) _).alloc (by simp) _).alloc (by simp; omega) _).alloc (by simp; omega) _).alloc (by simp; omega) _
  · exact old_cell _ (old_cell _ (old_cell _ (old_cell _ (new_cell w _ _).1)))
  · have h := (new_cell (w.alloc (.cells #[.pointer (some ⟨p, 0, none⟩)] 31)) (.slice A m c) 25).1
    simp only [World.size_alloc] at h
    exact old_cell _ (old_cell _ (old_cell _ h))
  · have h := (new_cell ((w.alloc (.cells #[.pointer (some ⟨p, 0, none⟩)] 31)).alloc (.cells #[.slice A m c] 25)) (.bool true) 4).1
    simp only [World.size_alloc] at h
    exact old_cell _ (old_cell _ h)
  · have h := (new_cell ((((w.alloc (.cells #[.pointer (some ⟨p, 0, none⟩)] 31)).alloc (.cells #[.slice A m c] 25)).alloc (.cells #[.bool true] 4)).alloc (.cells (madeCells #[.int .i64 0] n) 2)) (.slice (some ⟨w.heap.size + 1 + 1 + 1, 0, none⟩) n n) 25).1
    simp only [World.size_alloc] at h
    exact h
  · have h := made_own (((w.alloc (.cells #[.pointer (some ⟨p, 0, none⟩)] 31)).alloc (.cells #[.slice A m c] 25)).alloc (.cells #[.bool true] 4)) w.heap.size n (by simp; omega) (by omega)
    have e : infK n 0 = List.replicate n 0 := by simp [infK]
    rw [e]
    have h2 := World.ownsRow.alloc h (.cells #[.slice (some ⟨w.heap.size + 1 + 1 + 1, 0, none⟩) n n] 25)
    simp only [World.size_alloc] at h2
    exact h2

/-- edge z is relaxed at d. -/
def Rel1 (E : List EdgeT) (Wt : List Int) (d z : Int) (D : List Int) : Prop := ∀ e x, E[z.toNat]? = some e → Wt[z.toNat]? = some x → x ≠ 4611686018427387904 → ∃ d', D[e.dst.toNat]? = some d' ∧ d' ≤ d + x
theorem Rel1.down {E : List EdgeT} {Wt : List Int} {d z : Int} {D D' : List Int} (h : Rel1 E Wt d z D) (k : Down D D') : Rel1 E Wt d z D' := fun e x h1 h2 h3 => by
  obtain ⟨d1, a1, a2⟩ := h e x h1 h2 h3
  obtain ⟨d2, b1, b2⟩ := k _ _ a1
  exact ⟨d2, b1, by omega⟩
theorem rel_all {E : List EdgeT} {Wt : List Int} {d : Int} {D : List Int} {x : Nat} (h : ∀ z ∈ idx EdgeT.frm E E.length x, Rel1 E Wt d z D) : Relaxed E Wt D x d := by
  rintro i v wt ⟨e, h1, h2, h3, h4, h5⟩
  obtain ⟨d', a1, a2⟩ := h (i : Int) (mem_idx.2 ⟨i, e, rfl, h1, h2⟩) e wt (by simpa using h1) (by simpa using h4) h5
  rw [h3] at a1
  exact ⟨d', by simpa using a1, a2⟩

/-- between two rounds of the loop over the edges that leave x. -/
def RI (w : World) (p : Nat) (A : Option Addr) (m c n bG bW bF bD bS bQ bX : Nat) (Ds : List Nat) (ss : List Int) (E : List EdgeT) (Wt : List Int) (x : Nat) (d : Int) (M C : Nat) (pre : List {z : Int // z ∈ idx EdgeT.frm E E.length x}) (W : World) : Prop :=
  ∃ (D' zs' : List Int) (v' : Value), (St w p A m c n bG bW bF bD bS bQ Ds W D' zs' v' ∧ W.cell? ⟨bX, 0, none⟩ = some (.int .i64 d) ∧ v'.ownBlock ≠ some bX) ∧ Mid n (fun s => (s : Int) ∈ ss ∧ s < n) E Wt (fun u e => u = x ∧ e = d) D' zs' ∧ (∀ s : Nat, (s : Int) ∈ ss ∧ s < n → D'[s]? = some 0) ∧ zs'.length + 2 * phi D' ≤ M ∧ C ≤ cntF D' ∧ ∀ y ∈ pre, Rel1 E Wt d y.1 D'

def RetSearch (w : World) (n : Nat) (S : Nat → Prop) (E : List EdgeT) (Wt : List Int) (e : Ending) (w' : World) : Prop :=
  ∃ D g, e = .returned (.slice (some ⟨g, 0, none⟩) n n) ∧ OwnI w' w.heap.size 2 (.slice (some ⟨g, 0, none⟩) n n) D ∧ Fin35 n S E Wt D ∧ Below w.heap.size w w'

set_option maxRecDepth 100000 in
set_option maxHeartbeats 2000000 in
theorem search_any (p n : Nat) (E : List EdgeT) (A A2 : Option Addr) (c c2 : Nat) (Wt ss : List Int) (w : World) (hg : GraphAt w w.heap.size p n E) (hn : n ≤ 256) (hE : E.length ≤ 16384) (hWl : Wt.length = E.length) (hok : ∀ e ∈ E, 0 ≤ e.dst ∧ e.dst < n) (hW : okW Wt) (hsw : Sl w w.heap.size A (Wt.map (Value.int .i64))) (hss : Sl w w.heap.size A2 (ss.map (Value.int .i64))) (hsl : ss.length ≤ 16384) :
    Calls Tryd.prog 80 #[.pointer (some ⟨p, 0, none⟩), .slice A Wt.length c, .slice A2 ss.length c2, .bool true] w (RetSearch w n (fun s => (s : Int) ∈ ss ∧ s < n) E Wt) := by
  have HG := Lib.hid hg
  have HSW := Lib.hid hsw
  have HSS := Lib.hid hss
  have HOK := Lib.hid hok
  have HOW := Lib.hid hW
  clear hg hsw hss hok hW
  refine (callsIn_wide (n := 4)).1 ?_
  refine callsIn_of_wp_marks Tryd.func80 rfl trivial ?_ rfl
  simp only [Tryd.ntmps80, List.size_toArray, List.length_cons, List.length_nil, Nat.reduceAdd, Nat.reduceSub, Array.replicate_succ, Array.replicate_zero, List.push_toArray, List.append_toArray, List.nil_append, List.cons_append]
  have hmk := fun W => make_i64 W n (by omega)
  have hb3 := (((Below.refl w.heap.size w).alloc (Nat.le_refl _) (.cells #[.pointer (some ⟨p, 0, none⟩)] 31)).alloc (by simp) (.cells #[.slice A Wt.length c] 25)).alloc (by simp; omega) (.cells #[.bool true] 4)
  have HB3 := Lib.hid hb3
  have HWL := Lib.hid hWl
  clear hb3 hWl
  gi_wp2
  refine ⟨trivial, (callsIn_wide.2 (nodes_any _ _ p n E (HG.out.below HB3.out))).mono ?_⟩
  rintro e w' ⟨rfl, rfl⟩
  gi_wp2
  obtain ⟨bG, bW, bF, bD, bS, ⟨eG, eW, eF, eD, eS⟩, hb5, ho5, c1, c2', c3, c4, hown⟩ := five_at w p A Wt.length c n hn
  change Code.wpIn _ _ _ _ _ _ (five w p A Wt.length c n)
  obtain ⟨W5, hW5⟩ : ∃ W5, W5 = five w p A Wt.length c n := ⟨_, rfl⟩
  rw [← hW5] at hb5 ho5 c1 c2' c3 c4 hown ⊢
  rw [← eS, ← eD, ← eF, ← eW, ← eG]
  have HB5 := Lib.hid hb5
  have HO5 := Lib.hid ho5
  have HOWN := Lib.hid hown
  have HC := Lib.hid (And.intro c1 (And.intro c2' (And.intro c3 c4)))
  clear eG eW eF eD eS hW5 hb5 ho5 c1 c2' c3 c4 hown HB3 hmk
  gi_loopw [26] (fun iv wr => ∃ k : Nat, k ≤ n ∧ iv = .int .i64 k ∧ OwnI wr w.heap.size 2 (.slice (some ⟨bD, 0, none⟩) n n) (infK n k) ∧ Only (fun j => j = bD) W5 wr) (fun i _ => n - (intOf i).toNat)
  case atStart => exact ⟨0, Nat.zero_le _, rfl, HOWN.out, Only.refl⟩
  case round =>
    obtain ⟨k, hk, rfl, hown, hb⟩ := hrel
    have HOWR := Lib.hid hown
    have HBR := Lib.hid hb
    have hcs : wr.cell? ⟨bS, 0, none⟩ = some (.slice (some ⟨bD, 0, none⟩) n n) := (hb.cell (a := ⟨bS, 0, none⟩) HO5.out.2.2.2.2.2 (Nat.ne_of_gt HO5.out.2.2.2.2.1)).trans HC.out.2.2.2
    by_cases hlt : k < n
    · obtain ⟨z, hz⟩ : ∃ z, (infK n k)[k]? = some z := ⟨(infK n k)[k]'(by rw [infK_len hk]; exact hlt), by simp⟩
      obtain ⟨cz, fz⟩ := hown.read hz
      clear hown hb hz
      gi_wp2
      go_roundw
      case rel =>
        refine ⟨k + 1, by omega, by go_num, ?_, Only.setCell (S := fun j => j = bD) (a := ⟨bD, k, none⟩) HBR.out (fun _ => rfl) _⟩
        have := HOWR.out.stored k 4611686018427387904
        rw [infK_succ hlt] at this
        exact this
      case measure => simp [intOf]; omega
    · have hkk : n = k := by omega
      subst hkk
      clear hown hb
      gi_wp2
      have hst : St w p A Wt.length c n bG bW bF bD bS wr.heap.size [] (wr.alloc (.cells #[.slice none 0 0] 156)) (List.replicate n 4611686018427387904) [] (.slice none 0 0) := by
        have hB : Below w.heap.size w wr := HB5.out.trans (HBR.out.below HB5.out.size (fun j e => by have := HO5.out; omega))
        have hoo := HO5.out
        have hsz := HBR.out.size
        have kc : ∀ (b : Nat) (u : Value), b < W5.heap.size → b ≠ bD → W5.cell? ⟨b, 0, none⟩ = some u → (wr.alloc (.cells #[.slice none 0 0] 156)).cell? ⟨b, 0, none⟩ = some u := fun b u hb hne hu => old_cell _ ((HBR.out.cell (a := ⟨b, 0, none⟩) hb hne).trans hu)
        have hnew := new_cell wr (.slice none 0 0) 156
        have e : infK n n = List.replicate n 4611686018427387904 := by simp [infK]
        refine ⟨hB.alloc hB.size _, by simp; omega, kc _ _ (by omega) (by omega) HC.out.1, kc _ _ (by omega) (by omega) HC.out.2.1, kc _ _ (by omega) (by omega) HC.out.2.2.1, kc _ _ (by omega) (by omega) HC.out.2.2.2, World.ownsRow.alloc (by rw [← e]; exact HOWR.out) _, ⟨hnew.1, hnew.2, ⟨rfl, .inl ⟨rfl, rfl⟩⟩, by omega, by simp⟩, fun x hx => absurd hx (by simp), List.nodup_nil, fun x hx => absurd hx (by simp)⟩
      have HST := Lib.hid hst
      obtain ⟨W6, hW6⟩ : ∃ W6, W6 = wr.alloc (.cells #[.slice none 0 0] 156) := ⟨_, rfl⟩
      obtain ⟨bQ, hbQ⟩ : ∃ bQ, bQ = wr.heap.size := ⟨_, rfl⟩
      rw [← hW6, ← hbQ] at HST ⊢
      clear hW6 hbQ hst HBR HOWR hcs HC HOWN HO5 HB5 hlt hk
      gi_loopw [35] (fun iv wr => ∃ (k : Nat) (D zs : List Int) (v : Value), k ≤ ss.length ∧ iv = .int .i64 k ∧ St w p A Wt.length c n bG bW bF bD bS bQ [] wr D zs v ∧ Mid n (fun s => (s : Int) ∈ ss ∧ s < n) E Wt (fun _ _ => False) D zs ∧ ∀ s : Nat, (s : Int) ∈ ss.take k ∧ s < n → D[s]? = some 0) (fun i _ => ss.length - (intOf i).toNat)
      case atStart => exact ⟨0, _, _, _, Nat.zero_le _, rfl, HST.out, Mid.start _ _ _ _, fun s hs => absurd hs.1 (by simp)⟩
      case round =>
        clear HST W6
        obtain ⟨k, D, zs, v, hk, rfl, hst, hmid, hsrc⟩ := hrel
        have HST := Lib.hid hst
        have HMID := Lib.hid hmid
        have HSRC := Lib.hid hsrc
        have hcg := hst.cg
        have hcs := hst.cs
        by_cases hlt : k < ss.length
        · obtain ⟨z, hz⟩ : ∃ z, ss[k]? = some z := ⟨ss[k], by simp⟩
          have hin := isNode_any wr _ p n E (HG.out.below hst.below) z
          obtain ⟨b, o, rfl, hb, hc⟩ := HSS.out.int hz
          have hcz : wr.cell? ⟨b, o + k, none⟩ = some (.int .i64 z) := (hst.below.cell (p := ⟨b, o + k, none⟩) hb).trans hc
          have HTK : Hid (ss.take (k + 1) = ss.take k ++ [z]) := Lib.hid (by
            have hl := (List.getElem?_eq_some_iff.1 hz).1
            rw [List.take_succ_eq_append_getElem hl, (List.getElem?_eq_some_iff.1 hz).2])
          have HZ := Lib.hid hz
          clear hz hc hst hmid hsrc
          by_cases hnode : 0 ≤ z ∧ z < n
          · have dn : decide (0 ≤ z ∧ z < n) = true := by simpa using hnode
            rw [dn] at hin
            have HIN := Lib.hid hin
            clear hin dn
            obtain ⟨t, rfl⟩ : ∃ t : Nat, z = (t : Int) := ⟨z.toNat, by omega⟩
            have htn : t < n := by omega
            have htj : (t : Int) < (n : Int) := by omega
            obtain ⟨d0, hd0⟩ : ∃ d0, D[t]? = some d0 := ⟨D[t]'(by rw [HMID.out.len]; exact htn), by simp⟩
            obtain ⟨cd, fd⟩ := HST.out.own.read hd0
            clear hnode
            by_cases h00 : d0 = 0
            · subst h00
              have HD := Lib.hid hd0
              clear hd0
              gi_wp2
              refine ⟨trivial, (callsIn_wide.2 HIN.out).mono ?_⟩
              rintro e w' ⟨rfl, rfl⟩
              gi_wp2
              go_roundw
              case rel => 
                refine ⟨k + 1, D, zs, v, by omega, by go_num, HST.out, HMID.out, fun s hs => ?_⟩
                rw [HTK.out, List.mem_append, List.mem_singleton] at hs
                rcases hs.1 with h1 | h1
                · exact HSRC.out s ⟨h1, hs.2⟩
                · obtain rfl : s = t := by omega
                  exact HD.out
              case measure => simp [intOf]; omega
            · have dz : (d0 == 0) = false := by simpa using h00
              have HD := Lib.hid hd0
              clear hd0
              gi_wp2
              refine ⟨trivial, (callsIn_wide.2 HIN.out).mono ?_⟩
              rintro e w' ⟨rfl, rfl⟩
              gi_wp2
              have hmid := HMID.out
              have hcap := hmid.cap
              have hst2 := HST.out.store t 0
              have hpos : 0 < d0 := by
                by_cases hinf : d0 = 4611686018427387904
                · omega
                · have := (hmid.small _ _ HD.out hinf).1
                  omega
              have hmem : (t : Int) ∈ ss := List.mem_of_getElem? HZ.out
              refine ⟨trivial, (callsIn_wide.2 (push_any _ _ bQ v zs 0 t hst2.q (by omega) (by omega) (by omega) (by omega))).mono ?_⟩
              clear hcap hst2
              rintro e W7 ⟨rfl, v7, zs7, hq7, hp7, ho7, _⟩
              have HST7 := Lib.hid ((HST.out.store t 0).queue hq7 ho7)
              have HM7 := Lib.hid (hmid.relax hn HD.out hpos (by omega) (by omega) (Way.src ⟨hmem, htn⟩) hp7).1
              clear hq7 hp7 ho7 hmid hcg hcs cd fd hcz
              gi_wp2
              go_roundw
              case rel =>
                refine ⟨k + 1, _, zs7, v7, by omega, by go_num, HST7.out, HM7.out, fun s hs => ?_⟩
                rw [HTK.out, List.mem_append, List.mem_singleton] at hs
                rcases hs.1 with h1 | h1
                · exact src_set (T := fun s => (s : Int) ∈ ss.take k ∧ s < n) HSRC.out HD.out hpos (by omega) s ⟨h1, hs.2⟩
                · obtain rfl : s = t := by omega
                  rw [List.getElem?_set_self (List.getElem?_eq_some_iff.1 HD.out).1]
              case measure => simp [intOf]; omega
          · have dn : decide (0 ≤ z ∧ z < n) = false := by simpa using hnode
            rw [dn] at hin
            have HIN := Lib.hid hin
            clear hin dn
            have HN := Lib.hid hnode
            clear hnode
            gi_wp2
            refine ⟨trivial, (callsIn_wide.2 HIN.out).mono ?_⟩
            rintro e w' ⟨rfl, rfl⟩
            gi_wp2
            go_roundw
            case rel =>
              refine ⟨k + 1, D, zs, v, by omega, by go_num, HST.out, HMID.out, fun s hs => ?_⟩
              rw [HTK.out, List.mem_append, List.mem_singleton] at hs
              rcases hs.1 with h1 | h1
              · exact HSRC.out s ⟨h1, hs.2⟩
              · exact absurd (show 0 ≤ z ∧ z < n by omega) HN.out
            case measure => simp [intOf]; omega
        · have hkk : ss.length = k := by omega
          subst hkk
          have hcf := hst.cf
          rw [List.take_length] at hsrc HSRC
          clear hst hmid hsrc
          gi_wp2
          refine wpIn_loop_ghost_k (fun kk a wr => ∃ (y15 y16 y60 y61 y62 y63 y64 y65 y66 y67 y68 y69 y70 y71 y72 y73 y74 y75 : Value) (Ds : List Nat) (D zs : List Int) (v : Value), (St w p A Wt.length c n bG bW bF bD bS bQ Ds wr D zs v ∧ Mid n (fun s => (s : Int) ∈ ss ∧ s < n) E Wt (fun _ _ => False) D zs ∧ (∀ s : Nat, (s : Int) ∈ ss ∧ s < n → D[s]? = some 0) ∧ kk = zs.length + 2 * phi D) ∧ a = { tmps := #[Value.pointer (some { block := p, off := 0 }), Value.slice A Wt.length c, Value.slice A2 ss.length c2, Value.bool true, Value.pointer (some { block := bG, off := 0 }), Value.pointer (some { block := bW, off := 0 }), undef, Value.pointer (some { block := bF, off := 0 }), Value.slice none 0 0, Value.pointer (some { block := bS, off := 0 }), u10, Value.pointer (some { block := bQ, off := 0 }), undef, u13, Value.func (Fn.func 98) #[Value.pointer (some { block := p, off := 0 })] #[], y15, y16, undef, undef, undef, undef, Value.pointer (some { block := p, off := 0 }), Value.int IntKind.i64 ↑n, Value.slice (some { block := bD, off := 0 }) n n, Value.slice (some { block := bD, off := 0 }) n n, Value.int IntKind.i64 ↑n, Value.int IntKind.i64 ↑n, Value.bool false, u28, u29, u30, u31, u32, Value.slice A2 ss.length c2, Value.int IntKind.i64 ↑ss.length, Value.int IntKind.i64 ↑ss.length, Value.bool false, u37, u38, u39, u40, u41, u42, u43, u44, u45, u46, u47, u48, u49, u50, u51, u52, u53, u54, Value.pointer (some { block := p, off := 0 }), Value.func (Fn.func 97) #[Value.pointer (some { block := p, off := 0 })] #[], Value.bool true, Value.pointer (some { block := p, off := 0 }), Value.func (Fn.func 98) #[Value.pointer (some { block := p, off := 0 })] #[], y60, y61, y62, y63, y64, y65, y66, y67, y68, y69, y70, y71, y72, y73, y74, y75, undef, undef, undef, undef, undef, undef, undef, undef, undef, undef, undef, undef, undef, undef, undef, undef, undef, undef, undef, undef, undef, undef, undef, undef, undef, undef, undef, undef, undef, undef, undef, undef, undef, undef, undef, undef, undef, undef, undef, undef, undef, undef, undef, undef, undef, undef], defers := Ds.map mk35 }) (zs.length + 2 * phi D) ⟨_, _, _, _, _, _, _, _, _, _, _, _, _, _, _, _, _, _, [], D, zs, v, ⟨HST.out, HMID.out, HSRC.out, rfl⟩, rfl⟩ ?_
          clear HST HMID HSRC hcg hcs hcf hk hlt D zs v
          rintro kk a wr ⟨y15, y16, y60, y61, y62, y63, y64, y65, y66, y67, y68, y69, y70, y71, y72, y73, y74, y75, Ds, D, zs, v, ⟨hst, hmid, hsrc, rfl⟩, rfl⟩ J K hJ hK
          have hord := hst.ord
          obtain ⟨Aq, cq, hv, _⟩ := hst.q.own.sl
          subst hv
          have HST := Lib.hid hst
          have HMID := Lib.hid hmid
          have HSRC := Lib.hid hsrc
          have hqc := hst.q.cell
          have hcs := hst.cs
          have HJ := Lib.hid hJ
          have HK := Lib.hid hK
          clear hst hmid hsrc hJ hK hord
          by_cases h0 : zs.length = 0
          · have hlz : decide (0 < (zs.length : Int)) = false := decide_eq_false (by omega)
            have hlz' : decide (0 < zs.length) = false := decide_eq_false (by omega)
            have H0 := Lib.hid h0
            clear h0
            gi_wp2
            obtain rfl : zs = [] := List.length_eq_zero_iff.1 H0.out
            refine leaves_marks Ds wr HST.out.marks HST.out.nodup fun W' hW' => ?_
            refine ⟨_, results_tmp rfl _ _ _, ?_⟩
            have hst := HST.out
            refine ⟨D, bD, rfl, hW'.own hst.own (fun g hg hm => ?_), HMID.out.done hn HSRC.out, hst.below.trans (hW'.below hst.below.size hst.mlow)⟩
            obtain ⟨_, o, h1, h2⟩ := own_cells hst.own hg
            rw [hst.marks g hm] at h1
            cases h1
            cases h2
          · have hlz : decide (0 < (zs.length : Int)) = true := decide_eq_true (by omega)
            have hlz' : decide (0 < zs.length) = true := decide_eq_true (by omega)
            have hpop := pop_any wr _ bQ _ zs HST.out.q (by omega) (by have := HMID.out.cap; omega) (fun z hz => by
              obtain ⟨x, d, _, h1, h2, h3, h4, _⟩ := HMID.out.inq z hz
              have := cntF_le D
              have := HMID.out.len
              omega)
            have HPOP := Lib.hid hpop
            have H0 := Lib.hid h0
            clear h0 hpop
            gi_wp2
            refine ⟨trivial, (callsIn_wide.2 HPOP.out).mono ?_⟩
            rintro e W7 ⟨z, v7, zs7, rfl, hq7, hp7, ho7, _⟩
            have HST7 := Lib.hid (HST.out.queue hq7 ho7)
            obtain ⟨x, d, dx, e1, e2, e3, hx, hd0, hdb, hw, hdx, hm1, hm2⟩ := HMID.out.pop hn hp7
            rw [e2, e3]
            have HP7 := Lib.hid (show zs7.length + 1 = zs.length by have := hp7.length_eq; simp at this; omega)
            have HM1 := Lib.hid hm1
            have HM2 := Lib.hid hm2
            have HW := Lib.hid hw
            have HDB := Lib.hid (And.intro hd0 hdb)
            have HDX := Lib.hid hdx
            clear hq7 hp7 ho7 e1 e2 e3 hm1 hm2 hw hdx hd0 hdb HPOP HST HMID hqc hcs H0 z
            have hcs := HST7.out.cs
            obtain ⟨cd, fd⟩ := HST7.out.own.read HDX.out
            have hxj : (x : Int) < (n : Int) := by omega
            gi_wp2
            have hst8 := HST7.out.alloc (.cells #[.int .i64 d] 2)
            have hcx := (new_cell W7 (.int .i64 d) 2).1
            have hox : v7.ownBlock ≠ some W7.heap.size := fun e => by
              obtain ⟨_, o, h1, _⟩ := own_cells HST7.out.q.own e
              have := (Array.getElem?_eq_some_iff.1 h1).1
              omega
            have hDs : ∀ j ∈ Ds, j < W7.heap.size := fun j hj => (Array.getElem?_eq_some_iff.1 (HST7.out.marks j hj)).1
            have hbX : bQ < W7.heap.size ∧ W7.heap.size < (W7.alloc (.cells #[.int .i64 d] 2)).heap.size := ⟨HST7.out.lt, by simp⟩
            have hcs8 := hst8.cs
            obtain ⟨cd8, fd8⟩ := hst8.own.read HDX.out
            obtain ⟨W8, hW8⟩ : ∃ W8, W8 = W7.alloc (.cells #[.int .i64 d] 2) := ⟨_, rfl⟩
            obtain ⟨bX, hbX'⟩ : ∃ bX, bX = W7.heap.size := ⟨_, rfl⟩
            rw [← hW8] at hst8 hcx hbX hcs8 cd8 fd8 ⊢
            rw [← hbX'] at hcx hbX hDs hox ⊢
            have HOX := Lib.hid hox
            clear hox
            have HST8 := Lib.hid hst8
            have HBX := Lib.hid hbX
            have HDS := Lib.hid hDs
            clear hst8 hbX hDs hW8 hbX' HST7 hcs cd fd
            by_cases hle : d ≤ dx
            · have hdd : decide (dx < d) = false := decide_eq_false (by omega)
              gi_quiet (skip)
              have hst9 := HST8.out.frame (S := fun _ => False) (Only.refl.drewN nq) (fun _ s => s.elim) (fun _ _ s => s.elim) (fun _ _ s => s)
              have hcx9 : (W8.drewN nq).cell? ⟨bX, 0, none⟩ = some (.int .i64 d) := hcx
              have hbx9 : bQ < bX ∧ bX < (W8.drewN nq).heap.size := HBX.out
              obtain ⟨W9, hW9⟩ : ∃ W9, W9 = W8.drewN nq := ⟨_, rfl⟩
              rw [← hW9] at hst9 hcx9 hbx9 ⊢
              have HST9 := Lib.hid hst9
              have HBX9 := Lib.hid hbx9
              obtain ⟨ob, ⟨hob, hco⟩, hout⟩ := outEdges_any p n E W9 _ (HG.out.below hst9.below) x
              have HOB := Lib.hid hob
              have HCO := Lib.hid hco
              have HOUT := Lib.hid hout
              clear hst9 hbx9 hW9 HST8 HBX hcx hob hco hout fd8 cd8 hcs8
              gi_wp2
              refine ⟨trivial, (callsIn_wide.2 HOUT.out).mono ?_⟩
              rintro e w' ⟨rfl, rfl⟩
              gi_wp2
              obtain ⟨Ar, cr, hrow, hslr⟩ := HCO.out x hx
              have hst10 := (HST9.out.alloc (.cells #[.slice (some ⟨ob, 0, none⟩) n n] 82)).alloc (.cells #[.int .i64 (x : Int)] 3)
              have hcx10 := old_cell (.cells #[.int .i64 (x : Int)] 3) (old_cell (.cells #[.slice (some ⟨ob, 0, none⟩) n n] 82) hcx9)
              have hrow10 := old_cell (.cells #[.int .i64 (x : Int)] 3) (old_cell (.cells #[.slice (some ⟨ob, 0, none⟩) n n] 82) hrow)
              have hbl10 := old_cell (.cells #[.int .i64 (x : Int)] 3) (new_cell W9 (.slice (some ⟨ob, 0, none⟩) n n) 82).1
              have hbn10 := (new_cell (W9.alloc (.cells #[.slice (some ⟨ob, 0, none⟩) n n] 82)) (.int .i64 (x : Int)) 3).1
              rw [World.size_alloc] at hbn10
              have hsz10 : ((W9.alloc (.cells #[.slice (some ⟨ob, 0, none⟩) n n] 82)).alloc (.cells #[.int .i64 (x : Int)] 3)).heap.size = W9.heap.size + 2 := by simp
              have hsl10 := hslr.below ((((Below.refl W9.heap.size W9).alloc (Nat.le_refl _) (.cells #[.slice (some ⟨ob, 0, none⟩) n n] 82)).alloc (by simp) (.cells #[.int .i64 (x : Int)] 3)).mono HST9.out.below.size)
              obtain ⟨W10, hW10⟩ : ∃ W10, W10 = (W9.alloc (.cells #[.slice (some ⟨ob, 0, none⟩) n n] 82)).alloc (.cells #[.int .i64 (x : Int)] 3) := ⟨_, rfl⟩
              rw [← hW10] at hst10 hcx10 hrow10 hbl10 hbn10 hsz10 hsl10 ⊢
              obtain ⟨bL, hbL⟩ : ∃ bL, bL = W9.heap.size := ⟨_, rfl⟩
              rw [← hbL] at hbl10 hbn10 hsz10 ⊢
              obtain ⟨bN, hbN⟩ : ∃ bN, bN = bL + 1 := ⟨_, rfl⟩
              rw [← hbN] at hbn10 ⊢
              have hbx := HBX9.out
              rw [← hbL] at hbx
              clear hW10 HST9 hcx9 hrow hslr HCO HOUT HBX9
              have hlen10 := idx_len EdgeT.frm E E.length x
              have hlt10 : bN < W10.heap.size ∧ bL < W10.heap.size ∧ bX < W10.heap.size := by omega
              clear hsz10 hbL hbN
              have hszw : w.heap.size ≤ W10.heap.size := hst10.below.size
              refine wpIn_rangeFunc_ownG rfl (by omega) (gf := 107) (lb := #[.pointer (some ⟨bN, 0, none⟩), .pointer (some ⟨bL, 0, none⟩)]) rfl trivial (enters_of Tryd.func107 (by kernel_rfl) rfl)
                (iter_stops Fence.wide 3 trivial rfl (by omega) bN bL w.heap.size ob n x Ar cr (idx EdgeT.frm E E.length x) hx HOB.out (by omega) W10 hlt10.1 hlt10.2.1 hszw hbn10 hbl10 hrow10 hsl10)
                belowK_t (belowK_b hszw) (Below.refl _ _) (fun _ => rfl)
                (RI w p A Wt.length c n bG bW bF bD bS bQ bX Ds ss E Wt x d (zs7.length + 2 * phi D) (cntF D))
                (fun _ _ _ => False)
                (fun s X Y row hs hg hr => by
                  obtain ⟨D', zs', v', ⟨h1, h2, h2'⟩, h3⟩ := hs
                  refine ⟨D', zs', v', ⟨h1.grown hg (fun r e => ⟨fun j hj => ?_, ?_, (hr r e).2⟩), cell_kept h2 hg (fun r e => (hr r e).2), h2'⟩, h3⟩
                  · have := HDS.out j hj
                    have := (hr r e).1
                    omega
                  · have := (hr r e).1
                    omega)
                (fun _ _ _ _ _ hs _ _ => hs)
                ⟨D, zs7, v7, ⟨hst10, hcx10, HOX.out⟩, HM2.out hle, HSRC.out, Nat.le_refl _, Nat.le_refl _, fun y hy => absurd hy (by simp)⟩
                (fun y => { tmps := #[Value.pointer (some { block := p, off := 0 }), Value.slice A Wt.length c, Value.slice A2 ss.length c2, Value.bool true, Value.pointer (some { block := bG, off := 0 }), Value.pointer (some { block := bW, off := 0 }), undef, Value.pointer (some { block := bF, off := 0 }), Value.slice none 0 0, Value.pointer (some { block := bS, off := 0 }), u10, Value.pointer (some { block := bQ, off := 0 }), undef, u13, Value.func (Fn.func 98) #[Value.pointer (some { block := p, off := 0 })] #[], Value.pointer (some { block := bX, off := 0 }), Value.int IntKind.i64 ↑x, Value.int IntKind.i64 y.1, undef, undef, undef, Value.pointer (some { block := p, off := 0 }), Value.int IntKind.i64 ↑n, Value.slice (some { block := bD, off := 0 }) n n, Value.slice (some { block := bD, off := 0 }) n n, Value.int IntKind.i64 ↑n, Value.int IntKind.i64 ↑n, Value.bool false, u28, u29, u30, u31, u32, Value.slice A2 ss.length c2, Value.int IntKind.i64 ↑ss.length, Value.int IntKind.i64 ↑ss.length, Value.bool false, u37, u38, u39, u40, u41, u42, u43, u44, u45, u46, u47, u48, u49, u50, u51, u52, u53, u54, Value.pointer (some { block := p, off := 0 }), Value.func (Fn.func 97) #[Value.pointer (some { block := p, off := 0 })] #[], Value.bool true, Value.pointer (some { block := p, off := 0 }), Value.func (Fn.func 98) #[Value.pointer (some { block := p, off := 0 })] #[], Value.slice Aq zs.length cq, Value.int IntKind.i64 ↑zs.length, Value.bool true, Value.tuple #[Value.int IntKind.i64 d, Value.int IntKind.i64 ↑x], Value.tuple #[Value.int IntKind.i64 d, Value.int IntKind.i64 ↑x], Value.int IntKind.i64 d, Value.int IntKind.i64 ↑x, Value.int IntKind.i64 d, Value.slice (some { block := bD, off := 0 }) n n, Value.int IntKind.i64 ↑x, Value.pointer (some { block := bD, off := x }), Value.int IntKind.i64 dx, Value.bool false, Value.func (Fn.func 98) #[Value.pointer (some { block := p, off := 0 })] #[], Value.int IntKind.i64 ↑x, Value.func (Fn.func 107) #[] #[Value.pointer (some { block := bN, off := 0 }), Value.pointer (some { block := bL, off := 0 })], Value.int IntKind.i64 y.1, undef, undef, undef, undef, undef, undef, undef, undef, undef, undef, undef, undef, undef, undef, undef, undef, undef, undef, undef, undef, undef, undef, undef, undef, undef, undef, undef, undef, undef, undef, undef, undef, undef, undef, undef, undef, undef, undef, undef, undef, undef, undef, undef, undef, undef], defers := [] }) ?assign ?body ?done ?stop
              case assign =>
                intro l y W K hK
                gi_wp2
                exact hK
              case stop =>
                rintro Dm cc pre W _ _ h _
                exact h.elim
              case done =>
                rintro Dm ys W hDm rfl ⟨D', zs', v', ⟨h1, h2, _⟩, h3, h4, h5, _, h7⟩ hKm
                clear hst10 hcx10 hrow10 hbl10 hbn10 hsl10
                have HF := Lib.hid (And.intro h1 (And.intro h3 (And.intro h4 (And.intro h5 (And.intro h7 hKm)))))
                clear h1 h2 h3 h4 h5 h7 hKm
                gi_wp2
                obtain ⟨h1, h3, h4, h5, h7, hKm⟩ := HF.out
                have hDsm : ∀ j ∈ Ds, j < Dm := fun j hj => by have := HDS.out j hj; omega
                refine HK.out _ _ (Handed.intro (zs'.length + 2 * phi D') ?_ (HJ.out _ _ _ ⟨_, _, _, _, _, _, _, _, _, _, _, _, _, _, _, _, _, _, Dm :: Ds, D', zs', v', ⟨h1.mark hKm (by omega) hDsm, h3.over (rel_all fun z hz => ?_), h4, rfl⟩, rfl⟩))
                · have := HP7.out
                  omega
                · exact h7 ⟨z, hz⟩ (List.mem_attach _ _)
              case body =>
                clear hst10 hcx10 hrow10 hbl10 hbn10 hsl10 hlen10
                rintro l pre ⟨y, hy⟩ W ⟨D', zs', v', ⟨h1, h2, hox⟩, h3, h4, h5, h6, h7⟩ _
                have HOXB := Lib.hid hox
                clear hox
                obtain ⟨i, ed, rfl, hEi, hfr⟩ := mem_idx.1 hy
                dsimp only
                have hG := (HG.out.below h1.below).more h1.below.size
                have HED := Lib.hid (edge_any p n E W hG i ed hEi)
                have HSTB := Lib.hid h1
                have HMB := Lib.hid (And.intro h3 (And.intro h4 (And.intro h5 (And.intro h6 h7))))
                have HEI := Lib.hid (And.intro hEi hfr)
                have hto := HOK.out ed (List.mem_of_getElem? hEi)
                have hil := (List.getElem?_eq_some_iff.1 hEi).1
                have hwl := HWL.out
                obtain ⟨wt, hwt⟩ : ∃ wt, Wt[i]? = some wt := ⟨Wt[i]'(by omega), by simp⟩
                obtain ⟨b, o, rfl, hb, hcwt⟩ := HSW.out.int hwt
                have hcwt := (h1.below.cell (p := ⟨b, o + i, none⟩) hb).trans hcwt
                obtain ⟨frm, too, tm⟩ := ed
                obtain ⟨t, rfl⟩ : ∃ t : Nat, too = (t : Int) := ⟨too.toNat, by simp at hto; omega⟩
                have htn : t < n := by simp at hto; omega
                have htj : (t : Int) < (n : Int) := by omega
                have hiw : (i : Int) < (Wt.length : Int) := by omega
                obtain ⟨dt, hdt⟩ : ∃ dt, D'[t]? = some dt := ⟨D'[t]'(by rw [h3.len]; exact htn), by simp⟩
                have HDT := Lib.hid hdt
                have HWT := Lib.hid hwt
                have hcg := h1.cg
                clear h1 h3 h4 h5 h6 h7 hG hEi hfr HDX HM1 HM2 HK HJ hto hil hwl hwt hdt
                gi_wp2
                refine ⟨trivial, (CallsIn.inRound l (callsIn_wide.2 HED.out)).mono ?_⟩
                rintro e W11 ⟨rfl, hb11⟩
                have h1 := HSTB.out.after hb11
                have hWz : bX < W.heap.size := by
                  obtain ⟨o, h1, _⟩ := cells_of_cell h2
                  exact (Array.getElem?_eq_some_iff.1 h1).1
                have hcx := (hb11.cell (p := ⟨bX, 0, none⟩) hWz).trans h2
                have hwz : b < W.heap.size := by have := HSTB.out.below.size; omega
                have hcwt := (hb11.cell (p := ⟨b, o + i, none⟩) hwz).trans hcwt
                have hcf := h1.cf
                have hcw := h1.cw
                have hcs := h1.cs
                obtain ⟨cdt, fdt⟩ := h1.own.read HDT.out
                have HST11 := Lib.hid h1
                have HB11 := Lib.hid hb11
                have HWZ := Lib.hid (And.intro hWz hwz)
                have hord := h1.ord
                have hs11 := hb11.size
                have zF : bF < W11.heap.size := by omega
                have zW : bW < W11.heap.size := by omega
                have zS : bS < W11.heap.size := by omega
                have zD : bD < W11.heap.size := by omega
                have zX : bX < W11.heap.size := by omega
                have zb : b < W11.heap.size := by omega
                clear hord hs11
                clear h1 hb11 h2 hcg hWz hwz HED
                gi_wp2
                have hcx := old_cell (.cells #[.int .i64 frm, .int .i64 (t : Int), .int .i64 tm] 55) hcx
                have hcwt := old_cell (.cells #[.int .i64 frm, .int .i64 (t : Int), .int .i64 tm] 55) hcwt
                have h12 := HST11.out.alloc (.cells #[.int .i64 frm, .int .i64 (t : Int), .int .i64 tm] 55)
                have hb12 := HB11.out.alloc HB11.out.size (.cells #[.int .i64 frm, .int .i64 (t : Int), .int .i64 tm] 55)
                obtain ⟨W12, hW12⟩ : ∃ W12, W12 = W11.alloc (.cells #[.int .i64 frm, .int .i64 (t : Int), .int .i64 tm] 55) := ⟨_, rfl⟩
                rw [← hW12] at hcx hcwt h12 hb12 ⊢
                have hcw := h12.cw
                have hcs := h12.cs
                obtain ⟨cdt, fdt⟩ := h12.own.read HDT.out
                have HST12 := Lib.hid h12
                have HB12 := Lib.hid hb12
                clear h12 hb12 hW12 HST11 HB11 zF zW zS zD zX zb hcf
                by_cases hinf : wt = 4611686018427387904
                · have hw1 : (wt == 4611686018427387904) = true := by simpa using hinf
                  have hw2 : (wt != 4611686018427387904) = false := by simpa using hinf
                  have HINF := Lib.hid hinf
                  clear hinf
                  refine wpIn_region_quiet_round (F := Fence.wide) rfl (by kernel_rfl) (by kernel_rfl) (by kernel_rfl) ?_
                  repeat (gi_big_quiet_step (skip))
                  refine wpQuietIn_nil ?_
                  intro _ hw'
                  obtain ⟨nq2, hw''⟩ := hw'
                  subst hw''
                  gi_wp2
                  obtain ⟨h3, h4, h5, h6, h7⟩ := HMB.out
                  have hst := HST12.out.frame (S := fun _ => False) (Only.refl.drewN nq2) (fun _ s => s.elim) (fun _ _ s => s.elim) (fun _ _ s => s)
                  have hbb : Below W.heap.size W (W12.drewN nq2) := HB12.out.trans (Only.below (S := fun _ => False) (Only.refl.drewN nq2) HB12.out.size (fun _ s => s.elim))
                  refine ⟨(keeps_below hbb).from _, hbb.mono HSTB.out.below.size, D', zs', v', ⟨hst, hcx, HOXB.out⟩, h3, h4, h5, h6, fun y hy => ?_⟩
                  rcases List.mem_append.1 hy with hy | hy
                  · exact h7 y hy
                  · obtain rfl := List.mem_singleton.1 hy
                    intro e' x' g1 g2 g3
                    rw [Int.toNat_natCast, HWT.out] at g2
                    cases g2
                    exact absurd HINF.out g3
                · have hw1 : (wt == 4611686018427387904) = false := by simpa using hinf
                  have hw2 : (wt != 4611686018427387904) = true := by simpa using hinf
                  have HINF := Lib.hid hinf
                  have hwr := HOW.out i wt HWT.out hinf
                  have hdb := HDB.out
                  have hcl := cntF_le D'
                  rw [HMB.out.1.len] at hcl
                  have hcl2 := HMB.out.2.2.2.1
                  have hsum : wrap64 (d + wt) = d + wt := by unfold wrap64; omega
                  have hsum2 : IntKind.i64.wrap (d + wt) = d + wt := by rw [IntKind.wrap_i64]; omega
                  have HSUM2 := Lib.hid hsum2
                  clear hsum2
                  clear hinf hdb hcl hcl2
                  by_cases hrel : d + wt < dt
                  · have hr1 : decide (d + wt < dt) = true := decide_eq_true hrel
                    refine wpIn_region_quiet_round (F := Fence.wide) rfl (by kernel_rfl) (by kernel_rfl) (by kernel_rfl) ?_
                    repeat (gi_big_quiet_step (skip))
                    refine wpQuietIn_nil ?_
                    intro _ hw'
                    obtain ⟨nq2, hw''⟩ := hw'
                    subst hw''
                    gi_wp2
                    have hq1 : (W12.drewN nq2).cell? ⟨bS, 0, none⟩ = some (.slice (some ⟨bD, 0, none⟩) n n) := hcs
                    have hq2 : (W12.drewN nq2).cell? ⟨bX, 0, none⟩ = some (.int .i64 d) := hcx
                    have hq3 : (W12.drewN nq2).cell? ⟨bW, 0, none⟩ = some (.slice (some ⟨b, o, none⟩) Wt.length c) := hcw
                    have hq4 : (W12.drewN nq2).cell? ⟨b, o + i, none⟩ = some (.int .i64 wt) := hcwt
                    have hq5 : (W12.drewN nq2).drew.cell? ⟨bD, t, none⟩ = some (.int .i64 dt) := cdt
                    have hq6 : (W12.drewN nq2).drew.frozen? ⟨bD, t, none⟩ = false := fdt
                    have hst13 := (HST12.out.frame (S := fun _ => False) (Only.refl.drewN nq2) (fun _ s => s.elim) (fun _ _ s => s.elim) (fun _ _ s => s)).drew
                    have hb13 : Below W.heap.size W (W12.drewN nq2).drew := (HB12.out.trans (Only.below (S := fun _ => False) (Only.refl.drewN nq2).drew HB12.out.size (fun _ s => s.elim)))
                    obtain ⟨W13, hW13⟩ : ∃ W13, W13 = W12.drewN nq2 := ⟨_, rfl⟩
                    rw [← hW13] at hq1 hq2 hq3 hq4 hq5 hq6 hst13 hb13 ⊢
                    have hord := hst13.ord
                    have hbz : b < w.heap.size := hb
                    have n1 : bD ≠ bS := by omega
                    have n2 : bD ≠ bX := by omega
                    have n3 : bD ≠ bW := by omega
                    have n4 : bD ≠ b := by omega
                    have HST13 := Lib.hid hst13
                    have HB13 := Lib.hid hb13
                    clear hst13 hb13 hW13 hord hcs hcx hcw hcwt cdt fdt HST12 HB12
                    refine wpIn_region_held_round (S := fun w' => w'.cell? ⟨bS, 0, none⟩ = some (.slice (some ⟨bD, 0, none⟩) n n) ∧ w'.cell? ⟨bX, 0, none⟩ = some (.int .i64 d) ∧ w'.cell? ⟨bW, 0, none⟩ = some (.slice (some ⟨b, o, none⟩) Wt.length c) ∧ w'.cell? ⟨b, o + i, none⟩ = some (.int .i64 wt)) (by kernel_rfl) (by kernel_rfl) ⟨hq1, hq2, hq3, hq4⟩ (fun hHeld => ?_)
                    refine wpAnyH_take (i := 0) (v := .slice (some ⟨bD, 0, none⟩) n n) rfl (by kernel_rfl) (by kernel_rfl) (by kernel_rfl) (fun _ _ _ h => by cases h.1) (Or.inl ⟨by rfl, ?_⟩) (by assumption) ?_
                    · intro w' hSw
                      obtain ⟨s1, s2, s3, s4⟩ := hSw
                      go_simp
                    refine wpAnyH_take (i := 1) (v := .int .i64 (t : Int)) rfl (by kernel_rfl) (by kernel_rfl) (by kernel_rfl) (fun _ _ _ h => by cases h.1) (Or.inl ⟨by rfl, ?_⟩) (by assumption) ?_
                    · intro w' hSw
                      obtain ⟨s1, s2, s3, s4⟩ := hSw
                      go_simp
                    refine wpAnyH_take (i := 2) (v := .int .i64 d) rfl (by kernel_rfl) (by kernel_rfl) (by kernel_rfl) (fun _ _ _ h => by cases h.1) (Or.inl ⟨by rfl, ?_⟩) (by assumption) ?_
                    · intro w' hSw
                      obtain ⟨s1, s2, s3, s4⟩ := hSw
                      go_simp
                    refine wpAnyH_take (i := 3) (v := .slice (some ⟨b, o, none⟩) Wt.length c) rfl (by kernel_rfl) (by kernel_rfl) (by kernel_rfl) (fun _ _ _ h => by cases h.1) (Or.inl ⟨by rfl, ?_⟩) (by assumption) ?_
                    · intro w' hSw
                      obtain ⟨s1, s2, s3, s4⟩ := hSw
                      go_simp
                    refine wpAnyH_take (i := 4) (v := .int .i64 (i : Int)) rfl (by kernel_rfl) (by kernel_rfl) (by kernel_rfl) (fun _ _ _ h => by cases h.1) (Or.inl ⟨by rfl, ?_⟩) (by assumption) ?_
                    · intro w' hSw
                      obtain ⟨s1, s2, s3, s4⟩ := hSw
                      go_simp
                    refine wpAnyH_take (i := 5) (v := .pointer (some ⟨b, o + i, none⟩)) rfl (by kernel_rfl) (by kernel_rfl) (by kernel_rfl) (fun _ _ _ h => by cases h.1) (Or.inl ⟨by rfl, ?_⟩) (by assumption) ?_
                    · intro w' hSw
                      obtain ⟨s1, s2, s3, s4⟩ := hSw
                      go_simp
                    refine wpAnyH_take (i := 6) (v := .int .i64 wt) rfl (by kernel_rfl) (by kernel_rfl) (by kernel_rfl) (fun _ _ _ h => by cases h.1) (Or.inl ⟨by rfl, ?_⟩) (by assumption) ?_
                    · intro w' hSw
                      obtain ⟨s1, s2, s3, s4⟩ := hSw
                      go_simp
                    refine wpAnyH_take (i := 7) (v := .int .i64 (d + wt)) rfl (by kernel_rfl) (by kernel_rfl) (by kernel_rfl) (fun _ _ _ h => by cases h.1) (Or.inl ⟨by rfl, ?_⟩) (by assumption) ?_
                    · intro w' hSw
                      obtain ⟨s1, s2, s3, s4⟩ := hSw
                      go_simp
                      exact HSUM2.out
                    refine wpAnyH_take (i := 8) (v := .pointer (some ⟨bD, t, none⟩)) rfl (by kernel_rfl) (by kernel_rfl) (by kernel_rfl) (fun _ _ _ h => by cases h.1) (Or.inl ⟨by rfl, ?_⟩) (by assumption) ?_
                    · intro w' hSw
                      obtain ⟨s1, s2, s3, s4⟩ := hSw
                      go_simp
                    refine wpAnyH_ready (rs := [9]) (by kernel_rfl) (by simp) ?_
                    refine AllReadyH.cons rfl (fun K hK => ?_) AllReadyH.nil
                    have x1 : (W13.drew.setCell ⟨bD, t, none⟩ (.int .i64 (d + wt))).cell? ⟨bS, 0, none⟩ = some (.slice (some ⟨bD, 0, none⟩) n n) := (World.cell?_setCell_other _ _ _ _ (fun q => by injection q with q; exact n1 q)).trans hq1
                    have x2 : (W13.drew.setCell ⟨bD, t, none⟩ (.int .i64 (d + wt))).cell? ⟨bX, 0, none⟩ = some (.int .i64 d) := (World.cell?_setCell_other _ _ _ _ (fun q => by injection q with q; exact n2 q)).trans hq2
                    have x3 : (W13.drew.setCell ⟨bD, t, none⟩ (.int .i64 (d + wt))).cell? ⟨bW, 0, none⟩ = some (.slice (some ⟨b, o, none⟩) Wt.length c) := (World.cell?_setCell_other _ _ _ _ (fun q => by injection q with q; exact n3 q)).trans hq3
                    have x4 : (W13.drew.setCell ⟨bD, t, none⟩ (.int .i64 (d + wt))).cell? ⟨b, o + i, none⟩ = some (.int .i64 wt) := (World.cell?_setCell_other _ _ _ _ (fun q => by injection q with q; exact n4 q)).trans hq4
                    go_simp
                    refine hK.out _ _ ⟨x1, x2, x3, x4⟩ (fun hHeld => ?_)
                    clear hK K
                    refine wpAnyH_done (by kernel_rfl) ⟨rfl, ?_⟩ _
                    have hst14 := HST13.out.store t (d + wt)
                    have hb14 : Below w.heap.size W (W13.drew.setCell ⟨bD, t, none⟩ (.int .i64 (d + wt))) := (HB13.out.mono HSTB.out.below.size).setCell (p := ⟨bD, t, none⟩) (by have := HST13.out.ord; show _ ≤ bD; omega) _
                    have hk14 : KeepsOthers W (W13.drew.setCell ⟨bD, t, none⟩ (.int .i64 (d + wt))) := (keeps_below HB13.out).trans (KeepsOthers.setCell _ _ _)
                    have x5 : (W13.drew.setCell ⟨bD, t, none⟩ (.int .i64 (d + wt))).cell? ⟨bD, t, none⟩ = some (.int .i64 (d + wt)) := (hst14.own.read (List.getElem?_set_self (List.getElem?_eq_some_iff.1 HDT.out).1)).1
                    change Exit.then _ _ _ _ (W13.drew.setCell ⟨bD, t, none⟩ (.int .i64 (d + wt)))
                    obtain ⟨W14, hW14⟩ : ∃ W14, W14 = W13.drew.setCell ⟨bD, t, none⟩ (.int .i64 (d + wt)) := ⟨_, rfl⟩
                    rw [← hW14] at x1 x2 x5 hst14 hb14 hk14 ⊢
                    have HST14 := Lib.hid hst14
                    have HB14 := Lib.hid (And.intro hb14 hk14)
                    clear hst14 hb14 hk14 hW14 x3 x4 hq1 hq2 hq3 hq4 hq5 hq6 HST13 HB13 hHeld
                    gi_wp2
                    obtain ⟨h3, h4, h5, h6, h7⟩ := HMB.out
                    have hcap := h3.cap
                    have hdb := HDB.out
                    have hcl := cntF_le D'
                    rw [h3.len] at hcl
                    have hwr2 := HOW.out i wt HWT.out HINF.out
                    refine ⟨trivial, (CallsIn.inRound l (callsIn_wide.2 (push_any W14 _ bQ v' zs' (d + wt) t HST14.out.q (by omega) (by omega) (by omega) (by omega)))).mono ?_⟩
                    rintro e W15 ⟨rfl, v15, zs15, hq15, hp15, ho15, hv15⟩
                    have hst15 := HST14.out.queue hq15 ho15
                    have hz14 : bX < W14.heap.size := by
                      obtain ⟨o, h1, _⟩ := cells_of_cell x2
                      exact (Array.getElem?_eq_some_iff.1 h1).1
                    have hcx15 := (ho15.cell (a := ⟨bX, 0, none⟩) hz14 (fun e => e.elim (fun e => by have := hbx.1; simp at e; omega) HOXB.out)).trans x2
                    have hox15 : v15.ownBlock ≠ some bX := by
                      rcases hv15 with e | e
                      · rw [e]; exact HOXB.out
                      · exact fun g => by have := e _ g; omega
                    obtain ⟨m1, m2⟩ := h3.relax hn HDT.out hrel (by omega) (by omega) (Way.step HW.out ⟨_, HEI.out.1, HEI.out.2, rfl, HWT.out, HINF.out⟩) hp15
                    have hdn := down_set HDT.out hrel
                    have hk15 : KeepsOthers W14 W15 := keeps_only ho15 (fun j e => by
                      rcases e with rfl | e
                      · exact cells_of_cell HST14.out.q.cell
                      · exact (own_cells HST14.out.q.own e).2)
                    have hb15 : Below w.heap.size W14 W15 := ho15.below HST14.out.below.size (fun j e => by
                      have := HST14.out.ord
                      rcases e with rfl | e
                      · omega
                      · have := (own_cells HST14.out.q.own e).1
                        omega)
                    have hcn : cntF D ≤ cntF (D'.set t (d + wt)) := by
                      rw [cntF_set HDT.out (by omega)]
                      split <;> omega
                    have HFIN := Lib.hid (show ownPostG W10.heap.size (Below w.heap.size) (RI w p (some ⟨b, o, none⟩) Wt.length c n bG bW bF bD bS bQ bX Ds ss E Wt x d (zs7.length + 2 * phi D) (cntF D)) (fun _ _ _ => False) (pre ++ [⟨(i : Int), hy⟩]) W .normal { tmps := #[], defers := [] } W15 from by
                      refine ⟨(HB14.out.2.trans hk15).from _, HB14.out.1.trans hb15, _, zs15, v15, ⟨hst15, hcx15, hox15⟩, m1, src_set (T := fun s => (s : Int) ∈ ss ∧ s < n) h4 HDT.out hrel (by omega), by omega, hcn, fun y hy => ?_⟩
                      rcases List.mem_append.1 hy with hy | hy
                      · exact (h7 y hy).down hdn
                      · obtain rfl := List.mem_singleton.1 hy
                        intro e' x' g1 g2 g3
                        rw [Int.toNat_natCast] at g1 g2
                        rw [HWT.out] at g2
                        rw [HEI.out.1] at g1
                        cases g1
                        cases g2
                        exact ⟨d + wt, by rw [Int.toNat_natCast, List.getElem?_set_self (List.getElem?_eq_some_iff.1 HDT.out).1], Int.le_refl _⟩)
                    clear hq15 hp15 ho15 hv15 hst15 hcx15 hox15 m1 m2 hdn hk15 hb15 hcn h3 h4 h5 h6 h7 hcap hdb hcl x1 x2 x5
                    gi_wp2
                    exact HFIN.out
                  · have hr1 : decide (d + wt < dt) = false := decide_eq_false hrel
                    refine wpIn_region_quiet_round (F := Fence.wide) rfl (by kernel_rfl) (by kernel_rfl) (by kernel_rfl) ?_
                    repeat (gi_big_quiet_step (skip))
                    refine wpQuietIn_nil ?_
                    intro _ hw'
                    obtain ⟨nq2, hw''⟩ := hw'
                    subst hw''
                    gi_wp2
                    obtain ⟨h3, h4, h5, h6, h7⟩ := HMB.out
                    have hst := HST12.out.frame (S := fun _ => False) (Only.refl.drewN nq2) (fun _ s => s.elim) (fun _ _ s => s.elim) (fun _ _ s => s)
                    have hbb : Below W.heap.size W (W12.drewN nq2) := HB12.out.trans (Only.below (S := fun _ => False) (Only.refl.drewN nq2) HB12.out.size (fun _ s => s.elim))
                    refine ⟨(keeps_below hbb).from _, hbb.mono HSTB.out.below.size, D', zs', v', ⟨hst, hcx, HOXB.out⟩, h3, h4, h5, h6, fun y hy => ?_⟩
                    rcases List.mem_append.1 hy with hy | hy
                    · exact h7 y hy
                    · obtain rfl := List.mem_singleton.1 hy
                      intro e' x' g1 g2 g3
                      rw [Int.toNat_natCast] at g1 g2
                      rw [HWT.out] at g2
                      rw [HEI.out.1] at g1
                      cases g1
                      cases g2
                      exact ⟨dt, by simpa using HDT.out, by omega⟩
            · have hdd : decide (dx < d) = true := decide_eq_true (by omega)
              gi_quiet (skip)
              have HST9 := Lib.hid (HST8.out.frame (S := fun _ => False) (Only.refl.drewN nq) (fun _ s => s.elim) (fun _ _ s => s.elim) (fun _ _ s => s))
              clear HST8 HBX hcx fd8 cd8 hcs8
              gi_wp2
              refine HK.out _ _ (Handed.intro (zs7.length + 2 * phi D) ?_ (HJ.out _ _ _ ⟨_, _, _, _, _, _, _, _, _, _, _, _, _, _, _, _, _, _, Ds, D, zs7, v7, ⟨HST9.out, HM1.out (by omega), HSRC.out, rfl⟩, rfl⟩))
              have := HP7.out
              omega
end
end Go.Proofs.YtimijjhdgihobaaDoor
