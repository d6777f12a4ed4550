/-
  samaritanref09.From: the least travel times too.
-/
import Derived.Test.YtpomakmmjbimfaaRefT
import Derived.Test.YtpomakmmjbimfaaSeeds
import Derived.IntWalk
namespace Go.Proofs.Ytpomakmmjbimfaa
open Go.RowKit Go.Shelf Go.Maps

def netCell (n : Int) (A : Option Addr) (m c : Nat) : Obj := .cells #[.int .i64 n, .slice A m c] 24
theorem net_cells {w wr : World} {n : Int} {A : Option Addr} {m c : Nat} (hb : Below (w.heap.size + 1) (w.alloc (netCell n A m c)) wr) :
    wr.cell? ⟨w.heap.size, 0, none⟩ = some (.int .i64 n) ∧ wr.cell? ⟨w.heap.size, 1, none⟩ = some (.slice A m c) :=
  ⟨(hb.cell (p := ⟨w.heap.size, 0, none⟩) (by simp)).trans (by rw [netCell, World.cell?_alloc_at (hn := rfl)]; rfl), (hb.cell (p := ⟨w.heap.size, 1, none⟩) (by simp)).trans (by rw [netCell, World.cell?_alloc_at (hn := rfl)]; rfl)⟩

/-- the memory of From: the boxed graph, and the distances D at block g. -/
structure FromAt (w : World) (n : Nat) (A : Option Addr) (m c g : Nat) (D : List Int) (wr : World) : Prop where
  own : OwnI wr (w.heap.size + 1) 2 (.slice (some ⟨g, 0, none⟩) n n) D
  below : Below (w.heap.size + 1) (w.alloc (netCell n A m c)) wr
section
variable {w wr : World} {n : Nat} {A : Option Addr} {m c g : Nat} {D : List Int}
theorem FromAt.drewN (h : FromAt w n A m c g D wr) (k : Nat) : FromAt w n A m c g D (wr.drewN k) := ⟨h.own.drewN k, ⟨h.below.os, h.below.tape, h.below.output, h.below.size, h.below.block⟩⟩
theorem FromAt.ge (h : FromAt w n A m c g D wr) : w.heap.size + 1 ≤ g := OwnV.ge_base h.own g rfl
theorem FromAt.stored (h : FromAt w n A m c g D wr) (k : Nat) (z : Int) : FromAt w n A m c g (D.set k z) (wr.setCell ⟨g, k, none⟩ (.int .i64 z)) := ⟨h.own.stored k z, h.below.setCell (p := ⟨g, k, none⟩) h.ge _⟩
theorem FromAt.alloc (h : FromAt w n A m c g D wr) (o : Obj) : FromAt w n A m c g D (wr.alloc o) := ⟨h.own.alloc o, h.below.alloc (by have := h.below.size; simpa using this) o⟩
theorem FromAt.all (h : FromAt w n A m c g D wr) : Below w.heap.size w wr := ((Below.refl w.heap.size w).alloc (Nat.le_refl _) _).trans (h.below.mono (by omega))
end

def RetFrom (w : World) (n : Nat) (Ds : List Int) (e : Ending) (w' : World) : Prop := ∃ g, e = .returned (.slice (some ⟨g, 0, none⟩) n n) ∧ OwnI w' w.heap.size 2 (.slice (some ⟨g, 0, none⟩) n n) Ds ∧ Below w.heap.size w w'

theorem relax1_at {E : List EdgeT} {W D : List Int} {i : Nat} {e : EdgeT} {x df dt : Int} {f t : Nat} (he : E[i]? = some e) (hw : W[i]? = some x) (hf : e.frm = (f : Int)) (ht : e.to = (t : Int)) (h1 : D[f]? = some df) (h2 : D[t]? = some dt) :
    relax1 E W D i = if x < 4611686018427387904 ∧ df < 4611686018427387904 ∧ df + x < dt then D.set t (df + x) else D := by
  unfold relax1
  rw [he, hw]
  simp only
  rw [hf, ht, Int.toNat_natCast, Int.toNat_natCast, List.getD_eq_getElem?_getD, List.getD_eq_getElem?_getD, h1, h2]
  rfl

theorem timesL_at (ts : List Int) {m i : Nat} (h : i < m) : (timesL ts m)[i]? = some (wAt ts i) := by
  unfold timesL
  rw [List.getElem?_map, List.getElem?_range h]
  rfl

set_option maxRecDepth 100000 in
set_option maxHeartbeats 4000000 in
theorem refFrom_any (n : Nat) (E : List EdgeT) (A A1 A2 : Option Addr) (c c1 c2 : Nat) (ts ss Ds : List Int) (w : World) (hn : n ≤ 256) (hE : E.length ≤ 16384) (he : EdgesAt w w.heap.size A E) (hok : ∀ e ∈ E, 0 ≤ e.frm ∧ e.frm < n ∧ 0 ≤ e.to ∧ e.to < n)
    (hs : Sl w w.heap.size A1 (ts.map (Value.int .i64))) (hss : Sl w w.heap.size A2 (ss.map (Value.int .i64))) (hsl : ss.length ≤ 16384) (hf : Fin35 n (fun s => (s : Int) ∈ ss ∧ s < n) E (timesL ts E.length) Ds) :
    Calls Try.prog 28 #[.agg #[.int .i64 n, .slice A E.length c], .slice A1 ts.length c1, .slice A2 ss.length c2] w (RetFrom w n Ds) := by
  have hmk := make_i64 (w.alloc (.cells #[.int .i64 n, .slice A E.length c] 24)) n (by omega)
  have HDONE : Hid (roundsK E (timesL ts E.length) (seedsK n ss) n = Ds) := Lib.hid (seeds_done hn (okW_times _ _) hok hf)
  have HLOW : Hid (∀ r, Low n (fun s => (s : Int) ∈ ss ∧ s < n) E (timesL ts E.length) (roundsK E (timesL ts E.length) (seedsK n ss) r)) := Lib.hid fun r => (roundsK_ok hn (okW_times _ _) hok (seeds_low n ss E _) r).1
  have HST : Hid (∀ g, g = w.heap.size + 1 → FromAt w n A E.length c g (infK n 0) ((w.alloc (.cells #[.int .i64 n, .slice A E.length c] 24)).alloc (.cells (madeCells #[.int .i64 0] n) 2))) := Lib.hid (by
    rintro g rfl
    have e : infK n 0 = List.replicate n 0 := by simp [infK]
    rw [e]
    refine ⟨?_, (Below.refl _ _).alloc (by simp) _⟩
    have := made_own (w.alloc (.cells #[.int .i64 n, .slice A E.length c] 24)) (w.heap.size + 1) n (by simp) (by omega)
    simpa using this)
  have HE := Lib.hid he
  have HOK := Lib.hid hok
  have HS := Lib.hid hs
  have HSS := Lib.hid hss
  clear he hok hs hss hf
  go_enter Try.func28, Try.ntmps28
  go_wp2_with fail
  obtain ⟨g, hg⟩ : ∃ g, g = w.heap.size + 1 := ⟨_, rfl⟩
  have hst := HST.out g hg
  have HS0 := Lib.hid hst
  rw [← hg]
  clear hmk HST hst hg
  go_loopw [8] (fun iv wr => ∃ k : Nat, k ≤ n ∧ iv = .int .i64 k ∧ FromAt w n A E.length c g (infK n k) wr) (fun i _ => n - (intOf i).toNat)
  case atStart => exact ⟨0, Nat.zero_le _, rfl, HS0.out⟩
  case round =>
    clear HS0
    obtain ⟨k, hk, rfl, hfa⟩ := hrel
    have HFA := Lib.hid hfa
    obtain ⟨n0, n1⟩ := net_cells hfa.below
    by_cases hlt : k < n
    · obtain ⟨z, hz⟩ : ∃ z, (infK n k)[k]? = some z := ⟨(infK n k)[k]'(by rw [infK_len hk]; exact hlt), by simp⟩
      obtain ⟨cz, fz⟩ := hfa.own.read hz
      clear hfa hz
      go_wp2_with fail
      refine (never_any wr).mono ?_
      rintro e w' ⟨rfl, rfl⟩
      go_wp2_with fail
      go_roundw
      case rel =>
        refine ⟨k + 1, by omega, by go_num, ?_⟩
        have := HFA.out.stored k 4611686018427387904
        rw [infK_succ hlt] at this
        exact this
      case measure => simp [intOf]; omega
    · have hkk : k = n := by omega
      subst hkk
      have hfa2 : FromAt w k A E.length c g (seedsK k (ss.take 0)) wr := by
        have e : infK k k = seedsK k (ss.take 0) := by simp [infK, seedsK]
        rw [← e]
        exact hfa
      have HFB := Lib.hid hfa2
      clear hfa hfa2 HFA hlt hk
      go_wp2_with fail
      clear n0 n1
      obtain ⟨w1, rfl⟩ : ∃ w1 : World, w1 = wr := ⟨_, rfl⟩
      go_loopw [9] (fun iv wr => ∃ i : Nat, i ≤ ss.length ∧ iv = .int .i64 i ∧ FromAt w k A E.length c g (seedsK k (ss.take i)) wr) (fun i _ => ss.length - (intOf i).toNat)
      case atStart => exact ⟨0, Nat.zero_le _, rfl, HFB.out⟩
      case round =>
        clear HFB
        obtain ⟨i, hi, rfl, hfa⟩ := hrel
        have HFA := Lib.hid hfa
        have hlen := (seeded_start k (ss.take i)).1
        obtain ⟨n0, n1⟩ := net_cells hfa.below
        by_cases hlt : i < ss.length
        · obtain ⟨z, hz⟩ : ∃ z, ss[i]? = some z := ⟨ss[i], by simp⟩
          obtain ⟨b, o, rfl, hb, hc⟩ := (HSS.out.below hfa.all).int hz
          have HTK : Hid (seedsK k (ss.take (i + 1)) = seed1 k (seedsK k (ss.take i)) z) := Lib.hid (by
            have hl := (List.getElem?_eq_some_iff.1 hz).1
            rw [List.take_succ_eq_append_getElem hl, (List.getElem?_eq_some_iff.1 hz).2, seedsK_snoc])
          clear hz
          by_cases hz0 : 0 ≤ z
          · by_cases hzn : z < k
            · obtain ⟨t, rfl⟩ : ∃ t : Nat, z = (t : Int) := ⟨z.toNat, by omega⟩
              obtain ⟨y, hy⟩ : ∃ y, (seedsK k (ss.take i))[t]? = some y := ⟨(seedsK k (ss.take i))[t]'(by omega), by simp⟩
              obtain ⟨cy, fy⟩ := hfa.own.read hy
              have d1 : decide (0 ≤ (t : Int)) = true := decide_eq_true hz0
              have d2 : decide ((t : Int) < (k : Int)) = true := decide_eq_true hzn
              have d2' : decide (t < k) = true := decide_eq_true (by omega)
              have htk : t < k := by omega
              clear hfa hy hlen
              go_wp2_with fail
              go_quiet (fail)
              go_wp2_with fail
              go_roundw
              case rel =>
                refine ⟨i + 1, by omega, by go_num, ?_⟩
                rw [HTK.out, seed1, if_pos ⟨hz0, hzn⟩, Int.toNat_natCast]
                exact (HFA.out.drewN _).stored t 0
              case measure => simp [intOf]; omega
            · have d1 : decide (0 ≤ z) = true := decide_eq_true hz0
              have d2 : decide (z < (k : Int)) = false := decide_eq_false hzn
              clear hfa hlen
              go_wp2_with fail
              go_quiet (fail)
              go_wp2_with fail
              go_roundw
              case rel =>
                refine ⟨i + 1, by omega, by go_num, ?_⟩
                rw [HTK.out, seed1, if_neg (by omega)]
                exact HFA.out.drewN _
              case measure => simp [intOf]; omega
          · have d1 : decide (0 ≤ z) = false := decide_eq_false hz0
            clear hfa hlen
            go_wp2_with fail
            go_quiet (fail)
            go_wp2_with fail
            go_roundw
            case rel =>
              refine ⟨i + 1, by omega, by go_num, ?_⟩
              rw [HTK.out, seed1, if_neg (by omega)]
              exact HFA.out.drewN _
            case measure => simp [intOf]; omega
        · have hii : i = ss.length := by omega
          subst hii
          have hfa2 : FromAt w k A E.length c g (roundsK E (timesL ts E.length) (seedsK k ss) 0) wr := by
            rw [List.take_length] at hfa
            exact hfa
          have HFB := Lib.hid hfa2
          clear hfa hfa2 HFA hlt hi hlen
          go_wp2_with fail
          clear n0 n1
          obtain ⟨w2, rfl⟩ : ∃ w2 : World, w2 = wr := ⟨_, rfl⟩
          go_loopw [10] (fun iv wr => ∃ r : Nat, r ≤ k ∧ iv = .int .i64 r ∧ FromAt w k A E.length c g (roundsK E (timesL ts E.length) (seedsK k ss) r) wr) (fun i _ => k - (intOf i).toNat)
          case atStart => exact ⟨0, Nat.zero_le _, rfl, HFB.out⟩
          case round =>
            clear HFB
            obtain ⟨r, hr, rfl, hfa⟩ := hrel
            have HFA := Lib.hid hfa
            obtain ⟨n0, n1⟩ := net_cells hfa.below
            by_cases hlt : r < k
            · clear hfa
              go_wp2_with fail
              obtain ⟨w3, rfl⟩ : ∃ w3 : World, w3 = wr := ⟨_, rfl⟩
              go_loopw [11] (fun iv wr => ∃ i : Nat, i ≤ E.length ∧ iv = .int .i64 i ∧ FromAt w k A E.length c g (relaxK E (timesL ts E.length) (roundsK E (timesL ts E.length) (seedsK k ss) r) i) wr) (fun i _ => E.length - (intOf i).toNat)
              case atStart => exact ⟨0, Nat.zero_le _, rfl, HFA.out⟩
              case round =>
                clear HFA n0 n1
                obtain ⟨i, hi, rfl, hfa⟩ := hrel
                have HFA := Lib.hid hfa
                obtain ⟨n0, n1⟩ := net_cells hfa.below
                have hlow := (relaxK_ok hn (okW_times _ _) HOK.out (HLOW.out r) i).1
                by_cases hil : i < E.length
                · obtain ⟨⟨frm, too, tm⟩, hek⟩ : ∃ e, E[i]? = some e := ⟨E[i], by simp⟩
                  obtain ⟨b, o, rfl, hbb, e0, e1, e2⟩ := (HE.out.below hfa.all).at hek
                  obtain ⟨h1, h2, h3, h4⟩ := HOK.out _ (List.mem_of_getElem? hek)
                  simp only at e0 e1 e2 h1 h2 h3 h4
                  obtain ⟨f, rfl⟩ : ∃ f : Nat, frm = (f : Int) := ⟨frm.toNat, by omega⟩
                  obtain ⟨t, rfl⟩ : ∃ t : Nat, too = (t : Int) := ⟨too.toNat, by omega⟩
                  have hfk : f < k := by omega
                  have htk : t < k := by omega
                  obtain ⟨D, hD⟩ : ∃ D, D = relaxK E (timesL ts E.length) (roundsK E (timesL ts E.length) (seedsK k ss) r) i := ⟨_, rfl⟩
                  rw [← hD] at hlow hfa HFA
                  have hlen := hlow.len
                  obtain ⟨df, hdf⟩ : ∃ df, D[f]? = some df := ⟨D[f]'(by omega), by simp⟩
                  obtain ⟨dt, hdt⟩ : ∃ dt, D[t]? = some dt := ⟨D[t]'(by omega), by simp⟩
                  have bf := hlow.le_inf hn hdf
                  have bt := hlow.le_inf hn hdt
                  obtain ⟨x, hx⟩ : ∃ x, x = wAt ts i := ⟨_, rfl⟩
                  have bx := wAt_range ts i
                  rw [← hx] at bx
                  have HRX : Hid (relaxK E (timesL ts E.length) (roundsK E (timesL ts E.length) (seedsK k ss) r) (i + 1) = if x < 4611686018427387904 ∧ df < 4611686018427387904 ∧ df + x < dt then D.set t (df + x) else D) := Lib.hid (by
                    rw [relaxK_succ, ← hD]
                    exact relax1_at hek (by rw [hx]; exact timesL_at ts hil) rfl rfl hdf hdt)
                  obtain ⟨cf, ff⟩ := hfa.own.read hdf
                  obtain ⟨ct, ft⟩ := hfa.own.read hdt
                  have hgz : g < wr.heap.size := OwnV.lt_size hfa.own g rfl
                  have hge : ¬ g = wr.heap.size := by omega
                  have htm := refTime_any A1 c1 ts i (wr.alloc (.cells #[.int .i64 f, .int .i64 t, .int .i64 tm] 72)) w.heap.size ((HS.out.below hfa.all).alloc hfa.all.size _)
                  rw [← hx] at htm
                  have HTM := Lib.hid htm
                  have HFC := Lib.hid (HFA.out.alloc (.cells #[.int .i64 f, .int .i64 t, .int .i64 tm] 72))
                  clear hD hx hek hdf hdt hlow hfa HFA hlen htm
                  go_wp2_with fail
                  refine HTM.out.mono ?_
                  rintro e w' ⟨rfl, rfl⟩
                  clear HTM e0 e1 e2 n0 n1
                  by_cases c1 : x < 4611686018427387904
                  · have d1 : decide (x < 4611686018427387904) = true := decide_eq_true c1
                    by_cases c2 : df < 4611686018427387904
                    · have d2 : decide (df < 4611686018427387904) = true := decide_eq_true c2
                      have hsum : IntKind.i64.wrap (df + x) = df + x := IntWalk.i64_in _ (by omega)
                      by_cases c3 : df + x < dt
                      · have d3 : decide (df + x < dt) = true := decide_eq_true c3
                        go_wp2_with fail
                        go_quiet ((go_at_call 43; refine Calls.quiet_of_same ((never_any _).mono fun _ _ q => ⟨q.1, q.2.symm⟩)))
                        go_wp2_with fail
                        go_region
                        go_wp2_with fail
                        go_roundw
                        case rel => exact ⟨i + 1, by omega, by go_num, by rw [HRX.out, if_pos ⟨c1, c2, c3⟩]; exact (HFC.out.drewN (nq + 1)).stored t (df + x)⟩
                        case measure => simp [intOf]; omega
                      · have d3 : decide (df + x < dt) = false := decide_eq_false c3
                        go_wp2_with fail
                        go_quiet ((go_at_call 43; refine Calls.quiet_of_same ((never_any _).mono fun _ _ q => ⟨q.1, q.2.symm⟩)))
                        go_wp2_with fail
                        go_roundw
                        case rel => exact ⟨i + 1, by omega, by go_num, by rw [HRX.out, if_neg (by omega)]; exact HFC.out.drewN _⟩
                        case measure => simp [intOf]; omega
                    · have d2 : decide (df < 4611686018427387904) = false := decide_eq_false c2
                      go_wp2_with fail
                      go_quiet ((go_at_call 43; refine Calls.quiet_of_same ((never_any _).mono fun _ _ q => ⟨q.1, q.2.symm⟩)))
                      go_wp2_with fail
                      go_roundw
                      case rel => exact ⟨i + 1, by omega, by go_num, by rw [HRX.out, if_neg (by omega)]; exact HFC.out.drewN _⟩
                      case measure => simp [intOf]; omega
                  · have d1 : decide (x < 4611686018427387904) = false := decide_eq_false c1
                    go_wp2_with fail
                    go_quiet ((go_at_call 43; refine Calls.quiet_of_same ((never_any _).mono fun _ _ q => ⟨q.1, q.2.symm⟩)))
                    go_wp2_with fail
                    go_roundw
                    case rel => exact ⟨i + 1, by omega, by go_num, by rw [HRX.out, if_neg (by omega)]; exact HFC.out.drewN _⟩
                    case measure => simp [intOf]; omega
                · have hii : i = E.length := by omega
                  subst hii
                  clear hfa hlow
                  go_wp2_with fail
                  go_roundw
                  case rel => exact ⟨r + 1, by omega, by go_num, HFA.out⟩
                  case measure => simp [intOf]; omega
            · have hrr : r = k := by omega
              subst hrr
              clear hfa
              go_wp2_with fail
              go_ret
              have h1 := HFA.out.own
              rw [HDONE.out] at h1
              exact ⟨g, rfl, h1.base_le (by omega), HFA.out.all⟩
end Go.Proofs.Ytpomakmmjbimfaa
