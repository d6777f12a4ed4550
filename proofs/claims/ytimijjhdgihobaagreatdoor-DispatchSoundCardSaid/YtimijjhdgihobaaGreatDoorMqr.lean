/-
  samaritanref09.From: the least travel times too.
  samaritanref35.Time: the same as dispatchcost.TravelTime.
  samaritanref09.Right and samaritanlaw35.net.
-/
import Derived.Test.YtimijjhdgihobaaGreatDoorMqq
import Derived.IntWalk
namespace Go.Proofs.YtimijjhdgihobaaGreatDoor
section
open Go.RowKit Go.Shelf Go.Maps

def netCell (n : Int) (A : Option Addr) (m c : Nat) : Obj := .cells #[.int .i64 n, .slice A m c] 24
theorem net_cells {w wr : World} {n : Int} {A : Option Addr} {m c : Nat} (hb : Below (w.heap.size + 1) (w.alloc (netCell n A m c)) wr) :
    wr.cell? ⟨w.heap.size, 0, none⟩ = some (.int .i64 n) ∧ wr.cell? ⟨w.heap.size, 1, none⟩ = some (.slice A m c) :=
  ⟨(hb.cell (p := ⟨w.heap.size, 0, none⟩) (by simp)).trans (by rw [netCell, World.cell?_alloc_at (hn := rfl)]; rfl), (hb.cell (p := ⟨w.heap.size, 1, none⟩) (by simp)).trans (by rw [netCell, World.cell?_alloc_at (hn := rfl)]; rfl)⟩

/-- the memory of From: the boxed graph, and the distances D at block g. -/
structure FromAt (w : World) (n : Nat) (A : Option Addr) (m c g : Nat) (D : List Int) (wr : World) : Prop where
  own : OwnI wr (w.heap.size + 1) 2 (.slice (some ⟨g, 0, none⟩) n n) D
  below : Below (w.heap.size + 1) (w.alloc (netCell n A m c)) wr
section
variable {w wr : World} {n : Nat} {A : Option Addr} {m c g : Nat} {D : List Int}
theorem FromAt.drewN (h : FromAt w n A m c g D wr) (k : Nat) : FromAt w n A m c g D (wr.drewN k) := ⟨h.own.drewN k, ⟨h.below.os, h.below.tape, h.below.output, h.below.size, h.below.block⟩⟩
theorem FromAt.ge (h : FromAt w n A m c g D wr) : w.heap.size + 1 ≤ g := OwnV.ge_base h.own g rfl
theorem FromAt.stored (h : FromAt w n A m c g D wr) (k : Nat) (z : Int) : FromAt w n A m c g (D.set k z) (wr.setCell ⟨g, k, none⟩ (.int .i64 z)) := ⟨h.own.stored k z, h.below.setCell (p := ⟨g, k, none⟩) h.ge _⟩
theorem FromAt.alloc (h : FromAt w n A m c g D wr) (o : Obj) : FromAt w n A m c g D (wr.alloc o) := ⟨h.own.alloc o, h.below.alloc (by have := h.below.size; simpa using this) o⟩
theorem FromAt.all (h : FromAt w n A m c g D wr) : Below w.heap.size w wr := ((Below.refl w.heap.size w).alloc (Nat.le_refl _) _).trans (h.below.mono (by omega))
end

def RetFrom (w : World) (n : Nat) (Ds : List Int) (e : Ending) (w' : World) : Prop := ∃ g, e = .returned (.slice (some ⟨g, 0, none⟩) n n) ∧ OwnI w' w.heap.size 2 (.slice (some ⟨g, 0, none⟩) n n) Ds ∧ Below w.heap.size w w'

theorem relax1_at {E : List EdgeT} {W D : List Int} {i : Nat} {e : EdgeT} {x df dt : Int} {f t : Nat} (he : E[i]? = some e) (hw : W[i]? = some x) (hf : e.frm = (f : Int)) (ht : e.dst = (t : Int)) (h1 : D[f]? = some df) (h2 : D[t]? = some dt) :
    relax1 E W D i = if x < 4611686018427387904 ∧ df < 4611686018427387904 ∧ df + x < dt then D.set t (df + x) else D := by
  unfold relax1
  rw [he, hw]
  simp only
  rw [hf, ht, Int.toNat_natCast, Int.toNat_natCast, List.getD_eq_getElem?_getD, List.getD_eq_getElem?_getD, h1, h2]
  rfl

theorem timesL_at (ts : List Int) {m i : Nat} (h : i < m) : (timesL ts m)[i]? = some (wAt ts i) := by
  unfold timesL
  rw [List.getElem?_map, List.getElem?_range h]
  rfl

set_option maxRecDepth 100000 in
set_option maxHeartbeats 4000000 in
theorem refFrom_any (n : Nat) (E : List EdgeT) (A A1 A2 : Option Addr) (c c1 c2 : Nat) (ts ss Ds : List Int) (w : World) (hn : n ≤ 256) (hE : E.length ≤ 16384) (he : EdgesAt w w.heap.size A E) (hok : ∀ e ∈ E, 0 ≤ e.frm ∧ e.frm < n ∧ 0 ≤ e.dst ∧ e.dst < n)
    (hs : Sl w w.heap.size A1 (ts.map (Value.int .i64))) (hss : Sl w w.heap.size A2 (ss.map (Value.int .i64))) (hsl : ss.length ≤ 16384) (hf : Fin35 n (fun s => (s : Int) ∈ ss ∧ s < n) E (timesL ts E.length) Ds) :
    Calls Tryz.prog 24 #[.agg #[.int .i64 n, .slice A E.length c], .slice A1 ts.length c1, .slice A2 ss.length c2] w (RetFrom w n Ds) := by
  have hmk := make_i64 (w.alloc (.cells #[.int .i64 n, .slice A E.length c] 24)) n (by omega)
  have HDONE : Hid (roundsK E (timesL ts E.length) (seedsK n ss) n = Ds) := Lib.hid (seeds_done hn (okW_times _ _) hok hf)
  have HLOW : Hid (∀ r, Low n (fun s => (s : Int) ∈ ss ∧ s < n) E (timesL ts E.length) (roundsK E (timesL ts E.length) (seedsK n ss) r)) := Lib.hid fun r => (roundsK_ok hn (okW_times _ _) hok (seeds_low n ss E _) r).1
  have HST : Hid (∀ g, g = w.heap.size + 1 → FromAt w n A E.length c g (infK n 0) ((w.alloc (.cells #[.int .i64 n, .slice A E.length c] 24)).alloc (.cells (madeCells #[.int .i64 0] n) 2))) := Lib.hid (by
    rintro g rfl
    have e : infK n 0 = List.replicate n 0 := by simp [infK]
    rw [e]
    refine ⟨?_, (Below.refl _ _).alloc (by simp) _⟩
    have := made_own (w.alloc (.cells #[.int .i64 n, .slice A E.length c] 24)) (w.heap.size + 1) n (by simp) (by omega)
    simpa using this)
  have HE := Lib.hid he
  have HOK := Lib.hid hok
  have HS := Lib.hid hs
  have HSS := Lib.hid hss
  clear he hok hs hss hf
  go_enter Tryz.func24, Tryz.ntmps24
  go_wp2_with fail
  obtain ⟨g, hg⟩ : ∃ g, g = w.heap.size + 1 := ⟨_, rfl⟩
  have hst := HST.out g hg
  have HS0 := Lib.hid hst
  rw [← hg]
  clear hmk HST hst hg
  go_loopw [8] (fun iv wr => ∃ k : Nat, k ≤ n ∧ iv = .int .i64 k ∧ FromAt w n A E.length c g (infK n k) wr) (fun i _ => n - (intOf i).toNat)
  case atStart => exact ⟨0, Nat.zero_le _, rfl, HS0.out⟩
  case round =>
    clear HS0
    obtain ⟨k, hk, rfl, hfa⟩ := hrel
    have HFA := Lib.hid hfa
    obtain ⟨n0, n1⟩ := net_cells hfa.below
    by_cases hlt : k < n
    · obtain ⟨z, hz⟩ : ∃ z, (infK n k)[k]? = some z := ⟨(infK n k)[k]'(by rw [infK_len hk]; exact hlt), by simp⟩
      obtain ⟨cz, fz⟩ := hfa.own.read hz
      clear hfa hz
      go_wp2_with fail
      refine (never_any wr).mono ?_
      rintro e w' ⟨rfl, rfl⟩
      go_wp2_with fail
      go_roundw
      case rel =>
        refine ⟨k + 1, by omega, by go_num, ?_⟩
        have := HFA.out.stored k 4611686018427387904
        rw [infK_succ hlt] at this
        exact this
      case measure => simp [intOf]; omega
    · have hkk : k = n := by omega
      subst hkk
      have hfa2 : FromAt w k A E.length c g (seedsK k (ss.take 0)) wr := by
        have e : infK k k = seedsK k (ss.take 0) := by simp [infK, seedsK]
        rw [← e]
        exact hfa
      have HFB := Lib.hid hfa2
      clear hfa hfa2 HFA hlt hk
      go_wp2_with fail
      clear n0 n1
      obtain ⟨w1, rfl⟩ : ∃ w1 : World, w1 = wr := ⟨_, rfl⟩
      go_loopw [9] (fun iv wr => ∃ i : Nat, i ≤ ss.length ∧ iv = .int .i64 i ∧ FromAt w k A E.length c g (seedsK k (ss.take i)) wr) (fun i _ => ss.length - (intOf i).toNat)
      case atStart => exact ⟨0, Nat.zero_le _, rfl, HFB.out⟩
      case round =>
        clear HFB
        obtain ⟨i, hi, rfl, hfa⟩ := hrel
        have HFA := Lib.hid hfa
        have hlen := (seeded_start k (ss.take i)).1
        obtain ⟨n0, n1⟩ := net_cells hfa.below
        by_cases hlt : i < ss.length
        · obtain ⟨z, hz⟩ : ∃ z, ss[i]? = some z := ⟨ss[i], by simp⟩
          obtain ⟨b, o, rfl, hb, hc⟩ := (HSS.out.below hfa.all).int hz
          have HTK : Hid (seedsK k (ss.take (i + 1)) = seed1 k (seedsK k (ss.take i)) z) := Lib.hid (by
            have hl := (List.getElem?_eq_some_iff.1 hz).1
            rw [List.take_succ_eq_append_getElem hl, (List.getElem?_eq_some_iff.1 hz).2, seedsK_snoc])
          clear hz
          by_cases hz0 : 0 ≤ z
          · by_cases hzn : z < k
            · obtain ⟨t, rfl⟩ : ∃ t : Nat, z = (t : Int) := ⟨z.toNat, by omega⟩
              obtain ⟨y, hy⟩ : ∃ y, (seedsK k (ss.take i))[t]? = some y := ⟨(seedsK k (ss.take i))[t]'(by omega), by simp⟩
              obtain ⟨cy, fy⟩ := hfa.own.read hy
              have d1 : decide (0 ≤ (t : Int)) = true := decide_eq_true hz0
              have d2 : decide ((t : Int) < (k : Int)) = true := decide_eq_true hzn
              have d2' : decide (t < k) = true := decide_eq_true (by omega)
              have htk : t < k := by omega
              clear hfa hy hlen
              go_wp2_with fail
              go_quiet (fail)
              go_wp2_with fail
              go_roundw
              case rel =>
                refine ⟨i + 1, by omega, by go_num, ?_⟩
                rw [HTK.out, seed1, if_pos ⟨hz0, hzn⟩, Int.toNat_natCast]
                exact (HFA.out.drewN _).stored t 0
              case measure => simp [intOf]; omega
            · have d1 : decide (0 ≤ z) = true := decide_eq_true hz0
              have d2 : decide (z < (k : Int)) = false := decide_eq_false hzn
              clear hfa hlen
              go_wp2_with fail
              go_quiet (fail)
              go_wp2_with fail
              go_roundw
              case rel =>
                refine ⟨i + 1, by omega, by go_num, ?_⟩
                rw [HTK.out, seed1, if_neg (by omega)]
                exact HFA.out.drewN _
              case measure => simp [intOf]; omega
          · have d1 : decide (0 ≤ z) = false := decide_eq_false hz0
            clear hfa hlen
            go_wp2_with fail
            go_quiet (fail)
            go_wp2_with fail
            go_roundw
            case rel =>
              refine ⟨i + 1, by omega, by go_num, ?_⟩
              rw [HTK.out, seed1, if_neg (by omega)]
              exact HFA.out.drewN _
            case measure => simp [intOf]; omega
        · have hii : i = ss.length := by omega
          subst hii
          have hfa2 : FromAt w k A E.length c g (roundsK E (timesL ts E.length) (seedsK k ss) 0) wr := by
            rw [List.take_length] at hfa
            exact hfa
          have HFB := Lib.hid hfa2
          clear hfa hfa2 HFA hlt hi hlen
          go_wp2_with fail
          clear n0 n1
          obtain ⟨w2, rfl⟩ : ∃ w2 : World, w2 = wr := ⟨_, rfl⟩
          go_loopw [10] (fun iv wr => ∃ r : Nat, r ≤ k ∧ iv = .int .i64 r ∧ FromAt w k A E.length c g (roundsK E (timesL ts E.length) (seedsK k ss) r) wr) (fun i _ => k - (intOf i).toNat)
          case atStart => exact ⟨0, Nat.zero_le _, rfl, HFB.out⟩
          case round =>
            clear HFB
            obtain ⟨r, hr, rfl, hfa⟩ := hrel
            have HFA := Lib.hid hfa
            obtain ⟨n0, n1⟩ := net_cells hfa.below
            by_cases hlt : r < k
            · clear hfa
              go_wp2_with fail
              obtain ⟨w3, rfl⟩ : ∃ w3 : World, w3 = wr := ⟨_, rfl⟩
              go_loopw [11] (fun iv wr => ∃ i : Nat, i ≤ E.length ∧ iv = .int .i64 i ∧ FromAt w k A E.length c g (relaxK E (timesL ts E.length) (roundsK E (timesL ts E.length) (seedsK k ss) r) i) wr) (fun i _ => E.length - (intOf i).toNat)
              case atStart => exact ⟨0, Nat.zero_le _, rfl, HFA.out⟩
              case round =>
                clear HFA n0 n1
                obtain ⟨i, hi, rfl, hfa⟩ := hrel
                have HFA := Lib.hid hfa
                obtain ⟨n0, n1⟩ := net_cells hfa.below
                have hlow := (relaxK_ok hn (okW_times _ _) HOK.out (HLOW.out r) i).1
                by_cases hil : i < E.length
                · obtain ⟨⟨frm, too, tm⟩, hek⟩ : ∃ e, E[i]? = some e := ⟨E[i], by simp⟩
                  obtain ⟨b, o, rfl, hbb, e0, e1, e2⟩ := (HE.out.below hfa.all).at hek
                  obtain ⟨h1, h2, h3, h4⟩ := HOK.out _ (List.mem_of_getElem? hek)
                  simp only at e0 e1 e2 h1 h2 h3 h4
                  obtain ⟨f, rfl⟩ : ∃ f : Nat, frm = (f : Int) := ⟨frm.toNat, by omega⟩
                  obtain ⟨t, rfl⟩ : ∃ t : Nat, too = (t : Int) := ⟨too.toNat, by omega⟩
                  have hfk : f < k := by omega
                  have htk : t < k := by omega
                  obtain ⟨D, hD⟩ : ∃ D, D = relaxK E (timesL ts E.length) (roundsK E (timesL ts E.length) (seedsK k ss) r) i := ⟨_, rfl⟩
                  rw [← hD] at hlow hfa HFA
                  have hlen := hlow.len
                  obtain ⟨df, hdf⟩ : ∃ df, D[f]? = some df := ⟨D[f]'(by omega), by simp⟩
                  obtain ⟨dt, hdt⟩ : ∃ dt, D[t]? = some dt := ⟨D[t]'(by omega), by simp⟩
                  have bf := hlow.le_inf hn hdf
                  have bt := hlow.le_inf hn hdt
                  obtain ⟨x, hx⟩ : ∃ x, x = wAt ts i := ⟨_, rfl⟩
                  have bx := wAt_range ts i
                  rw [← hx] at bx
                  have HRX : Hid (relaxK E (timesL ts E.length) (roundsK E (timesL ts E.length) (seedsK k ss) r) (i + 1) = if x < 4611686018427387904 ∧ df < 4611686018427387904 ∧ df + x < dt then D.set t (df + x) else D) := Lib.hid (by
                    rw [relaxK_succ, ← hD]
                    exact relax1_at hek (by rw [hx]; exact timesL_at ts hil) rfl rfl hdf hdt)
                  obtain ⟨cf, ff⟩ := hfa.own.read hdf
                  obtain ⟨ct, ft⟩ := hfa.own.read hdt
                  have hgz : g < wr.heap.size := OwnV.lt_size hfa.own g rfl
                  have hge : ¬ g = wr.heap.size := by omega
                  have htm := refTime_any A1 c1 ts i (wr.alloc (.cells #[.int .i64 f, .int .i64 t, .int .i64 tm] 66)) w.heap.size ((HS.out.below hfa.all).alloc hfa.all.size _)
                  rw [← hx] at htm
                  have HTM := Lib.hid htm
                  have HFC := Lib.hid (HFA.out.alloc (.cells #[.int .i64 f, .int .i64 t, .int .i64 tm] 66))
                  clear hD hx hek hdf hdt hlow hfa HFA hlen htm
                  go_wp2_with fail
                  refine HTM.out.mono ?_
                  rintro e w' ⟨rfl, rfl⟩
                  clear HTM e0 e1 e2 n0 n1
                  by_cases c1 : x < 4611686018427387904
                  · have d1 : decide (x < 4611686018427387904) = true := decide_eq_true c1
                    by_cases c2 : df < 4611686018427387904
                    · have d2 : decide (df < 4611686018427387904) = true := decide_eq_true c2
                      have hsum : IntKind.i64.wrap (df + x) = df + x := IntWalk.i64_in _ (by omega)
                      by_cases c3 : df + x < dt
                      · have d3 : decide (df + x < dt) = true := decide_eq_true c3
                        go_wp2_with fail
                        go_quiet ((go_at_call 47; refine Calls.quiet_of_same ((never_any _).mono fun _ _ q => ⟨q.1, q.2.symm⟩)))
                        go_wp2_with fail
                        go_region
                        go_wp2_with fail
                        go_roundw
                        case rel => exact ⟨i + 1, by omega, by go_num, by rw [HRX.out, if_pos ⟨c1, c2, c3⟩]; exact (HFC.out.drewN (nq + 1)).stored t (df + x)⟩
                        case measure => simp [intOf]; omega
                      · have d3 : decide (df + x < dt) = false := decide_eq_false c3
                        go_wp2_with fail
                        go_quiet ((go_at_call 47; refine Calls.quiet_of_same ((never_any _).mono fun _ _ q => ⟨q.1, q.2.symm⟩)))
                        go_wp2_with fail
                        go_roundw
                        case rel => exact ⟨i + 1, by omega, by go_num, by rw [HRX.out, if_neg (by omega)]; exact HFC.out.drewN _⟩
                        case measure => simp [intOf]; omega
                    · have d2 : decide (df < 4611686018427387904) = false := decide_eq_false c2
                      go_wp2_with fail
                      go_quiet ((go_at_call 47; refine Calls.quiet_of_same ((never_any _).mono fun _ _ q => ⟨q.1, q.2.symm⟩)))
                      go_wp2_with fail
                      go_roundw
                      case rel => exact ⟨i + 1, by omega, by go_num, by rw [HRX.out, if_neg (by omega)]; exact HFC.out.drewN _⟩
                      case measure => simp [intOf]; omega
                  · have d1 : decide (x < 4611686018427387904) = false := decide_eq_false c1
                    go_wp2_with fail
                    go_quiet ((go_at_call 47; refine Calls.quiet_of_same ((never_any _).mono fun _ _ q => ⟨q.1, q.2.symm⟩)))
                    go_wp2_with fail
                    go_roundw
                    case rel => exact ⟨i + 1, by omega, by go_num, by rw [HRX.out, if_neg (by omega)]; exact HFC.out.drewN _⟩
                    case measure => simp [intOf]; omega
                · have hii : i = E.length := by omega
                  subst hii
                  clear hfa hlow
                  go_wp2_with fail
                  go_roundw
                  case rel => exact ⟨r + 1, by omega, by go_num, HFA.out⟩
                  case measure => simp [intOf]; omega
            · have hrr : r = k := by omega
              subst hrr
              clear hfa
              go_wp2_with fail
              go_ret
              have h1 := HFA.out.own
              rw [HDONE.out] at h1
              exact ⟨g, rfl, h1.base_le (by omega), HFA.out.all⟩
end
section
open Go.RowKit Go.Shelf Go.Maps

theorem below_dr {B : Nat} {a w : World} (n : Nat) (h : Below B a w) : Below B a (w.drewN n) := ⟨h.os, h.tape, h.output, h.size, h.block⟩

theorem Way.source {S : Nat → Prop} {E : List EdgeT} {W : List Int} {v : Nat} {d : Int} (h : Way S E W v d) : ∃ s, S s := by
  induction h with
  | src hs => exact ⟨_, hs⟩
  | step _ _ ih => exact ih
theorem Fin35.none {n : Nat} {S : Nat → Prop} {E : List EdgeT} {W D : List Int} (h : Fin35 n S E W D) (hS : ∀ s, ¬ S s) (v : Nat) (d : Int) (hd : D[v]? = some d) : d = 4611686018427387904 := by
  by_cases c : d = 4611686018427387904
  · exact c
  · obtain ⟨s, hs⟩ := (h.way v d hd c).source
    exact absurd hs (hS s)
theorem farStep_inf {D : List Int} (h : ∀ (v : Nat) (d : Int), D[v]? = some d → d = 4611686018427387904) {m : Int} (hm : m ≤ 4611686018427387904) (z : Int) : farStep D (some m) z = Option.none ∨ farStep D (some m) z = some 4611686018427387904 := by
  unfold farStep
  simp only [Option.bind_some]
  split
  · rename_i hz
    obtain ⟨d, hd⟩ : ∃ d, D[z.toNat]? = some d := ⟨D[z.toNat]'(by omega), by simp⟩
    right
    rw [List.getD_eq_getElem?_getD, hd, h _ _ hd]
    show some (max m 4611686018427387904) = _
    congr 1
    omega
  · exact .inl rfl
theorem far_inf {D : List Int} (h : ∀ (v : Nat) (d : Int), D[v]? = some d → d = 4611686018427387904) : ∀ (zs : List Int) {m : Int}, m ≤ 4611686018427387904 → zs ≠ [] → zs.foldl (farStep D) (some m) = Option.none ∨ zs.foldl (farStep D) (some m) = some 4611686018427387904
  | [], _, _, hne => absurd rfl hne
  | [z], m, hm, _ => farStep_inf h hm z
  | z :: y :: zs, m, hm, _ => by
    rw [List.foldl_cons]
    rcases farStep_inf h hm z with e | e
    · rw [e, far_none]
      exact .inl rfl
    · rw [e]
      exact far_inf h (y :: zs) (by omega) (by simp)
theorem farL_inf {D zs : List Int} (h : ∀ (v : Nat) (d : Int), D[v]? = some d → d = 4611686018427387904) : farL D zs = 4611686018427387904 := by
  unfold farL
  split
  · rfl
  · rename_i hne
    unfold farK
    rcases far_inf h zs (m := 0) (by omega) hne with e | e <;> rw [e] <;> rfl
theorem farK_ge {D zs : List Int} {m : Int} (h : farK D zs = some m) : 0 ≤ m := by
  unfold farK at h
  have key : ∀ (zs : List Int) (a m : Int), 0 ≤ a → zs.foldl (farStep D) (some a) = some m → 0 ≤ m := by
    intro zs
    induction zs with
    | nil => intro a m ha h; cases h; exact ha
    | cons z zs ih =>
      intro a m ha h
      rw [List.foldl_cons] at h
      unfold farStep at h
      simp only [Option.bind_some] at h
      split at h
      · exact ih _ _ (by omega) h
      · have := far_none D zs
        unfold farStep at this
        rw [this] at h
        cases h
  exact key zs 0 m (by omega) h

set_option maxRecDepth 100000 in
set_option maxHeartbeats 4000000 in
theorem refTime35_any (n : Nat) (E : List EdgeT) (A A1 A2 : Option Addr) (c c1 c2 : Nat) (ts zs Ds : List Int) (fr : Int) (w : World) (hn : n ≤ 256) (hE : E.length ≤ 16384) (he : EdgesAt w w.heap.size A E) (hok : ∀ e ∈ E, 0 ≤ e.frm ∧ e.frm < n ∧ 0 ≤ e.dst ∧ e.dst < n)
    (hs : Sl w w.heap.size A1 (ts.map (Value.int .i64))) (hss : Sl w w.heap.size A2 (zs.map (Value.int .i64))) (hsl : zs.length ≤ 16384) (hf : Fin35 n (fun s => (s : Int) ∈ [fr] ∧ s < n) E (timesL ts E.length) Ds) :
    Calls Tryz.prog 11 #[.agg #[.int .i64 n, .slice A E.length c], .slice A1 ts.length c1, .int .i64 fr, .slice A2 zs.length c2] w fun e w' => e = .returned (.int .i64 (farL Ds zs)) ∧ Below w.heap.size w w' := by
  have HB1 := Lib.hid ((Below.refl w.heap.size w).alloc (Nat.le_refl _) (.cells #[.int .i64 n, .slice A E.length c] 24))
  by_cases hfr : 0 ≤ fr ∧ fr < n
  · by_cases h0 : zs.length = 0
    · have d1 : decide (fr < 0) = false := decide_eq_false (by omega)
      have d2 : decide ((n : Int) ≤ fr) = false := decide_eq_false (by omega)
      have d3 : ((zs.length : Int) == 0) = true := beq_iff_eq.2 (by omega)
      have d3' : (zs.length == 0) = true := beq_iff_eq.2 h0
      have HV : Hid (farL Ds zs = 4611686018427387904) := Lib.hid (by rw [farL, if_pos (List.length_eq_zero_iff.1 h0)])
      clear he hok hs hss hf h0
      go_enter Tryz.func11, Tryz.ntmps11
      go_wp2_with fail
      go_ret
      exact ⟨ret_int HV.out.symm, HB1.out⟩
    · have d1 : decide (fr < 0) = false := decide_eq_false (by omega)
      have d2 : decide ((n : Int) ≤ fr) = false := decide_eq_false (by omega)
      have d3 : ((zs.length : Int) == 0) = false := beq_eq_false_iff_ne.2 (by omega)
      have d3' : (zs.length == 0) = false := beq_eq_false_iff_ne.2 h0
      have HNE : Hid (zs ≠ []) := Lib.hid (fun e => h0 (by rw [e]; rfl))
      have HB2 := Lib.hid (HB1.out.alloc (by simp) (.cells #[.int .i64 fr] 3))
      obtain ⟨W1, hW1⟩ : ∃ W1, W1 = w.alloc (.cells #[.int .i64 n, .slice A E.length c] 24) := ⟨_, rfl⟩
      have hfrom := refFrom_any n E A A1 (some ⟨W1.heap.size, 0, none⟩) c c1 1 ts [fr] Ds (W1.alloc (.cells #[.int .i64 fr] 3)) hn hE (by rw [hW1]; exact (he.below HB2.out).more HB2.out.size) hok (by rw [hW1]; exact (hs.below HB2.out).more HB2.out.size) (Sl.lit W1 [.int .i64 fr] 3 rfl) (by simp) hf
      have hWz : W1.heap.size = w.heap.size + 1 := by rw [hW1]; simp
      rw [hWz, List.length_singleton] at hfrom
      have hlen := hf.len
      have hce : (W1.alloc (.cells #[.int .i64 fr] 3)).cell? ⟨w.heap.size, 0, none⟩ = some (.int .i64 n) := by
        rw [World.cell?_alloc_lt _ _ _ (by rw [hW1]; simp), hW1, World.cell?_alloc_at (hn := rfl)]
        rfl
      have HCE : Hid ((W1.alloc (.cells #[.int .i64 fr] 3)).cell? ⟨w.heap.size, 0, none⟩ = some (.int .i64 n) ∧ w.heap.size < (W1.alloc (.cells #[.int .i64 fr] 3)).heap.size ∧ Below w.heap.size w (W1.alloc (.cells #[.int .i64 fr] 3))) := Lib.hid ⟨hce, by rw [hW1]; simp; omega, by rw [hW1]; exact HB2.out⟩
      rw [hW1] at hfrom HCE
      have HFROM := Lib.hid hfrom
      have HSS := Lib.hid hss
      have HLEN := Lib.hid hlen
      have HGE := Lib.hid (hf.small)
      clear he hok hs hss hf h0 hfr hW1 hce hfrom hlen hWz
      go_enter Tryz.func11, Tryz.ntmps11
      go_wp2_with fail
      ((with_reducible refine HFROM.out.mono ?_))
      rintro e w2 ⟨g, rfl, hown, hbb⟩
      obtain ⟨k1, k2, k3⟩ := HCE.out
      have HCN : Hid (w2.cell? ⟨w.heap.size, 0, none⟩ = some (.int .i64 n)) := Lib.hid ((hbb.cell (p := ⟨w.heap.size, 0, none⟩) k2).trans k1)
      have HBW := Lib.hid (k3.trans (hbb.mono k3.size))
      have HOW := Lib.hid hown
      have HSW := Lib.hid (HSS.out.below HBW.out)
      clear hbb k1 k2 k3 hown HCE HFROM HSS
      go_wp2_with fail
      go_loopw [10, 11] (fun mv iv wr => ∃ (k : Nat) (m : Int) (q : Nat), k ≤ zs.length ∧ iv = .int .i64 k ∧ mv = .int .i64 m ∧ wr = w2.drewN q ∧ farK Ds (zs.take k) = some m) (fun _ i _ => zs.length - (intOf i).toNat)
      case atStart => exact ⟨0, 0, 0, Nat.zero_le _, rfl, rfl, rfl, rfl⟩
      case round =>
        obtain ⟨k, m, q, hk, rfl, rfl, rfl, hm⟩ := hrel
        have HM := Lib.hid hm
        have hm0 := farK_ge hm
        have hcn := HCN.out
        clear hm
        by_cases hlt : k < zs.length
        · obtain ⟨z, hz⟩ : ∃ z, zs[k]? = some z := ⟨zs[k], by simp⟩
          obtain ⟨b, o, rfl, hb, hc⟩ := HSW.out.int hz
          have HZ := Lib.hid hz
          have HTK : Hid (zs.take (k + 1) = zs.take k ++ [z]) := Lib.hid (by
            have hl := (List.getElem?_eq_some_iff.1 hz).1
            rw [List.take_succ_eq_append_getElem hl, (List.getElem?_eq_some_iff.1 hz).2])
          clear hz
          by_cases hnode : 0 ≤ z ∧ z < n
          · obtain ⟨t, rfl⟩ : ∃ t : Nat, z = (t : Int) := ⟨z.toNat, by omega⟩
            have htn : t < n := by omega
            have htj : (t : Int) < (n : Int) := by omega
            have e1 : decide ((t : Int) < 0) = false := decide_eq_false (by omega)
            have e2 : decide ((n : Int) ≤ (t : Int)) = false := decide_eq_false (by omega)
            have e2' : decide (n ≤ t) = false := decide_eq_false (by omega)
            obtain ⟨dt, hdt⟩ : ∃ dt, Ds[t]? = some dt := ⟨Ds[t]'(by rw [HLEN.out]; exact htn), by simp⟩
            obtain ⟨hc2, _⟩ := HOW.out.read hdt
            have HREL : Hid (farK Ds (zs.take (k + 1)) = some (max m dt)) := Lib.hid (by
              rw [HTK.out, farK_snoc, HM.out]
              have hg : Ds.getD (t : Int).toNat 0 = dt := by rw [Int.toNat_natCast, List.getD_eq_getElem?_getD, hdt]; rfl
              show (if 0 ≤ (t : Int) ∧ (t : Int) < Ds.length then some (max m (Ds.getD (t : Int).toNat 0)) else none) = some (max m dt)
              rw [hg, if_pos (by rw [HLEN.out]; omega)])
            clear hdt hnode
            by_cases hmd : m < dt
            · have e3 : decide (m < dt) = true := decide_eq_true hmd
              go_wp2_with fail
              go_quiet (fail)
              go_wp2_with fail
              go_roundw
              case rel =>
                refine ⟨k + 1, dt, q + nq, by omega, by go_num, rfl, by first | rfl | (rw [World.drewN_drewN]), ?_⟩
                rw [HREL.out]
                congr 1
                omega
              case measure => simp [intOf]; omega
            · have e3 : decide (m < dt) = false := decide_eq_false hmd
              go_wp2_with fail
              go_quiet (fail)
              go_wp2_with fail
              go_roundw
              case rel =>
                refine ⟨k + 1, m, q + nq, by omega, by go_num, rfl, by first | rfl | (rw [World.drewN_drewN]), ?_⟩
                rw [HREL.out]
                congr 1
                omega
              case measure => simp [intOf]; omega
          · have HV : Hid (farL Ds zs = 4611686018427387904) := Lib.hid (by
              rw [farL, if_neg HNE.out, farK_none HM.out HZ.out (by rw [HLEN.out]; exact hnode)]
              rfl)
            by_cases hz0 : z < 0
            · have e1 : decide (z < 0) = true := decide_eq_true hz0
              clear hnode hz0
              go_wp2_with fail
              go_quiet (fail)
              go_wp2_with fail
              go_ret
              exact ⟨ret_int HV.out.symm, below_dr _ (below_dr _ HBW.out)⟩
            · have e1 : decide (z < 0) = false := decide_eq_false hz0
              have e2 : decide ((n : Int) ≤ z) = true := decide_eq_true (by omega)
              clear hnode hz0
              go_wp2_with fail
              go_quiet (fail)
              go_wp2_with fail
              go_ret
              exact ⟨ret_int HV.out.symm, below_dr _ (below_dr _ HBW.out)⟩
        · have hkk : k = zs.length := by omega
          subst hkk
          go_wp2_with fail
          go_ret
          refine ⟨ret_int ?_, below_dr _ HBW.out⟩
          have := HM.out
          rw [List.take_length] at this
          rw [farL, if_neg HNE.out, this]
          rfl
  · have HV : Hid (farL Ds zs = 4611686018427387904) := Lib.hid (farL_inf (hf.none (by
      rintro s ⟨h1, h2⟩
      simp at h1
      omega)))
    by_cases h1 : fr < 0
    · have d1 : decide (fr < 0) = true := decide_eq_true h1
      clear he hok hs hss hf hfr
      go_enter Tryz.func11, Tryz.ntmps11
      go_wp2_with fail
      go_ret
      exact ⟨ret_int HV.out.symm, HB1.out⟩
    · have d1 : decide (fr < 0) = false := decide_eq_false h1
      have d2 : decide ((n : Int) ≤ fr) = true := decide_eq_true (by omega)
      clear he hok hs hss hf hfr
      go_enter Tryz.func11, Tryz.ntmps11
      go_wp2_with fail
      go_ret
      exact ⟨ret_int HV.out.symm, HB1.out⟩
end
section
open Go.RowKit Go.Shelf Go.Maps

def okE (z : Int) (e : EdgeT) : Prop := 0 ≤ e.frm ∧ e.frm < z ∧ 0 ≤ e.dst ∧ e.dst < z ∧ 1 ≤ e.tm ∧ (e.tm ≤ 1048576 ∨ e.tm = 4611686018427387904)
def RightP (z : Int) (E : List EdgeT) : Prop := 1 ≤ z ∧ z ≤ 12 ∧ E.length ≤ 40 ∧ ∀ e ∈ E, okE z e
def RetRight (w : World) (z : Int) (E : List EdgeT) (e : Ending) (w' : World) : Prop := ∃ b, e = .returned (.bool b) ∧ (b = true ↔ RightP z E) ∧ Below w.heap.size w w'

set_option maxRecDepth 100000 in
set_option maxHeartbeats 4000000 in
theorem right_any (z : Int) (A : Option Addr) (c : Nat) (E : List EdgeT) (w : World) (he : EdgesAt w w.heap.size A E) (hl : E.length ≤ 9223372036854775807) :
    Calls Tryz.prog 28 #[.agg #[.int .i64 z, .slice A E.length c]] w (RetRight w z E) := by
  have HB1 := Lib.hid ((Below.refl w.heap.size w).alloc (Nat.le_refl _) (netCell z A E.length c))
  by_cases h1 : z < 1
  · have d1 : decide (z < 1) = true := decide_eq_true h1
    clear he
    go_enter Tryz.func28, Tryz.ntmps28
    go_wp2_with fail
    go_ret
    exact ⟨false, rfl, ⟨(fun h => by cases h), fun h => by have := h.1; omega⟩, HB1.out⟩
  · have d1 : decide (z < 1) = false := decide_eq_false h1
    by_cases h2 : 12 < z
    · have d2 : decide (12 < z) = true := decide_eq_true h2
      clear he
      go_enter Tryz.func28, Tryz.ntmps28
      go_wp2_with fail
      go_ret
      exact ⟨false, rfl, ⟨(fun h => by cases h), fun h => by have := h.2.1; omega⟩, HB1.out⟩
    · have d2 : decide (12 < z) = false := decide_eq_false h2
      by_cases h3 : 40 < E.length
      · have d3 : decide ((40 : Int) < (E.length : Int)) = true := decide_eq_true (by omega)
        clear he
        go_enter Tryz.func28, Tryz.ntmps28
        go_wp2_with fail
        go_ret
        exact ⟨false, rfl, ⟨(fun h => by cases h), fun h => by have := h.2.2.1; omega⟩, HB1.out⟩
      · have d3 : decide ((40 : Int) < (E.length : Int)) = false := decide_eq_false (by omega)
        have HE := Lib.hid he
        clear he
        go_enter Tryz.func28, Tryz.ntmps28
        go_wp2_with fail
        go_loopw [3] (fun iv wr => ∃ k : Nat, k ≤ E.length ∧ iv = .int .i64 k ∧ Below (w.heap.size + 1) (w.alloc (netCell z A E.length c)) wr ∧ ∀ e ∈ E.take k, okE z e) (fun i _ => E.length - (intOf i).toNat)
        case atStart => exact ⟨0, Nat.zero_le _, rfl, Below.refl _ _, by simp⟩
        case round =>
          obtain ⟨k, hk, rfl, hb, hall⟩ := hrel
          have hbw : Below w.heap.size w wr := HB1.out.trans (hb.mono (by omega))
          have hz := hb.size
          simp only [World.size_alloc] at hz
          have HB := Lib.hid hb
          have HBW := Lib.hid hbw
          have HALL := Lib.hid hall
          obtain ⟨n0, n1⟩ := net_cells hb
          clear hb hbw hall
          by_cases hlt : k < E.length
          · obtain ⟨⟨frm, too, tm⟩, hek⟩ : ∃ e, E[k]? = some e := ⟨E[k], by simp⟩
            obtain ⟨b, o, rfl, _, c0, c1, c2⟩ := (HE.out.below HBW.out).at hek
            simp only at c0 c1 c2
            have HBA := Lib.hid (HB.out.alloc hz (.cells #[.int .i64 frm, .int .i64 too, .int .i64 tm] 66))
            have HBX := Lib.hid (HBW.out.alloc (by omega) (.cells #[.int .i64 frm, .int .i64 too, .int .i64 tm] 66))
            have HNO : Hid (¬ okE z ⟨frm, too, tm⟩ → ¬ RightP z E) := Lib.hid (fun h hr => h (hr.2.2.2 _ (List.mem_of_getElem? hek)))
            have HYES : Hid (okE z ⟨frm, too, tm⟩ → ∀ e ∈ E.take (k + 1), okE z e) := Lib.hid (fun h e hm => by
              have hl := (List.getElem?_eq_some_iff.1 hek).1
              rw [List.take_succ_eq_append_getElem hl, (List.getElem?_eq_some_iff.1 hek).2, List.mem_append, List.mem_singleton] at hm
              rcases hm with hm | rfl
              · exact HALL.out e hm
              · exact h)
            have hwe : ¬ w.heap.size = wr.heap.size := by omega
            have hwz : w.heap.size < wr.heap.size := by omega
            clear hek hz
            have fin : ∀ q, RetRight w z E (.returned (.bool false)) ((wr.alloc (.cells #[.int .i64 frm, .int .i64 too, .int .i64 tm] 66)).drewN q) ∨ okE z ⟨frm, too, tm⟩ := fun q => by
              by_cases hh : okE z ⟨frm, too, tm⟩
              · exact .inr hh
              · exact .inl ⟨false, rfl, ⟨(fun h => by cases h), fun h => absurd h (HNO.out hh)⟩, below_dr _ HBX.out⟩
            have HFIN := Lib.hid fin
            clear fin
            by_cases k1 : frm < 0
            · have q1 : decide (frm < 0) = true := decide_eq_true k1
              go_wp2_with fail
              go_quiet (fail)
              go_wp2_with fail
              go_ret
              exact (HFIN.out _).resolve_right fun h => by have := h.1; simp at this; omega
            · have q1 : decide (frm < 0) = false := decide_eq_false k1
              by_cases k2 : z ≤ frm
              · have q2 : decide (z ≤ frm) = true := decide_eq_true k2
                go_wp2_with fail
                go_quiet (fail)
                go_wp2_with fail
                go_ret
                exact (HFIN.out _).resolve_right fun h => by have := h.2.1; simp at this; omega
              · have q2 : decide (z ≤ frm) = false := decide_eq_false k2
                by_cases k3 : too < 0
                · have q3 : decide (too < 0) = true := decide_eq_true k3
                  go_wp2_with fail
                  go_quiet (fail)
                  go_wp2_with fail
                  go_ret
                  exact (HFIN.out _).resolve_right fun h => by have := h.2.2.1; simp at this; omega
                · have q3 : decide (too < 0) = false := decide_eq_false k3
                  by_cases k4 : z ≤ too
                  · have q4 : decide (z ≤ too) = true := decide_eq_true k4
                    go_wp2_with fail
                    go_quiet (fail)
                    go_wp2_with fail
                    go_ret
                    exact (HFIN.out _).resolve_right fun h => by have := h.2.2.2.1; simp at this; omega
                  · have q4 : decide (z ≤ too) = false := decide_eq_false k4
                    by_cases k5 : tm < 1
                    · have q5 : decide (tm < 1) = true := decide_eq_true k5
                      go_wp2_with fail
                      go_quiet (fail)
                      go_wp2_with fail
                      go_ret
                      exact (HFIN.out _).resolve_right fun h => by have := h.2.2.2.2.1; simp at this; omega
                    · have q5 : decide (tm < 1) = false := decide_eq_false k5
                      by_cases k6 : 1048576 < tm
                      · have q6 : decide (1048576 < tm) = true := decide_eq_true k6
                        by_cases k7 : tm = 4611686018427387904
                        · have q7 : (tm != 4611686018427387904) = false := by simp [k7]
                          have HK7 := Lib.hid k7
                          clear k7
                          go_wp2_with fail
                          go_quiet ((go_at_call 47; refine Calls.quiet_of_same ((never_any _).mono fun _ _ q => ⟨q.1, q.2.symm⟩)))
                          go_wp2_with fail
                          go_roundw
                          case rel => exact ⟨k + 1, by omega, by go_num, below_dr _ HBA.out, HYES.out ⟨by simp; omega, by simp; omega, by simp; omega, by simp; omega, by simp; omega, .inr HK7.out⟩⟩
                          case measure => simp [intOf]; omega
                        · have q7 : (tm != 4611686018427387904) = true := by simp [k7]
                          have q7' : (tm == 4611686018427387904) = false := by simp [k7]
                          have HK7 := Lib.hid k7
                          clear k7
                          go_wp2_with fail
                          go_quiet ((go_at_call 47; refine Calls.quiet_of_same ((never_any _).mono fun _ _ q => ⟨q.1, q.2.symm⟩)))
                          go_wp2_with fail
                          go_ret
                          exact (HFIN.out _).resolve_right fun h => by
                            have := HK7.out
                            rcases h.2.2.2.2.2 with h | h
                            · simp at h; omega
                            · exact this h
                      · have q6 : decide (1048576 < tm) = false := decide_eq_false k6
                        go_wp2_with fail
                        go_quiet (fail)
                        go_wp2_with fail
                        go_roundw
                        case rel => exact ⟨k + 1, by omega, by go_num, below_dr _ HBA.out, HYES.out ⟨by simp; omega, by simp; omega, by simp; omega, by simp; omega, by simp; omega, .inl (by simp; omega)⟩⟩
                        case measure => simp [intOf]; omega
          · have hkk : k = E.length := by omega
            subst hkk
            go_wp2_with fail
            go_ret
            refine ⟨true, rfl, ⟨fun _ => ⟨by omega, by omega, by omega, ?_⟩, fun _ => rfl⟩, HBW.out⟩
            have := HALL.out
            rw [List.take_length] at this
            exact this
end
end Go.Proofs.YtimijjhdgihobaaGreatDoor
