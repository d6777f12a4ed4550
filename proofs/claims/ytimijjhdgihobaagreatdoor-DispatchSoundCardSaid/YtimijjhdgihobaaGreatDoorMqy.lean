/-
  assignment.square.advance (printed by genhul.py).
-/
import Derived.Test.YtimijjhdgihobaaGreatDoorMqx
namespace Go.Proofs.YtimijjhdgihobaaGreatDoor
section
open Go.RowKit Go.Maps

def neg (L : List Int) : Nat := L.countP (fun x => decide (x < 0))
theorem neg_set : ∀ {L : List Int} {k : Nat} {x : Int}, k < L.length → mF L k < 0 → 0 ≤ x → neg (L.set k x) + 1 = neg L
  | [], k, _, h, _, _ => by simp at h
  | a :: L, 0, x, _, h, hx => by
    have h : a < 0 := h
    have q : ¬ x < 0 := by omega
    simp [neg, h, q]
  | a :: L, k + 1, x, hk, h, hx => by
    have ih := neg_set (L := L) (k := k) (x := x) (by simpa using hk) (by simpa [mF] using h) hx
    unfold neg at ih ⊢
    rw [List.set_cons_succ, List.countP_cons, List.countP_cons, ← ih]
    omega
theorem neg_le (L : List Int) : neg L ≤ L.length := List.countP_le_length
def isNeg : Value → Bool
  | .int _ x => decide (x < 0)
  | _ => false
def negW (Y : World) (b : Nat) : Nat := match Y.heap[b]? with
  | some (.cells cs _ _) => cs.toList.countP isNeg
  | _ => 0
theorem negW_eq {Y : World} {b : Nat} {T : TypeId} {L : List Int} (h : BlkI Y b T L) : negW Y b = neg L := by
  have h : Y.heap[b]? = some (.cells (L.map (Value.int .i64)).toArray T (0, 0)) := h
  unfold negW
  rw [h]
  show (L.map (Value.int .i64)).countP isNeg = _
  rw [List.countP_map]
  rfl
def lenV : Value → Nat
  | .slice _ n _ => n
  | _ => 0
theorem QAt.lenV {Y : World} {base : Nat} {v : Value} {L : List Nat} (h : QAt Y base v L) : lenV v = L.length := by
  obtain ⟨g, o, cap, cur, rfl, _⟩ := h
  rfl
theorem QAt.more {Y : World} {base base' : Nat} {v : Value} {L : List Nat} (h : QAt Y base v L) (hb : base' ≤ base) : QAt Y base' v L := by
  obtain ⟨g, o, cap, cur, h1, h2, h3⟩ := h
  exact ⟨g, o, cap, cur, h1, Nat.le_trans hb h2, h3⟩
theorem Look.succ {C : Nat → Nat → Int} {u v : Nat → Int} {p : Nat → Nat} {row home : Nat} {tw : Nat → Int} {x k : Nat} (h : Look C u v p row home tw x k) (hk : k ≠ home → row < p k → Tg C u v (p k) x → 0 ≤ tw k) : Look C u v p row home tw x (k + 1) := by
  intro j hj h1 h2 h3
  by_cases e : j = k
  · subst e
    exact hk h1 h2 h3
  · exact h j (by omega) h1 h2 h3
theorem blk_sl {X : World} {b : Nat} {T : TypeId} {L : List Int} (h : BlkI X b T L) : Sl X X.heap.size (some ⟨b, 0, none⟩) (L.map (Value.int .i64)) := fun j u hj => ⟨b, 0, rfl, h.lt, by rw [Nat.zero_add]; exact Blk.cell h hj⟩
/-- what holds under way. -/
structure Ad (X Y : World) (z B q bu bv bp : Nat) (A : Option Addr) (c N : Nat) (C : List (List Int)) (U V P : List Int) (p : Nat → Nat) (row home : Nat) (qv : Value) (L : List Nat) (TW : List Int) (rk : Nat → Nat) (t : Nat) : Prop where
  sq : Sq Y B q bu bv bp A c N C U V P
  rt : BlkI Y z 3 TW
  tl : TW.length = N
  qa : QAt Y (z + 1) qv L
  bf : Bf (cF C) N (mF U) (mF V) p row home (mF TW) rk t
  mem : ∀ x ∈ L, x < N ∧ Zn home (mF TW) x
  cnt : L.length + neg TW ≤ N + 1
  uz : bu < z
  vz : bv < z
  pz : bp < z
  below : Below B X Y
theorem Ad.drew {X Y : World} {z B q bu bv bp : Nat} {A : Option Addr} {c N : Nat} {C : List (List Int)} {U V P : List Int} {p : Nat → Nat} {row home : Nat} {qv : Value} {L : List Nat} {TW : List Int} {rk : Nat → Nat} {t : Nat} (h : Ad X Y z B q bu bv bp A c N C U V P p row home qv L TW rk t) (n : Nat) : Ad X (Y.drewN n) z B q bu bv bp A c N C U V P p row home qv L TW rk t :=
  { h with sq := h.sq.drew n, rt := h.rt, qa := h.qa, below := ⟨h.below.os, h.below.tape, h.below.output, h.below.size, h.below.block⟩ }
theorem Zn.put {home : Nat} {tw : Nat → Int} {x j y : Nat} (h : Zn home tw x) : Zn home (putF tw j (y : Int)) x := by
  by_cases e : x = j
  · right; rw [e, putF_eq]; omega
  · rcases h with h | h
    · exact .inl h
    · right; rw [putF_ne _ e]; exact h
/-- a column joins the queue. -/
theorem Ad.push {X Y Y' : World} {z B q bu bv bp : Nat} {A : Option Addr} {c N : Nat} {C : List (List Int)} {U V P : List Int} {p : Nat → Nat} {row home : Nat} {qv qv' : Value} {L : List Nat} {TW : List Int} {rk : Nat → Nat} {t k x : Nat} (h : Ad X Y z B q bu bv bp A c N C U V P p row home qv L TW rk t) (hk : k < N) (hx : x < N) (hzx : Zn home (mF TW) x) (hkh : k ≠ home) (hn : mF TW k < 0) (hr : row < p k) (ht : Tg (cF C) (mF U) (mF V) (p k) x)
    (hqa : QAt Y' (z + 1) qv' (L ++ [k])) (hb : Below (z + 1) (Y.setCell ⟨z, k, none⟩ (.int .i64 (x : Int))) Y') : Ad X Y' z B q bu bv bp A c N C U V P p row home qv' (L ++ [k]) (TW.set k (x : Int)) (putF rk k (t + 1)) (t + 1) := by
  have hBz : B ≤ z := by have := h.uz; have := h.sq.uB; omega
  have hs := h.sq.other hBz (by have := h.uz; omega) (by have := h.vz; omega) (by have := h.pz; omega) k (.int .i64 (x : Int))
  have e := mF_set (L := TW) (k := k) (by rw [h.tl]; exact hk) (x : Int)
  refine ⟨{ hs with fld := hs.fld.below hb (by have := h.sq.qB; omega), mat := hs.mat.below (hb.mono (by omega)), ru := hs.ru.below hb (by have := h.uz; omega), rv := hs.rv.below hb (by have := h.vz; omega), rp := hs.rp.below hb (by have := h.pz; omega) }, (h.rt.set k (x : Int)).below hb (by omega), by rw [List.length_set]; exact h.tl, hqa, ?_, fun y hy => ?_, ?_, h.uz, h.vz, h.pz, ?_⟩
  · rw [e]
    exact h.bf.add hk hx hzx hkh hn hr ht
  · rw [e]
    rcases List.mem_append.1 hy with hy | hy
    · exact ⟨(h.mem y hy).1, (h.mem y hy).2.put⟩
    · rw [List.mem_singleton.1 hy]
      exact ⟨hk, .inr (by rw [putF_eq]; omega)⟩
  · have := neg_set (L := TW) (k := k) (x := (x : Int)) (by rw [h.tl]; exact hk) hn (by omega)
    have := h.cnt
    rw [List.length_append, List.length_singleton]
    omega
  · exact (h.below.setCell (p := ⟨z, k, none⟩) hBz (.int .i64 (x : Int))).trans (hb.mono (by omega))
set_option maxRecDepth 100000 in
set_option maxHeartbeats 16000000 in
theorem advance_any (X : World) (B q bu bv bp : Nat) (A : Option Addr) (c N : Nat) (C : List (List Int)) (U V P : List Int) (row : Nat) (p : Nat → Nat) (hN : N ≤ 128) (h : Sq X B q bu bv bp A c N C U V P) (hp : Pf (cF C) N (mF U) (mF V) p) (hpp : ∀ j, j < N → mF P j = p j) (hf : First (cF C) N (mF U) (mF V) p row) (hrow : row < N)
    (hub : ∀ i, i < N → 0 ≤ mF U i ∧ mF U i ≤ 36028797018963968) (hvb : ∀ j, j < N → -36028797018963968 ≤ mF V j ∧ mF V j ≤ 0) :
    Calls Tryz.prog 74 #[.pointer (some ⟨q, 0, none⟩), .int .i64 row] X fun e X' => e = .returned (.tuple #[]) ∧ ∃ P' p', Sq X' B q bu bv bp A c N C U V P' ∧ (∀ j, j < N → mF P' j = (p' j : Nat)) ∧ Pf (cF C) N (mF U) (mF V) p' ∧ First (cF C) N (mF U) (mF V) p' (row + 1) ∧ Below B X X' := by
  obtain ⟨home, hh, hpr⟩ := hp.inj.onto hrow
  have HP := Lib.hid (And.intro hp (And.intro hpp (And.intro hf (And.intro hrow (And.intro hh hpr)))))
  have HB := Lib.hid (And.intro hub hvb)
  have HS := Lib.hid h
  have HIX := Lib.hid (index_any X X.heap.size (some ⟨bp, 0, none⟩) N P (row : Int) home (blk_sl h.rp) (by rw [h.pl]; omega) (by rw [h.pl]; exact hh) (by rw [hpp home hh, hpr]) (fun j hj e => by
    rw [hpp j (by omega)] at e
    have := hp.inj.inj j home (by omega) hh (by omega)
    omega))
  rw [h.pl] at HIX
  have hm2 := fun W => make_intH W N (by omega)
  have f1 := h.fld.cell (j := 1) rfl
  have f2 := h.fld.cell (j := 2) rfl
  have hq : q < X.heap.size := h.fld.lt
  have hhi : (home : Int) < (N : Int) := by omega
  obtain ⟨W1, hW1⟩ : ∃ W, W = X.alloc (.cells (madeCells #[.int .i64 0] N) 3) := ⟨_, rfl⟩
  have HW1 : Hid (Sq W1 B q bu bv bp A c N C U V P ∧ BlkI W1 X.heap.size 3 (List.replicate N 0) ∧ Below B X W1) := Lib.hid (by
    have h1 := below_newH X (.cells (madeCells #[.int .i64 0] N) 3)
    have k1 := blk_new X (List.replicate N (.int .i64 0)) 3
    rw [← made_list, ← hW1] at k1
    rw [← hW1] at h1
    refine ⟨h.next h1, ?_, h1.mono h.ge⟩
    unfold BlkI
    rw [List.map_replicate]
    exact k1)
  clear hp hpp hf hub hvb h
  go_enter Tryz.func74, Tryz.ntmps74
  go_wp2_with fail
  refine HIX.out.mono ?_
  rintro e X0 ⟨rfl, hX0⟩
  rw [hX0]
  clear hX0 X0 HIX
  go_wp2_with fail
  rw [← hW1]
  clear hW1 hm2 f1 f2
  go_loopw [24] (fun iv Y => ∃ (k : Nat) (TW : List Int), k ≤ N ∧ iv = .int .i64 k ∧ TW.length = N ∧ (∀ j, j < k → mF TW j = -1) ∧ BlkI Y X.heap.size 3 TW ∧ Sq Y B q bu bv bp A c N C U V P ∧ Below B X Y) (fun iv _ => N - (intOf iv).toNat)
  case atStart => exact ⟨0, _, Nat.zero_le _, rfl, by simp, fun j hj => by omega, HW1.out.2.1, HW1.out.1, HW1.out.2.2⟩
  case round =>
    obtain ⟨k, TW, hk, rfl, htl, hall, hbt, hsq, hbl⟩ := hrel
    have HR := Lib.hid (And.intro htl (And.intro hall (And.intro hbt (And.intro hsq hbl))))
    clear htl hall hbt hsq hbl
    have hzB : B ≤ X.heap.size := HS.out.ge
    by_cases hlt : k < N
    · have hlt' : (k : Int) < (N : Int) := by omega
      have ct := HR.out.2.2.1.cell (j := k) (by rw [HR.out.1]; exact hlt)
      have zt := HR.out.2.2.1.free k
      have lt := HR.out.2.2.1.lt
      have HN := Lib.hid (And.intro (HR.out.2.2.1.set k (-1)) (And.intro (HR.out.2.2.2.1.other hzB (Nat.ne_of_lt HS.out.ru.lt) (Nat.ne_of_lt HS.out.rv.lt) (Nat.ne_of_lt HS.out.rp.lt) k (.int .i64 (-1))) (HR.out.2.2.2.2.setCell (p := ⟨X.heap.size, k, none⟩) hzB (.int .i64 (-1)))))
      have HM := Lib.hid (mF_set (L := TW) (k := k) (by rw [HR.out.1]; exact hlt) (-1))
      go_wp2_with fail
      go_roundw
      case rel =>
        refine ⟨k + 1, _, by omega, by go_num, by rw [List.length_set]; exact HR.out.1, fun j hj => ?_, HN.out.1, HN.out.2.1, HN.out.2.2⟩
        rw [HM.out]
        by_cases e : j = k
        · rw [e, putF_eq]
        · rw [putF_ne _ e]; exact HR.out.2.1 j (by omega)
      case measure => simp [intOf]; omega
    · obtain rfl : N = k := by omega
      have HAD : Hid (Ad X (wr.alloc (.cells #[.int .i64 (home : Int)] 3)) X.heap.size B q bu bv bp A c N C U V P p row home (.slice (some ⟨wr.heap.size, 0, none⟩) 1 1) [home] TW (fun _ => 0) 0) := Lib.hid (by
        have hlt := HR.out.2.2.1.lt
        have hbn := below_newH wr (.cells #[.int .i64 (home : Int)] 3)
        exact ⟨HR.out.2.2.2.1.next hbn, HR.out.2.2.1.next hbn, HR.out.1, (QAt.lit wr home).more (by omega), Bf.start HP.out.2.2.2.2.1 HR.out.2.1, fun x hx => by rw [List.mem_singleton.1 hx]; exact ⟨HP.out.2.2.2.2.1, .inl rfl⟩, by have := neg_le TW; have := HR.out.1; simp; omega, HS.out.ru.lt, HS.out.rv.lt, HS.out.rp.lt, HR.out.2.2.2.2.trans (hbn.mono HR.out.2.2.2.1.ge)⟩)
      have HTW := Lib.hid HR.out.2.1
      go_wp2_with fail
      go_loopw [7] (fun qv Y => ∃ (L : List Nat) (TW : List Int) (rk : Nat → Nat) (t : Nat), Ad X Y X.heap.size B q bu bv bp A c N C U V P p row home qv L TW rk t ∧ (∀ y, y < N → Zn home (mF TW) y → y ∈ L ∨ Look (cF C) (mF U) (mF V) p row home (mF TW) y N)) (fun qv Y => 2 * negW Y X.heap.size + lenV qv)
      case atStart =>
        refine ⟨[home], TW, _, _, HAD.out, fun y hy hz => .inl ?_⟩
        rcases hz with e | e
        · rw [e]; simp
        · have := HTW.out y hy; omega
      case round =>
        obtain ⟨L, TW, rk, t, had, hcl⟩ := hrel
        clear HAD HTW HR HW1
        have HA := Lib.hid had
        have HC := Lib.hid hcl
        clear hcl
        cases L with
        | nil =>
          obtain ⟨g, off, cap, cur, rfl, _⟩ := had.qa
          clear had
          simp only [List.length_nil]
          have HALL := Lib.hid (show ∀ y, y < N → Zn home (mF TW) y → Look (cF C) (mF U) (mF V) p row home (mF TW) y N from fun y hy hz => (HC.out y hy hz).resolve_left (fun q => by cases q))
          go_wp2_with fail
          go_loopw [89] (fun iv Y => ∃ k : Nat, k ≤ home ∧ iv = .int .i64 k ∧ Sq Y B q bu bv bp A c N C U V P ∧ BlkI Y X.heap.size 3 TW ∧ Below B X Y ∧ ∀ j, j < k → 0 ≤ mF TW j → ¬ Tg (cF C) (mF U) (mF V) row j) (fun iv _ => home - (intOf iv).toNat)
          case atStart => exact ⟨0, Nat.zero_le _, rfl, HA.out.sq, HA.out.rt, HA.out.below, fun j hj => by omega⟩
          case round =>
            obtain ⟨k, hk, rfl, hsq, hrt, hbl, hno⟩ := hrel
            have HR := Lib.hid (And.intro hsq (And.intro hrt (And.intro hbl hno)))
            clear hsq hrt hbl hno
            by_cases hlt : k < home
            · have hlt' : (k : Int) < (home : Int) := by omega
              have hkN : k < N := by omega
              have hkN' : (k : Int) < (N : Int) := by omega
              have ct := HR.out.2.1.cell (j := k) (by rw [HA.out.tl]; exact hkN)
              by_cases htw : mF TW k < 0
              · have dt : decide (mF TW k < 0) = true := decide_eq_true htw
                have HN := Lib.hid (show ∀ j, j < k + 1 → 0 ≤ mF TW j → ¬ Tg (cF C) (mF U) (mF V) row j from fun j hj h0 => by
                  by_cases e : j = k
                  · rw [e] at h0; omega
                  · exact HR.out.2.2.2 j (by omega) h0)
                clear htw
                go_wp2_with fail
                go_roundw
                case rel => exact ⟨k + 1, by omega, by go_num, HR.out.1, HR.out.2.1, HR.out.2.2.1, HN.out⟩
                case measure => simp [intOf]; omega
              have dt : decide (mF TW k < 0) = false := decide_eq_false htw
              have HTG := Lib.hid (tight_any wr B q bu bv bp A c N C U V P row k hrow hkN HR.out.1 (by have := HB.out.1 row hrow; omega) (by have := HB.out.2 k hkN; omega))
              have HTW := Lib.hid (show 0 ≤ mF TW k by omega)
              clear htw
              go_wp2_with fail
              refine HTG.out.mono ?_
              rintro e Y ⟨rfl, nn, rfl⟩
              have HBW := Lib.hid (show Below B X (wr.drewN nn) from ⟨HR.out.2.2.1.os, HR.out.2.2.1.tape, HR.out.2.2.1.output, HR.out.2.2.1.size, HR.out.2.2.1.block⟩)
              cases hb : tgB (cF C) (mF U) (mF V) row k with
              | false =>
                have HN := Lib.hid (show ∀ j, j < k + 1 → 0 ≤ mF TW j → ¬ Tg (cF C) (mF U) (mF V) row j from fun j hj h0 => by
                  by_cases e : j = k
                  · rw [e, ← tgB_iff, hb]; simp
                  · exact HR.out.2.2.2 j (by omega) h0)
                clear hb
                go_wp2_with fail
                go_roundw
                case rel => exact ⟨k + 1, by omega, by go_num, HR.out.1.drew nn, HR.out.2.1, HBW.out, HN.out⟩
                case measure => simp [intOf]; omega
              | true =>
                have HTT := Lib.hid (tgB_iff.1 hb)
                have HNL := Lib.hid (Bf.least HP.out.1 HA.out.bf HP.out.2.2.2.1 HP.out.2.2.2.2.1 HP.out.2.2.2.2.2 HALL.out (Nat.le_of_lt hlt) HR.out.2.2.2)
                have HSH := Lib.hid (shift_any (wr.drewN nn) B q bu bv bp A c N C U V P p row home k X.heap.size TW rk t (HR.out.1.drew nn) HP.out.1 HP.out.2.1 HA.out.bf HP.out.2.2.2.1 HP.out.2.2.2.2.1 HP.out.2.2.2.2.2 hkN (by omega) (.inr HTW.out) HTT.out HR.out.2.1 HA.out.tl HS.out.ge (Nat.ne_of_gt HS.out.rp.lt))
                clear hb
                go_wp2_with fail
                refine HSH.out.mono ?_
                rintro e Y ⟨rfl, P', p', h1, h2, h3, h4⟩
                have HE := Lib.hid (And.intro h1 (And.intro h2 (And.intro h3 h4)))
                clear h1 h2 h3 h4
                go_wp2_with fail
                refine bodyPost_ret (v := .tuple #[]) (by simp [results, Tryz.results74, go_sem]) rfl ?_
                exact ⟨rfl, P', p', HE.out.1, HE.out.2.1, HE.out.2.2.1.pf, First.shift HP.out.1 HP.out.2.2.1 hkN HP.out.2.2.2.1 HNL.out HE.out.2.2.1, HBW.out.trans HE.out.2.2.2⟩
            · obtain rfl : home = k := by omega
              have HNL := Lib.hid (Bf.least HP.out.1 HA.out.bf HP.out.2.2.2.1 HP.out.2.2.2.2.1 HP.out.2.2.2.2.2 HALL.out (Nat.le_refl _) HR.out.2.2.2)
              go_wp2_with fail
              refine bodyPost_end (v := .tuple #[]) (by simp [results, Tryz.results74, go_sem]) rfl ?_
              exact ⟨rfl, P, p, HR.out.1, HP.out.2.1, HP.out.1, First.stay HP.out.1 HP.out.2.2.1 HP.out.2.2.2.2.1 HP.out.2.2.2.2.2 HNL.out, HR.out.2.2.1⟩
        | cons x L =>
          have hxN := (HA.out.mem x (by simp)).1
          have HZX := Lib.hid (HA.out.mem x (by simp)).2
          have HQ := Lib.hid had.qa
          obtain ⟨g, off, cap, cur, rfl, hg, hhp, hsz, hlc, hcc⟩ := had.qa
          have cx : wr.cell? ⟨g, off, none⟩ = some (.int .i64 (x : Int)) := by
            rw [Lib.cell_of_heap hhp]
            exact hcc 0 x rfl
          have f1 := HA.out.sq.fld.cell (j := 1) rfl
          have HM0 := Lib.hid (And.intro (negW_eq HA.out.rt) (HA.out.qa.lenV))
          obtain ⟨n1, hn1⟩ : ∃ n, n = (x :: L).length := ⟨_, rfl⟩
          have hn1' : 0 < n1 := by rw [hn1]; simp
          have hn1'' : (0 : Int) < (n1 : Int) := by omega
          have HN1 := Lib.hid hn1
          rw [← hn1] at HQ ⊢
          clear had hg hhp hsz hlc hcc hn1
          go_wp2_with (refine wpList_pop _ rfl (.tmp 39) (.const (.int .i64 1)) 44 3 rfl Tryz.underlying44 (by kernel_rfl) (by kernel_rfl) (X.heap.size + 1) _ x L rfl rfl HQ.out ?_; intro qv hqv)
          have HA1 : Hid (Ad X wr X.heap.size B q bu bv bp A c N C U V P p row home qv L TW rk t) := Lib.hid { HA.out with qa := hqv, mem := fun y hy => HA.out.mem y (by simp [hy]), cnt := by have := HA.out.cnt; simp at this; omega }
          clear hqv cx f1
          obtain ⟨M0, hM0⟩ : ∃ M, M = 2 * neg TW + (x :: L).length := ⟨_, rfl⟩
          have HMM := Lib.hid hM0
          have HLT : Hid (2 * neg TW + L.length < M0) := Lib.hid (by rw [hM0]; simp)
          clear hM0
          go_loopw [45, 7] (fun iv qv Y => ∃ (k : Nat) (L2 : List Nat) (TW2 : List Int) (rk2 : Nat → Nat) (t2 : Nat), k ≤ N ∧ iv = .int .i64 k ∧ Ad X Y X.heap.size B q bu bv bp A c N C U V P p row home qv L2 TW2 rk2 t2 ∧ Zn home (mF TW2) x ∧ (∀ y, y < N → Zn home (mF TW2) y → y ∈ L2 ∨ Look (cF C) (mF U) (mF V) p row home (mF TW2) y N ∨ y = x) ∧ Look (cF C) (mF U) (mF V) p row home (mF TW2) x k ∧ 2 * neg TW2 + L2.length < M0) (fun iv _ _ => N - (intOf iv).toNat)
          case atStart =>
            refine ⟨0, L, TW, rk, t, Nat.zero_le _, rfl, HA1.out, HZX.out, fun y hy hz => ?_, fun j hj => by omega, HLT.out⟩
            rcases HC.out y hy hz with h1 | h1
            · rcases List.mem_cons.1 h1 with h2 | h2
              · exact .inr (.inr h2)
              · exact .inl h2
            · exact .inr (.inl h1)
          case round =>
            obtain ⟨k, L2, TW2, rk2, t2, hk, rfl, had, hzx, hcl, hlk, hms⟩ := hrel
            clear HA1 HQ
            have HA2 := Lib.hid had
            have HR := Lib.hid (And.intro hzx (And.intro hcl (And.intro hlk hms)))
            clear had hzx hcl hlk hms
            by_cases hlt : k < N
            · have hlt' : (k : Int) < (N : Int) := by omega
              by_cases hkh : k = home
              · have HN := Lib.hid (HR.out.2.2.1.succ (fun q => absurd hkh q))
                have dh : ((k : Int) == (home : Int)) = true := by rw [hkh]; simp
                clear hkh
                go_wp2_with fail
                go_roundw
                case rel => exact ⟨k + 1, L2, TW2, rk2, t2, by omega, by go_num, HA2.out, HR.out.1, HR.out.2.1, HN.out, HR.out.2.2.2⟩
                case measure => simp [intOf]; omega
              have dh : ((k : Int) == (home : Int)) = false := by rw [beq_eq_false_iff_ne]; omega
              have ct := HA2.out.rt.cell (j := k) (by rw [HA2.out.tl]; exact hlt)
              by_cases htw : 0 ≤ mF TW2 k
              · have HN := Lib.hid (HR.out.2.2.1.succ (fun _ _ _ => htw))
                have dt : decide ((0 : Int) ≤ mF TW2 k) = true := decide_eq_true htw
                clear hkh htw
                go_wp2_with fail
                go_roundw
                case rel => exact ⟨k + 1, L2, TW2, rk2, t2, by omega, by go_num, HA2.out, HR.out.1, HR.out.2.1, HN.out, HR.out.2.2.2⟩
                case measure => simp [intOf]; omega
              have dt : decide ((0 : Int) ≤ mF TW2 k) = false := decide_eq_false htw
              have f2 := HA2.out.sq.fld.cell (j := 2) rfl
              have cp := HA2.out.sq.rp.cell (j := k) (by rw [HA2.out.sq.pl]; exact hlt)
              rw [HP.out.2.1 k hlt] at cp
              by_cases hpk : p k ≤ row
              · have HN := Lib.hid (HR.out.2.2.1.succ (fun _ q _ => by omega))
                have dp : decide (p k ≤ row) = true := decide_eq_true (by omega)
                clear hkh htw hpk
                go_wp2_with fail
                go_roundw
                case rel => exact ⟨k + 1, L2, TW2, rk2, t2, by omega, by go_num, HA2.out, HR.out.1, HR.out.2.1, HN.out, HR.out.2.2.2⟩
                case measure => simp [intOf]; omega
              have dp : decide (p k ≤ row) = false := decide_eq_false (by omega)
              have hpN := HP.out.1.inj.lt k hlt
              have HTG := Lib.hid (tight_any wr B q bu bv bp A c N C U V P (p k) x hpN hxN HA2.out.sq (by have := HB.out.1 (p k) hpN; omega) (by have := HB.out.2 x hxN; omega))
              have HKF := Lib.hid (And.intro hkh (And.intro (show mF TW2 k < 0 by omega) (show row < p k by omega)))
              clear hkh htw hpk
              go_wp2_with fail
              refine HTG.out.mono ?_
              rintro e Y ⟨rfl, nn, rfl⟩
              cases hb : tgB (cF C) (mF U) (mF V) (p k) x with
              | false =>
                have HN := Lib.hid (HR.out.2.2.1.succ (fun _ _ q => by rw [← tgB_iff, hb] at q; cases q))
                have HA3 := Lib.hid (HA2.out.drew nn)
                clear hb
                go_wp2_with fail
                go_roundw
                case rel => exact ⟨k + 1, L2, TW2, rk2, t2, by omega, by go_num, HA3.out, HR.out.1, HR.out.2.1, HN.out, HR.out.2.2.2⟩
                case measure => simp [intOf]; omega
              | true =>
                have HTT := Lib.hid (tgB_iff.1 hb)
                have HA3 := Lib.hid (HA2.out.drew nn)
                have zt := HA2.out.rt.free k
                have lt := HA2.out.rt.lt
                have hll : L2.length ≤ 65536 := by have := HA2.out.cnt; omega
                have HWW : Hid (QAt (((wr.drewN nn).setCell ⟨X.heap.size, k, none⟩ (.int .i64 (x : Int))).alloc (.cells #[.int .i64 (k : Int)] 3)) (X.heap.size + 1) u7 L2 ∧ X.heap.size + 1 ≤ (((wr.drewN nn).setCell ⟨X.heap.size, k, none⟩ (.int .i64 (x : Int))).alloc (.cells #[.int .i64 (k : Int)] 3)).heap.size) := Lib.hid (by
                  have h1 := HA3.out.qa.other (b := X.heap.size) (by omega) k (.int .i64 (x : Int))
                  obtain ⟨g, o, cap, cur, e1, e2, e3, e4⟩ := h1
                  refine ⟨⟨g, o, cap, cur, e1, e2, ?_, e4⟩, by simp; omega⟩
                  exact (below_newH _ _).block g (Array.getElem?_eq_some_iff.1 e3).1 |>.trans e3)
                have hc3 : (((wr.drewN nn).setCell ⟨X.heap.size, k, none⟩ (.int .i64 (x : Int))).alloc (.cells #[.int .i64 (k : Int)] 3)).cell? ⟨wr.heap.size, 0, none⟩ = some (.int .i64 (k : Int)) := by
                  have e : ((wr.drewN nn).setCell ⟨X.heap.size, k, none⟩ (.int .i64 (x : Int))).heap.size = wr.heap.size := by simp
                  rw [← e, Lib.cell_of_heap (blk_new _ [.int .i64 (k : Int)] _)]
                  rfl
                have HB3 := Lib.hid (show Below (X.heap.size + 1) ((wr.drewN nn).setCell ⟨X.heap.size, k, none⟩ (.int .i64 (x : Int))) (((wr.drewN nn).setCell ⟨X.heap.size, k, none⟩ (.int .i64 (x : Int))).alloc (.cells #[.int .i64 (k : Int)] 3)) from (Below.refl _ _).alloc (by simp; omega) _)
                have HEM := Lib.hid (And.intro (mF_set (L := TW2) (k := k) (by rw [HA2.out.tl]; exact hlt) (x : Int)) (neg_set (L := TW2) (k := k) (x := (x : Int)) (by rw [HA2.out.tl]; exact hlt) HKF.out.2.1 (by omega)))
                clear hb
                go_wp2_with ((with_reducible refine hAt 86 rfl ?_); refine wpList_push _ rfl (.tmp 83) (.tmp 85) 44 rfl Tryz.underlying44 int_infoH (X.heap.size + 1) _ L2 rfl HWW.out.1 hll HWW.out.2 _ k rfl hc3 ?_; intro qv3 W3 hqa3 hb3)
                have HPU := Lib.hid (HA3.out.push hlt hxN HR.out.1 HKF.out.1 HKF.out.2.1 HKF.out.2.2 HTT.out hqa3 (HB3.out.trans hb3))
                clear hqa3 hb3 hc3
                go_roundw
                case rel =>
                  refine ⟨k + 1, L2 ++ [k], _, _, _, by omega, by go_num, HPU.out, ?_, fun y hy hz => ?_, ?_, ?_⟩
                  · rw [HEM.out.1]; exact HR.out.1.put
                  · rw [HEM.out.1] at hz ⊢
                    by_cases e : y = k
                    · exact .inl (by rw [e]; simp)
                    · have hz2 : Zn home (mF TW2) y := by
                        rcases hz with h1 | h1
                        · exact .inl h1
                        · rw [putF_ne _ e] at h1; exact .inr h1
                      rcases HR.out.2.1 y hy hz2 with h1 | h1 | h1
                      · exact .inl (by simp [h1])
                      · exact .inr (.inl (h1.put k x))
                      · exact .inr (.inr h1)
                  · rw [HEM.out.1]
                    exact (HR.out.2.2.1.put k x).succ (fun _ _ _ => by rw [putF_eq]; omega)
                  · have := HEM.out.2
                    have := HR.out.2.2.2
                    rw [List.length_append, List.length_singleton]
                    omega
                case measure => simp [intOf]; omega
            · obtain rfl : N = k := by omega
              have HMS := Lib.hid (And.intro (negW_eq HA2.out.rt) HA2.out.qa.lenV)
              go_wp2_with fail
              go_roundw
              case rel =>
                refine ⟨L2, TW2, rk2, t2, HA2.out, fun y hy hz => ?_⟩
                rcases HR.out.2.1 y hy hz with h1 | h1 | h1
                · exact .inl h1
                · exact .inr h1
                · exact .inr (by rw [h1]; exact HR.out.2.2.1)
              case measure =>
                have h1 := HR.out.2.2.2
                have h2 : lenV (.slice (some ⟨g, off, none⟩) n1 cap) = (x :: L).length := by rw [← HN1.out]; rfl
                rw [HMM.out] at h1
                rw [HMS.out.1, HMS.out.2, HM0.out.1, h2]
                exact h1
end
end Go.Proofs.YtimijjhdgihobaaGreatDoor
