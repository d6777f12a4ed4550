/-
  assignment.square.insert.
-/
import Derived.Test.YtimijjhdgihobaaGreatDoorMqv
import Derived.Test.YtimijjhdgihobaaGreatDoorProg
import Derived.WalkLawsBesides
import Derived.WalkSpells
import Derived.BigGuardPart
import Derived.Deep.Light
import Derived.Lib.SliceRun
import Derived.Deep.QuietTactic
import Derived.BigQuiet
import Derived.BigRegion
import Derived.Deep.RegionHeld3
import Derived.Deep.RegionLaw
import Derived.Laws.MakeOwn
import Derived.RegionTactic
import Derived.Deep.DeepCutAuto
namespace Go.Proofs.YtimijjhdgihobaaGreatDoor
section
open Go.RowKit Go.Maps

theorem bool_infoH : (Tryz.prog.info? 4).map (fun i => (i.zero, i.size, i.bytes)) = some (some (.bool false), 1, 1) := by kernel_rfl
theorem int_infoH : (Tryz.prog.info? 3).map (fun i => (i.zero, i.size, i.bytes)) = some (some (.int .i64 0), 1, 8) := by kernel_rfl
theorem make_intH (w : World) (n : Nat) (h : n ≤ 16777216) : (Instr.makeSlice 44 (.int .i64 n) (.int .i64 n)).run Tryz.prog w = .ok (.slice (some ⟨w.heap.size, 0, none⟩) n n) (w.alloc (.cells (madeCells #[.int .i64 0] n) 3)) := by
  obtain ⟨i0, hi, hz1, hz2, hz3⟩ := info_parts int_infoH
  have := run_makeSlice (P := Tryz.prog) w 44 3 i0 (.int .i64 0) Tryz.underlying44 hi hz1 .i64 .i64 n n (by omega) (by omega) (by rw [hz2]; simp; omega) (by rw [hz3]; omega) (by omega)
  rw [hz2] at this
  have e : (Value.int .i64 0).cells = #[Value.int .i64 0] := rfl
  rw [e] at this
  simpa using this
theorem i64_infoH : (Tryz.prog.info? 2).map (fun i => (i.zero, i.size, i.bytes)) = some (some (.int .i64 0), 1, 8) := by kernel_rfl
theorem make_i64H (w : World) (n : Nat) (h : n ≤ 16777216) : (Instr.makeSlice 25 (.int .i64 n) (.int .i64 n)).run Tryz.prog w = .ok (.slice (some ⟨w.heap.size, 0, none⟩) n n) (w.alloc (.cells (madeCells #[.int .i64 0] n) 2)) := by
  obtain ⟨i0, hi, hz1, hz2, hz3⟩ := info_parts i64_infoH
  have := run_makeSlice (P := Tryz.prog) w 25 2 i0 (.int .i64 0) Tryz.underlying25 hi hz1 .i64 .i64 n n (by omega) (by omega) (by rw [hz2]; simp; omega) (by rw [hz3]; omega) (by omega)
  rw [hz2] at this
  have e : (Value.int .i64 0).cells = #[Value.int .i64 0] := rfl
  rw [e] at this
  simpa using this
theorem make_boolH (w : World) (n : Nat) (h : n ≤ 16777216) : (Instr.makeSlice 99 (.int .i64 n) (.int .i64 n)).run Tryz.prog w = .ok (.slice (some ⟨w.heap.size, 0, none⟩) n n) (w.alloc (.cells (madeCells #[.bool false] n) 4)) := by
  obtain ⟨i0, hi, hz1, hz2, hz3⟩ := info_parts bool_infoH
  have := run_makeSlice (P := Tryz.prog) w 99 4 i0 (.bool false) Tryz.underlying99 hi hz1 .i64 .i64 n n (by omega) (by omega) (by rw [hz2]; simp; omega) (by rw [hz3]; omega) (by omega)
  rw [hz2] at this
  have e : (Value.bool false).cells = #[Value.bool false] := rfl
  rw [e] at this
  simpa using this
theorem made_list {v : Value} (n : Nat) : (madeCells #[v] n) = (List.replicate n v).toArray := by
  apply Array.ext'
  apply List.ext_getElem?
  intro i
  by_cases h : i < n
  · simp [madeCells, h, Nat.mod_one]
  · simp [madeCells, h]
theorem below_newH (w : World) (o : Obj) : Below w.heap.size w (w.alloc o) := (Below.refl _ _).alloc (Nat.le_refl _) _
/-- memory under way in insert: z, z + 1, z + 2 are slack, before, used. -/
structure Im (X Y : World) (z B q bu bv bp : Nat) (A : Option Addr) (c N : Nat) (C : List (List Int)) (U V P S T : List Int) (O : List Bool) : Prop where
  sq : Sq Y B q bu bv bp A c N C U V P
  rs : BlkI Y z 2 S
  rb : BlkI Y (z + 1) 3 T
  rx : BlkB Y (z + 1 + 1) 4 O
  sl : S.length = N
  tl : T.length = N
  ol : O.length = N
  uz : bu < z
  vz : bv < z
  pz : bp < z
  below : Below B X Y
section
variable {X Y : World} {z B q bu bv bp : Nat} {A : Option Addr} {c N : Nat} {C : List (List Int)} {U V P S T : List Int} {O : List Bool}
theorem Im.zB (h : Im X Y z B q bu bv bp A c N C U V P S T O) : B ≤ z := by have := h.uz; have := h.sq.uB; omega
theorem Im.setS (h : Im X Y z B q bu bv bp A c N C U V P S T O) (j : Nat) (x : Int) : Im X (Y.setCell ⟨z, j, none⟩ (.int .i64 x)) z B q bu bv bp A c N C U V P (S.set j x) T O :=
  { h with sq := h.sq.other h.zB (by have := h.uz; omega) (by have := h.vz; omega) (by have := h.pz; omega) _ _, rs := h.rs.set j x, rb := h.rb.other (by omega) _ _, rx := h.rx.other (by omega) _ _, sl := by rw [List.length_set]; exact h.sl, below := h.below.setCell (p := ⟨z, j, none⟩) h.zB _ }
theorem Im.setT (h : Im X Y z B q bu bv bp A c N C U V P S T O) (j : Nat) (x : Int) : Im X (Y.setCell ⟨z + 1, j, none⟩ (.int .i64 x)) z B q bu bv bp A c N C U V P S (T.set j x) O :=
  { h with sq := h.sq.other (by have := h.zB; omega) (by have := h.uz; omega) (by have := h.vz; omega) (by have := h.pz; omega) _ _, rs := h.rs.other (by omega) _ _, rb := h.rb.set j x, rx := h.rx.other (by omega) _ _, tl := by rw [List.length_set]; exact h.tl, below := h.below.setCell (p := ⟨z + 1, j, none⟩) (by have := h.zB; show B ≤ z + 1; omega) _ }
theorem Im.setO (h : Im X Y z B q bu bv bp A c N C U V P S T O) (j : Nat) (x : Bool) : Im X (Y.setCell ⟨z + 1 + 1, j, none⟩ (.bool x)) z B q bu bv bp A c N C U V P S T (O.set j x) :=
  { h with sq := h.sq.other (by have := h.zB; omega) (by have := h.uz; omega) (by have := h.vz; omega) (by have := h.pz; omega) _ _, rs := h.rs.other (by omega) _ _, rb := h.rb.other (by omega) _ _, rx := h.rx.set j x, ol := by rw [List.length_set]; exact h.ol, below := h.below.setCell (p := ⟨z + 1 + 1, j, none⟩) (by have := h.zB; show B ≤ z + 1 + 1; omega) _ }
theorem Im.setU (h : Im X Y z B q bu bv bp A c N C U V P S T O) (j : Nat) (x : Int) : Im X (Y.setCell ⟨bu, j, none⟩ (.int .i64 x)) z B q bu bv bp A c N C (U.set j x) V P S T O :=
  { h with sq := h.sq.setU j x, rs := h.rs.other (by have := h.uz; omega) _ _, rb := h.rb.other (by have := h.uz; omega) _ _, rx := h.rx.other (by have := h.uz; omega) _ _, below := h.below.setCell (p := ⟨bu, j, none⟩) h.sq.uB _ }
theorem Im.setV (h : Im X Y z B q bu bv bp A c N C U V P S T O) (j : Nat) (x : Int) : Im X (Y.setCell ⟨bv, j, none⟩ (.int .i64 x)) z B q bu bv bp A c N C U (V.set j x) P S T O :=
  { h with sq := h.sq.setV j x, rs := h.rs.other (by have := h.vz; omega) _ _, rb := h.rb.other (by have := h.vz; omega) _ _, rx := h.rx.other (by have := h.vz; omega) _ _, below := h.below.setCell (p := ⟨bv, j, none⟩) h.sq.vB _ }
theorem Im.setP (h : Im X Y z B q bu bv bp A c N C U V P S T O) (j : Nat) (x : Int) : Im X (Y.setCell ⟨bp, j, none⟩ (.int .i64 x)) z B q bu bv bp A c N C U V (P.set j x) S T O :=
  { h with sq := h.sq.setP j x, rs := h.rs.other (by have := h.pz; omega) _ _, rb := h.rb.other (by have := h.pz; omega) _ _, rx := h.rx.other (by have := h.pz; omega) _ _, below := h.below.setCell (p := ⟨bp, j, none⟩) h.sq.pB _ }
theorem Im.drew (h : Im X Y z B q bu bv bp A c N C U V P S T O) (n : Nat) : Im X (Y.drewN n) z B q bu bv bp A c N C U V P S T O :=
  { h with sq := { h.sq with fld := h.sq.fld, mat := h.sq.mat.below ⟨rfl, rfl, rfl, Nat.le_refl _, fun _ _ => rfl⟩, ru := h.sq.ru, rv := h.sq.rv, rp := h.sq.rp }, rs := h.rs, rb := h.rb, rx := h.rx, below := ⟨h.below.os, h.below.tape, h.below.output, h.below.size, h.below.block⟩ }
end
theorem made_get {v : Value} {n : Nat} {L : List Int} (h : L.map (Value.int .i64) = List.replicate n v) : (madeCells #[v] n) = (L.map (Value.int .i64)).toArray := by rw [made_list, h]
def isF : Value → Bool
  | .bool false => true
  | _ => false
/-- how many columns are not used, read off memory. -/
def leftW (Y : World) (b : Nat) : Nat := match Y.heap[b]? with
  | some (.cells cs _ _) => cs.toList.countP isF
  | _ => 0
theorem leftW_eq {Y : World} {b : Nat} {T : TypeId} {O : List Bool} (h : BlkB Y b T O) : leftW Y b = left O := by
  have h : Y.heap[b]? = some (.cells (O.map Value.bool).toArray T (0, 0)) := h
  unfold leftW
  rw [h]
  show (O.map Value.bool).countP isF = _
  rw [List.countP_map]
  unfold left
  congr 1
  funext b
  cases b <;> rfl
/-- what insert brings about. -/
def RetIns (X : World) (B q bu bv bp : Nat) (A : Option Addr) (c N : Nat) (C : List (List Int)) (R s : Nat) (e : Ending) (X' : World) : Prop :=
  e = .returned (.tuple #[]) ∧ ∃ U' V' P', Sq X' B q bu bv bp A c N C U' V' P' ∧ Mt (cF C) R N (s + 1) (mF U') (mF V') (mF P') ∧ Below B X X'
set_option maxRecDepth 100000 in
set_option maxHeartbeats 16000000 in
theorem insert_any (X : World) (B q bu bv bp : Nat) (A : Option Addr) (c N : Nat) (C : List (List Int)) (U V P : List Int) (R K s : Nat) (hc : Cs (cF C) R K N) (hs : s < N) (hm : Mt (cF C) R N s (mF U) (mF V) (mF P)) (h : Sq X B q bu bv bp A c N C U V P) :
    Calls Tryz.prog 73 #[.pointer (some ⟨q, 0, none⟩), .int .i64 s] X (RetIns X B q bu bv bp A c N C R s) := by
  have hA : ∃ ab ao, A = some ⟨ab, ao, none⟩ := by
    obtain ⟨b, o, _, _, e, _⟩ := h.mat.row (i := s) (row := C[s]'(by rw [h.cl]; exact hs)) (List.getElem?_eq_getElem _)
    exact ⟨b, o, e⟩
  obtain ⟨ab, ao, rfl⟩ := hA
  have hN : N ≤ 128 := by have := hc.n; have := hc.r64; have := hc.k64; omega
  have hm1 := fun W => make_i64H W N (by omega)
  have hm2 := fun W => make_intH W N (by omega)
  have hm3 := fun W => make_boolH W N (by omega)
  obtain ⟨W3, hW3⟩ : ∃ W, W = ((X.alloc (.cells (madeCells #[.int .i64 0] N) 2)).alloc (.cells (madeCells #[.int .i64 0] N) 3)).alloc (.cells (madeCells #[.bool false] N) 4) := ⟨_, rfl⟩
  have HP := Lib.hid (And.intro hc (And.intro hs hm))
  have HS := Lib.hid h
  have f1 := h.fld.cell (j := 1) rfl
  have hq : q < X.heap.size := h.fld.lt
  have HW3 := Lib.hid hW3
  clear hc hm h
  go_enter Tryz.func73, Tryz.ntmps73
  go_wp2_with fail
  rw [← hW3]
  have HI3 : Hid (Im X W3 X.heap.size B q bu bv bp (some ⟨ab, ao, none⟩) c N C U V P (List.replicate N 0) (List.replicate N 0) (List.replicate N false)) := Lib.hid (by
    have h1 := below_newH X (.cells (madeCells #[.int .i64 0] N) 2)
    have h2 := below_newH (X.alloc (.cells (madeCells #[.int .i64 0] N) 2)) (.cells (madeCells #[.int .i64 0] N) 3)
    have h3 := below_newH ((X.alloc (.cells (madeCells #[.int .i64 0] N) 2)).alloc (.cells (madeCells #[.int .i64 0] N) 3)) (.cells (madeCells #[.bool false] N) 4)
    have k1 := blk_new X (List.replicate N (.int .i64 0)) 2
    have k2 := blk_new (X.alloc (.cells (madeCells #[.int .i64 0] N) 2)) (List.replicate N (.int .i64 0)) 3
    have k3 := blk_new ((X.alloc (.cells (madeCells #[.int .i64 0] N) 2)).alloc (.cells (madeCells #[.int .i64 0] N) 3)) (List.replicate N (.bool false)) 4
    have s1 : (X.alloc (.cells (madeCells #[.int .i64 0] N) 2)).heap.size = X.heap.size + 1 := by simp
    have s2 : ((X.alloc (.cells (madeCells #[.int .i64 0] N) 2)).alloc (.cells (madeCells #[.int .i64 0] N) 3)).heap.size = X.heap.size + 1 + 1 := by simp
    rw [← made_list] at k1 k2 k3
    rw [s1] at k2
    rw [s2] at k3
    rw [hW3]
    have hb : Below X.heap.size X W3 := by rw [hW3]; exact (h1.trans (h2.mono h1.size)).trans (h3.mono (Nat.le_trans h1.size h2.size))
    rw [hW3] at hb
    refine ⟨HS.out.next hb, ?_, ?_, ?_, by simp, by simp, by simp, HS.out.ru.lt, HS.out.rv.lt, HS.out.rp.lt, hb.mono HS.out.ge⟩
    · unfold BlkI
      rw [List.map_replicate]
      exact (k1.next h2).next h3
    · unfold BlkI
      rw [List.map_replicate]
      exact k2.next h3
    · unfold BlkB
      rw [List.map_replicate]
      exact k3)
  clear hW3 hm1 hm2 hm3 f1 hq
  go_loopw [33] (fun iv Y => ∃ (k : Nat) (S T : List Int), k ≤ N ∧ iv = .int .i64 k ∧ (∀ j, j < k → mF S j = 4611686018427387904 ∧ mF T j = -1) ∧ Im X Y X.heap.size B q bu bv bp (some ⟨ab, ao, none⟩) c N C U V P S T (List.replicate N false)) (fun iv _ => N - (intOf iv).toNat)
  case atStart => exact ⟨0, _, _, Nat.zero_le _, rfl, fun j hj => by omega, HI3.out⟩
  case round =>
    obtain ⟨k, S, T, hk, rfl, hst, him⟩ := hrel
    have HIM := Lib.hid him
    have HST := Lib.hid hst
    clear him hst
    by_cases hlt : k < N
    · have hlt' : (k : Int) < (N : Int) := by omega
      have c1 := HIM.out.rs.cell (j := k) (by rw [HIM.out.sl]; exact hlt)
      have z1 := HIM.out.rs.free k
      have l1 := HIM.out.rs.lt
      have c2 := HIM.out.rb.cell (j := k) (by rw [HIM.out.tl]; exact hlt)
      have z2 := HIM.out.rb.free k
      have l2 := HIM.out.rb.lt
      have HN := Lib.hid ((HIM.out.setS k 4611686018427387904).setT k (-1))
      go_wp2_with fail
      go_roundw
      case rel =>
        refine ⟨k + 1, S.set k 4611686018427387904, T.set k (-1), by omega, by go_num, fun j hj => ?_, HN.out⟩
        rw [mF_set (by rw [HIM.out.sl]; exact hlt), mF_set (by rw [HIM.out.tl]; exact hlt)]
        by_cases e : j = k
        · rw [e, putF_eq, putF_eq]; exact ⟨rfl, rfl⟩
        · rw [putF_ne _ e, putF_ne _ e]; exact HST.out j (by omega)
      case measure => simp [intOf]; omega
    · obtain rfl : N = k := by omega
      have HD0 : Hid (Dj (cF C) N s (mF U) (mF V) (mF P) (mF U) (mF V) (mF S) (mF T) (bF (List.replicate N false)) (fun r => r = s) (fun _ => 0) 0) := Lib.hid (Dj.start HP.out.1 HP.out.2.2 HP.out.2.1 (fun j hj => (HST.out j hj).1) (fun j hj => by unfold bF; rw [List.getElem?_replicate, if_pos hj]; rfl))
      have hs1 : s < N := HP.out.2.1
      go_wp2_with fail
      go_loopw [8, 9] (fun rv lv Y => ∃ (row : Nat) (last : Int) (U' V' S' T' : List Int) (O : List Bool) (rk : Nat → Nat) (t : Nat), rv = .int .i64 row ∧ lv = .int .i64 last ∧ row < N ∧ Im X Y X.heap.size B q bu bv bp (some ⟨ab, ao, none⟩) c N C U' V' P S' T' O ∧ Dj (cF C) N s (mF U) (mF V) (mF P) (mF U') (mF V') (mF S') (mF T') (bF O) (fun r => r = row) rk t ∧ ((last = -1 ∧ row = s) ∨ ∃ l : Nat, l < N ∧ last = l ∧ bF O l = true ∧ mF P l = row)) (fun _ _ Y => leftW Y (X.heap.size + 1 + 1))
      case atStart => exact ⟨s, -1, U, V, S, T, _, _, _, rfl, rfl, hs1, HIM.out, HD0.out, .inl ⟨rfl, rfl⟩⟩
      case round =>
        rename_i Y _
        obtain ⟨row, last, U', V', S', T', O, rk, t, rfl, rfl, hrow, him, hdj, hlast⟩ := hrel
        clear HIM HST HI3 HD0
        have HIM := Lib.hid him
        have HDJ := Lib.hid hdj
        have HLA := Lib.hid hlast
        have f1 := him.sq.fld.cell (j := 1) rfl
        clear him hdj hlast
        go_wp2_with fail
        go_loopw [10, 48] (fun nv iv Y2 => ∃ (k : Nat) (nx : Int) (S2 T2 : List Int), k ≤ N ∧ nv = .int .i64 nx ∧ iv = .int .i64 k ∧ Im X Y2 X.heap.size B q bu bv bp (some ⟨ab, ao, none⟩) c N C U' V' P S2 T2 O ∧ ScanH (cF C) N (mF U') (mF V') (bF O) row last (mF S') (mF T') k (mF S2) (mF T2) nx) (fun _ iv _ => N - (intOf iv).toNat)
        case atStart => exact ⟨0, -1, S', T', Nat.zero_le _, rfl, rfl, HIM.out, ScanH.start⟩
        case round =>
          rename_i Y2 _
          obtain ⟨k, nx, S2, T2, hk, rfl, rfl, him, hsc⟩ := hrel
          have HI2 := Lib.hid him
          have HSC := Lib.hid hsc
          clear him hsc
          by_cases hlt : k < N
          · have hlt' : (k : Int) < (N : Int) := by omega
            have co := HI2.out.rx.cell (j := k) (by rw [HI2.out.ol]; exact hlt)
            have zo := HI2.out.sq.qB
            cases hO : bF O k with
            | true =>
              rw [hO] at co
              have HN := Lib.hid (HSC.out.skip hO)
              clear hO
              go_wp2_with fail
              go_roundw
              case rel => exact ⟨k + 1, nx, S2, T2, by omega, rfl, by go_num, HI2.out, HN.out⟩
              case measure => simp [intOf]; omega
            | false =>
              rw [hO] at co
              have HO := Lib.hid hO
              clear hO
              obtain ⟨_, b2, o2, c2, hb2, e1, e2⟩ := HI2.out.sq.mat.num HI2.out.sq.rl (i := row) (j := k) (by rw [HI2.out.sq.cl]; exact hrow) hlt
              have f0 := HI2.out.sq.fld.cell (j := 0) rfl
              obtain ⟨x, hx⟩ : ∃ x, x = cF C row k := ⟨_, rfl⟩
              have HX := Lib.hid hx
              rw [← hx] at e2
              clear hx hb2
              by_cases hinf : x = 4611686018427387904
              · have HIF := Lib.hid (show ¬ cF C row k ≠ 4611686018427387904 by rw [← HX.out, hinf]; simp)
                subst hinf
                go_wp2_with fail
                have HM := Lib.hid (HI2.out)
                have cs := HM.out.rs.cell (j := k) (by rw [HM.out.sl]; exact hlt)
                have HLK := Lib.hid (fun (nx' : Int) (hn : ((nx < 0 ∨ ∃ x : Nat, nx = x ∧ mF S2 k < mF S2 x) ∧ nx' = k) ∨ (∃ x : Nat, nx = x ∧ ¬ mF S2 k < mF S2 x ∧ nx' = nx)) => HSC.out.look hlt HO.out (.inr ⟨fun q => absurd q HIF.out, rfl, rfl⟩) hn)
                rcases HSC.out.nx with ⟨hn, _⟩ | ⟨y, hy, hn, _, _⟩
                · subst hn
                  clear HSC
                  go_quiet (fail)
                  go_wp2_with fail
                  go_roundw
                  case rel => exact ⟨k + 1, (k : Int), S2, T2, by omega, by first | rfl | go_num, by go_num, HM.out.drew _, HLK.out _ (.inl ⟨.inl (by decide), rfl⟩)⟩
                  case measure => simp [intOf]; omega
                · subst hn
                  have hyN : y < N := by omega
                  have dy : decide ((y : Int) < 0) = false := decide_eq_false (by omega)
                  have cy := HM.out.rs.cell (j := y) (by rw [HM.out.sl]; exact hyN)
                  by_cases hq : mF S2 k < mF S2 y
                  · have dq : decide (mF S2 k < mF S2 y) = true := decide_eq_true hq
                    have HQ := Lib.hid hq
                    clear hq
                    go_quiet (fail)
                    go_wp2_with fail
                    go_roundw
                    case rel => exact ⟨k + 1, (k : Int), S2, T2, by omega, by first | rfl | go_num, by go_num, HM.out.drew _, HLK.out _ (.inl ⟨.inr ⟨y, rfl, HQ.out⟩, rfl⟩)⟩
                    case measure => simp [intOf]; omega
                  · have dq : decide (mF S2 k < mF S2 y) = false := decide_eq_false hq
                    have HQ := Lib.hid hq
                    clear hq
                    go_quiet (fail)
                    go_wp2_with fail
                    go_roundw
                    case rel => exact ⟨k + 1, (y : Int), S2, T2, by omega, by first | rfl | go_num, by go_num, HM.out.drew _, HLK.out _ (.inr ⟨y, rfl, HQ.out, rfl⟩)⟩
                    case measure => simp [intOf]; omega
              · have HB := Lib.hid (HDJ.out.bound HP.out.1 HP.out.2.2 HP.out.2.1)
                have hrs : row ≤ s := by
                  rcases HLA.out with ⟨_, e⟩ | ⟨l, hl, _, _, e⟩
                  · omega
                  · rcases HP.out.2.2.rng l hl with e2 | ⟨r, hr, e2⟩ <;> omega
                have hx47 : 0 ≤ x ∧ x ≤ 140737488355328 := by
                  rcases HP.out.1.bnd row k hrow hlt with e | e
                  · rw [← HX.out] at e; exact absurd e hinf
                  · rw [← HX.out] at e; exact e
                have hu := HB.out.2.2.1 row hrs
                have hv := HB.out.2.2.2 k hlt
                have w1 : IntKind.i64.wrap (x - mF U' row) = x - mF U' row := IntWalk.i64_in _ (by omega)
                have w2 : IntKind.i64.wrap (x - mF U' row - mF V' k) = x - mF U' row - mF V' k := IntWalk.i64_in _ (by omega)
                have cu := HI2.out.sq.ru.cell (j := row) (by rw [HI2.out.sq.ul]; exact hrow)
                have cv := HI2.out.sq.rv.cell (j := k) (by rw [HI2.out.sq.vl]; exact hlt)
                have f3 := HI2.out.sq.fld.cell (j := 3) rfl
                have f4 := HI2.out.sq.fld.cell (j := 4) rfl
                have HIF := Lib.hid (show cF C row k ≠ 4611686018427387904 by rw [← HX.out]; exact hinf)
                have HXE := Lib.hid (show cF C row k - mF U' row - mF V' k = x - mF U' row - mF V' k by rw [HX.out])
                have cs := HI2.out.rs.cell (j := k) (by rw [HI2.out.sl]; exact hlt)
                clear hx47 hu hv hrs
                go_wp2_with fail
                go_quiet (fail)
                have HD3 := Lib.hid (HI2.out.drew nq)
                obtain ⟨sv, hsv⟩ : ∃ v, v = x - mF U' row - mF V' k := ⟨_, rfl⟩
                rw [← hsv] at HXE ⊢
                clear hsv w1 w2 cu cv f3 f4
                by_cases hless : sv < mF S2 k
                · have dl : decide (sv < mF S2 k) = true := decide_eq_true hless
                  have HLS := Lib.hid hless
                  have z1 := HI2.out.rs.free k
                  have l1 := HI2.out.rs.lt
                  have ct := HI2.out.rb.cell (j := k) (by rw [HI2.out.tl]; exact hlt)
                  have z2 := HI2.out.rb.free k
                  have l2 := HI2.out.rb.lt
                  have HM0 := Lib.hid ((HD3.out.setS k sv).setT k last)
                  obtain ⟨S3, hS3⟩ : ∃ S, S = S2.set k sv := ⟨_, rfl⟩
                  obtain ⟨T3, hT3⟩ : ∃ T, T = T2.set k last := ⟨_, rfl⟩
                  have HE3 := Lib.hid (And.intro (show mF S3 = putF (mF S2) k (cF C row k - mF U' row - mF V' k) by rw [hS3, mF_set (by rw [HI2.out.sl]; exact hlt), HXE.out]) (show mF T3 = putF (mF T2) k last by rw [hT3, mF_set (by rw [HI2.out.tl]; exact hlt)]))
                  rw [← hS3, ← hT3] at HM0
                  clear hless hS3 hT3
                  go_wp2_with fail
                  clear cs ct z1 z2 l1 l2 dl
                  have HM := Lib.hid (HM0.out)
                  have cs := HM.out.rs.cell (j := k) (by rw [HM.out.sl]; exact hlt)
                  have HLK := Lib.hid (fun (nx' : Int) (hn : ((nx < 0 ∨ ∃ x : Nat, nx = x ∧ mF S3 k < mF S3 x) ∧ nx' = k) ∨ (∃ x : Nat, nx = x ∧ ¬ mF S3 k < mF S3 x ∧ nx' = nx)) => HSC.out.look hlt HO.out (.inl ⟨HIF.out, by rw [HXE.out]; exact HLS.out, HE3.out.1, HE3.out.2⟩) hn)
                  rcases HSC.out.nx with ⟨hn, _⟩ | ⟨y, hy, hn, _, _⟩
                  · subst hn
                    clear HSC
                    go_quiet (fail)
                    go_wp2_with fail
                    go_roundw
                    case rel => exact ⟨k + 1, (k : Int), S3, T3, by omega, by first | rfl | go_num, by go_num, HM.out.drew _, HLK.out _ (.inl ⟨.inl (by decide), rfl⟩)⟩
                    case measure => simp [intOf]; omega
                  · subst hn
                    have hyN : y < N := by omega
                    have dy : decide ((y : Int) < 0) = false := decide_eq_false (by omega)
                    have cy := HM.out.rs.cell (j := y) (by rw [HM.out.sl]; exact hyN)
                    by_cases hq : mF S3 k < mF S3 y
                    · have dq : decide (mF S3 k < mF S3 y) = true := decide_eq_true hq
                      have HQ := Lib.hid hq
                      clear hq
                      go_quiet (fail)
                      go_wp2_with fail
                      go_roundw
                      case rel => exact ⟨k + 1, (k : Int), S3, T3, by omega, by first | rfl | go_num, by go_num, HM.out.drew _, HLK.out _ (.inl ⟨.inr ⟨y, rfl, HQ.out⟩, rfl⟩)⟩
                      case measure => simp [intOf]; omega
                    · have dq : decide (mF S3 k < mF S3 y) = false := decide_eq_false hq
                      have HQ := Lib.hid hq
                      clear hq
                      go_quiet (fail)
                      go_wp2_with fail
                      go_roundw
                      case rel => exact ⟨k + 1, (y : Int), S3, T3, by omega, by first | rfl | go_num, by go_num, HM.out.drew _, HLK.out _ (.inr ⟨y, rfl, HQ.out, rfl⟩)⟩
                      case measure => simp [intOf]; omega
                · have dl : decide (sv < mF S2 k) = false := decide_eq_false hless
                  have HLS := Lib.hid hless
                  clear hless
                  go_wp2_with fail
                  clear cs dl
                  have HM := Lib.hid (HI2.out)
                  have cs := HM.out.rs.cell (j := k) (by rw [HM.out.sl]; exact hlt)
                  have HLK := Lib.hid (fun (nx' : Int) (hn : ((nx < 0 ∨ ∃ x : Nat, nx = x ∧ mF S2 k < mF S2 x) ∧ nx' = k) ∨ (∃ x : Nat, nx = x ∧ ¬ mF S2 k < mF S2 x ∧ nx' = nx)) => HSC.out.look hlt HO.out (.inr ⟨fun _ => by rw [HXE.out]; have := HLS.out; omega, rfl, rfl⟩) hn)
                  rcases HSC.out.nx with ⟨hn, _⟩ | ⟨y, hy, hn, _, _⟩
                  · subst hn
                    clear HSC
                    go_quiet (fail)
                    go_wp2_with fail
                    go_roundw
                    case rel => exact ⟨k + 1, (k : Int), S2, T2, by omega, by first | rfl | go_num, by go_num, HM.out.drew _, HLK.out _ (.inl ⟨.inl (by decide), rfl⟩)⟩
                    case measure => simp [intOf]; omega
                  · subst hn
                    have hyN : y < N := by omega
                    have dy : decide ((y : Int) < 0) = false := decide_eq_false (by omega)
                    have cy := HM.out.rs.cell (j := y) (by rw [HM.out.sl]; exact hyN)
                    by_cases hq : mF S2 k < mF S2 y
                    · have dq : decide (mF S2 k < mF S2 y) = true := decide_eq_true hq
                      have HQ := Lib.hid hq
                      clear hq
                      go_quiet (fail)
                      go_wp2_with fail
                      go_roundw
                      case rel => exact ⟨k + 1, (k : Int), S2, T2, by omega, by first | rfl | go_num, by go_num, HM.out.drew _, HLK.out _ (.inl ⟨.inr ⟨y, rfl, HQ.out⟩, rfl⟩)⟩
                      case measure => simp [intOf]; omega
                    · have dq : decide (mF S2 k < mF S2 y) = false := decide_eq_false hq
                      have HQ := Lib.hid hq
                      clear hq
                      go_quiet (fail)
                      go_wp2_with fail
                      go_roundw
                      case rel => exact ⟨k + 1, (y : Int), S2, T2, by omega, by first | rfl | go_num, by go_num, HM.out.drew _, HLK.out _ (.inr ⟨y, rfl, HQ.out, rfl⟩)⟩
                      case measure => simp [intOf]; omega
          · obtain rfl : N = k := by omega
            have HFX : Hid (∃ y : Nat, y < N ∧ nx = y ∧ bF O y = false ∧ ∀ j, j < N → bF O j = false → mF S2 y ≤ mF S2 j) := Lib.hid (by
              rcases HSC.out.nx with ⟨_, hall⟩ | h
              · obtain ⟨f, hf, e1, _⟩ := HP.out.2.2.some HP.out.1 HP.out.2.1
                obtain ⟨r, _, e2⟩ := HDJ.out.usm f hf (hall f hf)
                omega
              · exact h)
            obtain ⟨y, hy, rfl, hyf, hmin⟩ := HFX.out
            have HDS := Lib.hid (HDJ.out.scan HLA.out (fun j hj hq => HSC.out.used j hj (.inr hq)) (fun j hj hf h1 h2 => HSC.out.yes j hj hf h1 h2) (fun j hj hf h1 => HSC.out.no j hj hf h1))
            have HDE := Lib.hid (HDS.out.delta HP.out.1 HP.out.2.2 HP.out.2.1 hy hyf hmin)
            have HBD := Lib.hid (HDS.out.bound HP.out.1 HP.out.2.2 HP.out.2.1)
            have HY := Lib.hid (And.intro hyf hmin)
            have hd1 := HDE.out.1
            have hd2 := HDE.out.2.1
            have cs := HI2.out.rs.cell (j := y) (by rw [HI2.out.sl]; exact hy)
            obtain ⟨d, hd⟩ : ∃ d, d = mF S2 y := ⟨_, rfl⟩
            have HDD := Lib.hid hd
            rw [← hd] at cs hd1 hd2
            have cu := HI2.out.sq.ru.cell (j := s) (by rw [HI2.out.sq.ul]; exact hs1)
            have zu := HI2.out.sq.ru.free s
            have lu := HI2.out.sq.ru.lt
            have f1 := HI2.out.sq.fld.cell (j := 1) rfl
            have f3 := HI2.out.sq.fld.cell (j := 3) rfl
            have hus := HBD.out.1
            have hqu : ¬ q = bu := by have := HI2.out.sq.qB; have := HI2.out.sq.uB; omega
            have w1 : IntKind.i64.wrap (mF U' s + d) = mF U' s + d := IntWalk.i64_in _ (by omega)
            have HI4 := Lib.hid (HI2.out.setU s (mF U' s + d))
            have HA0 : Hid (Adapt N s (mF P) (bF O) d (mF U') (mF V') (mF S2) 0 (mF (U'.set s (mF U' s + d))) (mF V') (mF S2)) := Lib.hid (by
              rw [mF_set (by rw [HI2.out.sq.ul]; exact hs1)]
              exact Adapt.start)
            clear hyf hmin hd
            go_wp2_with fail
            clear cs cu zu lu f1 f3 hus w1 hqu
            go_loopw [131] (fun iv Y2 => ∃ (k : Nat) (U3 V3 S3 : List Int), k ≤ N ∧ iv = .int .i64 k ∧ Im X Y2 X.heap.size B q bu bv bp (some ⟨ab, ao, none⟩) c N C U3 V3 P S3 T2 O ∧ Adapt N s (mF P) (bF O) d (mF U') (mF V') (mF S2) k (mF U3) (mF V3) (mF S3)) (fun iv _ => N - (intOf iv).toNat)
            case atStart => exact ⟨0, _, _, _, Nat.zero_le _, rfl, HI4.out, HA0.out⟩
            case round =>
              obtain ⟨k, U3, V3, S3, hk, rfl, him, had⟩ := hrel
              have HI5 := Lib.hid him
              have HAD := Lib.hid had
              clear him had
              by_cases hlt : k < N
              · have hlt' : (k : Int) < (N : Int) := by omega
                have co := HI5.out.rx.cell (j := k) (by rw [HI5.out.ol]; exact hlt)
                cases hO : bF O k with
                | true =>
                  rw [hO] at co
                  obtain ⟨r, hr, hpk⟩ := HDS.out.usm k hlt hO
                  have hrN : r < N := by omega
                  have HUS := Lib.hid (HAD.out.used hlt hO hpk (by omega) (fun j hj hq e => by
                    have := HP.out.2.2.inj j k (by omega) hlt (by rw [e, hpk]) (by omega)
                    omega) hrN)
                  have hur := HUS.out.1
                  have hvk := HUS.out.2.1
                  have hbu := HBD.out.2.2.1 r (by omega)
                  have hbv := HBD.out.2.2.2 k hlt
                  have cp := HI5.out.sq.rp.cell (j := k) (by rw [HI5.out.sq.pl]; exact hlt)
                  rw [hpk] at cp
                  have hr' : (r : Int) < (N : Int) := by omega
                  have cu := HI5.out.sq.ru.cell (j := r) (by rw [HI5.out.sq.ul]; exact hrN)
                  have zu := HI5.out.sq.ru.free r
                  have lu := HI5.out.sq.ru.lt
                  have cv := HI5.out.sq.rv.cell (j := k) (by rw [HI5.out.sq.vl]; exact hlt)
                  have zv := HI5.out.sq.rv.free k
                  have lv := HI5.out.sq.rv.lt
                  have f2 := HI5.out.sq.fld.cell (j := 2) rfl
                  have f3 := HI5.out.sq.fld.cell (j := 3) rfl
                  have f4 := HI5.out.sq.fld.cell (j := 4) rfl
                  have hqu : ¬ q = bu := by have := HI5.out.sq.qB; have := HI5.out.sq.uB; omega
                  have hvu : ¬ bv = bu := fun e => HI5.out.sq.uv e.symm
                  have w1 : IntKind.i64.wrap (mF U3 r + d) = mF U3 r + d := IntWalk.i64_in _ (by omega)
                  have w2 : IntKind.i64.wrap (mF V3 k - d) = mF V3 k - d := IntWalk.i64_in _ (by omega)
                  have HI6 := Lib.hid (((HI5.out.setU r (mF U3 r + d)).drew 1).setV k (mF V3 k - d))
                  have HA6 : Hid (Adapt N s (mF P) (bF O) d (mF U') (mF V') (mF S2) (k + 1) (mF (U3.set r (mF U3 r + d))) (mF (V3.set k (mF V3 k - d))) (mF S3)) := Lib.hid (by
                    rw [mF_set (by rw [HI5.out.sq.ul]; exact hrN), mF_set (by rw [HI5.out.sq.vl]; exact hlt)]
                    exact HUS.out.2.2)
                  clear hO hpk hur hvk hbu hbv
                  go_wp2_with fail
                  go_region
                  clear cp cu zu lu f2 f3
                  go_wp2_with fail
                  go_roundw
                  case rel => exact ⟨k + 1, _, _, S3, by omega, by go_num, HI6.out, HA6.out⟩
                  case measure => simp [intOf]; omega
                | false =>
                  rw [hO] at co
                  have cs := HI5.out.rs.cell (j := k) (by rw [HI5.out.sl]; exact hlt)
                  have zs := HI5.out.rs.free k
                  have ls := HI5.out.rs.lt
                  have hSk : mF S3 k = mF S2 k := (HAD.out.slk k hlt).2 (by omega)
                  by_cases hif : mF S3 k = 4611686018427387904
                  · have HA6 := Lib.hid (HAD.out.free hlt hO (.inr ⟨by rw [← hSk]; exact hif, rfl⟩)).2
                    rw [hif] at cs
                    clear hO hSk hif
                    go_wp2_with fail
                    go_roundw
                    case rel => exact ⟨k + 1, U3, V3, S3, by omega, by go_num, HI5.out, HA6.out⟩
                    case measure => simp [intOf]; omega
                  · have hSb : 0 ≤ mF S3 k ∧ mF S3 k ≤ 72057594037927936 := by
                      rcases HDS.out.sle k hlt hO with e | ⟨r, _, h2, h3, h4⟩
                      · rw [hSk] at hif; exact absurd e hif
                      · have hrs := h2.le HDS.out
                        have := HDS.out.fair r k hrs hlt h3
                        have := HBD.out.2.2.1 r hrs
                        have := HBD.out.2.2.2 k hlt
                        rcases HP.out.1.bnd r k (by omega) hlt with e | e
                        · exact absurd e h3
                        · omega
                    have w1 : IntKind.i64.wrap (mF S3 k - d) = mF S3 k - d := IntWalk.i64_in _ (by omega)
                    have hib : (mF S3 k != 4611686018427387904) = true := by simpa using hif
                    have HI6 := Lib.hid (HI5.out.setS k (mF S3 k - d))
                    have HA6 : Hid (Adapt N s (mF P) (bF O) d (mF U') (mF V') (mF S2) (k + 1) (mF U3) (mF V3) (mF (S3.set k (mF S3 k - d)))) := Lib.hid (by
                      rw [mF_set (by rw [HI5.out.sl]; exact hlt)]
                      exact (HAD.out.free hlt hO (.inl ⟨by rw [← hSk]; exact hif, rfl⟩)).2)
                    clear hO hSk hif hSb
                    go_wp2_with fail
                    go_roundw
                    case rel => exact ⟨k + 1, U3, V3, _, by omega, by go_num, HI6.out, HA6.out⟩
                    case measure => simp [intOf]; omega
              · obtain rfl : N = k := by omega
                obtain ⟨hu1, hv1, hl1⟩ := HAD.out.done
                rw [HDD.out] at hu1 hv1 hl1
                have HPR := Lib.hid (HDS.out.prices HP.out.1 HP.out.2.2 HP.out.2.1 hy HY.out.1 HY.out.2 hu1 hv1)
                have HNX := Lib.hid (fun (r : Nat) (hr : mF P y = r) => HDS.out.next HP.out.1 HP.out.2.2 HP.out.2.1 hy HY.out.1 HY.out.2 hu1 hv1 hl1 hr)
                clear hu1 hv1 hl1
                have hyo : y < O.length := by rw [HI5.out.ol]; exact hy
                have HOE := Lib.hid (bF_set hyo true)
                have HLF := Lib.hid (left_set (L := O) (k := y) (by rw [bF_get hyo, HY.out.1]))
                obtain ⟨O2, hO2⟩ : ∃ O2, O2 = O.set y true := ⟨_, rfl⟩
                have HI6 := Lib.hid (HI5.out.setO y true)
                rw [← hO2] at HI6 HOE HLF
                rw [← HOE.out] at HPR HNX
                have co := HI5.out.rx.cell (j := y) hyo
                have zo' := HI5.out.rx.free y
                have lo := HI5.out.rx.lt
                have f2 := HI5.out.sq.fld.cell (j := 2) rfl
                have cp := HI5.out.sq.rp.cell (j := y) (by rw [HI5.out.sq.pl]; exact hy)
                have hz1 : ¬ q = X.heap.size + 1 + 1 := by have := HI5.out.sq.qB; have := HI5.out.zB; omega
                have hz2 : ¬ bp = X.heap.size + 1 + 1 := by have := HI5.out.pz; omega
                clear hO2 hyo
                rcases HP.out.2.2.rng y hy with hp | ⟨r, hr, hp⟩
                · rw [hp] at cp
                  have HHP := Lib.hid hp
                  clear hp
                  go_wp2_with fail
                  clear cp co zo' lo f2 hz1 hz2
                  have HAG := Lib.hid (HPR.out.aug HP.out.1 HP.out.2.2 HP.out.2.1 hy (by rw [HOE.out, putF_eq]) HHP.out)
                  obtain ⟨RK, hRK⟩ : ∃ RK, RK = putF rk y t := ⟨_, rfl⟩
                  rw [← hRK] at HAG
                  clear hRK
                  go_loopw [9] (fun lv Y2 => ∃ (l : Nat) (P5 : List Int), lv = .int .i64 l ∧ Im X Y2 X.heap.size B q bu bv bp (some ⟨ab, ao, none⟩) c N C U3 V3 P5 S3 T2 O2 ∧ Aug (cF C) R N s (mF U3) (mF V3) (mF P) (mF P5) (mF T2) (bF O2) RK l) (fun lv _ => RK (intOf lv).toNat)
                  case atStart => exact ⟨y, P, rfl, HI6.out, HAG.out⟩
                  case round =>
                    obtain ⟨l, P5, rfl, him, hag⟩ := hrel
                    have HI7 := Lib.hid him
                    have HA7 := Lib.hid hag
                    have hl := hag.lt
                    have hl' : (l : Int) < (N : Int) := by omega
                    have dl0 : decide ((0 : Int) ≤ (l : Int)) = true := decide_eq_true (by omega)
                    clear him hag
                    have ct := HI7.out.rb.cell (j := l) (by rw [HI7.out.tl]; exact hl)
                    have cl := HI7.out.sq.rp.cell (j := l) (by rw [HI7.out.sq.pl]; exact hl)
                    have zl := HI7.out.sq.rp.free l
                    have ll := HI7.out.sq.rp.lt
                    have f2 := HI7.out.sq.fld.cell (j := 2) rfl
                    have hqp : ¬ q = bp := by have := HI7.out.sq.qB; have := HI7.out.sq.pB; omega
                    have hzp : ¬ X.heap.size + 1 = bp := by have := HI7.out.pz; omega
                    by_cases hb : 0 ≤ mF T2 l
                    · obtain ⟨b, hb'⟩ : ∃ b : Nat, mF T2 l = b := ⟨(mF T2 l).toNat, by omega⟩
                      obtain ⟨hbN, hrk, hst⟩ := HA7.out.step hb'
                      have HST7 := Lib.hid (And.intro hrk hst)
                      rw [hb'] at ct
                      have db : decide ((0 : Int) ≤ (b : Int)) = true := decide_eq_true (by omega)
                      have hbN' : (b : Int) < (N : Int) := by omega
                      have cb := HI7.out.sq.rp.cell (j := b) (by rw [HI7.out.sq.pl]; exact hbN)
                      have HI8 := Lib.hid ((HI7.out.setP l (mF P5 b)).drew 1)
                      have HP8 := Lib.hid (mF_set (L := P5) (k := l) (by rw [HI7.out.sq.pl]; exact hl) (mF P5 b))
                      clear hb hb' hrk hst
                      go_wp2_with fail
                      go_region
                      go_wp2_with fail
                      go_roundw
                      case rel => exact ⟨b, _, rfl, HI8.out, by rw [HP8.out]; exact HST7.out.2⟩
                      case measure =>
                        show RK (intOf (.int .i64 (b : Int))).toNat < RK (intOf (.int .i64 (l : Int))).toNat
                        exact HST7.out.1
                    · have db : decide ((0 : Int) ≤ mF T2 l) = false := decide_eq_false hb
                      have HD7 := Lib.hid (HA7.out.done (by omega))
                      have HI8 := Lib.hid (HI7.out.setP l (s : Int))
                      have HP8 := Lib.hid (mF_set (L := P5) (k := l) (by rw [HI7.out.sq.pl]; exact hl) (s : Int))
                      clear hb
                      go_wp2_with fail
                      refine bodyPost_ret (v := .tuple #[]) (by simp [results, Tryz.results73, go_sem]) rfl ?_
                      exact ⟨rfl, U3, V3, _, HI8.out.sq, by rw [HP8.out]; exact HD7.out, HI8.out.below⟩
                · rw [hp] at cp
                  have hrN : r < N := by omega
                  have hr0 : ¬ (r : Int) < 0 := by omega
                  have HN := Lib.hid (HNX.out r hp)
                  have HLW := Lib.hid (And.intro (leftW_eq HI6.out.rx) (leftW_eq HIM.out.rx))
                  have HHP := Lib.hid hp
                  clear hp
                  go_wp2_with fail
                  go_roundw
                  case rel => exact ⟨r, (y : Int), U3, V3, S3, T2, O2, _, _, rfl, rfl, hrN, HI6.out, HN.out, .inr ⟨y, hy, rfl, by rw [HOE.out, putF_eq], HHP.out⟩⟩
                  case measure =>
                    show leftW _ _ < leftW _ _
                    rw [HLW.out.1, HLW.out.2]
                    have := HLF.out
                    omega
end
end Go.Proofs.YtimijjhdgihobaaGreatDoor
