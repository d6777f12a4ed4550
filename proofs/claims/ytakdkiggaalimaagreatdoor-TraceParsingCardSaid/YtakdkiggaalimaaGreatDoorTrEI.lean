/-
  slices.Equal at []int; bytes.Equal; two sources are the same; slices.EqualFunc at sources.
-/
import Derived.Test.YtakdkiggaalimaaGreatDoorTrWE
import Derived.BigGuardPart
import Derived.Deep.QuietTactic
import Derived.BigQuiet
import Derived.Deep.Light
import Derived.Lib.BufferRead
namespace Go.Proofs.YtakdkiggaalimaaGreatDoor
open Go.RowKit Go.Maps

def SameL {α : Type} (xs ys : List α) (w : World) (e : Ending) (w' : World) : Prop := e = .returned (.bool (tb (xs = ys))) ∧ ∃ n, w' = w.drewN n
theorem eq_of_takes {α : Type} {zs ys : List α} (hl : zs.length = ys.length) (h : zs.take zs.length = ys.take zs.length) : zs = ys := by
  rw [List.take_length] at h
  rw [h, hl, List.take_length]

set_option maxRecDepth 100000 in
set_option maxHeartbeats 4000000 in
theorem equalI_any (A C : Option Addr) (c d : Nat) (zs ys : List Int) (w : World) (B B' : Nat) (ha : Sl w B A (zs.map (Value.int .i64))) (hb : Sl w B' C (ys.map (Value.int .i64))) (na : zs.length ≤ 9223372036854775807) :
    Calls Tryz.prog 87 #[.slice A zs.length c, .slice C ys.length d] w (SameL zs ys w) := by
  by_cases hl : zs.length = ys.length
  · have hlb : ((zs.length : Int) == (ys.length : Int)) = true := by simp [hl]
    have hlb2 : ((zs.length : Int) != (ys.length : Int)) = false := by simp [hl]
    have HL := Lib.hid hl
    clear hl
    go_enter Tryz.func87, Tryz.ntmps87
    go_wp2_with fail
    go_loopw [13] (fun i wr => ∃ k : Nat, k ≤ zs.length ∧ i = .int .i64 k ∧ zs.take k = ys.take k ∧ ∃ n, wr = w.drewN n) (fun i _ => zs.length - (intOf i).toNat)
    case atStart => exact ⟨0, Nat.zero_le _, rfl, rfl, 0, rfl⟩
    case round =>
      obtain ⟨k, hk, rfl, htk, n, rfl⟩ := hrel
      have HTK := Lib.hid htk
      clear htk
      by_cases hlt : k < zs.length
      · have hlt2 : k < ys.length := by rw [← HL.out]; exact hlt
        obtain ⟨z, hz⟩ : ∃ z, zs[k]? = some z := ⟨zs[k], by simp⟩
        obtain ⟨y, hy⟩ : ∃ y, ys[k]? = some y := ⟨ys[k], by simp⟩
        have HZ := Lib.hid hz
        have HY := Lib.hid hy
        obtain ⟨b, o, rfl, hbb, hcell⟩ := ha.int hz
        obtain ⟨b2, o2, rfl, hbb2, hcell2⟩ := hb.int hy
        clear hz hy
        by_cases hzy : z = y
        · subst hzy
          have hb1 : (z != z) = false := by simp
          have HT2 : Hid (zs.take (k + 1) = ys.take (k + 1)) := by show _ = _; rw [take_snoc' HZ.out, take_snoc' HY.out, HTK.out]
          clear HZ HY
          go_wp2_with fail
          go_quiet (fail)
          go_wp2_with fail
          go_roundw
          case rel => exact ⟨k + 1, by omega, by go_num, HT2.out, _, rfl⟩
          case measure => simp [intOf]; omega
        · have hb1 : (z != y) = true := by simp [hzy]
          have hb2 : (z == y) = false := by simp [hzy]
          have HNE : Hid (¬ zs = ys) := by
            intro e
            have hz := HZ.out
            rw [e] at hz
            exact hzy (Option.some.inj (hz.symm.trans HY.out))
          clear HZ HY
          go_wp2_with fail
          go_quiet (fail)
          go_wp2_with fail
          go_ret
          exact ⟨ret_no HNE.out, n + nq, by rw [World.drewN_drewN]⟩
      · have hkk : k = zs.length := by omega
        subst hkk
        have HEQ : Hid (zs = ys) := eq_of_takes HL.out HTK.out
        go_wp2_with fail
        go_ret
        exact ⟨ret_yes HEQ.out, _, rfl⟩
  · have hlb : ((zs.length : Int) == (ys.length : Int)) = false := by simp; omega
    have hlb2 : ((zs.length : Int) != (ys.length : Int)) = true := by simp; omega
    have HNE : Hid (¬ zs = ys) := fun e => hl (by rw [e])
    clear hl
    go_enter Tryz.func87, Tryz.ntmps87
    go_wp2_with fail
    go_ret
    exact ⟨ret_no HNE.out, 0, rfl⟩

theorem bytes_str {w : World} {B : Nat} {A : Option Addr} {l : List UInt8} (h : BytesAt w B A l) (c : Nat) : (convert 23 9 (.slice A l.length c)).run Tryz.prog w = .ok (.string (bs l)) w := by
  cases l with
  | nil =>
    rw [show ([] : List UInt8).length = 0 from rfl, run_convert_bytes_string w 23 9 5 A 0 c Tryz.underlying23 Tryz.underlying5 Tryz.underlying9]
    cases A with
    | none =>
      simp [Conv.bytesToString]
      rfl
    | some a =>
      have h1 := run_bytesToString (P := Tryz.prog) w a 0 c [] (by rfl)
      exact h1
  | cons x r =>
    obtain ⟨b, o, rfl, _, _⟩ := h 0 (byteV x) rfl
    have h1 := Lib.run_convert_whole (P := Tryz.prog) w 23 5 9 Tryz.underlying23 Tryz.underlying5 Tryz.underlying9 b o (bs (x :: r)) (fun i hi => by
      have hi' : i < (x :: r).length := by rw [bs_size] at hi; exact hi
      obtain ⟨b', o', e', _, hc⟩ := h i (byteV ((x :: r)[i])) (by rw [byteCells_map, List.getElem?_map, List.getElem?_eq_getElem hi']; rfl)
      injection e' with e'
      injection e' with e1 e2
      subst e1 e2
      exact hc) c
    rw [bs_size] at h1
    exact h1
set_option maxHeartbeats 1000000 in
theorem bytesEq_any (A C : Option Addr) (c d : Nat) (l m : List UInt8) (w : World) (B B' : Nat) (ha : BytesAt w B A l) (hb : BytesAt w B' C m) :
    Calls Tryz.prog 70 #[.slice A l.length c, .slice C m.length d] w fun e w' => e = .returned (.bool (tb (l = m))) ∧ w' = w := by
  have h1 := bytes_str ha c
  have h2 := bytes_str hb d
  clear ha hb
  by_cases h : l = m
  · have e1 := str_eq (congrArg bs h)
    have HH := Lib.hid h
    clear h
    go_enter Tryz.func70, Tryz.ntmps70
    go_wp2_with fail
    go_ret
    exact ⟨ret_yes HH.out, rfl⟩
  · have e1 := str_ne (fun q => h (bs_inj q) : bs l ≠ bs m)
    have HH := Lib.hid h
    clear h
    go_enter Tryz.func70, Tryz.ntmps70
    go_wp2_with fail
    go_ret
    exact ⟨ret_no HH.out, rfl⟩
theorem below_dr {B : Nat} {w w' : World} (h : Below B w w') (n : Nat) : Below B w (w'.drewN n) := h.trans ⟨rfl, rfl, rfl, Nat.le_refl _, fun _ _ => rfl⟩
def srcV (s : SrcM) : Value := .agg #[.int .i64 s.kind, .slice s.nA s.nodes.length s.nc]
set_option maxRecDepth 100000 in
set_option maxHeartbeats 4000000 in
theorem sameSrc_any (p q : SrcM) (w : World) (B B' : Nat) (ha : IntsAt w B p.nA p.nodes) (hb : IntsAt w B' q.nA q.nodes) (hB : B ≤ w.heap.size) (hB' : B' ≤ w.heap.size) (na : p.nodes.length ≤ 9223372036854775807) :
    Calls Tryz.prog 86 #[srcV p, srcV q] w fun e w' => e = .returned (.bool (tb (p.con = q.con))) ∧ Below w.heap.size w w' := by
  have hcon : p.con = q.con ↔ p.kind = q.kind ∧ p.nodes = q.nodes := by unfold SrcM.con; simp
  rw [tb_iff hcon]
  clear hcon
  obtain ⟨pu, pA, pp, pk⟩ := p
  obtain ⟨qu, qA, qq, qk⟩ := q
  unfold srcV
  dsimp only at ha hb na ⊢
  obtain ⟨W1, hW1⟩ : ∃ W1, W1 = (w.alloc (.cells #[.int .i64 pu, .slice pA pk.length pp] 80)).alloc (.cells #[.int .i64 qu, .slice qA qk.length qq] 80) := ⟨_, rfl⟩
  have hb1 : Below w.heap.size w W1 := by rw [hW1]; exact ((Below.refl _ _).alloc (Nat.le_refl _) _).alloc (by simp) _
  have HB1 := Lib.hid hb1
  have HE := Lib.hid (equalI_any pA qA pp qq pk qk W1 B B' (Sl.below ha (hb1.mono hB)) (Sl.below hb (hb1.mono hB')) na)
  clear hb1 ha hb hB hB'
  by_cases h1 : pu = qu
  · have e1 : (pu == qu) = true := by simp [h1]
    have H1 := Lib.hid h1
    clear h1
    go_enter Tryz.func86, Tryz.ntmps86
    go_wp2_with fail
    rw [← hW1]
    clear hW1
    refine HE.out.mono ?_
    rintro e w' ⟨rfl, n, rfl⟩
    go_wp2_with fail
    go_ret
    exact ⟨ret_bool (tb_iff ⟨fun h => ⟨H1.out, h⟩, fun h => h.2⟩), below_dr HB1.out n⟩
  · have e1 : (pu == qu) = false := by simp [h1]
    have HN : Hid (¬ (pu = qu ∧ pk = qk)) := fun h => h1 h.1
    clear h1
    go_enter Tryz.func86, Tryz.ntmps86
    go_wp2_with fail
    rw [← hW1]
    clear hW1
    go_ret
    exact ⟨ret_no HN.out, HB1.out⟩
theorem ext_idx {α β : Type} (f : α → β) {a b : List α} (hl : a.length = b.length) (h : ∀ (i : Nat) (p q : α), a[i]? = some p → b[i]? = some q → f p = f q) : a.map f = b.map f := by
  apply List.ext_getElem
  · simp [hl]
  · intro i h1 h2
    rw [List.getElem_map, List.getElem_map]
    exact h i _ _ (by simp) (by simp)
set_option maxRecDepth 100000 in
set_option maxHeartbeats 8000000 in
theorem equalS_any (A C : Option Addr) (c d : Nat) (ps qs : List SrcM) (w : World) (ha : SrcsAt w w.heap.size A ps) (hb : SrcsAt w w.heap.size C qs) (na : ps.length ≤ 9223372036854775807) (nn : ∀ s ∈ ps, s.nodes.length ≤ 9223372036854775807) :
    Calls Tryz.prog 88 #[.slice A ps.length c, .slice C qs.length d, .func (.func 86) #[] #[]] w fun e w' =>
      e = .returned (.bool (tb (ps.map SrcM.con = qs.map SrcM.con))) ∧ Below w.heap.size w w' := by
  have HI := Lib.hid (And.intro ha (And.intro hb nn))
  obtain ⟨m, hm⟩ : ∃ m, m = ps.length := ⟨_, rfl⟩
  obtain ⟨m2, hm2⟩ : ∃ m, m = qs.length := ⟨_, rfl⟩
  have HM := Lib.hid (And.intro hm hm2)
  rw [← hm] at na ⊢
  rw [← hm2]
  clear ha hb hm hm2 nn
  obtain ⟨Q, hQ⟩ : ∃ Q : Prop, Q ↔ (ps.map SrcM.con = qs.map SrcM.con) := ⟨_, Iff.rfl⟩
  have HQ := Lib.hid hQ
  rw [← tb_iff hQ]
  clear hQ
  by_cases hl : m = m2
  · subst hl
    have hlb2 : ((m : Int) != (m : Int)) = false := by simp
    go_enter Tryz.func88, Tryz.ntmps88
    go_wp2_with fail
    go_loopw [17] (fun i X => ∃ k : Nat, k ≤ m ∧ i = .int .i64 k ∧ Below w.heap.size w X ∧ ∀ (i : Nat) (p q : SrcM), i < k → ps[i]? = some p → qs[i]? = some q → p.con = q.con) (fun i _ => m - (intOf i).toNat)
    case atStart => exact ⟨0, Nat.zero_le _, rfl, Below.refl _ _, fun i p q h => absurd h (by omega)⟩
    case round =>
      obtain ⟨k, hk, rfl, hb, hso⟩ := hrel
      have HB := Lib.hid (And.intro hb hso)
      clear hso
      by_cases hlt : k < m
      · have hlt' : (k : Int) < (m : Int) := by omega
        obtain ⟨p, hp⟩ : ∃ p, ps[k]? = some p := ⟨ps[k]'(by have := HM.out.1; omega), by simp⟩
        obtain ⟨q, hq⟩ : ∃ q, qs[k]? = some q := ⟨qs[k]'(by have := HM.out.2; omega), by simp⟩
        have hsp := HI.out.1.below hb
        have hsq := HI.out.2.1.below hb
        obtain ⟨b, o, hA, hbb, y0, y1⟩ := src_at hsp.row hp
        obtain ⟨b2, o2, hC, hbb2, z0, z1⟩ := src_at hsq.row hq
        have yk := hsp.nodes p (List.mem_of_getElem? hp)
        have zk := hsq.nodes q (List.mem_of_getElem? hq)
        rw [hA, hC]
        have HPQ := Lib.hid (And.intro hp hq)
        have hb1 : Below wr.heap.size wr ((wr.alloc (.cells #[.int .i64 p.kind, .slice p.nA p.nodes.length p.nc] 80)).alloc (.cells #[.int .i64 q.kind, .slice q.nA q.nodes.length q.nc] 80)) := ((Below.refl _ _).alloc (Nat.le_refl _) _).alloc (by simp) _
        have hs1 := hb1.size
        have HC := Lib.hid (sameSrc_any p q ((wr.alloc (.cells #[.int .i64 p.kind, .slice p.nA p.nodes.length p.nc] 80)).alloc (.cells #[.int .i64 q.kind, .slice q.nA q.nodes.length q.nc] 80)) w.heap.size w.heap.size (Sl.below yk (hb1.mono hb.size)) (Sl.below zk (hb1.mono hb.size)) (Nat.le_trans hb.size hs1) (Nat.le_trans hb.size hs1) (HI.out.2.2 p (List.mem_of_getElem? hp)))
        obtain ⟨W2, hW2⟩ : ∃ W2, W2 = ((wr.alloc (.cells #[.int .i64 p.kind, .slice p.nA p.nodes.length p.nc] 80)).alloc (.cells #[.int .i64 q.kind, .slice q.nA q.nodes.length q.nc] 80)) := ⟨_, rfl⟩
        rw [← hW2] at hb1 hs1 HC
        have HB1 := Lib.hid (hb.trans (hb1.mono hb.size))
        have hbw : b2 < wr.heap.size := Nat.lt_of_lt_of_le hbb2 hb.size
        obtain ⟨X, hX⟩ : ∃ X : Prop, X = (p.con = q.con) := ⟨_, rfl⟩
        have HX := Lib.hid hX
        rw [← hX] at HC
        unfold srcV at HC
        clear hb hb1 hs1 hX hp hq hA hC yk zk hbb hbb2 hsp hsq
        by_cases hx : X
        · rw [tb_true hx] at HC
          go_wp2_with fail
          rw [← hW2]
          clear hW2
          refine HC.out.mono ?_
          rintro e w' ⟨rfl, hb'⟩
          have HB' := Lib.hid (HB1.out.trans (hb'.mono HB1.out.size))
          clear hb'
          go_wp2_with fail
          go_roundw
          case rel => exact ⟨k + 1, by omega, by go_num, HB'.out, fun i p' q' hi hp' hq' => by
            by_cases e : i = k
            · subst e
              rw [HPQ.out.1] at hp'
              rw [HPQ.out.2] at hq'
              injection hp' with hp'
              injection hq' with hq'
              rw [← hp', ← hq', ← HX.out]
              exact hx
            · exact HB.out.2 i p' q' (by omega) hp' hq'⟩
          case measure => simp [intOf]; omega
        · rw [tb_false hx] at HC
          go_wp2_with fail
          rw [← hW2]
          clear hW2
          refine HC.out.mono ?_
          rintro e w' ⟨rfl, hb'⟩
          have HB' := Lib.hid (HB1.out.trans (hb'.mono HB1.out.size))
          clear hb'
          go_wp2_with fail
          go_ret
          refine ⟨ret_no (fun h => hx ?_), HB'.out⟩
          rw [HX.out]
          have h1 := congrArg (·[k]?) (HQ.out.1 h)
          simp only [List.getElem?_map, HPQ.out.1, HPQ.out.2, Option.map_some, Option.some.injEq] at h1
          exact h1
      · have hkk : k = m := by omega
        subst hkk
        clear hb
        go_wp2_with fail
        go_ret
        refine ⟨ret_yes (HQ.out.2 (ext_idx _ (HM.out.1.symm.trans HM.out.2) (fun i p q hp hq => HB.out.2 i p q ?_ hp hq))), HB.out.1⟩
        have := (List.getElem?_eq_some_iff.1 hp).1
        have := HM.out.1
        omega
  · have hlb2 : ((m : Int) != (m2 : Int)) = true := by simp; omega
    have HN : Hid (¬ Q) := fun h => by
      have h1 := congrArg List.length (HQ.out.1 h)
      rw [List.length_map, List.length_map, ← HM.out.1, ← HM.out.2] at h1
      exact hl h1
    clear hl
    go_enter Tryz.func88, Tryz.ntmps88
    go_wp2_with fail
    go_ret
    exact ⟨ret_no HN.out, Below.refl _ _⟩
end Go.Proofs.YtakdkiggaalimaaGreatDoor
