/-
  trace.reader: bytes (plain: hexadecimal digits).
-/
import Derived.Test.YtakdkiggaalimaaGreatDoorTrRo
import Derived.Test.YtakdkiggaalimaaGreatDoorTrHx
namespace Go.Proofs.YtakdkiggaalimaaGreatDoor
open Go.RowKit Go.Maps
open Go.Lib (itoa)

def hexL : List UInt8 := [48, 49, 50, 51, 52, 53, 54, 55, 56, 57, 97, 98, 99, 100, 101, 102]
/-- where a digit stands among the hexadecimal ones, -1 if nowhere. -/
def hixB (c : UInt8) : Int := Lib.indexByte hexL c
theorem hix_fin : ∀ n : Fin 256, (hixB (UInt8.ofNat n.val) = -1 ∧ ∀ d : Fin 16, hexD d.val ≠ UInt8.ofNat n.val) ∨ ∃ d : Fin 16, hixB (UInt8.ofNat n.val) = d.val ∧ hexD d.val = UInt8.ofNat n.val := by decide +kernel
theorem hix_cases (c : UInt8) : (hixB c = -1 ∧ ∀ d, d < 16 → hexD d ≠ c) ∨ ∃ d : Nat, d < 16 ∧ hixB c = d ∧ hexD d = c := by
  have h := hix_fin ⟨c.toNat, c.toNat_lt⟩
  have e : UInt8.ofNat c.toNat = c := by simp
  simp only [e] at h
  rcases h with ⟨h1, h2⟩ | ⟨d, h1, h2⟩
  · exact .inl ⟨h1, fun d hd => h2 ⟨d, hd⟩⟩
  · exact .inr ⟨d.val, d.isLt, h1, h2⟩
theorem hex_two (b : Wd) (j : Nat) : (b.flatMap hex2)[2 * j]? = (b[j]?).map (fun x => hexD (x.toNat / 16)) ∧ (b.flatMap hex2)[2 * j + 1]? = (b[j]?).map (fun x => hexD (x.toNat % 16)) := by
  induction b generalizing j with
  | nil => simp
  | cons x r ih =>
    rw [List.flatMap_cons]
    cases j with
    | zero => exact ⟨rfl, rfl⟩
    | succ j =>
      have h := ih j
      have e1 : (hex2 x ++ r.flatMap hex2)[2 * (j + 1)]? = (r.flatMap hex2)[2 * j]? := by
        rw [List.getElem?_append_right (by show 2 ≤ _; omega)]
        congr 1
      have e2 : (hex2 x ++ r.flatMap hex2)[2 * (j + 1) + 1]? = (r.flatMap hex2)[2 * j + 1]? := by
        rw [List.getElem?_append_right (by show 2 ≤ _; omega)]
        congr 1
      rw [e1, e2, h.1, h.2, List.getElem?_cons_succ]
      exact ⟨rfl, rfl⟩
theorem or_fin : ∀ a b : Fin 16, bits BinOp.or IntKind.i64 ((a.val : Int) * 16) (b.val : Int) = (a.val : Int) * 16 + b.val := by decide +kernel
theorem hex_byte2 {a b : Nat} (ha : a < 16) (hb : b < 16) : hex2 (UInt8.ofNat (a * 16 + b)) = [hexD a, hexD b] := by
  have e : (UInt8.ofNat (a * 16 + b)).toNat = a * 16 + b := by rw [UInt8.toNat_ofNat']; omega
  unfold hex2
  rw [e, show (a * 16 + b) / 16 = a by omega, show (a * 16 + b) % 16 = b by omega]
-- WALK
theorem ixb_any (c : UInt8) (w : World) : Calls Tryz.prog 85 #[.string ⟨#[48, 49, 50, 51, 52, 53, 54, 55, 56, 57, 97, 98, 99, 100, 101, 102]⟩, .int .u8 c.toNat] w fun e w' => e = .returned (.int .i64 (hixB c)) ∧ w' = w := by
  have h := Tryz.strings_IndexByte ⟨#[48, 49, 50, 51, 52, 53, 54, 55, 56, 57, 97, 98, 99, 100, 101, 102]⟩ (c.toNat : Int) w
  have e : ((c.toNat : Int).toNat).toUInt8 = c := by
    rw [Int.toNat_natCast]
    exact UInt8.ofNat_toNat
  rw [e] at h
  exact h
def bytW (b : Wd) : List Wd := [hexW b]
def RetRb (rb : Nat) (st : Option (List Wd)) (X : World) (e : Ending) (Y : World) : Prop :=
  ∃ (l : Wd) (A : Option Addr) (c : Nat) (st' : Option (List Wd)), e = .returned (.slice A l.length c) ∧ RdAt rb st' Y ∧ OnlyR rb X Y ∧ OwnV byteV Y X.heap.size 5 (.slice A l.length c) l ∧ l.length ≤ 1000000 ∧ Rds (fun _ => True) bytW st st' l
theorem rds_byt_bad {st : Option (List Wd)} {w : Wd} {st1 : Option (List Wd)} (hc : (∃ r, st = some (w :: r) ∧ st1 = some r) ∨ ((st = none ∨ st = some []) ∧ st1 = none ∧ w = [])) (hno : ∀ b, w ≠ hexW b) : Rds (fun _ => True) bytW st none [] := by
  refine .inr ⟨rfl, fun ws e b r' _ q => ?_⟩
  rcases hc with ⟨r, e1, _⟩ | ⟨e1 | e1, _, _⟩
  · rw [e1] at e
    injection e with e
    rw [← e] at q
    injection q with q1 _
    exact hno b q1
  · rw [e1] at e
    cases e
  · rw [e1] at e
    injection e with e
    rw [← e] at q
    cases q
theorem rds_byt {st : Option (List Wd)} {b : Wd} {st1 : Option (List Wd)} (hc : (∃ r, st = some (hexW b :: r) ∧ st1 = some r) ∨ ((st = none ∨ st = some []) ∧ st1 = none ∧ hexW b = [])) : Rds (fun _ => True) bytW st st1 b := by
  rcases hc with ⟨r, e1, e2⟩ | ⟨_, _, e3⟩
  · exact .inl ⟨_, r, e1, e2, trivial, rfl⟩
  · rw [hexW_eq] at e3
    cases e3
theorem shl_or {a b : Nat} (ha : a < 16) (hb : b < 16) : bits BinOp.or IntKind.i64 ((a : Int) * 16) (b : Int) = ((a * 16 + b : Nat) : Int) := by
  have h := or_fin ⟨a, ha⟩ ⟨b, hb⟩
  simp only at h
  rw [h]
  omega
set_option maxRecDepth 100000 in
set_option maxHeartbeats 8000000 in
theorem rbytes_any (rb : Nat) (st : Option (List Wd)) (X : World) (h : RdAt rb st X) : Calls Tryz.prog 59 #[.pointer (some ⟨rb, 0, none⟩)] X (RetRb rb st X) := by
  have HWD := Lib.hid (rword_any rb st X h)
  have HL := Lib.hid h.lt
  clear h
  go_enter Tryz.func59, Tryz.ntmps59
  go_wp2_with fail
  refine HWD.out.mono ?_
  rintro e X1 ⟨w, st1, rfl, h1, ho1, hwl, hcase⟩
  have H1 := Lib.hid (And.intro h1 ho1)
  have HC := Lib.hid hcase
  have hl1 := h1.lt
  have hfree : ∀ j, X1.frozen? ⟨rb, j, none⟩ = false := by
    obtain ⟨_, _, _, _, hq, _⟩ := H1.out.1
    exact fun j => Lib.frozen_of_heap hq j
  have hcell : ∃ b, X1.cell? ⟨rb, 1, none⟩ = some (.bool b) := by
    obtain ⟨_, _, _, b, hq, _⟩ := H1.out.1
    exact ⟨b, by rw [Lib.cell_of_heap hq]; rfl⟩
  obtain ⟨b1, c1⟩ := hcell
  have z1 := hfree 1
  have HCP := Lib.hid (Tryz.strings_CutPrefix (bs w) ⟨#[61]⟩ X1)
  clear h1 ho1 hcase hfree
  have BAD : Hid ((∀ b, w ≠ hexW b) → RetRb rb st X (.returned (.slice none 0 0)) (X1.setCell ⟨rb, 1, none⟩ (.bool true))) := Lib.hid (fun q => ⟨[], none, 0, none, rfl, H1.out.1.spoil, H1.out.2.seq (set_only X1 1 _), OwnV.nil _ _ _, Nat.zero_le _, rds_byt_bad HC.out q⟩)
  by_cases hp : ∃ s, w = 61 :: s
  rotate_left
  · have e1 : Lib.hasPrefix (bs w).data.toList (⟨#[61]⟩ : ByteArray).data.toList = false := by
      rw [bs_data]
      cases w with
      | nil => rfl
      | cons x r =>
        by_cases hx : x = 61
        · exact absurd ⟨r, by rw [hx]⟩ hp
        · show (61 == x && _) = false
          rw [show ((61 : UInt8) == x) = false by simp; exact fun q => hx q.symm]
          rfl
    rw [e1] at HCP
    have HB := Lib.hid (BAD.out (fun b q => hp ⟨_, q⟩))
    obtain ⟨T, hT⟩ : ∃ T, T = (⟨(Lib.trimPrefix (bs w).data.toList (⟨#[61]⟩ : ByteArray).data.toList).toArray⟩ : ByteArray) := ⟨_, rfl⟩
    rw [← hT] at HCP
    clear hp e1 hT
    go_wp2_with fail
    refine HCP.out.mono ?_
    rintro e X2 ⟨rfl, rfl⟩
    go_wp2_with fail
    go_ret
    exact HB.out
  obtain ⟨s, rfl⟩ := hp
  have e1 : Lib.hasPrefix (bs (61 :: s)).data.toList (⟨#[61]⟩ : ByteArray).data.toList = true := by
    rw [bs_data]
    show ((61 : UInt8) == 61 && List.isPrefixOf [] s) = true
    simp
  have e2 : (⟨(Lib.trimPrefix (bs (61 :: s)).data.toList (⟨#[61]⟩ : ByteArray).data.toList).toArray⟩ : ByteArray) = bs s := by
    unfold Lib.trimPrefix
    rw [e1, if_pos rfl, bs_data]
    rfl
  rw [e1, e2] at HCP
  clear e1 e2
  have hsl : s.length ≤ 1000000 := by rw [List.length_cons] at hwl; omega
  obtain ⟨S, hS⟩ : ∃ S, S = bs s := ⟨_, rfl⟩
  have hsz : S.size = s.length := by rw [hS, bs_size]
  have HS := Lib.hid hS
  rw [← hS] at HCP
  clear hS hwl
  by_cases hodd : s.length % 2 ≠ 0
  · have d1 : (S.size : Int).tmod 2 = 1 := by rw [Int.tmod_eq_emod_of_nonneg (by omega)]; omega
    have d2 : (S.size : Int) % 2 = 1 := by omega
    have HB := Lib.hid (BAD.out (fun b q => by
      rw [hexW_eq] at q
      injection q with _ q
      rw [q, hex2_len] at hodd
      omega))
    clear hodd
    go_wp2_with fail
    refine HCP.out.mono ?_
    rintro e X2 ⟨rfl, rfl⟩
    go_wp2_with fail
    go_ret
    exact HB.out
  obtain ⟨m, hm⟩ : ∃ m, s.length = 2 * m := ⟨s.length / 2, by omega⟩
  have hml : m ≤ 500000 := by omega
  have d1 : (S.size : Int).tmod 2 = 0 := by rw [Int.tmod_eq_emod_of_nonneg (by omega)]; omega
  have d2 : (S.size : Int) % 2 = 0 := by omega
  have d3 : (S.size : Int) / 2 = (m : Int) := by omega
  have d4 : (S.size : Int).tdiv 2 = (m : Int) := by rw [Int.tdiv_eq_ediv_of_nonneg (by omega)]; omega
  have hmk := make_bytes X1 m (by omega)
  have HO := Lib.hid (made_bytes X1 X1.heap.size m (Nat.le_refl _) (by omega))
  obtain ⟨V0, hV0⟩ : ∃ V, V = Value.slice (some ⟨X1.heap.size, 0, none⟩) 0 m := ⟨_, rfl⟩
  have HB0 := Lib.hid (show Below X1.heap.size X1 (X1.alloc (.cells (madeCells #[.int .u8 0] m) 5)) from (Below.refl _ _).alloc (Nat.le_refl _) _)
  obtain ⟨W0, hW0⟩ : ∃ W, W = X1.alloc (.cells (madeCells #[.int .u8 0] m) 5) := ⟨_, rfl⟩
  rw [← hV0, ← hW0] at hmk HO
  rw [← hW0] at HB0
  have HM := Lib.hid hm
  have HZ := Lib.hid H1.out.2.size
  have HSZ0 := Lib.hid hsz
  clear hodd hm hV0 hW0 hsl BAD hsz
  go_wp2_with fail
  refine HCP.out.mono ?_
  rintro e X2 ⟨rfl, rfl⟩
  go_wp2_with fail
  have HST : Hid (RdAt rb st1 X2) := Lib.hid H1.out.1
  go_loopw [5, 6] (fun bv iv Y => ∃ (j k : Nat) (l : Wd), j ≤ m ∧ k = 2 * j ∧ iv = .int .i64 k ∧ OwnV byteV Y X2.heap.size 5 bv l ∧ l.length = j ∧ s.take (2 * j) = l.flatMap hex2 ∧ Below X2.heap.size X2 Y) (fun _ iv _ => 2 * m - (intOf iv).toNat)
  case atStart => exact ⟨0, 0, [], Nat.zero_le _, rfl, rfl, HO.out, rfl, rfl, HB0.out⟩
  case round =>
    obtain ⟨j, k, l, hj, hkj, rfl, hown, hll, htk, hbl⟩ := hrel
    have HI := Lib.hid (And.intro hown (And.intro hll (And.intro htk (And.intro hbl hkj))))
    have cY := (hbl.cell (p := ⟨rb, 1, none⟩) hl1).trans c1
    have zY := (hbl.frozen (p := ⟨rb, 1, none⟩) hl1).trans z1
    have hlY : rb < wr.heap.size := Nat.lt_of_lt_of_le hl1 hbl.size
    have hSm : S.size = 2 * m := by rw [HSZ0.out]; exact HM.out
    clear hown hll htk hbl
    by_cases hlt : j < m
    · have hk1 : k < S.size := by omega
      have hk2 : k + 1 < S.size := by omega
      have hki : (k : Int) < (S.size : Int) := by omega
      have hki2 : (k : Int) + 1 < (S.size : Int) := by omega
      have hSd : S.data.toList = s := by rw [HS.out, bs_data]
      have g1 : s[2 * j]? = some S[k] := by
        have h := byte_at hk1
        rw [hSd] at h
        rw [← hkj]
        exact h
      have g2 : s[2 * j + 1]? = some S[k + 1] := by
        have h := byte_at hk2
        rw [hSd] at h
        rw [← hkj]
        exact h
      have HG := Lib.hid (And.intro g1 g2)
      have HX1 := Lib.hid (fun W => ixb_any S[k] W)
      have HX2 := Lib.hid (fun W => ixb_any S[k + 1] W)
      have BAD : Hid ((∀ b, (61 :: s : Wd) ≠ hexW b) → RetRb rb st X (.returned (.slice none 0 0)) (wr.setCell ⟨rb, 1, none⟩ (.bool true))) := Lib.hid (fun q => ⟨[], none, 0, none, rfl, (HST.out.next HI.out.2.2.2.1).spoil, (H1.out.2.seq (.of HI.out.2.2.2.1)).seq (set_only wr 1 _), OwnV.nil _ _ _, Nat.zero_le _, rds_byt_bad HC.out q⟩)
      have HK := Lib.hid hkj
      clear g1 g2 hkj hSm hSd
      rcases hix_cases S[k] with ⟨h1, hno⟩ | ⟨a, ha, h1, he1⟩
      · rw [h1] at HX1
        have HB := Lib.hid (BAD.out (fun b q => by
          rw [hexW_eq] at q
          injection q with _ q
          have h2 := (hex_two b j).1
          rw [← q, HG.out.1] at h2
          cases hb : b[j]? with
          | none => rw [hb] at h2; cases h2
          | some x =>
            rw [hb] at h2
            injection h2 with h2
            have := x.toNat_lt
            exact hno _ (by omega) h2.symm))
        clear hno h1
        go_wp2_with fail
        refine (HX1.out _).mono ?_
        rintro e Y2 ⟨rfl, rfl⟩
        go_wp2_with fail
        refine (HX2.out _).mono ?_
        rintro e Y3 ⟨rfl, rfl⟩
        go_wp2_with fail
        go_ret
        exact HB.out
      rcases hix_cases S[k + 1] with ⟨h2, hno⟩ | ⟨b, hb, h2, he2⟩
      · rw [h1] at HX1
        rw [h2] at HX2
        have HB := Lib.hid (BAD.out (fun b q => by
          rw [hexW_eq] at q
          injection q with _ q
          have h2 := (hex_two b j).2
          rw [← q, HG.out.2] at h2
          cases hb : b[j]? with
          | none => rw [hb] at h2; cases h2
          | some x =>
            rw [hb] at h2
            injection h2 with h2
            have := x.toNat_lt
            exact hno _ (by omega) h2.symm))
        have da : decide ((a : Int) < 0) = false := decide_eq_false (by omega)
        clear hno h1 h2 he1
        go_wp2_with fail
        refine (HX1.out _).mono ?_
        rintro e Y2 ⟨rfl, rfl⟩
        go_wp2_with fail
        refine (HX2.out _).mono ?_
        rintro e Y3 ⟨rfl, rfl⟩
        go_wp2_with fail
        go_ret
        exact HB.out
      rw [h1] at HX1
      rw [h2] at HX2
      have da : decide ((a : Int) < 0) = false := decide_eq_false (by omega)
      have db : decide ((b : Int) < 0) = false := decide_eq_false (by omega)
      have hor := shl_or ha hb
      have hwu : IntKind.u8.wrap ((a * 16 + b : Nat) : Int) = ((a * 16 + b : Nat) : Int) := by
        rw [IntKind.wrap_u8]
        omega
      obtain ⟨z, hz⟩ : ∃ z : UInt8, z = UInt8.ofNat (a * 16 + b) := ⟨_, rfl⟩
      have hzn : ((a * 16 + b : Nat) : Int) = (z.toNat : Int) := by rw [hz, UInt8.toNat_ofNat']; omega
      rw [hzn] at hor hwu
      have hwz : IntKind.u8.wrap (z.toNat : Int) = (z.toNat : Int) := by rw [← hzn] at hwu ⊢; exact hwu
      have HZE := Lib.hid (show hex2 z = [S[k], S[k + 1]] by rw [hz, hex_byte2 ha hb, he1, he2])
      have HBSZ := Lib.hid HI.out.2.2.2.1.size
      clear h1 h2 he1 he2 hz hzn hwu
      go_wp2_with fail
      refine (HX1.out _).mono ?_
      rintro e Y2 ⟨rfl, rfl⟩
      go_wp2_with fail
      refine (HX2.out _).mono ?_
      rintro e Y3 ⟨rfl, rfl⟩
      go_wp2_with (at_builtin; refine wpList_append_one _ rfl (.tmp 54) (.tmp 60) 23 rfl X2.heap.size 5 Tryz.underlying23 byte_info rfl (by decide) _ l Y3 z (f := byteV) rfl rfl rfl HI.out.1 rfl (by have := HI.out.2.1; omega) HBSZ.out ?_; intro v9 w9 ho9 hg9)
      have H9 := Lib.hid (And.intro ho9 (HI.out.2.2.2.1.grown hg9 HI.out.2.2.2.1.size (fun q hq => HI.out.1.ge_base q hq)))
      clear ho9 hg9
      go_wp2_with fail
      go_roundw
      case rel =>
        refine ⟨j + 1, k + 2, l ++ [z], by omega, by have := HK.out; omega, by go_num, H9.out.1, by rw [List.length_append, HI.out.2.1]; rfl, ?_, H9.out.2⟩
        rw [show 2 * (j + 1) = 2 * j + 1 + 1 by omega, take_snoc HG.out.2, take_snoc HG.out.1, HI.out.2.2.1, List.flatMap_append]
        simp [HZE.out]
      case measure => simp [intOf]; have := HK.out; omega
    · obtain rfl : j = m := by omega
      obtain ⟨A5, c5, e5, _⟩ := OwnV.sl HI.out.1
      subst e5
      have hs : s = l.flatMap hex2 := by
        have h := HI.out.2.2.1
        rwa [← HM.out, List.take_length] at h
      have HE := Lib.hid (show (61 :: s : Wd) = hexW l by rw [hs]; rfl)
      have hk3 : ¬ k < S.size := by omega
      clear hs hSm hkj
      go_wp2_with fail
      go_ret
      refine ⟨l, A5, c5, st1, rfl, HST.out.next HI.out.2.2.2.1, H1.out.2.seq (.of HI.out.2.2.2.1), HI.out.1.base_le HZ.out, by have := HI.out.2.1; omega, ?_⟩
      have h := HC.out
      rw [HE.out] at h
      exact rds_byt h
end Go.Proofs.YtakdkiggaalimaaGreatDoor
