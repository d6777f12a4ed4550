/-
  The walk of the law TraceKindIndex (printed by gentrki.py).
-/
import Derived.Test.YtakdkiggaalimaaDoorTrWk
import Derived.Test.YtakdkiggaalimaaDoorTrEz
import Derived.Deep.QuietTactic
import Derived.BigQuiet
namespace Go.Proofs.YtakdkiggaalimaaDoor
open Go.RowKit Go.Maps

theorem below_dn {B : Nat} {w w' : World} (h : Below B w w') (n : Nat) : Below B w (w'.drewN n) := ⟨h.os, h.tape, h.output, h.size, h.block⟩
theorem VarAt.keep {W0 X Y : World} {q : Nat} {v : Value} {l : List Int} (h : VarAt W0 q v l X) {S : Nat → Prop} (ho : Only S X Y) (hS : ∀ b, S b → X.heap.size ≤ b) : VarAt W0 q v l Y :=
  have hb : Below X.heap.size X Y := ho.below (Nat.le_refl _) hS
  ⟨(hb.block q (Array.getElem?_eq_some_iff.1 h.blk).1).trans h.blk, ho.row h.own (fun k e hs => by have := (World.ownsRow.lt h.own k e).2; have := hS k hs; omega), Only.trans h.rest (Only.of_below (S := fun _ => False) hb) (fun _ _ q => q.elim)⟩
theorem VarAt.cell {W0 X : World} {q : Nat} {v : Value} {l : List Int} (h : VarAt W0 q v l X) : X.cell? ⟨q, 0, none⟩ = some v := (IxAt.cell h.blk).1
theorem ns_keep {Y X : World} {q sb : Nat} {A : Option Addr} {c : Nat} {ns : List Int} (h : Only (fun b => b = q) Y X) (hs : Y.cell? ⟨sb, 0, none⟩ = some (.slice A ns.length c)) (hsb : sb < Y.heap.size) (hq : q ≠ sb) (hsl : Sl Y Y.heap.size A (ns.map (Value.int .i64))) (hA : ∀ b o, A = some ⟨b, o, none⟩ → b ≠ q) :
    sb < X.heap.size ∧ X.cell? ⟨sb, 0, none⟩ = some (.slice A ns.length c) ∧ Sl X X.heap.size A (ns.map (Value.int .i64)) :=
  ⟨Nat.lt_of_lt_of_le hsb h.size, (h.cell (a := ⟨sb, 0, none⟩) hsb (fun e => hq e.symm)).trans hs, Sl.more (h.ofSl hsl (Nat.le_refl _) hA) h.size⟩
theorem own_addr {X : World} {B : Nat} {A : Option Addr} {n c : Nat} {ns : List Int} (h : OwnI X B 3 (.slice A n c) ns) : ∀ b o, A = some ⟨b, o, none⟩ → B ≤ b := fun b o e => by
  subst e
  rcases h.2 with ⟨q, _⟩ | ⟨g, cap, cur, q, hg, _⟩
  · cases q
  · injection q with q _ _
    injection q with q
    injection q with q _
    omega
theorem own_addr_lt {X : World} {B : Nat} {A : Option Addr} {n c : Nat} {ns : List Int} (h : OwnI X B 3 (.slice A n c) ns) : ∀ b o, A = some ⟨b, o, none⟩ → b < X.heap.size := fun b o e => by
  subst e
  rcases h.2 with ⟨q, _⟩ | ⟨g, cap, cur, q, hg, hh, _⟩
  · cases q
  · injection q with q _ _
    injection q with q
    injection q with q _
    have := (Array.getElem?_eq_some_iff.1 hh).1
    omega
set_option maxRecDepth 100000 in
theorem nil_fn (f : FuncId) (p : Option Addr) (Y : World) : (binOp BinOp.eql 43 (.func (.func f) #[] #[.pointer p]) .nilFunc).run Tryd.prog Y = .ok (.bool false) Y := by
  kernel_rfl
set_option maxRecDepth 100000 in
set_option maxHeartbeats 8000000 in
theorem kindIndex_any (w : World) (hr : Ready w) (A : Option Addr) (c : Nat) (l : List EvM) (hat : RecsAt evCs w w.heap.size A l) (hl : l.length ≤ 9223372036854775807) (kind most : Int) (hm : 0 ≤ most ∧ most ≤ 255) :
    Calls Tryd.prog 4 #[.slice A l.length c, .int .i64 kind, .int .u8 most] w fun e w' => e = .returned (.bool true) ∧ Below w.heap.size w w' := by
  have HWK := Lib.hid (wakes_any w hr)
  obtain ⟨m, hmm⟩ : ∃ m, m = l.length := ⟨_, rfl⟩
  have HM := Lib.hid hmm
  have HA := Lib.hid hat
  have HMO := Lib.hid hm
  have hml : m ≤ 9223372036854775807 := by omega
  rw [← hmm]
  clear hat hm hl hmm
  go_enter Tryd.func4, Tryd.ntmps4
  go_wp2_with fail
  refine HWK.out.mono ?_
  rintro e w1 ⟨rfl, hb1⟩
  have HB1 := Lib.hid hb1
  clear hb1
  by_cases hbig : 100 < m
  · have d1 : decide ((100 : Int) < (m : Int)) = true := decide_eq_true (by omega)
    go_wp2_with fail
    go_ret
    exact ⟨rfl, HB1.out⟩
  have d1 : decide ((100 : Int) < (m : Int)) = false := decide_eq_false (by omega)
  have HB := Lib.hid hbig
  clear hbig
  go_wp2_with fail
  go_loopw [7, 8, 22] (fun v _ iv X => ∃ (i : Nat), i ≤ m ∧ iv = .int .i64 i ∧ OwnI X w1.heap.size 3 v (idxs kind (l.take i) 0) ∧ Below w1.heap.size w1 X) (fun _ _ iv _ => m - (intOf iv).toNat)
  case atStart => exact ⟨0, Nat.zero_le _, rfl, OwnV.nil _ _ _, Below.refl _ _⟩
  case round =>
    obtain ⟨i, hi, rfl, hown, hbx⟩ := hrel
    have HX := Lib.hid (And.intro hown hbx)
    clear hown hbx
    by_cases hlt : i < m
    · have hlt' : (i : Int) < (m : Int) := by omega
      obtain ⟨x, hxx⟩ : ∃ x, l[i]? = some x := ⟨l[i]'(by have := HM.out; omega), by simp⟩
      have hat2 := RecsAt.below HA.out (HB1.out.trans (HX.out.2.mono HB1.out.size))
      obtain ⟨b, o, hAe, hb, hrng⟩ := ek_range hat2 hxx
      have HXX := Lib.hid hxx
      obtain ⟨D, hD⟩ : ∃ D, D = evCs x := ⟨_, rfl⟩
      have c0 : D.toArray[0]? = some (.int .i64 x.kind) := by rw [hD]; rfl
      have hszl : (Tryd.prog.info? 41).map (·.size) = some D.length := by rw [hD]; exact ek_size
      have hsz : (Tryd.prog.info? 41).map (·.size) = some D.toArray.size := by rw [hD]; exact ek_size
      have hone : D.toArray.all (·.oneCell') = true := by rw [hD]; exact ek_one x
      have hold : (#[.int .i64 0, .int .i64 0, .int .i64 0, .int .i64 0, .int .i64 0, .int .i64 0, .int .i64 0, .int .i64 0, .slice none 0 0, .int .i64 0, .int .i64 0, .int .i64 0, .int .i64 0, .int .i64 0, .int .i64 0, .int .i64 0, .int .i64 0, .int .i64 0, .int .i64 0, .int .i64 0, .int .i64 0, .int .i64 0, .int .i64 0, .int .i64 0, .int .i64 0, .slice none 0 0, .slice none 0 0, .slice none 0 0] : Array Value).size = D.toArray.size := by rw [hD]; rfl
      rw [← hD] at hrng
      have hrow0 := new_obj wr (.cells #[.int .i64 0, .int .i64 0, .int .i64 0, .int .i64 0, .int .i64 0, .int .i64 0, .int .i64 0, .int .i64 0, .slice none 0 0, .int .i64 0, .int .i64 0, .int .i64 0, .int .i64 0, .int .i64 0, .int .i64 0, .int .i64 0, .int .i64 0, .int .i64 0, .int .i64 0, .int .i64 0, .int .i64 0, .int .i64 0, .int .i64 0, .int .i64 0, .int .i64 0, .slice none 0 0, .slice none 0 0, .slice none 0 0] 41)
      obtain ⟨W3, hW3⟩ : ∃ W3, W3 = wr.alloc (.cells D.toArray 41) := ⟨_, rfl⟩
      have hwz : (wr.alloc (.cells #[.int .i64 0, .int .i64 0, .int .i64 0, .int .i64 0, .int .i64 0, .int .i64 0, .int .i64 0, .int .i64 0, .slice none 0 0, .int .i64 0, .int .i64 0, .int .i64 0, .int .i64 0, .int .i64 0, .int .i64 0, .int .i64 0, .int .i64 0, .int .i64 0, .int .i64 0, .int .i64 0, .int .i64 0, .int .i64 0, .int .i64 0, .int .i64 0, .int .i64 0, .slice none 0 0, .slice none 0 0, .slice none 0 0] 41)).setRow wr.heap.size D.toArray = W3 := by rw [hW3]; exact World.setRow_alloc_new wr #[.int .i64 0, .int .i64 0, .int .i64 0, .int .i64 0, .int .i64 0, .int .i64 0, .int .i64 0, .int .i64 0, .slice none 0 0, .int .i64 0, .int .i64 0, .int .i64 0, .int .i64 0, .int .i64 0, .int .i64 0, .int .i64 0, .int .i64 0, .int .i64 0, .int .i64 0, .int .i64 0, .int .i64 0, .int .i64 0, .int .i64 0, .int .i64 0, .int .i64 0, .slice none 0 0, .slice none 0 0, .slice none 0 0] D.toArray 41
      have HD := Lib.hid (And.intro hszl (And.intro hsz (And.intro hone (And.intro hold hwz))))
      have hb3 : Below wr.heap.size wr W3 := by rw [hW3]; exact below_new wr (.cells D.toArray 41)
      have HX3 : Hid (OwnI W3 w1.heap.size 3 u7 (idxs kind (l.take i) 0) ∧ Below w1.heap.size w1 W3) := Lib.hid ⟨by rw [hW3]; exact OwnV.alloc HX.out.1 _, HX.out.2.trans (hb3.mono HX.out.2.size)⟩
      have ck : W3.cell? ⟨wr.heap.size, 0, none⟩ = some (.int .i64 x.kind) := by
        rw [hW3, World.cell?_alloc_at (hn := rfl)]
        exact c0
      rw [hAe]
      clear hxx hat2 hD hAe hszl hsz hone hold hwz hb3 c0 hW3
      by_cases hk : x.kind = kind
      · have e : (x.kind == kind) = true := by simp [hk]
        have HK := Lib.hid hk
        clear hk
        have HN : Hid (idxs kind (l.take (i + 1)) 0 = idxs kind (l.take i) 0 ++ [(i : Int)]) := Lib.hid (by
          rw [take_snoc' HXX.out, idxs_snoc, if_pos HK.out]
          congr 2
          rw [List.length_take]
          have := HM.out
          omega)
        have HNL : Hid ((idxs kind (l.take i) 0).length ≤ 100000) := Lib.hid (Nat.le_trans (idxs_len _ _ _) (by rw [List.length_take]; have := HB.out; omega))
        go_wp2_with (first | (refine wpList_load_mid rfl 41 (.tmp 25) rfl b (o + i * 28) rfl D _ hrng Tryd.underlying41 rfl HD.out.1 ?_) | (refine wpList_store_row rfl 41 (.tmp 9) (.tmp 26) rfl wr.heap.size D.toArray rfl rfl 41 _ hrow0 HD.out.2.1 HD.out.2.2.2.1 HD.out.2.2.1 ?_; rw [HD.out.2.2.2.2]) | (at_builtin; refine wpList_append_one _ rfl (.tmp 31) (.tmp 33) 29 rfl w1.heap.size 3 Tryd.underlying29 ek_int rfl (by decide) u7 (idxs kind (l.take i) 0) W3 (i : Int) (f := Value.int .i64) rfl rfl rfl HX3.out.1 rfl (by have := HNL.out; omega) HX3.out.2.size ?_; intro v5 w5 hown5 hg5; have HPU := Lib.hid (And.intro hown5 (HX3.out.2.grown hg5 HX3.out.2.size (fun k e => OwnV.ge_base HX3.out.1 k e))); clear hown5 hg5))
        go_roundw
        case rel => exact ⟨i + 1, by omega, by go_num, by rw [HN.out]; exact HPU.out.1, HPU.out.2⟩
        case measure => simp [intOf]; omega
      · have e : (x.kind == kind) = false := by simp [hk]
        have HK := Lib.hid hk
        clear hk
        have HN : Hid (idxs kind (l.take (i + 1)) 0 = idxs kind (l.take i) 0) := Lib.hid (by
          rw [take_snoc' HXX.out, idxs_snoc, if_neg HK.out, List.append_nil])
        go_wp2_with (first | (refine wpList_load_mid rfl 41 (.tmp 25) rfl b (o + i * 28) rfl D _ hrng Tryd.underlying41 rfl HD.out.1 ?_) | (refine wpList_store_row rfl 41 (.tmp 9) (.tmp 26) rfl wr.heap.size D.toArray rfl rfl 41 _ hrow0 HD.out.2.1 HD.out.2.2.2.1 HD.out.2.2.1 ?_; rw [HD.out.2.2.2.2]))
        go_roundw
        case rel => exact ⟨i + 1, by omega, by go_num, by rw [HN.out]; exact HX3.out.1, HX3.out.2⟩
        case measure => simp [intOf]; omega
    · obtain rfl : i = m := by omega
      have e : l.take i = l := List.take_of_length_le (by have := HM.out; omega)
      rw [e] at HX
      clear e
      obtain ⟨ns, hns⟩ : ∃ ns, ns = idxs kind l 0 := ⟨_, rfl⟩
      have HNS := Lib.hid hns
      have hnl : ns.length ≤ 100 := by rw [hns]; exact Nat.le_trans (idxs_len _ _ _) (by have := HM.out; have := HB.out; omega)
      rw [← hns] at HX
      clear hns
      obtain ⟨L, hL⟩ : ∃ L : Nat, 1 + most % 5 = (L : Int) := ⟨(1 + most % 5).toNat, by have := HMO.out; omega⟩
      have HL := Lib.hid (show 1 ≤ L ∧ L ≤ 5 by have := HMO.out; omega)
      have t0 : most.tmod 5 = most % 5 := Int.tmod_eq_emod_of_nonneg HMO.out.1
      have t1 : IntKind.i64.wrap most = most := IntWalk.i64_in _ (by have := HMO.out; omega)
      have t2 : IntKind.i64.wrap (most % 5) = most % 5 := IntWalk.i64_in _ (by have := HMO.out; omega)
      have t3 : IntKind.i64.wrap (L : Int) = (L : Int) := IntWalk.i64_in _ (by have := HL.out; omega)
      obtain ⟨X2, hX2⟩ : ∃ X2, X2 = (wr.alloc (.cells #[.int .i64 (L : Int)] 3)).alloc (.cells #[.slice none 0 0] IS) := ⟨_, rfl⟩
      have hb2 : Below wr.heap.size wr X2 := by rw [hX2]; exact ((Below.refl _ _).alloc (Nat.le_refl _) _).alloc (by simp) _
      have hs2 : X2.heap.size = wr.heap.size + 2 := by rw [hX2]; simp
      have hq2 : X2.heap[wr.heap.size]? = some (.cells #[.int .i64 (L : Int)] 3 (0, 0)) := by
        rw [hX2]
        exact ((below_new (wr.alloc (.cells #[.int .i64 (L : Int)] 3)) (.cells #[.slice none 0 0] IS)).block wr.heap.size (by simp)).trans (new_obj wr _)
      have hq1 : X2.heap[wr.heap.size + 1]? = some (.cells #[.slice none 0 0] IS (0, 0)) := by
        have h := new_obj (wr.alloc (.cells #[.int .i64 (L : Int)] 3)) (.cells #[.slice none 0 0] IS)
        rw [show (wr.alloc (.cells #[.int .i64 (L : Int)] 3)).heap.size = wr.heap.size + 1 by simp] at h
        rw [hX2]
        exact h
      have hbw : Below w.heap.size w X2 := HB1.out.trans ((HX.out.2.trans (hb2.mono HX.out.2.size)).mono HB1.out.size)
      have hev := eventsOf_any X2 A c l kind ((RecsAt.below HA.out hbw).more hbw.size) (by have := HM.out; have := HB.out; omega)
      rw [← HM.out, ← HNS.out] at hev
      have HEV := Lib.hid hev
      have HS2 := Lib.hid (And.intro hs2 (And.intro hq2 (And.intro hq1 (And.intro hbw hb2))))
      clear hev hs2 hq2 hq1 hbw hb2
      go_wp2_with fail
      rw [← hX2]
      clear hX2
      refine HEV.out.mono ?_
      rintro e Y ⟨rfl, v0, hix⟩
      obtain ⟨A3, c3, hv3, hsl3⟩ := OwnV.sl hix.own
      subst hv3
      have hsb : X2.heap.size < Y.heap.size := (Array.getElem?_eq_some_iff.1 hix.blk).1
      have hY2 : Y.heap[wr.heap.size]? = some (.cells #[.int .i64 (L : Int)] 3 (0, 0)) := (hix.bel.block _ (by have := HS2.out.1; omega)).trans HS2.out.2.1
      have hY1 : Y.heap[wr.heap.size + 1]? = some (.cells #[.slice none 0 0] IS (0, 0)) := (hix.bel.block _ (by have := HS2.out.1; omega)).trans HS2.out.2.2.1
      have HNK : Hid (∀ X, Only (fun b => b = wr.heap.size + 1) Y X → X2.heap.size < X.heap.size ∧ X.cell? ⟨X2.heap.size, 0, none⟩ = some (.slice A3 ns.length c3) ∧ Sl X X.heap.size A3 (ns.map (Value.int .i64))) := Lib.hid (fun X ho => ns_keep ho (IxAt.cell hix.blk).1 hsb (by have := HS2.out.1; omega) hsl3 (fun b o e => by have := own_addr hix.own b o e; have := HS2.out.1; omega))
      have HON := Lib.hid (each51_one ns X2.heap.size c3 (wr.heap.size + 1) wr.heap.size A3 (fun k X => VarK Y (wr.heap.size + 1) (ns.take k) X) L Y (by omega) (fun k X ⟨v, h⟩ => HNK.out X h.rest) (fun k x X hx _ hj => some51_any Y ns (wr.heap.size + 1) wr.heap.size L k x X hx hY2 (by omega) ⟨by have := HS2.out.1; omega, by have := HS2.out.1; omega⟩ (by omega) hj) ⟨_, hY1, OwnV.nil _ _ _, Only.refl⟩ HL.out.1)
      have HYB := Lib.hid (And.intro hix.bel (And.intro hY2 (And.intro hsb hix.own)))
      have hnf := nil_fn 22 (some ⟨X2.heap.size, 0, none⟩) Y
      clear hix hsl3 hsb hY2 hY1
      go_wp2_with fail
      clear hnf
      refine HON.out.mono ?_
      rintro e Z1 ⟨⟨ve, rfl⟩, v1, hz1⟩
      obtain ⟨Z2, hZ2⟩ : ∃ Z2, Z2 = Z1.alloc (.cells #[.slice none 0 0] IS) := ⟨_, rfl⟩
      have hbz : Below Z1.heap.size Z1 Z2 := by rw [hZ2]; exact below_new _ _
      have hn1 := HNK.out Z1 hz1.rest
      have hblk2 : Z2.heap[Z1.heap.size]? = some (.cells #[.slice none 0 0] IS (0, 0)) := by rw [hZ2]; exact new_obj _ _
      have HZ1 := Lib.hid (And.intro hz1 (And.intro hbz hblk2))
      have HN2 : Hid (X2.heap.size < Z1.heap.size ∧ Z2.cell? ⟨X2.heap.size, 0, none⟩ = some (.slice A3 ns.length c3) ∧ Sl Z2 Z2.heap.size A3 (ns.map (Value.int .i64))) := Lib.hid ⟨hn1.1, (hbz.cell (p := ⟨X2.heap.size, 0, none⟩) hn1.1).trans hn1.2.1, Sl.more (Sl.below hn1.2.2 hbz) hbz.size⟩
      have HAD := Lib.hid (own_addr_lt HYB.out.2.2.2)
      have HON2 := Lib.hid (each51_two ns X2.heap.size c3 Z1.heap.size A3 (fun k X => VarK Z2 Z1.heap.size (ns.take k) X) 1000 Z2 (by omega) (fun k X ⟨v, h⟩ => by
        refine ns_keep h.rest HN2.out.2.1 (by have := HN2.out.1; have := HZ1.out.2.1.size; omega) (by have := HN2.out.1; omega) ?_ ?_
        · exact HN2.out.2.2
        · exact fun b o e => by have := HAD.out b o e; have := HZ1.out.1.rest.size; omega) (fun k x X hx _ hj => all51_any Z2 ns Z1.heap.size k x X hx (by have := (Array.getElem?_eq_some_iff.1 HZ1.out.2.2).1; exact this) (by omega) hj) ⟨_, HZ1.out.2.2, OwnV.nil _ _ _, Only.refl⟩ (by decide))
      clear hz1 hbz hn1 hblk2
      go_wp2_with fail
      rw [← hZ2]
      clear hZ2
      refine HON2.out.mono ?_
      rintro e Z3 ⟨⟨ve2, rfl⟩, v3, hz3⟩
      have hz3 : VarAt Z2 Z1.heap.size v3 ns Z3 := by rwa [show ns.take (min 1000 ns.length) = ns from List.take_of_length_le (by omega)] at hz3
      have ho13 : Only (fun b => b = Z1.heap.size) Z1 Z3 := Only.trans (Only.of_below HZ1.out.2.1) hz3.rest (fun _ _ e => e)
      have hs3 := HZ1.out.1.keep ho13 (fun b e => by have e : b = Z1.heap.size := e; omega)
      have hk5 : (ns.take (min L ns.length)).length = min L ns.length := by rw [List.length_take]; omega
      have hb3w : Below wr.heap.size wr Z3 := ((HS2.out.2.2.2.2.trans (HYB.out.1.mono (by have := HS2.out.1; omega))).trans (HZ1.out.1.rest.below (B := wr.heap.size) (by have := HS2.out.1; have := HYB.out.2.2.1; omega) (fun j e => by have e : j = wr.heap.size + 1 := e; omega))).trans (ho13.below (B := wr.heap.size) (by have := HS2.out.1; have := HYB.out.2.2.1; have := HZ1.out.1.rest.size; omega) (fun j e => by have e : j = Z1.heap.size := e; have := HS2.out.1; have := HYB.out.2.2.1; have := HZ1.out.1.rest.size; omega))
      have hn3 : Z3.cell? ⟨wr.heap.size, 0, none⟩ = some (.int .i64 (L : Int)) := by
        have h1 : Z1.heap[wr.heap.size]? = some (.cells #[.int .i64 (L : Int)] 3 (0, 0)) := (HZ1.out.1.rest.block _ (by have := HS2.out.1; have := HYB.out.2.2.1; omega) (fun e => by have e : wr.heap.size = wr.heap.size + 1 := e; omega)).trans HYB.out.2.1
        have h2 : Z3.heap[wr.heap.size]? = some (.cells #[.int .i64 (L : Int)] 3 (0, 0)) := (ho13.block _ (Array.getElem?_eq_some_iff.1 h1).1 (fun e => by have e : wr.heap.size = Z1.heap.size := e; have := (Array.getElem?_eq_some_iff.1 h1).1; omega)).trans h1
        rw [cell_of_row _ _ _ _ _ _ h2]
        rfl
      obtain ⟨A4, c4, e4, hsl4⟩ := OwnV.sl hz3.own
      subst e4
      obtain ⟨A5, c5, e5, hsl5⟩ := OwnV.sl hs3.own
      rw [hk5] at e5
      subst e5
      obtain ⟨A6, c6, e6, hsl6⟩ := OwnV.sl HX.out.1
      subst e6
      have ya := hz3.cell
      have ys := hs3.cell
      obtain ⟨n, hn⟩ : ∃ n, n = ns.length := ⟨_, rfl⟩
      have HN := Lib.hid hn
      have HSL := Lib.hid (And.intro hsl4 (And.intro hsl5 (Sl.below hsl6 hb3w)))
      have HBF := Lib.hid (show Below w.heap.size w Z3 from HB1.out.trans ((HX.out.2.trans (hb3w.mono HX.out.2.size)).mono HB1.out.size))
      rw [← hn] at ya ys hnl ⊢
      clear hz3 ho13 hs3 hk5 hb3w hsl4 hsl5 hsl6 hn
      go_wp2_with fail
      obtain ⟨p, hp⟩ : ∃ p, p = min L n := ⟨_, rfl⟩
      have HP := Lib.hid hp
      try rw [← hp] at ys
      clear hp
      go_loopw [14, 67] (fun _ iv X => ∃ (k j : Nat), k ≤ n ∧ iv = .int .i64 k ∧ X = Z3.drewN j) (fun _ iv _ => n - (intOf iv).toNat)
      case atStart => exact ⟨0, 0, Nat.zero_le _, rfl, rfl⟩
      case round =>
        obtain ⟨k, j, hk, rfl, rfl⟩ := hrel
        by_cases hkn : k < n
        · have hkn' : (k : Int) < (n : Int) := by omega
          obtain ⟨x, hx⟩ : ∃ x, ns[k]? = some x := ⟨ns[k]'(by have := HN.out; omega), by simp⟩
          obtain ⟨b4, o4, hA4, hl4, hc4⟩ := HSL.out.1 k (.int .i64 x) (by rw [List.getElem?_map, hx]; rfl)
          obtain ⟨b6, o6, hA6, hl6, hc6⟩ := HSL.out.2.2 k (.int .i64 x) (by rw [List.getElem?_map, hx]; rfl)
          subst hA4 hA6
          have ex : (x != x) = false := by simp
          by_cases hkp : k < p
          · have d2 : decide ((k : Int) < (p : Int)) = true := decide_eq_true (by omega)
            have hkp' : (k : Int) < (p : Int) := by omega
            obtain ⟨b5, o5, hA5, hl5, hc5⟩ := HSL.out.2.1 k (.int .i64 x) (by rw [List.getElem?_map, List.getElem?_take, if_pos (by have := HP.out; have := HN.out; omega), hx]; rfl)
            subst hA5
            have HKP := Lib.hid hkp
            clear hx hkp hl4 hl5 hl6
            go_wp2_with fail
            go_quiet (fail)
            go_wp2_with fail
            go_roundw
            case rel => exact ⟨k + 1, _, by omega, by go_num, rfl⟩
            case measure => simp [intOf]; omega
          · have d2 : decide ((k : Int) < (p : Int)) = false := decide_eq_false (by omega)
            have d2n : decide (k < p) = false := decide_eq_false hkp
            have HKP := Lib.hid hkp
            clear hx hkp hl4 hl6
            go_wp2_with fail
            go_quiet (fail)
            go_wp2_with fail
            go_roundw
            case rel => exact ⟨k + 1, _, by omega, by go_num, rfl⟩
            case measure => simp [intOf]; omega
        · obtain rfl : k = n := by omega
          go_wp2_with fail
          go_ret
          exact ⟨rfl, below_dn HBF.out _⟩
end Go.Proofs.YtakdkiggaalimaaDoor
