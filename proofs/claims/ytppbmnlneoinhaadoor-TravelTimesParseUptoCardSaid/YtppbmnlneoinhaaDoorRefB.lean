/-
  The reference's Parse: the walk.
-/
import Derived.Test.YtppbmnlneoinhaaDoorRefWord
import Derived.Test.YtppbmnlneoinhaaDoorRefChg
import Derived.Test.YtppbmnlneoinhaaDoorMatch
namespace Go.Proofs.YtppbmnlneoinhaaDoor
open Go.RowKit Go.Maps

/-- the memory of the reference's Parse at work. -/
structure RPSt (w : World) (E : List EdgeT) (FA : Option Addr) (fc ob rb : Nat) (L : List ChgT) (LA : Option Addr) (lc : Nat) (wr : World) : Prop where
  list : ChgsAt wr wr.heap.size LA L
  nil : LA = none → lc = 0
  apart : ApartL LA L (fun b => b ≤ rb)
  c0 : wr.cell? ⟨rb, 0, none⟩ = some (.slice FA E.length fc)
  c1 : wr.cell? ⟨rb, 0 + 1, none⟩ = some (.slice LA L.length lc)
  z0 : wr.frozen? ⟨rb, 0, none⟩ = false
  z1 : wr.frozen? ⟨rb, 0 + 1, none⟩ = false
  o0 : wr.cell? ⟨ob, 0, none⟩ = some (.slice none 0 0)
  o1 : wr.cell? ⟨ob, 0 + 1, none⟩ = some (.slice none 0 0)
  y0 : wr.frozen? ⟨ob, 0, none⟩ = false
  y1 : wr.frozen? ⟨ob, 0 + 1, none⟩ = false
  lt : ob < rb
  lt2 : rb < wr.heap.size
  low : w.heap.size ≤ ob
  below : Below w.heap.size w wr
section
variable {w : World} {E : List EdgeT} {FA : Option Addr} {fc ob rb : Nat} {L : List ChgT} {LA : Option Addr} {lc : Nat} {wr W' : World}
theorem RPSt.roads (h : RPSt w E FA fc ob rb L LA lc wr) (h0 : Sl w w.heap.size FA ((E.map EdgeT.tm).map (Value.int .i64))) : RoadsAt wr E L FA LA lc :=
  ⟨(h0.below h.below).more h.below.size, h.list, h.nil⟩
theorem RPSt.next (h : RPSt w E FA fc ob rb L LA lc wr) (hb : Below wr.heap.size wr W') : RPSt w E FA fc ob rb L LA lc W' := by
  obtain ⟨h1, h2, h3, c0, c1, z0, z1, o0, o1, y0, y1, l1, l2, l3, hbel⟩ := h
  have K : ∀ b o, b < wr.heap.size → W'.cell? ⟨b, o, none⟩ = wr.cell? ⟨b, o, none⟩ := fun b o h => hb.cell (p := ⟨b, o, none⟩) h
  have Z : ∀ b o, b < wr.heap.size → W'.frozen? ⟨b, o, none⟩ = wr.frozen? ⟨b, o, none⟩ := fun b o h => hb.frozen (p := ⟨b, o, none⟩) h
  exact ⟨(h1.below hb).more hb.size, h2, h3, (K _ _ l2).trans c0, (K _ _ l2).trans c1, (Z _ _ l2).trans z0, (Z _ _ l2).trans z1, (K _ _ (by omega)).trans o0, (K _ _ (by omega)).trans o1, (Z _ _ (by omega)).trans y0, (Z _ _ (by omega)).trans y1, l1, Nat.lt_of_lt_of_le l2 hb.size, l3, hbel.trans (hb.mono hbel.size)⟩
theorem RPSt.put (h : RPSt w E FA fc ob rb L LA lc wr) {L' : List ChgT} {LA' : Option Addr} {lc' : Nat} (hl : ChgsAt wr wr.heap.size LA' L') (hn : LA' = none → lc' = 0) (ha : ApartL LA' L' (fun b => b ≤ rb)) : RPSt w E FA fc ob rb L' LA' lc' (putRoads wr rb (.slice FA E.length fc) (.slice LA' L'.length lc')) := by
  obtain ⟨h1, h2, h3, c0, c1, z0, z1, o0, o1, y0, y1, l1, l2, l3, hbel⟩ := h
  have ho := putRoads_only wr rb (.slice FA E.length fc) (.slice LA' L'.length lc')
  have K : ∀ b o, b < wr.heap.size → b ≠ rb → (putRoads wr rb (.slice FA E.length fc) (.slice LA' L'.length lc')).cell? ⟨b, o, none⟩ = wr.cell? ⟨b, o, none⟩ := fun b o h hn => ho.cell (a := ⟨b, o, none⟩) h hn
  have Z : ∀ b o, (putRoads wr rb (.slice FA E.length fc) (.slice LA' L'.length lc')).frozen? ⟨b, o, none⟩ = wr.frozen? ⟨b, o, none⟩ := fun b o => by
    unfold putRoads
    rw [World.frozen?_setCell, World.frozen?_setCell]
  have s1 : (wr.setCell ⟨rb, 0, none⟩ (.slice FA E.length fc)).cell? ⟨rb, 0, none⟩ = some (.slice FA E.length fc) := World.cell?_setCell_same' _ _ _ (by rw [c0]; rfl)
  have s2 : (wr.setCell ⟨rb, 0, none⟩ (.slice FA E.length fc)).cell? ⟨rb, 0 + 1, none⟩ = some (.slice LA L.length lc) := (World.cell?_setCell_other wr _ ⟨rb, 0 + 1, none⟩ _ (by simp)).trans c1
  exact ⟨(ho.chgs hl (Nat.le_refl _) (fun hne b o e q => ha hne b o e (by have q : b = rb := q; exact Nat.le_of_eq q))).more ho.size, hn, ha, (World.cell?_setCell_other _ _ ⟨rb, 0, none⟩ _ (by simp)).trans s1, World.cell?_setCell_same' _ _ _ (by rw [s2]; rfl), (Z _ _).trans z0, (Z _ _).trans z1, (K _ _ (by omega) (by omega)).trans o0, (K _ _ (by omega) (by omega)).trans o1, (Z _ _).trans y0, (Z _ _).trans y1, l1, Nat.lt_of_lt_of_le l2 ho.size, l3, hbel.trans (ho.below (by omega) (fun j e => by have e : j = rb := e; omega))⟩
end

/-- what the reference's Parse returns. -/
def RetRP (w : World) (E : List EdgeT) (FA : Option Addr) (fc : Nat) (s : List UInt8) (e : Ending) (w' : World) : Prop :=
  Below w.heap.size w w' ∧ ((∃ LA lc L, e = .returned (.tuple #[.agg #[.slice FA E.length fc, .slice LA L.length lc], .int .i64 0, .int .i64 0]) ∧ ChgsAt w' w'.heap.size LA L ∧ (∀ b o, L ≠ [] → LA = some ⟨b, o, none⟩ → w.heap.size ≤ b) ∧ Fine E.length s L) ∨
    ∃ L : List ChgT, e = .returned (.tuple #[.agg #[.slice none 0 0, .slice none 0 0], .int .i64 ((L.length + 1 : Nat) : Int), .int .i64 2]) ∧ Bad E.length s L)

set_option maxRecDepth 100000 in
set_option maxHeartbeats 2000000 in
theorem rparse_any (w : World) (E : List EdgeT) (FA : Option Addr) (fc : Nat) (s : ByteArray) (h0 : Sl w w.heap.size FA ((E.map EdgeT.tm).map (Value.int .i64))) (hE : E.length ≤ 16384) (hs : s.size ≤ 50000) :
    Calls Tryd.prog 14 #[.slice FA E.length fc, .string s] w (RetRP w E FA fc s.data.toList) := by
  obtain ⟨ob, hob⟩ : ∃ ob, ob = w.heap.size := ⟨_, rfl⟩
  obtain ⟨rb, hrb⟩ : ∃ rb, rb = ob + 1 := ⟨_, rfl⟩
  obtain ⟨W, hW⟩ : ∃ W, W = (w.alloc (.cells #[.slice none 0 0, .slice none 0 0] 28)).alloc (.cells #[.slice FA E.length fc, .slice none 0 0] 28) := ⟨_, rfl⟩
  have hst : RPSt w E FA fc ob rb [] none 0 W := by
    have hb0 : Below w.heap.size w (w.alloc (.cells #[.slice none 0 0, .slice none 0 0] 28)) := (Below.refl _ _).alloc (Nat.le_refl _) _
    have hb : Below w.heap.size w W := by rw [hW]; exact hb0.alloc (by simp) _
    have hz : W.heap.size = w.heap.size + 1 + 1 := by rw [hW]; simp
    have hrz : rb = (w.alloc (.cells #[.slice none 0 0, .slice none 0 0] 28)).heap.size := by rw [hrb, hob]; simp
    have hkr : ∀ j, W.cell? ⟨rb, j, none⟩ = (#[.slice FA E.length fc, .slice none 0 0] : Array Value)[j]? := fun j => by rw [hW, World.cell?_alloc_at (hn := hrz)]
    have hfr : ∀ j, W.frozen? ⟨rb, j, none⟩ = false := fun j => by rw [hW, World.frozen?_alloc_at (hn := hrz)]
    have hb1 : Below (w.alloc (.cells #[.slice none 0 0, .slice none 0 0] 28)).heap.size (w.alloc (.cells #[.slice none 0 0, .slice none 0 0] 28)) W := by rw [hW]; exact (Below.refl _ _).alloc (Nat.le_refl _) _
    have hoz : ob < (w.alloc (.cells #[.slice none 0 0, .slice none 0 0] 28)).heap.size := by rw [hob]; simp
    have hko : ∀ j, W.cell? ⟨ob, j, none⟩ = (#[.slice none 0 0, .slice none 0 0] : Array Value)[j]? := fun j => (hb1.cell (p := ⟨ob, j, none⟩) hoz).trans (by rw [World.cell?_alloc_at (hn := hob)])
    have hfo : ∀ j, W.frozen? ⟨ob, j, none⟩ = false := fun j => (hb1.frozen (p := ⟨ob, j, none⟩) hoz).trans (by rw [World.frozen?_alloc_at (hn := hob)])
    exact ⟨RecsAt.empty, fun _ => rfl, fun h => absurd rfl h, hkr 0, hkr 1, hfr _, hfr _, hko 0, hko 1, hfo _, hfo _, by omega, by omega, by omega, hb⟩
  have HST := Lib.hid hst
  have H0 := Lib.hid h0
  have HW := Lib.hid hW
  have hsl : s.data.toList.length = s.size := by simp
  have HSL := Lib.hid hsl
  clear hst h0 hW hsl
  go_enter Tryd.func14, Tryd.ntmps14
  go_wp2_with fail
  rw [← HW.out]
  rw [← hob, ← hrb]
  clear hob hrb
  go_loopw [8, 9, 10] (fun lv fv iv wr => ∃ (L : List ChgT) (a k : Nat) (LA : Option Addr) (lc : Nat), lv = .int .i64 ((L.length + 1 : Nat) : Int) ∧ fv = .int .i64 a ∧ iv = .int .i64 k ∧ TxtAt E.length s.data.toList L a k ∧ RPSt w E FA fc ob rb L LA lc wr) (fun _ _ i _ => s.size - (intOf i).toNat)
  case atStart => exact ⟨[], 0, 0, none, 0, rfl, rfl, rfl, txt_start _ _, HST.out⟩
  case round =>
    obtain ⟨L, a, k, LA, lc, rfl, rfl, rfl, htx, hst⟩ := hrel
    have HT := Lib.hid htx
    have HS := Lib.hid hst
    have hak := htx.le
    have hks := htx.size
    rw [HSL.out] at hks
    have hLa := htx.len
    clear htx hst
    by_cases hlt : k < s.size
    · by_cases hc : s[k] = 10
      · have e1 : ((s[k].toNat : Int) == 10) = true := by rw [hc]; decide
        have hkl : k < s.data.toList.length := by rw [HSL.out]; exact hlt
        have hc' : s.data.toList[k]'hkl = 10 := hc
        have hxd : (s.extract a k).data.toList = (s.data.toList.drop a).take (k - a) := Lib.extract_data _ _ _
        have hch := change_any (s.extract a k) (by rw [ByteArray.size_extract]; omega)
        obtain ⟨c, b, hcb⟩ : ∃ c b, chgR ((s.data.toList.drop a).take (k - a)) = (c, b) := ⟨_, _, rfl⟩
        unfold RetChange at hch
        rw [hxd, hcb] at hch
        have HCH := Lib.hid hch
        have HCB := Lib.hid hcb
        have HC := Lib.hid hc'
        have hrne : ¬ rb = wr.heap.size := by have := HS.out.lt2; omega
        clear hc hch hcb hxd hc'
        go_wp2_with fail
        refine (HCH.out _).mono ?_
        rintro e w1 ⟨rfl, hb1⟩
        have HS1 := HS.out.next hb1
        have hb2 : Below w1.heap.size w1 (w1.alloc (.cells #[.int .i64 c.tick, .int .i64 c.edge, .int .i64 c.time] 57)) := (Below.refl _ _).alloc (Nat.le_refl _) _
        have HS2 := HS1.next hb2
        have r0 := HS1.c0
        have r1 := HS1.c1
        have hrz1 : rb < w1.heap.size := HS1.lt2
        have hrn1 : ¬ rb = w1.heap.size := by omega
        have HSW := Lib.hid HS2
        have HPU := Lib.hid (put_any _ (HS2.roads H0.out) fc c (by omega))
        clear hb2 HS1 HS2 hb1 hrne
        go_wp2_with fail
        refine HPU.out.mono ?_
        rintro e w3 ⟨LA3, lc3, rfl, hr3, hd3, hb3⟩
        have HS3 := HSW.out.next hb3
        have hz3 : w1.heap.size < w3.heap.size := by have := hb3.size; simp at this; omega
        have hd3' : (LA3 = LA ∧ errC E.length L c ≠ 0) ∨ ∀ b o, LA3 = some ⟨b, o, none⟩ → rb < b := hd3.imp id (fun h b o e => by have := h b o e; simp at this; omega)
        have hap3 : ApartL LA3 (putL E.length L c) (fun b => b ≤ rb) := by
          intro hne b o e q
          rcases hd3' with ⟨rfl, he⟩ | hd
          · rw [putL_bad he] at hne
            exact HS3.apart hne b o e q
          · have := hd b o e
            have q : b ≤ rb := q
            omega
        have HR3 := Lib.hid hr3
        have HA3 := Lib.hid hap3
        have o0 := HS3.o0
        have o1 := HS3.o1
        have y0 := HS3.y0
        have y1 := HS3.y1
        have q0 := HS3.c0
        have q1 := HS3.c1
        have z0 := HS3.z0
        have z1 := HS3.z1
        have p1 : w3.cell? ⟨ob, 1, none⟩ = some (.slice none 0 0) := o1
        have hl3 : ob < w3.heap.size := by have := HS3.lt; have := HS3.lt2; omega
        have hl4 : rb < w3.heap.size := HS3.lt2
        have hl5 : ¬ rb = w3.heap.size := by omega
        have hl6 : ¬ ob = w3.heap.size := by omega
        have hor : ob < rb := HS3.lt
        have HSX := Lib.hid HS3
        clear hr3 hap3 hd3 hd3' hb3 HS3 r0 r1
        by_cases hgood : b = true ∧ errC E.length L c = 0
        · obtain ⟨rfl, herr⟩ := hgood
          have HT4 := Lib.hid (HT.out.good hkl HC.out HCB.out herr)
          have HE := Lib.hid herr
          rw [herr]
          clear herr
          go_wp2_with fail
          go_roundw
          case rel =>
            have HF := (HSX.out.put HR3.out.list HR3.out.nil HA3.out).next ((Below.refl _ _).alloc (Nat.le_refl _) (.cells #[.slice FA E.length fc, .slice LA3 (putL E.length L c).length lc3] 28))
            rw [putL_ok HE.out] at HF ⊢
            exact ⟨L ++ [c], k + 1, k + 1, LA3, lc3, by simp, by go_num, by go_num, HT4.out, HF⟩
          case measure => simp [intOf]; omega
        · have HBX := Lib.hid (fun (v0 v1 : Value) (o : Obj) => ((HSX.out.below.setCell (p := ⟨ob, 0, none⟩) HSX.out.low v0).setCell (p := ⟨ob, 0 + 1, none⟩) HSX.out.low v1).alloc (by simp; exact HSX.out.below.size) o)
          have HBD := Lib.hid (HT.out.bad (by omega) hkl HC.out (fun c' hc' he => hgood (by
            rw [HCB.out] at hc'
            injection hc' with h1 h2
            subst h1
            exact ⟨h2, he⟩)))
          cases b
          · clear hgood
            go_wp2_with fail
            refine bodyPost_ret (v := .tuple #[.agg #[.slice none 0 0, .slice none 0 0], .int .i64 ((L.length : Int) + 1), .int .i64 2]) (by simp [results, Tryd.results14, go_sem, o0, p1, hl3]) rfl ⟨HBX.out _ _ _, .inr ⟨L, by simp, HBD.out⟩⟩
          · have hne : (errC E.length L c != 0) = true := by
              rw [bne_iff_ne]
              exact fun q => hgood ⟨rfl, q⟩
            clear hgood
            go_wp2_with fail
            refine bodyPost_ret (v := .tuple #[.agg #[.slice none 0 0, .slice none 0 0], .int .i64 ((L.length : Int) + 1), .int .i64 2]) (by simp [results, Tryd.results14, go_sem, o0, p1, hl3]) rfl ⟨HBX.out _ _ _, .inr ⟨L, by simp, HBD.out⟩⟩
      · have HN := Lib.hid (HT.out.more (by rw [HSL.out]; exact hlt) (show s.data.toList[k]'(by rw [HSL.out]; exact hlt) ≠ 10 from hc))
        have e1 : ((s[k].toNat : Int) == 10) = false := by
          rw [beq_eq_false_iff_ne]
          intro e
          apply hc
          apply UInt8.toNat_inj.1
          have : s[k].toNat = 10 := by omega
          exact this
        clear hc
        go_wp2_with fail
        go_roundw
        case rel => exact ⟨L, a, k + 1, LA, lc, rfl, rfl, by go_num, HN.out, HS.out⟩
        case measure => simp [intOf]; omega
    · have hkk : k = s.size := by omega
      subst hkk
      have HTX := Lib.hid (show TxtAt E.length s.data.toList L a s.data.toList.length from by rw [HSL.out]; exact HT.out)
      have hS := HS.out
      have r0 := hS.c0
      have r1 := hS.c1
      have o0 := hS.o0
      have o1 := hS.o1
      have y0 := hS.y0
      have y1 := hS.y1
      have q1 : wr.cell? ⟨ob, 1, none⟩ = some (.slice none 0 0) := o1
      clear hS
      have HBB := Lib.hid (fun (v0 v1 : Value) => ((HS.out.below.setCell (p := ⟨ob, 0, none⟩) HS.out.low v0).setCell (p := ⟨ob, 0 + 1, none⟩) HS.out.low v1))
      by_cases ha : a = s.size
      · subst ha
        have HF := Lib.hid (show Fine E.length s.data.toList L from by have h := HTX.out; rw [← HSL.out] at h; exact h.fine)
        go_wp2_with fail
        have ho : Only (fun b => b = ob) wr ((wr.setCell ⟨ob, 0, none⟩ (.slice FA E.length fc)).setCell ⟨ob, 0 + 1, none⟩ (.slice LA L.length lc)) := (Only.setCell (S := fun b => b = ob) Only.refl (a := ⟨ob, 0, none⟩) (fun _ => rfl) _).setCell (a := ⟨ob, 0 + 1, none⟩) (fun _ => rfl) _
        refine bodyPost_ret (v := .tuple #[.agg #[.slice FA E.length fc, .slice LA L.length lc], .int .i64 0, .int .i64 0]) (by simp [results, Tryd.results14, go_sem, o0, q1]) rfl ⟨HBB.out _ _, .inl ⟨LA, lc, L, rfl, ?_, ?_, HF.out⟩⟩
        · exact (ho.chgs HS.out.list (Nat.le_refl _) (fun hne b o e q => HS.out.apart hne b o e (by have q : b = ob := q; have := HS.out.lt; show b ≤ rb; omega))).more ho.size
        · intro b o hne e
          have h1 := HS.out.apart hne b o e
          have h2 := HS.out.lt
          have h3 := HS.out.low
          have h1 : ¬ b ≤ rb := h1
          omega
      · have HF := Lib.hid (HTX.out.tail (by omega) (by rw [HSL.out]; omega))
        have hlt2 : a < s.size := by omega
        clear ha
        go_wp2_with fail
        refine bodyPost_ret (v := .tuple #[.agg #[.slice none 0 0, .slice none 0 0], .int .i64 (((L.length + 1 : Nat) : Int)), .int .i64 2]) (by simp [results, Tryd.results14, go_sem, o0, q1]) rfl ⟨HBB.out _ _, .inr ⟨L, by simp, HF.out⟩⟩
end Go.Proofs.YtppbmnlneoinhaaDoor
