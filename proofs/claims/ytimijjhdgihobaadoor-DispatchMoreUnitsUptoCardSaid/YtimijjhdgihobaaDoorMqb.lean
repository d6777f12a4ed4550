/-
  What the library's contracts and dispatch.Format ask of a world (the table of powers of ten, the names of the kinds), and that it stays; texts.
  The clock: what FormatDuration and the reference's Span compute, for all integers.
  The clock: what the reference's Span computes, for all integers.
-/
import Derived.Test.YtimijjhdgihobaaDoorProg
import Derived.Test.YtimijjhdgihobaaDoorShelf
import Derived.Test.YtimijjhdgihobaaDoorMqa
import Derived.WalkLawsBesides
import Derived.Lib.LaidTab
import Derived.Lib.AppendIntMem
import Derived.BigGuardPart
import Derived.Lib.SlBytesRow
import Derived.Lib.ItoaLen
import Derived.Lib.Join
import Derived.Deep.DeepCutAuto
namespace Go.Proofs.YtimijjhdgihobaaDoor
section
open Go.RowKit

/-- the variable kindNames. -/
def NamesAt (w : World) : Prop := w.cell? ⟨0, 0, none⟩ = some (.string ⟨#[98, 97, 115, 105, 99]⟩) ∧ w.cell? ⟨0, 1, none⟩ = some (.string ⟨#[100, 111, 99, 116, 111, 114]⟩) ∧
  w.cell? ⟨0, 2, none⟩ = some (.string ⟨#[99, 97, 114]⟩) ∧ w.cell? ⟨0, 3, none⟩ = some (.string ⟨#[97, 105, 114]⟩)
theorem lt_names : 0 < Tryd.prog.globals.size := of_decide_eq_true (by kernel_rfl)
theorem g_names : Tryd.prog.globalNamed "samaritan/dispatch.kindNames" = some 0 := by kernel_rfl
theorem NamesAt.keep {w w' : World} {B : Nat} (h : NamesAt w) (hb : Below B w w') (hB : Tryd.prog.globals.size ≤ B) : NamesAt w' := by
  have hl : 0 < B := Nat.lt_of_lt_of_le lt_names hB
  exact ⟨(hb.cell (p := ⟨0, 0, none⟩) hl).trans h.1, (hb.cell (p := ⟨0, 1, none⟩) hl).trans h.2.1,
    (hb.cell (p := ⟨0, 2, none⟩) hl).trans h.2.2.1, (hb.cell (p := ⟨0, 3, none⟩) hl).trans h.2.2.2⟩
structure Ready (w : World) : Prop where
  tab : Lib.TabIs Tryd.prog w "internal/strconv.uint64pow10" .u64 Lib.pow10Tab
  room : Tryd.prog.globals.size ≤ w.heap.size
  names : NamesAt w
theorem lt_tab : 1 < Tryd.prog.globals.size := of_decide_eq_true (by kernel_rfl)
theorem g_tab : Tryd.prog.globalNamed "internal/strconv.uint64pow10" = some 1 := by kernel_rfl
theorem var_kept {w w' : World} {n : String} {g B : Nat} (hg : Tryd.prog.globalNamed n = some g) (hb : Below B w w') (hl : g < B) : w'.var? Tryd.prog n = w.var? Tryd.prog n := by
  unfold World.var?
  rw [hg]
  simp only [Option.bind_some]
  rw [hb.block g hl]
theorem Ready.keep {w w' : World} {B : Nat} (h : Ready w) (hb : Below B w w') (hB : Tryd.prog.globals.size ≤ B) : Ready w' := by
  refine ⟨?_, Nat.le_trans h.room hb.size, h.names.keep hb hB⟩
  unfold Lib.TabIs
  rw [var_kept g_tab hb (Nat.lt_of_lt_of_le lt_tab hB)]
  exact h.tab
theorem Ready.below {w w' : World} (h : Ready w) (hb : Below w.heap.size w w') : Ready w' := h.keep hb h.room
theorem Ready.grown {w w' : World} {row : Option Nat} (h : Ready w) (hg : w.grownBy w' row) (hr : ∀ j, row = some j → Tryd.prog.globals.size ≤ j) : Ready w' := h.keep ((Below.refl _ _).grown hg h.room hr) (Nat.le_refl _)
theorem below_then {a b c : World} (h1 : Below a.heap.size a b) (h2 : Below b.heap.size b c) : Below a.heap.size a c :=
  ⟨h2.os.trans h1.os, h2.tape.trans h1.tape, h2.output.trans h1.output, Nat.le_trans h1.size h2.size, fun k hk => (h2.block k (Nat.lt_of_lt_of_le hk h1.size)).trans (h1.block k hk)⟩
theorem ret_str {a b : ByteArray} (h : a = b) : Ending.returned (.string a) = Ending.returned (.string b) := by rw [h]
/-- a text as the model has it. -/
def bs (l : List UInt8) : ByteArray := ⟨l.toArray⟩
theorem bs_append (a b : List UInt8) : bs a ++ bs b = bs (a ++ b) := by
  apply ByteArray.ext
  simp [bs]
theorem bs_data (l : List UInt8) : (bs l).data.toList = l := by simp [bs]
theorem bs_size (l : List UInt8) : (bs l).size = l.length := by simp [bs, ByteArray.size]
theorem bs_inj {a b : List UInt8} (h : bs a = bs b) : a = b := by
  have := congrArg (fun x => x.data.toList) h
  simpa [bs_data] using this
theorem bs_of (s : ByteArray) : s = bs s.data.toList := by
  apply ByteArray.ext
  simp [bs]
theorem formatInt_any (n : Int) (h0 : -9223372036854775808 ≤ n) (h1 : n ≤ 9223372036854775807) (w : World) (h : Ready w) :
    Calls Tryd.prog 16 #[.int .i64 n, .int .i64 10] w fun e w' => e = .returned (.string (bs (Lib.itoa n))) ∧ Below w.heap.size w w' := by
  refine (Tryd.strconv_FormatInt_10 n h0 h1 w h.tab).mono ?_
  rintro e w' ⟨rfl, k, os, rfl⟩
  exact ⟨rfl, Lib.below_grow _ _ (Nat.le_refl _) _ _⟩
theorem itoa_any (n : Int) (h0 : -9223372036854775808 ≤ n) (h1 : n ≤ 9223372036854775807) (w : World) (h : Ready w) :
    Calls Tryd.prog 17 #[.int .i64 n] w fun e w' => e = .returned (.string (bs (Lib.itoa n))) ∧ Below w.heap.size w w' := by
  refine (Tryd.strconv_Itoa n h0 h1 w h.tab).mono ?_
  rintro e w' ⟨rfl, k, os, rfl⟩
  exact ⟨rfl, Lib.below_grow _ _ (Nat.le_refl _) _ _⟩
theorem toL (a : ByteArray) : a.toList = a.data.toList := ByteArray.toList_eq a
theorem toL_bs (l : List UInt8) : (bs l).toList = l := by rw [toL, bs_data]
theorem toL_inj {a b : ByteArray} (h : a.toList = b.toList) : a = b := by
  rw [toL, toL] at h
  exact ByteArray.ext (Array.toList_inj.1 h)
def kindName (k : Int) : List UInt8 := if k = 1 then [98, 97, 115, 105, 99] else if k = 2 then [100, 111, 99, 116, 111, 114] else if k = 3 then [99, 97, 114] else [97, 105, 114]
theorem NamesAt.at {w : World} (h : NamesAt w) {k : Int} (hk : kindB k = true) : w.cell? ⟨0, (k - 1).toNat, none⟩ = some (.string (bs (kindName k))) := by
  unfold kindB at hk
  rw [decide_eq_true_eq] at hk
  have : k = 1 ∨ k = 2 ∨ k = 3 ∨ k = 4 := by omega
  rcases this with rfl | rfl | rfl | rfl
  · exact h.1
  · exact h.2.1
  · exact h.2.2.1
  · exact h.2.2.2
theorem word_any (k : Int) (w : World) :
    Calls Tryd.prog 20 #[.int .i64 k] w fun e w' => e = .returned (.string (bs (kindName k))) ∧ w = w' := by
  have HK : Hid (kindName k = if k = 1 then [98, 97, 115, 105, 99] else if k = 2 then [100, 111, 99, 116, 111, 114] else if k = 3 then [99, 97, 114] else [97, 105, 114]) := rfl
  generalize kindName k = r at *
  go_enter Tryd.func20, Tryd.ntmps20
  by_cases h1 : k = 1
  · have HR : Hid (r = [98, 97, 115, 105, 99]) := by show _ = _; rw [HK.out, if_pos h1]
    go_wp2_with fail
    go_ret
    exact ⟨ret_str (by rw [HR.out]; rfl), rfl⟩
  by_cases h2 : k = 2
  · have HR : Hid (r = [100, 111, 99, 116, 111, 114]) := by show _ = _; rw [HK.out, if_neg h1, if_pos h2]
    go_wp2_with fail
    go_ret
    exact ⟨ret_str (by rw [HR.out]; rfl), rfl⟩
  by_cases h3 : k = 3
  · have HR : Hid (r = [99, 97, 114]) := by show _ = _; rw [HK.out, if_neg h1, if_neg h2, if_pos h3]
    go_wp2_with fail
    go_ret
    exact ⟨ret_str (by rw [HR.out]; rfl), rfl⟩
  · have HR : Hid (r = [97, 105, 114]) := by show _ = _; rw [HK.out, if_neg h1, if_neg h2, if_neg h3]
    go_wp2_with fail
    go_ret
    exact ⟨ret_str (by rw [HR.out]; rfl), rfl⟩
end
section
open Go.RowKit Go.Maps

section
open Go.Lib
theorem dig_toNat {d : Nat} (h : d < 10) : (UInt8.ofNat (48 + d)).toNat = 48 + d := by
  rw [UInt8.toNat_ofNat']
  omega
theorem dec_small {n : Nat} (h : n < 10) : decDigits n = [UInt8.ofNat (48 + n)] := by rw [decDigits, dif_pos h]
theorem dec_big {n : Nat} (h : ¬ n < 10) : decDigits n = decDigits (n / 10) ++ [UInt8.ofNat (48 + n % 10)] := by rw [decDigits, dif_neg h]
theorem dec_ne (n : Nat) : decDigits n ≠ [] := by
  by_cases h : n < 10
  · rw [dec_small h]
    simp
  · rw [dec_big h]
    simp
end
def hold (n : Int) : Int := min (max n 0) 4611686018427387904
theorem hold_ge (n : Int) : 0 ≤ hold n := by unfold hold; omega
theorem hold_le (n : Int) : hold n ≤ 4611686018427387904 := by unfold hold; omega
theorem clamp_any (n : Int) (w : World) : Calls Tryd.prog 34 #[.int .i64 n] w fun e w' => e = .returned (.int .i64 (hold n)) ∧ w' = w := by
  go_enter Tryd.func34, Tryd.ntmps34
  go_wp2_with fail
  go_ret
  exact ⟨rfl, rfl⟩
theorem neverC_any (w : World) : Calls Tryd.prog 38 #[] w fun e w' => e = .returned (.int .i64 4611686018427387904) ∧ w' = w := by
  go_enter Tryd.func38, Tryd.ntmps38
  go_wp2_with fail
  go_ret
  exact ⟨rfl, rfl⟩
theorem hold_any (t : Int) (w : World) : Calls Tryd.prog 37 #[.int .i64 t] w fun e w' => e = .returned (.int .i64 (hold t)) ∧ w' = w := by
  go_enter Tryd.func37, Tryd.ntmps37
  go_wp2_with fail
  · go_ret
    exact ⟨ret_int (by unfold hold; omega), rfl⟩
  · refine (neverC_any _).mono ?_
    rintro e w' ⟨rfl, rfl⟩
    go_wp2_with fail
    · refine (neverC_any _).mono ?_
      rintro e w' ⟨rfl, rfl⟩
      go_wp2_with fail
      go_ret
      exact ⟨ret_int (by unfold hold; omega), rfl⟩
    · go_ret
      exact ⟨ret_int (by unfold hold; omega), rfl⟩
theorem byte_conv (w : World) (n : Int) (h0 : 0 ≤ n) (h1 : n < 10) :
    (convert 97 9 (.slice (some ⟨w.heap.size, 0, none⟩) 1 1)).run Tryd.prog (w.alloc (.cells #[.int .u8 (48 + n)] 5)) = .ok (.string (bs (Lib.decDigits n.toNat))) (w.alloc (.cells #[.int .u8 (48 + n)] 5)) := by
  have hd : Lib.decDigits n.toNat = [UInt8.ofNat (48 + n.toNat)] := dec_small (by omega)
  have hs : (bs (Lib.decDigits n.toNat)).size = 1 := by rw [bs_size, hd]; rfl
  have h := Lib.run_convert_whole (P := Tryd.prog) (w.alloc (.cells #[.int .u8 (48 + n)] 5)) 97 5 9 Tryd.underlying97 Tryd.underlying5 Tryd.underlying9 w.heap.size 0 (bs (Lib.decDigits n.toNat)) ?_ 1
  · rw [hs] at h
    exact h
  · intro i hi
    have hi0 : i = 0 := by rw [hs] at hi; omega
    subst hi0
    have e1 : (bs (Lib.decDigits n.toNat))[0] = UInt8.ofNat (48 + n.toNat) := by
      simp [bs, hd, ByteArray.getElem_eq_getElem_data]
    rw [e1, dig_toNat (by omega)]
    have e2 : ((48 + n.toNat : Nat) : Int) = 48 + n := by omega
    rw [e2]
    simp
theorem dec_len (n : Int) (h : n ≤ 9223372036854775807) : (bs (Lib.decDigits n.toNat)).size ≤ 20 := by
  rw [bs_size, Lib.decDigits_length]
  exact Lib.nDigits_le20 _ (by omega)
set_option maxRecDepth 100000 in
theorem num_go : ∀ (k : Nat) (n : Int) (_ : 0 ≤ n) (_ : n.toNat < k) (_ : n ≤ 9223372036854775807) (w : World), Calls Tryd.prog 36 #[.int .i64 n] w fun e w' => e = .returned (.string (bs (Lib.decDigits n.toNat))) ∧ Below w.heap.size w w' := by
  intro k
  induction k with
  | zero => intro n _ h; omega
  | succ k ih =>
    intro n h0 hk hn w
    by_cases h : n < 10
    · have hcv := byte_conv w n h0 h
      go_enter Tryd.func36, Tryd.ntmps36
      go_wp2_with fail
      go_ret
      exact ⟨rfl, (Below.refl _ _).alloc (Nat.le_refl _) _⟩
    · go_enter Tryd.func36, Tryd.ntmps36
      go_wp2_with fail
      refine (ih (n / 10) (by omega) (by omega) (by omega) _).mono ?_
      rintro e w1 ⟨rfl, hb1⟩
      have HB1 := Lib.hid hb1
      clear hb1
      go_wp2_with fail
      refine (ih (n % 10) (by omega) (by omega) (by omega) _).mono ?_
      rintro e w2 ⟨rfl, hb2⟩
      have HB2 := Lib.hid hb2
      clear hb2
      have l1 := dec_len (n / 10) (by omega)
      have l2 := dec_len (n % 10) (by omega)
      go_wp2_with fail
      go_ret
      refine ⟨ret_str ?_, below_then HB1.out HB2.out⟩
      rw [bs_append, dec_big (n := n.toNat) (by omega), show (n / 10).toNat = n.toNat / 10 by omega, show (n % 10).toNat = n.toNat % 10 by omega, dec_small (n := n.toNat % 10) (by omega)]
theorem num_any (n : Int) (h0 : 0 ≤ n) (hn : n ≤ 9223372036854775807) (w : World) : Calls Tryd.prog 36 #[.int .i64 n] w fun e w' => e = .returned (.string (bs (Lib.decDigits n.toNat))) ∧ Below w.heap.size w w' :=
  num_go (n.toNat + 1) n h0 (by omega) hn w
def neverL : List UInt8 := [110, 101, 118, 101, 114]
theorem itoa_dec {n : Int} (h : 0 ≤ n) : Lib.itoa n = Lib.decDigits n.toNat := by
  have := Lib.itoa_nonneg n.toNat
  rwa [Int.toNat_of_nonneg h] at this
theorem str_info : (Tryd.prog.info? 9).map (fun i => (i.zero, i.size, i.bytes)) = some (some (.string ByteArray.empty), 1, 16) := by kernel_rfl
def parts (x : Int) : List (List UInt8) :=
  (if 0 < x / 3600 then [Lib.decDigits (x / 3600).toNat ++ [104]] else []) ++ (if 0 < x % 3600 / 60 then [Lib.decDigits (x % 3600 / 60).toNat ++ [109]] else [])
    ++ (if 0 < x % 60 ∨ x = 0 then [Lib.decDigits (x % 60).toNat ++ [115]] else [])
/-- the text of a duration between 0 and 2^62. -/
def span (x : Int) : List UInt8 := if x = 4611686018427387904 then neverL else Lib.join (parts x) [32]
def pH (x : Int) : List ByteArray := if 0 < x / 3600 then [bs (Lib.decDigits (x / 3600).toNat) ++ ⟨#[104]⟩] else []
def pM (x : Int) : List ByteArray := if 0 < x % 3600 / 60 then [bs (Lib.decDigits (x % 3600 / 60).toNat) ++ ⟨#[109]⟩] else []
def pS (x : Int) : List ByteArray := if 0 < x % 60 then [bs (Lib.decDigits (x % 60).toNat) ++ ⟨#[115]⟩] else []
theorem pieces_len (x : Int) : (pH x ++ pM x ++ pS x).length ≤ 3 := by
  unfold pH pM pS
  split <;> split <;> split <;> simp
theorem app_data (d : List UInt8) (c : UInt8) : (bs d ++ (⟨#[c]⟩ : ByteArray)).data.toList = d ++ [c] := by
  show (bs d ++ bs [c]).data.toList = _
  rw [bs_append, bs_data]
theorem pieces_data {x : Int} (h : ¬ x = 0) : (pH x ++ pM x ++ pS x).map (·.data.toList) = parts x := by
  have e : (0 < x % 60 ∨ x = 0) ↔ 0 < x % 60 := by omega
  unfold pH pM pS parts
  simp only [e]
  rw [List.map_append, List.map_append]
  congr 1
  · congr 1
    · split
      · rw [List.map_cons, List.map_nil, app_data]
      · rfl
    · split
      · rw [List.map_cons, List.map_nil, app_data]
      · rfl
  · split
    · rw [List.map_cons, List.map_nil, app_data]
    · rfl
theorem parts_ne {x : Int} (h0 : 0 ≤ x) : parts x ≠ [] := by
  unfold parts
  intro e
  rw [List.append_eq_nil_iff, List.append_eq_nil_iff] at e
  obtain ⟨⟨e1, e2⟩, e3⟩ := e
  have h1 : ¬ 0 < x / 3600 := fun q => by rw [if_pos q] at e1; cases e1
  have h2 : ¬ 0 < x % 3600 / 60 := fun q => by rw [if_pos q] at e2; cases e2
  have h3 : ¬ (0 < x % 60 ∨ x = 0) := fun q => by rw [if_pos q] at e3; cases e3
  omega
theorem dec_length (n : Int) (h : n ≤ 9223372036854775807) : (Lib.decDigits n.toNat).length ≤ 20 := by
  have := dec_len n h
  rwa [bs_size] at this
theorem join_parts_len (x : Int) (h0 : 0 ≤ x) (h1 : x ≤ 4611686018427387904) : (Lib.join (parts x) [32]).length ≤ 100 := by
  have l1 := dec_length (x / 3600) (by omega)
  have l2 := dec_length (x % 3600 / 60) (by omega)
  have l3 := dec_length (x % 60) (by omega)
  unfold parts
  split <;> split <;> split <;> simp [Lib.join_cons, Lib.join_nil, Lib.joinTail] <;> omega
theorem join_any (xs : List ByteArray) (hne : xs ≠ []) {base : Nat} {w : World} (v : Value) (hown : OwnV Value.string w base 9 v xs) (sep : ByteArray) (hN : xs.length ≤ 1000)
    (hlen : (Lib.join (xs.map (·.data.toList)) sep.data.toList).length ≤ 140737488355328) :
    Calls Tryd.prog 35 #[v, .string sep] w fun e w' => e = .returned (.string (bs (Lib.join (xs.map (·.data.toList)) sep.data.toList))) ∧ Below w.heap.size w w' := by
  rcases hown.2 with ⟨_, hn⟩ | ⟨g, cap, cur, hv, hb, hh, hc, _⟩
  · exact absurd (List.eq_nil_of_length_eq_zero hn) hne
  · have hcell : ∀ (j : Nat) x, xs[j]? = some x → w.cell? ⟨g, 0 + j, none⟩ = some (.string x) := by
      intro j x hx
      subst hv
      obtain ⟨b, o, h1, h2⟩ := hown.cell hx
      injection h1 with h1
      injection h1 with h3 h4
      rw [h3, h4]
      exact h2
    subst hv
    exact Tryd.strings_Join g 0 cap xs sep w hcell (Array.getElem?_eq_some_iff.1 hh).1 (by omega) hc hlen
set_option maxRecDepth 100000 in
set_option maxHeartbeats 4000000 in
theorem formatDuration_any (t : Int) (w : World) (hr : Ready w) : Calls Tryd.prog 18 #[.int .i64 t] w fun e w' => e = .returned (.string (bs (span (hold t)))) ∧ Below w.heap.size w w' := by
  have hbase := hr.room
  go_enter Tryd.func18, Tryd.ntmps18
  go_wp2_with fail
  refine (clamp_any _ _).mono ?_
  rintro e w' ⟨rfl, rfl⟩
  obtain ⟨w, rfl⟩ : ∃ w : World, w = w' := ⟨_, rfl⟩
  have a0 := hold_ge t
  have a1 := hold_le t
  obtain ⟨x, hx⟩ : ∃ x, x = hold t := ⟨_, rfl⟩
  rw [← hx] at a0 a1 ⊢
  have HX := Lib.hid hx
  clear hx
  by_cases hn : x = 4611686018427387904
  · subst hn
    go_wp2_with fail
    go_ret
    exact ⟨ret_str (by rw [← HX.out]; rfl), Below.refl _ _⟩
  by_cases h0x : x = 0
  · subst h0x
    go_wp2_with fail
    go_ret
    refine ⟨ret_str ?_, Below.refl _ _⟩
    rw [← HX.out, span, if_neg hn, parts]
    simp [Lib.join_one, dec_small]
    rfl
  · have hown : OwnV Value.string w w.heap.size 9 (.slice none 0 0) [] := OwnV.nil _ _ _
    have HB := Lib.hid (Below.refl w.heap.size w)
    go_upto_if 16 with fail
    go_cut [3] (fun v wx => OwnV Value.string wx w.heap.size 9 v (pH x) ∧ Ready wx ∧ Below w.heap.size w wx)
    case first =>
      by_cases hc : 0 < x / 3600
      · go_wp2_with fail
        refine (formatInt_any (x / 3600) (by omega) (by omega) _ hr).mono ?_
        rintro e w1 ⟨rfl, hb⟩
        have hr1 := hr.below hb
        have hown1 := hown.kept_new hb
        have HB1 := Lib.hid (below_then HB.out hb)
        clear hb
        rw [itoa_dec (show 0 ≤ x / 3600 by omega)]
        have l := dec_len (x / 3600) (by omega)
        go_wp2_with (at_builtin; refine wpList_append_one (f := Value.string) _ rfl _ _ 78 rfl w.heap.size 9 Tryd.underlying78 str_info rfl (by omega) _ _ w1 (bs (Lib.decDigits (x / 3600).toNat) ++ ⟨#[104]⟩) rfl rfl rfl hown1 rfl (by simp) HB1.out.size ?_; intro v2 w2 hown2 hg)
        go_meet
        case rel =>
          refine ⟨?_, hr1.grown hg (fun j hj => Nat.le_trans hbase (hown1.ge_base j hj)), HB1.out.grown hg HB1.out.size hown1.ge_base⟩
          rw [show pH x = [bs (Lib.decDigits (x / 3600).toNat) ++ ⟨#[104]⟩] from if_pos hc]
          exact hown2
      · go_wp2_with fail
        go_meet
        case rel =>
          refine ⟨?_, hr, HB.out⟩
          rw [show pH x = [] from if_neg (by omega)]
          exact hown
    case rest =>
    clear hown hr HB
    obtain ⟨hown, hr, hb⟩ := hcut
    have HB := Lib.hid hb
    clear hb
    go_upto_if 27 with fail
    go_cut [3] (fun v wx => OwnV Value.string wx w.heap.size 9 v (pH x ++ pM x) ∧ Ready wx ∧ Below w.heap.size w wx)
    case first =>
      by_cases hc : 0 < x % 3600 / 60
      · go_wp2_with fail
        refine (formatInt_any (x % 3600 / 60) (by omega) (by omega) _ hr).mono ?_
        rintro e w1 ⟨rfl, hb⟩
        have hr1 := hr.below hb
        have hown1 := hown.kept_new hb
        have HB1 := Lib.hid (below_then HB.out hb)
        clear hb
        rw [itoa_dec (show 0 ≤ x % 3600 / 60 by omega)]
        have l := dec_len (x % 3600 / 60) (by omega)
        go_wp2_with (at_builtin; refine wpList_append_one (f := Value.string) _ rfl _ _ 78 rfl w.heap.size 9 Tryd.underlying78 str_info rfl (by omega) _ _ w1 (bs (Lib.decDigits (x % 3600 / 60).toNat) ++ ⟨#[109]⟩) rfl rfl rfl hown1 rfl (by have := pieces_len x; simp only [List.length_append] at this ⊢; omega) HB1.out.size ?_; intro v2 w2 hown2 hg)
        go_meet
        case rel =>
          refine ⟨?_, hr1.grown hg (fun j hj => Nat.le_trans hbase (hown1.ge_base j hj)), HB1.out.grown hg HB1.out.size hown1.ge_base⟩
          rw [show pM x = [bs (Lib.decDigits (x % 3600 / 60).toNat) ++ ⟨#[109]⟩] from if_pos hc]
          exact hown2
      · go_wp2_with fail
        go_meet
        case rel =>
          refine ⟨?_, hr, HB.out⟩
          rw [show pM x = [] from if_neg (by omega), List.append_nil]
          exact hown
    case rest =>
    clear hown hr HB
    obtain ⟨hown, hr, hb⟩ := hcut
    have HB := Lib.hid hb
    clear hb
    go_upto_if 37 with fail
    go_cut [3] (fun v wx => OwnV Value.string wx w.heap.size 9 v (pH x ++ pM x ++ pS x) ∧ Ready wx ∧ Below w.heap.size w wx)
    case first =>
      by_cases hc : 0 < x % 60
      · go_wp2_with fail
        refine (formatInt_any (x % 60) (by omega) (by omega) _ hr).mono ?_
        rintro e w1 ⟨rfl, hb⟩
        have hr1 := hr.below hb
        have hown1 := hown.kept_new hb
        have HB1 := Lib.hid (below_then HB.out hb)
        clear hb
        rw [itoa_dec (show 0 ≤ x % 60 by omega)]
        have l := dec_len (x % 60) (by omega)
        go_wp2_with (at_builtin; refine wpList_append_one (f := Value.string) _ rfl _ _ 78 rfl w.heap.size 9 Tryd.underlying78 str_info rfl (by omega) _ _ w1 (bs (Lib.decDigits (x % 60).toNat) ++ ⟨#[115]⟩) rfl rfl rfl hown1 rfl (by have := pieces_len x; simp only [List.length_append] at this ⊢; omega) HB1.out.size ?_; intro v2 w2 hown2 hg)
        go_meet
        case rel =>
          refine ⟨?_, hr1.grown hg (fun j hj => Nat.le_trans hbase (hown1.ge_base j hj)), HB1.out.grown hg HB1.out.size hown1.ge_base⟩
          rw [show pS x = [bs (Lib.decDigits (x % 60).toNat) ++ ⟨#[115]⟩] from if_pos hc]
          exact hown2
      · go_wp2_with fail
        go_meet
        case rel =>
          refine ⟨?_, hr, HB.out⟩
          rw [show pS x = [] from if_neg (by omega), List.append_nil]
          exact hown
    case rest =>
    clear hown hr HB
    obtain ⟨hown, hr, hb⟩ := hcut
    have HB := Lib.hid hb
    clear hb
    go_wp2_with fail
    have hpd := pieces_data h0x
    have hpl := pieces_len x
    have hjl := join_parts_len x a0 a1
    obtain ⟨xs, hxs⟩ : ∃ xs, xs = pH x ++ pM x ++ pS x := ⟨_, rfl⟩
    rw [← hxs] at hpd hpl hown
    clear hxs
    refine (join_any xs ?_ _ hown ⟨#[32]⟩ (by omega) (by rw [hpd]; exact Nat.le_trans hjl (by omega))).mono ?_
    · intro e
      rw [e] at hpd
      exact parts_ne a0 hpd.symm
    rintro e wj ⟨rfl, hbj⟩
    have HBJ := Lib.hid (below_then HB.out hbj)
    clear hbj HB
    go_wp2_with fail
    go_ret
    refine ⟨ret_str ?_, HBJ.out⟩
    rw [← HX.out, span, if_neg hn]
end
section
open Go.RowKit Go.Maps

/-- a piece put behind what there is, with a blank between. -/
def glue (c : Prop) [Decidable c] (o p : List UInt8) : List UInt8 := if c then (if o = [] then p else o ++ ([32] ++ p)) else o
def out1 (x : Int) : List UInt8 := if 0 < x / 3600 then Lib.decDigits (x / 3600).toNat ++ [104] else []
def out2 (x : Int) : List UInt8 := glue (0 < x % 3600 / 60) (out1 x) (Lib.decDigits (x % 3600 / 60).toNat ++ [109])
def out3 (x : Int) : List UInt8 := glue (0 < x % 60 ∨ x = 0) (out2 x) (Lib.decDigits (x % 60).toNat ++ [115])
theorem glue_join {c : Prop} [Decidable c] {ps : List (List UInt8)} (hps : ∀ p ∈ ps, p ≠ []) (p : List UInt8) : glue c (Lib.join ps [32]) p = Lib.join (ps ++ if c then [p] else []) [32] := by
  unfold glue
  split
  · cases ps with
    | nil => simp [Lib.join_nil, Lib.join_one]
    | cons q r =>
      have hq := hps q (by simp)
      rw [Lib.join_cons, if_neg (by simp [hq])]
      show _ = Lib.join (q :: (r ++ [p])) [32]
      rw [Lib.join_cons]
      simp [Lib.joinTail]
  · rw [List.append_nil]
theorem out3_eq (x : Int) : out3 x = Lib.join (parts x) [32] := by
  unfold out3 out2 parts
  rw [show out1 x = Lib.join (if 0 < x / 3600 then [Lib.decDigits (x / 3600).toNat ++ [104]] else []) [32] by unfold out1; split; exact (Lib.join_one _ _).symm; rfl]
  rw [glue_join (by intro p hp; split at hp; (rcases List.mem_singleton.1 hp with rfl; simp); cases hp), glue_join]
  intro p hp
  rcases List.mem_append.1 hp with hp | hp
  · split at hp
    · rcases List.mem_singleton.1 hp with rfl
      simp
    · cases hp
  · split at hp
    · rcases List.mem_singleton.1 hp with rfl
      simp
    · cases hp
theorem out1_len (x : Int) (h1 : x ≤ 4611686018427387904) : (bs (out1 x)).size ≤ 30 := by
  have := dec_length (x / 3600) (by omega)
  rw [bs_size]
  unfold out1
  split <;> simp <;> omega
theorem glue_len (c : Prop) [Decidable c] (o p : List UInt8) : (bs (glue c o p)).size ≤ (bs o).size + (bs p).size + 1 := by
  rw [bs_size, bs_size, bs_size]
  unfold glue
  split
  · split
    · omega
    · simp
      omega
  · omega
theorem out2_len (x : Int) (h1 : x ≤ 4611686018427387904) : (bs (out2 x)).size ≤ 60 := by
  have a := out1_len x h1
  have b := glue_len (0 < x % 3600 / 60) (out1 x) (Lib.decDigits (x % 3600 / 60).toNat ++ [109])
  have := dec_length (x % 3600 / 60) (by omega)
  rw [bs_size (_ ++ _)] at b
  unfold out2
  simp at b
  omega
theorem str_eq {a b : ByteArray} (h : a = b) : Value.string a = Value.string b := by rw [h]
set_option maxRecDepth 100000 in
set_option maxHeartbeats 4000000 in
theorem span_any (t : Int) (w : World) : Calls Tryd.prog 21 #[.int .i64 t] w fun e w' => e = .returned (.string (bs (span (hold t)))) ∧ Below w.heap.size w w' := by
  go_enter Tryd.func21, Tryd.ntmps21
  go_wp2_with fail
  refine (hold_any _ _).mono ?_
  rintro e w' ⟨rfl, rfl⟩
  obtain ⟨w, rfl⟩ : ∃ w : World, w = w' := ⟨_, rfl⟩
  have a0 := hold_ge t
  have a1 := hold_le t
  obtain ⟨x, hx⟩ : ∃ x, x = hold t := ⟨_, rfl⟩
  rw [← hx] at a0 a1 ⊢
  have HX := Lib.hid hx
  clear hx
  go_wp2_with fail
  refine (neverC_any _).mono ?_
  rintro e w' ⟨rfl, rfl⟩
  obtain ⟨w, rfl⟩ : ∃ w : World, w = w' := ⟨_, rfl⟩
  by_cases hn : x = 4611686018427387904
  · subst hn
    go_wp2_with fail
    go_ret
    exact ⟨ret_str (by rw [← HX.out]; rfl), Below.refl _ _⟩
  by_cases h0x : x = 0
  · subst h0x
    go_wp2_with fail
    refine (num_any 0 (by omega) (by omega) _).mono ?_
    rintro e w1 ⟨rfl, hb⟩
    have HB1 := Lib.hid hb
    clear hb
    have l : (bs (Lib.decDigits 0)).size ≤ 20 := dec_len 0 (by omega)
    rw [Int.toNat_zero]
    go_wp2_with fail
    go_ret
    refine ⟨ret_str ?_, HB1.out⟩
    show bs [] ++ bs _ ++ bs [115] = _
    rw [bs_append, bs_append, ← HX.out, span, if_neg hn, parts]
    simp [Lib.join_one]
  · have HB := Lib.hid (Below.refl w.heap.size w)
    go_upto_if 10 with fail
    go_cut [3] (fun v wx => v = .string (bs (out1 x)) ∧ Below w.heap.size w wx)
    case first =>
      by_cases hc : 0 < x / 3600
      · go_wp2_with fail
        refine (num_any (x / 3600) (by omega) (by omega) _).mono ?_
        rintro e w1 ⟨rfl, hb⟩
        have HB1 := Lib.hid (below_then HB.out hb)
        clear hb
        have l := dec_len (x / 3600) (by omega)
        go_wp2_with fail
        go_meet
        case rel =>
          refine ⟨str_eq ?_, HB1.out⟩
          show bs _ ++ bs [104] = _
          rw [bs_append, out1, if_pos hc]
      · go_wp2_with fail
        go_meet
        case rel =>
          refine ⟨str_eq ?_, HB.out⟩
          rw [out1, if_neg (by omega)]
          rfl
    case rest =>
    clear HB
    obtain ⟨rfl, hb⟩ := hcut
    have HB := Lib.hid hb
    clear hb
    have hl := out1_len x a1
    obtain ⟨o, hod⟩ : ∃ o, o = out1 x := ⟨_, rfl⟩
    rw [← hod] at hl ⊢
    have HO := Lib.hid hod
    clear hod
    go_upto_if 18 with fail
    go_cut [3] (fun v wx => v = .string (bs (glue (0 < x % 3600 / 60) o (Lib.decDigits (x % 3600 / 60).toNat ++ [109]))) ∧ Below w.heap.size w wx)
    case first =>
      by_cases hc : 0 < x % 3600 / 60
      ·
        by_cases ho : o = []
        · have e1 : ((bs o).toList == []) = true := by rw [toL_bs, ho]; rfl
          have e2 : ((bs o).toList != []) = false := by rw [bne, e1]; rfl
          have HOO := Lib.hid ho
          clear ho
          go_wp2_with fail
          refine (num_any (x % 3600 / 60) (by omega) (by omega) _).mono ?_
          rintro e w1 ⟨rfl, hb⟩
          have HB1 := Lib.hid (below_then HB.out hb)
          clear hb
          have l := dec_len (x % 3600 / 60) (by omega)
          go_wp2_with fail
          go_meet
          case rel =>
            refine ⟨str_eq ?_, HB1.out⟩
            show bs o ++ bs _ ++ bs [109] = _
            rw [bs_append, bs_append, glue, if_pos hc, if_pos HOO.out, HOO.out]
            rfl
        · have e1 : ((bs o).toList == []) = false := by rw [toL_bs, beq_eq_false_iff_ne]; exact ho
          have e2 : ((bs o).toList != []) = true := by rw [bne, e1]; rfl
          go_wp2_with fail
          refine (num_any (x % 3600 / 60) (by omega) (by omega) _).mono ?_
          rintro e w1 ⟨rfl, hb⟩
          have HB1 := Lib.hid (below_then HB.out hb)
          clear hb
          have l := dec_len (x % 3600 / 60) (by omega)
          go_wp2_with fail
          go_meet
          case rel =>
            refine ⟨str_eq ?_, HB1.out⟩
            show bs o ++ bs [32] ++ bs _ ++ bs [109] = _
            rw [bs_append, bs_append, bs_append, glue, if_pos hc, if_neg ho]
            simp only [List.append_assoc]
      · go_wp2_with fail
        go_meet
        case rel =>
          refine ⟨str_eq ?_, HB.out⟩
          rw [glue, if_neg (by omega)]
    case rest =>
    clear HB
    obtain ⟨rfl, hb⟩ := hcut
    have HB := Lib.hid hb
    clear hb hl
    have hl := out2_len x a1
    rw [HO.out]
    obtain ⟨o, hod⟩ : ∃ o, o = out2 x := ⟨_, rfl⟩
    have hod2 : glue (0 < x % 3600 / 60) (out1 x) (Lib.decDigits (x % 3600 / 60).toNat ++ [109]) = o := hod.symm
    rw [← hod] at hl
    rw [hod2]
    have HO2 := Lib.hid hod
    clear hod hod2
    by_cases ho : o = []
    · by_cases hs : 0 < x % 60
      · have e1 : ((bs o).toList == []) = true := by rw [toL_bs, ho]; rfl
        have e2 : ((bs o).toList != []) = false := by rw [bne, e1]; rfl
        have HOO := Lib.hid ho
        clear ho
        go_wp2_with fail
        refine (num_any (x % 60) (by omega) (by omega) _).mono ?_
        rintro e w1 ⟨rfl, hb⟩
        have HB1 := Lib.hid (below_then HB.out hb)
        clear hb
        have l := dec_len (x % 60) (by omega)
        go_wp2_with fail
        go_ret
        refine ⟨ret_str ?_, HB1.out⟩
        show bs o ++ bs _ ++ bs [115] = _
        rw [bs_append, bs_append, show o = [] from HOO.out]
        rw [← HX.out]
        rw [show span x = Lib.decDigits (x % 60).toNat ++ [115] by rw [span, if_neg hn, ← out3_eq, out3, glue, if_pos (Or.inl hs), if_pos (HO2.out.symm.trans HOO.out)]]
        rfl
      · have HOO := Lib.hid ho
        clear ho
        go_wp2_with fail
        go_ret
        refine ⟨ret_str ?_, HB.out⟩
        rw [← HX.out, show span x = o by rw [span, if_neg hn, ← out3_eq, out3, glue, if_neg (by omega), HO2.out]]
    · by_cases hs : 0 < x % 60
      · have e1 : ((bs o).toList == []) = false := by rw [toL_bs, beq_eq_false_iff_ne]; exact ho
        have e2 : ((bs o).toList != []) = true := by rw [bne, e1]; rfl
        have HOO := Lib.hid ho
        clear ho
        go_wp2_with fail
        refine (num_any (x % 60) (by omega) (by omega) _).mono ?_
        rintro e w1 ⟨rfl, hb⟩
        have HB1 := Lib.hid (below_then HB.out hb)
        clear hb
        have l := dec_len (x % 60) (by omega)
        go_wp2_with fail
        go_ret
        refine ⟨ret_str ?_, HB1.out⟩
        show bs o ++ bs [32] ++ bs _ ++ bs [115] = _
        rw [bs_append, bs_append, bs_append]
        rw [← HX.out]
        rw [show span x = o ++ ([32] ++ (Lib.decDigits (x % 60).toNat ++ [115])) by rw [span, if_neg hn, ← out3_eq, out3, glue, if_pos (Or.inl hs), if_neg (fun q => HOO.out (HO2.out.trans q)), HO2.out]]
        simp only [List.append_assoc]
      · go_wp2_with fail
        go_ret
        refine ⟨ret_str ?_, HB.out⟩
        rw [← HX.out, show span x = o by rw [span, if_neg hn, ← out3_eq, out3, glue, if_neg (by omega), HO2.out]]
end
end Go.Proofs.YtimijjhdgihobaaDoor
