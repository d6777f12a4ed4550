/-
  The clock: what FormatDuration computes, and the reference's Span, for all integers.
-/
import Derived.Test.YtcpplebgocbnhaaDoorClockB
import Derived.Lib.Join
import Derived.Deep.DeepCutAuto
namespace Go.Proofs.YtcpplebgocbnhaaDoor
open Go.RowKit Go.Maps

theorem str_info : (Tryd.prog.info? 9).map (fun i => (i.zero, i.size, i.bytes)) = some (some (.string ByteArray.empty), 1, 16) := by kernel_rfl

def parts (x : Int) : List (List UInt8) :=
  (if 0 < x / 3600 then [Lib.decDigits (x / 3600).toNat ++ [104]] else []) ++ (if 0 < x % 3600 / 60 then [Lib.decDigits (x % 3600 / 60).toNat ++ [109]] else [])
    ++ (if 0 < x % 60 ∨ x = 0 then [Lib.decDigits (x % 60).toNat ++ [115]] else [])
/-- the text of a duration between 0 and 2^62. -/
def span (x : Int) : List UInt8 := if x = 4611686018427387904 then neverL else Lib.join (parts x) [32]

def pH (x : Int) : List ByteArray := if 0 < x / 3600 then [bs (Lib.decDigits (x / 3600).toNat) ++ ⟨#[104]⟩] else []
def pM (x : Int) : List ByteArray := if 0 < x % 3600 / 60 then [bs (Lib.decDigits (x % 3600 / 60).toNat) ++ ⟨#[109]⟩] else []
def pS (x : Int) : List ByteArray := if 0 < x % 60 then [bs (Lib.decDigits (x % 60).toNat) ++ ⟨#[115]⟩] else []
theorem pieces_len (x : Int) : (pH x ++ pM x ++ pS x).length ≤ 3 := by
  unfold pH pM pS
  split <;> split <;> split <;> simp
theorem app_data (d : List UInt8) (c : UInt8) : (bs d ++ (⟨#[c]⟩ : ByteArray)).data.toList = d ++ [c] := by
  show (bs d ++ bs [c]).data.toList = _
  rw [bs_append, bs_data]

theorem pieces_data {x : Int} (h : ¬ x = 0) : (pH x ++ pM x ++ pS x).map (·.data.toList) = parts x := by
  have e : (0 < x % 60 ∨ x = 0) ↔ 0 < x % 60 := by omega
  unfold pH pM pS parts
  simp only [e]
  rw [List.map_append, List.map_append]
  congr 1
  · congr 1
    · split
      · rw [List.map_cons, List.map_nil, app_data]
      · rfl
    · split
      · rw [List.map_cons, List.map_nil, app_data]
      · rfl
  · split
    · rw [List.map_cons, List.map_nil, app_data]
    · rfl
theorem parts_ne {x : Int} (h0 : 0 ≤ x) : parts x ≠ [] := by
  unfold parts
  intro e
  rw [List.append_eq_nil_iff, List.append_eq_nil_iff] at e
  obtain ⟨⟨e1, e2⟩, e3⟩ := e
  have h1 : ¬ 0 < x / 3600 := fun q => by rw [if_pos q] at e1; cases e1
  have h2 : ¬ 0 < x % 3600 / 60 := fun q => by rw [if_pos q] at e2; cases e2
  have h3 : ¬ (0 < x % 60 ∨ x = 0) := fun q => by rw [if_pos q] at e3; cases e3
  omega
theorem dec_length (n : Int) (h : n ≤ 9223372036854775807) : (Lib.decDigits n.toNat).length ≤ 20 := by
  have := dec_len n h
  rwa [bs_size] at this
theorem join_parts_len (x : Int) (h0 : 0 ≤ x) (h1 : x ≤ 4611686018427387904) : (Lib.join (parts x) [32]).length ≤ 100 := by
  have l1 := dec_length (x / 3600) (by omega)
  have l2 := dec_length (x % 3600 / 60) (by omega)
  have l3 := dec_length (x % 60) (by omega)
  unfold parts
  split <;> split <;> split <;> simp [Lib.join_cons, Lib.join_nil, Lib.joinTail] <;> omega

theorem Ready.grown {w w' : World} {row : Option Nat} (h : Ready w) (hg : w.grownBy w' row) (hr : ∀ j, row = some j → Tryd.prog.globals.size ≤ j) : Ready w' := by
  have hb : Below Tryd.prog.globals.size w w' := (Below.refl _ _).grown hg h.room hr
  refine ⟨?_, ?_, ?_, ?_, Nat.le_trans h.room hb.size⟩
  · unfold Lib.TabIs
    rw [var_kept g_tab hb lt_tab]
    exact h.tab
  · rw [var_kept g_syn hb lt_syn]
    exact h.syn
  · rw [var_kept g_rng hb lt_rng]
    exact h.rng
  · obtain ⟨m, hm⟩ := h.most
    exact ⟨m, (hb.cell (p := ⟨2, 0, none⟩) lt_max).trans hm⟩

theorem join_any (xs : List ByteArray) (hne : xs ≠ []) {base : Nat} {w : World} (v : Value) (hown : OwnV Value.string w base 9 v xs) (sep : ByteArray) (hN : xs.length ≤ 1000)
    (hlen : (Lib.join (xs.map (·.data.toList)) sep.data.toList).length ≤ 140737488355328) :
    Calls Tryd.prog 41 #[v, .string sep] w fun e w' => e = .returned (.string (bs (Lib.join (xs.map (·.data.toList)) sep.data.toList))) ∧ Below w.heap.size w w' := by
  rcases hown.2 with ⟨_, hn⟩ | ⟨g, cap, cur, hv, hb, hh, hc, _⟩
  · exact absurd (List.eq_nil_of_length_eq_zero hn) hne
  · have hcell : ∀ (j : Nat) x, xs[j]? = some x → w.cell? ⟨g, 0 + j, none⟩ = some (.string x) := by
      intro j x hx
      subst hv
      obtain ⟨b, o, h1, h2⟩ := hown.cell hx
      injection h1 with h1
      injection h1 with h3 h4
      rw [h3, h4]
      exact h2
    subst hv
    exact Tryd.strings_Join g 0 cap xs sep w hcell (Array.getElem?_eq_some_iff.1 hh).1 (by omega) hc hlen

set_option maxRecDepth 100000 in
set_option maxHeartbeats 4000000 in
theorem formatDuration_any (t : Int) (w : World) (hr : Ready w) : Calls Tryd.prog 21 #[.int .i64 t] w fun e w' => e = .returned (.string (bs (span (hold t)))) ∧ Below w.heap.size w w' := by
  have hbase := hr.room
  go_enter Tryd.func21, Tryd.ntmps21
  go_wp2_with fail
  refine (clamp_any _ _).mono ?_
  rintro e w' ⟨rfl, rfl⟩
  obtain ⟨w, rfl⟩ : ∃ w : World, w = w' := ⟨_, rfl⟩
  have a0 := hold_ge t
  have a1 := hold_le t
  obtain ⟨x, hx⟩ : ∃ x, x = hold t := ⟨_, rfl⟩
  rw [← hx] at a0 a1 ⊢
  have HX := Lib.hid hx
  clear hx
  by_cases hn : x = 4611686018427387904
  · subst hn
    go_wp2_with fail
    go_ret
    exact ⟨ret_str (by rw [← HX.out]; rfl), Below.refl _ _⟩
  by_cases h0x : x = 0
  · subst h0x
    go_wp2_with fail
    go_ret
    refine ⟨ret_str ?_, Below.refl _ _⟩
    rw [← HX.out, span, if_neg hn, parts]
    simp [Lib.join_one, dec_small]
    rfl
  · have hown : OwnV Value.string w w.heap.size 9 (.slice none 0 0) [] := OwnV.nil _ _ _
    have HB := Lib.hid (Below.refl w.heap.size w)
    go_upto_if 16 with fail
    go_cut [3] (fun v wx => OwnV Value.string wx w.heap.size 9 v (pH x) ∧ Ready wx ∧ Below w.heap.size w wx)
    case first =>
      by_cases hc : 0 < x / 3600
      · go_wp2_with fail
        refine (formatInt_any (x / 3600) (by omega) (by omega) _ hr).mono ?_
        rintro e w1 ⟨rfl, hb⟩
        have hr1 := hr.below hb
        have hown1 := hown.kept_new hb
        have HB1 := Lib.hid (below_then HB.out hb)
        clear hb
        rw [itoa_dec (show 0 ≤ x / 3600 by omega)]
        have l := dec_len (x / 3600) (by omega)
        go_wp2_with (at_builtin; refine wpList_append_one (f := Value.string) _ rfl _ _ 52 rfl w.heap.size 9 Tryd.underlying52 str_info rfl (by omega) _ _ w1 (bs (Lib.decDigits (x / 3600).toNat) ++ ⟨#[104]⟩) rfl rfl rfl hown1 rfl (by simp) HB1.out.size ?_; intro v2 w2 hown2 hg)
        go_meet
        case rel =>
          refine ⟨?_, hr1.grown hg (fun j hj => Nat.le_trans hbase (hown1.ge_base j hj)), HB1.out.grown hg HB1.out.size hown1.ge_base⟩
          rw [show pH x = [bs (Lib.decDigits (x / 3600).toNat) ++ ⟨#[104]⟩] from if_pos hc]
          exact hown2
      · go_wp2_with fail
        go_meet
        case rel =>
          refine ⟨?_, hr, HB.out⟩
          rw [show pH x = [] from if_neg (by omega)]
          exact hown
    case rest =>
    clear hown hr HB
    obtain ⟨hown, hr, hb⟩ := hcut
    have HB := Lib.hid hb
    clear hb
    go_upto_if 27 with fail
    go_cut [3] (fun v wx => OwnV Value.string wx w.heap.size 9 v (pH x ++ pM x) ∧ Ready wx ∧ Below w.heap.size w wx)
    case first =>
      by_cases hc : 0 < x % 3600 / 60
      · go_wp2_with fail
        refine (formatInt_any (x % 3600 / 60) (by omega) (by omega) _ hr).mono ?_
        rintro e w1 ⟨rfl, hb⟩
        have hr1 := hr.below hb
        have hown1 := hown.kept_new hb
        have HB1 := Lib.hid (below_then HB.out hb)
        clear hb
        rw [itoa_dec (show 0 ≤ x % 3600 / 60 by omega)]
        have l := dec_len (x % 3600 / 60) (by omega)
        go_wp2_with (at_builtin; refine wpList_append_one (f := Value.string) _ rfl _ _ 52 rfl w.heap.size 9 Tryd.underlying52 str_info rfl (by omega) _ _ w1 (bs (Lib.decDigits (x % 3600 / 60).toNat) ++ ⟨#[109]⟩) rfl rfl rfl hown1 rfl (by have := pieces_len x; simp only [List.length_append] at this ⊢; omega) HB1.out.size ?_; intro v2 w2 hown2 hg)
        go_meet
        case rel =>
          refine ⟨?_, hr1.grown hg (fun j hj => Nat.le_trans hbase (hown1.ge_base j hj)), HB1.out.grown hg HB1.out.size hown1.ge_base⟩
          rw [show pM x = [bs (Lib.decDigits (x % 3600 / 60).toNat) ++ ⟨#[109]⟩] from if_pos hc]
          exact hown2
      · go_wp2_with fail
        go_meet
        case rel =>
          refine ⟨?_, hr, HB.out⟩
          rw [show pM x = [] from if_neg (by omega), List.append_nil]
          exact hown
    case rest =>
    clear hown hr HB
    obtain ⟨hown, hr, hb⟩ := hcut
    have HB := Lib.hid hb
    clear hb
    go_upto_if 37 with fail
    go_cut [3] (fun v wx => OwnV Value.string wx w.heap.size 9 v (pH x ++ pM x ++ pS x) ∧ Ready wx ∧ Below w.heap.size w wx)
    case first =>
      by_cases hc : 0 < x % 60
      · go_wp2_with fail
        refine (formatInt_any (x % 60) (by omega) (by omega) _ hr).mono ?_
        rintro e w1 ⟨rfl, hb⟩
        have hr1 := hr.below hb
        have hown1 := hown.kept_new hb
        have HB1 := Lib.hid (below_then HB.out hb)
        clear hb
        rw [itoa_dec (show 0 ≤ x % 60 by omega)]
        have l := dec_len (x % 60) (by omega)
        go_wp2_with (at_builtin; refine wpList_append_one (f := Value.string) _ rfl _ _ 52 rfl w.heap.size 9 Tryd.underlying52 str_info rfl (by omega) _ _ w1 (bs (Lib.decDigits (x % 60).toNat) ++ ⟨#[115]⟩) rfl rfl rfl hown1 rfl (by have := pieces_len x; simp only [List.length_append] at this ⊢; omega) HB1.out.size ?_; intro v2 w2 hown2 hg)
        go_meet
        case rel =>
          refine ⟨?_, hr1.grown hg (fun j hj => Nat.le_trans hbase (hown1.ge_base j hj)), HB1.out.grown hg HB1.out.size hown1.ge_base⟩
          rw [show pS x = [bs (Lib.decDigits (x % 60).toNat) ++ ⟨#[115]⟩] from if_pos hc]
          exact hown2
      · go_wp2_with fail
        go_meet
        case rel =>
          refine ⟨?_, hr, HB.out⟩
          rw [show pS x = [] from if_neg (by omega), List.append_nil]
          exact hown
    case rest =>
    clear hown hr HB
    obtain ⟨hown, hr, hb⟩ := hcut
    have HB := Lib.hid hb
    clear hb
    go_wp2_with fail
    have hpd := pieces_data h0x
    have hpl := pieces_len x
    have hjl := join_parts_len x a0 a1
    obtain ⟨xs, hxs⟩ : ∃ xs, xs = pH x ++ pM x ++ pS x := ⟨_, rfl⟩
    rw [← hxs] at hpd hpl hown
    clear hxs
    refine (join_any xs ?_ _ hown ⟨#[32]⟩ (by omega) (by rw [hpd]; exact Nat.le_trans hjl (by omega))).mono ?_
    · intro e
      rw [e] at hpd
      exact parts_ne a0 hpd.symm
    rintro e wj ⟨rfl, hbj⟩
    have HBJ := Lib.hid (below_then HB.out hbj)
    clear hbj HB
    go_wp2_with fail
    go_ret
    refine ⟨ret_str ?_, HBJ.out⟩
    rw [← HX.out, span, if_neg hn]

end Go.Proofs.YtcpplebgocbnhaaDoor
