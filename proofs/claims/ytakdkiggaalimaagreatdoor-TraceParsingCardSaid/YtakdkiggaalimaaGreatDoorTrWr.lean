/-
  trace.writer: word, number, list, bytes, text (printed by gentrwr.py).
-/
import Derived.Test.YtakdkiggaalimaaGreatDoorTrFl
import Derived.Deep.RegionHeld3
import Derived.RegionTactic
namespace Go.Proofs.YtakdkiggaalimaaGreatDoor
open Go.RowKit Go.Maps
open Go.Lib (itoa)

abbrev WT : TypeId := 72
/-- a line with one more word. -/
def addW (L x : Wd) : Wd := if L = [] then x else L ++ 32 :: x
def addWs (L : Wd) (ws : List Wd) : Wd := ws.foldl addW L
theorem addWs_app (L : Wd) (a b : List Wd) : addWs L (a ++ b) = addWs (addWs L a) b := by simp [addWs]
theorem addWs_one (L x : Wd) : addWs L [x] = addW L x := rfl
theorem addW_len (L x : Wd) : (addW L x).length ≤ L.length + 1 + x.length := by
  unfold addW
  split
  · omega
  · rw [List.length_append, List.length_cons]
    omega
theorem addWs_len {m : Nat} : ∀ (ws : List Wd) (L : Wd), (∀ w ∈ ws, w.length ≤ m) → (addWs L ws).length ≤ L.length + ws.length * (m + 1)
  | [], L, _ => by show L.length ≤ _; omega
  | w :: r, L, h => by
    have h1 := addWs_len r (addW L w) (fun x hx => h x (by simp [hx]))
    have h2 := addW_len L w
    have h3 := h w (by simp)
    have e : addWs L (w :: r) = addWs (addW L w) r := rfl
    rw [e, List.length_cons, Nat.add_mul]
    omega
theorem addW_ne {L x : Wd} (h : x ≠ []) : addW L x ≠ [] := by
  unfold addW
  split
  · exact h
  · simp
theorem addWs_line : ∀ (ws : List Wd) (L : Wd), L ≠ [] → addWs L ws = L ++ ws.flatMap (fun x => 32 :: x)
  | [], L, _ => by show L = _; simp
  | w :: r, L, h => by
    have e : addWs L (w :: r) = addWs (addW L w) r := rfl
    have e2 : addW L w = L ++ 32 :: w := by unfold addW; rw [if_neg h]
    rw [e, e2, addWs_line r _ (by simp)]
    simp
theorem addWs_nil {w : Wd} (h : w ≠ []) (ws : List Wd) : addWs [] (w :: ws) = lineW (w :: ws) := by
  have e : addWs [] (w :: ws) = addWs w ws := rfl
  rw [e, addWs_line ws w h]
  rfl
/-- what the writer's methods leave. -/
def RetW (L : Wd) (w0 w : World) (e : Ending) (w' : World) : Prop := e = .returned (.tuple #[]) ∧ FB WT L w0 w' ∧ KeepB w0.heap.size w w' ∧ Below w0.heap.size w w'
theorem FB.room {T : TypeId} {L : List UInt8} {w0 w : World} (h : FB T L w0 w) (hr : Ready w0) : Ready w := hr.kept h.below hr.room
theorem FB.head {T : TypeId} {L : List UInt8} {w0 w : World} (h : FB T L w0 w) : ∃ cs fr, w.heap[w0.heap.size]? = some (.cells cs T fr) := by
  rcases h.bld with h | h
  · obtain ⟨_, v, hb, _⟩ := h
    exact ⟨_, _, hb⟩
  · obtain ⟨_, v, hb, _⟩ := h
    exact ⟨_, _, hb⟩
set_option maxRecDepth 100000 in
set_option maxHeartbeats 4000000 in
theorem word_any {L : Wd} {w0 w : World} (h : FB WT L w0 w) (x : Wd) (hn : L.length + x.length ≤ 50000000000) : Calls Tryz.prog 66 #[.pointer (some ⟨w0.heap.size, 0, none⟩), .string (bs x)] w (RetW (addW L x) w0 w) := by
  have hlt := h.lt
  have HL := Lib.hid (len_fb h)
  by_cases h0 : L = []
  · subst h0
    have HS := Lib.hid (write_fb bldT_writer h x (by simp at hn ⊢; omega))
    clear h hn
    go_enter Tryz.func66, Tryz.ntmps66
    go_wp2_with fail
    refine HL.out.mono ?_
    rintro e w1 ⟨rfl, rfl⟩
    go_wp2_with fail
    refine HS.out.mono ?_
    rintro e w2 ⟨rfl, h2, h3, h4⟩
    go_wp2_with fail
    go_end0
    exact ⟨rfl, h2, h3, h4⟩
  · have hl : 0 < L.length := List.length_pos_iff.2 h0
    have HB := Lib.hid (writeByte_fb bldT_writer h 32 (z := 32) rfl (by omega))
    have HE := Lib.hid (show addW L x = L ++ [32] ++ x by unfold addW; rw [if_neg h0]; simp)
    clear h h0
    go_enter Tryz.func66, Tryz.ntmps66
    go_wp2_with fail
    refine HL.out.mono ?_
    rintro e w1 ⟨rfl, rfl⟩
    go_wp2_with fail
    refine HB.out.mono ?_
    rintro e w2 ⟨rfl, h2, h3, h4⟩
    have HS := Lib.hid (write_fb bldT_writer h2 x (by simp; omega))
    have HK := Lib.hid (And.intro h3 h4)
    clear h2 h3 h4
    go_wp2_with fail
    refine HS.out.mono ?_
    rintro e w3 ⟨rfl, h5, h6, h7⟩
    go_wp2_with fail
    go_end0
    exact ⟨rfl, by rw [HE.out]; exact h5, HK.out.1.trans h6, HK.out.2.trans h7⟩
set_option maxRecDepth 100000 in
set_option maxHeartbeats 4000000 in
theorem number_any {L : Wd} {w0 w : World} (hr : Ready w0) (h : FB WT L w0 w) (n : Int) (h64 : Is64 n) (hn : L.length ≤ 40000000000) : Calls Tryz.prog 65 #[.pointer (some ⟨w0.heap.size, 0, none⟩), .int .i64 n] w (RetW (addW L (itoa n)) w0 w) := by
  have HF := Lib.hid (fmt_any n h64 w (h.room hr))
  have HW := Lib.hid (fun w' (hb : Below w.heap.size w w') => word_any (h.next hb) (itoa n) (by have := itoa_len h64; omega))
  have HZ := Lib.hid h.below.size
  clear h hr hn
  go_enter Tryz.func65, Tryz.ntmps65
  go_wp2_with fail
  refine HF.out.mono ?_
  rintro e w1 ⟨rfl, hb⟩
  have HB := Lib.hid hb
  clear hb
  go_wp2_with fail
  refine (HW.out w1 HB.out).mono ?_
  rintro e w2 ⟨rfl, h2, h3, h4⟩
  go_wp2_with fail
  go_end0
  exact ⟨rfl, h2, (KeepB.of_below HB.out).trans h3, (HB.out.mono HZ.out).trans h4⟩
theorem ints_words (l : List Int) (h : ∀ v ∈ l, Is64 v) : ∀ w ∈ l.map itoa, w.length ≤ 21 := fun w hw => by
  obtain ⟨v, hv, rfl⟩ := List.mem_map.1 hw
  exact itoa_len (h v hv)
theorem take_snoc {α : Type} {l : List α} {k : Nat} {x : α} (h : l[k]? = some x) : l.take (k + 1) = l.take k ++ [x] := by
  rw [List.take_add_one, h]
  rfl
set_option maxRecDepth 100000 in
set_option maxHeartbeats 4000000 in
theorem list_any {L : Wd} {w0 w : World} (hr : Ready w0) (h : FB WT L w0 w) (A : Option Addr) (c : Nat) (l : List Int) (hat : IntsAt w w0.heap.size A l) (h64 : ∀ v ∈ l, Is64 v) (hl : l.length ≤ 1000000) (hn : L.length ≤ 20000000000) :
    Calls Tryz.prog 73 #[.pointer (some ⟨w0.heap.size, 0, none⟩), .slice A l.length c] w (RetW (addWs L (listW l)) w0 w) := by
  have HN := Lib.hid (number_any hr h (l.length : Int) (by unfold Is64; omega) (by omega))
  have HA := Lib.hid (And.intro hat (And.intro h64 hr))
  have HLL := Lib.hid (show ∀ k, k ≤ l.length → (addWs L (itoa l.length :: (l.take k).map itoa)).length ≤ 30000000000 from fun k hk => by
    have h1 := addWs_len (m := 21) (itoa l.length :: (l.take k).map itoa) L (fun w hw => by
      rcases List.mem_cons.1 hw with e | e
      · rw [e]
        exact itoa_len (by unfold Is64; omega)
      · exact ints_words (l.take k) (fun v hv => h64 v (List.mem_of_mem_take hv)) w e)
    simp only [List.length_cons, List.length_map, List.length_take] at h1
    omega)
  obtain ⟨m, hm⟩ : ∃ m, m = l.length := ⟨_, rfl⟩
  have HM := Lib.hid hm
  have hml : m ≤ 1000000 := by omega
  rw [← hm] at HN
  rw [← hm]
  clear h hr hn hat h64 hl hm
  go_enter Tryz.func73, Tryz.ntmps73
  go_wp2_with fail
  refine HN.out.mono ?_
  rintro e w1 ⟨rfl, h1, h2, h3⟩
  have H1 := Lib.hid (And.intro h1 (And.intro h2 h3))
  clear h1 h2 h3
  go_wp2_with fail
  go_loopw [12] (fun iv X => ∃ k : Nat, k ≤ m ∧ iv = .int .i64 k ∧ RetW (addWs L (itoa m :: (l.take k).map itoa)) w0 w (.returned (.tuple #[])) X) (fun iv _ => m - (intOf iv).toNat)
  case atStart => exact ⟨0, Nat.zero_le _, rfl, rfl, H1.out.1, H1.out.2.1, H1.out.2.2⟩
  case round =>
    obtain ⟨k, hk, rfl, _, hfb, hkb, hbl⟩ := hrel
    have HR := Lib.hid (And.intro hfb (And.intro hkb hbl))
    clear hfb hkb hbl
    by_cases hlt : k < m
    · obtain ⟨x, hx⟩ : ∃ x, l[k]? = some x := ⟨l[k]'(by have := HM.out; omega), by simp⟩
      obtain ⟨ab, ao, rfl, hab, hac⟩ := Sl.int (Sl.below HA.out.1 HR.out.2.2) hx
      have HX := Lib.hid hx
      have HC := Lib.hid (number_any HA.out.2.2 HR.out.1 x (HA.out.2.1 x (List.mem_of_getElem? hx)) (by have h9 := HLL.out k (by have := HM.out; omega); rw [← HM.out] at h9; omega))
      clear hx hab
      go_wp2_with fail
      refine HC.out.mono ?_
      rintro e w2 ⟨rfl, h1, h2, h3⟩
      have H2 := Lib.hid (And.intro h1 (And.intro h2 h3))
      clear h1 h2 h3
      go_wp2_with fail
      go_roundw
      case rel =>
        refine ⟨k + 1, by omega, by go_num, rfl, ?_, HR.out.2.1.trans H2.out.2.1, HR.out.2.2.trans H2.out.2.2⟩
        rw [take_snoc HX.out, List.map_append, ← List.cons_append, addWs_app]
        exact H2.out.1
      case measure => simp [intOf]; omega
    · obtain rfl : k = m := by omega
      go_wp2_with fail
      go_end0
      have e : l.take k = l := List.take_of_length_le (by have := HM.out; omega)
      obtain ⟨h1, h2, h3⟩ := HR.out
      rw [e] at h1
      exact ⟨rfl, by unfold listW; rw [← HM.out]; exact h1, h2, h3⟩
/-- what text returns. -/
def RetTx (L : Wd) (w0 w : World) (e : Ending) (w' : World) : Prop :=
  ((L.length ≤ 65536 ∧ e = .returned (.tuple #[.string (bs L), .int .i64 0])) ∨ (65536 < L.length ∧ e = .returned (.tuple #[.string ⟨#[]⟩, .int .i64 3]))) ∧ Below w0.heap.size w w'
set_option maxRecDepth 100000 in
set_option maxHeartbeats 4000000 in
theorem text_any {L : Wd} {w0 w : World} (h : FB WT L w0 w) (h0 : L ≠ []) : Calls Tryz.prog 37 #[.pointer (some ⟨w0.heap.size, 0, none⟩)] w (RetTx L w0 w) := by
  have HL := Lib.hid (len_fb h)
  have HS := Lib.hid (string_fb h h0)
  have hlt := h.lt
  clear h h0
  by_cases hl : L.length ≤ 65536
  · have d1 : decide ((65536 : Int) < (L.length : Int)) = false := decide_eq_false (by omega)
    have HH := Lib.hid hl
    clear hl
    go_enter Tryz.func37, Tryz.ntmps37
    go_wp2_with fail
    refine HL.out.mono ?_
    rintro e w1 ⟨rfl, rfl⟩
    go_wp2_with fail
    refine HS.out.mono ?_
    rintro e w2 ⟨rfl, hb⟩
    go_wp2_with fail
    go_ret2
    exact ⟨.inl ⟨HH.out, rfl⟩, hb⟩
  · have d1 : decide ((65536 : Int) < (L.length : Int)) = true := decide_eq_true (by omega)
    have HH := Lib.hid hl
    clear hl
    go_enter Tryz.func37, Tryz.ntmps37
    go_wp2_with fail
    refine HL.out.mono ?_
    rintro e w1 ⟨rfl, rfl⟩
    go_wp2_with fail
    go_ret2
    exact ⟨.inr ⟨by have := HH.out; omega, rfl⟩, Below.refl _ _⟩
end Go.Proofs.YtakdkiggaalimaaGreatDoor
