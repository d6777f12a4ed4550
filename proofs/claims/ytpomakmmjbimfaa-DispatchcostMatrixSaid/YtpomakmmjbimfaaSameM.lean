/-
  samaritanref35.SameRows: true where the rows read as the same lists. How a case of slots and units comes in.
-/
import Derived.Test.YtpomakmmjbimfaaRefM
namespace Go.Proofs.Ytpomakmmjbimfaa
open Go.ChangeShapes Go.WideShapes Go.ChangeAt Go.RowKit Go.Maps

/-- the two rows read as one list. -/
def Twin (w : World) (v u : Value) : Prop := ∃ (A C : Option Addr) (c d B B' : Nat) (row : List Int), v = .slice A row.length c ∧ u = .slice C row.length d ∧ Sl w B A (row.map (Value.int .i64)) ∧ Sl w B' C (row.map (Value.int .i64)) ∧ row.length ≤ 4611686018427387904

set_option maxRecDepth 100000 in
theorem sameRows_any (A C : Option Addr) (c d m : Nat) (vs us : List Value) (w : World) (B B' : Nat) (ha : Sl w B A vs) (hb : Sl w B' C us) (la : vs.length = m) (lb : us.length = m) (hm : m ≤ 4611686018427387904)
    (hrow : ∀ (i : Nat) (v u : Value), vs[i]? = some v → us[i]? = some u → Twin w v u) :
    Calls Try.prog 16 #[.slice A m c, .slice C m d] w (fun e w' => e = .returned (.bool true) ∧ ∃ n, w' = w.drewN n) := by
  have HA := Lib.hid ha
  have HB := Lib.hid hb
  have HR := Lib.hid hrow
  have HLA := Lib.hid la
  have HLB := Lib.hid lb
  clear ha hb hrow la lb
  have hmm : ((m : Int) != (m : Int)) = false := by simp
  have hmm2 : ((m : Int) == (m : Int)) = true := by simp
  go_enter Try.func16, Try.ntmps16
  go_wp2_with fail
  go_loopw [5] (fun i wr => ∃ k : Nat, k ≤ m ∧ i = .int .i64 k ∧ ∃ n, wr = w.drewN n) (fun i _ => m - (intOf i).toNat)
  case atStart => exact ⟨0, Nat.zero_le _, rfl, 0, rfl⟩
  case round =>
    obtain ⟨k, hk, rfl, hdr⟩ := hrel
    by_cases hlt : k < m
    · obtain ⟨v, hv⟩ : ∃ v, vs[k]? = some v := ⟨vs[k]'(by rw [HLA.out]; exact hlt), by simp⟩
      obtain ⟨u, hu⟩ : ∃ u, us[k]? = some u := ⟨us[k]'(by rw [HLB.out]; exact hlt), by simp⟩
      have hSl : ∀ {B : Nat} {A : Option Addr} {xs : List Value}, Sl w B A xs → Sl wr B A xs := fun h => by
        obtain ⟨n, e⟩ := hdr
        rw [e]
        exact h.drewN n
      obtain ⟨b, o, rfl, hbb, hcell⟩ := hSl HA.out k v hv
      obtain ⟨b2, o2, rfl, hbb2, hcell2⟩ := hSl HB.out k u hu
      obtain ⟨A1, C1, c1, d1, B1, B2, row, rfl, rfl, s1, s2, hr⟩ := HR.out k v u hv hu
      clear hv hu
      have S1 := Lib.hid (hSl s1)
      have S2 := Lib.hid (hSl s2)
      have HDR := Lib.hid hdr
      clear s1 s2 hSl hdr
      go_wp2_with fail
      go_quiet ((go_at_call 29; refine Calls.quiet_of ((same64_any A1 C1 c1 d1 row row _ B1 B2 (S1.out.drewN _) (S2.out.drewN _) hr).mono fun _ _ q => ⟨q.1, q.2⟩)))
      go_wp2_with fail
      go_roundw
      case rel =>
        obtain ⟨n, e⟩ := HDR.out
        refine ⟨k + 1, by omega, by go_num, n + nq, ?_⟩
        rw [e, World.drewN_drewN]
      case measure => simp [intOf]; omega
    · have hkk : k = m := by omega
      subst hkk
      go_wp2_with fail
      go_ret
      exact ⟨rfl, hdr⟩
end Go.Proofs.Ytpomakmmjbimfaa
