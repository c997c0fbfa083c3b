/- The law FnExactReadString: at every list of at most 2^20 elements the program's ReadString and the reference's answer the same; the argument is left alone and the answer owns its memory. -/
import Derived.Test.YtcokdccbfbbhbaaTReadS4
import Derived.Test.YtcokdccbfbbhbaaLawIB
namespace Go.Proofs.YtcokdccbfbbhbaaE
open Go Go.RowKit Go.Proofs
set_option linter.unusedVariables false

theorem law_ReadString (xs : List Int) (A : Option Addr) (c : Nat) (w : World) (hx : RdB w (.slice A xs.length c) xs) (hb : ∀ x ∈ xs, 0 ≤ x ∧ x < 256) :
    Calls Try.prog 12 #[.slice A xs.length c] w fun e w' => e = .returned (.bool true) ∧ Below w.heap.size w w' := by
  refine calls_of_vc (args := [.slice A xs.length c]) Try.func12 rfl (by kernel_rfl) (Nat.le_of_ble_eq_true rfl) ?_
  refine ifB (fun h => And.intro rfl (Below.refl _ _)) fun h => ?_
  have hl : xs.length ≤ 1048576 := by omega
  have hr := readS_len xs hb
  obtain ⟨r, hR⟩ : ∃ r, readS xs = r := ⟨_, rfl⟩
  rw [hR] at hr
  have S : ∀ A1 c1 w1, RdB w1 (.slice A1 xs.length c1) xs → Calls Try.prog 38 #[.slice A1 xs.length c1] w1 fun e w' => ∃ A c, e = .returned (.tuple #[.slice A r.1.length c, .int .i64 r.2]) ∧ OwnI w' w1.heap.size (.slice A r.1.length c) r.1 ∧ Below w1.heap.size w1 w' := by
    intro A1 c1 w1 o
    have h := spec_ReadString hb (by omega) o
    
    rw [hR] at h
    exact h.mono fun _ _ => retOwn2
  have I : ∀ A1 c1 w1, RdB w1 (.slice A1 xs.length c1) xs → Calls Try.prog 39 #[.slice A1 xs.length c1] w1 fun e w' => ∃ A c, e = .returned (.tuple #[.slice A r.1.length c, .int .i64 r.2]) ∧ OwnI w' w1.heap.size (.slice A r.1.length c) r.1 ∧ Below w1.heap.size w1 w' := by
    intro A1 c1 w1 o
    have h := impl_ReadString hb (by omega) o
    
    rw [hR] at h
    exact h.mono fun _ _ => retOwn2
  clear hR
  refine CallS.mk ok_toByteS (((laws_toByteS xs A c w hx (by omega)).mono fun _ _ => retOwn).mono ?_)
  rintro _ w1 ⟨A1, c1, rfl, o1, b1⟩
  refine CallS.mk ok_spec_ReadString ((S A1 c1 w1 (own_rd o1)).mono ?_)
  rintro _ w2 ⟨A2, c2, rfl, o2, b2⟩
  have B2 := below_trans b1 b2
  refine CallS.mk ok_toByteS (((laws_toByteS xs A c w2 (hx.ext B2) (by omega)).mono fun _ _ => retOwn).mono ?_)
  rintro _ w3 ⟨A3, c3, rfl, o3, b3⟩
  refine CallS.mk ok_impl_ReadString ((I A3 c3 w3 (own_rd o3)).mono ?_)
  rintro _ w4 ⟨A4, c4, rfl, o4, b4⟩
  have b34 := below_trans b3 b4
  have B4 := below_trans B2 b34
  have y4 := own_rd (own_ext o2 b34)
  refine CallS.mk ok_eqIntS ((laws_eqIntS_same r.1 A4 A2 c4 c2 w4 (own_rd o4) y4 (by omega)).mono ?_)
  rintro _ w5 ⟨rfl, b5⟩
  repeat first | refine gY ?_ | refine gNe ?_ | refine ifNe ?_ | refine ifF ?_
  have B5 := below_trans B4 b5
  refine CallS.mk ok_toByteS (((laws_toByteS xs A c w5 (hx.ext B5) (by omega)).mono fun _ _ => retOwn).mono ?_)
  rintro _ w6 ⟨A6, c6, rfl, o6, b6⟩
  have b46 := below_trans b5 b6
  refine CallS.mk ok_eqByteS ((laws_eqByteS_same xs A3 A6 c3 c6 w6 (own_rd (own_ext o3 (below_trans b4 b46))) (own_rd o6) (by omega)).mono ?_)
  rintro _ w7 ⟨rfl, b7⟩
  repeat first | refine gY ?_ | refine gNe ?_ | refine ifNe ?_ | refine ifF ?_
  have b47 := below_trans b46 b7
  have b37 := below_trans b4 b47
  refine CallS.mk ok_markByteS ((laws_markByteS 1 (by omega) xs A3 c3 w2.heap.size w7 (own_ext o3 b37) (by omega)).mono ?_)
  rintro _ w8 ⟨rfl, o8, g8⟩
  have b27 : Below w2.heap.size w2 w7 := below_trans b3 b37
  have b28 : Below w2.heap.size w2 w8 := own_below b27 b27.size (own_ext o3 b37) g8
  have B8 := below_trans B2 b28
  have o4' : OwnI w8 w3.heap.size (.slice A4 r.1.length c4) r.1 := by
    refine own_other (own_ext o4 b47) g8 ?_
    by_cases hn : (Value.slice A4 r.1.length c4).ownBlock = none
    · exact .inl hn
    · refine .inr fun he => ?_
      cases hq : (Value.slice A4 r.1.length c4).ownBlock with
      | none => exact hn hq
      | some q =>
        have h1 := (o4.lt q hq).1
        have h2 := (o3.lt q (by rw [← he, hq])).2
        omega
  refine gF (fun _ => ?_) (fun h => absurd h (by omega))
  refine CallS.mk ok_eqIntS ((laws_eqIntS_same r.1 A4 A2 c4 c2 w8 (own_rd o4') ((own_rd o2).ext b28) (by omega)).mono ?_)
  rintro _ w9 ⟨rfl, b9⟩
  repeat first | refine gY ?_ | refine gNe ?_ | refine ifNe ?_ | refine ifF ?_
  refine CallS.mk ok_markIntS ((laws_markIntS 1 (by omega) r.1 A4 c4 w3.heap.size w9 (own_ext o4' b9) (by omega)).mono ?_)
  rintro _ w10 ⟨rfl, o10, g10⟩
  have b29 := below_trans b28 b9
  have b39 : w3.heap.size ≤ w9.heap.size := Nat.le_trans b37.size (Nat.le_trans g8.size b9.size)
  have o4'' := own_ext o4' b9
  have b210 : Below w2.heap.size w2 w10 := b29.grown g10 b29.size fun k hk => Nat.le_trans b3.size (o4''.lt k hk).1
  have B10 := below_trans B2 b210
  have r10 := own_rd o10
  rw [cnt_len] at r10
  refine CallS.mk ok_heldIntS ((laws_heldIntS 1 (by omega) r.1.length A4 c4 w10 (by simpa only [RdI, cnt_len] using r10) (by omega)).mono ?_)
  rintro _ w11 ⟨rfl, b11⟩
  refine ifB (fun h => absurd h (by omega)) fun _ => ?_
  repeat first | refine gY ?_ | refine gNe ?_ | refine ifNe ?_ | refine ifF ?_
  have B11 := below_trans B10 b11
  refine CallS.mk ok_toByteS (((laws_toByteS xs A c w11 (hx.ext B11) (by omega)).mono fun _ _ => retOwn).mono ?_)
  rintro _ w12 ⟨A12, c12, rfl, o12, b12⟩
  refine CallS.mk ok_impl_ReadString ((I A12 c12 w12 (own_rd o12)).mono ?_)
  rintro _ w13 ⟨A13, c13, rfl, o13, b13⟩
  have b1013 := below_trans b11 (below_trans b12 b13)
  refine CallS.mk ok_eqIntS ((laws_eqIntS_same r.1 A13 A2 c13 c2 w13 (own_rd o13) ((own_rd o2).ext (below_trans b210 b1013)) (by omega)).mono ?_)
  rintro _ w14 ⟨rfl, b14⟩
  repeat first | refine gY ?_ | refine gNe ?_ | refine ifNe ?_ | refine ifF ?_
  have b1014 := below_trans b1013 b14
  refine CallS.mk ok_heldIntS ((laws_heldIntS 1 (by omega) r.1.length A4 c4 w14 (by simpa only [RdI, cnt_len] using r10.ext b1014) (by omega)).mono ?_)
  rintro _ w15 ⟨rfl, b15⟩
  refine ifB (fun h => absurd h (by omega)) fun _ => ?_
  repeat first | refine gY ?_ | refine gNe ?_ | refine ifNe ?_ | refine ifF ?_
  exact And.intro rfl (below_trans B10 (below_trans b1014 b15))
end Go.Proofs.YtcokdccbfbbhbaaE
