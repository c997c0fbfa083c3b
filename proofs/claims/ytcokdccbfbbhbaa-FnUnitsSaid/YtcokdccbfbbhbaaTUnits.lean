/- What the reference's and the program's functions do that go between code points and units. -/
import Derived.Test.YtcokdccbfbbhbaaPrim
import Derived.Test.YtcokdccbfbbhbaaPText
namespace Go.Proofs.YtcokdccbfbbhbaaE
open Go Go.RowKit Go.Proofs
set_option linter.unusedVariables false

theorem own_nilI (w : World) (B : Nat) : OwnI w B (.slice none 0 0) [] := World.ownsRow_nil _ _ _ _
theorem ok_goodUnits : callOK Try.prog 49 = true := by kernel_rfl
theorem impl_goodUnits (xs : List Int) (A : Option Addr) (c : Nat) (w : World) (hx : RdI w (.slice A xs.length c) xs) (hl : xs.length ≤ 4294967296) :
    Calls Try.prog 49 #[.slice A xs.length c] w fun e w' => e = .returned (.bool (goodU xs)) ∧ Below w.heap.size w w' := by
  refine calls_of_vcR (args := [.slice A xs.length c]) Try.func49 rfl (by kernel_rfl) (Nat.le_of_ble_eq_true rfl) ?_
  refine loopR (by kernel_rfl) (fun n e w' => (e 5 = .slice A xs.length c ∧ e 6 = .int .i64 xs.length) ∧ ∃ j : Nat, e 7 = .int .i64 j ∧ j + n = xs.length ∧ goodU xs = goodU (xs.drop j) ∧ Below w.heap.size w w') xs.length
    ⟨⟨rfl, rfl⟩, 0, rfl, by omega, by simp, Below.refl _ _⟩ ?_
  rintro n e w1 ⟨⟨h5, h6⟩, j, h7, hj, hg, hB⟩
  rw [Env.three h5 h6 h7]
  refine ifB (fun h => ?_) (fun h => ?_)
  · have hjl : j < xs.length := by omega
    obtain ⟨b, off, hA, hc⟩ := (hx.ext hB).int (i := (j : Int)) (by omega) h
    refine idxS (by omega) (h) hA ?_
    refine loadS hc ?_
    refine gF (p := xs.getD j 0 < 0) (fun h1 => ?_) (fun h1 => ?_)
    · refine ifB (p := xs.getD j 0 > 65535) (fun h2 => ?_) (fun h2 => ?_)
      · exact And.intro (retB (goodU_bad xs j hjl hg (by omega)).symm) hB
      · refine Exists.intro (n - 1) (And.intro (by omega) (And.intro ⟨rfl, rfl⟩ ⟨j + 1, vI ?_, by omega, goodU_drop xs j hjl hg (by omega), hB⟩))
        rw [w64k _ (by omega) (by omega)]; omega
    · refine ifT ?_
      exact And.intro (retB (goodU_bad xs j hjl hg (by omega)).symm) hB
  · refine And.intro (retB ?_) hB
    rw [hg, List.drop_of_length_le (by omega)]
    rfl
theorem ok_spec_FromUnits : callOK Try.prog 22 = true := by kernel_rfl
theorem spec_FromUnits (xs : List Int) (A : Option Addr) (c : Nat) (w : World) (hx : RdI w (.slice A xs.length c) xs) (hl : xs.length ≤ 4294967296) :
    Calls Try.prog 22 #[.slice A xs.length c] w fun e w' => ∃ x, e = .returned (.tuple #[x, .int .i64 (fromR xs).2]) ∧ OwnI w' w.heap.size x (fromR xs).1 ∧ Below w.heap.size w w' := by
  refine calls_of_vcR (args := [.slice A xs.length c]) Try.func22 rfl (by kernel_rfl) (Nat.le_of_ble_eq_true rfl) ?_
  have bad : goodU xs = false → ∀ w', Below w.heap.size w w' → ∃ x, Ending.returned (.tuple #[.slice none 0 0, .int .i64 1]) = .returned (.tuple #[x, .int .i64 (fromR xs).2]) ∧ OwnI w' w.heap.size x (fromR xs).1 ∧ Below w.heap.size w w' := by
    intro h w' hb
    have e1 : fromR xs = ([], 1) := by simp [fromR, h]
    rw [e1]
    exact ⟨_, rfl, own_nilI _ _, hb⟩
  refine loopJ (by kernel_rfl) (fun n e w' => e 0 = .slice A xs.length c ∧ ∃ j : Nat, e 4 = .int .i64 j ∧ j + n = xs.length ∧ goodU xs = goodU (xs.drop j) ∧ Below w.heap.size w w')
    (fun id e w' => id = 0 ∧ e 0 = .slice A xs.length c ∧ goodU xs = true ∧ Below w.heap.size w w') xs.length
    ⟨rfl, 0, rfl, by omega, by simp, Below.refl _ _⟩ ?_ ?_
  · rintro n e w1 ⟨h0, j, h4, hj, hg, hB⟩
    rw [Env.two h0 h4]
    refine ifB (fun h => ?_) (fun h => ?_)
    case refine_2 => exact ⟨rfl, rfl, by rw [hg, List.drop_of_length_le (by omega)]; rfl, hB⟩
    have hjl : j < xs.length := by omega
    obtain ⟨b, off, hA, hc⟩ := (hx.ext hB).int (i := (j : Int)) (by omega) h
    refine idxS (by omega) (h) hA ?_
    refine loadS hc ?_
    refine gF (p := xs.getD j 0 < 0) (fun h1 => ?_) (fun h1 => ?_)
    · refine idxS (by omega) (h) hA ?_
      refine loadS hc ?_
      refine ifB (p := xs.getD j 0 > 65535) (fun h2 => ?_) (fun h2 => ?_)
      · exact bad (goodU_bad xs j hjl hg (by omega)) w1 hB
      · refine Exists.intro (n - 1) (And.intro (by omega) (And.intro rfl ⟨j + 1, vI ?_, by omega, goodU_drop xs j hjl hg (by omega), hB⟩))
        rw [w64k _ (by omega) (by omega)]; omega
    · refine ifT ?_
      exact bad (goodU_bad xs j hjl hg (by omega)) w1 hB
  · rintro id e w1 ⟨rfl, h0, hgood, hB⟩
    rw [Env.one h0]
    have hR : fromR xs = (fromAll xs, 0) := by simp [fromR, hgood]
    rw [hR]
    refine loopR (by kernel_rfl) (fun n e w' => e 0 = .slice A xs.length c ∧ ∃ (j : Nat) (x : Value) (acc : List Int), e 6 = .int .i64 j ∧ e 5 = x ∧ j + n = xs.length ∧ fromAll xs = acc ++ fromAll (xs.drop j) ∧ acc.length ≤ j ∧ OwnI w' w.heap.size x acc ∧ Below w.heap.size w w') xs.length
      ⟨rfl, 0, _, [], rfl, rfl, by omega, by simp, by simp, own_nilI _ _, hB⟩ ?_
    clear hB h0
    rintro n e w1 ⟨h0, j, x, acc, h6, h5, hj, hF, ha, ho, hB⟩
    rw [Env.three h0 h6 h5]
    refine ifB (fun h => ?_) (fun h => ?_)
    · have hjl : j < xs.length := by omega
      have hx1 := hx.ext hB
      obtain ⟨b, off, hA, hc⟩ := hx1.int (i := (j : Int)) (by omega) h
      have hu := goodU_at xs hgood j hjl
      have hw1 : IntKind.i64.wrap ((j : Int) + 1) = ((j + 1 : Nat) : Int) := by rw [w64k _ (by omega) (by omega)]; omega
      obtain ⟨A5, c5, hx5⟩ := own_val ho
      subst hx5
      have hlen1 : acc.length + [xs.getD ((j : Int)).toNat 0].length ≤ 1099511627776 := by rw [List.length_singleton]; omega
      have fin : ∀ (e' : Env) (x' : Value) (w2 w3 : World), e' 0 = .slice A xs.length c → e' 6 = .int .i64 (IntKind.i64.wrap ((j : Int) + 1)) → e' 5 = x' → fromAll (xs.drop j) = xs.getD j 0 :: fromAll (xs.drop (j + 1)) → Below w1.heap.size w1 w2 → OwnI w3 w.heap.size x' (acc ++ [xs.getD ((j : Int)).toNat 0]) → w2.grownBy w3 (Value.slice A5 acc.length c5).ownBlock →
          ∃ m, m < n ∧ (e' 0 = .slice A xs.length c ∧ ∃ (j : Nat) (x : Value) (acc : List Int), e' 6 = .int .i64 j ∧ e' 5 = x ∧ j + m = xs.length ∧ fromAll xs = acc ++ fromAll (xs.drop j) ∧ acc.length ≤ j ∧ OwnI w3 w.heap.size x acc ∧ Below w.heap.size w w3) := by
        intro e' x' w2 w3 h0 h6 h5 hone hB2 ho3 hg3
        refine ⟨n - 1, by omega, h0, j + 1, x', acc ++ [xs.getD j 0], h6.trans (vI hw1), h5, by omega, ?_, by simp; omega, ho3, own_below (below_trans hB hB2) (below_trans hB hB2).size (own_ext ho hB2) hg3⟩
        rw [hF, hone]; simp
      refine idxS (by omega) (h) hA ?_
      refine loadS hc ?_
      by_cases hj1 : j + 1 < xs.length
      · have hu1 := goodU_at xs hgood (j + 1) hj1
        have hc1 : w1.cell? ⟨b, off + (IntKind.i64.wrap ((j : Int) + 1)).toNat * 1, none⟩ = some (.int .i64 (xs.getD (j + 1) 0)) := by
          obtain ⟨b', off', hA', hc'⟩ := hx1.int (i := ((j + 1 : Nat) : Int)) (by omega) (by omega)
          rw [hA] at hA'
          cases hA'
          rw [hw1]; exact hc'
        by_cases hp : isPair (xs.getD j 0) (xs.getD (j + 1) 0)
        · have hp' := hp
          unfold isPair at hp'
          refine gT (p := xs.getD j 0 ≥ 55296) (fun _ => ?_) (fun h => absurd h (by omega))
          refine gT (p := xs.getD j 0 ≤ 56319) (fun _ => ?_) (fun h => absurd h (by omega))
          refine gT (p := IntKind.i64.wrap ((j : Int) + 1) < xs.length) (fun _ => ?_) (fun h => absurd h (by omega))
          refine idxS (by omega) (by omega) hA ?_
          refine loadS hc1 ?_
          refine gT (p := xs.getD (j + 1) 0 ≥ 56320) (fun _ => ?_) (fun h => absurd h (by omega))
          refine idxS (by omega) (by omega) hA ?_
          refine loadS hc1 ?_
          refine ifB (p := xs.getD (j + 1) 0 ≤ 57343) (fun _ => ?_) (fun h => absurd h (by omega))
          refine idxS (by omega) (by omega) hA ?_
          refine loadS hc1 ?_
          refine bsI1 fun y w2 hy hB2 _ => ?_
          refine appI (own_ext ho hB2) (own_rd hy) (by simp; omega) (below_trans hB hB2).size fun x' w3 ho3 hg3 _ => ?_
          refine Exists.intro (n - 2) (And.intro (by omega) (And.intro rfl ⟨j + 2, x', acc ++ [65536 + (xs.getD j 0 - 55296) * 1024 + xs.getD (j + 1) 0 - 56320], vI ?_, rfl, by omega, ?_, by simp; omega, ?_, own_below (below_trans hB hB2) (below_trans hB hB2).size (own_ext ho hB2) hg3⟩))
          · rw [w64k _ (by omega) (by omega)]; omega
          · rw [hF, fromAll_pair xs j hj1 hp]; simp
          · have e : IntKind.i64.wrap (IntKind.i64.wrap (IntKind.i64.wrap (65536 + IntKind.i64.wrap (IntKind.i64.wrap (xs.getD ((j : Int)).toNat 0 - 55296) * 1024)) + xs.getD (j + 1) 0) - 56320) = 65536 + (xs.getD j 0 - 55296) * 1024 + xs.getD (j + 1) 0 - 56320 := by
              rw [Int.toNat_natCast, w64k (xs.getD j 0 - 55296) (by omega) (by omega), w64k ((xs.getD j 0 - 55296) * 1024) (by omega) (by omega), w64k (65536 + (xs.getD j 0 - 55296) * 1024) (by omega) (by omega), w64k (65536 + (xs.getD j 0 - 55296) * 1024 + xs.getD (j + 1) 0) (by omega) (by omega), w64k _ (by omega) (by omega)]
            rw [e] at ho3
            exact ho3
        · have hone := fromAll_one xs j hjl (fun q => hp q.2)
          have hp' := hp
          unfold isPair at hp'
          have hcase : xs.getD j 0 < 55296 ∨ (55296 ≤ xs.getD j 0 ∧ 56319 < xs.getD j 0) ∨ ((55296 ≤ xs.getD j 0 ∧ xs.getD j 0 ≤ 56319) ∧ xs.getD (j + 1) 0 < 56320) ∨ ((55296 ≤ xs.getD j 0 ∧ xs.getD j 0 ≤ 56319) ∧ 56320 ≤ xs.getD (j + 1) 0 ∧ 57343 < xs.getD (j + 1) 0) := by omega
          rcases hcase with hh | hh | hh | hh
          · refine gT (p := xs.getD j 0 ≥ 55296) (fun h => absurd h (by omega)) (fun _ => ?_)
            refine gNt ?_
            refine gNt ?_
            refine gNt ?_
            refine ifF ?_
            refine bsI1 fun y w2 hy hB2 _ => ?_
            refine appI (own_ext ho hB2) (own_rd hy) hlen1 (below_trans hB hB2).size fun x' w3 ho3 hg3 _ => ?_
            exact fin _ x' w2 w3 rfl rfl rfl hone hB2 ho3 hg3
          · refine gT (p := xs.getD j 0 ≥ 55296) (fun _ => ?_) (fun h => absurd h (by omega))
            refine gT (p := xs.getD j 0 ≤ 56319) (fun h => absurd h (by omega)) (fun _ => ?_)
            refine gNt ?_
            refine gNt ?_
            refine ifF ?_
            refine bsI1 fun y w2 hy hB2 _ => ?_
            refine appI (own_ext ho hB2) (own_rd hy) hlen1 (below_trans hB hB2).size fun x' w3 ho3 hg3 _ => ?_
            exact fin _ x' w2 w3 rfl rfl rfl hone hB2 ho3 hg3
          · refine gT (p := xs.getD j 0 ≥ 55296) (fun _ => ?_) (fun h => absurd h (by omega))
            refine gT (p := xs.getD j 0 ≤ 56319) (fun _ => ?_) (fun h => absurd h (by omega))
            refine gT (p := IntKind.i64.wrap ((j : Int) + 1) < xs.length) (fun _ => ?_) (fun h => absurd h (by omega))
            refine idxS (by omega) (by omega) hA ?_
            refine loadS hc1 ?_
            refine gT (p := xs.getD (j + 1) 0 ≥ 56320) (fun h => absurd h (by omega)) (fun _ => ?_)
            refine ifF ?_
            refine bsI1 fun y w2 hy hB2 _ => ?_
            refine appI (own_ext ho hB2) (own_rd hy) hlen1 (below_trans hB hB2).size fun x' w3 ho3 hg3 _ => ?_
            exact fin _ x' w2 w3 rfl rfl rfl hone hB2 ho3 hg3
          · refine gT (p := xs.getD j 0 ≥ 55296) (fun _ => ?_) (fun h => absurd h (by omega))
            refine gT (p := xs.getD j 0 ≤ 56319) (fun _ => ?_) (fun h => absurd h (by omega))
            refine gT (p := IntKind.i64.wrap ((j : Int) + 1) < xs.length) (fun _ => ?_) (fun h => absurd h (by omega))
            refine idxS (by omega) (by omega) hA ?_
            refine loadS hc1 ?_
            refine gT (p := xs.getD (j + 1) 0 ≥ 56320) (fun _ => ?_) (fun h => absurd h (by omega))
            refine idxS (by omega) (by omega) hA ?_
            refine loadS hc1 ?_
            refine ifB (p := xs.getD (j + 1) 0 ≤ 57343) (fun h => absurd h (by omega)) (fun _ => ?_)
            refine bsI1 fun y w2 hy hB2 _ => ?_
            refine appI (own_ext ho hB2) (own_rd hy) hlen1 (below_trans hB hB2).size fun x' w3 ho3 hg3 _ => ?_
            exact fin _ x' w2 w3 rfl rfl rfl hone hB2 ho3 hg3
      · have hone := fromAll_one xs j hjl (fun q => hj1 q.1)
        have hcase : xs.getD j 0 < 55296 ∨ (55296 ≤ xs.getD j 0 ∧ 56319 < xs.getD j 0) ∨ (55296 ≤ xs.getD j 0 ∧ xs.getD j 0 ≤ 56319) := by omega
        rcases hcase with hh | hh | hh
        · refine gT (p := xs.getD j 0 ≥ 55296) (fun h => absurd h (by omega)) (fun _ => ?_)
          refine gNt ?_
          refine gNt ?_
          refine gNt ?_
          refine ifF ?_
          refine bsI1 fun y w2 hy hB2 _ => ?_
          refine appI (own_ext ho hB2) (own_rd hy) hlen1 (below_trans hB hB2).size fun x' w3 ho3 hg3 _ => ?_
          exact fin _ x' w2 w3 rfl rfl rfl hone hB2 ho3 hg3
        · refine gT (p := xs.getD j 0 ≥ 55296) (fun _ => ?_) (fun h => absurd h (by omega))
          refine gT (p := xs.getD j 0 ≤ 56319) (fun h => absurd h (by omega)) (fun _ => ?_)
          refine gNt ?_
          refine gNt ?_
          refine ifF ?_
          refine bsI1 fun y w2 hy hB2 _ => ?_
          refine appI (own_ext ho hB2) (own_rd hy) hlen1 (below_trans hB hB2).size fun x' w3 ho3 hg3 _ => ?_
          exact fin _ x' w2 w3 rfl rfl rfl hone hB2 ho3 hg3
        · refine gT (p := xs.getD j 0 ≥ 55296) (fun _ => ?_) (fun h => absurd h (by omega))
          refine gT (p := xs.getD j 0 ≤ 56319) (fun _ => ?_) (fun h => absurd h (by omega))
          refine gT (p := IntKind.i64.wrap ((j : Int) + 1) < xs.length) (fun h => absurd h (by omega)) (fun _ => ?_)
          refine gNt ?_
          refine ifF ?_
          refine bsI1 fun y w2 hy hB2 _ => ?_
          refine appI (own_ext ho hB2) (own_rd hy) hlen1 (below_trans hB hB2).size fun x' w3 ho3 hg3 _ => ?_
          exact fin _ x' w2 w3 rfl rfl rfl hone hB2 ho3 hg3
    · refine Exists.intro _ (And.intro rfl (And.intro ?_ hB))
      have e1 : fromAll xs = acc := by rw [hF, List.drop_of_length_le (by omega)]; simp [fromAll]
      rw [e1]
      exact ho
end Go.Proofs.YtcokdccbfbbhbaaE
