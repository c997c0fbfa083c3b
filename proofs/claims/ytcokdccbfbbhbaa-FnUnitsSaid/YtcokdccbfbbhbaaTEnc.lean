/- What the reference's and the program's functions do that write code points as UTF-8. -/
import Derived.Test.YtcokdccbfbbhbaaPrim
import Derived.Test.YtcokdccbfbbhbaaPText
namespace Go.Proofs.YtcokdccbfbbhbaaE
open Go Go.RowKit Go.Proofs
set_option linter.unusedVariables false

theorem ok_l1need : callOK Try.prog 50 = true := by kernel_rfl
theorem spec_l1need (v : Int) (w : World) : Calls Try.prog 50 #[.int .i64 v] w fun e w' => e = .returned (.int .i64 (need v)) ∧ Below w.heap.size w w' := by
  refine calls_of_vcR (args := [.int .i64 v]) Try.func50 rfl (by kernel_rfl) (Nat.le_of_ble_eq_true rfl) ?_
  repeat' first | refine gY ?_ | refine gNt ?_ | refine gNf ?_ | refine ifT ?_ | refine ifF ?_ | refine gT (fun _ => ?_) (fun _ => ?_) | refine gF (fun _ => ?_) (fun _ => ?_) | refine ifB (fun _ => ?_) (fun _ => ?_)
  all_goals
    refine And.intro (retI ?_) (Below.refl _ _)
    unfold need
    (repeat' split) <;> omega
theorem own_nilB (w : World) (B : Nat) : OwnB w B (.slice none 0 0) [] := World.ownsRow_nil _ _ _ _
theorem ok_l1encode : callOK Try.prog 51 = true := by kernel_rfl
theorem spec_l1encode (v : Int) (w : World) (hv : need v ≠ 0) : Calls Try.prog 51 #[.int .i64 v] w fun e w' => ∃ x, e = .returned x ∧ OwnB w' w.heap.size x (encB v) ∧ Below w.heap.size w w' := by
  have hn := need_cases v
  refine calls_of_vcR (args := [.int .i64 v]) Try.func51 rfl (by kernel_rfl) (Nat.le_of_ble_eq_true rfl) ?_
  refine CallS.mk ok_l1need ((spec_l1need v w).mono ?_)
  rintro _ w1 ⟨rfl, hB1⟩
  refine CondB.mk ⟨fun h => ?_, fun h => ?_⟩
  · have h : need v = 1 := by simpa using h
    refine bsB1 fun x w2 ho hB2 _ => ?_
    refine Exists.intro x (And.intro rfl (And.intro ?_ (below_trans hB1 hB2)))
    have e : IntKind.u8.wrap v = v := by rw [w8k]; omega
    rw [e] at ho
    have e2 : encB v = [v] := by unfold encB; rw [if_pos (by omega)]
    rw [e2]
    exact own_mono ho hB1.size
  · have h : need v ≠ 1 := by simpa using h
    refine loopR (by kernel_rfl) (fun n e w' => e 3 = .int .i64 (need v) ∧ ∃ (j : Nat) (x : Value), e 5 = .int .i64 (j + 1 : Nat) ∧ e 0 = .int .i64 (v / 64 ^ j) ∧ e 4 = x ∧ j + 1 + n = 4 ∧ (j : Int) + 1 ≤ need v ∧ OwnB w' w.heap.size x (tailB v j) ∧ Below w.heap.size w w') 3
      ⟨rfl, 0, _, rfl, by simp; rfl, rfl, by omega, by omega, own_nilB _ _, hB1⟩ ?_
    rintro n e w2 ⟨h3, j, x, h5, h0, h4, hj, hjn, ho, hB2⟩
    rw [Env.four h3 h5 h0 h4]
    have hp : 0 ≤ v / 64 ^ j := Int.ediv_nonneg (by omega) (Int.le_of_lt (Int.pow_pos (by decide)))
    have hq : v / 64 ^ j ≤ 1114111 := Int.le_trans (Int.ediv_le_self _ (by omega)) (by omega)
    have hs : v / 64 ^ (j + 1) = v / 64 ^ j / 64 := by rw [Int.pow_succ, Int.ediv_ediv_of_nonneg (Int.le_of_lt (Int.pow_pos (by decide)))]
    obtain ⟨A, c, hx⟩ := own_val ho
    subst hx
    refine ifB (fun h => ?_) (fun h => ?_)
    · refine bsB1 fun x1 w3 ho1 hB3 hb1 => ?_
      refine appB ho1 (own_rd (own_ext ho hB3)) ?_ hB3.size fun x2 w4 ho2 hg2 _ => ?_
      · have := tailB_len v j
        rw [List.length_singleton]; omega
      have hB4 : Below w2.heap.size w2 w4 := own_below hB3 hB3.size ho1 hg2
      refine Exists.intro (n - 1) (And.intro (by omega) (And.intro rfl ?_))
      refine ⟨j + 1, x2, vI ?_, vI ?_, rfl, by omega, by omega, own_mono (by
        have e : IntKind.u8.wrap (IntKind.i64.wrap (128 + Int.tmod (v / 64 ^ j) 64)) = 128 + v / 64 ^ j % 64 := by
          rw [Int.tmod_eq_emod_of_nonneg hp, w64k _ (by omega) (by omega), w8k]; omega
        rw [e] at ho2
        exact ho2) hB2.size, below_trans hB2 hB4⟩
      · rw [w64k _ (by omega) (by omega)]; omega
      · rw [Int.tdiv_eq_ediv_of_nonneg hp, w64k _ (by omega) (by omega), hs]
    · have fin : ∀ f : Int, f + v / 64 ^ j < 256 → 0 ≤ f → encB v = (f + v / 64 ^ j) :: tailB v j → ∀ x' w', OwnB w' w2.heap.size x' ([IntKind.u8.wrap (IntKind.i64.wrap (f + v / 64 ^ j))] ++ tailB v j) → Below w2.heap.size w2 w' → ∃ x, Ending.returned x' = .returned x ∧ OwnB w' w.heap.size x (encB v) ∧ Below w.heap.size w w' := by
        intro f hf hf0 he x' w' ho' hb'
        have e : IntKind.u8.wrap (IntKind.i64.wrap (f + v / 64 ^ j)) = f + v / 64 ^ j := by
          rw [w64k _ (by omega) (by omega), w8k]; omega
        rw [e] at ho'
        refine ⟨x', rfl, ?_, below_trans hB2 hb'⟩
        rw [he]
        exact own_mono ho' hB2.size
      have hlen : 1 + (tailB v j).length ≤ 1099511627776 := by
        have := tailB_len v j
        omega
      refine CondB.mk ⟨fun h6 => ?_, fun h6 => ?_⟩
      · have h6 : need v = 3 := by simpa using h6
        refine CondB.mk ⟨fun h7 => absurd h7 (by simp [h6]), fun h7 => ?_⟩
        refine bsB1 fun x1 w3 ho1 hB3 hb1 => ?_
        refine appB ho1 (own_rd (own_ext ho hB3)) hlen hB3.size fun x2 w4 ho2 hg2 _ => ?_
        have hj2 : j = 2 := by omega
        exact fin 224 (by subst hj2; omega) (by omega) (by subst hj2; unfold encB; rw [if_neg (by omega), if_neg (by omega), if_pos (by omega)]; rfl) x2 w4 ho2 (own_below hB3 hB3.size ho1 hg2)
      · have h6 : need v ≠ 3 := by simpa using h6
        refine CondB.mk ⟨fun h7 => ?_, fun h7 => ?_⟩
        · have h7 : need v = 4 := by simpa using h7
          refine bsB1 fun x1 w3 ho1 hB3 hb1 => ?_
          refine appB ho1 (own_rd (own_ext ho hB3)) hlen hB3.size fun x2 w4 ho2 hg2 _ => ?_
          have hj3 : j = 3 := by omega
          exact fin 240 (by subst hj3; omega) (by omega) (by subst hj3; unfold encB; rw [if_neg (by omega), if_neg (by omega), if_neg (by omega)]; rfl) x2 w4 ho2 (own_below hB3 hB3.size ho1 hg2)
        · have h7 : need v ≠ 4 := by simpa using h7
          refine bsB1 fun x1 w3 ho1 hB3 hb1 => ?_
          refine appB ho1 (own_rd (own_ext ho hB3)) hlen hB3.size fun x2 w4 ho2 hg2 _ => ?_
          have hj1 : j = 1 := by omega
          exact fin 192 (by subst hj1; omega) (by omega) (by subst hj1; unfold encB; rw [if_neg (by omega), if_pos (by omega)]; rfl) x2 w4 ho2 (own_below hB3 hB3.size ho1 hg2)

theorem ok_spec_EncodeText : callOK Try.prog 24 = true := by kernel_rfl
theorem retT2 {v x : Value} {k : IntKind} {a b : Int} (h : a = b) : Ending.returned (.tuple #[x, .int k a]) = Ending.returned (.tuple #[x, .int k b]) := by rw [h]
theorem spec_EncodeText (xs : List Int) (A : Option Addr) (c : Nat) (w : World) (hx : RdI w (.slice A xs.length c) xs) (hl : xs.length ≤ 4294967296) :
    Calls Try.prog 24 #[.slice A xs.length c] w fun e w' => ∃ x, e = .returned (.tuple #[x, .int .i64 (encR xs).2]) ∧ OwnB w' w.heap.size x (encR xs).1 ∧ Below w.heap.size w w' := by
  refine calls_of_vcR (args := [.slice A xs.length c]) Try.func24 rfl (by kernel_rfl) (Nat.le_of_ble_eq_true rfl) ?_
  refine loopR (by kernel_rfl) (fun n e w' => e 0 = .slice A xs.length c ∧ ∃ (j : Nat) (x : Value) (acc : List Int), e 5 = .int .i64 j ∧ e 4 = x ∧ j + n = xs.length ∧ encR xs = encAns acc (encAll (xs.drop j)) ∧ acc.length ≤ 4 * j ∧ OwnB w' w.heap.size x acc ∧ Below w.heap.size w w') xs.length
    ⟨rfl, 0, _, [], rfl, rfl, by omega, rfl, by simp, own_nilB _ _, Below.refl _ _⟩ ?_
  rintro n e w1 ⟨h0, j, x, acc, h5, h4, hj, hR, ha, ho, hB⟩
  rw [Env.three h0 h5 h4]
  refine ifB (fun h => ?_) (fun h => ?_)
  · have hjl : j < xs.length := by omega
    have hx1 := hx.ext hB
    rw [drop_cons xs j hjl] at hR
    obtain ⟨b, off, hA, hc⟩ := hx1.int (i := (j : Int)) (by omega) h
    refine idxS (by omega) (h) hA ?_
    refine loadS hc ?_
    refine CallS.mk ok_l1need ((spec_l1need (xs.getD j 0) w1).mono ?_)
    rintro _ w2 ⟨rfl, hB2⟩
    have hc2 := ext_cell hB2 hc
    refine CondB.mk ⟨fun h1 => ?_, fun h1 => ?_⟩
    · have h1 : need (xs.getD j 0) = 0 := by simpa using h1
      have e1 : encR xs = ([], 1) := by rw [hR]; simp only [encAll, h1, if_true]; rfl
      rw [e1]
      exact Exists.intro _ (And.intro rfl (And.intro (own_nilB _ _) (below_trans hB hB2)))
    · have h1 : need (xs.getD j 0) ≠ 0 := by simpa using h1
      have e1 : encR xs = encAns (acc ++ encB (xs.getD j 0)) (encAll (xs.drop (j + 1))) := by rw [hR]; simp only [encAll, h1, if_false]; rw [encAns_step]
      refine idxS (by omega) (h) hA ?_
      refine loadS hc2 ?_
      refine CallS.mk ok_l1encode ((spec_l1encode (xs.getD j 0) w2 h1).mono ?_)
      rintro _ w3 ⟨y, rfl, hy, hB3⟩
      have hn := encB_len (xs.getD j 0)
      have hB23 := below_trans hB2 hB3
      refine appB (own_ext ho hB23) (own_rd hy) (by omega) (below_trans hB hB23).size fun x' w4 ho4 hg _ => ?_
      refine Exists.intro (n - 1) (And.intro (by omega) (And.intro rfl ?_))
      refine ⟨j + 1, x', _, vI ?_, rfl, by omega, e1, by rw [List.length_append]; omega, ho4, own_below (below_trans hB hB23) (below_trans hB hB23).size (own_ext ho hB23) hg⟩
      rw [w64k _ (by omega) (by omega)]; omega
  · have hjl : j = xs.length := by omega
    subst hjl
    have e1 : encR xs = (acc, 0) := by rw [hR]; simp [encAll, encAns]
    rw [e1]
    exact Exists.intro _ (And.intro rfl (And.intro ho hB))

theorem ok_ValidRune : callOK Try.prog 52 = true := by kernel_rfl
theorem utf8_ValidRune (v : Int) (w : World) : Calls Try.prog 52 #[.int .i32 v] w fun e w' => e = .returned (.bool (decide (need v ≠ 0))) ∧ Below w.heap.size w w' := by
  refine calls_of_vcR (args := [.int .i32 v]) Try.func52 rfl (by kernel_rfl) (Nat.le_of_ble_eq_true rfl) ?_
  have hn := need_cases v
  repeat' first | refine gY ?_ | refine gNt ?_ | refine gNf ?_ | refine ifT ?_ | refine ifF ?_ | refine gT (fun _ => ?_) (fun _ => ?_) | refine gF (fun _ => ?_) (fun _ => ?_) | refine ifB (fun _ => ?_) (fun _ => ?_)
  all_goals
    refine And.intro (retB ?_) (Below.refl _ _)
    symm
    first
      | (rw [decide_eq_true_eq]; omega)
      | (rw [decide_eq_false_iff_not]; omega)

/-- a value appended to: what it owns may turn, and what is new -/
def Onto (w w' : World) (x x' : Value) : Prop := w.grownBy w' x.ownBlock ∧ ∀ k, x'.ownBlock = some k → x.ownBlock = some k ∨ w.heap.size ≤ k
theorem ok_appendRuneNonASCII : callOK Try.prog 66 = true := by kernel_rfl
theorem utf8_appendRuneNonASCII (r : Int) (hr : need r ≠ 0) (h128 : 128 ≤ r) (acc : List Int) (x : Value) (B : Nat) (w : World) (ho : OwnB w B x acc) (hB : B ≤ w.heap.size) (hl : acc.length ≤ 68719476736) :
    Calls Try.prog 66 #[x, .int .i32 r] w fun e w' => ∃ x', e = .returned x' ∧ OwnB w' B x' (acc ++ encB r) ∧ Onto w w' x x' := by
  have hn := need_cases r
  have fin : ∀ (u : List Int) (y : Value) (w1 : World), encB r = u → u.length ≤ 4 → OwnB w1 w.heap.size y u → Below w.heap.size w w1 → ∀ K : Value → World → Prop, (∀ x' w', (∃ x'', Ending.returned x' = .returned x'' ∧ OwnB w' B x'' (acc ++ encB r) ∧ Onto w w' x x'') → K x' w') →
      RunS Try.prog (Builtin.append_ #[30, 30] 30 #[x, y]) w1 K := by
    intro u y w1 hu hul hy hB1 K hK
    refine appB (own_ext ho hB1) (own_rd hy) (by omega) (Nat.le_trans hB hB1.size) fun x' w' ho' hg hb => hK x' w' ⟨x', rfl, by rw [hu]; exact ho', grown_trans (grown_of_below hB1 _) hg, ?_⟩
    intro k hk
    rcases hb with hb | hb
    · exact .inl (hb.symm.trans hk)
    · right
      rw [hk] at hb
      cases hb
      exact hB1.size
  obtain ⟨A, c, hx⟩ := own_val ho
  subst hx
  refine calls_of_vcR (args := [.slice A acc.length c, .int .i32 r]) Try.func66 rfl (by kernel_rfl) (Nat.le_of_ble_eq_true rfl) ?_
  have hu : IntKind.u32.wrap r = r := by rw [IntKind.wrap_u32]; omega
  refine CondB.mk ⟨fun h => ?_, fun h => ?_⟩
  · have h : IntKind.u32.wrap r ≤ 2047 := of_decide_eq_true h
    rw [hu] at h
    refine bsB2 (x := bits .or .u8 192 (IntKind.u8.wrap (r.fdiv (2 ^ 6)))) (y := bits .or .u8 128 (bits .and .u8 (IntKind.u8.wrap r) 63)) fun y w1 hy hB1 _ => ?_
    refine fin _ y w1 ?_ (by simp) hy hB1 _ fun x' w' hp => hp
    rw [contB _ (by omega), Int.fdiv_eq_ediv_of_nonneg _ (by decide), leadB2 _ (by omega) (by omega)]
    unfold encB
    rw [if_neg (by omega), if_pos (by omega)]
    simp [tailB]
  · have h : ¬ IntKind.u32.wrap r ≤ 2047 := of_decide_eq_false h
    rw [hu] at h
    have d6 : 0 ≤ r.fdiv (2 ^ 6) := by rw [Int.fdiv_eq_ediv_of_nonneg _ (by decide)]; omega
    have d12 : 0 ≤ r.fdiv (2 ^ 12) := by rw [Int.fdiv_eq_ediv_of_nonneg _ (by decide)]; omega
    have three : r < 65536 → encB r = [bits .or .u8 224 (IntKind.u8.wrap (r.fdiv (2 ^ 12))), bits .or .u8 128 (bits .and .u8 (IntKind.u8.wrap (r.fdiv (2 ^ 6))) 63), bits .or .u8 128 (bits .and .u8 (IntKind.u8.wrap r) 63)] := by
      intro h3
      rw [contB r (by omega), contB (r.fdiv (2 ^ 6)) d6]
      simp only [Int.fdiv_eq_ediv_of_nonneg _ (show (0 : Int) ≤ 2 ^ 12 by decide), Int.fdiv_eq_ediv_of_nonneg _ (show (0 : Int) ≤ 2 ^ 6 by decide)]
      rw [leadB3 _ (by omega) (by omega)]
      unfold encB
      rw [if_neg (by omega), if_neg (by omega), if_pos h3]
      simp [tailB]
    have four : 65536 ≤ r → encB r = [bits .or .u8 240 (IntKind.u8.wrap (r.fdiv (2 ^ 18))), bits .or .u8 128 (bits .and .u8 (IntKind.u8.wrap (r.fdiv (2 ^ 12))) 63), bits .or .u8 128 (bits .and .u8 (IntKind.u8.wrap (r.fdiv (2 ^ 6))) 63), bits .or .u8 128 (bits .and .u8 (IntKind.u8.wrap r) 63)] := by
      intro h3
      rw [contB r (by omega), contB (r.fdiv (2 ^ 6)) d6, contB (r.fdiv (2 ^ 12)) d12]
      simp only [Int.fdiv_eq_ediv_of_nonneg _ (show (0 : Int) ≤ 2 ^ 12 by decide), Int.fdiv_eq_ediv_of_nonneg _ (show (0 : Int) ≤ 2 ^ 6 by decide), Int.fdiv_eq_ediv_of_nonneg _ (show (0 : Int) ≤ 2 ^ 18 by decide)]
      rw [leadB4 _ (by omega) (by omega)]
      unfold encB
      rw [if_neg (by omega), if_neg (by omega), if_neg (by omega)]
      simp [tailB]
    refine ifB (p := IntKind.u32.wrap r < 55296) (fun h1 => ?_) (fun h1 => ?_)
    · refine ifB (p := IntKind.u32.wrap r < 55296) (fun h2 => ?_) (fun h2 => absurd h1 h2)
      rw [hu] at h1
      refine bsB3 (x := bits .or .u8 224 (IntKind.u8.wrap (r.fdiv (2 ^ 12)))) (y := bits .or .u8 128 (bits .and .u8 (IntKind.u8.wrap (r.fdiv (2 ^ 6))) 63)) (z := bits .or .u8 128 (bits .and .u8 (IntKind.u8.wrap r) 63)) fun y w1 hy hB1 _ => ?_
      refine fin _ y w1 (three (by omega)) (by simp) hy hB1 _ fun x' w' hp => hp
    · refine gT (p := 57343 < IntKind.u32.wrap r) (fun h2 => ?_) (fun h2 => ?_)
      · refine ifB (p := IntKind.u32.wrap r ≤ 65535) (fun h3 => ?_) (fun h3 => ?_)
        · rw [hu] at h3
          refine bsB3 (x := bits .or .u8 224 (IntKind.u8.wrap (r.fdiv (2 ^ 12)))) (y := bits .or .u8 128 (bits .and .u8 (IntKind.u8.wrap (r.fdiv (2 ^ 6))) 63)) (z := bits .or .u8 128 (bits .and .u8 (IntKind.u8.wrap r) 63)) fun y w1 hy hB1 _ => ?_
          refine fin _ y w1 (three (by omega)) (by simp) hy hB1 _ fun x' w' hp => hp
        · refine gT (p := IntKind.u32.wrap r > 65535) (fun h4 => ?_) (fun h4 => ?_)
          · refine ifB (p := IntKind.u32.wrap r ≤ 1114111) (fun h5 => ?_) (fun h5 => ?_)
            · rw [hu] at h4
              refine bsB4 (x := bits .or .u8 240 (IntKind.u8.wrap (r.fdiv (2 ^ 18)))) (y := bits .or .u8 128 (bits .and .u8 (IntKind.u8.wrap (r.fdiv (2 ^ 12))) 63)) (z := bits .or .u8 128 (bits .and .u8 (IntKind.u8.wrap (r.fdiv (2 ^ 6))) 63)) (u := bits .or .u8 128 (bits .and .u8 (IntKind.u8.wrap r) 63)) fun y w1 hy hB1 _ => ?_
              refine fin _ y w1 (four (by omega)) (by simp) hy hB1 _ fun x' w' hp => hp
            · exact absurd h5 (by rw [hu]; omega)
          · exact absurd h4 (by rw [hu]; rw [hu] at h3; omega)
      · exact absurd h2 (by rw [hu]; rw [hu] at h1; omega)
theorem ok_AppendRune : callOK Try.prog 53 = true := by kernel_rfl
theorem utf8_AppendRune (r : Int) (hr : need r ≠ 0) (acc : List Int) (x : Value) (B : Nat) (w : World) (ho : OwnB w B x acc) (hB : B ≤ w.heap.size) (hl : acc.length ≤ 68719476736) :
    Calls Try.prog 53 #[x, .int .i32 r] w fun e w' => ∃ x', e = .returned x' ∧ OwnB w' B x' (acc ++ encB r) ∧ Onto w w' x x' := by
  have hn := need_cases r
  obtain ⟨A, c, hx⟩ := own_val ho
  subst hx
  refine calls_of_vcR (args := [.slice A acc.length c, .int .i32 r]) Try.func53 rfl (by kernel_rfl) (Nat.le_of_ble_eq_true rfl) ?_
  have hu : IntKind.u32.wrap r = r := by rw [IntKind.wrap_u32]; omega
  refine ifB (fun h => ?_) (fun h => ?_)
  · rw [hu] at h
    refine bsB1 fun y w1 hy hB1 _ => ?_
    refine appB (own_ext ho hB1) (own_rd hy) (by simp; omega) (Nat.le_trans hB hB1.size) fun x' w' ho' hg hb => ?_
    refine Exists.intro x' (And.intro rfl (And.intro ?_ (And.intro (grown_trans (grown_of_below hB1 _) hg) ?_)))
    · have e : IntKind.u8.wrap r = r := by rw [w8k]; omega
      have e2 : encB r = [r] := by unfold encB; rw [if_pos (by omega)]
      rw [e] at ho'
      rw [e2]; exact ho'
    · intro k hk
      have hk : x'.ownBlock = some k := hk
      rcases hb with hb | hb
      · exact .inl (hb.symm.trans hk)
      · right; rw [hk] at hb; cases hb; exact hB1.size
  · rw [hu] at h
    exact CallS.mk ok_appendRuneNonASCII ((utf8_appendRuneNonASCII r hr (by omega) acc _ B w ho hB hl).mono fun e w' ⟨x', he, h1, h2⟩ => by subst he; exact Exists.intro x' (And.intro rfl (And.intro h1 h2)))
theorem onto_below {w0 w w' : World} {B n : Nat} {x x' : Value} {e : TypeId} {sz : Nat} {cs : List Value} (HB : Below B w0 w) (hB : B ≤ w.heap.size) (h : w.ownsRow B e sz x n cs) (g : Onto w w' x x') : Below B w0 w' := own_below HB hB h g.1

theorem ok_impl_EncodeText : callOK Try.prog 25 = true := by kernel_rfl
theorem impl_EncodeText (xs : List Int) (A : Option Addr) (c : Nat) (w : World) (hx : RdI w (.slice A xs.length c) xs) (hl : xs.length ≤ 4294967296) :
    Calls Try.prog 25 #[.slice A xs.length c] w fun e w' => ∃ x, e = .returned (.tuple #[x, .int .i64 (encR xs).2]) ∧ OwnB w' w.heap.size x (encR xs).1 ∧ Below w.heap.size w w' := by
  refine calls_of_vcR (args := [.slice A xs.length c]) Try.func25 rfl (by kernel_rfl) (Nat.le_of_ble_eq_true rfl) ?_
  refine loopR (by kernel_rfl) (fun n e w' => (e 7 = .slice A xs.length c ∧ e 8 = .int .i64 xs.length) ∧ ∃ (j : Nat) (x : Value) (acc : List Int), e 9 = .int .i64 j ∧ e 4 = x ∧ j + n = xs.length ∧ encR xs = encAns acc (encAll (xs.drop j)) ∧ acc.length ≤ 4 * j ∧ OwnB w' w.heap.size x acc ∧ Below w.heap.size w w') xs.length
    ⟨⟨rfl, rfl⟩, 0, _, [], rfl, rfl, by omega, rfl, by simp, own_nilB _ _, Below.refl _ _⟩ ?_
  rintro n e w1 ⟨⟨h7, h8⟩, j, x, acc, h9, h4, hj, hR, ha, ho, hB⟩
  rw [Env.four h7 h8 h9 h4]
  refine ifB (fun h => ?_) (fun h => ?_)
  · have hjl : j < xs.length := by omega
    have hx1 := hx.ext hB
    rw [drop_cons xs j hjl] at hR
    obtain ⟨b, off, hA, hc⟩ := hx1.int (i := (j : Int)) (by omega) h
    have hn := need_cases (xs.getD j 0)
    refine idxS (by omega) (h) hA ?_
    refine loadS hc ?_
    have bad : need (xs.getD j 0) = 0 → ∀ w', Below w.heap.size w w' → ∃ x, Ending.returned (.tuple #[.slice none 0 0, .int .i64 1]) = .returned (.tuple #[x, .int .i64 (encR xs).2]) ∧ OwnB w' w.heap.size x (encR xs).1 ∧ Below w.heap.size w w' := by
      intro h1 w' hb
      have e1 : encR xs = ([], 1) := by rw [hR]; simp only [encAll, h1, if_true]; rfl
      rw [e1]
      exact ⟨_, rfl, own_nilB _ _, hb⟩
    refine gF (fun h1 => ?_) (fun h1 => ?_)
    · have h1 : ¬ xs.getD j 0 < 0 := h1
      refine gF (fun h2 => ?_) (fun h2 => ?_)
      · have h2 : ¬ xs.getD j 0 > 1114111 := h2
        have e32 : IntKind.i32.wrap (xs.getD j 0) = xs.getD j 0 := w32k _ (by omega) (by omega)
        refine CallS.mk ok_ValidRune ((utf8_ValidRune (IntKind.i32.wrap (xs.getD j 0)) w1).mono ?_)
        rintro _ w2 ⟨rfl, hB2⟩
        refine CondB.mk ⟨fun h3 => ?_, fun h3 => ?_⟩
        · have h3 : need (IntKind.i32.wrap (xs.getD j 0)) = 0 := by simpa using h3
          rw [e32] at h3
          exact bad h3 w2 (below_trans hB hB2)
        · have h3 : need (IntKind.i32.wrap (xs.getD j 0)) ≠ 0 := by simpa using h3
          rw [e32] at h3
          have e1 : encR xs = encAns (acc ++ encB (xs.getD j 0)) (encAll (xs.drop (j + 1))) := by rw [hR]; simp only [encAll, h3, if_false]; rw [encAns_step]
          have hs := (below_trans hB hB2).size
          obtain ⟨A4, c4, hx4⟩ := own_val ho
          refine CallS.mk ok_AppendRune ((utf8_AppendRune (IntKind.i32.wrap (xs.getD j 0)) (by rw [e32]; exact h3) acc x w.heap.size w2 (own_ext ho hB2) hs (by omega)).mono ?_)
          rintro _ w3 ⟨x', rfl, hx', hg⟩
          rw [e32] at hx'
          have hlen := encB_len (xs.getD j 0)
          refine Exists.intro (n - 1) (And.intro (by omega) (And.intro ⟨rfl, rfl⟩ ?_))
          refine ⟨j + 1, x', _, vI ?_, rfl, by omega, e1, by rw [List.length_append]; omega, hx', onto_below (below_trans hB hB2) hs (own_ext ho hB2) hg⟩
          rw [w64k _ (by omega) (by omega)]; omega
      · have h2 : xs.getD j 0 > 1114111 := h2
        refine ifT ?_
        exact bad (by omega) w1 hB
    · have h1 : xs.getD j 0 < 0 := h1
      refine gNf ?_
      refine ifT ?_
      exact bad (by omega) w1 hB
  · have hjl : j = xs.length := by omega
    subst hjl
    have e1 : encR xs = (acc, 0) := by rw [hR]; simp [encAll, encAns]
    rw [e1]
    exact Exists.intro _ (And.intro rfl (And.intro ho hB))
end Go.Proofs.YtcokdccbfbbhbaaE
