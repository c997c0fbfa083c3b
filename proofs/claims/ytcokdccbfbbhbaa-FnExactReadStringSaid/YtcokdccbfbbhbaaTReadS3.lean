/- What the reference's l4string and ReadString do. -/
import Derived.Test.YtcokdccbfbbhbaaTReadS2
import Derived.Test.YtcokdccbfbbhbaaTRead
namespace Go.Proofs.YtcokdccbfbbhbaaE
open Go Go.RowKit Go.Proofs
set_option linter.unusedVariables false
set_option maxHeartbeats 1000000

theorem drop_at (ps : List Int) (i : Nat) : ps.drop i = if i < ps.length then ps.getD i 0 :: ps.drop (i + 1) else [] := by
  split
  · rename_i h; exact drop_cons ps i h
  · rename_i h; exact List.drop_of_length_le (by omega)
theorem idxP {w : World} {A : Option Addr} {n c : Nat} {i : Nat} {k : IntKind} {xs : List Int} {p : Int} {K : Nat → Nat → Prop} (hp : xs.getD i 0 = p) (h : Rd w (.slice A n c) 1 n (xs.map (.int k))) (h1 : (i : Int) < n) (q : ∀ b off, w.cell? ⟨b, off + (i : Int).toNat * 1, none⟩ = some (.int k p) → K b off) : IdxS A n (i : Int) K := idxN h h1 (hp ▸ q)
theorem bd_at {ps : List Int} (hbd : ∀ p ∈ ps, 0 ≤ p ∧ p ≤ 1114111) (i : Nat) (h : i < ps.length) : 0 ≤ ps.getD i 0 ∧ ps.getD i 0 ≤ 1114111 := hbd _ (by rw [List.getD_eq_getElem?_getD, List.getElem?_eq_getElem h]; exact List.getElem_mem h)
theorem ok_l4string : callOK Try.prog 60 = true := by kernel_rfl
theorem spec_l4string {ps : List Int} (hbd : ∀ p ∈ ps, 0 ≤ p ∧ p ≤ 1114111) (i : Nat) {A : Option Addr} {n c : Nat} (hl : n ≤ 4294967296) (hi : i ≤ 4294967296) {W : World} (hx : Rd W (.slice A n c) 1 n (ps.map (.int .i64))) :
    Calls Try.prog 60 #[.slice A n c, .int .i64 i] W fun e w => ∃ (x : Value) (u : List Int) (k : Nat), e = .returned (.tuple #[x, .int .i64 k]) ∧ OwnI w W.heap.size x u ∧ Below W.heap.size W w ∧ u.length ≤ 2 * n ∧ ((k = 0 ∧ u = [] ∧ quotedQ (ps.drop i) = none) ∨ (0 < k ∧ i + k ≤ n ∧ quotedQ (ps.drop i) = some (u, ps.drop (i + k)))) := by
  have H := (St.enter W).ro0 rfl hx
  obtain rfl : n = ps.length := by have := hx.len; simpa using this.symm
  refine calls_of_vcV (args := [.slice A ps.length c, .int .i64 i]) Try.func60 rfl (by kernel_rfl) (Nat.le_of_ble_eq_true rfl) ?_
  have no : ∀ {w : World} {L : List It}, St W.heap.size W w L → quotedQ (ps.drop i) = none → ∃ (x : Value) (u : List Int) (k : Nat), Ending.returned (.tuple #[.slice none 0 0, .int .i64 0]) = .returned (.tuple #[x, .int .i64 k]) ∧ OwnI w W.heap.size x u ∧ Below W.heap.size W w ∧ u.length ≤ 2 * ps.length ∧ ((k = 0 ∧ u = [] ∧ quotedQ (ps.drop i) = none) ∨ (0 < k ∧ i + k ≤ ps.length ∧ quotedQ (ps.drop i) = some (u, ps.drop (i + k)))) :=
    fun H h => ⟨_, [], 0, rfl, World.ownsRow_nil _ _ _ _, H.below, Nat.zero_le _, .inl ⟨rfl, rfl, h⟩⟩
  refine cutG (fun e w => e 0 = .slice A ps.length c ∧ e 1 = .int .i64 i ∧ e 29 = .bool (decide (¬ (i < ps.length ∧ (ps.getD i 0 = 34 ∨ ps.getD i 0 = 39)))) ∧ St W.heap.size W w [.roI (.slice A ps.length c) ps]) ?_ ?_
  · refine gF (fun c0 => ?_) (fun c0 => ?_)
    · refine idxN (H.rd 0 rfl) (by omega) fun b off hc => ?_
      refine loadS hc ?_
      refine gT (fun c3 => ?_) (fun c3 => ?_)
      · refine idxN (H.rd 0 rfl) (by omega) fun b off hc => ?_
        refine loadS hc ?_
        refine gY ?_
        refine ⟨rfl, rfl, congrArg Value.bool ?_, H⟩
        (rw [Bool.eq_iff_iff]; simp only [decide_eq_true_eq, Bool.false_eq_true, true_iff, iff_true, false_iff, iff_false]; omega)
      · refine gY ?_
        refine ⟨rfl, rfl, congrArg Value.bool ?_, H⟩
        (rw [Bool.eq_iff_iff]; simp only [decide_eq_true_eq, Bool.false_eq_true, true_iff, iff_true, false_iff, iff_false]; omega)
    · refine gNot ?_
      refine gNt ?_
      refine ⟨rfl, rfl, congrArg Value.bool ?_, H⟩
      (rw [Bool.eq_iff_iff]; simp only [decide_eq_true_eq, Bool.false_eq_true, true_iff, iff_true, false_iff, iff_false]; omega)
  rintro e w ⟨h0, h1, h29, H⟩
  rw [Env.three h0 h1 h29]
  refine ifB (fun h => ?_) (fun h => ?_)
  · refine no H ?_
    rw [drop_at]
    split
    · unfold quotedQ; simp only []; rw [if_neg (by omega)]
    · rfl
  obtain ⟨hil, hq⟩ : i < ps.length ∧ (ps.getD i 0 = 34 ∨ ps.getD i 0 = 39) := by omega
  obtain ⟨q, hqe⟩ : ∃ q, ps.getD i 0 = q := ⟨_, rfl⟩
  have hst0 : quotedQ (ps.drop i) = strQ q ((ps.drop (i + 1)).length + 1) (ps.drop (i + 1)) [] := by
    rw [drop_cons ps i hil, hqe]; unfold quotedQ; simp only []; rw [if_pos (by omega)]
  refine arN (by omega) ?_
  refine loopV (by kernel_rfl) (fun m e w => e 0 = .slice A ps.length c ∧ e 1 = .int .i64 i ∧ ∃ (v : Value) (acc : List Int) (k f : Nat), e 6 = v ∧ e 7 = .int .i64 k ∧ k + m = ps.length ∧ i < k ∧ ps.length - k < f ∧ acc.length + 2 * (ps.length - k) ≤ 2 * ps.length ∧ quotedQ (ps.drop i) = strQ q f (ps.drop k) acc ∧ St W.heap.size W w [.rowI v acc, .roI (.slice A ps.length c) ps]) (ps.length - (i + 1))
    ⟨rfl, rfl, _, [], i + 1, _, rfl, rfl, by omega, by omega, by rw [List.length_drop]; omega, by simp only [List.length_nil]; omega, hst0, H.rowNil⟩ ?_
  rintro m e w ⟨h0, h1, v, acc, k, f, h6, h7, hkm, hik, hf, hac, hst, H⟩
  rw [Env.four h0 h1 h6 h7]
  obtain ⟨f, rfl⟩ : ∃ f', f = f' + 1 := ⟨f - 1, by omega⟩
  obtain ⟨p, hp⟩ : ∃ p, ps.getD k 0 = p := ⟨_, rfl⟩
  refine drawR H fun w H => ?_
  refine gT (fun c1 => ?_) (fun c1 => ?_)
  · refine idxP hp (H.rd 1 rfl) (by omega) fun b off hc => ?_
    refine loadS hc ?_
    refine idxP hqe (H.rd 1 rfl) (by omega) fun b off hc => ?_
    refine loadS hc ?_
    refine ifB (fun c6 => ?_) (fun c6 => ?_)
    · refine RegV.mk ?_
      refine idxP hp (H.rd 1 rfl) (by omega) fun b off hc => ?_
      refine loadS hc ?_
      refine gF (fun c10 => ?_) (fun c10 => ?_)
      · refine idxP hp (H.rd 1 rfl) (by omega) fun b off hc => ?_
        refine loadS hc ?_
        refine ifB (fun c13 => ?_) (fun c13 => ?_)
        · refine no H ?_
          rw [hst, drop_cons ps k (by omega), hp, strQ_cons, if_neg (by omega), if_pos (by omega)]
        · refine idxP hp (H.rd 1 rfl) (by omega) fun b off hc => ?_
          refine loadS hc ?_
          refine ifB (fun c16 => ?_) (fun c16 => ?_)
          · refine arN (by omega) ?_
            refine CallS.mk ok_l4escape ((spec_l4escape hbd (k + 1) hl (by omega) (H.rd 1 rfl)).mono ?_)
            rintro _ w ⟨x, u, kk, rfl, ho, hb, hu, hcase⟩
            have H := newRow H ho hb
            refine ifB (fun c0 => ?_) (fun c0 => ?_)
            · refine no H ?_
              rw [hst, drop_cons ps k (by omega), hp, strQ_cons, if_neg (by omega), if_neg (by omega), if_pos c16]
              rcases hcase with q | q
              · rw [q.2]
              · omega
            · refine appSI H 1 rfl (H.rd 0 rfl) (by omega) fun v2 w H => ?_
              refine ar64 (by omega) (by omega) ?_
              refine ar64 (by omega) (by omega) ?_
              rcases hcase with q | q
              · omega
              · refine Exists.intro (ps.length - (k + 1 + kk)) (And.intro (by omega) ⟨rfl, rfl, v2, acc ++ u, k + 1 + kk, f, rfl, congrArg (Value.int .i64) (show (k : Int) + (1 + kk) = ((k + 1 + kk : Nat) : Int) by omega), by omega, by omega, by omega, by rw [List.length_append]; omega, ?_, H.tl⟩)
                rw [hst, drop_cons ps k (by omega), hp, strQ_cons, if_neg (by omega), if_neg (by omega), if_pos c16, q.2.2]
          · refine idxP hp (H.rd 1 rfl) (by omega) fun b off hc => ?_
            refine loadS hc ?_
            refine litI1 H fun v20 w H => ?_
            obtain ⟨A9, c9, rfl⟩ := own_val (H.own 0 rfl)
            have hb := bd_at hbd k (by omega)
            rw [hp] at hb
            refine callRow2 ok_spec_ToUnits (spec_units1 p hb.1 hb.2 (H.rd 0 rfl)) H fun A1 c1 w H => ?_
            have hul := unitsOne_len p
            refine appSI H 2 rfl (H.rd 0 rfl) (by omega) fun v2 w H => ?_
            refine arN (by omega) ?_
            refine Exists.intro (ps.length - (k + 1)) (And.intro (by omega) ⟨rfl, rfl, v2, acc ++ unitsOne p, k + 1, f, rfl, rfl, by omega, by omega, by omega, by rw [List.length_append]; omega, ?_, H.tl.tl⟩)
            rw [hst, drop_cons ps k (by omega), hp, strQ_cons, if_neg (by omega), if_neg (by omega), if_neg c16]
      · refine ifT ?_
        refine no H ?_
        rw [hst, drop_cons ps k (by omega), hp, strQ_cons, if_neg (by omega), if_pos (by omega)]
    · refine ifB (fun c22 => absurd c22 (by omega)) (fun c22 => ?_)
      refine arN (by omega) ?_
      refine ar64 (by omega) (by omega) ?_
      refine Exists.intro v (Exists.intro acc (Exists.intro (k + 1 - i) (And.intro (congrArg (fun z => Ending.returned (.tuple #[v, .int .i64 z])) (show (k : Int) + 1 - i = ((k + 1 - i : Nat) : Int) by omega)) (And.intro (H.own 0 rfl) (And.intro H.below (And.intro (by omega) (Or.inr ⟨by omega, by omega, ?_⟩)))))))
      rw [hst, drop_cons ps k (by omega), hp, strQ_cons, if_pos (by omega), show i + (k + 1 - i) = k + 1 by omega]
  · refine ifF ?_
    refine ifB (fun c26 => ?_) (fun c26 => absurd c26 (by omega))
    refine no H ?_
    rw [hst, List.drop_of_length_le (by omega)]; rfl
theorem decW_bd {xs : List Int} (hb : byteOK xs) (h : (decW xs).2.1 = 0) : ∀ p ∈ (decW xs).1, 0 ≤ p ∧ p ≤ 1114111 := by
  obtain ⟨qs, hq, ha⟩ := at_of xs hb xs.length 0 [] (by omega) (by omega) h
  have hq : (decW xs).1 = qs := hq
  rw [hq]; exact ha.bd hb
theorem ok_spec_ReadString : callOK Try.prog 38 = true := by kernel_rfl
theorem spec_ReadString {xs : List Int} (hb : byteOK xs) {A : Option Addr} {n c : Nat} (hl : n ≤ 4294967296) {W : World} (hx : Rd W (.slice A n c) 1 n (xs.map (.int .u8))) :
    Calls Try.prog 38 #[.slice A n c] W fun e w => ∃ x, e = .returned (.tuple #[x, .int .i64 (readS xs).2]) ∧ OwnI w W.heap.size x (readS xs).1 ∧ Below W.heap.size W w := by
  have H := (St.enter W).ro0 rfl hx
  obtain rfl : n = xs.length := by have := hx.len; simpa using this.symm
  have hlen := decW_len xs hb
  obtain ⟨r, hr⟩ : ∃ r, readS xs = r := ⟨_, rfl⟩
  rw [hr]
  unfold readS at hr
  refine calls_of_vcV (args := [.slice A xs.length c]) Try.func38 rfl (by kernel_rfl) (Nat.le_of_ble_eq_true rfl) ?_
  have h := spec_DecodeText hb hl hx
  change Calls _ _ _ _ fun e w => ∃ x, e = .returned (.tuple #[x, .int .i64 (decW xs).2.1, .int .i64 (decW xs).2.2]) ∧ OwnI w W.heap.size x (decW xs).1 ∧ Below W.heap.size W w at h
  have hbd := decW_bd hb
  obtain ⟨d, hd⟩ : ∃ d, decW xs = d := ⟨_, rfl⟩
  rw [hd] at h hr hlen hbd
  refine callRow3 ok_spec_DecodeText h H fun A1 c1 w H => ?_
  refine ifB (fun c0 => ?_) (fun c0 => ?_)
  · rw [if_pos c0] at hr
    subst hr
    exact Exists.intro (.slice none 0 0) (And.intro rfl (And.intro (World.ownsRow_nil _ _ _ _) H.below))
  · rw [if_neg c0] at hr
    refine CallS.mk ok_l4string ((spec_l4string (hbd (by omega)) 0 (by omega) (by omega) (H.rd 0 rfl)).mono ?_)
    rintro _ w ⟨x, u, k, rfl, ho, hb1, hu, hcase⟩
    have H := newRow H ho hb1
    rw [List.drop_zero] at hcase
    have hE : r = if k = 0 ∨ k ≠ d.1.length then ([], 3) else (u, 0) := by
      rw [← hr]; unfold readR
      rcases hcase with ⟨q1, q2, q3⟩ | ⟨q1, q2, q3⟩
      · rw [q3, if_pos (.inl q1)]
      · rw [q3]
        by_cases hk : k = d.1.length
        · rw [if_neg (by omega), List.drop_of_length_le (by omega)]
        · rw [if_pos (by omega), show d.1.drop (0 + k) = d.1.getD (0 + k) 0 :: d.1.drop (0 + k + 1) from drop_cons _ _ (by omega)]
    have fin : ∀ {y : Value} {ys : List Int} {z : Int}, r = (ys, z) → OwnI w W.heap.size y ys → ∃ x, Ending.returned (.tuple #[y, .int .i64 z]) = .returned (.tuple #[x, .int .i64 r.2]) ∧ OwnI w W.heap.size x r.1 ∧ Below W.heap.size W w := fun e o => by subst e; exact ⟨_, rfl, o, H.below⟩
    refine RegV.mk ?_
    refine gF (fun c1 => ?_) (fun c1 => ?_)
    · refine ifB (fun c2 => ?_) (fun c2 => ?_)
      · exact fin (hE.trans (if_pos (by omega))) (World.ownsRow_nil _ _ _ _)
      · exact fin (hE.trans (if_neg (by omega))) (H.own 0 rfl)
    · refine ifT ?_
      exact fin (hE.trans (if_pos (by omega))) (World.ownsRow_nil _ _ _ _)
end Go.Proofs.YtcokdccbfbbhbaaE
