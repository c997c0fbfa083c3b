/- What the reference's l4escape does. -/
import Derived.Test.YtcokdccbfbbhbaaTReadS
namespace Go.Proofs.YtcokdccbfbbhbaaE
open Go Go.RowKit Go.Proofs
set_option linter.unusedVariables false

theorem readHex_cons (n : Nat) (q : Int) (qs : List Int) (v : Int) : readHex (n + 1) (q :: qs) v = if hexv q < 0 then none else readHex n qs (v * 16 + hexv q) := rfl
theorem esc_no {W w : World} {L : List It} {ps : List Int} {i n : Nat} (H : St W.heap.size W w L) (h : escQ (ps.drop i) = none) : ∃ (x : Value) (u : List Int) (k : Nat), Ending.returned (.tuple #[.slice none 0 0, .int .i64 0]) = .returned (.tuple #[x, .int .i64 k]) ∧ OwnI w W.heap.size x u ∧ Below W.heap.size W w ∧ u.length ≤ 2 ∧ ((k = 0 ∧ escQ (ps.drop i) = none) ∨ (0 < k ∧ i + k ≤ n ∧ escQ (ps.drop i) = some (u, ps.drop (i + k)))) :=
  ⟨_, [], 0, rfl, World.ownsRow_nil _ _ _ _, H.below, Nat.zero_le _, .inl ⟨rfl, h⟩⟩
theorem esc_yes {W w : World} {L : List It} {ps u : List Int} {i n : Nat} {x : Value} (H : St W.heap.size W w (.rowI x u :: L)) (hu : u.length ≤ 2) (hi : i < n) (h : escQ (ps.drop i) = some (u, ps.drop (i + 1))) : ∃ (x' : Value) (u : List Int) (k : Nat), Ending.returned (.tuple #[x, .int .i64 1]) = .returned (.tuple #[x', .int .i64 k]) ∧ OwnI w W.heap.size x' u ∧ Below W.heap.size W w ∧ u.length ≤ 2 ∧ ((k = 0 ∧ escQ (ps.drop i) = none) ∨ (0 < k ∧ i + k ≤ n ∧ escQ (ps.drop i) = some (u, ps.drop (i + k)))) :=
  ⟨_, u, 1, rfl, H.own 0 rfl, H.below, hu, .inr ⟨by omega, by omega, h⟩⟩
def frmQ : List Int := [98, 102, 110, 114, 116, 118]
def tosQ : List Int := [8, 12, 10, 13, 9, 11]
theorem frm_hit (k : Nat) (hk : k < 6) : shortQ (frmQ.getD k 0) = some (tosQ.getD k 0) := by
  have : ∀ k : Fin 6, shortQ (frmQ.getD k.val 0) = some (tosQ.getD k.val 0) := by decide
  exact this ⟨k, hk⟩
theorem frm_no (p : Int) (h : ∀ j, j < 6 → frmQ.getD j 0 ≠ p) : shortQ p = none := by
  have h0 := h 0 (by omega); have h1 := h 1 (by omega); have h2 := h 2 (by omega); have h3 := h 3 (by omega); have h4 := h 4 (by omega); have h5 := h 5 (by omega)
  simp only [frmQ, List.getD_cons_zero, List.getD_cons_succ] at h0 h1 h2 h3 h4 h5
  unfold shortQ
  rw [if_neg (fun e => h0 e.symm), if_neg (fun e => h1 e.symm), if_neg (fun e => h2 e.symm), if_neg (fun e => h3 e.symm), if_neg (fun e => h4 e.symm), if_neg (fun e => h5 e.symm)]
theorem escQ_other {p : Int} {r : List Int} (hn1 : ¬ (p = 10 ∨ p = 8232 ∨ p = 8233)) (hn2 : p ≠ 13) (hxu : ¬ (p = 120 ∨ p = 117)) : escQ (p :: r) = if p = 48 then (if digit (r.headD (-1)) then none else some ([0], r)) else if digit p then none else match shortQ p with | some u => some ([u], r) | none => some (unitsOne p, r) := by
  unfold escQ
  simp only []
  rw [if_neg hn1, if_neg hn2, if_neg (by omega), if_neg (by omega)]
  rfl
theorem headD_drop (ps : List Int) (i : Nat) (h : i < ps.length) : (ps.drop i).headD (-1) = ps.getD i 0 := by rw [drop_cons ps i h]; rfl
theorem ok_l4escape : callOK Try.prog 72 = true := by kernel_rfl
theorem spec_l4escape {ps : List Int} (hbd : ∀ p ∈ ps, 0 ≤ p ∧ p ≤ 1114111) (i : Nat) {A : Option Addr} {n c : Nat} (hl : n ≤ 4294967296) (hi : i ≤ 4294967297) {W : World} (hx : Rd W (.slice A n c) 1 n (ps.map (.int .i64))) :
    Calls Try.prog 72 #[.slice A n c, .int .i64 i] W fun e w => ∃ (x : Value) (u : List Int) (k : Nat), e = .returned (.tuple #[x, .int .i64 k]) ∧ OwnI w W.heap.size x u ∧ Below W.heap.size W w ∧ u.length ≤ 2 ∧ ((k = 0 ∧ escQ (ps.drop i) = none) ∨ (0 < k ∧ i + k ≤ n ∧ escQ (ps.drop i) = some (u, ps.drop (i + k)))) := by
  have H := (St.enter W).ro0 rfl hx
  obtain rfl : n = ps.length := by have := hx.len; simpa using this.symm
  refine calls_of_vcV (args := [.slice A ps.length c, .int .i64 i]) Try.func72 rfl (by kernel_rfl) (Nat.le_of_ble_eq_true rfl) ?_
  refine ifB (fun h => ?_) (fun h => ?_)
  · exact Exists.intro (.slice none 0 0) (Exists.intro [] (Exists.intro 0 (And.intro rfl (And.intro (World.ownsRow_nil _ _ _ _) (And.intro H.below (And.intro (Nat.zero_le _) (Or.inl ⟨rfl, by rw [List.drop_of_length_le (by omega)]; rfl⟩)))))))
  have hil : i < ps.length := by omega
  refine idxN (H.rd 0 rfl) (by omega) fun b off hc => ?_
  refine loadS hc ?_
  have hpb : 0 ≤ ps.getD i 0 ∧ ps.getD i 0 ≤ 1114111 := hbd _ (by rw [List.getD_eq_getElem?_getD, List.getElem?_eq_getElem hil]; exact List.getElem_mem hil)
  have hds := drop_cons ps i hil
  generalize hp : ps.getD i 0 = p at *
  refine callV ok_l4lineEnd (spec_l4lineEnd p W) H fun w H => ?_
  refine ifB (fun h => ?_) (fun h => ?_)
  · refine cutG (fun e w => e 41 = .bool (decide (p = 13 ∧ i + 1 < ps.length ∧ ps.getD (i + 1) 0 = 10)) ∧ St W.heap.size W w [.roI (.slice A ps.length c) ps]) ?_ ?_
    · repeat' first | (refine gY ?_) | (refine gNt ?_) | (refine gNf ?_) | (refine ifT ?_) | (refine ifF ?_) | (refine arN (by omega) ?_) | (refine ar64 (by omega) (by omega) ?_) | (refine ar32 (by omega) (by omega) ?_) | (refine ar8 (by omega) (by omega) ?_) | (refine div64 (by omega) (by omega) (by omega) ?_) | (refine rem0 (by omega) (by omega) ?_) | (refine drawR H fun w H => ?_) | (refine RegV.mk ?_) | (refine JoinV.mk ?_) | (refine idxN (i := 0) (H.rd 0 rfl) (by omega) fun b off hc => ?_) | (refine idxN (i := 1) (H.rd 0 rfl) (by omega) fun b off hc => ?_) | (refine idxN (i := 2) (H.rd 0 rfl) (by omega) fun b off hc => ?_) | (refine idxN (i := 3) (H.rd 0 rfl) (by omega) fun b off hc => ?_) | (refine idxN (H.rd 0 rfl) (by omega) fun b off hc => ?_) | (refine idxI (H.rd 0 rfl) (by omega) (by omega) fun b off hc => ?_) | (refine loadS hc ?_) | (refine gT (fun h => ?_) (fun h => ?_) <;> first | (exfalso; omega) | skip) | (refine gF (fun h => ?_) (fun h => ?_) <;> first | (exfalso; omega) | skip) | (refine ifB (fun h => ?_) (fun h => ?_) <;> first | (exfalso; omega) | skip)
      all_goals refine ⟨congrArg Value.bool ?_, H⟩
      all_goals (rw [Bool.eq_iff_iff]; simp only [decide_eq_true_eq, Bool.false_eq_true, true_iff, iff_true, false_iff, iff_false]; omega)
    rintro e w ⟨h41, H⟩
    rw [Env.one h41]
    refine ifB (fun h2 => ?_) (fun h2 => ?_)
    · refine Exists.intro (.slice none 0 0) (Exists.intro [] (Exists.intro 2 (And.intro rfl (And.intro (World.ownsRow_nil _ _ _ _) (And.intro H.below (And.intro (Nat.zero_le _) (Or.inr ⟨by omega, by omega, ?_⟩)))))))
      have h13 := h2.1
      rw [hds, drop_cons ps (i + 1) h2.2.1, h2.2.2]
      subst h13
      simp [escQ]
    · refine Exists.intro (.slice none 0 0) (Exists.intro [] (Exists.intro 1 (And.intro rfl (And.intro (World.ownsRow_nil _ _ _ _) (And.intro H.below (And.intro (Nat.zero_le _) (Or.inr ⟨by omega, by omega, ?_⟩)))))))
      rw [hds]
      by_cases h13 : p = 13
      · subst h13
        have hh : (ps.drop (i + 1)).headD (-1) ≠ 10 := by
          by_cases hj : i + 1 < ps.length
          · rw [drop_cons ps (i + 1) hj]
            exact fun q => h2 ⟨rfl, hj, q⟩
          · rw [List.drop_of_length_le (by omega)]; decide
        unfold escQ
        simp only []
        rw [if_neg (by decide), if_pos trivial, if_neg hh]
      · have hq : p = 10 ∨ p = 8232 ∨ p = 8233 := by omega
        unfold escQ
        simp only []
        rw [if_pos hq]
  have hn1 : ¬ (p = 10 ∨ p = 8232 ∨ p = 8233) := by omega
  have hn2 : p ≠ 13 := by omega
  refine cutG (fun e w => e 0 = .slice A ps.length c ∧ e 1 = .int .i64 i ∧ e 6 = .int .i64 p ∧ e 47 = .bool (decide (p = 120 ∨ p = 117)) ∧ St W.heap.size W w [.roI (.slice A ps.length c) ps]) ?_ ?_
  · repeat' first | (refine gY ?_) | (refine gNt ?_) | (refine gNf ?_) | (refine ifT ?_) | (refine ifF ?_) | (refine arN (by omega) ?_) | (refine ar64 (by omega) (by omega) ?_) | (refine ar32 (by omega) (by omega) ?_) | (refine ar8 (by omega) (by omega) ?_) | (refine div64 (by omega) (by omega) (by omega) ?_) | (refine rem0 (by omega) (by omega) ?_) | (refine drawR H fun w H => ?_) | (refine RegV.mk ?_) | (refine JoinV.mk ?_) | (refine gT (fun h => ?_) (fun h => ?_) <;> first | (exfalso; omega) | skip) | (refine gF (fun h => ?_) (fun h => ?_) <;> first | (exfalso; omega) | skip) | (refine ifB (fun h => ?_) (fun h => ?_) <;> first | (exfalso; omega) | skip)
    all_goals refine ⟨rfl, rfl, rfl, congrArg Value.bool ?_, H⟩
    all_goals (rw [Bool.eq_iff_iff]; simp only [decide_eq_true_eq, Bool.false_eq_true, true_iff, iff_true, false_iff, iff_false]; omega)
  rintro e w ⟨h0, h1, h6, h47, H⟩
  rw [Env.four h0 h1 h6 h47]
  refine ifB (fun hxu => ?_) (fun hxu => ?_)
  · obtain ⟨dg, hdg⟩ : ∃ dg : Nat, (if p = 117 then 4 else 2) = dg := ⟨_, rfl⟩
    have hdb : dg = 2 ∨ dg = 4 := by rw [← hdg]; split <;> simp
    have hesc : escQ (ps.drop i) = (readHex dg (ps.drop (i + 1)) 0).map (fun x => ([x.1], x.2)) := by
      rw [hds, ← hdg]
      rcases hxu with q | q <;> subst q <;> simp [escQ]
    refine joinV (fun e w => e 0 = .slice A ps.length c ∧ e 1 = .int .i64 i ∧ e 6 = .int .i64 p ∧ e 7 = .int .i64 dg ∧ St W.heap.size W w [.roI (.slice A ps.length c) ps]) rfl ?_ ?_
    · refine ifB (fun h => ?_) (fun h => ?_)
      · exact ⟨rfl, rfl, rfl, by rw [← hdg, if_pos h]; rfl, H⟩
      · exact ⟨rfl, rfl, rfl, by rw [← hdg, if_neg h]; rfl, H⟩
    rintro e w ⟨h0, h1, h6, h7, H⟩
    rw [Env.four h0 h1 h6 h7]
    refine loopV (by kernel_rfl) (fun m e w => e 0 = .slice A ps.length c ∧ e 1 = .int .i64 i ∧ e 7 = .int .i64 dg ∧ ∃ (k : Nat) (v : Int), e 9 = .int .i64 (k + 1 : Nat) ∧ e 8 = .int .i64 v ∧ k + m = dg ∧ 0 ≤ v ∧ v < 16 ^ k ∧ readHex dg (ps.drop (i + 1)) 0 = readHex m (ps.drop (i + 1 + k)) v ∧ St W.heap.size W w [.roI (.slice A ps.length c) ps]) dg
      ⟨rfl, rfl, rfl, 0, 0, rfl, rfl, by omega, by omega, by decide, rfl, H⟩ ?_
    rintro m e w ⟨h0, h1, h7, k, v, h9, h8, hkm, hv0, hv1, hrd, H⟩
    rw [Env.five h0 h1 h7 h9 h8]
    refine ifB (fun h => ?_) (fun h => ?_)
    case refine_2 =>
      obtain rfl : m = 0 := by omega
      refine litI1 H fun v1 w H => ?_
      refine ar64 (by omega) (by omega) ?_
      have hrd : readHex dg (ps.drop (i + 1)) 0 = some (v, ps.drop (i + 1 + k)) := hrd
      have hlen := readHex_len _ _ _ _ hrd
      simp only [List.length_drop] at hlen
      have e1 : (1 : Int) + dg = ((1 + dg : Nat) : Int) := by omega
      rw [e1]
      refine Exists.intro v1 (Exists.intro [v] (Exists.intro (1 + dg) (And.intro rfl (And.intro (H.own 0 rfl) (And.intro H.below (And.intro (by simp) (Or.inr ⟨by omega, by omega, ?_⟩)))))))
      rw [hesc, hrd, show i + (1 + dg) = i + 1 + k by omega]; rfl
    obtain ⟨m', rfl⟩ : ∃ m', m = m' + 1 := ⟨m - 1, by omega⟩
    refine joinV (fun e w => e 0 = .slice A ps.length c ∧ e 1 = .int .i64 i ∧ e 7 = .int .i64 dg ∧ e 9 = .int .i64 (k + 1 : Nat) ∧ ∃ v : Int, e 8 = .int .i64 v ∧ 0 ≤ v ∧ v < 16 ^ (k + 1) ∧ readHex dg (ps.drop (i + 1)) 0 = readHex m' (ps.drop (i + 1 + (k + 1))) v ∧ St W.heap.size W w [.roI (.slice A ps.length c) ps]) rfl ?_ ?_
    case refine_2 =>
      rintro e w ⟨h0, h1, h7, h9, v, h8, hv0, hv1, hrd, H⟩
      rw [Env.five h0 h1 h7 h9 h8]
      refine arN (by omega) ?_
      exact Exists.intro m' (And.intro (by omega) (And.intro rfl ⟨rfl, rfl, k + 1, v, rfl, rfl, by omega, hv0, hv1, hrd, H⟩))
    refine cutG (fun e w => e 0 = .slice A ps.length c ∧ e 1 = .int .i64 i ∧ e 7 = .int .i64 dg ∧ e 9 = .int .i64 (k + 1 : Nat) ∧ e 8 = .int .i64 v ∧ e 70 = .bool (decide (i + 1 + k ≥ ps.length ∨ hexv (ps.getD (i + 1 + k) 0) < 0)) ∧ St W.heap.size W w [.roI (.slice A ps.length c) ps]) ?_ ?_
    · refine ar64 (by omega) (by omega) ?_
      refine gF (fun c1 => ?_) (fun c1 => ?_)
      · refine ar64 (by omega) (by omega) ?_
        refine idxN (i := i + (k + 1)) (H.rd 0 rfl) (by omega) fun b off hc => ?_
        refine loadS hc ?_
        refine callV ok_l4hex (givesV_of (spec_l4hex _ _)) H fun w H => ?_
        refine ⟨rfl, rfl, rfl, rfl, rfl, congrArg Value.bool ?_, H⟩
        rw [show i + (k + 1) = i + 1 + k by omega]
        (rw [Bool.eq_iff_iff]; simp only [decide_eq_true_eq, Bool.false_eq_true, true_iff, iff_true, false_iff, iff_false]; omega)
      · refine ⟨rfl, rfl, rfl, rfl, rfl, congrArg Value.bool ?_, H⟩
        (rw [Bool.eq_iff_iff]; simp only [decide_eq_true_eq, Bool.false_eq_true, true_iff, iff_true, false_iff, iff_false]; omega)
    rintro e w ⟨h0, h1, h7, h9, h8, h70, H⟩
    rw [Env.six h0 h1 h7 h9 h8 h70]
    refine ifB (fun h => ?_) (fun h => ?_)
    · refine Exists.intro (.slice none 0 0) (Exists.intro [] (Exists.intro 0 (And.intro rfl (And.intro (World.ownsRow_nil _ _ _ _) (And.intro H.below (And.intro (Nat.zero_le _) (Or.inl ⟨rfl, ?_⟩)))))))
      rw [hesc, hrd]
      by_cases hj : i + 1 + k < ps.length
      · rw [drop_cons ps _ hj]
        have hneg : hexv (ps.getD (i + 1 + k) 0) < 0 := by omega
        rw [show readHex (m' + 1) (ps.getD (i + 1 + k) 0 :: ps.drop (i + 1 + k + 1)) v = none by unfold readHex; rw [if_pos hneg]]
        rfl
      · rw [List.drop_of_length_le (by omega)]; rfl
    · have hp2 : (16 : Int) ^ k ≤ 4096 := by
        have : k ≤ 3 := by omega
        have key : ∀ k : Fin 4, (16 : Int) ^ k.val ≤ 4096 := by decide
        exact key ⟨k, by omega⟩
      have hge := hexv_ge (ps.getD (i + 1 + k) 0)
      have hlt : i + 1 + k < ps.length := by omega
      have hnn : ¬ hexv (ps.getD (i + 1 + k) 0) < 0 := by omega
      rw [drop_cons ps (i + 1 + k) hlt] at hrd
      rw [readHex_cons, if_neg hnn] at hrd
      refine ar64 (by omega) (by omega) ?_
      refine ar64 (by omega) (by omega) ?_
      refine idxN (i := i + (k + 1)) (H.rd 0 rfl) (by omega) fun b off hc => ?_
      refine loadS hc ?_
      refine callV ok_l4hex (givesV_of (spec_l4hex _ _)) H fun w H => ?_
      rw [show i + (k + 1) = i + 1 + k by omega]
      refine ar64 (by omega) (by omega) ?_
      have hp3 : (16 : Int) ^ (k + 1) = 16 ^ k * 16 := Int.pow_succ _ _
      exact ⟨rfl, rfl, rfl, rfl, _, rfl, by omega, by rw [hp3]; omega, hrd, H⟩
  refine ifB (fun c0 => ?_) (fun c0 => ?_)
  · refine RegV.mk ?_
    refine arN (by omega) ?_
    refine gT (fun c3 => ?_) (fun c3 => ?_)
    · refine arN (by omega) ?_
      refine idxN (i := i + 1) (H.rd 0 rfl) (by omega) fun b off hc => ?_
      refine loadS hc ?_
      refine callV ok_l4digit (givesV_of (spec_l4digit _ _)) H fun w H => ?_
      refine ifB (fun c8 => ?_) (fun c8 => ?_)
      · refine esc_no H ?_
        rw [hds, escQ_other hn1 hn2 hxu, if_pos c0, headD_drop ps (i + 1) (by omega), if_pos (show digit _ = true from decide_eq_true c8)]
      · refine litI1 H fun v9 w H => ?_
        refine esc_yes H (by simp) hil ?_
        rw [hds, escQ_other hn1 hn2 hxu, if_pos c0, headD_drop ps (i + 1) (by omega), if_neg (by simpa [digit] using c8)]
    · refine ifF ?_
      refine litI1 H fun v11 w H => ?_
      refine esc_yes H (by simp) hil ?_
      rw [hds, escQ_other hn1 hn2 hxu, if_pos c0, show ps.drop (i + 1) = [] from List.drop_of_length_le (by omega)]; rfl
  · refine callV ok_l4digit (givesV_of (spec_l4digit _ _)) H fun w H => ?_
    refine ifB (fun c13 => ?_) (fun c13 => ?_)
    · refine esc_no H ?_
      rw [hds, escQ_other hn1 hn2 hxu, if_neg c0, if_pos (show digit _ = true from decide_eq_true c13)]
    · refine litI (xs := [98, 102, 110, 114, 116, 118]) H (by simp) (by kernel_rfl) fun v14 w H => ?_
      refine litI (xs := [8, 12, 10, 13, 9, 11]) H (by simp) (by kernel_rfl) fun v15 w H => ?_
      refine loopV (by kernel_rfl) (fun m e w => e 6 = .int .i64 p ∧ e 10 = v14 ∧ e 11 = v15 ∧ ∃ k : Nat, e 12 = .int .i64 k ∧ k + m = 6 ∧ (∀ j, j < k → frmQ.getD j 0 ≠ p) ∧ St W.heap.size W w [.rowI v15 tosQ, .rowI v14 frmQ, .roI (.slice A ps.length c) ps]) 6 ⟨rfl, rfl, rfl, 0, rfl, rfl, by omega, H⟩ ?_
      rintro m e w ⟨h6, h10, h11, k, h12, hk, hno, H⟩
      obtain ⟨A4, c4, rfl⟩ := own_val (H.own 1 rfl)
      obtain ⟨A5, c5, rfl⟩ := own_val (H.own 0 rfl)
      rw [Env.four h6 h10 h11 h12]
      have hE := escQ_other (r := ps.drop (i + 1)) hn1 hn2 hxu
      rw [if_neg c0, if_neg (by simpa [digit] using c13)] at hE
      refine ifB (fun c0 => ?_) (fun c0 => ?_)
      · refine JoinV.mk ?_
        refine idxN (n := 6) (xs := frmQ) (H.rd 1 rfl) (by omega) fun b off hc => ?_
        refine loadS hc ?_
        refine ifB (fun c4 => ?_) (fun c4 => ?_)
        · refine idxN (n := 6) (xs := tosQ) (H.rd 0 rfl) (by omega) fun b off hc => ?_
          refine loadS hc ?_
          refine litI1 H fun v7 w H => ?_
          refine esc_yes H (by simp) hil ?_
          rw [hds, hE, ← c4, frm_hit k (by omega)]
        · refine arN (by omega) ?_
          exact Exists.intro (m - 1) (And.intro (by omega) (And.intro rfl ⟨rfl, rfl, k + 1, rfl, by omega, fun j hj => by rcases Nat.lt_succ_iff_lt_or_eq.1 hj with q | q; exact hno j q; exact q ▸ c4, H⟩))
      · refine litI1 H fun v9 w H => ?_
        obtain rfl : k = 6 := by omega
        obtain ⟨A9, c9, rfl⟩ := own_val (H.own 0 rfl)
        refine callRow2 ok_spec_ToUnits (spec_units1 p hpb.1 hpb.2 (H.rd 0 rfl)) H fun A1 c1 w H => ?_
        refine esc_yes H (unitsOne_len p) hil ?_
        rw [hds, hE, frm_no p hno]
end Go.Proofs.YtcokdccbfbbhbaaE
