/- The law FnUnits: for drawn units, points and bytes the program's four conversions undo one another and refuse where the reference refuses; at every code of at most 2^20 bytes. -/
import Derived.Test.YtcokdccbfbbhbaaTDraw3
import Derived.Test.YtcokdccbfbbhbaaTQuote
import Derived.Test.YtcokdccbfbbhbaaTScan
namespace Go.Proofs.YtcokdccbfbbhbaaE
open Go Go.RowKit Go.Proofs
set_option linter.unusedVariables false
set_option maxHeartbeats 2000000

theorem ok_impl_ToUnits : callOK Try.prog 19 = true := by kernel_rfl
theorem impl_ToUnits {xs : List Int} {A : Option Addr} {n c : Nat} (hl : n ≤ 4294967296) {W : World} (hx : Rd W (.slice A n c) 1 n (xs.map (.int .i64))) :
    Calls Try.prog 19 #[.slice A n c] W fun e w => ∃ x, e = .returned (.tuple #[x, .int .i64 (toR xs).2]) ∧ OwnI w W.heap.size x (toR xs).1 ∧ Below W.heap.size W w := by
  have H := ((St.enter W).ro0 rfl hx).rowNil (e := 3) (sz := 1)
  obtain rfl : n = xs.length := by have := hx.len; simpa using this.symm
  obtain ⟨r, hr⟩ : ∃ r, toR xs = r := ⟨_, rfl⟩
  rw [hr]
  unfold toR at hr
  refine calls_of_vcV (args := [.slice A xs.length c]) Try.func19 rfl (by kernel_rfl) (Nat.le_of_ble_eq_true rfl) ?_
  refine loopV (by kernel_rfl) (fun m e w => e 7 = .slice A xs.length c ∧ e 8 = .int .i64 xs.length ∧ ∃ (j : Nat) (v : Value) (acc : List Int), e 9 = .int .i64 j ∧ e 4 = v ∧ j + m = xs.length ∧ acc.length ≤ 2 * j ∧ r = encAns acc (unitsAll (xs.drop j)) ∧ St W.heap.size W w [.rowI v acc, .roI (.slice A xs.length c) xs]) xs.length
    ⟨rfl, rfl, 0, _, [], rfl, rfl, by omega, by simp, hr.symm, H⟩ ?_
  rintro m e w ⟨h7, h8, j, v, acc, h9, h4, hj, hac, hr1, H⟩
  rw [Env.four h7 h8 h9 h4]
  refine ifB (fun h => ?_) (fun h => ?_)
  case refine_2 =>
    rw [List.drop_of_length_le (by omega)] at hr1
    simp only [unitsAll, encAns, List.append_nil] at hr1
    subst hr1
    exact Exists.intro _ (And.intro rfl (And.intro (H.own 0 rfl) H.below))
  have hjl : j < xs.length := by omega
  rw [drop_cons xs j hjl, unitsAll] at hr1
  obtain ⟨p, hp⟩ : ∃ p, xs.getD j 0 = p := ⟨_, rfl⟩
  rw [hp] at hr1
  refine JoinV.mk ?_
  refine idxP hp (H.rd 1 rfl) (by omega) fun b off hc => ?_
  refine loadS hc ?_
  refine RegV.mk ?_
  refine gF (fun c4 => ?_) (fun c4 => ?_)
  · refine ifB (fun c5 => ?_) (fun c5 => ?_)
    · rw [if_pos (by omega)] at hr1
      subst hr1
      exact Exists.intro _ (And.intro rfl (And.intro (World.ownsRow_nil _ _ _ _) H.below))
    · rw [if_neg (by omega), encAns_step] at hr1
      have hul := unitsOne_len p
      refine callRow ok_unitsOf (impl_unitsOf p (by omega) (by omega) w) H fun A1 k1 w H => ?_
      refine appIS H 1 rfl (H.rd 0 rfl) (by first | omega | (simp; omega)) fun A0 k0 w H => ?_
      refine arN (by omega) ?_
      exact Exists.intro (m - 1) (And.intro (by omega) ⟨rfl, rfl, j + 1, _, acc ++ unitsOne p, rfl, rfl, by omega, by rw [List.length_append]; omega, hr1, H.tl⟩)
  · refine ifT ?_
    rw [if_pos (by omega)] at hr1
    subst hr1
    exact Exists.intro _ (And.intro rfl (And.intro (World.ownsRow_nil _ _ _ _) H.below))
theorem ok_sameN : callOK Try.prog 41 = true := by kernel_rfl
theorem laws_sameN {xs : List Int} {A A' : Option Addr} {c c' n n' : Nat} {W : World} (hx : Rd W (.slice A n c) 1 n (xs.map (.int .i64))) (hy : Rd W (.slice A' n' c') 1 n' (xs.map (.int .i64))) (hl : n ≤ 4294967296) : GivesV Try.prog 41 [.slice A n c, .slice A' n' c'] W (.bool true) := by
  have H := ((St.enter W).ro0 rfl hy).ro0 rfl hx
  obtain rfl : n = xs.length := by have := hx.len; simpa using this.symm
  obtain rfl : n' = xs.length := by have := hy.len; simpa using this.symm
  refine calls_of_vcV (args := [.slice A xs.length c, .slice A' xs.length c']) Try.func41 rfl (by kernel_rfl) (Nat.le_of_ble_eq_true rfl) ?_
  refine ifB (fun c0 => absurd c0 (by omega)) (fun c0 => ?_)
  refine loopV (by kernel_rfl) (fun m e w => e 0 = .slice A xs.length c ∧ e 1 = .slice A' xs.length c' ∧ ∃ j : Nat, e 5 = .int .i64 j ∧ j + m = xs.length ∧ St W.heap.size W w [.roI (.slice A xs.length c) xs, .roI (.slice A' xs.length c') xs]) xs.length ⟨rfl, rfl, 0, rfl, by omega, H⟩ ?_
  rintro m e w ⟨h0, h1, j, h5, hj, H⟩
  rw [Env.three h0 h1 h5]
  refine ifB (fun c0 => ?_) (fun c0 => ?_)
  · refine JoinV.mk ?_
    refine drawR H fun w H => ?_
    refine idxN (H.rd 0 rfl) (by omega) fun b off hc => ?_
    refine loadS hc ?_
    refine idxN (H.rd 1 rfl) (by omega) fun b off hc => ?_
    refine loadS hc ?_
    refine ifB (fun c7 => absurd c7 (by omega)) (fun c7 => ?_)
    refine arN (by omega) ?_
    exact Exists.intro (m - 1) (And.intro (by omega) ⟨rfl, rfl, j + 1, rfl, by omega, H⟩)
  · exact Exists.intro _ (And.intro rfl (And.intro rfl H.none))
theorem ok_sameB : callOK Try.prog 44 = true := by kernel_rfl
theorem laws_sameB {xs : List Int} {A A' : Option Addr} {c c' n n' : Nat} {W : World} (hx : Rd W (.slice A n c) 1 n (xs.map (.int .u8))) (hy : Rd W (.slice A' n' c') 1 n' (xs.map (.int .u8))) (hl : n ≤ 4294967296) : GivesV Try.prog 44 [.slice A n c, .slice A' n' c'] W (.bool true) := by
  have H := ((St.enter W).ro0 rfl hy).ro0 rfl hx
  obtain rfl : n = xs.length := by have := hx.len; simpa using this.symm
  obtain rfl : n' = xs.length := by have := hy.len; simpa using this.symm
  refine calls_of_vcV (args := [.slice A xs.length c, .slice A' xs.length c']) Try.func44 rfl (by kernel_rfl) (Nat.le_of_ble_eq_true rfl) ?_
  refine ifB (fun c0 => absurd c0 (by omega)) (fun c0 => ?_)
  refine loopV (by kernel_rfl) (fun m e w => e 0 = .slice A xs.length c ∧ e 1 = .slice A' xs.length c' ∧ ∃ j : Nat, e 5 = .int .i64 j ∧ j + m = xs.length ∧ St W.heap.size W w [.roB (.slice A xs.length c) xs, .roB (.slice A' xs.length c') xs]) xs.length ⟨rfl, rfl, 0, rfl, by omega, H⟩ ?_
  rintro m e w ⟨h0, h1, j, h5, hj, H⟩
  rw [Env.three h0 h1 h5]
  refine ifB (fun c0 => ?_) (fun c0 => ?_)
  · refine JoinV.mk ?_
    refine drawR H fun w H => ?_
    refine idxN (H.rd 0 rfl) (by omega) fun b off hc => ?_
    refine loadS hc ?_
    refine idxN (H.rd 1 rfl) (by omega) fun b off hc => ?_
    refine loadS hc ?_
    refine ifB (fun c7 => absurd c7 (by omega)) (fun c7 => ?_)
    refine arN (by omega) ?_
    exact Exists.intro (m - 1) (And.intro (by omega) ⟨rfl, rfl, j + 1, rfl, by omega, H⟩)
  · exact Exists.intro _ (And.intro rfl (And.intro rfl H.none))
theorem goodU_of {u : List Int} (h : (fromR u).2 = 0) : goodU u = true := by
  unfold fromR at h
  cases hg : goodU u with
  | true => rfl
  | false => rw [hg] at h; simp at h
theorem toR_from {u : List Int} (h : (fromR u).2 = 0) : toR (fromR u).1 = (u, 0) := by
  have hg := goodU_of h
  unfold fromR toR
  rw [if_pos hg]
  simp only [units_from _ u (Nat.le_refl _) hg, encAns, List.nil_append]
theorem encR_some {q : List Int} (h : (encR q).2 = 0) : encAll q = some (encR q).1 := by
  unfold encR at h ⊢
  cases he : encAll q with
  | none => rw [he] at h; simp [encAns] at h
  | some b => simp [encAns]
theorem from_toR {q : List Int} (h : (encR q).2 = 0) : (toR q).2 = 0 ∧ fromR (toR q).1 = (q, 0) := by
  obtain ⟨v, h1, h2, h3⟩ := from_units q (encAll_bytes _ _ (encR_some h)).2
  unfold toR
  rw [h1]
  refine ⟨rfl, ?_⟩
  simp only [encAns, List.nil_append]
  unfold fromR
  rw [if_pos h2, h3]
theorem cntP_decW (xs : List Int) : cntP (ptsF xs xs.length 0) 0 = if (decW xs).2.1 ≠ 0 then -1 else ((decW xs).1.length : Int) := decP_cnt (ptsF xs xs.length 0) []
theorem encR_decW {xs : List Int} (hb : byteOK xs) (h : (decW xs).2.1 = 0) : encR (decW xs).1 = (xs, 0) := by
  unfold encR
  rw [enc_decW hb h]; rfl
theorem law_Units (xs : List Int) (A : Option Addr) (c : Nat) (W : World) (hx : RdB W (.slice A xs.length c) xs) (hb : ∀ x ∈ xs, 0 ≤ x ∧ x < 256) :
    Calls Try.prog 13 #[.slice A xs.length c] W fun e w' => e = .returned (.bool true) ∧ Below W.heap.size W w' := by
  have H := (St.enter W).ro0 rfl hx
  refine calls_of_vcV (args := [.slice A xs.length c]) Try.func13 rfl (by kernel_rfl) (Nat.le_of_ble_eq_true rfl) ?_
  refine ifB (fun h => And.intro rfl H.below) fun h => ?_
  have hl : xs.length ≤ 4294967296 := by omega
  have hul := drawFU_len hb
  have hql := drawET_len hb
  have hcl := drawDT_ok hb
  refine callRow ok_DrawFromUnits (spec_DrawFromUnits hb hl (H.rd 0 rfl)) H fun A1 k1 w H => ?_
  refine callRow2 ok_spec_FromUnits (spec_FromUnits (drawFU xs) A1 k1 _ (H.rd 0 rfl) (by omega)) H fun A2 k2 w H => ?_
  refine callRow ok_DrawFromUnits (spec_DrawFromUnits hb hl (H.rd 2 rfl)) H fun A3 k3 w H => ?_
  refine callRow2 ok_impl_FromUnits (impl_FromUnits (xs := drawFU xs) (by omega) (H.rd 0 rfl)) H fun A4 k4 w H => ?_
  have hfl := fromR_len (drawFU xs)
  generalize drawFU xs = u at *
  refine ifB (fun c0 => absurd c0 (by omega)) (fun c0 => ?_)
  refine joinV (fun e w => e 0 = .slice A xs.length c ∧ St W.heap.size W w [.roB (.slice A xs.length c) xs]) rfl ?_ ?_
  · refine ifB (fun h => ?_) (fun h => ⟨rfl, H.sub [4] (by decide)⟩)
    have hT := impl_ToUnits (xs := (fromR u).1) (by omega) (H.rd 0 rfl)
    rw [toR_from h] at hT
    dsimp only at hT
    refine callRow2 ok_impl_ToUnits hT H fun A5 k5 w H => ?_
    refine RegV.mk ?_
    refine gY ?_
    refine callV ok_sameN (laws_sameN (H.rd 0 rfl) (H.rd 4 rfl) (by omega)) H fun w H => ?_
    refine ifNot ?_
    refine ifT ?_
    exact ⟨rfl, H.sub [5] (by decide)⟩
  rintro e w ⟨h0, H⟩
  rw [Env.one h0]
  clear hfl hul
  refine callRow ok_DrawEncodeText (spec_DrawEncodeText hb hl (H.rd 0 rfl)) H fun A1 k1 w H => ?_
  refine callRow2 ok_spec_EncodeText (spec_EncodeText (drawET xs) A1 k1 _ (H.rd 0 rfl) (by omega)) H fun A2 k2 w H => ?_
  refine callRow ok_DrawEncodeText (spec_DrawEncodeText hb hl (H.rd 2 rfl)) H fun A3 k3 w H => ?_
  refine callRow2 ok_impl_EncodeText (impl_EncodeText (drawET xs) A3 k3 _ (H.rd 0 rfl) (by omega)) H fun A4 k4 w H => ?_
  have hfl := encR_len (drawET xs)
  have hfb := encR_bytes (drawET xs)
  generalize drawET xs = q at *
  refine ifB (fun c0 => absurd c0 (by omega)) (fun c0 => ?_)
  refine joinV (fun e w => e 0 = .slice A xs.length c ∧ St W.heap.size W w [.roB (.slice A xs.length c) xs]) rfl ?_ ?_
  · refine ifB (fun h => ?_) (fun h => ⟨rfl, H.sub [4] (by decide)⟩)
    have hD := impl_DecodeText hfb (by omega) (H.rd 0 rfl)
    change Calls _ _ _ _ fun e w' => ∃ x, e = .returned (.tuple #[x, .int .i64 (decW (encR q).1).2.1, .int .i64 (decW (encR q).1).2.2]) ∧ OwnI w' w.heap.size x (decW (encR q).1).1 ∧ Below w.heap.size w w' at hD
    have hE := decW_enc (encR_some h)
    have hc := cntP_decW (encR q).1
    rw [hE] at hD hc
    dsimp only at hD hc
    rw [if_neg (by simp)] at hc
    obtain ⟨hF1, hF2⟩ := from_toR h
    refine callRow3 ok_impl_DecodeText hD H fun A5 k5 w H => ?_
    refine callRow2 ok_impl_ToUnits (impl_ToUnits (xs := q) (by omega) (H.rd 4 rfl)) H fun A6 k6 w H => ?_
    have htl := toR_len q
    have hG := impl_FromUnits (xs := (toR q).1) (by omega) (H.rd 0 rfl)
    rw [hF2] at hG
    dsimp only at hG
    refine callRow2 ok_impl_FromUnits hG H fun A7 k7 w H => ?_
    refine RegV.mk ?_
    refine gY ?_
    refine gY ?_
    refine callV ok_sameN (laws_sameN (H.rd 2 rfl) (H.rd 6 rfl) (by omega)) H fun w H => ?_
    refine gNot ?_
    refine gY ?_
    refine callV ok_sameN (laws_sameN (H.rd 0 rfl) (H.rd 6 rfl) (by omega)) H fun w H => ?_
    refine gNot ?_
    refine gY ?_
    refine callV ok_TextWidth (impl_TextWidth hfb (by omega) (H.rd 3 rfl)) H fun w H => ?_
    refine ifB (fun c10 => absurd c10 (by omega)) (fun c10 => ?_)
    all_goals exact ⟨rfl, H.sub [7] (by decide)⟩
  rintro e w ⟨h0, H⟩
  rw [Env.one h0]
  clear hfl hql hfb
  refine callRow ok_DrawDecodeText (spec_DrawDecodeText hb hl (H.rd 0 rfl)) H fun A1 k1 w H => ?_
  refine callRow3 ok_spec_DecodeText (spec_DecodeText hcl.1 (by omega) (H.rd 0 rfl)) H fun A2 k2 w H => ?_
  refine callRow ok_DrawDecodeText (spec_DrawDecodeText hb hl (H.rd 2 rfl)) H fun A3 k3 w H => ?_
  refine callRow3 ok_impl_DecodeText (impl_DecodeText hcl.1 (by omega) (H.rd 0 rfl)) H fun A4 k4 w H => ?_
  have hdl := decW_len (drawDT xs) hcl.1
  have hcn := cntP_decW (drawDT xs)
  have hee := encR_decW hcl.1
  change (decP (ptsF (drawDT xs) (drawDT xs).length 0) []).1.length ≤ _ at hdl
  change cntP _ _ = if (decP (ptsF (drawDT xs) (drawDT xs).length 0) []).2.1 ≠ 0 then -1 else ((decP (ptsF (drawDT xs) (drawDT xs).length 0) []).1.length : Int) at hcn
  change (decP (ptsF (drawDT xs) (drawDT xs).length 0) []).2.1 = 0 → encR (decP (ptsF (drawDT xs) (drawDT xs).length 0) []).1 = _ at hee
  generalize decP (ptsF (drawDT xs) (drawDT xs).length 0) [] = d at *
  refine RegV.mk ?_
  refine gF (fun c1 => ?_) (fun c1 => absurd c1 (by omega))
  refine ifB (fun c2 => absurd c2 (by omega)) (fun c2 => ?_)
  refine ifB (fun c3 => ?_) (fun c3 => ?_)
  · refine callV ok_TextWidth (impl_TextWidth hcl.1 (by omega) (H.rd 3 rfl)) H fun w H => ?_
    rw [if_pos c3] at hcn
    exact And.intro (congrArg (fun z => Ending.returned (.bool z)) (decide_eq_true hcn)) H.below
  · have hR := impl_EncodeText d.1 A4 k4 _ (H.rd 0 rfl) (by omega)
    rw [hee (by omega)] at hR
    dsimp only at hR
    refine callRow2 ok_impl_EncodeText hR H fun A5 k5 w H => ?_
    refine RegV.mk ?_
    refine gY ?_
    refine callV ok_sameB (laws_sameB (H.rd 0 rfl) (H.rd 4 rfl) (by omega)) H fun w H => ?_
    exact And.intro rfl H.below
end Go.Proofs.YtcokdccbfbbhbaaE
