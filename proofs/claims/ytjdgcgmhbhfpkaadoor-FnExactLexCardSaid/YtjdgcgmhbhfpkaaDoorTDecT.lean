/- The reference's DecodeText and TextWidth answer what the program's answer. -/
import Derived.Test.YtjdgcgmhbhfpkaaDoorTDecS
namespace Go.Proofs.YtjdgcgmhbhfpkaaDoorE
open Go Go.RowKit Go.Proofs
set_option linter.unusedVariables false
set_option linter.unusedSimpArgs false
set_option maxRecDepth 100000

theorem found_dec (xs : List Int) (hb : byteOK xs) (hne : 0 < xs.length) (n : Nat) (hn : 1 ≤ n ∧ n ≤ 4) (h : 0 ≤ l1v xs n ∧ need (l1v xs n) = n) : (dec1 xs).1 = l1v xs n ∧ (dec1 xs).2 = n := by
  have hs := l1v_spec xs hb n hn
  have hd := dec1_spec xs hb hne
  have hc := need_cases (l1v xs n)
  obtain ⟨h0, hnd⟩ := h
  rcases hs with ⟨hlen, ⟨rfl, g1, gv⟩ | ⟨rfl, g1, g2, g3, g4, gv⟩ | ⟨rfl, g1, g2, g3, g4, g5, g6, gv⟩ | ⟨rfl, g1, g2, g3, g4, g5, g6, g7, g8, gv⟩⟩ | ⟨gv, _⟩
  · rw [gv] at hnd h0 hc ⊢
    clear hc
    rcases hd with ⟨a, b, c⟩ | ⟨a, b, b1, b2, b3, b4, c⟩ | ⟨a, b, b1, b2, b3, b4, b5, b6, c, c1, c2⟩ | ⟨a, b, b1, b2, b3, b4, b5, b6, b7, b8, c, c1, c2⟩ | ⟨a, b, c, d, e, f⟩
    · exact ⟨c, a⟩
    all_goals omega
  · have hv : 128 ≤ l1v xs 2 := by omega
    rcases hd with ⟨a, b, c⟩ | ⟨a, b, b1, b2, b3, b4, c⟩ | ⟨a, b, b1, b2, b3, b4, b5, b6, c, c1, c2⟩ | ⟨a, b, b1, b2, b3, b4, b5, b6, b7, b8, c, c1, c2⟩ | ⟨a, b, c, d, e, f⟩
    · omega
    · exact ⟨c.trans gv.symm, a⟩
    · omega
    · omega
    · exact (d ⟨hlen, by omega, g2, g3, g4⟩).elim
  · have hv : 2048 ≤ l1v xs 3 := by omega
    rcases hd with ⟨a, b, c⟩ | ⟨a, b, b1, b2, b3, b4, c⟩ | ⟨a, b, b1, b2, b3, b4, b5, b6, c, c1, c2⟩ | ⟨a, b, b1, b2, b3, b4, b5, b6, b7, b8, c, c1, c2⟩ | ⟨a, b, c, d, e, f⟩
    · omega
    · omega
    · exact ⟨c.trans gv.symm, a⟩
    · omega
    · have e := e ⟨hlen, g1, g2, g3, g4, g5, g6⟩
      rw [← gv] at e
      omega
  · have hv : 65536 ≤ l1v xs 4 ∧ l1v xs 4 ≤ 1114111 := by omega
    rcases hd with ⟨a, b, c⟩ | ⟨a, b, b1, b2, b3, b4, c⟩ | ⟨a, b, b1, b2, b3, b4, b5, b6, c, c1, c2⟩ | ⟨a, b, b1, b2, b3, b4, b5, b6, b7, b8, c, c1, c2⟩ | ⟨a, b, c, d, e, f⟩
    · omega
    · omega
    · omega
    · exact ⟨c.trans gv.symm, a⟩
    · have f := f ⟨hlen, g1, by omega, g3, g4, g5, g6, g7, g8⟩
      rw [← gv] at f
      omega
  · omega
theorem none_dec (xs : List Int) (hb : byteOK xs) (hne : 0 < xs.length) (h : ∀ n : Nat, 1 ≤ n → n ≤ 4 → ¬ (0 ≤ l1v xs n ∧ need (l1v xs n) = n)) : (dec1 xs).2 = 0 := by
  have hd := dec1_spec xs hb hne
  have b0 := hb.get 0
  have h1 := need_cases (dec1 xs).1
  have b1 := hb.get 1
  have b2 := hb.get 2
  have b3 := hb.get 3
  rcases hd with ⟨a, b, c⟩ | ⟨a, b, b1, b2, b3, b4, c⟩ | ⟨a, b, b1, b2, b3, b4, b5, b6, c, c1, c2⟩ | ⟨a, b, b1, b2, b3, b4, b5, b6, b7, b8, c, c1, c2⟩ | ⟨a, _⟩
  · have hs := l1v_spec xs hb 1 (by omega)
    have e : l1v xs 1 = (dec1 xs).1 := by rcases hs with ⟨hlen, hs⟩ | ⟨gv, hs⟩ <;> omega
    exact (h 1 (by omega) (by omega) (by rw [e]; omega)).elim
  · have hs := l1v_spec xs hb 2 (by omega)
    have e : l1v xs 2 = (dec1 xs).1 := by rcases hs with ⟨hlen, hs⟩ | ⟨gv, hs⟩ <;> omega
    exact (h 2 (by omega) (by omega) (by rw [e]; omega)).elim
  · have hs := l1v_spec xs hb 3 (by omega)
    have e : l1v xs 3 = (dec1 xs).1 := by rcases hs with ⟨hlen, hs⟩ | ⟨gv, hs⟩ <;> omega
    exact (h 3 (by omega) (by omega) (by rw [e]; omega)).elim
  · have hs := l1v_spec xs hb 4 (by omega)
    have e : l1v xs 4 = (dec1 xs).1 := by rcases hs with ⟨hlen, hs⟩ | ⟨gv, hs⟩ <;> omega
    exact (h 4 (by omega) (by omega) (by rw [e]; omega)).elim
  · exact a
theorem spec_need (v : Int) (w : World) : GivesV Tryd.prog 22 [.int .i64 v] w (.int .i64 (need v)) := (spec_l1need v w).mono fun e w' ⟨he, hb⟩ => ⟨_, he, rfl, St.ofBelow hb⟩
theorem ok_spec_DecodeText : callOK Tryd.prog 12 = true := by kernel_rfl
theorem spec_DecodeText {bs : List Int} (hb : byteOK bs) {A : Option Addr} {n c : Nat} (hl : n ≤ 4294967296) {W : World} (hx : Rd W (.slice A n c) 1 n (bs.map (.int .u8))) :
    Calls Tryd.prog 12 #[.slice A n c] W fun e w => ∃ x, e = .returned (.tuple #[x, .int .i64 (decP (ptsF bs bs.length 0) []).2.1, .int .i64 (decP (ptsF bs bs.length 0) []).2.2]) ∧ OwnI w W.heap.size x (decP (ptsF bs bs.length 0) []).1 ∧ Below W.heap.size W w := by
  have H := ((St.enter W).ro0 rfl hx).rowNil (e := 3) (sz := 1)
  obtain rfl : n = bs.length := by have := hx.len; simpa using this.symm
  obtain ⟨r, hr⟩ : ∃ r, decP (ptsF bs bs.length 0) [] = r := ⟨_, rfl⟩
  rw [hr]
  refine calls_of_vcV (args := [.slice A bs.length c]) Tryd.func12 rfl (by kernel_rfl) (Nat.le_of_ble_eq_true rfl) ?_
  refine loopV (by kernel_rfl) (fun m e w => e 0 = .slice A bs.length c ∧ ∃ (i : Nat) (v : Value) (acc : List Int) (f : Nat), e 6 = .int .i64 i ∧ e 5 = v ∧ i + m = bs.length ∧ m ≤ f ∧ acc.length ≤ i ∧ decP (ptsF bs f i) acc = r ∧ St W.heap.size W w [.rowI v acc, .roB (.slice A bs.length c) bs]) bs.length
    ⟨rfl, 0, _, [], bs.length, rfl, rfl, by omega, Nat.le_refl _, by simp, hr, H⟩ ?_
  rintro m e w ⟨h0, i, v, acc, f, h6, h5, him, hf, hal, hr, H⟩
  rw [Env.three h0 h6 h5]
  refine ifB (fun h => ?_) (fun h => ?_)
  case refine_2 =>
    have e1 : ptsF bs f i = [] := by cases f with
      | zero => rfl
      | succ f => unfold ptsF; rw [if_neg (by omega)]
    rw [e1] at hr
    simp only [decP] at hr
    subst hr
    exact Exists.intro v (And.intro rfl (And.intro (H.own 0 rfl) H.below))
  have hil : i < bs.length := by omega
  obtain ⟨f, rfl⟩ : ∃ f', f = f' + 1 := ⟨f - 1, by omega⟩
  have hbd := hb.drop i
  have hne : 0 < (bs.drop i).length := by rw [List.length_drop]; omega
  have hd := dec1_ok (bs.drop i) hbd hne
  have hdl : (bs.drop i).length = bs.length - i := List.length_drop
  have hfd := found_dec (bs.drop i) hbd hne
  have hnd := none_dec (bs.drop i) hbd hne
  unfold ptsF at hr
  rw [if_pos hil] at hr
  generalize hdd : dec1 (bs.drop i) = d at *
  refine loopW (by kernel_rfl) (fun m e w => e 0 = .slice A bs.length c ∧ e 6 = .int .i64 i ∧ e 5 = v ∧ e 7 = .int .i64 0 ∧ ∃ n : Nat, e 8 = .int .i64 n ∧ n + m = 5 ∧ 1 ≤ n ∧ (∀ j : Nat, 1 ≤ j → j < n → ¬ (0 ≤ l1v (bs.drop i) j ∧ need (l1v (bs.drop i) j) = j)) ∧ St W.heap.size W w [.rowI v acc, .roB (.slice A bs.length c) bs])
    (fun id e w => id = 2 ∧ e 0 = .slice A bs.length c ∧ e 6 = .int .i64 i ∧ e 7 = .int .i64 d.2 ∧ ∃ v' acc', e 5 = v' ∧ acc' = (if d.2 = 0 then acc else acc ++ [d.1]) ∧ St W.heap.size W w [.rowI v' acc', .roB (.slice A bs.length c) bs]) 4
    ⟨rfl, rfl, rfl, rfl, 1, rfl, by omega, by omega, fun j h1 h2 => by omega, H⟩ ?_ ?_
  · rintro m e w ⟨h0, h6, h5, h7, n, h8, hn, hn1, hno, H⟩
    rw [Env.five h0 h6 h5 h7 h8]
    refine ifB (fun h => ?_) (fun h => ?_)
    case refine_2 =>
      have hz := hnd (fun j h1 h2 => hno j h1 (by omega))
      exact ⟨rfl, rfl, rfl, by rw [hz]; rfl, v, acc, rfl, by rw [if_pos hz], H⟩
    refine JoinV.mk ?_
    refine callV ok_l1value (spec_l1value (i := i) (n := n) hb (by omega) hil (by omega) (H.rd 1 rfl)) H fun w H => ?_
    refine cutG (fun e w => e 0 = .slice A bs.length c ∧ e 6 = .int .i64 i ∧ e 5 = v ∧ e 7 = .int .i64 0 ∧ e 8 = .int .i64 n ∧ e 9 = .int .i64 (l1v (bs.drop i) n) ∧ e 29 = .bool (decide (0 ≤ l1v (bs.drop i) n ∧ need (l1v (bs.drop i) n) = n)) ∧ St W.heap.size W w [.rowI v acc, .roB (.slice A bs.length c) bs]) ?_ ?_
    · repeat' first | (refine gY ?_) | (refine gNt ?_) | (refine gNf ?_) | (refine ifT ?_) | (refine ifF ?_) | (refine arN (by omega) ?_) | (refine ar64 (by omega) (by omega) ?_) | (refine ar32 (by omega) (by omega) ?_) | (refine ar8 (by omega) (by omega) ?_) | (refine div64 (by omega) (by omega) (by omega) ?_) | (refine rem0 (by omega) (by omega) ?_) | (refine drawR H fun w H => ?_) | (refine RegV.mk ?_) | (refine JoinV.mk ?_) | (refine callV ok_l1need (spec_need _ _) H fun w H => ?_) | (refine gT (fun h => ?_) (fun h => ?_) <;> first | (exfalso; omega) | skip) | (refine gF (fun h => ?_) (fun h => ?_) <;> first | (exfalso; omega) | skip) | (refine ifB (fun h => ?_) (fun h => ?_) <;> first | (exfalso; omega) | skip)
      all_goals refine ⟨rfl, rfl, rfl, rfl, rfl, rfl, congrArg Value.bool ?_, H⟩
      all_goals (rw [Bool.eq_iff_iff]; simp only [decide_eq_true_eq, Bool.false_eq_true, true_iff, iff_true, false_iff, iff_false]; omega)
    rintro e w ⟨h0, h6, h5, h7, h8, h9, h29, H⟩
    rw [Env.six h0 h6 h5 h7 h8 h9, Env.one h29]
    refine ifB (fun hq => ?_) (fun hq => ?_)
    · obtain ⟨e1, e2⟩ := hfd n (by omega) hq
      have hn0 := need_cases (l1v (bs.drop i) n)
      refine litI1 H fun v1 w H => ?_
      refine appSI H 1 rfl (H.rd 0 rfl) (by simp; omega) fun v2 w H => ?_
      refine ⟨rfl, rfl, rfl, by rw [e2]; rfl, v2, acc ++ [l1v (bs.drop i) n], rfl, by rw [if_neg (by omega), e1], H.sub [1, 2] (by decide)⟩
    · repeat' first | (refine gY ?_) | (refine gNt ?_) | (refine gNf ?_) | (refine ifT ?_) | (refine ifF ?_) | (refine arN (by omega) ?_) | (refine ar64 (by omega) (by omega) ?_) | (refine ar32 (by omega) (by omega) ?_) | (refine ar8 (by omega) (by omega) ?_) | (refine div64 (by omega) (by omega) (by omega) ?_) | (refine rem0 (by omega) (by omega) ?_) | (refine drawR H fun w H => ?_) | (refine RegV.mk ?_) | (refine JoinV.mk ?_) | (refine gT (fun h => ?_) (fun h => ?_) <;> first | (exfalso; omega) | skip) | (refine gF (fun h => ?_) (fun h => ?_) <;> first | (exfalso; omega) | skip) | (refine ifB (fun h => ?_) (fun h => ?_) <;> first | (exfalso; omega) | skip)
      refine Exists.intro (m - 1) (And.intro (by omega) (And.intro rfl (And.intro rfl (And.intro rfl (And.intro rfl ⟨n + 1, rfl, by omega, by omega, fun j h1 h2 => ?_, H⟩)))))
      by_cases hj : j = n
      · rw [hj]; exact hq
      · exact hno j h1 (by omega)
  · rintro id e w ⟨rfl, h0, h6, h7, v', acc', h5, ha, H⟩
    rw [Env.four h0 h6 h7 h5]
    refine ifB (fun hz => ?_) (fun hz => ?_)
    · rw [if_pos hz] at hr
      simp only [decP] at hr
      rw [if_pos (by decide)] at hr
      subst hr
      exact Exists.intro (.slice none 0 0) (And.intro rfl (And.intro (World.ownsRow_nil _ _ _ _) H.below))
    · rw [if_neg hz] at hr ha
      subst ha
      simp only [decP] at hr
      rw [if_neg (by omega)] at hr
      refine ar64 (by omega) (by omega) ?_
      have e2 : (i : Int) + d.2 = ((i + d.2.toNat : Nat) : Int) := by omega
      refine Exists.intro (m - d.2.toNat) (And.intro (by omega) (And.intro rfl ⟨i + d.2.toNat, v', acc ++ [d.1], f, vI e2, rfl, by omega, by omega, by rw [List.length_append, List.length_singleton]; omega, hr, H⟩))
theorem decP_len : ∀ (its : List (Int × Int)) (acc : List Int), (decP its acc).1.length ≤ acc.length + its.length
  | [], acc => by simp [decP]
  | (i, r) :: its, acc => by
    unfold decP
    by_cases hr : r < 0
    · rw [if_pos hr]; simp
    · rw [if_neg hr]
      have := decP_len its (acc ++ [r])
      simp only [List.length_append, List.length_cons, List.length_nil] at this ⊢; omega
theorem decP_cnt : ∀ (its : List (Int × Int)) (acc : List Int), cntP its acc.length = if (decP its acc).2.1 ≠ 0 then -1 else ((decP its acc).1.length : Int)
  | [], acc => by simp [cntP, decP]
  | (i, r) :: its, acc => by
    unfold cntP decP
    by_cases hr : r < 0
    · rw [if_pos hr, if_pos hr]; simp
    · rw [if_neg hr, if_neg hr]
      have := decP_cnt its (acc ++ [r])
      rw [List.length_append, List.length_singleton] at this
      rw [← this]; rfl

















/-! as the law's text wants them -/
def decW (xs : List Int) : List Int × Int × Int := decP (ptsF xs xs.length 0) []
theorem decW_len (xs : List Int) (hb : byteOK xs) : (decW xs).1.length ≤ xs.length := by
  have h1 := decP_len (ptsF xs xs.length 0) []
  have h2 := ptsF_len xs hb xs.length 0
  unfold decW; simp only [List.length_nil] at h1; omega
end Go.Proofs.YtjdgcgmhbhfpkaaDoorE
