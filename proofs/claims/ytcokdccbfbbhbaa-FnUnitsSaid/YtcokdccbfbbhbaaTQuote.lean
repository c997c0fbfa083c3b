/- What the reference's and the program's functions do that quote units. -/
import Derived.Test.YtcokdccbfbbhbaaTUnits
import Derived.Test.YtcokdccbfbbhbaaTDecT
import Derived.Test.YtcokdccbfbbhbaaPrim3
import Derived.Test.YtcokdccbfbbhbaaEngG
namespace Go.Proofs.YtcokdccbfbbhbaaE
open Go Go.RowKit Go.Proofs
set_option linter.unusedVariables false

theorem byteOK2 {a b : Int} (h1 : 0 ≤ a) (h2 : a < 256) (h3 : 0 ≤ b) (h4 : b < 256) : byteOK [a, b] := fun x hx => by simp at hx; omega
theorem shr10 (x : Int) : x / 1024 = 54 ↔ 55296 ≤ x ∧ x ≤ 56319 := by omega
theorem good_call {xs : List Int} {A : Option Addr} {n c : Nat} (hl : n ≤ 4294967296) {w : World} (hx : Rd w (.slice A n c) 1 n (xs.map (.int .i64))) : GivesV Try.prog 49 [.slice A n c] w (.bool (goodU xs)) := by
  obtain rfl : n = xs.length := by have := hx.len; simpa using this.symm
  exact (impl_goodUnits xs A c w hx hl).mono fun e w' ⟨he, hb⟩ => ⟨_, he, rfl, St.ofBelow hb⟩
theorem ok_impl_FromUnits : callOK Try.prog 23 = true := by kernel_rfl
theorem impl_FromUnits {xs : List Int} {A : Option Addr} {n c : Nat} (hl : n ≤ 4294967296) {W : World} (hx : Rd W (.slice A n c) 1 n (xs.map (.int .i64))) :
    Calls Try.prog 23 #[.slice A n c] W fun e w => ∃ x, e = .returned (.tuple #[x, .int .i64 (fromR xs).2]) ∧ OwnI w W.heap.size x (fromR xs).1 ∧ Below W.heap.size W w := by
  have H := ((St.enter W).ro0 rfl hx).rowNil (e := 3) (sz := 1)
  obtain rfl : n = xs.length := by have := hx.len; simpa using this.symm
  obtain ⟨r, hr⟩ : ∃ r, fromR xs = r := ⟨_, rfl⟩
  rw [hr]
  unfold fromR at hr
  refine calls_of_vcV (args := [.slice A xs.length c]) Try.func23 rfl (by kernel_rfl) (Nat.le_of_ble_eq_true rfl) ?_
  refine callV ok_goodUnits (good_call (by omega) (H.rd 1 rfl)) H fun w H => ?_
  refine ifNot (ifO (fun hg => ?_) (fun hg => ?_))
  case refine_2 =>
    rw [hg] at hr
    subst hr
    exact Exists.intro (.slice none 0 0) (And.intro rfl (And.intro (World.ownsRow_nil _ _ _ _) H.below))
  rw [if_pos hg] at hr
  refine loopV (by kernel_rfl) (fun m e w => e 0 = .slice A xs.length c ∧ ∃ (j : Nat) (v : Value) (acc : List Int), e 5 = .int .i64 j ∧ e 4 = v ∧ j + m = xs.length ∧ acc.length ≤ j ∧ r.1 = acc ++ fromAll (xs.drop j) ∧ St W.heap.size W w [.rowI v acc, .roI (.slice A xs.length c) xs]) xs.length
    ⟨rfl, 0, _, [], rfl, rfl, by omega, by simp, by rw [← hr]; simp, H⟩ ?_
  rintro m e w ⟨h0, j, v, acc, h5, h4, hj, hal, hra, H⟩
  rw [Env.three h0 h5 h4]
  refine ifB (fun h => ?_) (fun h => ?_)
  case refine_2 =>
    rw [List.drop_of_length_le (by omega)] at hra
    have e1 : r = (acc, 0) := by
      subst hr
      simp only [fromAll, List.append_nil] at hra
      rw [hra]
    subst e1
    exact Exists.intro v (And.intro rfl (And.intro (H.own 0 rfl) H.below))
  have hjl : j < xs.length := by omega
  have hu := goodU_at xs hg j hjl
  refine joinV (fun e w => e 0 = .slice A xs.length c ∧ ∃ (j' : Nat) (v' : Value) (acc' : List Int), e 5 = .int .i64 j' ∧ e 4 = v' ∧ j ≤ j' ∧ j' < xs.length ∧ acc'.length ≤ j + 1 ∧ r.1 = acc' ++ fromAll (xs.drop (j' + 1)) ∧ St W.heap.size W w [.rowI v' acc', .roI (.slice A xs.length c) xs]) rfl ?_ ?_
  case refine_2 =>
    rintro e w ⟨h0, j', v', acc', h5, h4, hj1, hj2, hal, hra, H⟩
    rw [Env.three h0 h5 h4]
    refine arN (by omega) ?_
    exact Exists.intro (xs.length - (j' + 1)) (And.intro (by omega) (And.intro rfl ⟨j' + 1, v', acc', rfl, rfl, by omega, by omega, hra, H⟩))
  refine idxN (H.rd 1 rfl) (by omega) fun b off hc => ?_
  refine loadS hc ?_
  refine joinV (fun e w => e 0 = .slice A xs.length c ∧ e 4 = v ∧ ∃ (j' : Nat) (p : Int), e 5 = .int .i64 j' ∧ e 6 = .int .i64 p ∧ j ≤ j' ∧ j' < xs.length ∧ fromAll (xs.drop j) = p :: fromAll (xs.drop (j' + 1)) ∧ St W.heap.size W w [.rowI v acc, .roI (.slice A xs.length c) xs]) rfl ?_ ?_
  · refine cutG (fun e w => e 0 = .slice A xs.length c ∧ e 4 = v ∧ e 5 = .int .i64 j ∧ e 6 = .int .i64 (xs.getD j 0) ∧ e 38 = .bool (decide (j + 1 < xs.length ∧ isPair (xs.getD j 0) (xs.getD (j + 1) 0))) ∧ St W.heap.size W w [.rowI v acc, .roI (.slice A xs.length c) xs]) ?_ ?_
    · have hu1 : j + 1 < xs.length → 0 ≤ xs.getD (j + 1) 0 ∧ xs.getD (j + 1) 0 ≤ 65535 := fun h => goodU_at xs hg (j + 1) h
      repeat' first | (refine gY ?_) | (refine gNt ?_) | (refine gNf ?_) | (refine ifT ?_) | (refine ifF ?_) | (refine arN (by omega) ?_) | (refine ar64 (by omega) (by omega) ?_) | (refine ar32 (by omega) (by omega) ?_) | (refine ar8 (by omega) (by omega) ?_) | (refine div64 (by omega) (by omega) (by omega) ?_) | (refine rem0 (by omega) (by omega) ?_) | (refine drawR H fun w H => ?_) | (refine RegV.mk ?_) | (refine JoinV.mk ?_) | (refine shrR (d := 1024) rfl (by decide) ?_) | (refine idxN (i := 0) (H.rd 1 rfl) (by omega) fun b off hc => ?_) | (refine idxN (i := 1) (H.rd 1 rfl) (by omega) fun b off hc => ?_) | (refine idxN (i := 2) (H.rd 1 rfl) (by omega) fun b off hc => ?_) | (refine idxN (i := 3) (H.rd 1 rfl) (by omega) fun b off hc => ?_) | (refine idxN (H.rd 1 rfl) (by omega) fun b off hc => ?_) | (refine idxI (H.rd 1 rfl) (by omega) (by omega) fun b off hc => ?_) | (refine loadS hc ?_) | (refine gT (fun h => ?_) (fun h => ?_) <;> first | (exfalso; omega) | skip) | (refine gF (fun h => ?_) (fun h => ?_) <;> first | (exfalso; omega) | skip) | (refine ifB (fun h => ?_) (fun h => ?_) <;> first | (exfalso; omega) | skip)
      all_goals refine ⟨rfl, rfl, rfl, rfl, congrArg Value.bool ?_, H⟩
      all_goals (unfold isPair; (rw [Bool.eq_iff_iff]; simp only [decide_eq_true_eq, Bool.false_eq_true, true_iff, iff_true, false_iff, iff_false]; omega))
    rintro e w ⟨h0, h4, h5, h6, h38, H⟩
    rw [Env.five h0 h4 h5 h6 h38]
    refine ifB (fun hp => ?_) (fun hp => ?_)
    · have hu1 := goodU_at xs hg (j + 1) hp.1
      have hpp := hp.2
      unfold isPair at hpp
      refine arN (by omega) ?_
      refine and1023S (by omega) (by omega) ?_
      refine shlR (d := 1024) rfl (by decide) (ar64 (by omega) (by omega) ?_)
      refine ar64 (by omega) (by omega) ?_
      refine idxN (H.rd 1 rfl) (by omega) fun b off hc => ?_
      refine loadS hc ?_
      refine and1023S (by omega) (by omega) ?_
      refine ar64 (by omega) (by omega) ?_
      refine ⟨rfl, rfl, j + 1, _, rfl, rfl, by omega, hp.1, ?_, H⟩
      rw [fromAll_pair xs j hp.1 hp.2]
      congr 1
      omega
    · exact ⟨rfl, rfl, j, _, rfl, rfl, by omega, hjl, fromAll_one xs j hjl hp, H⟩
  rintro e w ⟨h0, h4, j', p, h5, h6, hj1, hj2, hfa, H⟩
  rw [Env.four h0 h4 h5 h6]
  refine litI1 H fun v1 w H => ?_
  refine appSI H 1 rfl (H.rd 0 rfl) (by simp; omega) fun v2 w H => ?_
  exact ⟨rfl, j', v2, acc ++ [p], rfl, rfl, hj1, hj2, by rw [List.length_append, List.length_singleton]; omega, by rw [hra, hfa]; simp, H.sub [1, 2] (by decide)⟩
def hexd (n : Int) : Int := if n < 10 then 48 + n else 87 + n
def hexL : List Int := [48, 49, 50, 51, 52, 53, 54, 55, 56, 57, 97, 98, 99, 100, 101, 102]
theorem hexL_ok : byteOK hexL := fun x hx => by simp [hexL] at hx; omega
theorem hexL_get (n : Int) (h0 : 0 ≤ n) (h1 : n < 16) : hexL.getD n.toNat 0 = hexd n := by
  have key : ∀ k : Fin 16, hexL.getD k.val 0 = hexd k.val := by decide
  obtain ⟨m, rfl⟩ := Int.eq_ofNat_of_zero_le h0
  exact key ⟨m, by omega⟩
theorem hexS {s : ByteArray} {n : Int} {K : Int → Prop} (hs : s = strOfNums hexL) (h0 : 0 ≤ n) (h1 : n < 16) (k : K (hexd n)) : StrS s n K := by
  subst hs
  refine strS hexL_ok h0 (by simp [hexL]; omega) ?_
  rw [hexL_get n h0 h1]; exact k
def escU (p : Int) : List Int := [92, 117, hexd (p / 4096 % 16), hexd (p / 256 % 16), hexd (p / 16 % 16), hexd (p % 16)]
def esc (p : Int) : List Int :=
  if p = 34 ∨ p = 92 then [92, p] else if p = 8 then [92, 98] else if p = 12 then [92, 102] else if p = 10 then [92, 110] else if p = 13 then [92, 114] else if p = 9 then [92, 116] else
  if p < 32 ∨ p = 127 ∨ p = 8232 ∨ p = 8233 ∨ (55296 ≤ p ∧ p ≤ 57343) then escU p else encB p
def quoteR (us : List Int) : List Int × Int := if goodU us then (34 :: (fromAll us).flatMap esc ++ [34], 0) else ([], 1)
theorem esc_len (p : Int) : (esc p).length ≤ 6 := by
  have := encB_len p
  unfold esc
  (repeat' split) <;> first | (simp [escU]; done) | omega
theorem fromAll_bd : ∀ (n : Nat) (l : List Int), l.length ≤ n → goodU l = true → ∀ p ∈ fromAll l, 0 ≤ p ∧ p ≤ 1114111 := by
  intro n
  induction n with
  | zero => intro l h; cases l with
    | nil => simp [fromAll]
    | cons => simp at h
  | succ n ih =>
    intro l h hg
    match l, h, hg with
    | [], _, _ => simp [fromAll]
    | [u], _, hg => simp [fromAll, goodU] at hg ⊢; omega
    | u :: v :: r, h, hg =>
      have hg' := hg
      simp only [goodU, List.all_cons, Bool.and_eq_true, decide_eq_true_eq] at hg'
      obtain ⟨hu, hv, hr⟩ := hg'
      simp only [fromAll]
      split
      · rename_i hp
        unfold isPair at hp
        intro p hp'
        rcases List.mem_cons.1 hp' with rfl | hp'
        · omega
        · exact ih r (by simp at h; omega) hr p hp'
      · intro p hp'
        rcases List.mem_cons.1 hp' with rfl | hp'
        · omega
        · exact ih (v :: r) (by simp at h ⊢; omega) (by simp only [goodU, List.all_cons, Bool.and_eq_true, decide_eq_true_eq]; exact ⟨hv, hr⟩) p hp'
theorem ok_impl_QuoteUnits : callOK Try.prog 37 = true := by kernel_rfl
theorem impl_QuoteUnits {us : List Int} {A : Option Addr} {n c : Nat} (hl : n ≤ 4294967296) {W : World} (hx : Rd W (.slice A n c) 1 n (us.map (.int .i64))) :
    Calls Try.prog 37 #[.slice A n c] W fun e w => ∃ x, e = .returned (.tuple #[x, .int .i64 (quoteR us).2]) ∧ OwnB w W.heap.size x (quoteR us).1 ∧ Below W.heap.size W w := by
  have H := (St.enter W).ro0 rfl hx
  obtain rfl : n = us.length := by have := hx.len; simpa using this.symm
  have hq := impl_FromUnits (xs := us) (A := A) (c := c) hl hx
  have hbd := fromAll_bd us.length us (Nat.le_refl _)
  have hfl := fromR_len us
  obtain ⟨r, hr⟩ : ∃ r, quoteR us = r := ⟨_, rfl⟩
  rw [hr]
  unfold quoteR at hr
  unfold fromR at hq hfl
  refine calls_of_vcV (args := [.slice A us.length c]) Try.func37 rfl (by kernel_rfl) (Nat.le_of_ble_eq_true rfl) ?_
  refine callRow2 ok_impl_FromUnits hq H fun A1 c1 w H => ?_
  cases hg : goodU us with
  | false =>
    rw [hg] at hr H
    subst hr
    refine ifB (fun h => ?_) (fun h => absurd (show (1 : Int) ≠ 0 by decide) h)
    exact Exists.intro (.slice none 0 0) (And.intro rfl (And.intro (World.ownsRow_nil _ _ _ _) H.below))
  | true =>
    rw [if_pos hg] at hr H hfl
    have hbd := hbd hg
    generalize fromAll us = ps at *
    simp only at H hfl
    refine ifB (fun h => absurd (show (0 : Int) = 0 by decide) h) (fun h => ?_)
    refine litB1 H fun v0 w H => ?_
    refine loopV (by kernel_rfl) (fun m e w => e 20 = .slice A1 ps.length c1 ∧ e 21 = .int .i64 ps.length ∧ ∃ (j : Nat) (v : Value) (acc : List Int), e 22 = .int .i64 j ∧ e 6 = v ∧ j + m = ps.length ∧ acc.length ≤ 1 + 6 * j ∧ 34 :: ps.flatMap esc = acc ++ (ps.drop j).flatMap esc ∧ St W.heap.size W w [.rowB v acc, .rowI (.slice A1 ps.length c1) ps]) ps.length
      ⟨rfl, rfl, 0, _, [34], rfl, rfl, by omega, by simp, by simp, H.sub [0, 1] (by decide)⟩ ?_
    rintro m e w ⟨h20, h21, j, v, acc, h22, h6, hj, hal, hra, H⟩
    rw [Env.four h20 h21 h22 h6]
    refine ifB (fun h => ?_) (fun h => ?_)
    case refine_2 =>
      rw [List.drop_of_length_le (by omega), List.flatMap_nil, List.append_nil] at hra
      refine litB1 H fun v1 w H => ?_
      refine appSB H 1 rfl (H.rd 0 rfl) (by simp; omega) fun v2 w H => ?_
      subst hr
      refine Exists.intro v2 (And.intro rfl (And.intro ?_ H.below))
      have := H.own 1 rfl
      rw [show (34 :: List.flatMap esc ps ++ [34] : List Int) = acc ++ [34] by rw [← hra]]
      exact this
    have hjl : j < ps.length := by omega
    have hpb : 0 ≤ ps.getD j 0 ∧ ps.getD j 0 ≤ 1114111 := hbd _ (by rw [List.getD_eq_getElem?_getD, List.getElem?_eq_getElem hjl]; exact List.getElem_mem hjl)
    have hds : (ps.drop j).flatMap esc = esc (ps.getD j 0) ++ (ps.drop (j + 1)).flatMap esc := by rw [drop_cons ps j hjl, List.flatMap_cons]
    have hel := esc_len (ps.getD j 0)
    refine joinV (fun e w => e 20 = .slice A1 ps.length c1 ∧ e 21 = .int .i64 ps.length ∧ e 22 = .int .i64 j ∧ ∃ (v' : Value), e 6 = v' ∧ St W.heap.size W w [.rowB v' (acc ++ esc (ps.getD j 0)), .rowI (.slice A1 ps.length c1) ps]) rfl ?_ ?_
    case refine_2 =>
      rintro e w ⟨h20, h21, h22, v', h6, H⟩
      rw [Env.four h20 h21 h22 h6]
      refine arN (by omega) ?_
      exact Exists.intro (ps.length - (j + 1)) (And.intro (by omega) (And.intro rfl ⟨rfl, j + 1, v', acc ++ esc (ps.getD j 0), rfl, rfl, by omega, by rw [List.length_append]; omega, by rw [hra, hds]; simp, H⟩))
    refine idxN (H.rd 1 rfl) (by omega) fun b off hc => ?_
    refine loadS hc ?_
    generalize ps.getD j 0 = p at *
    refine joinV (fun e w => e 20 = .slice A1 ps.length c1 ∧ e 21 = .int .i64 ps.length ∧ e 22 = .int .i64 j ∧ e 6 = v ∧ e 8 = .int .i64 p ∧ e 35 = .bool (decide (p = 34 ∨ p = 92)) ∧ St W.heap.size W w [.rowB v acc, .rowI (.slice A1 ps.length c1) ps]) rfl ?_ ?_
    · repeat' first | (refine gY ?_) | (refine gNt ?_) | (refine gNf ?_) | (refine ifT ?_) | (refine ifF ?_) | (refine arN (by omega) ?_) | (refine ar64 (by omega) (by omega) ?_) | (refine ar32 (by omega) (by omega) ?_) | (refine ar8 (by omega) (by omega) ?_) | (refine div64 (by omega) (by omega) (by omega) ?_) | (refine rem0 (by omega) (by omega) ?_) | (refine drawR H fun w H => ?_) | (refine RegV.mk ?_) | (refine JoinV.mk ?_) | (refine gT (fun h => ?_) (fun h => ?_) <;> first | (exfalso; omega) | skip) | (refine gF (fun h => ?_) (fun h => ?_) <;> first | (exfalso; omega) | skip) | (refine ifB (fun h => ?_) (fun h => ?_) <;> first | (exfalso; omega) | skip)
      all_goals refine ⟨rfl, rfl, rfl, rfl, rfl, congrArg Value.bool ?_, H⟩
      all_goals (rw [Bool.eq_iff_iff]; simp only [decide_eq_true_eq, Bool.false_eq_true, true_iff, iff_true, false_iff, iff_false]; omega)
    rintro e w ⟨h20, h21, h22, h6, h8, h35, H⟩
    rw [Env.six h20 h21 h22 h6 h8 h35]
    refine ifB (fun hp => ?_) (fun hp => ?_)
    · refine ar8 (by omega) (by omega) ?_
      refine litB2 H fun v1 w H => ?_
      refine appSB H 1 rfl (H.rd 0 rfl) (by simp; omega) fun v2 w H => ?_
      refine ⟨rfl, rfl, rfl, v2, rfl, ?_⟩
      rw [show esc p = [92, p] by unfold esc; rw [if_pos hp]]
      exact H.sub [1, 2] (by decide)
    refine ifB (fun hq8 => ?_) (fun hq8 => ?_)
    · refine appSS (ys := [92, 98]) H 0 rfl rfl (byteOK2 (by omega) (by omega) (by omega) (by omega)) (by simp; omega) fun v2 w H => ?_
      refine ⟨rfl, rfl, rfl, v2, rfl, ?_⟩
      rw [show esc p = [92, 98] by unfold esc; (repeat' split) <;> first | rfl | (exfalso; omega)]
      exact H
    refine ifB (fun hq12 => ?_) (fun hq12 => ?_)
    · refine appSS (ys := [92, 102]) H 0 rfl rfl (byteOK2 (by omega) (by omega) (by omega) (by omega)) (by simp; omega) fun v2 w H => ?_
      refine ⟨rfl, rfl, rfl, v2, rfl, ?_⟩
      rw [show esc p = [92, 102] by unfold esc; (repeat' split) <;> first | rfl | (exfalso; omega)]
      exact H
    refine ifB (fun hq10 => ?_) (fun hq10 => ?_)
    · refine appSS (ys := [92, 110]) H 0 rfl rfl (byteOK2 (by omega) (by omega) (by omega) (by omega)) (by simp; omega) fun v2 w H => ?_
      refine ⟨rfl, rfl, rfl, v2, rfl, ?_⟩
      rw [show esc p = [92, 110] by unfold esc; (repeat' split) <;> first | rfl | (exfalso; omega)]
      exact H
    refine ifB (fun hq13 => ?_) (fun hq13 => ?_)
    · refine appSS (ys := [92, 114]) H 0 rfl rfl (byteOK2 (by omega) (by omega) (by omega) (by omega)) (by simp; omega) fun v2 w H => ?_
      refine ⟨rfl, rfl, rfl, v2, rfl, ?_⟩
      rw [show esc p = [92, 114] by unfold esc; (repeat' split) <;> first | rfl | (exfalso; omega)]
      exact H
    refine ifB (fun hq9 => ?_) (fun hq9 => ?_)
    · refine appSS (ys := [92, 116]) H 0 rfl rfl (byteOK2 (by omega) (by omega) (by omega) (by omega)) (by simp; omega) fun v2 w H => ?_
      refine ⟨rfl, rfl, rfl, v2, rfl, ?_⟩
      rw [show esc p = [92, 116] by unfold esc; (repeat' split) <;> first | rfl | (exfalso; omega)]
      exact H
    refine joinV (fun e w => e 20 = .slice A1 ps.length c1 ∧ e 21 = .int .i64 ps.length ∧ e 22 = .int .i64 j ∧ e 6 = v ∧ e 8 = .int .i64 p ∧ e 70 = .bool (decide (p < 32 ∨ p = 127 ∨ p = 8232 ∨ p = 8233 ∨ (55296 ≤ p ∧ p ≤ 57343))) ∧ St W.heap.size W w [.rowB v acc, .rowI (.slice A1 ps.length c1) ps]) rfl ?_ ?_
    · repeat' first | (refine gY ?_) | (refine gNt ?_) | (refine gNf ?_) | (refine ifT ?_) | (refine ifF ?_) | (refine arN (by omega) ?_) | (refine ar64 (by omega) (by omega) ?_) | (refine ar32 (by omega) (by omega) ?_) | (refine ar8 (by omega) (by omega) ?_) | (refine div64 (by omega) (by omega) (by omega) ?_) | (refine rem0 (by omega) (by omega) ?_) | (refine drawR H fun w H => ?_) | (refine RegV.mk ?_) | (refine JoinV.mk ?_) | (refine shrR (d := 2048) rfl (by decide) ?_) | (refine gT (fun h => ?_) (fun h => ?_) <;> first | (exfalso; omega) | skip) | (refine gF (fun h => ?_) (fun h => ?_) <;> first | (exfalso; omega) | skip) | (refine ifB (fun h => ?_) (fun h => ?_) <;> first | (exfalso; omega) | skip)
      all_goals refine ⟨rfl, rfl, rfl, rfl, rfl, congrArg Value.bool ?_, H⟩
      all_goals (rw [Bool.eq_iff_iff]; simp only [decide_eq_true_eq, Bool.false_eq_true, true_iff, iff_true, false_iff, iff_false]; omega)
    rintro e w ⟨h20, h21, h22, h6, h8, h70, H⟩
    rw [Env.six h20 h21 h22 h6 h8 h70]
    refine ifB (fun hs => ?_) (fun hs => ?_)
    · refine regG [16, 17] [] [] [0, 1, 2, 3, 4, 5, 6, 7, 8, 9, 10, 11, 12, 13, 14, 15, 16, 17, 18] (by kernel_rfl) ?_
      refine drawR H fun w H => ?_
      refine shrR (d := 4096) rfl (by decide) ?_
      refine and15I (by omega) (by omega) ?_
      refine hexS rfl (by omega) (by omega) ?_
      refine shrR (d := 256) rfl (by decide) ?_
      refine and15I (by omega) (by omega) ?_
      refine hexS rfl (by omega) (by omega) ?_
      refine shrR (d := 16) rfl (by decide) ?_
      refine and15I (by omega) (by omega) ?_
      refine hexS rfl (by omega) (by omega) ?_
      refine and15I (by omega) (by omega) ?_
      refine hexS rfl (by omega) (by omega) ?_
      refine litB6 H fun v1 w H => ?_
      refine appSB H 1 rfl (H.rd 0 rfl) (by simp; omega) fun v2 w H => ?_
      refine ⟨rfl, rfl, rfl, v2, rfl, ?_⟩
      rw [show esc p = escU p by unfold esc; (repeat' split) <;> first | rfl | (exfalso; omega)]
      exact H.sub [1, 2] (by decide)
    · refine litI1 H fun v1 w H => ?_
      obtain ⟨A4, c4, rfl⟩ := own_val (H.own 0 rfl)
      have henc : encR [p] = (encB p, 0) := by
        have hn : need p ≠ 0 := by rcases need_cases p with ⟨_, q⟩ | ⟨_, q⟩ <;> omega
        simp [encR, encAll, encAns, hn]
      have hcall := impl_EncodeText [p] A4 c4 w (H.rd 0 rfl) (by simp)
      rw [henc] at hcall
      refine callRow2 ok_impl_EncodeText hcall H fun A5 c5 w H => ?_
      have hl4 := encB_len p
      refine appSB H 2 rfl (H.rd 0 rfl) (by simp only at hl4 ⊢; omega) fun v2 w H => ?_
      refine ⟨rfl, rfl, rfl, v2, rfl, ?_⟩
      rw [show esc p = encB p by unfold esc; (repeat' split) <;> first | rfl | (exfalso; omega)]
      exact H.sub [2, 3] (by decide)
end Go.Proofs.YtcokdccbfbbhbaaE
