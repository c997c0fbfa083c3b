/- What the program's scanner does with a whole quoted text. -/
import Derived.Test.YtjdgcgmhbhfpkaaDoorTScan2
import Derived.Test.YtjdgcgmhbhfpkaaDoorPrim4
namespace Go.Proofs.YtjdgcgmhbhfpkaaDoorE
open Go Go.RowKit Go.Proofs
set_option linter.unusedVariables false
set_option maxRecDepth 100000

theorem At.len {xs : List Int} (hb : byteOK xs) {i : Nat} {qs : List Int} (h : At xs i qs) : qs.length + i ≤ xs.length := by
  induction h with
  | done => simp
  | @more i qs h h0 k ih =>
    have hd := dec1_ok (xs.drop i) (hb.drop i) (by rw [List.length_drop]; omega)
    simp only [List.length_cons]; omega
theorem escQ_len {qs u r : List Int} (h : escQ qs = some (u, r)) : r.length < qs.length := by
  cases qs with
  | nil => simp [escQ] at h
  | cons c t =>
    unfold escQ at h
    simp only [] at h
    have hx : ∀ n, (readHex n t 0).map (fun x => ([x.1], x.2)) = some (u, r) → r.length < (c :: t).length := fun n h => by
      cases hh : readHex n t 0 with
      | none => rw [hh] at h; cases h
      | some x =>
        have := readHex_len n t 0 x hh
        rw [hh] at h
        simp only [Option.map_some, Option.some.injEq, Prod.mk.injEq] at h
        obtain ⟨_, rfl⟩ := h
        simp only [List.length_cons]; omega
    split at h
    · simp only [Option.some.injEq, Prod.mk.injEq] at h; obtain ⟨_, rfl⟩ := h; simp
    split at h
    · simp only [Option.some.injEq, Prod.mk.injEq] at h; obtain ⟨_, rfl⟩ := h; split <;> simp <;> omega
    split at h
    · exact hx 2 h
    split at h
    · exact hx 4 h
    split at h
    · split at h
      · cases h
      · simp only [Option.some.injEq, Prod.mk.injEq] at h; obtain ⟨_, rfl⟩ := h; simp
    split at h
    · cases h
    split at h <;> (simp only [Option.some.injEq, Prod.mk.injEq] at h; obtain ⟨_, rfl⟩ := h; simp)
theorem strQ_cons (q : Int) (f : Nat) (c : Int) (r acc : List Int) : strQ q (f + 1) (c :: r) acc = if c = q then some (acc, r) else if c = 10 ∨ c = 13 then none else if c = 92 then (match escQ r with | none => none | some x => strQ q f x.2 (acc ++ x.1)) else strQ q f r (acc ++ unitsOne c) := rfl
theorem ok_quoted : callOK Tryd.prog 37 = true := by kernel_rfl
theorem impl_quoted {xs : List Int} (hb : byteOK xs) {A : Option Addr} {n c g i : Nat} {qs : List Int} (hl : n ≤ 4294967296) (ha : At xs i qs) {B : Nat} {W0 w : World} {L : List It} (H : St B W0 w (scO g (.slice A n c) i :: txt (.slice A n c) n xs :: L)) :
    Calls Tryd.prog 37 #[.pointer (some ⟨g, 0, none⟩)] w fun e w' => ∃ (x : Value) (u : List Int) (b : Bool) (i' : Nat) (r : List Int), e = .returned (.tuple #[x, .bool b]) ∧ quotedQ qs = (if b then some (u, r) else none) ∧ At xs i' r ∧ St B W0 w' (.rowI x u :: scO g (.slice A n c) i' :: txt (.slice A n c) n xs :: L) := by
  have hbd := ha.bd hb
  have hln : n = xs.length := by have := (H.rd 1 rfl).len; simpa using this.symm
  have hlen := ha.len hb
  refine calls_of_vcV (args := [.pointer (some ⟨g, 0, none⟩)]) Tryd.func37 rfl (by kernel_rfl) (Nat.le_of_ble_eq_true rfl) ?_
  refine CallS.mk ok_next ((impl_next hb hl ha H).mono ?_)
  rintro _ w ⟨rfl, i2, ha2, H⟩
  obtain ⟨q, hq⟩ : ∃ q, headP qs = q := ⟨_, rfl⟩
  rw [hq]
  refine cutG (fun e w => e 0 = .pointer (some ⟨g, 0, none⟩) ∧ e 4 = .int .i32 q ∧ e 16 = .bool (decide (q ≠ 34 ∧ q ≠ 39)) ∧ St B W0 w (scO g (.slice A n c) i2 :: txt (.slice A n c) n xs :: L)) ?_ ?_
  · repeat' first | (refine gY ?_) | (refine gNt ?_) | (refine gNf ?_) | (refine ifT ?_) | (refine ifF ?_) | (refine arN (by omega) ?_) | (refine ar64 (by omega) (by omega) ?_) | (refine ar32 (by omega) (by omega) ?_) | (refine ar8 (by omega) (by omega) ?_) | (refine div64 (by omega) (by omega) (by omega) ?_) | (refine rem0 (by omega) (by omega) ?_) | (refine drawR H fun w H => ?_) | (refine RegV.mk ?_) | (refine JoinV.mk ?_) | (refine gT (fun h => ?_) (fun h => ?_) <;> first | (exfalso; omega) | skip) | (refine gF (fun h => ?_) (fun h => ?_) <;> first | (exfalso; omega) | skip) | (refine ifB (fun h => ?_) (fun h => ?_) <;> first | (exfalso; omega) | skip)
    all_goals refine ⟨rfl, rfl, congrArg Value.bool ?_, H⟩
    all_goals (rw [Bool.eq_iff_iff]; simp only [decide_eq_true_eq, Bool.false_eq_true, true_iff, iff_true, false_iff, iff_false]; omega)
  rintro e w ⟨h0, h4, h16, H⟩
  rw [Env.three h0 h4 h16]
  refine ifB (fun h => ?_) (fun h => ?_)
  · refine Exists.intro (.slice none 0 0) (Exists.intro [] (Exists.intro false (Exists.intro i2 (Exists.intro _ (And.intro rfl (And.intro ?_ (And.intro ha2 H.rowNil)))))))
    cases qs with
    | nil => rfl
    | cons q' r =>
      have : q' = q := hq
      subst this
      unfold quotedQ
      simp only []
      rw [if_neg (by omega)]; rfl
  obtain ⟨r0, hr0⟩ : ∃ r, qs = q :: r := by
    cases qs with
    | nil => have : (-1 : Int) = q := hq; omega
    | cons q' r => exact ⟨r, by rw [show q' = q from hq]⟩
  rw [hr0] at ha2 hlen hbd
  have ha2 : At xs i2 r0 := ha2
  have hqq : quotedQ qs = strQ q (r0.length + 1) r0 [] := by rw [hr0]; unfold quotedQ; simp only []; rw [if_pos (by omega)]
  rw [hqq]
  have hqr : q = 34 ∨ q = 39 := by omega
  have H := (H.rowNil (e := 3) (sz := 1)).perm (List.perm_middle (l₁ := [_, _])).symm
  refine loopV (by kernel_rfl) (fun m e w => e 0 = .pointer (some ⟨g, 0, none⟩) ∧ e 4 = .int .i32 q ∧ ∃ (v : Value) (acc : List Int) (i' : Nat) (r : List Int) (f : Nat), e 5 = v ∧ r.length = m ∧ r.length < f ∧ strQ q (r0.length + 1) r0 [] = strQ q f r acc ∧ acc.length + 2 * r.length ≤ 8589934592 ∧ At xs i' r ∧ St B W0 w (scO g (.slice A n c) i' :: txt (.slice A n c) n xs :: .rowI v acc :: L)) r0.length
    ⟨rfl, rfl, _, [], i2, r0, r0.length + 1, rfl, rfl, by omega, rfl, by simp only [List.length_cons, List.length_nil] at hlen ⊢; omega, ha2, H⟩ ?_
  rintro m e w ⟨h0, h4, v, acc, i', r, f, h5, hm, hf, hst, hac, ha3, H⟩
  rw [Env.three h0 h4 h5]
  refine CallS.mk ok_next ((impl_next hb hl ha3 H).mono ?_)
  rintro _ w ⟨rfl, i4, ha4, H⟩
  obtain ⟨f', rfl⟩ : ∃ f', f = f' + 1 := ⟨f - 1, by omega⟩
  have hbr := ha3.bd hb
  cases r with
  | nil =>
    refine ifB (fun h => absurd (show (-1 : Int) = q from h) (by omega)) (fun h1 => ?_)
    refine joinV (fun e w => e 29 = .bool true ∧ St B W0 w (scO g (.slice A n c) i4 :: txt (.slice A n c) n xs :: .rowI v acc :: L)) rfl ?_ ?_
    · refine ifB (fun h => ?_) (fun h => absurd rfl h)
      exact ⟨rfl, H⟩
    rintro e w ⟨g29, H⟩
    rw [Env.one g29]
    refine ifT ?_
    exact Exists.intro (.slice none 0 0) (Exists.intro [] (Exists.intro false (Exists.intro i4 (Exists.intro [] (And.intro rfl (And.intro hst (And.intro ha4 H.drop3.rowNil)))))))
  | cons k r =>
    have ha4 : At xs i4 r := ha4
    rw [show headP (k :: r) = k from rfl]
    have hbk := hbr k List.mem_cons_self
    simp only [List.length_cons] at hm hf hac
    rw [strQ_cons q f' k] at hst
    refine ifB (fun h => ?_) (fun h1 => ?_)
    · have h : k = q := h
      rw [if_pos h] at hst
      exact Exists.intro v (Exists.intro acc (Exists.intro true (Exists.intro i4 (Exists.intro r (And.intro rfl (And.intro hst (And.intro ha4 H.rot3)))))))
    have h1 : ¬ k = q := h1
    rw [if_neg h1] at hst
    refine joinV (fun e w => e 0 = .pointer (some ⟨g, 0, none⟩) ∧ e 4 = .int .i32 q ∧ e 5 = v ∧ e 6 = .int .i32 k ∧ e 19 = .int .i32 k ∧ e 29 = .bool (decide (k = 10 ∨ k = 13)) ∧ St B W0 w (scO g (.slice A n c) i4 :: txt (.slice A n c) n xs :: .rowI v acc :: L)) rfl ?_ ?_
    · repeat' first | (refine gY ?_) | (refine gNt ?_) | (refine gNf ?_) | (refine ifT ?_) | (refine ifF ?_) | (refine arN (by omega) ?_) | (refine ar64 (by omega) (by omega) ?_) | (refine ar32 (by omega) (by omega) ?_) | (refine ar8 (by omega) (by omega) ?_) | (refine div64 (by omega) (by omega) (by omega) ?_) | (refine rem0 (by omega) (by omega) ?_) | (refine drawR H fun w H => ?_) | (refine RegV.mk ?_) | (refine JoinV.mk ?_) | (refine gT (fun h => ?_) (fun h => ?_) <;> first | (exfalso; omega) | skip) | (refine gF (fun h => ?_) (fun h => ?_) <;> first | (exfalso; omega) | skip) | (refine ifB (fun h => ?_) (fun h => ?_) <;> first | (exfalso; omega) | skip)
      all_goals refine ⟨rfl, rfl, rfl, rfl, rfl, congrArg Value.bool ?_, H⟩
      all_goals (rw [Bool.eq_iff_iff]; simp only [decide_eq_true_eq, Bool.false_eq_true, true_iff, iff_true, false_iff, iff_false]; omega)
    rintro e w ⟨h0, h4, h5, h6, h19, h29, H⟩
    rw [Env.six h0 h4 h5 h6 h19 h29]
    refine ifB (fun h => ?_) (fun h2 => ?_)
    · rw [if_pos h] at hst
      exact Exists.intro (.slice none 0 0) (Exists.intro [] (Exists.intro false (Exists.intro i4 (Exists.intro r (And.intro rfl (And.intro hst (And.intro ha4 H.drop3.rowNil)))))))
    rw [if_neg h2] at hst
    refine ifB (fun h => ?_) (fun h3 => ?_)
    · rw [if_pos h] at hst
      refine CallS.mk ok_escape ((impl_escape hb hl ha4 H).mono ?_)
      rintro _ w ⟨x, u, b, i5, r5, rfl, he, hu, ha5, H⟩
      rw [he] at hst
      cases b with
      | false =>
        refine ifNot (ifF ?_)
        exact Exists.intro (.slice none 0 0) (Exists.intro [] (Exists.intro false (Exists.intro i5 (Exists.intro r5 (And.intro rfl (And.intro hst (And.intro ha5 H.tl.drop3.rowNil)))))))
      | true =>
        have hl5 := escQ_len he
        refine ifNot (ifT ?_)
        refine appSI H 3 rfl (H.rd 0 rfl) (by omega) fun v2 w H => ?_
        exact Exists.intro r5.length (And.intro (by omega) (And.intro rfl ⟨rfl, v2, acc ++ u, i5, r5, f', rfl, rfl, by omega, hst, by rw [List.length_append]; omega, ha5, H.tl⟩))
    · rw [if_neg h3] at hst
      refine ar64 (by omega) (by omega) ?_
      refine callRow ok_unitsOf (impl_unitsOf k hbk.1 hbk.2 w) H fun A1 c1 w H => ?_
      have hul := unitsOne_len k
      refine appSI H 3 rfl (H.rd 0 rfl) (by omega) fun v2 w H => ?_
      exact Exists.intro r.length (And.intro (by omega) (And.intro rfl ⟨rfl, v2, acc ++ unitsOne k, i4, r, f', rfl, rfl, by omega, hst, by rw [List.length_append]; omega, ha4, H.tl⟩))
end Go.Proofs.YtjdgcgmhbhfpkaaDoorE
