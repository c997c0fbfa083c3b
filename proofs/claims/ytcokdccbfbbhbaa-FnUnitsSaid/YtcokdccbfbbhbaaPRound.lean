/- The text conversions undo one another, with no program in sight. -/
import Derived.Test.YtcokdccbfbbhbaaPScan
namespace Go.Proofs.YtcokdccbfbbhbaaE
open Go Go.RowKit Go.Proofs
set_option linter.unusedVariables false
set_option maxHeartbeats 1000000

theorem goodU_cons {u : Int} {l : List Int} : goodU (u :: l) = true ↔ (0 ≤ u ∧ u ≤ 65535) ∧ goodU l = true := by simp [goodU]
theorem units_from : ∀ (n : Nat) (l : List Int), l.length ≤ n → goodU l = true → unitsAll (fromAll l) = some l := by
  intro n
  induction n with
  | zero => intro l h _; have : l = [] := List.length_eq_zero_iff.1 (by omega); subst this; rfl
  | succ n ih =>
    intro l h hg
    match l, h, hg with
    | [], _, _ => rfl
    | [u], _, hg =>
      have := (goodU_cons.1 hg).1
      simp only [fromAll, unitsAll]; rw [if_neg (by omega)]; unfold unitsOne; rw [if_pos (by omega)]; rfl
    | u :: v :: r, h, hg =>
      obtain ⟨hu, hg1⟩ := goodU_cons.1 hg
      obtain ⟨hv, hg2⟩ := goodU_cons.1 hg1
      simp only [List.length_cons] at h
      rw [fromAll]
      split
      · rename_i hp
        obtain ⟨⟨p1, p2⟩, p3, p4⟩ := hp
        rw [unitsAll, if_neg (by omega), ih r (by omega) hg2]
        unfold unitsOne
        rw [if_neg (by omega)]
        simp only [Option.map_some, List.cons_append, List.nil_append, Option.some.injEq, List.cons.injEq, and_true]
        constructor <;> omega
      · rw [unitsAll, if_neg (by omega), ih (v :: r) (by simp only [List.length_cons]; omega) hg1]
        unfold unitsOne; rw [if_pos (by omega)]; rfl
theorem need_ok {p : Int} (h : need p ≠ 0) : 0 ≤ p ∧ p ≤ 1114111 ∧ ¬ (55296 ≤ p ∧ p ≤ 57343) := by
  rcases need_cases p with q | q
  · exact absurd q.1 h
  · omega
theorem fromAll_skip {p : Int} (h : ¬ (55296 ≤ p ∧ p ≤ 56319)) (l : List Int) : fromAll (p :: l) = p :: fromAll l := by
  cases l with
  | nil => rfl
  | cons v r => rw [fromAll, if_neg (fun q => h q.1)]
theorem from_units : ∀ q : List Int, (∀ p ∈ q, need p ≠ 0) → ∃ v, unitsAll q = some v ∧ goodU v = true ∧ fromAll v = q
  | [], _ => ⟨[], rfl, rfl, rfl⟩
  | p :: q, h => by
    obtain ⟨v, h1, h2, h3⟩ := from_units q fun x hx => h x (List.mem_cons_of_mem _ hx)
    obtain ⟨p0, p1, p2⟩ := need_ok (h p List.mem_cons_self)
    by_cases hp : p < 65536
    · refine ⟨p :: v, ?_, goodU_cons.2 ⟨by omega, h2⟩, ?_⟩
      · rw [unitsAll, if_neg (by omega), h1]; unfold unitsOne; rw [if_pos hp]; rfl
      · rw [fromAll_skip (by omega), h3]
    · refine ⟨(55296 + (p - 65536) / 1024) :: (56320 + (p - 65536) % 1024) :: v, ?_, goodU_cons.2 ⟨by omega, goodU_cons.2 ⟨by omega, h2⟩⟩, ?_⟩
      · rw [unitsAll, if_neg (by omega), h1]; unfold unitsOne; rw [if_neg hp]; rfl
      · rw [fromAll, if_pos ⟨by omega, by omega, by omega⟩, h3]
        congr 1; omega
theorem encB_need {p : Int} (h : need p ≠ 0) : ((encB p).length : Int) = need p ∧ byteOK (encB p) := by
  obtain ⟨p0, p1, p2⟩ := need_ok h
  rcases need_cases p with q | q
  · omega
  · unfold encB
    rcases q.2 with ⟨e, q⟩ | ⟨e, q⟩ | ⟨e, q⟩ | ⟨e, q⟩
    · rw [if_pos (by omega), e]; exact ⟨rfl, fun x hx => by simp at hx; omega⟩
    · rw [if_neg (by omega), if_pos (by omega), e]; exact ⟨rfl, fun x hx => by simp [tailB] at hx; omega⟩
    · rw [if_neg (by omega), if_neg (by omega), if_pos (by omega), e]; exact ⟨rfl, fun x hx => by simp [tailB] at hx; omega⟩
    · rw [if_neg (by omega), if_neg (by omega), if_neg (by omega), e]; exact ⟨rfl, fun x hx => by simp [tailB] at hx; omega⟩
theorem dec_encB {p : Int} (h : need p ≠ 0) (r : List Int) (hr : byteOK r) : (dec1 (encB p ++ r)).1 = p ∧ (dec1 (encB p ++ r)).2 = need p := by
  obtain ⟨p0, p1, p2⟩ := need_ok h
  obtain ⟨hl, hbe⟩ := encB_need h
  have hb : byteOK (encB p ++ r) := hbe.app hr
  have hn : ∃ n : Nat, need p = n ∧ 1 ≤ n ∧ n ≤ 4 := by
    rcases need_cases p with q | q
    · omega
    · rcases q.2 with ⟨e, q⟩ | ⟨e, q⟩ | ⟨e, q⟩ | ⟨e, q⟩
      · exact ⟨1, e, by omega, by omega⟩
      · exact ⟨2, e, by omega, by omega⟩
      · exact ⟨3, e, by omega, by omega⟩
      · exact ⟨4, e, by omega, by omega⟩
  obtain ⟨n, en, n1, n4⟩ := hn
  have hv : l1v (encB p ++ r) n = p := by
    have hs := l1v_spec (encB p ++ r) hb n ⟨n1, n4⟩
    have hlen : n ≤ (encB p ++ r).length := by rw [List.length_append]; omega
    rcases need_cases p with q | q
    · omega
    · rcases q.2 with ⟨e, q⟩ | ⟨e, q⟩ | ⟨e, q⟩ | ⟨e, q⟩
      · have g0 : (encB p ++ r).getD 0 0 = p := by unfold encB; rw [if_pos q]; rfl
        rw [g0] at hs; omega
      · have e1 : encB p = [192 + p / 64, 128 + p % 64] := by unfold encB; rw [if_neg (by omega), if_pos (by omega)]; simp [tailB]
        have g0 : (encB p ++ r).getD 0 0 = 192 + p / 64 := by rw [e1]; rfl
        have g1 : (encB p ++ r).getD 1 0 = 128 + p % 64 := by rw [e1]; rfl
        rw [g0, g1] at hs; omega
      · have e1 : encB p = [224 + p / 4096, 128 + p / 64 % 64, 128 + p % 64] := by unfold encB; rw [if_neg (by omega), if_neg (by omega), if_pos (by omega)]; simp [tailB]
        have g0 : (encB p ++ r).getD 0 0 = 224 + p / 4096 := by rw [e1]; rfl
        have g1 : (encB p ++ r).getD 1 0 = 128 + p / 64 % 64 := by rw [e1]; rfl
        have g2 : (encB p ++ r).getD 2 0 = 128 + p % 64 := by rw [e1]; rfl
        rw [g0, g1, g2] at hs; omega
      · have e1 : encB p = [240 + p / 262144, 128 + p / 4096 % 64, 128 + p / 64 % 64, 128 + p % 64] := by unfold encB; rw [if_neg (by omega), if_neg (by omega), if_neg (by omega)]; simp [tailB]
        have g0 : (encB p ++ r).getD 0 0 = 240 + p / 262144 := by rw [e1]; rfl
        have g1 : (encB p ++ r).getD 1 0 = 128 + p / 4096 % 64 := by rw [e1]; rfl
        have g2 : (encB p ++ r).getD 2 0 = 128 + p / 64 % 64 := by rw [e1]; rfl
        have g3 : (encB p ++ r).getD 3 0 = 128 + p % 64 := by rw [e1]; rfl
        rw [g0, g1, g2, g3] at hs; omega
  have := found_dec (encB p ++ r) hb (by rw [List.length_append]; omega) n ⟨n1, n4⟩ ⟨by omega, by rw [hv]; exact en⟩
  rw [hv] at this
  exact ⟨this.1, by rw [this.2]; exact en.symm⟩
theorem encAll_bytes : ∀ (ps b : List Int), encAll ps = some b → byteOK b ∧ ∀ p ∈ ps, need p ≠ 0
  | [], b, h => by simp only [encAll, Option.some.injEq] at h; subst h; exact ⟨byteOK.nil, by simp⟩
  | p :: ps, b, h => by
    unfold encAll at h
    split at h
    · cases h
    · rename_i hp
      cases he : encAll ps with
      | none => rw [he] at h; cases h
      | some b' =>
        rw [he] at h
        simp only [Option.map_some, Option.some.injEq] at h
        subst h
        obtain ⟨h1, h2⟩ := encAll_bytes ps b' he
        exact ⟨(encB_need hp).2.app h1, fun x hx => by rcases List.mem_cons.1 hx with rfl | hx; exact hp; exact h2 x hx⟩
theorem dec_enc : ∀ (ps pre b acc : List Int) (f : Nat), encAll ps = some b → b.length ≤ f → decP (ptsF (pre ++ b) f pre.length) acc = (acc ++ ps, 0, 0)
  | [], pre, b, acc, f, h, hf => by
    simp only [encAll, Option.some.injEq] at h; subst h
    cases f <;> simp [ptsF, decP]
  | p :: ps, pre, b, acc, f, h, hf => by
    have h0 := h
    unfold encAll at h
    split at h
    · cases h
    · rename_i hp
      cases he : encAll ps with
      | none => rw [he] at h; cases h
      | some b' =>
        rw [he] at h
        simp only [Option.map_some, Option.some.injEq] at h
        subst h
        obtain ⟨hb', _⟩ := encAll_bytes ps b' he
        obtain ⟨hd1, hd2⟩ := dec_encB hp b' hb'
        obtain ⟨hl, _⟩ := encB_need hp
        have hn0 : (encB p).length ≠ 0 := by omega
        rw [List.length_append] at hf
        obtain ⟨f, rfl⟩ : ∃ f', f = f' + 1 := ⟨f - 1, by omega⟩
        obtain ⟨p0, p1, p2⟩ := need_ok hp
        unfold ptsF
        rw [if_pos (by rw [List.length_append, List.length_append]; omega), List.drop_left, if_neg (by rw [hd2]; exact hp), hd1, hd2]
        unfold decP
        rw [if_neg (by omega)]
        have e1 : pre ++ (encB p ++ b') = (pre ++ encB p) ++ b' := by rw [List.append_assoc]
        have e2 : pre.length + (need p).toNat = (pre ++ encB p).length := by rw [List.length_append]; omega
        rw [e1, e2, dec_enc ps (pre ++ encB p) b' (acc ++ [p]) f he (by omega)]
        simp
theorem decW_enc {ps b : List Int} (h : encAll ps = some b) : decW b = (ps, 0, 0) := by
  have := dec_enc ps [] b [] b.length h (Nat.le_refl _)
  simpa [decW] using this
theorem enc_at {xs : List Int} (hb : byteOK xs) {i : Nat} {qs : List Int} (h : At xs i qs) : encAll qs = some (xs.drop i) := by
  induction h with
  | done => simp [encAll]
  | @more i qs hi h0 k ih =>
    have hby := hb.drop i
    have hd := dec1_spec (xs.drop i) hby (by rw [List.length_drop]; omega)
    have ho := dec1_ok (xs.drop i) hby (by rw [List.length_drop]; omega)
    have hneed := ho.2.2.2.2.2.2 h0
    rw [encAll, if_neg hneed, ih]
    simp only [Option.map_some, Option.some.injEq]
    have key : encB (dec1 (xs.drop i)).1 ++ (xs.drop i).drop (dec1 (xs.drop i)).2.toNat = xs.drop i := by
      have hl : 0 < (xs.drop i).length := by rw [List.length_drop]; omega
      generalize xs.drop i = ys at *
      have d0 : ys = ys.getD 0 0 :: ys.drop 1 := by have := drop_cons ys 0 hl; simpa using this
      have b1 := hby.get 1
      have b2 := hby.get 2
      have b3 := hby.get 3
      have b0 := hby.get 0
      have hc := need_cases (dec1 ys).1
      rcases hd with ⟨h2, hd⟩ | ⟨h2, hd⟩ | ⟨h2, hd⟩ | ⟨h2, hd⟩ | ⟨h2, hd⟩
      · rw [h2]
        have : encB (dec1 ys).1 = [ys.getD 0 0] := by unfold encB; rw [if_pos (by omega), hd.2]
        rw [this]; exact d0.symm
      · rw [h2]
        have d1 : ys.drop 1 = ys.getD 1 0 :: ys.drop 2 := drop_cons ys 1 (by omega)
        have : encB (dec1 ys).1 = [ys.getD 0 0, ys.getD 1 0] := by
          unfold encB; rw [if_neg (by omega), if_pos (by omega)]
          simp only [tailB, List.cons.injEq, and_true, Int.pow_zero]; constructor <;> omega
        rw [this]
        show ys.getD 0 0 :: ys.getD 1 0 :: ys.drop 2 = ys
        rw [← d1]; exact d0.symm
      · rw [h2]
        have d1 : ys.drop 1 = ys.getD 1 0 :: ys.drop 2 := drop_cons ys 1 (by omega)
        have d2 : ys.drop 2 = ys.getD 2 0 :: ys.drop 3 := drop_cons ys 2 (by omega)
        have : encB (dec1 ys).1 = [ys.getD 0 0, ys.getD 1 0, ys.getD 2 0] := by
          unfold encB; rw [if_neg (by omega), if_neg (by omega), if_pos (by omega)]
          simp only [tailB, List.cons.injEq, and_true, Int.pow_zero, Int.pow_one]; refine ⟨?_, ?_, ?_⟩ <;> omega
        rw [this]
        show ys.getD 0 0 :: ys.getD 1 0 :: ys.getD 2 0 :: ys.drop 3 = ys
        rw [← d2, ← d1]; exact d0.symm
      · rw [h2]
        have d1 : ys.drop 1 = ys.getD 1 0 :: ys.drop 2 := drop_cons ys 1 (by omega)
        have d2 : ys.drop 2 = ys.getD 2 0 :: ys.drop 3 := drop_cons ys 2 (by omega)
        have d3 : ys.drop 3 = ys.getD 3 0 :: ys.drop 4 := drop_cons ys 3 (by omega)
        have : encB (dec1 ys).1 = [ys.getD 0 0, ys.getD 1 0, ys.getD 2 0, ys.getD 3 0] := by
          unfold encB; rw [if_neg (by omega), if_neg (by omega), if_neg (by omega)]
          simp only [tailB, List.cons.injEq, and_true, Int.pow_zero, Int.pow_one, show (64 : Int) ^ 2 = 4096 from rfl]; refine ⟨?_, ?_, ?_, ?_⟩ <;> omega
        rw [this]
        show ys.getD 0 0 :: ys.getD 1 0 :: ys.getD 2 0 :: ys.getD 3 0 :: ys.drop 4 = ys
        rw [← d3, ← d2, ← d1]; exact d0.symm
      · exact absurd h2 h0
    rw [List.drop_drop] at key
    exact key
theorem enc_decW {xs : List Int} (hb : byteOK xs) (h : (decW xs).2.1 = 0) : encAll (decW xs).1 = some xs := by
  obtain ⟨qs, hq, ha⟩ := at_of xs hb xs.length 0 [] (by omega) (by omega) h
  have hq : (decW xs).1 = qs := hq
  rw [hq, enc_at hb ha]; rfl
end Go.Proofs.YtcokdccbfbbhbaaE
