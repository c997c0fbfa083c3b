/- What the laws' own helpers do over lists of whole numbers and of bytes: copied, compared, marked, held. -/
import Derived.Test.YtpaklalfopfilaaPrim
namespace Go.Proofs.YtpaklalfopfilaaE
open Go Go.RowKit Go.Proofs
set_option linter.unusedVariables false
set_option maxRecDepth 100000

theorem ok_toIntS : callOK Try.prog 110 = true := by kernel_rfl
theorem laws_toIntS (xs : List Int) (A : Option Addr) (c : Nat) (w : World) (hx : RdI w (.slice A xs.length c) xs) (hl : xs.length ≤ 4294967296) :
    Calls Try.prog 110 #[.slice A xs.length c] w fun e w' => ∃ x, e = .returned x ∧ OwnI w' w.heap.size x xs ∧ Below w.heap.size w w' := by
  refine calls_of_vcR (args := [.slice A xs.length c]) Try.func110 rfl (by kernel_rfl) (Nat.le_of_ble_eq_true rfl) ?_
  refine msI hl fun x w1 ho hB1 => ?_
  refine loopR (by kernel_rfl) (fun n e w' => (e 0 = .slice A xs.length c ∧ e 3 = x) ∧ ∃ j : Nat, e 4 = .int .i64 j ∧ j + n = xs.length ∧ OwnI w' w.heap.size x (xs.take j ++ (List.replicate xs.length (0 : Int)).drop j) ∧ Below w.heap.size w w') xs.length
    ⟨⟨rfl, rfl⟩, 0, rfl, by omega, by simpa using ho, hB1⟩ ?_
  rintro n e w2 ⟨⟨h0, h3⟩, j, h4, hj, ho, hB⟩
  have hlen : (xs.take j ++ (List.replicate xs.length (0 : Int)).drop j).length = xs.length := by simp; omega
  obtain ⟨A3, c3, hx3⟩ := own_val ho
  rw [hx3] at h3
  rw [Env.three h0 h3 h4]
  refine ifB (fun h => ?_) (fun h => ?_)
  · have hjl : j < xs.length := by omega
    obtain ⟨b, off, hA, hc⟩ := (hx.ext hB).int (i := (j : Int)) (by omega) h
    refine idxS (by omega) (h) hA ?_
    refine loadS hc ?_
    rw [hx3, hlen] at ho
    unfold OwnI at ho
    rw [hlen] at ho
    obtain ⟨b3, off3, hA3, hcell, hfr, hset⟩ := own_store ho (i := j) hjl
    refine IdxS.mk ⟨by omega, by rw [hlen]; exact h, _, _, hA3, ?_⟩
    refine StoreS.mk ⟨hcell, hfr, ⟨fun cs e => (nomatch e), fun cs e => (nomatch e)⟩, ?_⟩
    obtain ⟨ho', hg⟩ := hset (.int .i64 (xs.getD j 0))
    refine Exists.intro (n - 1) (And.intro (by omega) (And.intro ⟨rfl, hx3 ▸ hlen ▸ rfl⟩ ?_))
    refine ⟨j + 1, vI ?_, by omega, ?_, own_below hB hB.size ho hg⟩
    · rw [w64k _ (by omega) (by omega)]; omega
    · have e1 : xs.take (j + 1) ++ (List.replicate xs.length (0 : Int)).drop (j + 1) = (xs.take j ++ (List.replicate xs.length (0 : Int)).drop j).set j (xs.getD j 0) := by
        rw [set_step _ _ _ _ (by simp; omega) (by simpa using hjl), List.take_succ_eq_append_getElem hjl]
        simp [hjl]
      rw [e1, hx3, hlen]
      unfold OwnI
      rw [List.length_set, hlen, List.map_set]
      exact ho'
  · have hjl : j = xs.length := by omega
    subst hjl
    refine Exists.intro x (And.intro ?_ (And.intro ?_ hB))
    · rw [hx3]; rfl
    · simpa using ho
theorem ok_eqIntS : callOK Try.prog 118 = true := by kernel_rfl
theorem laws_eqIntS (xs ys : List Int) (A A' : Option Addr) (c c' : Nat) (w : World) (hx : RdI w (.slice A xs.length c) xs) (hy : RdI w (.slice A' ys.length c') ys) (hl : xs.length ≤ 1099511627776) :
    Calls Try.prog 118 #[.slice A xs.length c, .slice A' ys.length c'] w fun e w' => e = .returned (.bool (decide (xs = ys))) ∧ Below w.heap.size w w' := by
  refine calls_of_vcR (args := [.slice A xs.length c, .slice A' ys.length c']) Try.func118 rfl (by kernel_rfl) (Nat.le_of_ble_eq_true rfl) ?_
  refine CondB.mk ⟨fun h => ?_, fun h => ?_⟩
  · have h : xs.length ≠ ys.length := by simp at h; omega
    exact And.intro (retB (decide_eq_false fun e => h (by rw [e])).symm) (Below.refl _ _)
  · have h : xs.length = ys.length := by simp at h; omega
    refine loopR (by kernel_rfl) (fun n e w' => (e 0 = .slice A xs.length c ∧ e 1 = .slice A' ys.length c') ∧ ∃ j : Nat, e 5 = .int .i64 j ∧ j + n = xs.length ∧ xs.take j = ys.take j ∧ Below w.heap.size w w') xs.length
      ⟨⟨rfl, rfl⟩, 0, rfl, by omega, by simp, Below.refl _ _⟩ ?_
    rintro n e w2 ⟨⟨h0, h1⟩, j, h5, hj, ht, hB⟩
    rw [Env.three h0 h1 h5]
    refine ifB (fun h2 => ?_) (fun h2 => ?_)
    · have hjl : j < xs.length := by omega
      refine DrawS.mk fun w3 hs => ?_
      have hB3 := below_trans hB (hs.below _)
      obtain ⟨b, off, hA, hc⟩ := (hx.ext hB3).int (i := (j : Int)) (by omega) h2
      obtain ⟨b', off', hA', hc'⟩ := (hy.ext hB3).int (i := (j : Int)) (by omega) (by omega)
      refine IdxS.mk ⟨by omega, h2, _, _, hA, ?_⟩
      refine loadS hc ?_
      refine IdxS.mk ⟨by omega, by omega, _, _, hA', ?_⟩
      refine LoadS.mk ⟨_, hc', ?_⟩
      have e1 : xs.take (j + 1) = xs.take j ++ [xs.getD j 0] := by rw [List.take_succ_eq_append_getElem hjl]; simp [hjl]
      have e2 : ys.take (j + 1) = ys.take j ++ [ys.getD j 0] := by rw [List.take_succ_eq_append_getElem (by omega)]; simp [show j < ys.length by omega]
      refine CondB.mk ⟨fun h3 => ?_, fun h3 => ?_⟩
      · have h3 : xs.getD j 0 ≠ ys.getD j 0 := by simpa using h3
        exact And.intro (retB (decide_eq_false fun e => h3 (by rw [e])).symm) hB3
      · have h3 : xs.getD j 0 = ys.getD j 0 := by simpa using h3
        refine Exists.intro (n - 1) (And.intro (by omega) (And.intro ⟨rfl, rfl⟩ ⟨j + 1, vI ?_, by omega, ?_, hB3⟩))
        · rw [w64k _ (by omega) (by omega)]; omega
        · rw [e1, e2, ht, h3]
    · refine And.intro (retB ?_) hB
      have hjl : j = xs.length := by omega
      subst hjl
      rw [List.take_length] at ht
      rw [h, List.take_length] at ht
      exact (decide_eq_true ht).symm
theorem laws_eqIntS_same (xs : List Int) (A A' : Option Addr) (c c' : Nat) (w : World) (hx : RdI w (.slice A xs.length c) xs) (hy : RdI w (.slice A' xs.length c') xs) (hl : xs.length ≤ 1099511627776) :
    Calls Try.prog 118 #[.slice A xs.length c, .slice A' xs.length c'] w fun e w' => e = .returned (.bool true) ∧ Below w.heap.size w w' := by
  have h := laws_eqIntS xs xs A A' c c' w hx hy hl
  rw [decide_eq_true rfl] at h
  exact h
theorem ok_markIntS : callOK Try.prog 101 = true := by kernel_rfl
theorem laws_markIntS (m : Int) (hm : 0 ≤ m) (xs : List Int) (A : Option Addr) (c B : Nat) (w : World) (ho : OwnI w B (.slice A xs.length c) xs) (hl : m + xs.length ≤ 1099511627776) :
    Calls Try.prog 101 #[.slice A xs.length c, .int .i64 m] w fun e w' => e = .returned (.int .i64 (m + xs.length)) ∧ OwnI w' B (.slice A xs.length c) (cnt id m xs.length) ∧ w.grownBy w' (Value.slice A xs.length c).ownBlock := by
  refine calls_of_vcR (args := [.slice A xs.length c, .int .i64 m]) Try.func101 rfl (by kernel_rfl) (Nat.le_of_ble_eq_true rfl) ?_
  refine loopR (by kernel_rfl) (fun n e w' => e 0 = .slice A xs.length c ∧ ∃ j : Nat, e 5 = .int .i64 j ∧ e 1 = .int .i64 (m + j) ∧ j + n = xs.length ∧ OwnI w' B (.slice A xs.length c) (cnt id m j ++ xs.drop j) ∧ w.grownBy w' (Value.slice A xs.length c).ownBlock) xs.length
    ⟨rfl, 0, rfl, vI (by simp), by omega, ho, grown_of_below (Below.refl _ _) _⟩ ?_
  rintro n e w2 ⟨h0, j, h5, h1, hj, ho2, hg2⟩
  have hlen : (cnt id m j ++ xs.drop j).length = xs.length := by simp [cnt_len]; omega
  rw [Env.three h0 h5 h1]
  refine ifB (fun h => ?_) (fun h => ?_)
  · have hjl : j < xs.length := by omega
    unfold OwnI at ho2
    rw [hlen] at ho2
    obtain ⟨b3, off3, hA3, hcell, hfr, hset⟩ := own_store ho2 (i := j) hjl
    refine IdxS.mk ⟨by omega, h, _, _, hA3, ?_⟩
    refine StoreS.mk ⟨hcell, hfr, ⟨fun cs e => (nomatch e), fun cs e => (nomatch e)⟩, ?_⟩
    obtain ⟨ho', hg⟩ := hset (.int .i64 (m + j))
    refine Exists.intro (n - 1) (And.intro (by omega) (And.intro rfl ?_))
    refine ⟨j + 1, vI ?_, vI ?_, by omega, ?_, grown_trans hg2 hg⟩
    · rw [w64k _ (by omega) (by omega)]; omega
    · rw [w64k _ (by omega) (by omega)]; omega
    · have e1 : cnt id m (j + 1) ++ xs.drop (j + 1) = (cnt id m j ++ xs.drop j).set j (id (m + j)) := by
        rw [set_step _ _ _ _ (cnt_len _ _ _) hjl, cnt_snoc]
      rw [e1]
      unfold OwnI
      rw [List.length_set, hlen, List.map_set]
      have e2 : (m + j) = id (m + j) := rfl
      rw [e2] at ho'
      exact ho'
  · have hjl : j = xs.length := by omega
    subst hjl
    exact And.intro rfl (And.intro (by simpa using ho2) hg2)
theorem ok_heldIntS : callOK Try.prog 103 = true := by kernel_rfl
theorem laws_heldIntS (m : Int) (hm : 0 ≤ m) (k : Nat) (A : Option Addr) (c : Nat) (w : World) (hx : RdI w (.slice A k c) (cnt id m k)) (hl : m + k ≤ 1099511627776) :
    Calls Try.prog 103 #[.slice A k c, .int .i64 m] w fun e w' => e = .returned (.int .i64 (m + k)) ∧ Below w.heap.size w w' := by
  refine calls_of_vcR (args := [.slice A k c, .int .i64 m]) Try.func103 rfl (by kernel_rfl) (Nat.le_of_ble_eq_true rfl) ?_
  refine loopR (by kernel_rfl) (fun n e w' => e 0 = .slice A k c ∧ ∃ j : Nat, e 5 = .int .i64 j ∧ e 1 = .int .i64 (m + j) ∧ j + n = k ∧ Below w.heap.size w w') k
    ⟨rfl, 0, rfl, vI (by simp), by omega, Below.refl _ _⟩ ?_
  rintro n e w2 ⟨h0, j, h5, h1, hj, hB⟩
  rw [Env.three h0 h5 h1]
  refine ifB (fun h => ?_) (fun h => ?_)
  · have hjl : j < k := by omega
    have hx2 := hx.ext hB
    have hcl := cnt_len id k m
    obtain ⟨b, off, hA, hc⟩ := Rd.at (A := A) (c := c) (n := k) (by simpa only [RdI, hcl] using hx2) (i := j) hjl
    refine idxS (by omega) (h) hA ?_
    have hc' : w2.cell? ⟨b, off + j * 1, none⟩ = some (.int .i64 (id (m + j))) := by
      rw [hc, List.getElem?_map, List.getElem?_eq_getElem (by omega)]
      have e9 := cnt_get id k m j hjl
      rw [List.getD_eq_getElem?_getD, List.getElem?_eq_getElem (by omega), Option.getD_some] at e9
      rw [e9]; rfl
    refine LoadS.mk ⟨_, hc', ?_⟩
    have e2 : (m + j) = id (m + j) := rfl
    refine CondB.mk ⟨fun h3 => ?_, fun h3 => ?_⟩
    · exact absurd e2.symm (bne_iff_ne.1 h3)
    · refine Exists.intro (n - 1) (And.intro (by omega) (And.intro rfl ⟨j + 1, vI ?_, vI ?_, by omega, hB⟩))
      · rw [w64k _ (by omega) (by omega)]; omega
      · rw [w64k _ (by omega) (by omega)]; omega
  · have hjl : j = k := by omega
    subst hjl
    exact And.intro rfl hB

theorem ok_toByteS : callOK Try.prog 111 = true := by kernel_rfl
theorem laws_toByteS (xs : List Int) (A : Option Addr) (c : Nat) (w : World) (hx : RdB w (.slice A xs.length c) xs) (hl : xs.length ≤ 4294967296) :
    Calls Try.prog 111 #[.slice A xs.length c] w fun e w' => ∃ x, e = .returned x ∧ OwnB w' w.heap.size x xs ∧ Below w.heap.size w w' := by
  refine calls_of_vcR (args := [.slice A xs.length c]) Try.func111 rfl (by kernel_rfl) (Nat.le_of_ble_eq_true rfl) ?_
  refine msB hl fun x w1 ho hB1 => ?_
  refine loopR (by kernel_rfl) (fun n e w' => (e 0 = .slice A xs.length c ∧ e 3 = x) ∧ ∃ j : Nat, e 4 = .int .i64 j ∧ j + n = xs.length ∧ OwnB w' w.heap.size x (xs.take j ++ (List.replicate xs.length (0 : Int)).drop j) ∧ Below w.heap.size w w') xs.length
    ⟨⟨rfl, rfl⟩, 0, rfl, by omega, by simpa using ho, hB1⟩ ?_
  rintro n e w2 ⟨⟨h0, h3⟩, j, h4, hj, ho, hB⟩
  have hlen : (xs.take j ++ (List.replicate xs.length (0 : Int)).drop j).length = xs.length := by simp; omega
  obtain ⟨A3, c3, hx3⟩ := own_val ho
  rw [hx3] at h3
  rw [Env.three h0 h3 h4]
  refine ifB (fun h => ?_) (fun h => ?_)
  · have hjl : j < xs.length := by omega
    obtain ⟨b, off, hA, hc⟩ := (hx.ext hB).int (i := (j : Int)) (by omega) h
    refine idxS (by omega) (h) hA ?_
    refine loadS hc ?_
    rw [hx3, hlen] at ho
    unfold OwnB at ho
    rw [hlen] at ho
    obtain ⟨b3, off3, hA3, hcell, hfr, hset⟩ := own_store ho (i := j) hjl
    refine IdxS.mk ⟨by omega, by rw [hlen]; exact h, _, _, hA3, ?_⟩
    refine StoreS.mk ⟨hcell, hfr, ⟨fun cs e => (nomatch e), fun cs e => (nomatch e)⟩, ?_⟩
    obtain ⟨ho', hg⟩ := hset (.int .u8 (xs.getD j 0))
    refine Exists.intro (n - 1) (And.intro (by omega) (And.intro ⟨rfl, hx3 ▸ hlen ▸ rfl⟩ ?_))
    refine ⟨j + 1, vI ?_, by omega, ?_, own_below hB hB.size ho hg⟩
    · rw [w64k _ (by omega) (by omega)]; omega
    · have e1 : xs.take (j + 1) ++ (List.replicate xs.length (0 : Int)).drop (j + 1) = (xs.take j ++ (List.replicate xs.length (0 : Int)).drop j).set j (xs.getD j 0) := by
        rw [set_step _ _ _ _ (by simp; omega) (by simpa using hjl), List.take_succ_eq_append_getElem hjl]
        simp [hjl]
      rw [e1, hx3, hlen]
      unfold OwnB
      rw [List.length_set, hlen, List.map_set]
      exact ho'
  · have hjl : j = xs.length := by omega
    subst hjl
    refine Exists.intro x (And.intro ?_ (And.intro ?_ hB))
    · rw [hx3]; rfl
    · simpa using ho
theorem ok_eqByteS : callOK Try.prog 119 = true := by kernel_rfl
theorem laws_eqByteS (xs ys : List Int) (A A' : Option Addr) (c c' : Nat) (w : World) (hx : RdB w (.slice A xs.length c) xs) (hy : RdB w (.slice A' ys.length c') ys) (hl : xs.length ≤ 1099511627776) :
    Calls Try.prog 119 #[.slice A xs.length c, .slice A' ys.length c'] w fun e w' => e = .returned (.bool (decide (xs = ys))) ∧ Below w.heap.size w w' := by
  refine calls_of_vcR (args := [.slice A xs.length c, .slice A' ys.length c']) Try.func119 rfl (by kernel_rfl) (Nat.le_of_ble_eq_true rfl) ?_
  refine CondB.mk ⟨fun h => ?_, fun h => ?_⟩
  · have h : xs.length ≠ ys.length := by simp at h; omega
    exact And.intro (retB (decide_eq_false fun e => h (by rw [e])).symm) (Below.refl _ _)
  · have h : xs.length = ys.length := by simp at h; omega
    refine loopR (by kernel_rfl) (fun n e w' => (e 0 = .slice A xs.length c ∧ e 1 = .slice A' ys.length c') ∧ ∃ j : Nat, e 5 = .int .i64 j ∧ j + n = xs.length ∧ xs.take j = ys.take j ∧ Below w.heap.size w w') xs.length
      ⟨⟨rfl, rfl⟩, 0, rfl, by omega, by simp, Below.refl _ _⟩ ?_
    rintro n e w2 ⟨⟨h0, h1⟩, j, h5, hj, ht, hB⟩
    rw [Env.three h0 h1 h5]
    refine ifB (fun h2 => ?_) (fun h2 => ?_)
    · have hjl : j < xs.length := by omega
      refine DrawS.mk fun w3 hs => ?_
      have hB3 := below_trans hB (hs.below _)
      obtain ⟨b, off, hA, hc⟩ := (hx.ext hB3).int (i := (j : Int)) (by omega) h2
      obtain ⟨b', off', hA', hc'⟩ := (hy.ext hB3).int (i := (j : Int)) (by omega) (by omega)
      refine IdxS.mk ⟨by omega, h2, _, _, hA, ?_⟩
      refine loadS hc ?_
      refine IdxS.mk ⟨by omega, by omega, _, _, hA', ?_⟩
      refine LoadS.mk ⟨_, hc', ?_⟩
      have e1 : xs.take (j + 1) = xs.take j ++ [xs.getD j 0] := by rw [List.take_succ_eq_append_getElem hjl]; simp [hjl]
      have e2 : ys.take (j + 1) = ys.take j ++ [ys.getD j 0] := by rw [List.take_succ_eq_append_getElem (by omega)]; simp [show j < ys.length by omega]
      refine CondB.mk ⟨fun h3 => ?_, fun h3 => ?_⟩
      · have h3 : xs.getD j 0 ≠ ys.getD j 0 := by simpa using h3
        exact And.intro (retB (decide_eq_false fun e => h3 (by rw [e])).symm) hB3
      · have h3 : xs.getD j 0 = ys.getD j 0 := by simpa using h3
        refine Exists.intro (n - 1) (And.intro (by omega) (And.intro ⟨rfl, rfl⟩ ⟨j + 1, vI ?_, by omega, ?_, hB3⟩))
        · rw [w64k _ (by omega) (by omega)]; omega
        · rw [e1, e2, ht, h3]
    · refine And.intro (retB ?_) hB
      have hjl : j = xs.length := by omega
      subst hjl
      rw [List.take_length] at ht
      rw [h, List.take_length] at ht
      exact (decide_eq_true ht).symm
theorem laws_eqByteS_same (xs : List Int) (A A' : Option Addr) (c c' : Nat) (w : World) (hx : RdB w (.slice A xs.length c) xs) (hy : RdB w (.slice A' xs.length c') xs) (hl : xs.length ≤ 1099511627776) :
    Calls Try.prog 119 #[.slice A xs.length c, .slice A' xs.length c'] w fun e w' => e = .returned (.bool true) ∧ Below w.heap.size w w' := by
  have h := laws_eqByteS xs xs A A' c c' w hx hy hl
  rw [decide_eq_true rfl] at h
  exact h
theorem ok_markByteS : callOK Try.prog 102 = true := by kernel_rfl
theorem laws_markByteS (m : Int) (hm : 0 ≤ m) (xs : List Int) (A : Option Addr) (c B : Nat) (w : World) (ho : OwnB w B (.slice A xs.length c) xs) (hl : m + xs.length ≤ 1099511627776) :
    Calls Try.prog 102 #[.slice A xs.length c, .int .i64 m] w fun e w' => e = .returned (.int .i64 (m + xs.length)) ∧ OwnB w' B (.slice A xs.length c) (cnt (· % 256) m xs.length) ∧ w.grownBy w' (Value.slice A xs.length c).ownBlock := by
  refine calls_of_vcR (args := [.slice A xs.length c, .int .i64 m]) Try.func102 rfl (by kernel_rfl) (Nat.le_of_ble_eq_true rfl) ?_
  refine loopR (by kernel_rfl) (fun n e w' => e 0 = .slice A xs.length c ∧ ∃ j : Nat, e 5 = .int .i64 j ∧ e 1 = .int .i64 (m + j) ∧ j + n = xs.length ∧ OwnB w' B (.slice A xs.length c) (cnt (· % 256) m j ++ xs.drop j) ∧ w.grownBy w' (Value.slice A xs.length c).ownBlock) xs.length
    ⟨rfl, 0, rfl, vI (by simp), by omega, ho, grown_of_below (Below.refl _ _) _⟩ ?_
  rintro n e w2 ⟨h0, j, h5, h1, hj, ho2, hg2⟩
  have hlen : (cnt (· % 256) m j ++ xs.drop j).length = xs.length := by simp [cnt_len]; omega
  rw [Env.three h0 h5 h1]
  refine ifB (fun h => ?_) (fun h => ?_)
  · have hjl : j < xs.length := by omega
    unfold OwnB at ho2
    rw [hlen] at ho2
    obtain ⟨b3, off3, hA3, hcell, hfr, hset⟩ := own_store ho2 (i := j) hjl
    refine IdxS.mk ⟨by omega, h, _, _, hA3, ?_⟩
    refine StoreS.mk ⟨hcell, hfr, ⟨fun cs e => (nomatch e), fun cs e => (nomatch e)⟩, ?_⟩
    obtain ⟨ho', hg⟩ := hset (.int .u8 (IntKind.u8.wrap (m + j)))
    refine Exists.intro (n - 1) (And.intro (by omega) (And.intro rfl ?_))
    refine ⟨j + 1, vI ?_, vI ?_, by omega, ?_, grown_trans hg2 hg⟩
    · rw [w64k _ (by omega) (by omega)]; omega
    · rw [w64k _ (by omega) (by omega)]; omega
    · have e1 : cnt (· % 256) m (j + 1) ++ xs.drop (j + 1) = (cnt (· % 256) m j ++ xs.drop j).set j ((· % 256) (m + j)) := by
        rw [set_step _ _ _ _ (cnt_len _ _ _) hjl, cnt_snoc]
      rw [e1]
      unfold OwnB
      rw [List.length_set, hlen, List.map_set]
      have e2 : (IntKind.u8.wrap (m + j)) = (· % 256) (m + j) := w8k _
      rw [e2] at ho'
      exact ho'
  · have hjl : j = xs.length := by omega
    subst hjl
    exact And.intro rfl (And.intro (by simpa using ho2) hg2)
theorem ok_heldByteS : callOK Try.prog 104 = true := by kernel_rfl
theorem laws_heldByteS (m : Int) (hm : 0 ≤ m) (k : Nat) (A : Option Addr) (c : Nat) (w : World) (hx : RdB w (.slice A k c) (cnt (· % 256) m k)) (hl : m + k ≤ 1099511627776) :
    Calls Try.prog 104 #[.slice A k c, .int .i64 m] w fun e w' => e = .returned (.int .i64 (m + k)) ∧ Below w.heap.size w w' := by
  refine calls_of_vcR (args := [.slice A k c, .int .i64 m]) Try.func104 rfl (by kernel_rfl) (Nat.le_of_ble_eq_true rfl) ?_
  refine loopR (by kernel_rfl) (fun n e w' => e 0 = .slice A k c ∧ ∃ j : Nat, e 5 = .int .i64 j ∧ e 1 = .int .i64 (m + j) ∧ j + n = k ∧ Below w.heap.size w w') k
    ⟨rfl, 0, rfl, vI (by simp), by omega, Below.refl _ _⟩ ?_
  rintro n e w2 ⟨h0, j, h5, h1, hj, hB⟩
  rw [Env.three h0 h5 h1]
  refine ifB (fun h => ?_) (fun h => ?_)
  · have hjl : j < k := by omega
    have hx2 := hx.ext hB
    have hcl := cnt_len (· % 256) k m
    obtain ⟨b, off, hA, hc⟩ := Rd.at (A := A) (c := c) (n := k) (by simpa only [RdB, hcl] using hx2) (i := j) hjl
    refine idxS (by omega) (h) hA ?_
    have hc' : w2.cell? ⟨b, off + j * 1, none⟩ = some (.int .u8 ((· % 256) (m + j))) := by
      rw [hc, List.getElem?_map, List.getElem?_eq_getElem (by omega)]
      have e9 := cnt_get (· % 256) k m j hjl
      rw [List.getD_eq_getElem?_getD, List.getElem?_eq_getElem (by omega), Option.getD_some] at e9
      rw [e9]; rfl
    refine LoadS.mk ⟨_, hc', ?_⟩
    have e2 : (IntKind.u8.wrap (m + j)) = (· % 256) (m + j) := w8k _
    refine CondB.mk ⟨fun h3 => ?_, fun h3 => ?_⟩
    · exact absurd e2.symm (bne_iff_ne.1 h3)
    · refine Exists.intro (n - 1) (And.intro (by omega) (And.intro rfl ⟨j + 1, vI ?_, vI ?_, by omega, hB⟩))
      · rw [w64k _ (by omega) (by omega)]; omega
      · rw [w64k _ (by omega) (by omega)]; omega
  · have hjl : j = k := by omega
    subst hjl
    exact And.intro rfl hB
end Go.Proofs.YtpaklalfopfilaaE
