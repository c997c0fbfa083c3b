/- What the reference draws: units, points, bytes. -/
import Derived.Test.YtcokdccbfbbhbaaTDraw
import Derived.Test.YtcokdccbfbbhbaaPRound
namespace Go.Proofs.YtcokdccbfbbhbaaE
open Go Go.RowKit Go.Proofs
set_option linter.unusedVariables false
set_option maxHeartbeats 2000000

theorem dUs_len : ∀ (n : Nat) (rs : List Int), (dUs n rs).1.length = n
  | 0, rs => rfl
  | n + 1, rs => by unfold dUs; (repeat' split) <;> simp [dUs_len n]
theorem ok_l1drawUnits : callOK Try.prog 64 = true := by kernel_rfl
theorem spec_l1drawUnits {bs rs : List Int} (hb : byteOK bs) {A : Option Addr} {n c g i : Nat} (hl : n ≤ 4294967296) (hi : i ≤ n) (hr : bs.drop i = rs) {B : Nat} {W0 w : World} {L : List It} (H : St B W0 w (rdO g (.slice A n c) i :: roBn (.slice A n c) n bs :: L)) :
    Calls Try.prog 64 #[.pointer (some ⟨g, 0, none⟩), .int .i64 12] w fun e w' => ∃ A1 c1 i', e = .returned (.slice A1 (dUs (rs.headD 0 % 12).toNat rs.tail).1.length c1) ∧ i' ≤ n ∧ bs.drop i' = (dUs (rs.headD 0 % 12).toNat rs.tail).2 ∧ St B W0 w' (.rowI (.slice A1 (dUs (rs.headD 0 % 12).toNat rs.tail).1.length c1) (dUs (rs.headD 0 % 12).toNat rs.tail).1 :: rdO g (.slice A n c) i' :: roBn (.slice A n c) n bs :: L) := by
  have hd := head_bd hb hr
  refine calls_of_vcV (args := [.pointer (some ⟨g, 0, none⟩), .int .i64 12]) Try.func64 rfl (by kernel_rfl) (Nat.le_of_ble_eq_true rfl) ?_
  refine CallS.mk ok_rdnext ((spec_next hb hl hi hr H).mono ?_)
  rintro _ w ⟨rfl, i1, hi1, hr1, H⟩
  generalize rs.headD 0 = k at *
  generalize rs.tail = rs at *
  refine rem0 (by omega) (by omega) ?_
  obtain ⟨m, hm⟩ : ∃ m : Nat, k % 12 = m := ⟨(k % 12).toNat, by omega⟩
  have hm12 : m < 12 := by omega
  rw [hm, show (m : Int).toNat = m by omega]
  obtain ⟨r, hR⟩ : ∃ r, dUs m rs = r := ⟨_, rfl⟩
  rw [hR]
  have H := H.rowNil (e := 3) (sz := 1)
  refine loopV (by kernel_rfl) (fun q e w => e 0 = .pointer (some ⟨g, 0, none⟩) ∧ e 5 = .int .i64 m ∧ ∃ (v : Value) (acc : List Int) (j i' : Nat) (rs' : List Int), e 6 = v ∧ e 7 = .int .i64 j ∧ j + q = m ∧ acc.length = j ∧ i' ≤ n ∧ bs.drop i' = rs' ∧ r = (acc ++ (dUs q rs').1, (dUs q rs').2) ∧ St B W0 w (.rowI v acc :: rdO g (.slice A n c) i' :: roBn (.slice A n c) n bs :: L)) m
    ⟨rfl, rfl, _, [], 0, i1, rs, rfl, rfl, by omega, rfl, hi1, hr1, hR.symm, H⟩ ?_
  rintro q e w ⟨h0, h5, v, acc, j, i', rs', h6, h7, hq, hac, hi', hr', hr2, H⟩
  rw [Env.four h0 h5 h6 h7]
  refine ifB (fun h => ?_) (fun h => ?_)
  case refine_2 =>
    obtain rfl : q = 0 := by omega
    obtain ⟨A1, c1, rfl⟩ := own_val (H.own 0 rfl)
    simp only [dUs, List.append_nil] at hr2
    subst hr2
    exact Exists.intro A1 (Exists.intro c1 (Exists.intro i' (And.intro rfl (And.intro hi' (And.intro hr' H)))))
  obtain ⟨q, rfl⟩ : ∃ q', q = q' + 1 := ⟨q - 1, by omega⟩
  have hd' := head_bd hb hr'
  have H := H.sink2
  refine joinV (fun e w => e 0 = .pointer (some ⟨g, 0, none⟩) ∧ e 5 = .int .i64 m ∧ e 7 = .int .i64 j ∧ ∃ (v : Value) (x : Int) (i' : Nat) (rs' : List Int), e 6 = v ∧ i' ≤ n ∧ bs.drop i' = rs' ∧ r = (acc ++ [x] ++ (dUs q rs').1, (dUs q rs').2) ∧ St B W0 w (.rowI v (acc ++ [x]) :: rdO g (.slice A n c) i' :: roBn (.slice A n c) n bs :: L)) rfl ?_ ?_
  case refine_2 =>
    rintro e w ⟨h0, h5, h7, v, x, i', rs', h6, hi', hr', hr2, H⟩
    rw [Env.four h0 h5 h7 h6]
    refine arN (by omega) ?_
    exact Exists.intro q (And.intro (by omega) ⟨rfl, rfl, v, acc ++ [x], j + 1, i', rs', rfl, rfl, by omega, by simp [hac], hi', hr', hr2, H⟩)
  refine CallS.mk ok_rdnext ((spec_next hb hl hi' hr' H).mono ?_)
  rintro _ w ⟨rfl, i2, hi2, hr2', H⟩
  unfold dUs at hr2
  generalize rs'.headD 0 = k2 at *
  generalize rs'.tail = rs2 at *
  refine rem0 (by omega) (by omega) ?_
  refine ifB (fun c1 => ?_) (fun c1 => ?_)
  · refine ar64 (by omega) (by omega) ?_
    refine ar64 (by omega) (by omega) ?_
    refine litIS (xs := [55296 + k2 * 4]) H (by simp) (by kernel_rfl) fun A4 k4 w H => ?_
    refine appIS H 3 rfl (H.rd 0 rfl) (by first | omega | (simp; omega)) fun A5 k5 w H => ?_
    rw [if_pos c1] at hr2
    exact ⟨rfl, rfl, rfl, _, _, i2, rs2, rfl, hi2, hr2', by rw [hr2]; simp, H.tl.rot3⟩
  · refine rem0 (by omega) (by omega) ?_
    refine ifB (fun c7 => ?_) (fun c7 => ?_)
    · refine ar64 (by omega) (by omega) ?_
      refine ar64 (by omega) (by omega) ?_
      refine litIS (xs := [56320 + k2 * 4]) H (by simp) (by kernel_rfl) fun A10 k10 w H => ?_
      refine appIS H 3 rfl (H.rd 0 rfl) (by first | omega | (simp; omega)) fun A11 k11 w H => ?_
      rw [if_neg c1, if_pos c7] at hr2
      exact ⟨rfl, rfl, rfl, _, _, i2, rs2, rfl, hi2, hr2', by rw [hr2]; simp, H.tl.rot3⟩
    · (refine CallS.mk ok_l1drawPoint ((spec_l1drawPoint hb true hl hi2 hr2' H).mono ?_); rintro _ w ⟨rfl, i3, hi3, hr3, H⟩; have hdp := dPoint_bd (sur := true) (head_bd hb hr2'))
      refine rem0 (by omega) (by omega) ?_
      refine litIS (xs := [dPoint true rs2 % 65536]) H (by simp) (by kernel_rfl) fun A14 k14 w H => ?_
      refine appIS H 3 rfl (H.rd 0 rfl) (by first | omega | (simp; omega)) fun A15 k15 w H => ?_
      rw [if_neg c1, if_neg c7] at hr2
      exact ⟨rfl, rfl, rfl, _, _, i3, rs2.tail, rfl, hi3, hr3, by rw [hr2]; simp, H.tl.rot3⟩
def putIf (b : Prop) [Decidable b] (us : List Int) (x : Int) : List Int := if b then us ++ [x] else us
theorem putIf_len (b : Prop) [Decidable b] (us : List Int) (x : Int) : (putIf b us x).length ≤ us.length + 1 := by unfold putIf; split <;> simp
def drawFU (xs : List Int) : List Int :=
  let rs := xs.take 500
  putIf (rs.headD 0 = 251) (putIf (rs.headD 0 = 250) (dUs (rs.tail.headD 0 % 12).toNat rs.tail.tail).1 (-1)) 65536
theorem drawFU_len {xs : List Int} (hb : byteOK xs) : (drawFU xs).length ≤ 20 := by
  unfold drawFU
  simp only []
  have h0 : byteOK (xs.take 500).tail := fun x hx => hb x (List.mem_of_mem_take (List.mem_of_mem_tail hx))
  have h1 := head_bd (bs := (xs.take 500).tail) (i := 0) h0 rfl
  have h2 := putIf_len ((xs.take 500).headD 0 = 251) (putIf ((xs.take 500).headD 0 = 250) (dUs ((xs.take 500).tail.headD 0 % 12).toNat (xs.take 500).tail.tail).1 (-1)) 65536
  have h3 := putIf_len ((xs.take 500).headD 0 = 250) (dUs ((xs.take 500).tail.headD 0 % 12).toNat (xs.take 500).tail.tail).1 (-1)
  have h4 := dUs_len ((xs.take 500).tail.headD 0 % 12).toNat (xs.take 500).tail.tail
  omega
theorem ok_DrawFromUnits : callOK Try.prog 40 = true := by kernel_rfl
theorem spec_DrawFromUnits {xs : List Int} (hb : byteOK xs) {A : Option Addr} {n c : Nat} (hl : n ≤ 4294967296) {W : World} (hx : Rd W (.slice A n c) 1 n (xs.map (.int .u8))) :
    Calls Try.prog 40 #[.slice A n c] W fun e w => ∃ x, e = .returned x ∧ OwnI w W.heap.size x (drawFU xs) ∧ Below W.heap.size W w := by
  have H := (St.enter W).ro0 rfl hx
  refine calls_of_vcV (args := [.slice A n c]) Try.func40 rfl (by kernel_rfl) (Nat.le_of_ble_eq_true rfl) ?_
  refine CallS.mk ok_l1open ((spec_l1open hl H).mono ?_)
  rintro _ w ⟨g, A1, m, c1, rfl, hm, H⟩
  have hb1 : byteOK (xs.take 500) := hb.take 500
  refine CallS.mk ok_rdnext ((spec_next hb1 (by omega) (Nat.zero_le _) rfl H).mono ?_)
  rintro _ w ⟨rfl, i1, hi1, hr1, H⟩
  refine CallS.mk ok_l1drawUnits ((spec_l1drawUnits hb1 (by omega) hi1 hr1 H).mono ?_)
  rintro _ w ⟨A2, c2, i2, rfl, hi2, hr2, H⟩
  rw [List.drop_zero] at *
  unfold drawFU
  simp only []
  generalize (xs.take 500).headD 0 = k at *
  have hul := dUs_len ((xs.take 500).tail.headD 0 % 12).toNat (xs.take 500).tail.tail
  have hh := head_bd (bs := (xs.take 500).tail) (i := 0) (fun x hx => hb x (List.mem_of_mem_take (List.mem_of_mem_tail hx))) rfl
  rw [List.drop_zero] at hh
  generalize (dUs ((xs.take 500).tail.headD 0 % 12).toNat (xs.take 500).tail.tail).1 = us at *
  refine joinV (fun e w => e 4 = .int .i64 k ∧ ∃ A c, e 5 = .slice A (putIf (k = 250) us (-1)).length c ∧ St W.heap.size W w [.rowI (.slice A (putIf (k = 250) us (-1)).length c) (putIf (k = 250) us (-1))]) rfl ?_ ?_
  · unfold putIf
    refine ifB (fun c0 => ?_) (fun c0 => ?_)
    · refine litIS (xs := [-1]) H (by simp) (by kernel_rfl) fun A1 k1 w H => ?_
      refine appIS H 1 rfl (H.rd 0 rfl) (by first | omega | (simp; omega)) fun A2 k2 w H => ?_
      rw [if_pos c0]; exact ⟨rfl, _, _, rfl, H.sub [1] (by decide)⟩
    · rw [if_neg c0]; exact ⟨rfl, _, _, rfl, H.sub [0] (by decide)⟩
  rintro e w ⟨h4, A5, k5, h5, H⟩
  rw [Env.two h4 h5]
  have hpl := putIf_len (k = 250) us (-1)
  generalize putIf (k = 250) us (-1) = us1 at *
  refine joinV (fun e w => ∃ A c, e 5 = .slice A (putIf (k = 251) us1 65536).length c ∧ St W.heap.size W w [.rowI (.slice A (putIf (k = 251) us1 65536).length c) (putIf (k = 251) us1 65536)]) rfl ?_ ?_
  · unfold putIf
    refine ifB (fun c0 => ?_) (fun c0 => ?_)
    · refine litIS (xs := [65536]) H (by simp) (by kernel_rfl) fun A1 k1 w H => ?_
      refine appIS H 1 rfl (H.rd 0 rfl) (by first | omega | (simp; omega)) fun A2 k2 w H => ?_
      rw [if_pos c0]; exact ⟨_, _, rfl, H.sub [1] (by decide)⟩
    · rw [if_neg c0]; exact ⟨_, _, rfl, H.sub [0] (by decide)⟩
  rintro e w ⟨A6, k6, h5, H⟩
  rw [Env.one h5]
  exact Exists.intro _ (And.intro rfl (And.intro (H.own 0 rfl) H.below))
def drawET (xs : List Int) : List Int :=
  let rs := xs.take 500
  putIf (rs.headD 0 = 251) (putIf (rs.headD 0 = 250) (dPts 12 (decide (rs.headD 0 % 4 = 0)) rs.tail).1 (-1)) 1114112
theorem dPts_len {rs : List Int} (hb : byteOK rs) (sur : Bool) : (dPts 12 sur rs).1.length ≤ 12 ∧ byteOK (dPts 12 sur rs).2 ∧ ∀ p ∈ (dPts 12 sur rs).1, 0 ≤ p ∧ p ≤ 1114111 := by
  have h1 := head_bd (bs := rs) (i := 0) hb rfl
  obtain ⟨h2, h3, h4⟩ := dPoints_bd (sur := sur) (rs.headD 0 % 12).toNat rs.tail (fun x hx => hb x (List.mem_of_mem_tail hx))
  exact ⟨by unfold dPts; omega, h3, h4⟩
theorem drawET_len {xs : List Int} (hb : byteOK xs) : (drawET xs).length ≤ 20 := by
  unfold drawET
  simp only []
  have h0 : byteOK (xs.take 500).tail := fun x hx => hb x (List.mem_of_mem_take (List.mem_of_mem_tail hx))
  have h2 := putIf_len ((xs.take 500).headD 0 = 251) (putIf ((xs.take 500).headD 0 = 250) (dPts 12 (decide ((xs.take 500).headD 0 % 4 = 0)) (xs.take 500).tail).1 (-1)) 1114112
  have h3 := putIf_len ((xs.take 500).headD 0 = 250) (dPts 12 (decide ((xs.take 500).headD 0 % 4 = 0)) (xs.take 500).tail).1 (-1)
  have h4 := (dPts_len h0 (decide ((xs.take 500).headD 0 % 4 = 0))).1
  omega
theorem ok_DrawEncodeText : callOK Try.prog 42 = true := by kernel_rfl
theorem spec_DrawEncodeText {xs : List Int} (hb : byteOK xs) {A : Option Addr} {n c : Nat} (hl : n ≤ 4294967296) {W : World} (hx : Rd W (.slice A n c) 1 n (xs.map (.int .u8))) :
    Calls Try.prog 42 #[.slice A n c] W fun e w => ∃ x, e = .returned x ∧ OwnI w W.heap.size x (drawET xs) ∧ Below W.heap.size W w := by
  have H := (St.enter W).ro0 rfl hx
  refine calls_of_vcV (args := [.slice A n c]) Try.func42 rfl (by kernel_rfl) (Nat.le_of_ble_eq_true rfl) ?_
  refine CallS.mk ok_l1open ((spec_l1open hl H).mono ?_)
  rintro _ w ⟨g, A1, m, c1, rfl, hm, H⟩
  have hb1 : byteOK (xs.take 500) := hb.take 500
  have hk := head_bd (bs := xs.take 500) (i := 0) hb1 rfl
  refine CallS.mk ok_rdnext ((spec_next hb1 (by omega) (Nat.zero_le _) rfl H).mono ?_)
  rintro _ w ⟨rfl, i1, hi1, hr1, H⟩
  rw [List.drop_zero] at *
  unfold drawET
  simp only []
  have hul := (dPts_len (rs := (xs.take 500).tail) (fun x hx => hb x (List.mem_of_mem_take (List.mem_of_mem_tail hx))) (decide ((xs.take 500).headD 0 % 4 = 0))).1
  generalize (xs.take 500).headD 0 = k at *
  refine rem0 (by omega) (by omega) ?_
  refine CallS.mk ok_l1drawPoints ((spec_l1drawPoints hb1 (decide (k % 4 = 0)) (by omega) hi1 hr1 H).mono ?_)
  rintro _ w ⟨A2, c2, i2, rfl, hi2, hr2, H⟩
  generalize (dPts 12 (decide (k % 4 = 0)) (xs.take 500).tail).1 = us at *
  refine joinV (fun e w => e 4 = .int .i64 k ∧ ∃ A c, e 5 = .slice A (putIf (k = 250) us (-1)).length c ∧ St W.heap.size W w [.rowI (.slice A (putIf (k = 250) us (-1)).length c) (putIf (k = 250) us (-1))]) rfl ?_ ?_
  · unfold putIf
    refine ifB (fun c0 => ?_) (fun c0 => ?_)
    · refine litIS (xs := [-1]) H (by simp) (by kernel_rfl) fun A1 k1 w H => ?_
      refine appIS H 1 rfl (H.rd 0 rfl) (by first | omega | (simp; omega)) fun A2 k2 w H => ?_
      rw [if_pos c0]; exact ⟨rfl, _, _, rfl, H.sub [1] (by decide)⟩
    · rw [if_neg c0]; exact ⟨rfl, _, _, rfl, H.sub [0] (by decide)⟩
  rintro e w ⟨h4, A5, k5, h5, H⟩
  rw [Env.two h4 h5]
  have hpl := putIf_len (k = 250) us (-1)
  generalize putIf (k = 250) us (-1) = us1 at *
  refine joinV (fun e w => ∃ A c, e 5 = .slice A (putIf (k = 251) us1 1114112).length c ∧ St W.heap.size W w [.rowI (.slice A (putIf (k = 251) us1 1114112).length c) (putIf (k = 251) us1 1114112)]) rfl ?_ ?_
  · unfold putIf
    refine ifB (fun c0 => ?_) (fun c0 => ?_)
    · refine litIS (xs := [1114112]) H (by simp) (by kernel_rfl) fun A1 k1 w H => ?_
      refine appIS H 1 rfl (H.rd 0 rfl) (by first | omega | (simp; omega)) fun A2 k2 w H => ?_
      rw [if_pos c0]; exact ⟨_, _, rfl, H.sub [1] (by decide)⟩
    · rw [if_neg c0]; exact ⟨_, _, rfl, H.sub [0] (by decide)⟩
  rintro e w ⟨A6, k6, h5, H⟩
  rw [Env.one h5]
  exact Exists.intro _ (And.intro rfl (And.intro (H.own 0 rfl) H.below))
end Go.Proofs.YtcokdccbfbbhbaaE
