/- What the reference's reader of drawn codes does. -/
import Derived.Test.YtcokdccbfbbhbaaEngG
import Derived.Test.YtcokdccbfbbhbaaTReadS
import Derived.Test.YtcokdccbfbbhbaaPrim4
namespace Go.Proofs.YtcokdccbfbbhbaaE
open Go Go.RowKit Go.Proofs
set_option linter.unusedVariables false
set_option maxHeartbeats 1000000

abbrev rdO (g : Nat) (v : Value) (i : Int) : It := .obj g (.cells #[v, .int .i64 i] 74)
abbrev roBn (v : Value) (n : Nat) (xs : List Int) : It := .ro v 1 n (xs.map (.int .u8))
theorem headD_get (bs : List Int) (i : Nat) : (bs.drop i).headD 0 = bs.getD i 0 := by
  by_cases h : i < bs.length
  · rw [drop_cons bs i h]; rfl
  · rw [List.drop_of_length_le (by omega)]; simp [List.getD_eq_getElem?_getD, List.getElem?_eq_none (by omega : bs.length ≤ i)]
theorem head_bd {bs rs : List Int} (hb : byteOK bs) {i : Nat} (hr : bs.drop i = rs) : 0 ≤ rs.headD 0 ∧ rs.headD 0 < 256 := by
  rw [← hr, headD_get]; exact hb.get i
theorem ok_rdnext : callOK Try.prog 63 = true := by kernel_rfl
theorem spec_next {bs rs : List Int} (hb : byteOK bs) {A : Option Addr} {n c g i : Nat} (hl : n ≤ 4294967296) (hi : i ≤ n) (hr : bs.drop i = rs) {B : Nat} {W0 w : World} {L : List It} (H : St B W0 w (rdO g (.slice A n c) i :: roBn (.slice A n c) n bs :: L)) :
    Calls Try.prog 63 #[.pointer (some ⟨g, 0, none⟩)] w fun e w' => e = .returned (.int .i64 (rs.headD 0)) ∧ ∃ i' : Nat, i' ≤ n ∧ bs.drop i' = rs.tail ∧ St B W0 w' (rdO g (.slice A n c) i' :: roBn (.slice A n c) n bs :: L) := by
  have hx := H.rd 1 rfl
  obtain rfl : n = bs.length := by have := hx.len; simpa using this.symm
  refine calls_of_vcV (args := [.pointer (some ⟨g, 0, none⟩)]) Try.func63 rfl (by kernel_rfl) (Nat.le_of_ble_eq_true rfl) ?_
  have hb0 := hb.get i
  have hd := headD_get bs i
  rw [hr] at hd
  rw [hd]
  refine drawR H fun w H => ?_
  refine loadO H 0 rfl rfl ?_
  refine loadO H 0 rfl rfl ?_
  refine ifB (fun c3 => ?_) (fun c3 => ?_)
  · refine And.intro (congrArg (fun z => Ending.returned (.int .i64 z)) ?_) ⟨i, hi, ?_, H⟩
    · rw [List.getD_eq_getElem?_getD, List.getElem?_eq_none (by omega)]; rfl
    · rw [← hr, List.drop_of_length_le (by omega)]; rfl
  · refine drawR H fun w H => ?_
    refine loadO H 0 rfl rfl ?_
    refine loadO H 0 rfl rfl ?_
    refine idxN (H.rd 1 rfl) (by omega) fun b off hc => ?_
    refine loadS hc ?_
    refine ar64 (by omega) (by omega) ?_
    refine loadO H 0 rfl rfl ?_
    refine arN (by omega) ?_
    refine storeO H 0 rfl rfl rfl fun w H => ?_
    refine And.intro rfl ⟨i + 1, by omega, ?_, H⟩
    rw [← hr, List.tail_drop]
theorem ok_l1open : callOK Try.prog 62 = true := by kernel_rfl
theorem spec_l1open {xs : List Int} {A : Option Addr} {n c : Nat} (hl : n ≤ 4294967296) {B : Nat} {W0 w : World} {L : List It} (H : St B W0 w (roBn (.slice A n c) n xs :: L)) :
    Calls Try.prog 62 #[.slice A n c] w fun e w' => ∃ (g : Nat) (A' : Option Addr) (m c' : Nat), e = .returned (.pointer (some ⟨g, 0, none⟩)) ∧ m ≤ 500 ∧ St B W0 w' (rdO g (.slice A' m c') (0 : Nat) :: roBn (.slice A' m c') m (xs.take 500) :: roBn (.slice A n c) n xs :: L) := by
  have hx := H.rd 0 rfl
  obtain rfl : n = xs.length := by have := hx.len; simpa using this.symm
  refine calls_of_vcV (args := [.slice A xs.length c]) Try.func62 rfl (by kernel_rfl) (Nat.le_of_ble_eq_true rfl) ?_
  refine joinV (fun e w => e 0 = .slice A xs.length c ∧ e 3 = .int .i64 (min xs.length 500 : Nat) ∧ St B W0 w (roBn (.slice A xs.length c) xs.length xs :: L)) rfl ?_ ?_
  · refine ifB (fun c0 => ?_) (fun c0 => ?_)
    · exact ⟨rfl, congrArg (Value.int .i64) (by omega), H⟩
    · exact ⟨rfl, congrArg (Value.int .i64) (by omega), H⟩
  rintro e w ⟨h0, h3, H⟩
  rw [Env.two h0 h3]
  refine sliceR (l := 0) (h := min xs.length 500) H 0 rfl rfl rfl (by omega) (by omega) fun A1 H => ?_
  refine RunS.mk ⟨.agg #[.slice A1 (min xs.length 500 - 0) (c - 0), .int .i64 0], w, by kernel_rfl, ?_⟩
  refine newR (o := .cells #[.slice A1 (min xs.length 500 - 0) (c - 0), .int .i64 0] _) H fun g2 w H => ?_
  have e : (xs.take (min xs.length 500)).drop 0 = xs.take 500 := by
    rw [List.drop_zero]
    by_cases h : xs.length ≤ 500
    · rw [Nat.min_eq_left h, List.take_length, List.take_of_length_le h]
    · rw [Nat.min_eq_right (by omega)]
  rw [e] at H
  exact Exists.intro g2 (Exists.intro A1 (Exists.intro (min xs.length 500 - 0) (Exists.intro (c - 0) (And.intro rfl (And.intro (by omega) H)))))
def oddL : List Int := [0, 9, 10, 13, 31, 32, 34, 39, 92, 47, 42, 127, 128, 160, 233, 2047, 2048, 8232, 8233, 65279, 65535, 65536, 128512, 1114111, 48, 57, 110, 117, 120, 36]
def surL : List Int := [55296, 56319, 56320, 57343]
def dPoint (sur : Bool) (rs : List Int) : Int :=
  if rs.headD 0 < 150 then 97 + rs.headD 0 % 20 else if rs.headD 0 < 240 then oddL.getD (rs.headD 0 % 30).toNat 0 else if sur then surL.getD (rs.headD 0 % 4).toNat 0 else 945 + rs.headD 0 % 16
def dPoints (sur : Bool) : Nat → List Int → List Int × List Int
  | 0, rs => ([], rs)
  | n + 1, rs => (dPoint sur rs :: (dPoints sur n rs.tail).1, (dPoints sur n rs.tail).2)
def dPts (most : Int) (sur : Bool) (rs : List Int) : List Int × List Int := dPoints sur (rs.headD 0 % most).toNat rs.tail
def dUs : Nat → List Int → List Int × List Int
  | 0, rs => ([], rs)
  | n + 1, rs =>
    if rs.headD 0 % 5 = 0 then ((55296 + rs.headD 0 * 4) :: (dUs n rs.tail).1, (dUs n rs.tail).2) else
    if rs.headD 0 % 5 = 1 then ((56320 + rs.headD 0 * 4) :: (dUs n rs.tail).1, (dUs n rs.tail).2) else
    (dPoint true rs.tail % 65536 :: (dUs n rs.tail.tail).1, (dUs n rs.tail.tail).2)
theorem oddL_bd (i : Nat) : 0 ≤ oddL.getD i 0 ∧ oddL.getD i 0 ≤ 1114111 := by
  have key : ∀ x ∈ oddL, 0 ≤ x ∧ x ≤ 1114111 := by decide
  by_cases h : i < oddL.length
  · refine key _ ?_; rw [List.getD_eq_getElem?_getD, List.getElem?_eq_getElem h]; exact List.getElem_mem h
  · rw [List.getD_eq_getElem?_getD, List.getElem?_eq_none (by omega)]; simp
theorem surL_bd (i : Nat) : 0 ≤ surL.getD i 0 ∧ surL.getD i 0 ≤ 1114111 := by
  have key : ∀ x ∈ surL, 0 ≤ x ∧ x ≤ 1114111 := by decide
  by_cases h : i < surL.length
  · refine key _ ?_; rw [List.getD_eq_getElem?_getD, List.getElem?_eq_getElem h]; exact List.getElem_mem h
  · rw [List.getD_eq_getElem?_getD, List.getElem?_eq_none (by omega)]; simp
theorem dPoint_bd {sur : Bool} {rs : List Int} (h : 0 ≤ rs.headD 0 ∧ rs.headD 0 < 256) : 0 ≤ dPoint sur rs ∧ dPoint sur rs ≤ 1114111 := by
  unfold dPoint
  have h1 := oddL_bd (rs.headD 0 % 30).toNat
  have h2 := surL_bd (rs.headD 0 % 4).toNat
  (repeat' split) <;> omega
theorem ok_l1drawPoint : callOK Try.prog 75 = true := by kernel_rfl
theorem spec_l1drawPoint {bs rs : List Int} (hb : byteOK bs) (sur : Bool) {A : Option Addr} {n c g i : Nat} (hl : n ≤ 4294967296) (hi : i ≤ n) (hr : bs.drop i = rs) {B : Nat} {W0 w : World} {L : List It} (H : St B W0 w (rdO g (.slice A n c) i :: roBn (.slice A n c) n bs :: L)) :
    Calls Try.prog 75 #[.pointer (some ⟨g, 0, none⟩), .bool sur] w fun e w' => e = .returned (.int .i64 (dPoint sur rs)) ∧ ∃ i' : Nat, i' ≤ n ∧ bs.drop i' = rs.tail ∧ St B W0 w' (rdO g (.slice A n c) i' :: roBn (.slice A n c) n bs :: L) := by
  have hd := head_bd hb hr
  obtain ⟨d, hD⟩ : ∃ d, dPoint sur rs = d := ⟨_, rfl⟩
  rw [hD]
  unfold dPoint at hD
  have fin : ∀ {x : Int} {i' : Nat} {w' : World}, d = x → i' ≤ n → bs.drop i' = rs.tail → St B W0 w' (rdO g (.slice A n c) i' :: roBn (.slice A n c) n bs :: L) → Ending.returned (.int .i64 x) = .returned (.int .i64 d) ∧ ∃ i' : Nat, i' ≤ n ∧ bs.drop i' = rs.tail ∧ St B W0 w' (rdO g (.slice A n c) i' :: roBn (.slice A n c) n bs :: L) :=
    fun e h1 h2 h3 => ⟨by rw [e], _, h1, h2, h3⟩
  refine calls_of_vcV (args := [.pointer (some ⟨g, 0, none⟩), .bool sur]) Try.func75 rfl (by kernel_rfl) (Nat.le_of_ble_eq_true rfl) ?_
  refine CallS.mk ok_rdnext ((spec_next hb hl hi hr H).mono ?_)
  rintro _ w ⟨rfl, i1, hi1, hr1, H⟩
  generalize rs.headD 0 = k at *
  refine ifB (fun c0 => ?_) (fun c0 => ?_)
  · refine rem0 (by omega) (by omega) ?_
    refine ar64 (by omega) (by omega) ?_
    exact fin (by rw [← hD, if_pos c0]) hi1 hr1 H
  · refine litIS (xs := [0, 9, 10, 13, 31, 32, 34, 39, 92, 47, 42, 127, 128, 160, 233, 2047, 2048, 8232, 8233, 65279, 65535, 65536, 128512, 1114111, 48, 57, 110, 117, 120, 36]) H (by simp) (by kernel_rfl) fun A3 k3 w H => ?_
    refine ifB (fun c4 => ?_) (fun c4 => ?_)
    · refine rem0 (by omega) (by omega) ?_
      refine idxI (n := 30) (xs := oddL) (H.rd 0 rfl) (by omega) (by omega) fun b off hc => ?_
      refine loadS hc ?_
      exact fin (by rw [← hD, if_neg c0, if_pos c4]) hi1 hr1 H.tl
    · refine ifNot ?_
      refine ifO (fun c9 => ?_) (fun c9 => ?_)
      · refine litIS (xs := [55296, 56319, 56320, 57343]) H (by simp) (by kernel_rfl) fun A10 k10 w H => ?_
        refine rem0 (by omega) (by omega) ?_
        refine idxI (n := 4) (xs := surL) (H.rd 0 rfl) (by omega) (by omega) fun b off hc => ?_
        refine loadS hc ?_
        exact fin (by rw [← hD, if_neg c0, if_neg c4, if_pos c9]) hi1 hr1 H.tl.tl
      · refine rem0 (by omega) (by omega) ?_
        refine ar64 (by omega) (by omega) ?_
        exact fin (by rw [← hD, if_neg c0, if_neg c4, if_neg (by simp [c9])]) hi1 hr1 H.tl
theorem dPoints_bd {sur : Bool} : ∀ (n : Nat) (rs : List Int), byteOK rs → (dPoints sur n rs).1.length = n ∧ byteOK (dPoints sur n rs).2 ∧ ∀ p ∈ (dPoints sur n rs).1, 0 ≤ p ∧ p ≤ 1114111
  | 0, rs, h => ⟨rfl, h, by simp [dPoints]⟩
  | n + 1, rs, h => by
    have h1 : byteOK rs.tail := fun x hx => h x (List.mem_of_mem_tail hx)
    obtain ⟨h2, h3, h4⟩ := dPoints_bd n rs.tail h1
    refine ⟨by simp [dPoints, h2], h3, fun p hp => ?_⟩
    rcases List.mem_cons.1 hp with rfl | hp
    · exact dPoint_bd (head_bd (bs := rs) (i := 0) h rfl)
    · exact h4 p hp
theorem ok_l1drawPoints : callOK Try.prog 65 = true := by kernel_rfl
theorem spec_l1drawPoints {bs rs : List Int} (hb : byteOK bs) (sur : Bool) {A : Option Addr} {n c g i : Nat} (hl : n ≤ 4294967296) (hi : i ≤ n) (hr : bs.drop i = rs) {B : Nat} {W0 w : World} {L : List It} (H : St B W0 w (rdO g (.slice A n c) i :: roBn (.slice A n c) n bs :: L)) :
    Calls Try.prog 65 #[.pointer (some ⟨g, 0, none⟩), .int .i64 12, .bool sur] w fun e w' => ∃ A1 c1 i', e = .returned (.slice A1 (dPts 12 sur rs).1.length c1) ∧ i' ≤ n ∧ bs.drop i' = (dPts 12 sur rs).2 ∧ St B W0 w' (.rowI (.slice A1 (dPts 12 sur rs).1.length c1) (dPts 12 sur rs).1 :: rdO g (.slice A n c) i' :: roBn (.slice A n c) n bs :: L) := by
  have hd := head_bd hb hr
  refine calls_of_vcV (args := [.pointer (some ⟨g, 0, none⟩), .int .i64 12, .bool sur]) Try.func65 rfl (by kernel_rfl) (Nat.le_of_ble_eq_true rfl) ?_
  refine CallS.mk ok_rdnext ((spec_next hb hl hi hr H).mono ?_)
  rintro _ w ⟨rfl, i1, hi1, hr1, H⟩
  unfold dPts
  generalize rs.headD 0 = k at *
  generalize rs.tail = rs at *
  refine rem0 (by omega) (by omega) ?_
  obtain ⟨m, hm⟩ : ∃ m : Nat, k % 12 = m := ⟨(k % 12).toNat, by omega⟩
  have hm12 : m < 12 := by omega
  rw [hm, show (m : Int).toNat = m by omega]
  obtain ⟨r, hR⟩ : ∃ r, dPoints sur m rs = r := ⟨_, rfl⟩
  rw [hR]
  have H := H.rowNil (e := 3) (sz := 1)
  refine loopV (by kernel_rfl) (fun q e w => e 0 = .pointer (some ⟨g, 0, none⟩) ∧ e 2 = .bool sur ∧ e 7 = .int .i64 m ∧ ∃ (v : Value) (acc : List Int) (j i' : Nat) (rs' : List Int), e 8 = v ∧ e 9 = .int .i64 j ∧ j + q = m ∧ acc.length = j ∧ i' ≤ n ∧ bs.drop i' = rs' ∧ r = (acc ++ (dPoints sur q rs').1, (dPoints sur q rs').2) ∧ St B W0 w (.rowI v acc :: rdO g (.slice A n c) i' :: roBn (.slice A n c) n bs :: L)) m
    ⟨rfl, rfl, rfl, _, [], 0, i1, rs, rfl, rfl, by omega, rfl, hi1, hr1, hR.symm, H⟩ ?_
  rintro q e w ⟨h0, h2, h7, v, acc, j, i', rs', h8, h9, hq, hac, hi', hr', hr2, H⟩
  rw [Env.five h0 h2 h7 h8 h9]
  refine ifB (fun h => ?_) (fun h => ?_)
  case refine_2 =>
    obtain rfl : q = 0 := by omega
    obtain ⟨A1, c1, rfl⟩ := own_val (H.own 0 rfl)
    simp only [dPoints, List.append_nil] at hr2
    subst hr2
    exact Exists.intro A1 (Exists.intro c1 (Exists.intro i' (And.intro rfl (And.intro hi' (And.intro hr' H)))))
  obtain ⟨q, rfl⟩ : ∃ q', q = q' + 1 := ⟨q - 1, by omega⟩
  have H := H.sink2
  refine CallS.mk ok_l1drawPoint ((spec_l1drawPoint hb sur hl hi' hr' H).mono ?_)
  rintro _ w ⟨rfl, i2, hi2, hr2', H⟩
  refine litIS (xs := [dPoint sur rs']) H (by simp) (by kernel_rfl) fun A0 k0 w H => ?_
  refine appIS H 3 rfl (H.rd 0 rfl) (by first | omega | (simp; omega)) fun A1 k1 w H => ?_
  refine arN (by omega) ?_
  exact Exists.intro q (And.intro (by omega) ⟨rfl, rfl, rfl, _, acc ++ [dPoint sur rs'], j + 1, i2, rs'.tail, rfl, rfl, by omega, by simp [hac], hi2, hr2', by rw [hr2]; simp [dPoints], H.tl.rot3⟩)
end Go.Proofs.YtcokdccbfbbhbaaE
