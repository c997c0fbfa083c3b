/- What the reference draws: bytes. -/
import Derived.Test.YtcokdccbfbbhbaaTDraw2
namespace Go.Proofs.YtcokdccbfbbhbaaE
open Go Go.RowKit Go.Proofs
set_option linter.unusedVariables false
set_option maxHeartbeats 2000000

def oddB : List (List Int) := [[192, 128], [193, 191], [224, 159, 191], [224, 160, 128], [237, 160, 128], [237, 159, 191], [240, 143, 191, 191], [240, 144, 128, 128], [244, 143, 191, 191], [244, 144, 128, 128], [245], [128]]
def dt1 (k : Int) (b rs : List Int) : List Int × List Int := if k % 3 = 0 ∧ 0 < b.length then (b.set (rs.headD 0 % b.length).toNat (rs.tail.headD 0), rs.tail.tail) else (b, rs)
def dt2 (k : Int) (b rs : List Int) : List Int := if k % 3 = 1 ∧ 0 < b.length then b.take (rs.headD 0 % b.length).toNat else b
def dt3 (k : Int) (b : List Int) : List Int := if k % 6 = 2 then b ++ oddB.getD (k / 6 % 12).toNat [] else b
def drawDT (xs : List Int) : List Int :=
  let rs := xs.take 500
  let p := dPts 12 false rs.tail
  let q := dt1 (rs.headD 0) (encR p.1).1 p.2
  dt3 (rs.headD 0) (dt2 (rs.headD 0) q.1 q.2)
theorem encR_bytes (ps : List Int) : byteOK (encR ps).1 := by
  unfold encR
  cases h : encAll ps with
  | none => exact byteOK.nil
  | some b => simpa [encAns] using (encAll_bytes ps b h).1
theorem tail_ok {rs : List Int} (h : byteOK rs) : byteOK rs.tail := fun x hx => h x (List.mem_of_mem_tail hx)
theorem dt1_ok {k : Int} {b rs : List Int} (hb : byteOK b) (hr : byteOK rs) : byteOK (dt1 k b rs).1 ∧ byteOK (dt1 k b rs).2 ∧ (dt1 k b rs).1.length = b.length := by
  unfold dt1
  split
  · refine ⟨fun x hx => ?_, tail_ok (tail_ok hr), by simp⟩
    rcases List.mem_or_eq_of_mem_set hx with h | h
    · exact hb x h
    · subst h; have := head_bd (bs := rs.tail) (i := 0) (tail_ok hr) rfl; exact this
  · exact ⟨hb, hr, rfl⟩
theorem dt2_ok {k : Int} {b rs : List Int} (hb : byteOK b) : byteOK (dt2 k b rs) ∧ (dt2 k b rs).length ≤ b.length := by
  unfold dt2
  split
  · exact ⟨hb.take _, by rw [List.length_take]; omega⟩
  · exact ⟨hb, Nat.le_refl _⟩
theorem oddB_ok (j : Nat) : byteOK (oddB.getD j []) ∧ (oddB.getD j []).length ≤ 4 := by
  have key : ∀ x ∈ oddB, (∀ y ∈ x, 0 ≤ y ∧ y < 256) ∧ x.length ≤ 4 := by decide
  by_cases h : j < oddB.length
  · refine key _ ?_; rw [List.getD_eq_getElem?_getD, List.getElem?_eq_getElem h]; exact List.getElem_mem h
  · rw [List.getD_eq_getElem?_getD, List.getElem?_eq_none (by omega)]; exact ⟨byteOK.nil, by simp⟩
theorem drawDT_ok {xs : List Int} (hb : byteOK xs) : byteOK (drawDT xs) ∧ (drawDT xs).length ≤ 60 := by
  have h1 := dPts_len (rs := (xs.take 500).tail) (tail_ok (hb.take 500)) false
  have h2 := encR_bytes (dPts 12 false (xs.take 500).tail).1
  have h3 := encR_len (dPts 12 false (xs.take 500).tail).1
  have h4 := dt1_ok (k := (xs.take 500).headD 0) h2 h1.2.1
  have h5 := dt2_ok (k := (xs.take 500).headD 0) (rs := (dt1 ((xs.take 500).headD 0) (encR (dPts 12 false (xs.take 500).tail).1).1 (dPts 12 false (xs.take 500).tail).2).2) h4.1
  have h6 := oddB_ok ((xs.take 500).headD 0 / 6 % 12).toNat
  unfold drawDT dt3
  simp only []
  split
  · exact ⟨h5.1.app h6.1, by rw [List.length_append]; omega⟩
  · exact ⟨h5.1, by omega⟩
theorem ok_DrawDecodeText : callOK Try.prog 43 = true := by kernel_rfl
theorem spec_DrawDecodeText {xs : List Int} (hb : byteOK xs) {A : Option Addr} {n c : Nat} (hl : n ≤ 4294967296) {W : World} (hx : Rd W (.slice A n c) 1 n (xs.map (.int .u8))) :
    Calls Try.prog 43 #[.slice A n c] W fun e w => ∃ x, e = .returned x ∧ OwnB w W.heap.size x (drawDT xs) ∧ Below W.heap.size W w := by
  have H := (St.enter W).ro0 rfl hx
  refine calls_of_vcV (args := [.slice A n c]) Try.func43 rfl (by kernel_rfl) (Nat.le_of_ble_eq_true rfl) ?_
  refine CallS.mk ok_l1open ((spec_l1open hl H).mono ?_)
  rintro _ w ⟨g, A1, m, c1, rfl, hm, H⟩
  have hb1 : byteOK (xs.take 500) := hb.take 500
  have hk := head_bd (bs := xs.take 500) (i := 0) hb1 rfl
  refine CallS.mk ok_rdnext ((spec_next hb1 (by omega) (Nat.zero_le _) rfl H).mono ?_)
  rintro _ w ⟨rfl, i1, hi1, hr1, H⟩
  rw [List.drop_zero] at *
  have hp := dPts_len (rs := (xs.take 500).tail) (tail_ok hb1) false
  unfold drawDT
  simp only []
  generalize (xs.take 500).headD 0 = k at *
  refine CallS.mk ok_l1drawPoints ((spec_l1drawPoints hb1 false (by omega) hi1 hr1 H).mono ?_)
  rintro _ w ⟨A2, c2, i2, rfl, hi2, hr2, H⟩
  generalize dPts 12 false (xs.take 500).tail = P at *
  obtain ⟨ps, rs⟩ := P
  have hps : ps.length ≤ 12 := hp.1
  have hrs : byteOK rs := hp.2.1
  have hr2 : (xs.take 500).drop i2 = rs := hr2
  refine callRow2 ok_spec_EncodeText (spec_EncodeText ps A2 c2 w (H.rd 0 rfl) (by omega)) H fun A3 cb w H => ?_
  have hbe := encR_bytes ps
  have hle := encR_len ps
  generalize (encR ps).1 = b at *
  have H : St W.heap.size W w [.rowB (.slice A3 b.length cb) b, rdO g (.slice A1 m c1) i2, roBn (.slice A1 m c1) m (xs.take 500)] := H.sub [0, 2, 3] (by decide)
  refine joinV (fun e w => e 3 = .pointer (some ⟨g, 0, none⟩) ∧ e 4 = .int .i64 k ∧ ∃ (b1 rs1 : List Int) (i3 : Nat), dt1 k b rs = (b1, rs1) ∧ e 5 = .slice A3 b1.length cb ∧ i3 ≤ m ∧ (xs.take 500).drop i3 = rs1 ∧ St W.heap.size W w [.rowB (.slice A3 b1.length cb) b1, rdO g (.slice A1 m c1) i3, roBn (.slice A1 m c1) m (xs.take 500)]) rfl ?_ ?_
  · unfold dt1
    refine RegV.mk ?_
    refine rem0 (by omega) (by omega) ?_
    refine gT (fun c2 => ?_) (fun c2 => ?_)
    · refine ifB (fun c3 => ?_) (fun c3 => ?_)
      · have H := H.sink2
        have hh := head_bd hb1 hr2
        have ht := head_bd (bs := rs.tail) (i := 0) (tail_ok hrs) rfl
        rw [List.drop_zero] at ht
        rw [if_pos ⟨c2, by omega⟩]
        refine CallS.mk ok_rdnext ((spec_next hb1 (by omega) hi2 hr2 H).mono ?_)
        rintro _ w ⟨rfl, i4, hi4, hr4, H⟩
        refine rem0 (by omega) (by omega) ?_
        refine CallS.mk ok_rdnext ((spec_next hb1 (by omega) hi4 hr4 H).mono ?_)
        rintro _ w ⟨rfl, i5, hi5, hr5, H⟩
        have hq0 : 0 ≤ rs.headD 0 % (b.length : Int) := Int.emod_nonneg _ (by omega)
        have hq1 : rs.headD 0 % (b.length : Int) < b.length := Int.emod_lt_of_pos _ (by omega)
        refine ar8 (by omega) (by omega) ?_
        (refine idxRow H 2 rfl hq0 (by omega) fun b0 hA hc => ?_; subst hA)
        refine storeRowN H 2 rfl (rs.headD 0 % (b.length : Int)).toNat ((Nat.zero_add _).trans (Nat.mul_one _)) (by omega) rfl fun w H => ?_
        have H : St W.heap.size W w [.row (.slice (some ⟨b0, 0, none⟩) b.length cb) 5 1 b.length ((b.map (Value.int .u8)).set (rs.headD 0 % (b.length : Int)).toNat (.int .u8 (rs.tail.headD 0))), rdO g (.slice A1 m c1) i5, roBn (.slice A1 m c1) m (xs.take 500)] := H.rot3
        exact ⟨rfl, rfl, b.set (rs.headD 0 % (b.length : Int)).toNat (rs.tail.headD 0), rs.tail.tail, i5, rfl, congrArg (fun z => Value.slice (some ⟨b0, 0, none⟩) z cb) (List.length_set).symm, hi5, hr5, H.setB⟩
      · rw [if_neg (by omega)]
        exact ⟨rfl, rfl, b, rs, i2, rfl, rfl, hi2, hr2, H⟩
    · refine ifF ?_
      rw [if_neg (by omega)]
      exact ⟨rfl, rfl, b, rs, i2, rfl, rfl, hi2, hr2, H⟩
  have hd1 := dt1_ok (k := k) hbe hrs
  rintro e w ⟨h3, h4, b1, rs1, i3, hdt, h5, hi3, hr3, H⟩
  rw [hdt] at hd1 ⊢
  rw [Env.three h3 h4 h5]
  simp only [] at hd1 ⊢
  refine joinV (fun e w => e 4 = .int .i64 k ∧ e 5 = .slice A3 (dt2 k b1 rs1).length cb ∧ St W.heap.size W w [.rowB (.slice A3 (dt2 k b1 rs1).length cb) (dt2 k b1 rs1)]) rfl ?_ ?_
  · unfold dt2
    refine RegV.mk ?_
    refine rem0 (by omega) (by omega) ?_
    refine gT (fun c2 => ?_) (fun c2 => ?_)
    · refine ifB (fun c3 => ?_) (fun c3 => ?_)
      · rw [if_pos ⟨c2, by omega⟩]
        have H := H.sink2
        have hh := head_bd hb1 hr3
        refine CallS.mk ok_rdnext ((spec_next hb1 (by omega) hi3 hr3 H).mono ?_)
        rintro _ w ⟨rfl, i4, hi4, hr4, H⟩
        have hq0 : 0 ≤ rs1.headD 0 % (b1.length : Int) := Int.emod_nonneg _ (by omega)
        have hq1 : rs1.headD 0 % (b1.length : Int) < b1.length := Int.emod_lt_of_pos _ (by omega)
        have hlt : (b1.take (rs1.headD 0 % (b1.length : Int)).toNat).length = (rs1.headD 0 % (b1.length : Int)).toNat := by rw [List.length_take]; omega
        refine rem0 (by omega) (by omega) ?_
        refine cutRow (sz := 1) (h := (rs1.headD 0 % (b1.length : Int)).toNat) H 2 rfl rfl (by simp only [Option.getD_some]; omega) (by omega) fun H => ?_
        exact ⟨rfl, by rw [hlt]; rfl, St.takeB (by omega) (H.sub [2] (by decide))⟩
      · rw [if_neg (by omega)]
        exact ⟨rfl, rfl, H.sub [0] (by decide)⟩
    · refine ifF ?_
      rw [if_neg (by omega)]
      exact ⟨rfl, rfl, H.sub [0] (by decide)⟩
  have hd2 := dt2_ok (k := k) (rs := rs1) hd1.1
  rintro e w ⟨h4, h5, H⟩
  rw [Env.two h4 h5]
  generalize dt2 k b1 rs1 = b2 at *
  refine joinV (fun e w => ∃ v, e 5 = v ∧ St W.heap.size W w [.rowB v (dt3 k b2)]) rfl ?_ ?_
  · unfold dt3
    refine rem0 (by omega) (by omega) ?_
    refine ifB (fun c1 => ?_) (fun c1 => ?_)
    · refine litBS (xs := [192, 128]) H (by simp) (by kernel_rfl) fun A2 k2 w H => ?_
      refine litBS (xs := [193, 191]) H (by simp) (by kernel_rfl) fun A3 k3 w H => ?_
      refine litBS (xs := [224, 159, 191]) H (by simp) (by kernel_rfl) fun A4 k4 w H => ?_
      refine litBS (xs := [224, 160, 128]) H (by simp) (by kernel_rfl) fun A5 k5 w H => ?_
      refine litBS (xs := [237, 160, 128]) H (by simp) (by kernel_rfl) fun A6 k6 w H => ?_
      refine litBS (xs := [237, 159, 191]) H (by simp) (by kernel_rfl) fun A7 k7 w H => ?_
      refine litBS (xs := [240, 143, 191, 191]) H (by simp) (by kernel_rfl) fun A8 k8 w H => ?_
      refine litBS (xs := [240, 144, 128, 128]) H (by simp) (by kernel_rfl) fun A9 k9 w H => ?_
      refine litBS (xs := [244, 143, 191, 191]) H (by simp) (by kernel_rfl) fun A10 k10 w H => ?_
      refine litBS (xs := [244, 144, 128, 128]) H (by simp) (by kernel_rfl) fun A11 k11 w H => ?_
      refine litBS (xs := [245]) H (by simp) (by kernel_rfl) fun A12 k12 w H => ?_
      refine litBS (xs := [128]) H (by simp) (by kernel_rfl) fun A13 k13 w H => ?_
      rw [if_pos c1]
      refine litR (e := 30) (n := 12) (sz := 1) (cs := [.slice A2 2 k2, .slice A3 2 k3, .slice A4 3 k4, .slice A5 3 k5, .slice A6 3 k6, .slice A7 3 k7, .slice A8 4 k8, .slice A9 4 k9, .slice A10 4 k10, .slice A11 4 k11, .slice A12 1 k12, .slice A13 1 k13]) H rfl (by omega) (by kernel_rfl) fun A14 k14 w H => ?_
      have key : ∀ j : Nat, j < 12 → ∃ v, ([.slice A2 2 k2, .slice A3 2 k3, .slice A4 3 k4, .slice A5 3 k5, .slice A6 3 k6, .slice A7 3 k7, .slice A8 4 k8, .slice A9 4 k9, .slice A10 4 k10, .slice A11 4 k11, .slice A12 1 k12, .slice A13 1 k13] : List Value)[j]? = some v ∧ RdB w v (oddB.getD j []) := by
        intro j hj
        match j, hj with
        | 0, _ => exact ⟨_, rfl, H.rd 12 rfl⟩
        | 1, _ => exact ⟨_, rfl, H.rd 11 rfl⟩
        | 2, _ => exact ⟨_, rfl, H.rd 10 rfl⟩
        | 3, _ => exact ⟨_, rfl, H.rd 9 rfl⟩
        | 4, _ => exact ⟨_, rfl, H.rd 8 rfl⟩
        | 5, _ => exact ⟨_, rfl, H.rd 7 rfl⟩
        | 6, _ => exact ⟨_, rfl, H.rd 6 rfl⟩
        | 7, _ => exact ⟨_, rfl, H.rd 5 rfl⟩
        | 8, _ => exact ⟨_, rfl, H.rd 4 rfl⟩
        | 9, _ => exact ⟨_, rfl, H.rd 3 rfl⟩
        | 10, _ => exact ⟨_, rfl, H.rd 2 rfl⟩
        | 11, _ => exact ⟨_, rfl, H.rd 1 rfl⟩
        | j + 12, h => omega
      refine div64 (by omega) (by omega) (by omega) ?_
      refine rem0 (by omega) (by omega) ?_
      have hj0 : 0 ≤ k / 6 % 12 := by omega
      refine idxRow H 0 rfl hj0 (by omega) fun b0 hA hc => ?_
      obtain ⟨v, hv, hR⟩ := key (k / 6 % 12).toNat (by omega)
      have hc := (hc (0 + (k / 6 % 12).toNat * 1) (by show _ < 12; omega)).trans (show _ = some v by rw [show 0 + (k / 6 % 12).toNat * 1 = (k / 6 % 12).toNat by omega]; exact hv)
      refine loadS hc ?_
      have ho := oddB_ok (k / 6 % 12).toNat
      refine appSB H 13 rfl hR (by omega) fun v2 w H => ?_
      exact Exists.intro _ (And.intro rfl (H.sub [13] (by decide)))
    · rw [if_neg c1]
      exact Exists.intro _ (And.intro rfl H)
  rintro e w ⟨v, h5, H⟩
  rw [Env.one h5]
  exact Exists.intro _ (And.intro rfl (And.intro (H.own 0 rfl) H.below))
end Go.Proofs.YtcokdccbfbbhbaaE
