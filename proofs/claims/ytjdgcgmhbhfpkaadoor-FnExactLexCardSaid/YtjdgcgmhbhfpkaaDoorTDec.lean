/- What the program's functions do that read UTF-8. -/
import Derived.Test.YtjdgcgmhbhfpkaaDoorEngS
import Derived.Test.YtjdgcgmhbhfpkaaDoorPrim2
import Derived.Test.YtjdgcgmhbhfpkaaDoorTEnc
namespace Go.Proofs.YtjdgcgmhbhfpkaaDoorE
open Go Go.RowKit Go.Proofs
set_option linter.unusedVariables false
set_option linter.unusedSimpArgs false
set_option maxRecDepth 100000

theorem and192 (c : Int) (h0 : 0 ≤ c) (h1 : c < 256) : bits .and .u8 c 192 = c / 64 * 64 := by
  have key : ∀ k : Fin 256, bits .and .u8 (k.val : Int) 192 = (k.val : Int) / 64 * 64 := by decide +kernel
  obtain ⟨n, rfl⟩ := Int.eq_ofNat_of_zero_le h0
  exact key ⟨n, by omega⟩
def formN (c : Int) : Int × Int × Int := if c < 128 then (0, c, 0) else if 194 ≤ c ∧ c < 224 then (1, c % 32, 128) else if 224 ≤ c ∧ c < 240 then (2, c % 16, 2048) else if 240 ≤ c ∧ c < 245 then (3, c % 8, 65536) else (-1, 0, 0)
theorem ok_form : callOK Tryd.prog 45 = true := by kernel_rfl
theorem impl_form (c : Int) (h0 : 0 ≤ c) (h1 : c < 256) (W : World) : GivesV Tryd.prog 45 [.int .u8 c] W (.tuple #[.int .i64 (formN c).1, .int .i32 (formN c).2.1, .int .i32 (formN c).2.2]) := by
  have H := St.enter W
  obtain ⟨r, hr⟩ : ∃ r, formN c = r := ⟨_, rfl⟩
  rw [hr]
  refine calls_of_vcV Tryd.func45 rfl (by kernel_rfl) (Nat.le_of_ble_eq_true rfl) ?_
  repeat' first | (refine gY ?_) | (refine gNt ?_) | (refine gNf ?_) | (refine ifT ?_) | (refine ifF ?_) | (refine arN (by omega) ?_) | (refine ar64 (by omega) (by omega) ?_) | (refine ar32 (by omega) (by omega) ?_) | (refine ar8 (by omega) (by omega) ?_) | (refine div64 (by omega) (by omega) (by omega) ?_) | (refine rem0 (by omega) (by omega) ?_) | (refine drawR H fun w H => ?_) | (refine RegV.mk ?_) | (refine JoinV.mk ?_) | (refine and31S (by omega) (by omega) ?_) | (refine and15S (by omega) (by omega) ?_) | (refine and7S (by omega) (by omega) ?_) | (refine gT (fun h => ?_) (fun h => ?_) <;> first | (exfalso; omega) | skip) | (refine gF (fun h => ?_) (fun h => ?_) <;> first | (exfalso; omega) | skip) | (refine ifB (fun h => ?_) (fun h => ?_) <;> first | (exfalso; omega) | skip)
  all_goals first
    | (have e : r = (0, c, 0) := by (rw [← hr]; unfold formN; rw [if_pos (by omega)])
       subst e
       exact Exists.intro (.tuple #[.int .i64 0, .int .i32 c, .int .i32 0]) (And.intro rfl (And.intro rfl H)))
    | (have e : r = (1, c % 32, 128) := by (rw [← hr]; unfold formN; rw [if_neg (by omega), if_pos (by omega)])
       subst e
       exact Exists.intro (.tuple #[.int .i64 1, .int .i32 (c % 32), .int .i32 128]) (And.intro rfl (And.intro rfl H)))
    | (have e : r = (2, c % 16, 2048) := by (rw [← hr]; unfold formN; rw [if_neg (by omega), if_neg (by omega), if_pos (by omega)])
       subst e
       exact Exists.intro (.tuple #[.int .i64 2, .int .i32 (c % 16), .int .i32 2048]) (And.intro rfl (And.intro rfl H)))
    | (have e : r = (3, c % 8, 65536) := by (rw [← hr]; unfold formN; rw [if_neg (by omega), if_neg (by omega), if_neg (by omega), if_pos (by omega)])
       subst e
       exact Exists.intro (.tuple #[.int .i64 3, .int .i32 (c % 8), .int .i32 65536]) (And.intro rfl (And.intro rfl H)))
    | (have e : r = (-1, 0, 0) := by (rw [← hr]; unfold formN; rw [if_neg (by omega), if_neg (by omega), if_neg (by omega), if_neg (by omega)])
       subst e
       exact Exists.intro (.tuple #[.int .i64 (-1), .int .i32 0, .int .i32 0]) (And.intro rfl (And.intro rfl H)))
/-- one more byte -/
def more (xs : List Int) (s : Nat × Bool × Int) : Nat × Bool × Int := (s.1 + 1, s.2.1 && decide (xs.getD s.1 0 / 64 = 2), s.2.2 * 64 + xs.getD s.1 0 % 64)
theorem ok_rdec : callOK Tryd.prog 46 = true := by kernel_rfl
theorem impl_rdec {xs : List Int} (hb : byteOK xs) {A : Option Addr} {n c : Nat} {s : Nat × Bool × Int} (hs : s.1 < n) (hv : 0 ≤ s.2.2 ∧ s.2.2 < 33554432) (hl : n ≤ 4294967296) {gb ga gg gv B : Nat} {W0 w : World}
    (H : St B W0 w [.obj gv (.cells #[.int .i32 s.2.2] 21), .obj gg (.cells #[.bool s.2.1] 4), .obj ga (.cells #[.int .i64 s.1] 3), .obj gb (.cells #[.slice A n c] 22), .ro (.slice A n c) 1 n (xs.map (.int .u8))]) :
    Calls Tryd.prog 46 #[.pointer (some ⟨gb, 0, none⟩), .pointer (some ⟨ga, 0, none⟩), .pointer (some ⟨gg, 0, none⟩), .pointer (some ⟨gv, 0, none⟩)] w fun e w' => e = .returned (.tuple #[]) ∧
      St B W0 w' [.obj gv (.cells #[.int .i32 (more xs s).2.2] 21), .obj gg (.cells #[.bool (more xs s).2.1] 4), .obj ga (.cells #[.int .i64 (more xs s).1] 3), .obj gb (.cells #[.slice A n c] 22), .ro (.slice A n c) 1 n (xs.map (.int .u8))] := by
  obtain ⟨j, b, v⟩ := s
  simp only at hs hv H
  refine calls_of_vcV (args := [.pointer (some ⟨gb, 0, none⟩), .pointer (some ⟨ga, 0, none⟩), .pointer (some ⟨gg, 0, none⟩), .pointer (some ⟨gv, 0, none⟩)]) Tryd.func46 rfl (by kernel_rfl) (Nat.le_of_ble_eq_true rfl) ?_
  have hbj := hb.get j
  refine loadO H 3 rfl rfl ?_
  refine loadO H 2 rfl rfl ?_
  refine idxN (H.rd 4 rfl) (by omega) fun bb off hc => ?_
  refine loadS hc ?_
  refine cutG (fun e w => e 0 = .pointer (some ⟨gb, 0, none⟩) ∧ e 1 = .pointer (some ⟨ga, 0, none⟩) ∧ e 2 = .pointer (some ⟨gg, 0, none⟩) ∧ e 3 = .pointer (some ⟨gv, 0, none⟩) ∧ e 4 = .int .u8 (xs.getD j 0) ∧ St B W0 w [.obj gv (.cells #[.int .i32 v] 21), .obj gg (.cells #[.bool (more xs (j, b, v)).2.1] 4), .obj ga (.cells #[.int .i64 j] 3), .obj gb (.cells #[.slice A n c] 22), .ro (.slice A n c) 1 n (xs.map (.int .u8))]) ?_ ?_
  · refine loadO H 1 rfl rfl ?_
    refine gO (fun hbt => ?_) (fun hbt => ?_)
    · refine bitR (and192 _ hbj.1 hbj.2) ?_
      refine storeO H 1 rfl rfl rfl fun w H => ?_
      have e : (more xs (j, b, v)).2.1 = decide (xs.getD j 0 / 64 * 64 = 128) := by
        unfold more; simp only [hbt, Bool.true_and]; rw [decide_eq_decide]; omega
      rw [e]
      exact ⟨rfl, rfl, rfl, rfl, rfl, H⟩
    · refine storeO H 1 rfl rfl rfl fun w H => ?_
      have e : (more xs (j, b, v)).2.1 = false := by unfold more; simp only [hbt]; rfl
      rw [e]
      exact ⟨rfl, rfl, rfl, rfl, rfl, H⟩
  rintro e w ⟨h0, h1, h2, h3, h4, H⟩
  rw [Env.five h0 h1 h2 h3 h4]
  refine loadO H 0 rfl rfl ?_
  refine shlR (d := 64) rfl (by decide) (ar32 (by omega) (by omega) ?_)
  refine and63S hbj.1 hbj.2 ?_
  refine ar32 (by omega) (by omega) ?_
  refine bitR (i32_or6 _ _ (by omega) (by omega) (by omega) (by omega) (by omega)) ?_
  refine storeO H 0 rfl rfl rfl fun w H => ?_
  refine loadO H 2 rfl rfl ?_
  refine arN (by omega) ?_
  refine storeO H 2 rfl rfl rfl fun w H => ?_
  exact And.intro rfl H
theorem formN_ok (c : Int) (h0 : 0 ≤ c) : -1 ≤ (formN c).1 ∧ (formN c).1 ≤ 3 ∧ 0 ≤ (formN c).2.1 ∧ (formN c).2.1 < 128 ∧ ((formN c).1 ≠ 0 → (formN c).2.1 < 32) ∧ ((formN c).1 = 3 → (formN c).2.1 < 8) := by
  unfold formN; (repeat' split) <;> refine ⟨?_, ?_, ?_, ?_, ?_, ?_⟩ <;> simp only [] <;> omega
def reads (xs : List Int) : Nat → Nat × Bool × Int → Nat × Bool × Int
  | 0, s => s
  | k + 1, s => reads xs k (more xs s)
def dec1 (xs : List Int) : Int × Int :=
  let f := formN (xs.getD 0 0)
  if f.1 < 0 ∨ f.1 ≥ xs.length then (0, 0) else
  let s := reads xs f.1.toNat (1, true, f.2.1)
  if s.2.1 = false ∨ s.2.2 < f.2.2 ∨ need s.2.2 = 0 then (0, 0) else (s.2.2, s.1)
theorem more_ok {xs : List Int} (hb : byteOK xs) (s : Nat × Bool × Int) (m : Int) (h : 0 ≤ s.2.2 ∧ s.2.2 < m) : 0 ≤ (more xs s).2.2 ∧ (more xs s).2.2 < m * 64 := by
  have := hb.get s.1
  unfold more; simp only; omega
theorem ok_decode : callOK Tryd.prog 31 = true := by kernel_rfl
theorem impl_decode {xs : List Int} (hb : byteOK xs) (hne : 0 < xs.length) {A : Option Addr} {n c : Nat} (hl : n ≤ 4294967296) {W : World} (hx : Rd W (.slice A n c) 1 n (xs.map (.int .u8))) : GivesV Tryd.prog 31 [.slice A n c] W (.tuple #[.int .i32 (dec1 xs).1, .int .i64 (dec1 xs).2]) := by
  have H := (St.enter W).ro0 rfl hx
  obtain rfl : n = xs.length := by have := hx.len; simpa using this.symm
  obtain ⟨r, hr⟩ : ∃ r, dec1 xs = r := ⟨_, rfl⟩
  rw [hr]
  unfold dec1 at hr
  have hb0 := hb.get 0
  have hf := formN_ok (xs.getD 0 0) hb0.1
  refine calls_of_vcV Tryd.func31 rfl (by kernel_rfl) (Nat.le_of_ble_eq_true rfl) ?_
  refine newR H fun gb w H => ?_
  refine loadO H 0 rfl rfl ?_
  refine idxN (i := 0) (H.rd 1 rfl) (by omega) fun bb off hc => ?_
  refine loadS hc ?_
  refine callV ok_form (impl_form (xs.getD 0 0) hb0.1 hb0.2 w) H fun w H => ?_
  generalize formN (xs.getD 0 0) = f at *
  obtain ⟨k, v0, least⟩ := f
  simp only at hf hr
  refine newR H fun gv w H => ?_
  refine storeO H 0 rfl rfl rfl fun w H => ?_
  refine cutG (fun e w => e 1 = .pointer (some ⟨gb, 0, none⟩) ∧ e 4 = .int .i64 k ∧ e 5 = .pointer (some ⟨gv, 0, none⟩) ∧ e 6 = .int .i32 least ∧ e 25 = .bool (decide (k < 0 ∨ k ≥ xs.length)) ∧ St W.heap.size W w [.obj gv (.cells #[.int .i32 v0] 21), .obj gb (.cells #[.slice A xs.length c] 22), .roB (.slice A xs.length c) xs]) ?_ ?_
  · repeat' first | (refine gY ?_) | (refine gNt ?_) | (refine gNf ?_) | (refine ifT ?_) | (refine ifF ?_) | (refine arN (by omega) ?_) | (refine ar64 (by omega) (by omega) ?_) | (refine ar32 (by omega) (by omega) ?_) | (refine ar8 (by omega) (by omega) ?_) | (refine div64 (by omega) (by omega) (by omega) ?_) | (refine rem0 (by omega) (by omega) ?_) | (refine drawR H fun w H => ?_) | (refine RegV.mk ?_) | (refine JoinV.mk ?_) | (refine loadO H 1 rfl rfl ?_) | (refine gT (fun h => ?_) (fun h => ?_) <;> first | (exfalso; omega) | skip) | (refine gF (fun h => ?_) (fun h => ?_) <;> first | (exfalso; omega) | skip) | (refine ifB (fun h => ?_) (fun h => ?_) <;> first | (exfalso; omega) | skip)
    all_goals refine ⟨rfl, rfl, rfl, rfl, congrArg Value.bool ?_, H⟩
    all_goals (rw [Bool.eq_iff_iff]; simp only [decide_eq_true_eq, Bool.false_eq_true, true_iff, iff_true, false_iff, iff_false]; omega)
  rintro e w ⟨h1, h4, h5, h6, h25, H⟩
  rw [Env.five h1 h4 h5 h6 h25]
  refine ifB (fun h => ?_) (fun h => ?_)
  · rw [if_pos h] at hr
    subst hr
    exact Exists.intro (.tuple #[.int .i32 0, .int .i64 0]) (And.intro rfl (And.intro rfl H.none))
  rw [if_neg h] at hr
  refine newR H fun ga w H => ?_
  refine storeO H 0 rfl rfl rfl fun w H => ?_
  refine newR H fun gg w H => ?_
  refine storeO H 0 rfl rfl rfl fun w H => ?_
  have HH : St W.heap.size W w [.obj gv (.cells #[.int .i32 v0] 21), .obj gg (.cells #[.bool true] 4), .obj ga (.cells #[.int .i64 1] 3), .obj gb (.cells #[.slice A xs.length c] 22), .ro (.slice A xs.length c) 1 xs.length (xs.map (.int .u8))] := H.sub [2, 0, 1, 3, 4] (by decide)
  obtain ⟨s, hs⟩ : ∃ s, reads xs k.toNat (1, true, v0) = s := ⟨_, rfl⟩
  rw [hs] at hr
  refine joinV (fun e w => e 5 = .pointer (some ⟨gv, 0, none⟩) ∧ e 6 = .int .i32 least ∧ e 7 = .pointer (some ⟨ga, 0, none⟩) ∧ e 8 = .pointer (some ⟨gg, 0, none⟩) ∧ 0 ≤ s.2.2 ∧ s.2.2 < 2147483648 ∧ St W.heap.size W w [.obj gv (.cells #[.int .i32 s.2.2] 21), .obj gg (.cells #[.bool s.2.1] 4), .obj ga (.cells #[.int .i64 s.1] 3), .obj gb (.cells #[.slice A xs.length c] 22), .ro (.slice A xs.length c) 1 xs.length (xs.map (.int .u8))]) rfl ?_ ?_
  · have m1 := more_ok hb (1, true, v0) 32
    have m1' := more_ok hb (1, true, v0) 8
    have m2 := more_ok hb (more xs (1, true, v0)) 2048
    have m2' := more_ok hb (more xs (1, true, v0)) 512
    have m3' := more_ok hb (more xs (more xs (1, true, v0))) 32768
    simp only at m1 m1'
    have e1 : (more xs (1, true, v0)).1 = 2 := rfl
    have e2 : (more xs (more xs (1, true, v0))).1 = 3 := rfl
    have hk : k = 0 ∨ k = 1 ∨ k = 2 ∨ k = 3 := by omega
    rcases hk with rfl | rfl | rfl | rfl
    · repeat' first | (refine gY ?_) | (refine gNt ?_) | (refine gNf ?_) | (refine ifT ?_) | (refine ifF ?_) | (refine arN (by omega) ?_) | (refine ar64 (by omega) (by omega) ?_) | (refine ar32 (by omega) (by omega) ?_) | (refine ar8 (by omega) (by omega) ?_) | (refine div64 (by omega) (by omega) (by omega) ?_) | (refine rem0 (by omega) (by omega) ?_) | (refine drawR H fun w H => ?_) | (refine RegV.mk ?_) | (refine JoinV.mk ?_) | (refine callU ok_rdec (impl_rdec (s := (1, true, v0)) hb (by first | (simp only; omega) | omega) (by first | (simp only; omega) | omega) (by omega) HH) fun w H => ?_) | (refine callU ok_rdec (impl_rdec (s := more xs (1, true, v0)) hb (by first | (simp only; omega) | omega) (by first | (simp only; omega) | omega) (by omega) H) fun w H => ?_) | (refine callU ok_rdec (impl_rdec (s := more xs (more xs (1, true, v0))) hb (by first | (simp only; omega) | omega) (by first | (simp only; omega) | omega) (by omega) H) fun w H => ?_) | (refine gT (fun h => ?_) (fun h => ?_) <;> first | (exfalso; omega) | skip) | (refine gF (fun h => ?_) (fun h => ?_) <;> first | (exfalso; omega) | skip) | (refine ifB (fun h => ?_) (fun h => ?_) <;> first | (exfalso; omega) | skip)
      subst hs
      have hlo : 0 ≤ v0 ∧ v0 < 2147483648 := ⟨by omega, by omega⟩
      first
        | exact ⟨rfl, rfl, rfl, rfl, hlo.1, hlo.2, H⟩
        | exact ⟨rfl, rfl, rfl, rfl, hlo.1, hlo.2, HH⟩
    · repeat' first | (refine gY ?_) | (refine gNt ?_) | (refine gNf ?_) | (refine ifT ?_) | (refine ifF ?_) | (refine arN (by omega) ?_) | (refine ar64 (by omega) (by omega) ?_) | (refine ar32 (by omega) (by omega) ?_) | (refine ar8 (by omega) (by omega) ?_) | (refine div64 (by omega) (by omega) (by omega) ?_) | (refine rem0 (by omega) (by omega) ?_) | (refine drawR H fun w H => ?_) | (refine RegV.mk ?_) | (refine JoinV.mk ?_) | (refine callU ok_rdec (impl_rdec (s := (1, true, v0)) hb (by first | (simp only; omega) | omega) (by first | (simp only; omega) | omega) (by omega) HH) fun w H => ?_) | (refine callU ok_rdec (impl_rdec (s := more xs (1, true, v0)) hb (by first | (simp only; omega) | omega) (by first | (simp only; omega) | omega) (by omega) H) fun w H => ?_) | (refine callU ok_rdec (impl_rdec (s := more xs (more xs (1, true, v0))) hb (by first | (simp only; omega) | omega) (by first | (simp only; omega) | omega) (by omega) H) fun w H => ?_) | (refine gT (fun h => ?_) (fun h => ?_) <;> first | (exfalso; omega) | skip) | (refine gF (fun h => ?_) (fun h => ?_) <;> first | (exfalso; omega) | skip) | (refine ifB (fun h => ?_) (fun h => ?_) <;> first | (exfalso; omega) | skip)
      subst hs
      have hlo : 0 ≤ (more xs (1, true, v0)).2.2 ∧ (more xs (1, true, v0)).2.2 < 2147483648 := ⟨by omega, by omega⟩
      first
        | exact ⟨rfl, rfl, rfl, rfl, hlo.1, hlo.2, H⟩
        | exact ⟨rfl, rfl, rfl, rfl, hlo.1, hlo.2, HH⟩
    · repeat' first | (refine gY ?_) | (refine gNt ?_) | (refine gNf ?_) | (refine ifT ?_) | (refine ifF ?_) | (refine arN (by omega) ?_) | (refine ar64 (by omega) (by omega) ?_) | (refine ar32 (by omega) (by omega) ?_) | (refine ar8 (by omega) (by omega) ?_) | (refine div64 (by omega) (by omega) (by omega) ?_) | (refine rem0 (by omega) (by omega) ?_) | (refine drawR H fun w H => ?_) | (refine RegV.mk ?_) | (refine JoinV.mk ?_) | (refine callU ok_rdec (impl_rdec (s := (1, true, v0)) hb (by first | (simp only; omega) | omega) (by first | (simp only; omega) | omega) (by omega) HH) fun w H => ?_) | (refine callU ok_rdec (impl_rdec (s := more xs (1, true, v0)) hb (by first | (simp only; omega) | omega) (by first | (simp only; omega) | omega) (by omega) H) fun w H => ?_) | (refine callU ok_rdec (impl_rdec (s := more xs (more xs (1, true, v0))) hb (by first | (simp only; omega) | omega) (by first | (simp only; omega) | omega) (by omega) H) fun w H => ?_) | (refine gT (fun h => ?_) (fun h => ?_) <;> first | (exfalso; omega) | skip) | (refine gF (fun h => ?_) (fun h => ?_) <;> first | (exfalso; omega) | skip) | (refine ifB (fun h => ?_) (fun h => ?_) <;> first | (exfalso; omega) | skip)
      subst hs
      have hlo : 0 ≤ (more xs (more xs (1, true, v0))).2.2 ∧ (more xs (more xs (1, true, v0))).2.2 < 2147483648 := ⟨by omega, by omega⟩
      first
        | exact ⟨rfl, rfl, rfl, rfl, hlo.1, hlo.2, H⟩
        | exact ⟨rfl, rfl, rfl, rfl, hlo.1, hlo.2, HH⟩
    · repeat' first | (refine gY ?_) | (refine gNt ?_) | (refine gNf ?_) | (refine ifT ?_) | (refine ifF ?_) | (refine arN (by omega) ?_) | (refine ar64 (by omega) (by omega) ?_) | (refine ar32 (by omega) (by omega) ?_) | (refine ar8 (by omega) (by omega) ?_) | (refine div64 (by omega) (by omega) (by omega) ?_) | (refine rem0 (by omega) (by omega) ?_) | (refine drawR H fun w H => ?_) | (refine RegV.mk ?_) | (refine JoinV.mk ?_) | (refine callU ok_rdec (impl_rdec (s := (1, true, v0)) hb (by first | (simp only; omega) | omega) (by first | (simp only; omega) | omega) (by omega) HH) fun w H => ?_) | (refine callU ok_rdec (impl_rdec (s := more xs (1, true, v0)) hb (by first | (simp only; omega) | omega) (by first | (simp only; omega) | omega) (by omega) H) fun w H => ?_) | (refine callU ok_rdec (impl_rdec (s := more xs (more xs (1, true, v0))) hb (by first | (simp only; omega) | omega) (by first | (simp only; omega) | omega) (by omega) H) fun w H => ?_) | (refine gT (fun h => ?_) (fun h => ?_) <;> first | (exfalso; omega) | skip) | (refine gF (fun h => ?_) (fun h => ?_) <;> first | (exfalso; omega) | skip) | (refine ifB (fun h => ?_) (fun h => ?_) <;> first | (exfalso; omega) | skip)
      subst hs
      have hlo : 0 ≤ (more xs (more xs (more xs (1, true, v0)))).2.2 ∧ (more xs (more xs (more xs (1, true, v0)))).2.2 < 2147483648 := ⟨by omega, by omega⟩
      first
        | exact ⟨rfl, rfl, rfl, rfl, hlo.1, hlo.2, H⟩
        | exact ⟨rfl, rfl, rfl, rfl, hlo.1, hlo.2, HH⟩
  rintro e w ⟨h5, h6, h7, h8, hs0, hs1, H⟩
  rw [Env.four h5 h6 h7 h8]
  refine cutG (fun e w => e 5 = .pointer (some ⟨gv, 0, none⟩) ∧ e 7 = .pointer (some ⟨ga, 0, none⟩) ∧ e 51 = .bool (decide (s.2.1 = false ∨ s.2.2 < least ∨ need s.2.2 = 0)) ∧ St W.heap.size W w [.obj gv (.cells #[.int .i32 s.2.2] 21), .obj ga (.cells #[.int .i64 s.1] 3)]) ?_ ?_
  · obtain ⟨s1, sb, sv⟩ := s
    repeat' first | (refine gY ?_) | (refine gNt ?_) | (refine gNf ?_) | (refine ifT ?_) | (refine ifF ?_) | (refine arN (by omega) ?_) | (refine ar64 (by omega) (by omega) ?_) | (refine ar32 (by omega) (by omega) ?_) | (refine ar8 (by omega) (by omega) ?_) | (refine div64 (by omega) (by omega) (by omega) ?_) | (refine rem0 (by omega) (by omega) ?_) | (refine drawR H fun w H => ?_) | (refine RegV.mk ?_) | (refine JoinV.mk ?_) | (refine loadO H 1 rfl rfl ?_) | (refine loadO H 0 rfl rfl ?_) | (refine gNot ?_) | (refine callV ok_ValidRune ((utf8_ValidRune _ w).mono fun e w' ⟨he, hb⟩ => ⟨_, he, rfl, St.ofBelow hb⟩) H fun w H => ?_) | (refine gO (fun h => ?_) (fun h => ?_)) | (refine gT (fun h => ?_) (fun h => ?_) <;> first | (exfalso; omega) | skip) | (refine gF (fun h => ?_) (fun h => ?_) <;> first | (exfalso; omega) | skip) | (refine ifB (fun h => ?_) (fun h => ?_) <;> first | (exfalso; omega) | skip)
    all_goals refine ⟨rfl, rfl, congrArg Value.bool ?_, H.sub [0, 2] (by decide)⟩
    all_goals simp only at *
    all_goals clear H HH hs hr hf hx hc
    all_goals (rw [Bool.eq_iff_iff]; simp_all)
    all_goals omega
  rintro e w ⟨h5, h7, h51, H⟩
  rw [Env.three h5 h7 h51]
  refine ifB (fun h => ?_) (fun h => ?_)
  · rw [if_pos h] at hr
    subst hr
    exact Exists.intro (.tuple #[.int .i32 0, .int .i64 0]) (And.intro rfl (And.intro rfl H.none))
  · rw [if_neg h] at hr
    subst hr
    refine drawR H fun w H => ?_
    refine loadO H 0 rfl rfl ?_
    refine loadO H 1 rfl rfl ?_
    exact Exists.intro (.tuple #[.int .i32 s.2.2, .int .i64 s.1]) (And.intro rfl (And.intro rfl H.none))
end Go.Proofs.YtjdgcgmhbhfpkaaDoorE
