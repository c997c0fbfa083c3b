/- The reference's copy of a list of files: l7copy. -/
import Derived.Test.YtfhpgfbakimmhaaTMem
namespace Go.Proofs.YtfhpgfbakimmhaaE
open Go Go.RowKit
set_option linter.unusedVariables false
set_option maxRecDepth 100000
set_option maxHeartbeats 2000000

theorem shuf7 {α : Type} (a b c d e f g : α) (M : List α) : (a :: b :: c :: d :: e :: f :: g :: M).Perm (c :: d :: e :: f :: g :: (M ++ [b, a])) :=
  (List.perm_append_comm (l₁ := [a, b]) (l₂ := c :: d :: e :: f :: g :: M)).trans (List.Perm.append_left (c :: d :: e :: f :: g :: M) (List.Perm.swap _ _ _))
theorem ok_l7copy : callOK Try.prog 73 = true := by kernel_rfl
theorem spec_l7copy {fs : List FileG} {A : Option Addr} {n c : Nat} {W : World} (hx : RdF W (.slice A n c) n fs) (hl : n ≤ 4294967296) (hs : ∀ f ∈ fs, SmallF f) :
    Calls Try.prog 73 #[.agg #[.slice A n c]] W fun e w => ∃ A' c' gs, e = .returned (.agg #[.slice A' n c']) ∧ gs.map FileG.p = fs.map FileG.p ∧ St W.heap.size W w (.rowF (.slice A' n c') n gs :: gs.flatMap FileG.own) := by
  have H := (St.enter W).rowNil (e := 69) (sz := 3)
  obtain rfl := hx.len
  refine calls_of_vcV (args := [.agg #[.slice A fs.length c]]) Try.func73 rfl (by kernel_rfl) (Nat.le_of_ble_eq_true rfl) ?_
  refine newR (o := .cells #[.slice A fs.length c] _) H fun g0 w H => ?_
  refine newR (o := .cells #[.slice none 0 0] _) H fun g2 w H => ?_
  refine newR (o := .cells #[.slice none 0 0] _) H fun g3 w H => ?_
  refine loopV (by kernel_rfl) (fun m e w => e 1 = .pointer (some ⟨g0, 0, none⟩) ∧ e 2 = .pointer (some ⟨g2, 0, none⟩) ∧ e 3 = .pointer (some ⟨g3, 0, none⟩) ∧ ∃ (j : Nat) (gs : List FileG) (A1 : Option Addr) (kk : Nat), e 4 = .int .i64 j ∧ j + m = fs.length ∧ gs.map FileG.p = (fs.take j).map FileG.p ∧ gs.length = j ∧
      St W.heap.size W w (.obj g3 (.cells #[.slice A1 j kk] 29) :: .obj g2 (.cells #[.slice none 0 0] 29) :: .obj g0 (.cells #[.slice A fs.length c] 29) :: .rowF (.slice A1 j kk) j gs :: gs.flatMap FileG.own)) fs.length
    ⟨rfl, rfl, rfl, 0, [], none, 0, rfl, by omega, rfl, rfl, H⟩ ?_
  rintro m e w ⟨h1, h2, h3, j, gs, A1, kk, h4, hj, hgs, hgl, H⟩
  rw [Env.four h1 h2 h3 h4]
  refine loadO H 2 rfl rfl ?_
  refine ifB (fun h => ?_) (fun h => ?_)
  case refine_2 =>
    obtain rfl : m = 0 := by omega
    obtain rfl : j = fs.length := by omega
    rw [List.take_length] at hgs
    refine loadO H 0 rfl rfl ?_
    refine storeO H 1 rfl rfl rfl fun w H => ?_
    refine loadO H 1 rfl rfl ?_
    exact Exists.intro A1 (Exists.intro kk (Exists.intro gs (And.intro rfl (And.intro hgs H.tl.tl.tl))))
  obtain ⟨m, rfl⟩ : ∃ m', m = m' + 1 := ⟨m - 1, by omega⟩
  have hjl : j < fs.length := by omega
  obtain ⟨f, hf⟩ : ∃ f, fs[j]? = some f := ⟨_, List.getElem?_eq_getElem hjl⟩
  have hfm : f ∈ fs := List.mem_of_getElem? hf
  have hss := hs f hfm
  have k1 := hx.kids f hfm
  obtain ⟨nv, dv, nm, dt, sf⟩ := f
  obtain ⟨_, A2, c2, e2, _⟩ := id k1.1
  obtain ⟨_, A3, c3, e3, _⟩ := id k1.2
  have hn1 := hss.nm
  have hn2 := hss.dt
  dsimp only at *
  subst e2 e3
  refine loadO H 2 rfl rfl ?_
  (refine idxC (cells := FileG.cells) FileG.cells_len (hx.ext H.below).row hf hjl fun b off hc => ?_)
  refine loadS (v := .slice A2 nm.length c2) (hc 0 _ rfl) ?_
  refine loadS (v := .slice A3 dt.length c3) (hc 1 _ rfl) ?_
  refine loadS (v := .int .i64 sf) (hc 2 _ rfl) ?_
  refine newR (o := .cells #[.slice none 0 0, .slice none 0 0, .int .i64 0] _) H fun g5 w H => ?_
  refine storeO H 0 rfl rfl rfl fun w H => ?_
  refine storeO H 0 rfl rfl rfl fun w H => ?_
  refine storeO H 0 rfl rfl rfl fun w H => ?_
  (refine regG [4, 7, 10, 11, 12, 14] [4, 7, 10, 11] [1, 3, 6, 9] [0, 1, 2, 3, 5, 6, 8, 9, 4, 7, 10, 11, 12, 13, 14] (by kernel_rfl) ?_)
  ((refine drawR H fun w H => ?_; have H0 := H; have hw := HeldW.refl w))
  refine loadO H0 1 rfl rfl ?_
  refine loadO H0 0 rfl rfl ?_
  refine loadO H0 0 rfl rfl ?_
  refine loadO H0 0 rfl rfl ?_
  refine callRowB ok_l1copy (spec_l1copy (k1.1.ext H.below) (by omega)) H fun A4 k4 w hB H => ?_
  have hw := hw.step hB
  refine KeepS.mk ⟨hw, ?_⟩
  refine callRowB ok_l1copy (spec_l1copy (k1.2.ext H.below) (by omega)) H fun A5 k5 w hB H => ?_
  have hw := hw.step hB
  refine KeepS.mk ⟨hw, ?_⟩
  refine RunS.mk ⟨.agg #[.slice A4 nm.length k4, .slice A5 dt.length k5, .int .i64 sf], w, by kernel_rfl, ?_⟩
  refine KeepS.mk ⟨hw, ?_⟩
  refine litRB (e := 69) (sz := 3) (n := 1) (cs := [.slice A4 nm.length k4, .slice A5 dt.length k5, .int .i64 sf]) H rfl (by decide) (by kernel_rfl) fun A6 k6 w hB H => ?_
  have hw := hw.step hB
  refine KeepS.mk ⟨hw, ?_⟩
  refine appF ⟨.slice A4 nm.length k4, .slice A5 dt.length k5, nm, dt, sf⟩ H 7 rfl (H.rd 0 rfl) rfl (by omega) fun A7 k7 w H => ?_
  refine storeO H 4 rfl rfl rfl fun w H => ?_
  refine arN (by omega) ?_
  refine Exists.intro m (And.intro (by omega) ⟨rfl, rfl, rfl, j + 1, gs ++ [⟨.slice A4 nm.length k4, .slice A5 dt.length k5, nm, dt, sf⟩], A7, k7, rfl, by omega, ?_, by simp [hgl], ?_⟩)
  · rw [List.map_append, hgs, List.take_add_one, hf, List.map_append]; rfl
  · have H1 := (St.perm H.tl (shuf7 _ _ _ _ _ _ _ _)).tl
    rw [List.flatMap_append, List.flatMap_cons, List.flatMap_nil, List.append_nil]
    exact H1
end Go.Proofs.YtfhpgfbakimmhaaE
