/- What the program's and the reference's ValidFs answer. -/
import Derived.Test.YtfhpgfbakimmhaaTFile
import Derived.Test.YtfhpgfbakimmhaaTLib
namespace Go.Proofs.YtfhpgfbakimmhaaE
open Go Go.RowKit
set_option linter.unusedVariables false
set_option maxRecDepth 100000
set_option maxHeartbeats 2000000

instance : Inhabited FileP := ⟨⟨[], [], 0⟩⟩
def okF (f : FileP) : Prop := (1 ≤ f.nm.length ∧ f.nm.length ≤ 100) ∧ 0 ≤ f.sf ∧ f.sf ≤ f.dt.length
instance (f : FileP) : Decidable (okF f) := by unfold okF; exact inferInstance
def goodAt (fs : List FileP) (i : Nat) : Prop := okF (fs.getD i default) ∧ (0 < i → cmpB (fs.getD (i - 1) default).nm (fs.getD i default).nm < 0)
instance (fs : List FileP) (i : Nat) : Decidable (goodAt fs i) := by unfold goodAt; exact inferInstance
def validF (fs : List FileP) : Bool := decide (fs.length ≤ 50 ∧ ∀ i, i < fs.length → goodAt fs i)
theorem validF_no {fs : List FileP} (i : Nat) (h : i < fs.length) (hg : ¬ goodAt fs i) : validF fs = false := decide_eq_false fun q => hg (q.2 i h)
theorem ok_goodFsName : callOK Try.prog 59 = true := by kernel_rfl
theorem impl_goodFsName {A : Option Addr} {n c : Nat} (W : World) : GivesV Try.prog 59 [.slice A n c] W (.bool (decide (1 ≤ n ∧ n ≤ 100))) := by
  have H := St.enter W
  refine calls_of_vcV (args := [.slice A n c]) Try.func59 rfl (by kernel_rfl) (Nat.le_of_ble_eq_true rfl) ?_
  refine RegV.mk ?_
  refine gT (fun c1 => ?_) (fun c1 => ?_)
  · refine Exists.intro _ (And.intro rfl (And.intro (congrArg Value.bool ?_) H.none))
    (rw [Bool.eq_iff_iff]; simp only [decide_eq_true_eq, Bool.false_eq_true, true_iff, iff_true, false_iff, iff_false]; omega)
  · refine Exists.intro _ (And.intro rfl (And.intro (congrArg Value.bool ?_) H.none))
    (rw [Bool.eq_iff_iff]; simp only [decide_eq_true_eq, Bool.false_eq_true, true_iff, iff_true, false_iff, iff_false]; omega)
theorem ok_l7nameOK : callOK Try.prog 57 = true := by kernel_rfl
theorem spec_l7nameOK {A : Option Addr} {n c : Nat} (W : World) : GivesV Try.prog 57 [.slice A n c] W (.bool (decide (1 ≤ n ∧ n ≤ 100))) := by
  have H := St.enter W
  refine calls_of_vcV (args := [.slice A n c]) Try.func57 rfl (by kernel_rfl) (Nat.le_of_ble_eq_true rfl) ?_
  refine RegV.mk ?_
  refine gT (fun c1 => ?_) (fun c1 => ?_)
  · refine Exists.intro _ (And.intro rfl (And.intro (congrArg Value.bool ?_) H.none))
    (rw [Bool.eq_iff_iff]; simp only [decide_eq_true_eq, Bool.false_eq_true, true_iff, iff_true, false_iff, iff_false]; omega)
  · refine Exists.intro _ (And.intro rfl (And.intro (congrArg Value.bool ?_) H.none))
    (rw [Bool.eq_iff_iff]; simp only [decide_eq_true_eq, Bool.false_eq_true, true_iff, iff_true, false_iff, iff_false]; omega)
theorem ok_spec_ValidFs : callOK Try.prog 16 = true := by kernel_rfl
theorem spec_ValidFs {fs : List FileG} {A : Option Addr} {n c : Nat} {W : World} (hx : RdF W (.slice A n c) n fs) (hl : n ≤ 4294967296) (hs : ∀ f ∈ fs, SmallF f) (hb : ∀ f ∈ fs, byteOK f.nm) : GivesV Try.prog 16 [.agg #[.slice A n c]] W (.bool (validF (fs.map FileG.p))) := by
  have H := St.enter W
  obtain rfl := hx.len
  refine calls_of_vcV (args := [.agg #[.slice A fs.length c]]) Try.func16 rfl (by kernel_rfl) (Nat.le_of_ble_eq_true rfl) ?_
  have ret : ∀ {b : Bool} {w : World} {L : List It}, validF (fs.map FileG.p) = b → St W.heap.size W w L → ∃ v, Ending.returned (.bool b) = .returned v ∧ v = .bool (validF (fs.map FileG.p)) ∧ St W.heap.size W w [] := fun e H => ⟨_, rfl, by rw [e], H.none⟩
  refine newR (o := .cells #[.slice A fs.length c] _) H fun g0 w H => ?_
  refine loadO H 0 rfl rfl ?_
  refine ifB (fun c2 => ?_) (fun c2 => ?_)
  · exact ret (decide_eq_false fun q => by have := q.1; simp only [List.length_map] at this; omega) H
  · refine loopV (by kernel_rfl) (fun m e w => e 1 = .pointer (some ⟨g0, 0, none⟩) ∧ ∃ j : Nat, e 3 = .int .i64 j ∧ j + m = fs.length ∧ (∀ i, i < j → goodAt (fs.map FileG.p) i) ∧ St W.heap.size W w [.obj g0 (.cells #[.slice A fs.length c] 29)]) fs.length
      ⟨rfl, 0, rfl, by omega, fun i hi => by omega, H⟩ ?_
    rintro m e w ⟨h1, j, h3, hj, hg, H⟩
    rw [Env.two h1 h3]
    refine loadO H 0 rfl rfl ?_
    refine ifB (fun h => ?_) (fun h => ?_)
    case refine_2 =>
      refine ret (decide_eq_true ⟨by simp only [List.length_map]; omega, fun i hi => hg i (by simp only [List.length_map] at hi; omega)⟩) H
    have hjl : j < fs.length := by omega
    obtain ⟨f, hf⟩ : ∃ f, fs[j]? = some f := ⟨_, List.getElem?_eq_getElem hjl⟩
    have hfm : f ∈ fs := List.mem_of_getElem? hf
    have hfp : (fs.map FileG.p).getD j default = f.p := by rw [List.getD_eq_getElem?_getD, List.getElem?_map, hf]; rfl
    have hss := hs f hfm
    have hbf := hb f hfm
    have k1 := hx.kids f hfm
    have hgood : goodAt (fs.map FileG.p) j ↔ okF f.p ∧ (0 < j → cmpB ((fs.map FileG.p).getD (j - 1) default).nm f.nm < 0) := by unfold goodAt; rw [hfp]; rfl
    obtain ⟨nv, dv, nm, dt, sf⟩ := f
    obtain ⟨_, A1, c1, e1, _⟩ := id k1.1
    obtain ⟨_, A2, c2, e2, _⟩ := id k1.2
    dsimp only at *
    subst e1 e2
    have no : ∀ {w : World} {L : List It}, ¬ goodAt (fs.map FileG.p) j → St W.heap.size W w L → ∃ v, Ending.returned (.bool false) = .returned v ∧ v = .bool (validF (fs.map FileG.p)) ∧ St W.heap.size W w [] := fun q H => ret (validF_no j (by simpa using hjl) q) H
    by_cases hj0 : 0 < j
    · obtain ⟨g, hgf⟩ : ∃ g, fs[j - 1]? = some g := ⟨_, List.getElem?_eq_getElem (by omega)⟩
      have hgm : g ∈ fs := List.mem_of_getElem? hgf
      have hgp : (fs.map FileG.p).getD (j - 1) default = g.p := by rw [List.getD_eq_getElem?_getD, List.getElem?_map, hgf]; rfl
      have k2 := hx.kids g hgm
      have hbg := hb g hgm
      rw [hgp] at hgood
      obtain ⟨nv', dv', nm', dt', sf'⟩ := g
      obtain ⟨_, A3, c3, e3, _⟩ := id k2.1
      dsimp only at *
      subst e3
      refine JoinV.mk ?_
      refine loadO H 0 rfl rfl ?_
      refine idxC (cells := FileG.cells) FileG.cells_len (hx.ext H.below).row hf hjl fun b off hc => ?_
      refine loadS (v := .slice A1 nm.length c1) (hc 0 _ rfl) ?_
      refine loadS (hc 1 _ rfl) ?_
      refine loadS (v := .int .i64 sf) (hc 2 _ rfl) ?_
      refine newR (o := .cells #[.slice none 0 0, .slice none 0 0, .int .i64 0] _) H fun g6 w H => ?_
      refine storeO H 0 rfl rfl rfl fun w H => ?_
      refine storeO H 0 rfl rfl rfl fun w H => ?_
      refine storeO H 0 rfl rfl rfl fun w H => ?_
      refine RegV.mk ?_
      refine loadO H 0 rfl rfl ?_
      refine callV ok_l7nameOK (spec_l7nameOK _) H fun w H => ?_
      refine gNot ?_
      refine gT (fun c14 => ?_) (fun c14 => ?_)
      · refine loadO H 0 rfl rfl ?_
        refine gF (fun c16 => ?_) (fun c16 => ?_)
        · refine loadO H 0 rfl rfl ?_
          refine loadO H 0 rfl rfl ?_
          refine ifB (fun c19 => ?_) (fun c19 => ?_)
          · exact no (fun q => by have := (hgood.1 q).1.2.2; simp only [FileG.p] at this; omega) H
          · refine drawR H fun w H => ?_
            refine gT (fun c21 => ?_) (fun c21 => absurd c21 (by omega))
            refine loadO H 1 rfl rfl ?_
            refine ar64 (by omega) (by omega) ?_
            refine idxCI (cells := FileG.cells) (j - 1) (by omega) FileG.cells_len (hx.ext H.below).row hgf (by omega) fun b off hd => ?_
            refine loadS (v := .slice A3 nm'.length c3) (hd 0 _ rfl) ?_
            refine convBQ (k2.1.ext H.below) ?_
            refine loadO H 0 rfl rfl ?_
            refine convBQ (k1.1.ext H.below) ?_
            refine ifNot ?_
            refine ifO (fun c30 => ?_) (fun c30 => ?_)
            · refine arN (by omega) ?_
              rw [less_str hbg hbf] at c30
              refine Exists.intro (m - 1) (And.intro (by omega) ⟨rfl, j + 1, rfl, by omega, fun i hi => ?_, H.tl⟩)
              rcases Nat.lt_succ_iff_lt_or_eq.1 hi with q | rfl
              · exact hg i q
              · exact hgood.2 ⟨⟨c14, by simp only [FileG.p]; omega, by simp only [FileG.p]; omega⟩, fun _ => of_decide_eq_true c30⟩
            · rw [less_str hbg hbf] at c30
              exact no (fun q => of_decide_eq_false c30 ((hgood.1 q).2 hj0)) H
        · refine ifT ?_
          exact no (fun q => by have := (hgood.1 q).1.2.1; simp only [FileG.p] at this; omega) H
      · refine gNf ?_
        refine ifT ?_
        exact no (fun q => c14 (hgood.1 q).1.1) H
    · refine JoinV.mk ?_
      refine loadO H 0 rfl rfl ?_
      refine idxC (cells := FileG.cells) FileG.cells_len (hx.ext H.below).row hf hjl fun b off hc => ?_
      refine loadS (v := .slice A1 nm.length c1) (hc 0 _ rfl) ?_
      refine loadS (hc 1 _ rfl) ?_
      refine loadS (v := .int .i64 sf) (hc 2 _ rfl) ?_
      refine newR (o := .cells #[.slice none 0 0, .slice none 0 0, .int .i64 0] _) H fun g6 w H => ?_
      refine storeO H 0 rfl rfl rfl fun w H => ?_
      refine storeO H 0 rfl rfl rfl fun w H => ?_
      refine storeO H 0 rfl rfl rfl fun w H => ?_
      refine RegV.mk ?_
      refine loadO H 0 rfl rfl ?_
      refine callV ok_l7nameOK (spec_l7nameOK _) H fun w H => ?_
      refine gNot ?_
      refine gT (fun c14 => ?_) (fun c14 => ?_)
      · refine loadO H 0 rfl rfl ?_
        refine gF (fun c16 => ?_) (fun c16 => ?_)
        · refine loadO H 0 rfl rfl ?_
          refine loadO H 0 rfl rfl ?_
          refine ifB (fun c19 => ?_) (fun c19 => ?_)
          · exact no (fun q => by have := (hgood.1 q).1.2.2; simp only [FileG.p] at this; omega) H
          · refine drawR H fun w H => ?_
            refine gT (fun c21 => absurd c21 (by omega)) (fun c21 => ?_)
            refine ifF ?_
            refine arN (by omega) ?_
            refine Exists.intro (m - 1) (And.intro (by omega) ⟨rfl, j + 1, rfl, by omega, fun i hi => ?_, H.tl⟩)
            rcases Nat.lt_succ_iff_lt_or_eq.1 hi with q | rfl
            · exact hg i q
            · exact hgood.2 ⟨⟨c14, by simp only [FileG.p]; omega, by simp only [FileG.p]; omega⟩, fun q => absurd q hj0⟩
        · refine ifT ?_
          exact no (fun q => by have := (hgood.1 q).1.2.1; simp only [FileG.p] at this; omega) H
      · refine gNf ?_
        refine ifT ?_
        exact no (fun q => c14 (hgood.1 q).1.1) H
theorem ok_impl_ValidFs : callOK Try.prog 18 = true := by kernel_rfl
theorem impl_ValidFs {fs : List FileG} {A : Option Addr} {n c : Nat} {W : World} (hx : RdF W (.slice A n c) n fs) (hl : n ≤ 4294967296) (hs : ∀ f ∈ fs, SmallF f) (hb : ∀ f ∈ fs, byteOK f.nm) : GivesV Try.prog 18 [.agg #[.slice A n c]] W (.bool (validF (fs.map FileG.p))) := by
  have H := St.enter W
  obtain rfl := hx.len
  refine calls_of_vcV (args := [.agg #[.slice A fs.length c]]) Try.func18 rfl (by kernel_rfl) (Nat.le_of_ble_eq_true rfl) ?_
  have ret : ∀ {b : Bool} {w : World} {L : List It}, validF (fs.map FileG.p) = b → St W.heap.size W w L → ∃ v, Ending.returned (.bool b) = .returned v ∧ v = .bool (validF (fs.map FileG.p)) ∧ St W.heap.size W w [] := fun e H => ⟨_, rfl, by rw [e], H.none⟩
  refine newR (o := .cells #[.slice A fs.length c] _) H fun g0 w H => ?_
  refine loadO H 0 rfl rfl ?_
  refine ifB (fun c2 => ?_) (fun c2 => ?_)
  · exact ret (decide_eq_false fun q => by have := q.1; simp only [List.length_map] at this; omega) H
  · refine loadO H 0 rfl rfl ?_
    refine loopV (by kernel_rfl) (fun m e w => e 1 = .pointer (some ⟨g0, 0, none⟩) ∧ e 10 = .slice A fs.length c ∧ e 11 = .int .i64 fs.length ∧ ∃ j : Nat, e 12 = .int .i64 j ∧ j + m = fs.length ∧ (∀ i, i < j → goodAt (fs.map FileG.p) i) ∧ St W.heap.size W w [.obj g0 (.cells #[.slice A fs.length c] 29)]) fs.length
      ⟨rfl, rfl, rfl, 0, rfl, by omega, fun i hi => by omega, H⟩ ?_
    rintro m e w ⟨h1, h10, h11, j, h12, hj, hg, H⟩
    rw [Env.four h1 h10 h11 h12]
    refine ifB (fun h => ?_) (fun h => ?_)
    case refine_2 =>
      refine ret (decide_eq_true ⟨by simp only [List.length_map]; omega, fun i hi => hg i (by simp only [List.length_map] at hi; omega)⟩) H
    have hjl : j < fs.length := by omega
    obtain ⟨f, hf⟩ : ∃ f, fs[j]? = some f := ⟨_, List.getElem?_eq_getElem hjl⟩
    have hfm : f ∈ fs := List.mem_of_getElem? hf
    have hfp : (fs.map FileG.p).getD j default = f.p := by rw [List.getD_eq_getElem?_getD, List.getElem?_map, hf]; rfl
    have hss := hs f hfm
    have hbf := hb f hfm
    have k1 := hx.kids f hfm
    have hgood : goodAt (fs.map FileG.p) j ↔ okF f.p ∧ (0 < j → cmpB ((fs.map FileG.p).getD (j - 1) default).nm f.nm < 0) := by unfold goodAt; rw [hfp]; rfl
    obtain ⟨nv, dv, nm, dt, sf⟩ := f
    obtain ⟨_, A1, c1, e1, _⟩ := id k1.1
    obtain ⟨_, A2, c2, e2, _⟩ := id k1.2
    dsimp only at *
    subst e1 e2
    have no : ∀ {w : World} {L : List It}, ¬ goodAt (fs.map FileG.p) j → St W.heap.size W w L → ∃ v, Ending.returned (.bool false) = .returned v ∧ v = .bool (validF (fs.map FileG.p)) ∧ St W.heap.size W w [] := fun q H => ret (validF_no j (by simpa using hjl) q) H
    by_cases hj0 : 0 < j
    · obtain ⟨g, hgf⟩ : ∃ g, fs[j - 1]? = some g := ⟨_, List.getElem?_eq_getElem (by omega)⟩
      have hgm : g ∈ fs := List.mem_of_getElem? hgf
      have hgp : (fs.map FileG.p).getD (j - 1) default = g.p := by rw [List.getD_eq_getElem?_getD, List.getElem?_map, hgf]; rfl
      have k2 := hx.kids g hgm
      have hbg := hb g hgm
      rw [hgp] at hgood
      obtain ⟨nv', dv', nm', dt', sf'⟩ := g
      obtain ⟨_, A3, c3, e3, _⟩ := id k2.1
      dsimp only at *
      subst e3
      refine JoinV.mk ?_
      refine idxC (cells := FileG.cells) FileG.cells_len (hx.ext H.below).row hf hjl fun b off hc => ?_
      refine loadS (v := .slice A1 nm.length c1) (hc 0 _ rfl) ?_
      refine loadS (hc 1 _ rfl) ?_
      refine loadS (v := .int .i64 sf) (hc 2 _ rfl) ?_
      refine newR (o := .cells #[.slice none 0 0, .slice none 0 0, .int .i64 0] _) H fun g5 w H => ?_
      refine storeO H 0 rfl rfl rfl fun w H => ?_
      refine storeO H 0 rfl rfl rfl fun w H => ?_
      refine storeO H 0 rfl rfl rfl fun w H => ?_
      refine regG [2, 30] [2] [1, 6, 11, 13, 22, 27, 29] [0, 1, 2, 3, 4, 5, 6, 7, 8, 9, 10, 11, 12, 13, 14, 15, 16, 17, 18, 19, 20, 21, 22, 23, 24, 25, 26, 27, 28, 29, 30, 31, 32, 33] (by kernel_rfl) ?_
      (refine drawR H fun w H => ?_; have H0 := H)
      refine loadO H0 0 rfl rfl ?_
      refine callVB ok_goodFsName (impl_goodFsName _) H fun w hB H => ?_
      refine KeepS.mk ⟨HeldW.ofBelow hB, ?_⟩
      refine gNot ?_
      refine gT (fun c15 => ?_) (fun c15 => ?_)
      · refine gY ?_
        refine loadO H0 0 rfl rfl ?_
        refine gY ?_
        refine gF (fun c19 => ?_) (fun c19 => ?_)
        · refine gY ?_
          refine loadO H0 0 rfl rfl ?_
          refine gY ?_
          refine gY ?_
          refine loadO H0 0 rfl rfl ?_
          refine gY ?_
          refine gY ?_
          refine gF (fun c27 => ?_) (fun c27 => ?_)
          · refine gY ?_
            refine gY ?_
            refine gT (fun c30 => ?_) (fun c30 => absurd c30 (by omega))
            refine gY ?_
            refine loadO H0 1 rfl rfl ?_
            refine gY ?_
            refine gY ?_
            refine ar64 (by omega) (by omega) ?_
            refine gY ?_
            refine idxCI (cells := FileG.cells) (j - 1) (by omega) FileG.cells_len (hx.ext H0.below).row hgf (by omega) fun b off hd => ?_
            refine gY ?_
            refine gY ?_
            refine loadS (v := .slice A3 nm'.length c3) (hd 0 _ rfl) ?_
            refine gY ?_
            refine gY ?_
            refine loadO H0 0 rfl rfl ?_
            refine gY ?_
            refine callV ok_bCompare (bytes_Compare hbg hbf (k2.1.ext H.below) (k1.1.ext H.below)) H fun w H => ?_
            refine gY ?_
            refine gY ?_
            refine ifB (fun c48 => ?_) (fun c48 => ?_)
            · exact no (fun q => absurd (show cmpB nm' nm < 0 from (hgood.1 q).2 hj0) (by omega)) H
            · refine arN (by omega) ?_
              refine Exists.intro (m - 1) (And.intro (by omega) ⟨rfl, rfl, rfl, j + 1, rfl, by omega, fun i hi => ?_, H.tl⟩)
              rcases Nat.lt_succ_iff_lt_or_eq.1 hi with q | rfl
              · exact hg i q
              · exact hgood.2 ⟨⟨c15, by simp only [FileG.p]; omega, by simp only [FileG.p]; omega⟩, fun _ => (show cmpB nm' nm < 0 by omega)⟩
          · refine gNot ?_
            refine gNt ?_
            refine gNot ?_
            refine gNt ?_
            refine gNot ?_
            refine gNt ?_
            refine ifT ?_
            exact no (fun q => by have := (hgood.1 q).1.2.2; simp only [FileG.p] at this; omega) H
        · refine gNot ?_
          refine gNt ?_
          refine gNot ?_
          refine gNt ?_
          refine gNot ?_
          refine gNt ?_
          refine gNot ?_
          refine gNt ?_
          refine gNot ?_
          refine gNt ?_
          refine gNf ?_
          refine gNot ?_
          refine gNt ?_
          refine gNot ?_
          refine gNt ?_
          refine gNot ?_
          refine gNt ?_
          refine ifT ?_
          exact no (fun q => by have := (hgood.1 q).1.2.1; simp only [FileG.p] at this; omega) H
      · refine gNot ?_
        refine gNt ?_
        refine gNot ?_
        refine gNt ?_
        refine gNf ?_
        refine gNot ?_
        refine gNt ?_
        refine gNot ?_
        refine gNt ?_
        refine gNot ?_
        refine gNt ?_
        refine gNot ?_
        refine gNt ?_
        refine gNot ?_
        refine gNt ?_
        refine gNf ?_
        refine gNot ?_
        refine gNt ?_
        refine gNot ?_
        refine gNt ?_
        refine gNot ?_
        refine gNt ?_
        refine ifT ?_
        exact no (fun q => c15 (hgood.1 q).1.1) H
    · refine JoinV.mk ?_
      refine idxC (cells := FileG.cells) FileG.cells_len (hx.ext H.below).row hf hjl fun b off hc => ?_
      refine loadS (v := .slice A1 nm.length c1) (hc 0 _ rfl) ?_
      refine loadS (hc 1 _ rfl) ?_
      refine loadS (v := .int .i64 sf) (hc 2 _ rfl) ?_
      refine newR (o := .cells #[.slice none 0 0, .slice none 0 0, .int .i64 0] _) H fun g5 w H => ?_
      refine storeO H 0 rfl rfl rfl fun w H => ?_
      refine storeO H 0 rfl rfl rfl fun w H => ?_
      refine storeO H 0 rfl rfl rfl fun w H => ?_
      refine regG [2, 30] [2] [1, 6, 11, 13, 22, 27, 29] [0, 1, 2, 3, 4, 5, 6, 7, 8, 9, 10, 11, 12, 13, 14, 15, 16, 17, 18, 19, 20, 21, 22, 23, 24, 25, 26, 27, 28, 29, 30, 31, 32, 33] (by kernel_rfl) ?_
      (refine drawR H fun w H => ?_; have H0 := H)
      refine loadO H0 0 rfl rfl ?_
      refine callVB ok_goodFsName (impl_goodFsName _) H fun w hB H => ?_
      refine KeepS.mk ⟨HeldW.ofBelow hB, ?_⟩
      refine gNot ?_
      refine gT (fun c15 => ?_) (fun c15 => ?_)
      · refine gY ?_
        refine loadO H0 0 rfl rfl ?_
        refine gY ?_
        refine gF (fun c19 => ?_) (fun c19 => ?_)
        · refine gY ?_
          refine loadO H0 0 rfl rfl ?_
          refine gY ?_
          refine gY ?_
          refine loadO H0 0 rfl rfl ?_
          refine gY ?_
          refine gY ?_
          refine gF (fun c27 => ?_) (fun c27 => ?_)
          · refine gY ?_
            refine gY ?_
            refine gT (fun c30 => absurd c30 (by omega)) (fun c30 => ?_)
            refine gNot ?_
            refine gNf ?_
            refine gNot ?_
            refine gNf ?_
            refine gNot ?_
            refine gNf ?_
            refine gNot ?_
            refine gNf ?_
            refine gNot ?_
            refine gNf ?_
            refine gNot ?_
            refine gNf ?_
            refine gNot ?_
            refine gNf ?_
            refine gNot ?_
            refine gNf ?_
            refine gNot ?_
            refine gNf ?_
            refine gNot ?_
            refine gNf ?_
            refine gY ?_
            refine ifF ?_
            refine arN (by omega) ?_
            refine Exists.intro (m - 1) (And.intro (by omega) ⟨rfl, rfl, rfl, j + 1, rfl, by omega, fun i hi => ?_, H.tl⟩)
            rcases Nat.lt_succ_iff_lt_or_eq.1 hi with q | rfl
            · exact hg i q
            · exact hgood.2 ⟨⟨c15, by simp only [FileG.p]; omega, by simp only [FileG.p]; omega⟩, fun q => absurd q hj0⟩
          · refine gNot ?_
            refine gNt ?_
            refine gNot ?_
            refine gNt ?_
            refine gNot ?_
            refine gNt ?_
            refine ifT ?_
            exact no (fun q => by have := (hgood.1 q).1.2.2; simp only [FileG.p] at this; omega) H
        · refine gNot ?_
          refine gNt ?_
          refine gNot ?_
          refine gNt ?_
          refine gNot ?_
          refine gNt ?_
          refine gNot ?_
          refine gNt ?_
          refine gNot ?_
          refine gNt ?_
          refine gNf ?_
          refine gNot ?_
          refine gNt ?_
          refine gNot ?_
          refine gNt ?_
          refine gNot ?_
          refine gNt ?_
          refine ifT ?_
          exact no (fun q => by have := (hgood.1 q).1.2.1; simp only [FileG.p] at this; omega) H
      · refine gNot ?_
        refine gNt ?_
        refine gNot ?_
        refine gNt ?_
        refine gNf ?_
        refine gNot ?_
        refine gNt ?_
        refine gNot ?_
        refine gNt ?_
        refine gNot ?_
        refine gNt ?_
        refine gNot ?_
        refine gNt ?_
        refine gNot ?_
        refine gNt ?_
        refine gNf ?_
        refine gNot ?_
        refine gNt ?_
        refine gNot ?_
        refine gNt ?_
        refine gNot ?_
        refine gNt ?_
        refine ifT ?_
        exact no (fun q => c15 (hgood.1 q).1.1) H
end Go.Proofs.YtfhpgfbakimmhaaE
