/- bytes.Index by the library's shelf: its closure laid at this program, and as a step of a walk. -/
import Derived.Test.YtjdgcgmhbhfpkaaDoorLexQ3
import Derived.Test.YtjdgcgmhbhfpkaaDoorPrim4
import Derived.Test.YtjdgcgmhbhfpkaaDoorPTree
import Derived.Test.YtjdgcgmhbhfpkaaDoorPLex
import Derived.Test.YtjdgcgmhbhfpkaaDoorPrim
import Derived.Test.YtjdgcgmhbhfpkaaDoorPText
import Derived.Test.YtjdgcgmhbhfpkaaDoorEngG
import Derived.Test.YtjdgcgmhbhfpkaaDoorPrim3
import Derived.Test.YtjdgcgmhbhfpkaaDoorPScan
import Derived.Test.YtjdgcgmhbhfpkaaDoorTPts
import Derived.Test.YtjdgcgmhbhfpkaaDoorTScan3
import Derived.Shelf.Bytes.SlIndexWhole
import Derived.Shelf.Vars
import Derived.HandedShaped
namespace Go.Proofs.YtjdgcgmhbhfpkaaDoorE
open Go Go.RowKit
set_option linter.unusedVariables false
set_option maxRecDepth 100000

def laysB185_ren : Go.Shelf.Ren := ⟨fun | 185 => 40 | 187 => 48 | 115 => 57 | 253 => 52 | 224 => 51 | 254 => 58 | 255 => 63 | 291 => 67 | n => n, fun | 37 => 22 | 4 => 4 | 3 => 3 | 0 => 0 | 5 => 5 | 46 => 72 | 9 => 9 | 146 => 80 | 51 => 78 | n => n, fun | 1 => 0 | n => n⟩
theorem laysB185 : Go.Proofs.Lays.n185 Tryd.prog laysB185_ren where
  mixed := by kernel_rfl
  f115 := Tryd.func57.trans (congrArg some (by kernel_rfl))
  f185 := Tryd.func40.trans (congrArg some (by kernel_rfl))
  f187 := Tryd.func48.trans (congrArg some (by kernel_rfl))
  f224 := Tryd.func51.trans (congrArg some (by kernel_rfl))
  f253 := Tryd.func52.trans (congrArg some (by kernel_rfl))
  f254 := Tryd.func58.trans (congrArg some (by kernel_rfl))
  f255 := Tryd.func63.trans (congrArg some (by kernel_rfl))
  f291 := Tryd.func67.trans (congrArg some (by kernel_rfl))
  t0 := Tryd.underlying0
  a0 := Tryd.isAgg0
  z0 := Tryd.sizeOf0
  v0 := Tryd.zeroValue0
  t3 := Tryd.underlying3
  a3 := Tryd.isAgg3
  z3 := Tryd.sizeOf3
  v3 := Tryd.zeroValue3
  t4 := Tryd.underlying4
  a4 := Tryd.isAgg4
  z4 := Tryd.sizeOf4
  v4 := Tryd.zeroValue4
  t5 := Tryd.underlying5
  a5 := Tryd.isAgg5
  z5 := Tryd.sizeOf5
  v5 := Tryd.zeroValue5
  t9 := Tryd.underlying9
  a9 := Tryd.isAgg9
  z9 := Tryd.sizeOf9
  v9 := Tryd.zeroValue9
  t37 := Tryd.underlying22
  a37 := Tryd.isAgg22
  z37 := Tryd.sizeOf22
  v37 := Tryd.zeroValue22
  t46 := Tryd.underlying72
  a46 := Tryd.isAgg72
  z46 := Tryd.sizeOf72
  v46 := Tryd.zeroValue72
  t51 := Tryd.underlying78
  a51 := Tryd.isAgg78
  z51 := Tryd.sizeOf78
  v51 := Tryd.zeroValue78
  t146 := Tryd.underlying80
  a146 := Tryd.isAgg80
  z146 := Tryd.sizeOf80
  v146 := Tryd.zeroValue80
  g1 := by kernel_rfl
/-- that variable of the library's holds some number -/
def MaxL (w : World) : Prop := ∃ m, w.cell? ⟨0, 0, none⟩ = some (.int .i64 m)
theorem maxL_of {w : World} (h : w.ShapedOpen Tryd.prog) : MaxL w :=
  Go.Proofs.cell_of_shapedOpen_int (zero := #[.int .i64 0]) (t := 3) h (of_decide_eq_true (by kernel_rfl)) (by kernel_rfl) rfl (by kernel_rfl) (by kernel_rfl) Tryd.underlying3
theorem MaxL.ext {w w' : World} (h : MaxL w) (k : Below w.heap.size w w') : MaxL w' := by
  obtain ⟨m, hm⟩ := h
  exact ⟨m, (grown_below k).cell hm (fun e => by cases e)⟩
theorem drewN_below (w : World) (q : Nat) : Below w.heap.size w (w.drewN q) := by
  exact ⟨rfl, rfl, rfl, Nat.le_refl _, fun _ _ => rfl⟩
/-- a row of constant bytes handed on as it stands: it is marked, and only read from then on -/
theorem convMarkB {B : Nat} {W0 w : World} {L : List It} {A : Option Addr} {n c : Nat} {cs : List Value} {K : Value → World → Prop} (H : St B W0 w L) (i : Nat) (hi : L[i]? = some (.row (.slice A n c) 5 1 n cs)) (hn : 0 < n)
    (k : ∀ w', w.grownBy w' (Value.slice A n c).ownBlock → St B W0 w' (L.set i (.ro (.slice A n c) 1 n cs)) → K (.slice A n c) w') : RunS Tryd.prog (convert 22 22 (.slice A n c)) w K := by
  have ho := H.own i hi
  have hrd := own_rd ho
  obtain ⟨hl, h⟩ := ho
  rcases h with ⟨h1, h2⟩ | ⟨g, cap, cur, h1, hb, hg, hnc, hc, hs, ht⟩
  · omega
  cases h1
  have hlt : g < w.heap.size := (Array.getElem?_eq_some_iff.1 hg).1
  have hsh : w.shape? g = some (5, cur.size) := by unfold World.shape?; rw [hg]
  have hz : ∀ q : Nat, (w.freeze ⟨g, cur.size, none⟩ 1).heap[q]? = if g = q then some (.cells cur 5 (cur.size, cur.size + 1)) else w.heap[q]? := by
    intro q
    unfold World.freeze
    rw [if_neg (by decide)]
    show (w.heap.modify g _)[q]? = _
    rw [Array.getElem?_modify]
    split
    · rename_i e; subst e; rw [hg]; rfl
    · rfl
  have hat : (w.freeze ⟨g, cur.size, none⟩ 1).heap[g]? = some (.cells cur 5 (cur.size, cur.size + 1)) := by rw [hz, if_pos rfl]
  have hgr : w.grownBy (w.freeze ⟨g, cur.size, none⟩ 1) (some g) := by
    refine ⟨by unfold World.freeze; rw [if_neg (by decide)], by unfold World.freeze; rw [if_neg (by decide)], by unfold World.freeze; rw [if_neg (by decide)], ?_, fun q hq hne => ?_⟩
    · unfold World.freeze
      rw [if_neg (by decide)]
      show w.heap.size ≤ (w.heap.modify g _).size
      rw [Array.size_modify]; exact Nat.le_refl _
    · rw [hz, if_neg (fun e => hne (by rw [e]))]
  refine ⟨.slice (some ⟨g, 0, none⟩) n c, w.freeze ⟨g, cur.size, none⟩ 1, ?_, k _ hgr (H.turn i hi hgr ?_ (fun q hq => .inl ?_))⟩
  · have hu : Tryd.prog.underlying 5 = some (.int .u8) := by kernel_rfl
    simp [convert, run_underlying undB, run_underlying hu, markStringish, hsh]
  · refine ⟨hl, _, _, rfl, hnc, .inr ⟨g, 0, rfl, fun j hj => ?_⟩⟩
    rw [← ht]
    rw [← ht, List.length_take] at hj
    simp only [World.cell?, hat, Nat.zero_add, Option.isSome_none, Bool.false_eq_true, if_false]
    rw [List.getElem?_take, if_pos (by omega)]
    simp
  · rw [leans_ro] at hq
    split at hq
    · cases hq
    · exact hq
theorem convMark {B : Nat} {W0 w : World} {L : List It} {A : Option Addr} {n c : Nat} {cs : List Value} {K : Value → World → Prop} (H : St B W0 w L) (i : Nat) (hi : L[i]? = some (.row (.slice A n c) 5 1 n cs)) (hn : 0 < n)
    (k : ∀ w', St B W0 w' (L.set i (.ro (.slice A n c) 1 n cs)) → K (.slice A n c) w') : RunS Tryd.prog (convert 22 22 (.slice A n c)) w K := convMarkB H i hi hn fun w' _ => k w'
theorem ok_bIndex : callOK Tryd.prog 40 = true := by kernel_rfl
theorem bytes_Index_none {A' : Option Addr} {c n' c' : Nat} {W : World} (h : 2 ≤ n') (hn : n' ≤ 4294967280) : GivesV Tryd.prog 40 [.slice none 0 c, .slice A' n' c'] W (.int .i64 (-1)) := by
  have H := St.enter W
  refine calls_of_vcV (args := [.slice none 0 c, .slice A' n' c']) Tryd.func40 rfl (by kernel_rfl) (Nat.le_of_ble_eq_true rfl) ?_
  refine JoinV.mk ?_
  refine ifB (fun c0 => absurd c0 (by omega)) (fun c0 => ?_)
  refine ifB (fun c1 => absurd c1 (by omega)) (fun c1 => ?_)
  refine ifB (fun c2 => absurd c2 (by omega)) (fun c2 => ?_)
  refine ifB (fun c3 => ?_) (fun c3 => absurd c3 (by omega))
  exact Exists.intro _ (And.intro rfl (And.intro rfl H))
theorem bytes_IndexS {xs ys : List Int} (hx : byteOK xs) (hy : byteOK ys) (hne : 0 < ys.length) {A A' : Option Addr} {n c n' c' : Nat} {W : World} (rx : Rd W (.slice A n c) 1 n (xs.map (.int .u8))) (ry : Rd W (.slice A' n' c') 1 n' (ys.map (.int .u8))) (hl : n ≤ 4294967280) (hk : n' ≤ 4294967280) (hA0 : A ≠ none) (hM : MaxL W) :
    GivesV Tryd.prog 40 [.slice A n c, .slice A' n' c'] W (.int .i64 (Lib.index (Lib.bytesOf xs) (Lib.bytesOf ys))) := by
  obtain ⟨m, hm⟩ := hM
  obtain ⟨lx, A1, c1, e1, hc1, hx1⟩ := rx
  obtain ⟨ly, A2, c2, e2, hc2, hy2⟩ := ry
  cases e1
  cases e2
  rw [List.length_map, Nat.mul_one] at lx ly
  rcases hy2 with hy2 | ⟨b2, o2, rfl, hy2⟩
  · omega
  have cells : ∀ {zs : List Int} {b off : Nat}, (∀ j, j < (zs.map (Value.int .u8)).length → W.cell? ⟨b, off + j, none⟩ = (zs.map (Value.int .u8))[j]?) → ∀ i, i < zs.length → W.cell? ((⟨b, off, none⟩ : Addr).add i) = some (.int .u8 (zs.getD i 0)) := by
    intro zs b off h i hi
    rw [add_plain, h i (by simpa using hi), List.getElem?_map, List.getElem?_eq_getElem hi, List.getD_eq_getElem?_getD, List.getElem?_eq_getElem hi]; rfl
  have fin : (Calls Tryd.prog 40 #[.slice A n c, .slice (some ⟨b2, o2, none⟩) n' c'] W fun e w' => e = .returned (.int .i64 (Lib.index (Lib.bytesOf xs) (Lib.bytesOf ys))) ∧ ∃ q, w' = W.drewN q) → GivesV Tryd.prog 40 [.slice A n c, .slice (some ⟨b2, o2, none⟩) n' c'] W (.int .i64 (Lib.index (Lib.bytesOf xs) (Lib.bytesOf ys))) := fun h =>
    givesV_of (h.mono fun e w' ⟨he, q, hw⟩ => ⟨_, he, rfl, by rw [hw]; exact drewN_below W q⟩)
  refine fin ?_
  have key : ∀ a1 : Addr, A = some a1 → (∀ i, i < n → W.cell? (a1.add i) = some (.int .u8 (xs.getD i 0))) → Calls Tryd.prog 40 #[.slice A n c, .slice (some ⟨b2, o2, none⟩) n' c'] W fun e w' => e = .returned (.int .i64 (Lib.index (Lib.bytesOf xs) (Lib.bytesOf ys))) ∧ ∃ q, w' = W.drewN q := fun a1 e h => by
    subst e
    exact Any.bytes_Index_at (P := Tryd.prog) (ρ := laysB185_ren) laysB185 a1 ⟨b2, o2, none⟩ n c n' c' xs ys m W lx ly hx hy h (fun i hi => cells hy2 i (by omega)) hc1 (by omega) (by omega) hm
  rcases hx1 with hx1 | ⟨b1, o1, rfl, hx1⟩
  · subst hx1
    cases A with
    | some a1 => exact key a1 rfl fun i hi => by omega
    | none =>
      refine absurd hA0 ?_
      simp
  · exact key _ rfl fun i hi => cells hx1 i (by omega)
theorem bytes_Index {xs ys : List Int} (hx : byteOK xs) (hy : byteOK ys) (hne : 2 ≤ ys.length) {A A' : Option Addr} {n c n' c' : Nat} {W : World} (rx : Rd W (.slice A n c) 1 n (xs.map (.int .u8))) (ry : Rd W (.slice A' n' c') 1 n' (ys.map (.int .u8))) (hl : n ≤ 4294967280) (hk : n' ≤ 4294967280) (hM : MaxL W) :
    GivesV Tryd.prog 40 [.slice A n c, .slice A' n' c'] W (.int .i64 (Lib.index (Lib.bytesOf xs) (Lib.bytesOf ys))) := by
  cases A with
  | some a => exact bytes_IndexS hx hy (by omega) rx ry hl hk (by simp) hM
  | none =>
    have h0 : n = 0 := by
      obtain ⟨_, A1, c1, e1, _, h⟩ := rx
      cases e1
      rcases h with h | ⟨_, _, e, _⟩
      · exact h
      · cases e
    subst h0
    obtain rfl : xs = [] := by
      have := rx.len
      simpa using this
    have hn : n' = ys.length := by have := ry.len; simpa using this.symm
    have e : Lib.index (Lib.bytesOf []) (Lib.bytesOf ys) = -1 := by
      cases ys with
      | nil => simp at hne
      | cons y ys => rfl
    rw [e]
    exact bytes_Index_none (by omega) hk
end Go.Proofs.YtjdgcgmhbhfpkaaDoorE
/- The program's test of a line end. -/
namespace Go.Proofs.YtjdgcgmhbhfpkaaDoorE
open Go Go.RowKit Go.Proofs
set_option linter.unusedVariables false
set_option maxRecDepth 100000

theorem ok_lineEnd : callOK Tryd.prog 32 = true := by kernel_rfl
theorem impl_lineEnd (p : Int) (W : World) : GivesV Tryd.prog 32 [.int .i32 p] W (.bool (lineE p)) := by
  have H := St.enter W
  refine calls_of_vcV (args := [.int .i32 p]) Tryd.func32 rfl (by kernel_rfl) (Nat.le_of_ble_eq_true rfl) ?_
  unfold lineE
  refine RegV.mk ?_
  refine gF (fun c1 => ?_) (fun c1 => ?_)
  · refine gF (fun c2 => ?_) (fun c2 => ?_)
    · refine gF (fun c3 => ?_) (fun c3 => ?_)
      · exact Exists.intro _ (And.intro rfl (And.intro (congrArg Value.bool (by (rw [Bool.eq_iff_iff]; simp only [decide_eq_true_eq, Bool.false_eq_true, true_iff, iff_true, false_iff, iff_false]; omega))) H.none))
      · exact Exists.intro _ (And.intro rfl (And.intro (congrArg Value.bool (by (rw [Bool.eq_iff_iff]; simp only [decide_eq_true_eq, Bool.false_eq_true, true_iff, iff_true, false_iff, iff_false]; omega))) H.none))
    · refine gNf ?_
      exact Exists.intro _ (And.intro rfl (And.intro (congrArg Value.bool (by (rw [Bool.eq_iff_iff]; simp only [decide_eq_true_eq, Bool.false_eq_true, true_iff, iff_true, false_iff, iff_false]; omega))) H.none))
  · refine gNf ?_
    refine gNf ?_
    exact Exists.intro _ (And.intro rfl (And.intro (congrArg Value.bool (by (rw [Bool.eq_iff_iff]; simp only [decide_eq_true_eq, Bool.false_eq_true, true_iff, iff_true, false_iff, iff_false]; omega))) H.none))
end Go.Proofs.YtjdgcgmhbhfpkaaDoorE
/- Where a block comment ends: in the points, and in the bytes. No program stands here. -/
namespace Go.Proofs.YtjdgcgmhbhfpkaaDoorE
open Go Go.RowKit
set_option linter.unusedVariables false
set_option maxRecDepth 100000

def endB : List Int → Option Nat
  | a :: b :: r => if a = 42 ∧ b = 47 then some 0 else (endB (b :: r)).map (· + 1)
  | _ => none
def natO : Option Nat → Int
  | some k => k
  | none => -1
theorem index_star (xs : List Int) (hb : byteOK xs) : Lib.index (Lib.bytesOf xs) (Lib.bytesOf [42, 47]) = natO (endB xs) := by
  induction xs with
  | nil => rfl
  | cons a r ih =>
    obtain ⟨⟨a0, a1⟩, hr⟩ := hb.cons
    have ih := ih hr
    have key : ∀ x c : Int, 0 ≤ x → x < 256 → 0 ≤ c → c < 256 → (UInt8.ofNat c.toNat == UInt8.ofNat x.toNat) = decide (x = c) := by
      intro x c hx0 hx1 hc0 hc1
      rw [Bool.eq_iff_iff, beq_iff_eq, decide_eq_true_eq]
      constructor
      · intro e
        have e := congrArg UInt8.toNat e
        rw [UInt8.toNat_ofNat', UInt8.toNat_ofNat'] at e
        omega
      · intro e; rw [e]
    have hge := Lib.index_ge (Lib.bytesOf r) (Lib.bytesOf [42, 47])
    show (if (Lib.bytesOf [42, 47]).isPrefixOf (UInt8.ofNat a.toNat :: Lib.bytesOf r) then (0 : Int) else if Lib.index (Lib.bytesOf r) (Lib.bytesOf [42, 47]) == -1 then -1 else Lib.index (Lib.bytesOf r) (Lib.bytesOf [42, 47]) + 1) = _
    have tl : (if Lib.index (Lib.bytesOf r) (Lib.bytesOf [42, 47]) == -1 then (-1 : Int) else Lib.index (Lib.bytesOf r) (Lib.bytesOf [42, 47]) + 1) = natO ((endB r).map (· + 1)) := by
      rw [ih]
      cases endB r with
      | none => rfl
      | some k =>
        rw [if_neg (by simp only [natO, beq_iff_eq]; omega)]
        rfl
    cases r with
    | nil =>
      rw [show (Lib.bytesOf [42, 47]).isPrefixOf (UInt8.ofNat a.toNat :: Lib.bytesOf []) = false from Bool.and_false _]
      exact tl
    | cons b r =>
      obtain ⟨⟨b0, b1⟩, _⟩ := hr.cons
      have pre : (Lib.bytesOf [42, 47]).isPrefixOf (UInt8.ofNat a.toNat :: Lib.bytesOf (b :: r)) = decide (a = 42 ∧ b = 47) := by
        show ((UInt8.ofNat (42 : Int).toNat == UInt8.ofNat a.toNat) && ((UInt8.ofNat (47 : Int).toNat == UInt8.ofNat b.toNat) && true)) = decide (a = 42 ∧ b = 47)
        rw [key a 42 a0 a1 (by decide) (by decide), key b 47 b0 b1 (by decide) (by decide), Bool.and_true, Bool.decide_and]
      rw [pre, endB]
      by_cases h : a = 42 ∧ b = 47
      · rw [decide_eq_true h, if_pos h]; rfl
      · rw [decide_eq_false h, if_neg h, ← tl]; rfl
theorem endB_one (a : Int) : endB [a] = none := rfl
theorem endB_two (a b : Int) (r : List Int) : endB (a :: b :: r) = if a = 42 ∧ b = 47 then some 0 else (endB (b :: r)).map (· + 1) := rfl
theorem endB_skip (a : Int) (ha : a ≠ 42) : ∀ l, endB (a :: l) = (endB l).map (· + 1)
  | [] => rfl
  | b :: r => by rw [endB_two, if_neg (fun h => ha h.1)]
theorem endB_big : ∀ (u l : List Int), (∀ x ∈ u, 128 ≤ x) → endB (u ++ l) = (endB l).map (· + u.length)
  | [], l, _ => by show endB l = _; cases endB l <;> rfl
  | a :: u, l, h => by
    have h1 := h a (by simp)
    rw [List.cons_append, endB_skip a (by omega), endB_big u l (fun x hx => h x (by simp [hx]))]
    cases endB l with
    | none => rfl
    | some k => simp only [Option.map_some, List.length_cons, Option.some.injEq]; omega
theorem endQ_skip (a : Int) (ha : a ≠ 42) : ∀ l, endQ (a :: l) = endQ l
  | [] => rfl
  | b :: r => by
    show (if a = 42 ∧ b = 47 then some r else endQ (b :: r)) = _
    rw [if_neg (fun h => ha h.1)]
theorem dec1_wide (xs : List Int) (hb : byteOK xs) (hne : 0 < xs.length) (h0 : (dec1 xs).2 ≠ 0) (h : 128 ≤ (dec1 xs).1) : (dec1 xs).2.toNat ≤ xs.length ∧ ∀ x ∈ xs.take (dec1 xs).2.toNat, 128 ≤ x := by
  have big : ∀ m, m ≤ xs.length → (∀ j, j < m → 128 ≤ xs.getD j 0) → ∀ x ∈ xs.take m, 128 ≤ x := by
    intro m hm hj x hx
    obtain ⟨j, hjl, rfl⟩ := List.getElem_of_mem hx
    rw [List.length_take] at hjl
    have := hj j (by omega)
    rw [List.getD_eq_getElem?_getD, List.getElem?_eq_getElem (by omega)] at this
    rw [List.getElem_take]; exact this
  rcases dec1_spec xs hb hne with h1 | h1 | h1 | h1 | h1
  · omega
  · rw [h1.1]
    refine ⟨h1.2.1, big 2 h1.2.1 fun j hj => ?_⟩
    rcases (show j = 0 ∨ j = 1 by omega) with rfl | rfl <;> omega
  · rw [h1.1]
    refine ⟨h1.2.1, big 3 h1.2.1 fun j hj => ?_⟩
    rcases (show j = 0 ∨ j = 1 ∨ j = 2 by omega) with rfl | rfl | rfl <;> omega
  · rw [h1.1]
    refine ⟨h1.2.1, big 4 h1.2.1 fun j hj => ?_⟩
    rcases (show j = 0 ∨ j = 1 ∨ j = 2 ∨ j = 3 by omega) with rfl | rfl | rfl | rfl <;> omega
  · omega
/-- both find it at the same place -/
def EndAt (xs : List Int) (i : Nat) (o : Option Nat) : Option (List Int) → Prop
  | none => o = none
  | some r => ∃ k, o = some k ∧ At xs (i + k + 2) r
theorem EndAt.up {xs : List Int} {i m : Nat} {o : Option Nat} {r : Option (List Int)} (h : EndAt xs (i + m) o r) : EndAt xs i (o.map (· + m)) r := by
  cases r with
  | none => have h : o = none := h; subst h; rfl
  | some r =>
    obtain ⟨k, rfl, ha⟩ := h
    refine ⟨k + m, rfl, ?_⟩
    rw [show i + (k + m) + 2 = i + m + k + 2 by omega]; exact ha
theorem endAt {xs : List Int} (hb : byteOK xs) {i : Nat} {qs : List Int} (h : At xs i qs) : EndAt xs i (endB (xs.drop i)) (endQ qs) := by
  induction h with
  | done => rw [List.drop_length]; rfl
  | @more i qs hi h0 k ih =>
    have hne : 0 < (xs.drop i).length := by rw [List.length_drop]; omega
    by_cases hw : (dec1 (xs.drop i)).1 < 128
    · obtain ⟨e1, e2⟩ := dec1_ascii (xs.drop i) (hb.drop i) hne h0 hw
      have e3 : (dec1 (xs.drop i)).2.toNat = 1 := by omega
      rw [e3] at k ih
      rw [getD_drop, Nat.add_zero] at e2
      rw [e2, drop_cons xs i hi]
      cases qs with
      | nil =>
        have hn := At.nil k
        rw [List.drop_of_length_le (by omega)]; rfl
      | cons q0 q =>
        obtain ⟨hi2, hq0, h02, k2⟩ := At.cons k
        subst hq0
        have hne2 : 0 < (xs.drop (i + 1)).length := by rw [List.length_drop]; omega
        have hsp := dec1_spec (xs.drop (i + 1)) (hb.drop (i + 1)) hne2
        have h00 : (xs.drop (i + 1)).getD 0 0 = xs.getD (i + 1) 0 := by rw [getD_drop, Nat.add_zero]
        rw [h00] at hsp
        have hasc := dec1_ascii (xs.drop (i + 1)) (hb.drop (i + 1)) hne2 h02
        rw [h00] at hasc
        have ih := EndAt.up ih
        have hdr : xs.drop (i + 1) = xs.getD (i + 1) 0 :: xs.drop (i + 1 + 1) := drop_cons xs (i + 1) hi2
        obtain ⟨bs, hbs⟩ : ∃ bs, xs.drop (i + 1) = bs := ⟨_, rfl⟩
        rw [hbs] at hsp hasc ih hdr k2 ⊢
        obtain ⟨p2, hp2⟩ : ∃ p2, (dec1 bs).1 = p2 := ⟨_, rfl⟩
        rw [hp2] at hsp hasc ih ⊢
        rw [hdr] at ih ⊢
        show EndAt xs i _ (if xs.getD i 0 = 42 ∧ p2 = 47 then some q else endQ (p2 :: q))
        rw [endB_two]
        by_cases c : xs.getD i 0 = 42 ∧ p2 = 47
        · obtain ⟨f1, f2⟩ := hasc (by omega)
          rw [if_pos ⟨c.1, by omega⟩, if_pos c]
          refine ⟨0, rfl, ?_⟩
          rw [show (dec1 bs).2.toNat = 1 by omega] at k2
          exact k2
        · have c' : ¬ (xs.getD i 0 = 42 ∧ xs.getD (i + 1) 0 = 47) := by
            intro z; apply c; refine ⟨z.1, ?_⟩; omega
          rw [if_neg c', if_neg c]
          exact ih
    · obtain ⟨hm, hbig⟩ := dec1_wide (xs.drop i) (hb.drop i) hne h0 (by omega)
      have hsplit : xs.drop i = (xs.drop i).take (dec1 (xs.drop i)).2.toNat ++ xs.drop (i + (dec1 (xs.drop i)).2.toNat) := by
        rw [← List.drop_drop, List.take_append_drop]
      have hl : ((xs.drop i).take (dec1 (xs.drop i)).2.toNat).length = (dec1 (xs.drop i)).2.toNat := by rw [List.length_take]; omega
      have e : endB (xs.drop i) = (endB (xs.drop (i + (dec1 (xs.drop i)).2.toNat))).map (· + (dec1 (xs.drop i)).2.toNat) := by
        have := endB_big _ (xs.drop (i + (dec1 (xs.drop i)).2.toNat)) hbig
        rw [← hsplit, hl] at this; exact this
      rw [e, endQ_skip _ (by omega)]
      exact EndAt.up ih
theorem index_end {xs : List Int} (hb : byteOK xs) {i : Nat} {qs : List Int} (h : At xs i qs) :
    (Lib.index (Lib.bytesOf (xs.drop i)) (Lib.bytesOf [42, 47]) = -1 ∧ endQ qs = none) ∨ ∃ (k : Nat) (r : List Int), Lib.index (Lib.bytesOf (xs.drop i)) (Lib.bytesOf [42, 47]) = k ∧ endQ qs = some r ∧ At xs (i + k + 2) r := by
  have he := endAt hb h
  rw [index_star _ (hb.drop i)]
  cases hq : endQ qs with
  | none =>
    rw [hq] at he
    have he : endB (xs.drop i) = none := he
    rw [he]; exact .inl ⟨rfl, rfl⟩
  | some r =>
    rw [hq] at he
    obtain ⟨k, hk, ha⟩ := he
    rw [hk]; exact .inr ⟨k, r, rfl, rfl, ha⟩
end Go.Proofs.YtjdgcgmhbhfpkaaDoorE
/- The program's token. -/
namespace Go.Proofs.YtjdgcgmhbhfpkaaDoorE
open Go Go.RowKit Go.Proofs
set_option linter.unusedVariables false
set_option linter.unusedSimpArgs false
set_option maxRecDepth 100000
set_option maxHeartbeats 4000000

theorem ok_blank : callOK Tryd.prog 18 = true := by kernel_rfl
theorem impl_blank (p : Int) (W : World) : GivesV Tryd.prog 18 [.int .i32 p] W (.bool (blankQ p)) := by
  have H := St.enter W
  refine calls_of_vcV (args := [.int .i32 p]) Tryd.func18 rfl (by kernel_rfl) (Nat.le_of_ble_eq_true rfl) ?_
  refine JoinV.mk ?_
  refine JoinV.mk ?_
  refine ifB (fun c2 => ?_) (fun c2 => ?_)
  · refine ifB (fun c3 => ?_) (fun c3 => absurd c3 (by omega))
    exact Exists.intro _ (And.intro rfl (And.intro (congrArg Value.bool (decide_eq_true (by omega)).symm) H.none))
  · refine ifB (fun c4 => ?_) (fun c4 => ?_)
    · refine ifB (fun c5 => ?_) (fun c5 => absurd c5 (by omega))
      exact Exists.intro _ (And.intro rfl (And.intro (congrArg Value.bool (decide_eq_true (by omega)).symm) H.none))
    · refine ifB (fun c6 => ?_) (fun c6 => ?_)
      · refine ifB (fun c7 => ?_) (fun c7 => absurd c7 (by omega))
        exact Exists.intro _ (And.intro rfl (And.intro (congrArg Value.bool (decide_eq_true (by omega)).symm) H.none))
      · refine ifB (fun c8 => ?_) (fun c8 => ?_)
        · refine ifB (fun c9 => ?_) (fun c9 => absurd c9 (by omega))
          exact Exists.intro _ (And.intro rfl (And.intro (congrArg Value.bool (decide_eq_true (by omega)).symm) H.none))
        · refine ifB (fun c10 => ?_) (fun c10 => ?_)
          · refine ifB (fun c11 => ?_) (fun c11 => absurd c11 (by omega))
            exact Exists.intro _ (And.intro rfl (And.intro (congrArg Value.bool (decide_eq_true (by omega)).symm) H.none))
          · refine ifB (fun c12 => ?_) (fun c12 => ?_)
            · exact Exists.intro _ (And.intro rfl (And.intro (congrArg Value.bool (decide_eq_true (by omega)).symm) H.none))
            · refine callV ok_lineEnd (impl_lineEnd _ _) H fun w H => ?_
              refine Exists.intro _ (And.intro rfl (And.intro (congrArg Value.bool ?_) H.none))
              unfold blankQ
              rw [Bool.eq_iff_iff, decide_eq_true_eq]
              exact ⟨fun h => .inr (.inr (.inr (.inr (.inr (.inr h))))), fun h => by rcases h with h | h | h | h | h | h | h <;> first | exact h | exact absurd h (by assumption)⟩
/-! ## a run's bytes -/
theorem At.ascii {xs : List Int} (hb : byteOK xs) : ∀ (rs : List Int) {i : Nat} {qs : List Int}, At xs i (rs ++ qs) → (∀ p ∈ rs, p < 128) → At xs (i + rs.length) qs ∧ (xs.take (i + rs.length)).drop i = rs
  | [], i, qs, h, _ => by simp at h ⊢; exact h
  | p :: rs, i, qs, h, ha => by
    obtain ⟨hi, hp, h0, hk⟩ := h.cons
    have hd := dec1_ascii (xs.drop i) (hb.drop i) (by rw [List.length_drop]; omega) h0 (by rw [← hp]; exact ha p (by simp))
    have e1 : (dec1 (xs.drop i)).2.toNat = 1 := by omega
    rw [e1] at hk
    obtain ⟨q1, q2⟩ := At.ascii hb rs hk (fun x hx => ha x (by simp [hx]))
    refine ⟨by rw [List.length_cons, show i + (rs.length + 1) = i + 1 + rs.length by omega]; exact q1, ?_⟩
    have hle := q1.le hb
    rw [List.length_cons, show i + (rs.length + 1) = i + 1 + rs.length by omega]
    have hx : (xs.take (i + 1 + rs.length)).drop i = xs.getD i 0 :: (xs.take (i + 1 + rs.length)).drop (i + 1) := by
      rw [List.drop_eq_getElem_cons (by rw [List.length_take]; omega), List.getElem_take, List.getD_eq_getElem?_getD, List.getElem?_eq_getElem hi]; rfl
    have h2 : p = xs.getD i 0 := by
      rw [hp, hd.2, getD_drop, Nat.add_zero]
    rw [hx, q2, h2]
theorem MaxL.st {B : Nat} {W0 w : World} {L : List It} (h : MaxL W0) (hB : 0 < B) (H : St B W0 w L) : MaxL w := by
  obtain ⟨m, hm⟩ := h
  exact ⟨m, below_cell H.below hB hm⟩
theorem MaxL.lt {w : World} (h : MaxL w) : 0 < w.heap.size := by
  obtain ⟨m, hm⟩ := h
  exact cell_lt hm
theorem callStar {xs qs : List Int} {i : Nat} {B : Nat} {W0 w : World} {L : List It} {A A' : Option Addr} {n c c' : Nat} {K : Value → World → Prop} {X : List PanicEntry → World → Prop} (hb : byteOK xs) (ha : At xs i qs) (hl : n - i ≤ 4294967280) (H : St B W0 w L) (hM : MaxL w)
    (r1 : Rd w (.slice A (n - i) c) 1 (n - i) ((xs.drop i).map (.int .u8))) (r2 : Rd w (.slice A' 2 c') 1 2 ([42, 47].map (.int .u8)))
    (k : ∀ (ix : Int) w', -1 ≤ ix → ix + i + 2 ≤ xs.length + 1 → ((ix = -1 ∧ endQ qs = none) ∨ ∃ (k : Nat) (r : List Int), ix = k ∧ endQ qs = some r ∧ At xs (i + k + 2) r) → St B W0 w' L → K (.int .i64 ix) w') :
    CallS Tryd.prog 40 [.slice A (n - i) c, .slice A' 2 c'] w K X := by
  have hix := index_end hb ha
  have hle := ha.le hb
  have hn : n - i = xs.length - i := by have := r1.len; simpa using this.symm
  have hcI := bytes_Index (xs := xs.drop i) (ys := [42, 47]) (hb.drop i) (fun x hx => by simp at hx; omega) (by decide) r1 r2 hl (by decide) hM
  generalize Lib.index (Lib.bytesOf (xs.drop i)) (Lib.bytesOf [42, 47]) = ix at hix hcI
  refine callV ok_bIndex hcI H fun w H => k ix w ?_ ?_ hix H
  · rcases hix with ⟨h1, _⟩ | ⟨k, r, h1, _, h2⟩ <;> omega
  · rcases hix with ⟨h1, _⟩ | ⟨k, r, h1, _, h2⟩
    · omega
    · have := h2.le hb; omega
def TokI (B : Nat) (W0 : World) (L : List It) (xs : List Int) (qs : List Int) (g : Nat) (A : Option Addr) (n c : Nat) (e : Ending) (w : World) : Prop := ∃ (k : Int) (b : Bool) (i' : Nat) (r : List Int), e = .returned (.tuple #[.int .i64 k, .bool b]) ∧ tokQ qs = (if b then some (k, r) else none) ∧ (b = true → At xs i' r) ∧ St B W0 w (scO g (.slice A n c) i' :: txt (.slice A n c) n xs :: L)
theorem tokB {B : Nat} {W0 w : World} {L : List It} {xs qs r2 : List Int} {g i : Nat} {A : Option Addr} {n c : Nat} {ix : Int} (h1 : -1 ≤ ix) (h3 : (ix = -1 ∧ endQ r2 = none) ∨ ∃ (k : Nat) (r : List Int), ix = k ∧ endQ r2 = some r ∧ At xs (i + k + 2) r)
    (htk : tokQ qs = match endQ r2 with | some x => some (11, x) | none => none) (H : St B W0 w (scO g (.slice A n c) (i + (ix + 2)) :: txt (.slice A n c) n xs :: L)) :
    TokI B W0 L xs qs g A n c (.returned (.tuple #[.int .i64 11, .bool (decide (ix ≥ 0))])) w := by
  rcases h3 with ⟨rfl, h4⟩ | ⟨k, r, rfl, h4, h5⟩
  · rw [h4] at htk
    rw [show (i : Int) + (-1 + 2) = ((i + 1 : Nat) : Int) by omega] at H
    exact ⟨11, _, i + 1, [], rfl, by rw [htk]; rfl, fun z => absurd (of_decide_eq_true z) (by omega), H⟩
  · rw [h4] at htk
    rw [show (i : Int) + (k + 2) = ((i + k + 2 : Nat) : Int) by omega] at H
    exact ⟨11, _, i + k + 2, r, rfl, by rw [htk, decide_eq_true (show (k : Int) ≥ 0 by omega)]; rfl, fun _ => h5, H⟩
theorem tokQ_head (qs : List Int) : tokQ qs = if braceQ (headP qs) ≠ 0 then some (braceQ (headP qs), qs.drop 1) else
    if sortN (headP qs) = 1 then some (7, (qs.drop 1).dropWhile nameQ) else
    if sortN (headP qs) = 2 ∨ sortN (headP qs) = 3 then (if numb (headP qs :: (qs.drop 1).takeWhile rnQ) then some (8, (qs.drop 1).dropWhile rnQ) else none) else
    if headP qs = 34 ∨ headP qs = 39 then (match quotedQ qs with | some x => some (9, x.2) | none => none) else
    if headP qs ≠ 47 then none else
    if headP (qs.drop 1) = 47 then some (10, ((qs.drop 1).drop 1).dropWhile noEnd) else
    if headP (qs.drop 1) = 42 then (match endQ ((qs.drop 1).drop 1) with | some x => some (11, x) | none => none) else none := by
  cases qs <;> rfl
theorem dw_head (qs : List Int) (p : Int) (hp : headP qs = p) (h0 : 0 ≤ p) {f : Int → Bool} (hf : f p = true) : qs.dropWhile f = (qs.drop 1).dropWhile f := by
  cases qs with
  | nil => have : p = -1 := hp.symm; omega
  | cons a r =>
    have : a = p := hp
    subst this
    rw [List.dropWhile_cons, if_pos hf]; rfl
theorem dw_congr (f g : Int → Bool) (qs : List Int) (h : ∀ a, f a = g a) : qs.dropWhile f = qs.dropWhile g := by
  have : f = g := funext h
  rw [this]
theorem in3 (a : Int) : inQ [1, 2, 3] a = rnQ a := by
  unfold inQ rnQ
  have := sortN_cases a
  rw [Bool.eq_iff_iff, decide_eq_true_eq, decide_eq_true_eq]
  simp only [List.mem_cons, List.not_mem_nil, or_false]; omega
theorem run_rest {xs qs : List Int} {p : Int} {i2 : Nat} (hp : headP qs = p) (h : sortN p = 2 ∨ sortN p = 3) (ha2 : At xs i2 (qs.dropWhile (inQ [1, 2, 3]))) : At xs i2 ((qs.drop 1).dropWhile rnQ) := by
  have hr : rnQ p = true := decide_eq_true (by omega)
  have h0 : 0 ≤ p := by rcases sortN_cases p with z | z | z | z <;> omega
  rw [dw_congr _ rnQ _ in3, dw_head qs p hp h0 hr] at ha2
  exact ha2
theorem tw_drop (f : Int → Bool) : ∀ qs : List Int, qs = qs.takeWhile f ++ qs.dropWhile f := fun qs => List.takeWhile_append_dropWhile.symm
theorem rn_lt {x : Int} (h : rnQ x = true) : 0 ≤ x ∧ x < 128 := by
  have := of_decide_eq_true h
  rcases sortN_cases x with z | z | z | z <;> omega
theorem twm (f : Int → Bool) : ∀ r : List Int, ∀ x ∈ r.takeWhile f, f x = true
  | [], x, h => by simp at h
  | a :: r, x, h => by
    rw [List.takeWhile_cons] at h
    by_cases ha : f a = true
    · rw [if_pos ha] at h
      rcases List.mem_cons.1 h with rfl | h
      · exact ha
      · exact twm f r x h
    · rw [if_neg ha] at h; simp at h
theorem run_num {xs qs : List Int} (hb : byteOK xs) {p : Int} {i i2 : Nat} (ha : At xs i qs) (hp : headP qs = p) (h : sortN p = 2 ∨ sortN p = 3) (ha2 : At xs i2 (qs.dropWhile (inQ [1, 2, 3]))) :
    i ≤ i2 ∧ (xs.take i2).drop i = p :: (qs.drop 1).takeWhile rnQ ∧ byteOK ((xs.take i2).drop i) := by
  have hr : rnQ p = true := decide_eq_true (by omega)
  have h0 : 0 ≤ p := by rcases sortN_cases p with z | z | z | z <;> omega
  rw [dw_congr _ rnQ _ in3] at ha2
  have hq := tw_drop rnQ qs
  rw [hq] at ha
  obtain ⟨q1, q2⟩ := At.ascii hb _ ha (fun x hx => (rn_lt (twm rnQ _ x hx)).2)
  have e := At.eq hb q1 ha2
  have ht : qs.takeWhile rnQ = p :: (qs.drop 1).takeWhile rnQ := by
    cases qs with
    | nil => have : p = -1 := hp.symm; omega
    | cons a r =>
      have : a = p := hp
      subst this
      rw [List.takeWhile_cons, if_pos hr]; rfl
  refine ⟨by omega, by rw [← e, q2, ht], fun x hx => ?_⟩
  rw [← e, q2] at hx
  have := rn_lt (twm rnQ _ x hx)
  omega
theorem ok_token : callOK Tryd.prog 19 = true := by kernel_rfl
theorem impl_token {xs : List Int} (hb : byteOK xs) {A : Option Addr} {n c g i : Nat} {qs : List Int} (hl : n ≤ 4294967280) (ha : At xs i qs) {B : Nat} {W0 w : World} {L : List It} (hM : MaxL W0) (hMB : 0 < B)
    (H : St B W0 w (scO g (.slice A n c) i :: txt (.slice A n c) n xs :: L)) :
    Calls Tryd.prog 19 #[.pointer (some ⟨g, 0, none⟩)] w fun e w' => TokI B W0 L xs qs g A n c e w' := by
  have hln : n = xs.length := by have := (H.rd 1 rfl).len; simpa using this.symm
  have hbd := headN_bd hb ha
  have hpb := ha.bd hb
  refine calls_of_vcV (args := [.pointer (some ⟨g, 0, none⟩)]) Tryd.func19 rfl (by kernel_rfl) (Nat.le_of_ble_eq_true rfl) ?_
  refine newR (o := .cells #[.pointer (some ⟨g, 0, none⟩)] _) H fun gs w H => ?_
  have H : St B W0 w (scO g (.slice A n c) i :: txt (.slice A n c) n xs :: .obj gs (.cells #[.pointer (some ⟨g, 0, none⟩)] 41) :: L) := H.sel (fun q => by simp only [cntL_append, cntL, List.cons_append, List.nil_append, List.set_cons_zero, List.set_cons_succ, List.flatMap_append, List.flatMap_cons, List.flatMap_nil, It.rowB, It.rowI, It.roB, It.roI, scO, txt]; omega)
  refine loadO H 2 rfl rfl ?_
  refine callU ok_peek (impl_peek hb (by omega) ha H) fun w H => ?_
  have hpp : -1 ≤ headP qs ∧ headP qs ≤ 1114111 := by
    cases qs with
    | nil => exact ⟨by decide, by decide⟩
    | cons a r => have := hpb a (by simp); exact ⟨by show -1 ≤ a; omega, this.2⟩
  obtain ⟨p, hp⟩ : ∃ p, headP qs = p := ⟨_, rfl⟩
  have htk := tokQ_head qs
  rw [hp] at hpp htk ⊢
  obtain ⟨q, hq⟩ : ∃ q, headN xs i qs = q := ⟨_, rfl⟩
  rw [hq] at hbd ⊢
  have hbr : -1 ≤ braceQ p - 1 ∧ braceQ p - 1 ≤ 5 := by
    unfold braceQ
    repeat' split
    all_goals omega
  refine litBS (xs := [123, 125, 91, 93, 58, 44]) H (by simp) (by kernel_rfl) fun A0 k0 w H => ?_
  refine convMark H 0 rfl (by decide) fun w H => ?_
  refine callV ok_IndexRune (bytes_IndexRune (by omega) (by omega) (H.rd 0 rfl)) H fun w H => ?_
  refine ifB (fun c3 => ?_) (fun c3 => ?_)
  · refine loadO H 3 rfl rfl ?_
    refine loadO H 1 rfl rfl ?_
    refine ar64 (by omega) (by omega) ?_
    refine storeO H 1 rfl rfl rfl fun w H => ?_
    refine ar64 (by omega) (by omega) ?_
    rw [if_pos (by omega)] at htk
    subst hq
    have H : St B W0 w (.ro (.slice A0 6 k0) 1 6 (onesQ.map (.int .u8)) :: scO g (.slice A n c) (i + headN xs i qs) :: txt (.slice A n c) n xs :: .obj gs (.cells #[.pointer (some ⟨g, 0, none⟩)] 41) :: L) := H
    have H : St B W0 w (scO g (.slice A n c) (i + headN xs i qs) :: txt (.slice A n c) n xs :: L) := H.sel (fun q => by simp only [cntL_append, cntL, List.cons_append, List.nil_append, List.set_cons_zero, List.set_cons_succ, List.flatMap_append, List.flatMap_cons, List.flatMap_nil, It.rowB, It.rowI, It.roB, It.roI, scO, txt]; omega)
    obtain ⟨i2, ha2, HH⟩ := advO hb ha H
    refine Exists.intro (1 + (braceQ p - 1)) (Exists.intro true (Exists.intro i2 (Exists.intro (qs.drop 1) (And.intro rfl (And.intro ?_ (And.intro (fun _ => ha2) HH))))))
    rw [htk, show 1 + (braceQ p - 1) = braceQ p by omega]; rfl
  · refine loadO H 3 rfl rfl ?_
    refine loadO H 1 rfl rfl ?_
    refine JoinV.mk ?_
    refine callV ok_sortOf (impl_sortOf _ _) H fun w H => ?_
    refine ifB (fun c13 => ?_) (fun c13 => ?_)
    · rw [if_neg (by omega), if_pos (by omega)] at htk
      refine litR (e := 60) (sz := 1) (n := 2) (cs := [.int .i64 1, .int .i64 2]) H rfl (by decide) (by kernel_rfl) fun A4 k4 w H => ?_
      have H : St B W0 w (.row (.slice A4 2 k4) 60 1 2 ([1, 2].map (.int .i64)) :: .ro (.slice A0 6 k0) 1 6 (onesQ.map (.int .u8)) :: scO g (.slice A n c) i :: txt (.slice A n c) n xs :: .obj gs (.cells #[.pointer (some ⟨g, 0, none⟩)] 41) :: L) := H
      have H : St B W0 w (scO g (.slice A n c) i :: txt (.slice A n c) n xs :: .obj gs (.cells #[.pointer (some ⟨g, 0, none⟩)] 41) :: .row (.slice A4 2 k4) 60 1 2 ([1, 2].map (.int .i64)) :: .ro (.slice A0 6 k0) 1 6 (onesQ.map (.int .u8)) :: L) := H.sel (fun q => by simp only [cntL_append, cntL, List.cons_append, List.nil_append, List.set_cons_zero, List.set_cons_succ, List.flatMap_append, List.flatMap_cons, List.flatMap_nil, It.rowB, It.rowI, It.roB, It.roI, scO, txt]; omega)
      refine CallS.mk ok_run1 ((impl_run1 (os := [1, 2]) hb (by omega) (by omega) ha H).mono ?_)
      rintro _ w ⟨rfl, i2, ha2, H⟩
      have hnp : 0 ≤ p ∧ inQ [1, 2] p = true := ⟨by rcases sortN_cases p with z | z | z | z <;> omega, decide_eq_true ⟨by rcases sortN_cases p with z | z | z | z <;> omega, by rw [c13]; decide⟩⟩
      rw [dw_head qs p hp hnp.1 hnp.2] at ha2
      refine Exists.intro 7 (Exists.intro true (Exists.intro i2 (Exists.intro _ (And.intro rfl (And.intro ?_ (And.intro (fun _ => ha2) (H.sel (fun q => by simp only [cntL_append, cntL, List.cons_append, List.nil_append, List.set_cons_zero, List.set_cons_succ, List.flatMap_append, List.flatMap_cons, List.flatMap_nil, It.rowB, It.rowI, It.roB, It.roI, scO, txt]; omega))))))))
      rw [htk, dw_congr (inQ [1, 2]) nameQ _ (fun a => by
        unfold inQ nameQ
        have := sortN_cases a
        rw [Bool.eq_iff_iff, decide_eq_true_eq, decide_eq_true_eq]
        simp only [List.mem_cons, List.not_mem_nil, or_false]; omega)]; rfl
    · refine JoinV.mk ?_
      refine ifB (fun c15 => ?_) (fun c15 => ?_)
      · refine ifB (fun c16 => ?_) (fun c16 => absurd c16 (by omega))
        rw [if_neg (by omega), if_neg (by omega), if_pos (by omega)] at htk
        refine litR (e := 60) (sz := 1) (n := 3) (cs := [.int .i64 1, .int .i64 2, .int .i64 3]) H rfl (by decide) (by kernel_rfl) fun A4 k4 w H => ?_
        have H : St B W0 w (.row (.slice A4 3 k4) 60 1 3 ([1, 2, 3].map (.int .i64)) :: .ro (.slice A0 6 k0) 1 6 (onesQ.map (.int .u8)) :: scO g (.slice A n c) i :: txt (.slice A n c) n xs :: .obj gs (.cells #[.pointer (some ⟨g, 0, none⟩)] 41) :: L) := H
        have H : St B W0 w (scO g (.slice A n c) i :: txt (.slice A n c) n xs :: .obj gs (.cells #[.pointer (some ⟨g, 0, none⟩)] 41) :: .row (.slice A4 3 k4) 60 1 3 ([1, 2, 3].map (.int .i64)) :: .ro (.slice A0 6 k0) 1 6 (onesQ.map (.int .u8)) :: L) := H.sel (fun q => by simp only [cntL_append, cntL, List.cons_append, List.nil_append, List.set_cons_zero, List.set_cons_succ, List.flatMap_append, List.flatMap_cons, List.flatMap_nil, It.rowB, It.rowI, It.roB, It.roI, scO, txt]; omega)
        refine CallS.mk ok_run1 ((impl_run1 (os := [1, 2, 3]) hb (by omega) (by omega) ha H).mono ?_)
        rintro _ w ⟨rfl, i2, ha2, H⟩
        obtain ⟨hi2, hbs, hbE⟩ := run_num hb ha hp (by omega) ha2
        have hle := ha2.le hb
        rw [← hbs] at htk
        obtain ⟨rest, hrest⟩ : ∃ rest, (qs.drop 1).dropWhile rnQ = rest := ⟨_, rfl⟩
        rw [hrest] at htk
        have ha3 : At xs i2 rest := hrest ▸ run_rest hp (by omega) ha2
        refine drawR H fun w H => ?_
        refine loadO H 2 rfl rfl ?_
        refine loadO H 0 rfl rfl ?_
        refine loadO H 2 rfl rfl ?_
        refine loadO H 0 rfl rfl ?_
        refine sliceR (l := i) (h := i2) H 1 rfl rfl rfl (by omega) (by omega) fun A2 H => ?_
        refine callV ok_IsNumber (impl_IsNumber hbE (by omega) (H.rd 0 rfl)) H fun w H => ?_
        exact Exists.intro 8 (Exists.intro (numI ((xs.take i2).drop i)) (Exists.intro i2 (Exists.intro rest (And.intro rfl (And.intro (by rw [htk, num_eq]) (And.intro (fun _ => ha3) (H.sel (fun q => by simp only [cntL_append, cntL, List.cons_append, List.nil_append, List.set_cons_zero, List.set_cons_succ, List.flatMap_append, List.flatMap_cons, List.flatMap_nil, It.rowB, It.rowI, It.roB, It.roI, scO, txt]; omega))))))))
      · refine ifB (fun c17 => ?_) (fun c17 => ?_)
        · rw [if_neg (by omega), if_neg (by omega), if_pos (by omega)] at htk
          refine litR (e := 60) (sz := 1) (n := 3) (cs := [.int .i64 1, .int .i64 2, .int .i64 3]) H rfl (by decide) (by kernel_rfl) fun A4 k4 w H => ?_
          have H : St B W0 w (.row (.slice A4 3 k4) 60 1 3 ([1, 2, 3].map (.int .i64)) :: .ro (.slice A0 6 k0) 1 6 (onesQ.map (.int .u8)) :: scO g (.slice A n c) i :: txt (.slice A n c) n xs :: .obj gs (.cells #[.pointer (some ⟨g, 0, none⟩)] 41) :: L) := H
          have H : St B W0 w (scO g (.slice A n c) i :: txt (.slice A n c) n xs :: .obj gs (.cells #[.pointer (some ⟨g, 0, none⟩)] 41) :: .row (.slice A4 3 k4) 60 1 3 ([1, 2, 3].map (.int .i64)) :: .ro (.slice A0 6 k0) 1 6 (onesQ.map (.int .u8)) :: L) := H.sel (fun q => by simp only [cntL_append, cntL, List.cons_append, List.nil_append, List.set_cons_zero, List.set_cons_succ, List.flatMap_append, List.flatMap_cons, List.flatMap_nil, It.rowB, It.rowI, It.roB, It.roI, scO, txt]; omega)
          refine CallS.mk ok_run1 ((impl_run1 (os := [1, 2, 3]) hb (by omega) (by omega) ha H).mono ?_)
          rintro _ w ⟨rfl, i2, ha2, H⟩
          obtain ⟨hi2, hbs, hbE⟩ := run_num hb ha hp (by omega) ha2
          have hle := ha2.le hb
          rw [← hbs] at htk
          obtain ⟨rest, hrest⟩ : ∃ rest, (qs.drop 1).dropWhile rnQ = rest := ⟨_, rfl⟩
          rw [hrest] at htk
          have ha3 : At xs i2 rest := hrest ▸ run_rest hp (by omega) ha2
          refine drawR H fun w H => ?_
          refine loadO H 2 rfl rfl ?_
          refine loadO H 0 rfl rfl ?_
          refine loadO H 2 rfl rfl ?_
          refine loadO H 0 rfl rfl ?_
          refine sliceR (l := i) (h := i2) H 1 rfl rfl rfl (by omega) (by omega) fun A2 H => ?_
          refine callV ok_IsNumber (impl_IsNumber hbE (by omega) (H.rd 0 rfl)) H fun w H => ?_
          exact Exists.intro 8 (Exists.intro (numI ((xs.take i2).drop i)) (Exists.intro i2 (Exists.intro rest (And.intro rfl (And.intro (by rw [htk, num_eq]) (And.intro (fun _ => ha3) (H.sel (fun q => by simp only [cntL_append, cntL, List.cons_append, List.nil_append, List.set_cons_zero, List.set_cons_succ, List.flatMap_append, List.flatMap_cons, List.flatMap_nil, It.rowB, It.rowI, It.roB, It.roI, scO, txt]; omega))))))))
        · refine JoinV.mk ?_
          refine JoinV.mk ?_
          refine ifB (fun c20 => ?_) (fun c20 => ?_)
          · refine ifB (fun c21 => ?_) (fun c21 => absurd c21 (by omega))
            refine loadO H 3 rfl rfl ?_
            rw [if_neg (by omega), if_neg (by omega), if_neg (by omega), if_pos (by omega)] at htk
            have H : St B W0 w (.ro (.slice A0 6 k0) 1 6 (onesQ.map (.int .u8)) :: scO g (.slice A n c) i :: txt (.slice A n c) n xs :: .obj gs (.cells #[.pointer (some ⟨g, 0, none⟩)] 41) :: L) := H
            have H : St B W0 w (scO g (.slice A n c) i :: txt (.slice A n c) n xs :: .ro (.slice A0 6 k0) 1 6 (onesQ.map (.int .u8)) :: .obj gs (.cells #[.pointer (some ⟨g, 0, none⟩)] 41) :: L) := H.sel (fun q => by simp only [cntL_append, cntL, List.cons_append, List.nil_append, List.set_cons_zero, List.set_cons_succ, List.flatMap_append, List.flatMap_cons, List.flatMap_nil, It.rowB, It.rowI, It.roB, It.roI, scO, txt]; omega)
            refine CallS.mk ok_quoted ((impl_quoted hb (by omega) ha H).mono ?_)
            rintro _ w ⟨x, u, b, i2, r, rfl, hqq, ha2, H⟩
            rw [hqq] at htk
            refine Exists.intro 9 (Exists.intro b (Exists.intro i2 (Exists.intro r (And.intro rfl (And.intro ?_ (And.intro (fun _ => ha2) (H.sel (fun q => by simp only [cntL_append, cntL, List.cons_append, List.nil_append, List.set_cons_zero, List.set_cons_succ, List.flatMap_append, List.flatMap_cons, List.flatMap_nil, It.rowB, It.rowI, It.roB, It.roI, scO, txt]; omega))))))))
            rw [htk]; cases b <;> rfl
          · refine ifB (fun c23 => ?_) (fun c23 => ?_)
            · refine loadO H 3 rfl rfl ?_
              rw [if_neg (by omega), if_neg (by omega), if_neg (by omega), if_pos (by omega)] at htk
              have H : St B W0 w (.ro (.slice A0 6 k0) 1 6 (onesQ.map (.int .u8)) :: scO g (.slice A n c) i :: txt (.slice A n c) n xs :: .obj gs (.cells #[.pointer (some ⟨g, 0, none⟩)] 41) :: L) := H
              have H : St B W0 w (scO g (.slice A n c) i :: txt (.slice A n c) n xs :: .ro (.slice A0 6 k0) 1 6 (onesQ.map (.int .u8)) :: .obj gs (.cells #[.pointer (some ⟨g, 0, none⟩)] 41) :: L) := H.sel (fun q => by simp only [cntL_append, cntL, List.cons_append, List.nil_append, List.set_cons_zero, List.set_cons_succ, List.flatMap_append, List.flatMap_cons, List.flatMap_nil, It.rowB, It.rowI, It.roB, It.roI, scO, txt]; omega)
              refine CallS.mk ok_quoted ((impl_quoted hb (by omega) ha H).mono ?_)
              rintro _ w ⟨x, u, b, i2, r, rfl, hqq, ha2, H⟩
              rw [hqq] at htk
              refine Exists.intro 9 (Exists.intro b (Exists.intro i2 (Exists.intro r (And.intro rfl (And.intro ?_ (And.intro (fun _ => ha2) (H.sel (fun q => by simp only [cntL_append, cntL, List.cons_append, List.nil_append, List.set_cons_zero, List.set_cons_succ, List.flatMap_append, List.flatMap_cons, List.flatMap_nil, It.rowB, It.rowI, It.roB, It.roI, scO, txt]; omega))))))))
              rw [htk]; cases b <;> rfl
            · refine ifB (fun c25 => ?_) (fun c25 => ?_)
              · rw [if_neg (by omega), if_neg (by omega), if_neg (by omega), if_neg (by omega), if_pos (by omega)] at htk
                have H : St B W0 w (.ro (.slice A0 6 k0) 1 6 (onesQ.map (.int .u8)) :: scO g (.slice A n c) i :: txt (.slice A n c) n xs :: .obj gs (.cells #[.pointer (some ⟨g, 0, none⟩)] 41) :: L) := H
                exact Exists.intro 0 (Exists.intro false (Exists.intro i (Exists.intro [] (And.intro rfl (And.intro htk (And.intro (fun z => by cases z) (H.sel (fun q => by simp only [cntL_append, cntL, List.cons_append, List.nil_append, List.set_cons_zero, List.set_cons_succ, List.flatMap_append, List.flatMap_cons, List.flatMap_nil, It.rowB, It.rowI, It.roB, It.roI, scO, txt]; omega))))))))
              · refine loadO H 3 rfl rfl ?_
                rw [if_neg (by omega), if_neg (by omega), if_neg (by omega), if_neg (by omega), if_neg (by omega)] at htk
                have H : St B W0 w (.ro (.slice A0 6 k0) 1 6 (onesQ.map (.int .u8)) :: scO g (.slice A n c) i :: txt (.slice A n c) n xs :: .obj gs (.cells #[.pointer (some ⟨g, 0, none⟩)] 41) :: L) := H
                have H : St B W0 w (scO g (.slice A n c) i :: txt (.slice A n c) n xs :: .ro (.slice A0 6 k0) 1 6 (onesQ.map (.int .u8)) :: .obj gs (.cells #[.pointer (some ⟨g, 0, none⟩)] 41) :: L) := H.sel (fun q => by simp only [cntL_append, cntL, List.cons_append, List.nil_append, List.set_cons_zero, List.set_cons_succ, List.flatMap_append, List.flatMap_cons, List.flatMap_nil, It.rowB, It.rowI, It.roB, It.roI, scO, txt]; omega)
                refine CallS.mk ok_next ((impl_next hb (by omega) ha H).mono ?_)
                rintro _ w ⟨rfl, i2, ha2, H⟩
                refine loadO H 3 rfl rfl ?_
                refine CallS.mk ok_got ((impl_got hb 47 (by omega) ha2 H).mono ?_)
                rintro _ w ⟨rfl, i3, ha3, H⟩
                refine ifB (fun c40 => ?_) (fun c40 => ?_)
                · rw [if_pos c40] at htk ha3
                  refine loadO H 3 rfl rfl ?_
                  refine callU ok_peek (impl_peek hb (by omega) ha3 H) fun w H => ?_
                  refine loopV (by kernel_rfl) (fun m e w => e 1 = .pointer (some ⟨gs, 0, none⟩) ∧ ∃ (i' : Nat) (r : List Int), e 11 = .int .i32 (headP r) ∧ e 12 = .int .i64 (headN xs i' r) ∧ r.length = m ∧ At xs i' r ∧ ((qs.drop 1).drop 1).dropWhile noEnd = r.dropWhile noEnd ∧ St B W0 w (scO g (.slice A n c) i' :: txt (.slice A n c) n xs :: .ro (.slice A0 6 k0) 1 6 (onesQ.map (.int .u8)) :: .obj gs (.cells #[.pointer (some ⟨g, 0, none⟩)] 41) :: L)) ((qs.drop 1).drop 1).length
                    ⟨rfl, i3, _, rfl, rfl, rfl, ha3, rfl, H⟩ ?_
                  rintro m e w ⟨h1, i', r, h11, h12, hrl, har, hdw, H⟩
                  rw [Env.three h1 h11 h12]
                  have hbd2 := headN_bd hb har
                  have hlr : r = [] ∨ ∃ a r', r = a :: r' := by cases r with | nil => exact .inl rfl | cons a r => exact .inr ⟨a, r, rfl⟩
                  refine cutG (fun e w => e 1 = .pointer (some ⟨gs, 0, none⟩) ∧ e 12 = .int .i64 (headN xs i' r) ∧ e 93 = .bool (decide (0 ≤ headP r ∧ noEnd (headP r) = true)) ∧ St B W0 w (scO g (.slice A n c) i' :: txt (.slice A n c) n xs :: .ro (.slice A0 6 k0) 1 6 (onesQ.map (.int .u8)) :: .obj gs (.cells #[.pointer (some ⟨g, 0, none⟩)] 41) :: L)) ?_ ?_
                  · refine gT (fun c0 => ?_) (fun c0 => ?_)
                    · refine callV ok_lineEnd (impl_lineEnd _ _) H fun w H => ?_
                      exact ⟨rfl, rfl, congrArg Value.bool (by rw [Bool.eq_iff_iff, decide_eq_true_eq]; exact ⟨fun q => ⟨c0, q⟩, fun q => q.2⟩), H⟩
                    · exact ⟨rfl, rfl, congrArg Value.bool (decide_eq_false fun q => c0 q.1).symm, H⟩
                  rintro e w ⟨h1, h12, h93, H⟩
                  rw [Env.three h1 h12 h93]
                  refine ifB (fun z => ?_) (fun z => ?_)
                  · refine loadO H 3 rfl rfl ?_
                    refine loadO H 0 rfl rfl ?_
                    refine ar64 (by omega) (by omega) ?_
                    refine storeO H 0 rfl rfl rfl fun w H => ?_
                    refine loadO H 3 rfl rfl ?_
                    have H : St B W0 w (scO g (.slice A n c) (i' + headN xs i' r) :: txt (.slice A n c) n xs :: .ro (.slice A0 6 k0) 1 6 (onesQ.map (.int .u8)) :: .obj gs (.cells #[.pointer (some ⟨g, 0, none⟩)] 41) :: L) := H
                    obtain ⟨i4, ha4, HH⟩ := advO hb har H
                    refine callU ok_peek (impl_peek hb (by omega) ha4 HH) fun w HN => ?_
                    rcases hlr with e | ⟨a, r', e⟩
                    · subst e; exact absurd z.1 (by decide)
                    · subst e
                      rw [List.dropWhile_cons, if_pos (show noEnd a = true from z.2)] at hdw
                      simp only [List.length_cons] at hrl
                      exact Exists.intro (m - 1) (And.intro (by omega) ⟨rfl, i4, r', rfl, rfl, by omega, ha4, hdw, HN⟩)
                  · have hE : r.dropWhile noEnd = r := by
                      rcases hlr with e | ⟨a, r', e⟩
                      · rw [e]; rfl
                      · have ha0 : 0 ≤ a := (har.bd hb a (by rw [e]; simp)).1
                        rw [e] at z ⊢
                        rw [List.dropWhile_cons, if_neg (show ¬ noEnd a = true from fun q => z ⟨ha0, q⟩)]
                    exact Exists.intro 10 (Exists.intro true (Exists.intro i' (Exists.intro r (And.intro rfl (And.intro (by rw [htk, hdw, hE]; rfl) (And.intro (fun _ => har) (H.sel (fun q => by simp only [cntL_append, cntL, List.cons_append, List.nil_append, List.set_cons_zero, List.set_cons_succ, List.flatMap_append, List.flatMap_cons, List.flatMap_nil, It.rowB, It.rowI, It.roB, It.roI, scO, txt]; omega))))))))
                rw [if_neg c40] at htk ha3
                refine loadO H 3 rfl rfl ?_
                refine CallS.mk ok_got ((impl_got hb 42 (by omega) ha3 H).mono ?_)
                rintro _ w ⟨rfl, i4, ha4, H⟩
                refine ifNot ?_
                refine ifB (fun c41 => ?_) (fun c41 => ?_)
                case refine_2 =>
                  rw [if_neg c41] at htk
                  exact Exists.intro 0 (Exists.intro false (Exists.intro i4 (Exists.intro [] (And.intro rfl (And.intro htk (And.intro (fun z => by cases z) (H.sel (fun q => by simp only [cntL_append, cntL, List.cons_append, List.nil_append, List.set_cons_zero, List.set_cons_succ, List.flatMap_append, List.flatMap_cons, List.flatMap_nil, It.rowB, It.rowI, It.roB, It.roI, scO, txt]; omega))))))))
                rw [if_pos c41] at htk ha4
                have hle4 := ha4.le hb
                refine regG [9, 10, 11] [9, 10] [0, 3, 4, 7] [0, 1, 2, 3, 4, 5, 6, 7, 8, 9, 10, 11, 12] (by kernel_rfl) ?_
                refine drawR H fun w H => ?_
                refine loadO H 3 rfl rfl ?_
                refine loadO H 0 rfl rfl ?_
                refine loadO H 3 rfl rfl ?_
                refine loadO H 0 rfl rfl ?_
                refine dropR (l := i4) H 1 rfl rfl (by omega) fun A2 H => ?_
                refine litRB (e := 5) (sz := 1) (n := 2) (cs := [.int .u8 42, .int .u8 47]) (St.enter w) rfl (by decide) (by kernel_rfl) fun A6 k6 w1 hB HN => ?_
                refine KeepS.mk ⟨HeldW.ofBelow hB, ?_⟩
                have H := H.joinS HN rfl
                refine convMarkB H 0 rfl (by decide) fun w2 hg H => ?_
                refine KeepS.mk ⟨HeldW.ofBelow (HN.below.grown hg HN.size fun k hk => own_ge (HN.on 0 _ rfl) k hk), ?_⟩
                refine callStar hb ha4 (by omega) H (hM.st hMB H) (H.rd 1 rfl) (H.rd 0 rfl) fun ix w hi1 hi2 hi3 H => ?_
                refine loadO H 5 rfl rfl ?_
                refine loadO H 2 rfl rfl ?_
                refine ar64 (by omega) (by omega) ?_
                refine ar64 (by omega) (by omega) ?_
                refine storeO H 2 rfl rfl rfl fun w H => ?_
                have H : St B W0 w (.ro (.slice A6 2 k6) 1 2 [.int .u8 42, .int .u8 47] :: .ro (.slice A2 (n - i4) (c - i4)) 1 (n - i4) ((xs.drop i4).map (.int .u8)) :: scO g (.slice A n c) (i4 + (ix + 2)) :: txt (.slice A n c) n xs :: .ro (.slice A0 6 k0) 1 6 (onesQ.map (.int .u8)) :: .obj gs (.cells #[.pointer (some ⟨g, 0, none⟩)] 41) :: L) := H
                have H : St B W0 w (scO g (.slice A n c) (i4 + (ix + 2)) :: txt (.slice A n c) n xs :: L) := H.sel (fun q => by simp only [cntL_append, cntL, List.cons_append, List.nil_append, List.set_cons_zero, List.set_cons_succ, List.flatMap_append, List.flatMap_cons, List.flatMap_nil, It.rowB, It.rowI, It.roB, It.roI, scO, txt]; omega)
                exact tokB hi1 hi3 htk H
end Go.Proofs.YtjdgcgmhbhfpkaaDoorE/- What the reference's and the program's functions do that go between code points and units. -/
namespace Go.Proofs.YtjdgcgmhbhfpkaaDoorE
open Go Go.RowKit Go.Proofs
set_option linter.unusedVariables false
set_option maxRecDepth 100000

theorem own_nilI (w : World) (B : Nat) : OwnI w B (.slice none 0 0) [] := World.ownsRow_nil _ _ _ _





















































































































































































end Go.Proofs.YtjdgcgmhbhfpkaaDoorE
/- The reference's test for a line end. -/
namespace Go.Proofs.YtjdgcgmhbhfpkaaDoorE
open Go Go.RowKit
set_option linter.unusedVariables false
set_option maxRecDepth 100000
theorem ok_l4lineEnd : callOK Tryd.prog 23 = true := by kernel_rfl
theorem spec_l4lineEnd (p : Int) (W : World) : GivesV Tryd.prog 23 [.int .i64 p] W (.bool (decide (p = 10 ∨ p = 13 ∨ p = 8232 ∨ p = 8233))) := by
  have H := St.enter W
  refine calls_of_vcV (args := [.int .i64 p]) Tryd.func23 rfl (by kernel_rfl) (Nat.le_of_ble_eq_true rfl) ?_
  refine cutG (fun e w => e 2 = .bool (decide (p = 10 ∨ p = 13 ∨ p = 8232 ∨ p = 8233)) ∧ St W.heap.size W w []) ?_ ?_
  · repeat' first | (refine gY ?_) | (refine gNt ?_) | (refine gNf ?_) | (refine ifT ?_) | (refine ifF ?_) | (refine arN (by omega) ?_) | (refine ar64 (by omega) (by omega) ?_) | (refine ar32 (by omega) (by omega) ?_) | (refine ar8 (by omega) (by omega) ?_) | (refine div64 (by omega) (by omega) (by omega) ?_) | (refine rem0 (by omega) (by omega) ?_) | (refine drawR H fun w H => ?_) | (refine RegV.mk ?_) | (refine JoinV.mk ?_) | (refine gT (fun h => ?_) (fun h => ?_) <;> first | (exfalso; omega) | skip) | (refine gF (fun h => ?_) (fun h => ?_) <;> first | (exfalso; omega) | skip) | (refine ifB (fun h => ?_) (fun h => ?_) <;> first | (exfalso; omega) | skip)
    all_goals refine ⟨congrArg Value.bool ?_, H⟩
    all_goals (rw [Bool.eq_iff_iff]; simp only [decide_eq_true_eq, Bool.false_eq_true, true_iff, iff_true, false_iff, iff_false]; omega)
  rintro e w ⟨h2, H⟩
  rw [Env.one h2]
  exact Exists.intro (.bool (decide (p = 10 ∨ p = 13 ∨ p = 8232 ∨ p = 8233))) (And.intro rfl (And.intro rfl H))
end Go.Proofs.YtjdgcgmhbhfpkaaDoorE
/- What the reference's functions do that read a quoted text. -/
namespace Go.Proofs.YtjdgcgmhbhfpkaaDoorE
open Go Go.RowKit Go.Proofs
set_option linter.unusedVariables false
set_option maxRecDepth 100000

theorem ok_spec_ToUnits : callOK Tryd.prog 43 = true := by kernel_rfl
theorem spec_units1 (p : Int) (h0 : 0 ≤ p) (h1 : p ≤ 1114111) {A : Option Addr} {n c : Nat} {W : World} (hx : Rd W (.slice A n c) 1 n ([p].map (.int .i64))) :
    Calls Tryd.prog 43 #[.slice A n c] W fun e w => ∃ x, e = .returned (.tuple #[x, .int .i64 0]) ∧ OwnI w W.heap.size x (unitsOne p) ∧ Below W.heap.size W w := by
  have H := ((St.enter W).ro0 rfl hx).rowNil (e := 3) (sz := 1)
  obtain rfl : n = 1 := by have := hx.len; simpa using this.symm
  refine calls_of_vcV (args := [.slice A 1 c]) Tryd.func43 rfl (by kernel_rfl) (Nat.le_of_ble_eq_true rfl) ?_
  refine loopV (by kernel_rfl) (fun m e w => e 0 = .slice A 1 c ∧ ∃ (j : Nat) (v : Value) (acc : List Int), e 5 = .int .i64 j ∧ e 4 = v ∧ j + m = 1 ∧ acc = (if j = 0 then [] else unitsOne p) ∧ St W.heap.size W w [.rowI v acc, .ro (.slice A 1 c) 1 1 ([p].map (.int .i64))]) 1
    ⟨rfl, 0, _, [], rfl, rfl, rfl, rfl, H⟩ ?_
  rintro m e w ⟨h0', j, v, acc, h5, h4, hj, hacc, H⟩
  rw [Env.three h0' h5 h4]
  refine ifB (fun h => ?_) (fun h => ?_)
  case refine_2 =>
    rw [if_neg (by omega)] at hacc
    subst hacc
    exact Exists.intro v (And.intro rfl (And.intro (H.own 0 rfl) H.below))
  obtain rfl : j = 0 := by omega
  rw [if_pos rfl] at hacc
  subst hacc
  refine joinV (fun e w => e 0 = .slice A 1 c ∧ e 5 = .int .i64 (0 : Nat) ∧ ∃ v' : Value, e 4 = v' ∧ St W.heap.size W w [.rowI v' (unitsOne p), .ro (.slice A 1 c) 1 1 ([p].map (.int .i64))]) rfl ?_ ?_
  case refine_2 =>
    rintro e w ⟨h0', h5, v', h4, H⟩
    rw [Env.three h0' h5 h4]
    refine arN (by omega) ?_
    exact Exists.intro 0 (And.intro (by omega) (And.intro rfl ⟨1, v', unitsOne p, rfl, rfl, rfl, rfl, H⟩))
  refine idxN (H.rd 1 rfl) (by simp) fun b off hc => ?_
  have hc : w.cell? ⟨b, off + ((0 : Nat) : Int).toNat * 1, none⟩ = some (.int .i64 p) := hc
  refine loadS hc ?_
  refine cutG (fun e w => e 0 = .slice A 1 c ∧ e 5 = .int .i64 (0 : Nat) ∧ e 4 = v ∧ e 6 = .int .i64 p ∧ e 22 = .bool false ∧ St W.heap.size W w [.rowI v [], .ro (.slice A 1 c) 1 1 ([p].map (.int .i64))]) ?_ ?_
  · repeat' first | (refine gY ?_) | (refine gNt ?_) | (refine gNf ?_) | (refine ifT ?_) | (refine ifF ?_) | (refine arN (by omega) ?_) | (refine ar64 (by omega) (by omega) ?_) | (refine ar32 (by omega) (by omega) ?_) | (refine ar8 (by omega) (by omega) ?_) | (refine div64 (by omega) (by omega) (by omega) ?_) | (refine rem0 (by omega) (by omega) ?_) | (refine drawR H fun w H => ?_) | (refine RegV.mk ?_) | (refine JoinV.mk ?_) | (refine gT (fun h => ?_) (fun h => ?_) <;> first | (exfalso; omega) | skip) | (refine gF (fun h => ?_) (fun h => ?_) <;> first | (exfalso; omega) | skip) | (refine ifB (fun h => ?_) (fun h => ?_) <;> first | (exfalso; omega) | skip)
    all_goals refine ⟨rfl, rfl, rfl, rfl, congrArg Value.bool ?_, H⟩
    all_goals first | rfl | (simp; omega)
  rintro e w ⟨h0', h5, h4, h6, h22, H⟩
  rw [Env.five h0' h5 h4 h6 h22]
  refine ifF ?_
  unfold unitsOne
  refine ifB (fun h => ?_) (fun h => ?_)
  · rw [if_pos h]
    refine litI1 H fun v1 w H => ?_
    refine appSI H 1 rfl (H.rd 0 rfl) (by simp) fun v2 w H => ?_
    exact ⟨rfl, rfl, v2, rfl, H.sub [1, 2] (by decide)⟩
  · rw [if_neg h]
    refine ar64 (by omega) (by omega) ?_
    refine div64 (by omega) (by omega) (by omega) ?_
    refine ar64 (by omega) (by omega) ?_
    refine litI1 H fun v1 w H => ?_
    refine appSI H 1 rfl (H.rd 0 rfl) (by simp) fun v2 w H => ?_
    refine ar64 (by omega) (by omega) ?_
    refine rem0 (by omega) (by omega) ?_
    refine ar64 (by omega) (by omega) ?_
    refine litI1 H fun v3 w H => ?_
    refine appSI H 2 rfl (H.rd 0 rfl) (by simp) fun v4 w H => ?_
    exact ⟨rfl, rfl, v4, rfl, H.sub [2, 3] (by decide)⟩
end Go.Proofs.YtjdgcgmhbhfpkaaDoorE
/- What the reference's l4escape does. -/
namespace Go.Proofs.YtjdgcgmhbhfpkaaDoorE
open Go Go.RowKit Go.Proofs
set_option linter.unusedVariables false
set_option maxRecDepth 100000

theorem readHex_cons (n : Nat) (q : Int) (qs : List Int) (v : Int) : readHex (n + 1) (q :: qs) v = if hexv q < 0 then none else readHex n qs (v * 16 + hexv q) := rfl
theorem esc_no {W w : World} {L : List It} {ps : List Int} {i n : Nat} (H : St W.heap.size W w L) (h : escQ (ps.drop i) = none) : ∃ (x : Value) (u : List Int) (k : Nat), Ending.returned (.tuple #[.slice none 0 0, .int .i64 0]) = .returned (.tuple #[x, .int .i64 k]) ∧ OwnI w W.heap.size x u ∧ Below W.heap.size W w ∧ u.length ≤ 2 ∧ ((k = 0 ∧ escQ (ps.drop i) = none) ∨ (0 < k ∧ i + k ≤ n ∧ escQ (ps.drop i) = some (u, ps.drop (i + k)))) :=
  ⟨_, [], 0, rfl, World.ownsRow_nil _ _ _ _, H.below, Nat.zero_le _, .inl ⟨rfl, h⟩⟩
theorem esc_yes {W w : World} {L : List It} {ps u : List Int} {i n : Nat} {x : Value} (H : St W.heap.size W w (.rowI x u :: L)) (hu : u.length ≤ 2) (hi : i < n) (h : escQ (ps.drop i) = some (u, ps.drop (i + 1))) : ∃ (x' : Value) (u : List Int) (k : Nat), Ending.returned (.tuple #[x, .int .i64 1]) = .returned (.tuple #[x', .int .i64 k]) ∧ OwnI w W.heap.size x' u ∧ Below W.heap.size W w ∧ u.length ≤ 2 ∧ ((k = 0 ∧ escQ (ps.drop i) = none) ∨ (0 < k ∧ i + k ≤ n ∧ escQ (ps.drop i) = some (u, ps.drop (i + k)))) :=
  ⟨_, u, 1, rfl, H.own 0 rfl, H.below, hu, .inr ⟨by omega, by omega, h⟩⟩
def frmQ : List Int := [98, 102, 110, 114, 116, 118]
def tosQ : List Int := [8, 12, 10, 13, 9, 11]
theorem frm_hit (k : Nat) (hk : k < 6) : shortQ (frmQ.getD k 0) = some (tosQ.getD k 0) := by
  have : ∀ k : Fin 6, shortQ (frmQ.getD k.val 0) = some (tosQ.getD k.val 0) := by decide
  exact this ⟨k, hk⟩
theorem frm_no (p : Int) (h : ∀ j, j < 6 → frmQ.getD j 0 ≠ p) : shortQ p = none := by
  have h0 := h 0 (by omega); have h1 := h 1 (by omega); have h2 := h 2 (by omega); have h3 := h 3 (by omega); have h4 := h 4 (by omega); have h5 := h 5 (by omega)
  simp only [frmQ, List.getD_cons_zero, List.getD_cons_succ] at h0 h1 h2 h3 h4 h5
  unfold shortQ
  rw [if_neg (fun e => h0 e.symm), if_neg (fun e => h1 e.symm), if_neg (fun e => h2 e.symm), if_neg (fun e => h3 e.symm), if_neg (fun e => h4 e.symm), if_neg (fun e => h5 e.symm)]
theorem escQ_other {p : Int} {r : List Int} (hn1 : ¬ (p = 10 ∨ p = 8232 ∨ p = 8233)) (hn2 : p ≠ 13) (hxu : ¬ (p = 120 ∨ p = 117)) : escQ (p :: r) = if p = 48 then (if digit (r.headD (-1)) then none else some ([0], r)) else if digit p then none else match shortQ p with | some u => some ([u], r) | none => some (unitsOne p, r) := by
  unfold escQ
  simp only []
  rw [if_neg hn1, if_neg hn2, if_neg (by omega), if_neg (by omega)]
  rfl
theorem headD_drop (ps : List Int) (i : Nat) (h : i < ps.length) : (ps.drop i).headD (-1) = ps.getD i 0 := by rw [drop_cons ps i h]; rfl
theorem ok_l4escape : callOK Tryd.prog 42 = true := by kernel_rfl
theorem spec_l4escape {ps : List Int} (hbd : ∀ p ∈ ps, 0 ≤ p ∧ p ≤ 1114111) (i : Nat) {A : Option Addr} {n c : Nat} (hl : n ≤ 4294967296) (hi : i ≤ 4294967297) {W : World} (hx : Rd W (.slice A n c) 1 n (ps.map (.int .i64))) :
    Calls Tryd.prog 42 #[.slice A n c, .int .i64 i] W fun e w => ∃ (x : Value) (u : List Int) (k : Nat), e = .returned (.tuple #[x, .int .i64 k]) ∧ OwnI w W.heap.size x u ∧ Below W.heap.size W w ∧ u.length ≤ 2 ∧ ((k = 0 ∧ escQ (ps.drop i) = none) ∨ (0 < k ∧ i + k ≤ n ∧ escQ (ps.drop i) = some (u, ps.drop (i + k)))) := by
  have H := (St.enter W).ro0 rfl hx
  obtain rfl : n = ps.length := by have := hx.len; simpa using this.symm
  refine calls_of_vcV (args := [.slice A ps.length c, .int .i64 i]) Tryd.func42 rfl (by kernel_rfl) (Nat.le_of_ble_eq_true rfl) ?_
  refine ifB (fun h => ?_) (fun h => ?_)
  · exact Exists.intro (.slice none 0 0) (Exists.intro [] (Exists.intro 0 (And.intro rfl (And.intro (World.ownsRow_nil _ _ _ _) (And.intro H.below (And.intro (Nat.zero_le _) (Or.inl ⟨rfl, by rw [List.drop_of_length_le (by omega)]; rfl⟩)))))))
  have hil : i < ps.length := by omega
  refine idxN (H.rd 0 rfl) (by omega) fun b off hc => ?_
  refine loadS hc ?_
  have hpb : 0 ≤ ps.getD i 0 ∧ ps.getD i 0 ≤ 1114111 := hbd _ (by rw [List.getD_eq_getElem?_getD, List.getElem?_eq_getElem hil]; exact List.getElem_mem hil)
  have hds := drop_cons ps i hil
  generalize hp : ps.getD i 0 = p at *
  refine callV ok_l4lineEnd (spec_l4lineEnd p W) H fun w H => ?_
  refine ifB (fun h => ?_) (fun h => ?_)
  · refine cutG (fun e w => e 41 = .bool (decide (p = 13 ∧ i + 1 < ps.length ∧ ps.getD (i + 1) 0 = 10)) ∧ St W.heap.size W w [.roI (.slice A ps.length c) ps]) ?_ ?_
    · repeat' first | (refine gY ?_) | (refine gNt ?_) | (refine gNf ?_) | (refine ifT ?_) | (refine ifF ?_) | (refine arN (by omega) ?_) | (refine ar64 (by omega) (by omega) ?_) | (refine ar32 (by omega) (by omega) ?_) | (refine ar8 (by omega) (by omega) ?_) | (refine div64 (by omega) (by omega) (by omega) ?_) | (refine rem0 (by omega) (by omega) ?_) | (refine drawR H fun w H => ?_) | (refine RegV.mk ?_) | (refine JoinV.mk ?_) | (refine idxN (i := 0) (H.rd 0 rfl) (by omega) fun b off hc => ?_) | (refine idxN (i := 1) (H.rd 0 rfl) (by omega) fun b off hc => ?_) | (refine idxN (i := 2) (H.rd 0 rfl) (by omega) fun b off hc => ?_) | (refine idxN (i := 3) (H.rd 0 rfl) (by omega) fun b off hc => ?_) | (refine idxN (H.rd 0 rfl) (by omega) fun b off hc => ?_) | (refine idxI (H.rd 0 rfl) (by omega) (by omega) fun b off hc => ?_) | (refine loadS hc ?_) | (refine gT (fun h => ?_) (fun h => ?_) <;> first | (exfalso; omega) | skip) | (refine gF (fun h => ?_) (fun h => ?_) <;> first | (exfalso; omega) | skip) | (refine ifB (fun h => ?_) (fun h => ?_) <;> first | (exfalso; omega) | skip)
      all_goals refine ⟨congrArg Value.bool ?_, H⟩
      all_goals (rw [Bool.eq_iff_iff]; simp only [decide_eq_true_eq, Bool.false_eq_true, true_iff, iff_true, false_iff, iff_false]; omega)
    rintro e w ⟨h41, H⟩
    rw [Env.one h41]
    refine ifB (fun h2 => ?_) (fun h2 => ?_)
    · refine Exists.intro (.slice none 0 0) (Exists.intro [] (Exists.intro 2 (And.intro rfl (And.intro (World.ownsRow_nil _ _ _ _) (And.intro H.below (And.intro (Nat.zero_le _) (Or.inr ⟨by omega, by omega, ?_⟩)))))))
      have h13 := h2.1
      rw [hds, drop_cons ps (i + 1) h2.2.1, h2.2.2]
      subst h13
      simp [escQ]
    · refine Exists.intro (.slice none 0 0) (Exists.intro [] (Exists.intro 1 (And.intro rfl (And.intro (World.ownsRow_nil _ _ _ _) (And.intro H.below (And.intro (Nat.zero_le _) (Or.inr ⟨by omega, by omega, ?_⟩)))))))
      rw [hds]
      by_cases h13 : p = 13
      · subst h13
        have hh : (ps.drop (i + 1)).headD (-1) ≠ 10 := by
          by_cases hj : i + 1 < ps.length
          · rw [drop_cons ps (i + 1) hj]
            exact fun q => h2 ⟨rfl, hj, q⟩
          · rw [List.drop_of_length_le (by omega)]; decide
        unfold escQ
        simp only []
        rw [if_neg (by decide), if_pos trivial, if_neg hh]
      · have hq : p = 10 ∨ p = 8232 ∨ p = 8233 := by omega
        unfold escQ
        simp only []
        rw [if_pos hq]
  have hn1 : ¬ (p = 10 ∨ p = 8232 ∨ p = 8233) := by omega
  have hn2 : p ≠ 13 := by omega
  refine cutG (fun e w => e 0 = .slice A ps.length c ∧ e 1 = .int .i64 i ∧ e 6 = .int .i64 p ∧ e 47 = .bool (decide (p = 120 ∨ p = 117)) ∧ St W.heap.size W w [.roI (.slice A ps.length c) ps]) ?_ ?_
  · repeat' first | (refine gY ?_) | (refine gNt ?_) | (refine gNf ?_) | (refine ifT ?_) | (refine ifF ?_) | (refine arN (by omega) ?_) | (refine ar64 (by omega) (by omega) ?_) | (refine ar32 (by omega) (by omega) ?_) | (refine ar8 (by omega) (by omega) ?_) | (refine div64 (by omega) (by omega) (by omega) ?_) | (refine rem0 (by omega) (by omega) ?_) | (refine drawR H fun w H => ?_) | (refine RegV.mk ?_) | (refine JoinV.mk ?_) | (refine gT (fun h => ?_) (fun h => ?_) <;> first | (exfalso; omega) | skip) | (refine gF (fun h => ?_) (fun h => ?_) <;> first | (exfalso; omega) | skip) | (refine ifB (fun h => ?_) (fun h => ?_) <;> first | (exfalso; omega) | skip)
    all_goals refine ⟨rfl, rfl, rfl, congrArg Value.bool ?_, H⟩
    all_goals (rw [Bool.eq_iff_iff]; simp only [decide_eq_true_eq, Bool.false_eq_true, true_iff, iff_true, false_iff, iff_false]; omega)
  rintro e w ⟨h0, h1, h6, h47, H⟩
  rw [Env.four h0 h1 h6 h47]
  refine ifB (fun hxu => ?_) (fun hxu => ?_)
  · obtain ⟨dg, hdg⟩ : ∃ dg : Nat, (if p = 117 then 4 else 2) = dg := ⟨_, rfl⟩
    have hdb : dg = 2 ∨ dg = 4 := by rw [← hdg]; split <;> simp
    have hesc : escQ (ps.drop i) = (readHex dg (ps.drop (i + 1)) 0).map (fun x => ([x.1], x.2)) := by
      rw [hds, ← hdg]
      rcases hxu with q | q <;> subst q <;> simp [escQ]
    refine joinV (fun e w => e 0 = .slice A ps.length c ∧ e 1 = .int .i64 i ∧ e 6 = .int .i64 p ∧ e 7 = .int .i64 dg ∧ St W.heap.size W w [.roI (.slice A ps.length c) ps]) rfl ?_ ?_
    · refine ifB (fun h => ?_) (fun h => ?_)
      · exact ⟨rfl, rfl, rfl, by rw [← hdg, if_pos h]; rfl, H⟩
      · exact ⟨rfl, rfl, rfl, by rw [← hdg, if_neg h]; rfl, H⟩
    rintro e w ⟨h0, h1, h6, h7, H⟩
    rw [Env.four h0 h1 h6 h7]
    refine loopV (by kernel_rfl) (fun m e w => e 0 = .slice A ps.length c ∧ e 1 = .int .i64 i ∧ e 7 = .int .i64 dg ∧ ∃ (k : Nat) (v : Int), e 9 = .int .i64 (k + 1 : Nat) ∧ e 8 = .int .i64 v ∧ k + m = dg ∧ 0 ≤ v ∧ v < 16 ^ k ∧ readHex dg (ps.drop (i + 1)) 0 = readHex m (ps.drop (i + 1 + k)) v ∧ St W.heap.size W w [.roI (.slice A ps.length c) ps]) dg
      ⟨rfl, rfl, rfl, 0, 0, rfl, rfl, by omega, by omega, by decide, rfl, H⟩ ?_
    rintro m e w ⟨h0, h1, h7, k, v, h9, h8, hkm, hv0, hv1, hrd, H⟩
    rw [Env.five h0 h1 h7 h9 h8]
    refine ifB (fun h => ?_) (fun h => ?_)
    case refine_2 =>
      obtain rfl : m = 0 := by omega
      refine litI1 H fun v1 w H => ?_
      refine ar64 (by omega) (by omega) ?_
      have hrd : readHex dg (ps.drop (i + 1)) 0 = some (v, ps.drop (i + 1 + k)) := hrd
      have hlen := readHex_len _ _ _ _ hrd
      simp only [List.length_drop] at hlen
      have e1 : (1 : Int) + dg = ((1 + dg : Nat) : Int) := by omega
      rw [e1]
      refine Exists.intro v1 (Exists.intro [v] (Exists.intro (1 + dg) (And.intro rfl (And.intro (H.own 0 rfl) (And.intro H.below (And.intro (by simp) (Or.inr ⟨by omega, by omega, ?_⟩)))))))
      rw [hesc, hrd, show i + (1 + dg) = i + 1 + k by omega]; rfl
    obtain ⟨m', rfl⟩ : ∃ m', m = m' + 1 := ⟨m - 1, by omega⟩
    refine joinV (fun e w => e 0 = .slice A ps.length c ∧ e 1 = .int .i64 i ∧ e 7 = .int .i64 dg ∧ e 9 = .int .i64 (k + 1 : Nat) ∧ ∃ v : Int, e 8 = .int .i64 v ∧ 0 ≤ v ∧ v < 16 ^ (k + 1) ∧ readHex dg (ps.drop (i + 1)) 0 = readHex m' (ps.drop (i + 1 + (k + 1))) v ∧ St W.heap.size W w [.roI (.slice A ps.length c) ps]) rfl ?_ ?_
    case refine_2 =>
      rintro e w ⟨h0, h1, h7, h9, v, h8, hv0, hv1, hrd, H⟩
      rw [Env.five h0 h1 h7 h9 h8]
      refine arN (by omega) ?_
      exact Exists.intro m' (And.intro (by omega) (And.intro rfl ⟨rfl, rfl, k + 1, v, rfl, rfl, by omega, hv0, hv1, hrd, H⟩))
    refine cutG (fun e w => e 0 = .slice A ps.length c ∧ e 1 = .int .i64 i ∧ e 7 = .int .i64 dg ∧ e 9 = .int .i64 (k + 1 : Nat) ∧ e 8 = .int .i64 v ∧ e 70 = .bool (decide (i + 1 + k ≥ ps.length ∨ hexv (ps.getD (i + 1 + k) 0) < 0)) ∧ St W.heap.size W w [.roI (.slice A ps.length c) ps]) ?_ ?_
    · refine ar64 (by omega) (by omega) ?_
      refine gF (fun c1 => ?_) (fun c1 => ?_)
      · refine ar64 (by omega) (by omega) ?_
        refine idxN (i := i + (k + 1)) (H.rd 0 rfl) (by omega) fun b off hc => ?_
        refine loadS hc ?_
        refine callV ok_l4hex (givesV_of (spec_l4hex _ _)) H fun w H => ?_
        refine ⟨rfl, rfl, rfl, rfl, rfl, congrArg Value.bool ?_, H⟩
        rw [show i + (k + 1) = i + 1 + k by omega]
        (rw [Bool.eq_iff_iff]; simp only [decide_eq_true_eq, Bool.false_eq_true, true_iff, iff_true, false_iff, iff_false]; omega)
      · refine ⟨rfl, rfl, rfl, rfl, rfl, congrArg Value.bool ?_, H⟩
        (rw [Bool.eq_iff_iff]; simp only [decide_eq_true_eq, Bool.false_eq_true, true_iff, iff_true, false_iff, iff_false]; omega)
    rintro e w ⟨h0, h1, h7, h9, h8, h70, H⟩
    rw [Env.six h0 h1 h7 h9 h8 h70]
    refine ifB (fun h => ?_) (fun h => ?_)
    · refine Exists.intro (.slice none 0 0) (Exists.intro [] (Exists.intro 0 (And.intro rfl (And.intro (World.ownsRow_nil _ _ _ _) (And.intro H.below (And.intro (Nat.zero_le _) (Or.inl ⟨rfl, ?_⟩)))))))
      rw [hesc, hrd]
      by_cases hj : i + 1 + k < ps.length
      · rw [drop_cons ps _ hj]
        have hneg : hexv (ps.getD (i + 1 + k) 0) < 0 := by omega
        rw [show readHex (m' + 1) (ps.getD (i + 1 + k) 0 :: ps.drop (i + 1 + k + 1)) v = none by unfold readHex; rw [if_pos hneg]]
        rfl
      · rw [List.drop_of_length_le (by omega)]; rfl
    · have hp2 : (16 : Int) ^ k ≤ 4096 := by
        have : k ≤ 3 := by omega
        have key : ∀ k : Fin 4, (16 : Int) ^ k.val ≤ 4096 := by decide
        exact key ⟨k, by omega⟩
      have hge := hexv_ge (ps.getD (i + 1 + k) 0)
      have hlt : i + 1 + k < ps.length := by omega
      have hnn : ¬ hexv (ps.getD (i + 1 + k) 0) < 0 := by omega
      rw [drop_cons ps (i + 1 + k) hlt] at hrd
      rw [readHex_cons, if_neg hnn] at hrd
      refine ar64 (by omega) (by omega) ?_
      refine ar64 (by omega) (by omega) ?_
      refine idxN (i := i + (k + 1)) (H.rd 0 rfl) (by omega) fun b off hc => ?_
      refine loadS hc ?_
      refine callV ok_l4hex (givesV_of (spec_l4hex _ _)) H fun w H => ?_
      rw [show i + (k + 1) = i + 1 + k by omega]
      refine ar64 (by omega) (by omega) ?_
      have hp3 : (16 : Int) ^ (k + 1) = 16 ^ k * 16 := Int.pow_succ _ _
      exact ⟨rfl, rfl, rfl, rfl, _, rfl, by omega, by rw [hp3]; omega, hrd, H⟩
  refine ifB (fun c0 => ?_) (fun c0 => ?_)
  · refine RegV.mk ?_
    refine arN (by omega) ?_
    refine gT (fun c3 => ?_) (fun c3 => ?_)
    · refine arN (by omega) ?_
      refine idxN (i := i + 1) (H.rd 0 rfl) (by omega) fun b off hc => ?_
      refine loadS hc ?_
      refine callV ok_l4digit (givesV_of (spec_l4digit _ _)) H fun w H => ?_
      refine ifB (fun c8 => ?_) (fun c8 => ?_)
      · refine esc_no H ?_
        rw [hds, escQ_other hn1 hn2 hxu, if_pos c0, headD_drop ps (i + 1) (by omega), if_pos (show digit _ = true from decide_eq_true c8)]
      · refine litI1 H fun v9 w H => ?_
        refine esc_yes H (by simp) hil ?_
        rw [hds, escQ_other hn1 hn2 hxu, if_pos c0, headD_drop ps (i + 1) (by omega), if_neg (by simpa [digit] using c8)]
    · refine ifF ?_
      refine litI1 H fun v11 w H => ?_
      refine esc_yes H (by simp) hil ?_
      rw [hds, escQ_other hn1 hn2 hxu, if_pos c0, show ps.drop (i + 1) = [] from List.drop_of_length_le (by omega)]; rfl
  · refine callV ok_l4digit (givesV_of (spec_l4digit _ _)) H fun w H => ?_
    refine ifB (fun c13 => ?_) (fun c13 => ?_)
    · refine esc_no H ?_
      rw [hds, escQ_other hn1 hn2 hxu, if_neg c0, if_pos (show digit _ = true from decide_eq_true c13)]
    · refine litI (xs := [98, 102, 110, 114, 116, 118]) H (by simp) (by kernel_rfl) fun v14 w H => ?_
      refine litI (xs := [8, 12, 10, 13, 9, 11]) H (by simp) (by kernel_rfl) fun v15 w H => ?_
      refine loopV (by kernel_rfl) (fun m e w => e 6 = .int .i64 p ∧ e 10 = v14 ∧ e 11 = v15 ∧ ∃ k : Nat, e 12 = .int .i64 k ∧ k + m = 6 ∧ (∀ j, j < k → frmQ.getD j 0 ≠ p) ∧ St W.heap.size W w [.rowI v15 tosQ, .rowI v14 frmQ, .roI (.slice A ps.length c) ps]) 6 ⟨rfl, rfl, rfl, 0, rfl, rfl, by omega, H⟩ ?_
      rintro m e w ⟨h6, h10, h11, k, h12, hk, hno, H⟩
      obtain ⟨A4, c4, rfl⟩ := own_val (H.own 1 rfl)
      obtain ⟨A5, c5, rfl⟩ := own_val (H.own 0 rfl)
      rw [Env.four h6 h10 h11 h12]
      have hE := escQ_other (r := ps.drop (i + 1)) hn1 hn2 hxu
      rw [if_neg c0, if_neg (by simpa [digit] using c13)] at hE
      refine ifB (fun c0 => ?_) (fun c0 => ?_)
      · refine JoinV.mk ?_
        refine idxN (n := 6) (xs := frmQ) (H.rd 1 rfl) (by omega) fun b off hc => ?_
        refine loadS hc ?_
        refine ifB (fun c4 => ?_) (fun c4 => ?_)
        · refine idxN (n := 6) (xs := tosQ) (H.rd 0 rfl) (by omega) fun b off hc => ?_
          refine loadS hc ?_
          refine litI1 H fun v7 w H => ?_
          refine esc_yes H (by simp) hil ?_
          rw [hds, hE, ← c4, frm_hit k (by omega)]
        · refine arN (by omega) ?_
          exact Exists.intro (m - 1) (And.intro (by omega) (And.intro rfl ⟨rfl, rfl, k + 1, rfl, by omega, fun j hj => by rcases Nat.lt_succ_iff_lt_or_eq.1 hj with q | q; exact hno j q; exact q ▸ c4, H⟩))
      · refine litI1 H fun v9 w H => ?_
        obtain rfl : k = 6 := by omega
        obtain ⟨A9, c9, rfl⟩ := own_val (H.own 0 rfl)
        refine callRow2 ok_spec_ToUnits (spec_units1 p hpb.1 hpb.2 (H.rd 0 rfl)) H fun A1 c1 w H => ?_
        refine esc_yes H (unitsOne_len p) hil ?_
        rw [hds, hE, frm_no p hno]
end Go.Proofs.YtjdgcgmhbhfpkaaDoorE
/- What the program's DecodeText does. -/
namespace Go.Proofs.YtjdgcgmhbhfpkaaDoorE
open Go Go.RowKit Go.Proofs
set_option linter.unusedVariables false
set_option linter.unusedSimpArgs false
set_option maxRecDepth 100000

theorem ok_impl_DecodeText : callOK Tryd.prog 16 = true := by kernel_rfl
theorem impl_DecodeText {bs : List Int} (hb : byteOK bs) {A : Option Addr} {n c : Nat} (hl : n ≤ 4294967296) {W : World} (hx : Rd W (.slice A n c) 1 n (bs.map (.int .u8))) :
    Calls Tryd.prog 16 #[.slice A n c] W fun e w => ∃ x, e = .returned (.tuple #[x, .int .i64 (decP (ptsF bs bs.length 0) []).2.1, .int .i64 (decP (ptsF bs bs.length 0) []).2.2]) ∧ OwnI w W.heap.size x (decP (ptsF bs bs.length 0) []).1 ∧ Below W.heap.size W w := by
  have H := (St.enter W).ro0 rfl hx
  obtain rfl : n = bs.length := by have := hx.len; simpa using this.symm
  obtain ⟨r, hr⟩ : ∃ r, decP (ptsF bs bs.length 0) [] = r := ⟨_, rfl⟩
  rw [hr]
  have hlen := ptsF_len bs hb bs.length 0
  refine calls_of_range Tryd.func16 rfl (by kernel_rfl) (Nat.le_of_ble_eq_true rfl) ?_
  refine newR H fun g2 w H => ?_
  refine newR H fun g3 w H => ?_
  refine newR H fun g4 w H => ?_
  refine newR H fun g5 w H => ?_
  refine callPoints H fun g w H => ?_
  have H := H.rowNil (e := 3) (sz := 1)
  have H : St W.heap.size W w [.obj g (.cells #[.slice A bs.length c] 22), .roB (.slice A bs.length c) bs, .obj g5 (.cells #[.slice none 0 0] 32), .rowI (.slice none 0 0) [], .obj g4 (.cells #[.int .i64 0] 3), .obj g3 (.cells #[.int .i64 0] 3), .obj g2 (.cells #[.slice none 0 0] 32)] := H.sub [1, 6, 2, 0, 3, 4, 5] (by decide)
  refine And.intro rfl (rangePts hb (by omega) (of_decide_eq_true (by kernel_rfl)) (of_decide_eq_true (by kernel_rfl)) rfl
    (fun its L => ∃ acc v, (∀ x ∈ its, x.2 ≤ 1114111) ∧ decP its acc = r ∧ acc.length + its.length ≤ bs.length ∧ L = [.obj g5 (.cells #[v] 32), .rowI v acc, .obj g4 (.cells #[.int .i64 0] 3), .obj g3 (.cells #[.int .i64 0] 3), .obj g2 (.cells #[.slice none 0 0] 32)])
    (fun L => r.1 = [] ∧ L = [.obj g4 (.cells #[.int .i64 r.2.2] 3), .obj g3 (.cells #[.int .i64 r.2.1] 3), .obj g2 (.cells #[.slice none 0 0] 32)]) H ⟨[], _, ptsF_max bs hb _ _, hr, by simpa using hlen, rfl⟩ (by kernel_rfl) ?_ ?_ ?_)
  · rintro i q its L l D M w ⟨acc, v, hm, hk, hkl, rfl⟩
    refine And.intro rfl (And.intro rfl fun w2 H => ?_)
    simp only [decP] at hk
    simp only [List.length_cons] at hkl
    refine ifB (fun h => ?_) (fun h => ?_)
    · rw [if_pos h] at hk
      subst hk
      refine storeO H 4 rfl rfl rfl fun w H => ?_
      refine storeO H 3 rfl rfl rfl fun w H => ?_
      refine storeO H 2 rfl rfl rfl fun w H => ?_
      exact ⟨[.obj g4 (.cells #[.int .i64 i] 3), .obj g3 (.cells #[.int .i64 2] 3), .obj g2 (.cells #[.slice none 0 0] 32)], ⟨rfl, rfl⟩, H.sublist (List.Sublist.cons _ (List.Sublist.cons _ (List.Sublist.refl _)))⟩
    · rw [if_neg h] at hk
      refine loadO H 0 rfl rfl ?_
      have hq := hm (i, q) (by simp)
      simp only at hq
      refine ar64 (by omega) (by omega) ?_
      refine litI1 H fun v1 w H => ?_
      refine appSI H 2 rfl (H.rd 0 rfl) (by simp; omega) fun v2 w H => ?_
      obtain ⟨A2, c2, rfl⟩ := own_val (H.own 2 rfl)
      refine storeO H 1 rfl rfl rfl fun w H => ?_
      exact ⟨[.obj g5 (.cells #[.slice A2 _ c2] 32), .rowI (.slice A2 _ c2) (acc ++ [q]), .obj g4 (.cells #[.int .i64 0] 3), .obj g3 (.cells #[.int .i64 0] 3), .obj g2 (.cells #[.slice none 0 0] 32)], ⟨acc ++ [q], _, fun x hx => hm x (by simp [hx]), hk, by rw [List.length_append, List.length_singleton]; omega, rfl⟩, H.sublist (List.Sublist.cons _ (List.Sublist.refl _))⟩
  · rintro w L ⟨acc, v, _, hk, hkl, rfl⟩ H
    simp only [decP] at hk
    subst hk
    obtain ⟨A2, c2, rfl⟩ := own_val (H.own 2 rfl)
    refine loadO H 1 rfl rfl ?_
    refine storeO H 5 rfl rfl rfl fun w H => ?_
    refine storeO H 4 rfl rfl rfl fun w H => ?_
    refine storeO H 3 rfl rfl rfl fun w H => ?_
    have H2 := H.putO 0 rfl (.deferred none)
    refine ⟨_, run_takeDeferred (H.obj 0 rfl).2, .tuple #[.slice A2 acc.length c2, .int .i64 0, .int .i64 0], fun tmps ht => resC3 rfl (ht 2) (ht 3) (ht 4) (runOf ?_) (runOf ?_) (runOf ?_), ?_⟩
    · exact loadO H2 5 rfl rfl ⟨rfl, rfl⟩
    · exact loadO H2 4 rfl rfl ⟨rfl, rfl⟩
    · exact loadO H2 3 rfl rfl ⟨rfl, rfl⟩
    · exact ⟨_, rfl, H2.own 2 rfl, H2.below⟩
  · rintro w L ⟨h1, rfl⟩ H
    have H2 := H.putO 0 rfl (.deferred none)
    refine ⟨_, run_takeDeferred (H.obj 0 rfl).2, .tuple #[.slice none 0 0, .int .i64 r.2.1, .int .i64 r.2.2], fun tmps ht => resC3 rfl (ht 2) (ht 3) (ht 4) (runOf ?_) (runOf ?_) (runOf ?_), ?_⟩
    · exact loadO H2 3 rfl rfl ⟨rfl, rfl⟩
    · exact loadO H2 2 rfl rfl ⟨rfl, rfl⟩
    · exact loadO H2 1 rfl rfl ⟨rfl, rfl⟩
    · exact ⟨_, rfl, by rw [h1]; exact World.ownsRow_nil _ _ _ _, H2.below⟩
end Go.Proofs.YtjdgcgmhbhfpkaaDoorE
/- What the program's ReadString does. -/
namespace Go.Proofs.YtjdgcgmhbhfpkaaDoorE
open Go Go.RowKit Go.Proofs
set_option linter.unusedVariables false
set_option maxRecDepth 100000













































































end Go.Proofs.YtjdgcgmhbhfpkaaDoorE
/- What the reference's l4string and ReadString do. -/
namespace Go.Proofs.YtjdgcgmhbhfpkaaDoorE
open Go Go.RowKit Go.Proofs
set_option linter.unusedVariables false
set_option maxRecDepth 100000
set_option maxHeartbeats 1000000

theorem drop_at (ps : List Int) (i : Nat) : ps.drop i = if i < ps.length then ps.getD i 0 :: ps.drop (i + 1) else [] := by
  split
  · rename_i h; exact drop_cons ps i h
  · rename_i h; exact List.drop_of_length_le (by omega)
theorem bd_at {ps : List Int} (hbd : ∀ p ∈ ps, 0 ≤ p ∧ p ≤ 1114111) (i : Nat) (h : i < ps.length) : 0 ≤ ps.getD i 0 ∧ ps.getD i 0 ≤ 1114111 := hbd _ (by rw [List.getD_eq_getElem?_getD, List.getElem?_eq_getElem h]; exact List.getElem_mem h)
theorem ok_l4string : callOK Tryd.prog 29 = true := by kernel_rfl
theorem spec_l4string {ps : List Int} (hbd : ∀ p ∈ ps, 0 ≤ p ∧ p ≤ 1114111) (i : Nat) {A : Option Addr} {n c : Nat} (hl : n ≤ 4294967296) (hi : i ≤ 4294967296) {W : World} (hx : Rd W (.slice A n c) 1 n (ps.map (.int .i64))) :
    Calls Tryd.prog 29 #[.slice A n c, .int .i64 i] W fun e w => ∃ (x : Value) (u : List Int) (k : Nat), e = .returned (.tuple #[x, .int .i64 k]) ∧ OwnI w W.heap.size x u ∧ Below W.heap.size W w ∧ u.length ≤ 2 * n ∧ ((k = 0 ∧ u = [] ∧ quotedQ (ps.drop i) = none) ∨ (0 < k ∧ i + k ≤ n ∧ quotedQ (ps.drop i) = some (u, ps.drop (i + k)))) := by
  have H := (St.enter W).ro0 rfl hx
  obtain rfl : n = ps.length := by have := hx.len; simpa using this.symm
  refine calls_of_vcV (args := [.slice A ps.length c, .int .i64 i]) Tryd.func29 rfl (by kernel_rfl) (Nat.le_of_ble_eq_true rfl) ?_
  have no : ∀ {w : World} {L : List It}, St W.heap.size W w L → quotedQ (ps.drop i) = none → ∃ (x : Value) (u : List Int) (k : Nat), Ending.returned (.tuple #[.slice none 0 0, .int .i64 0]) = .returned (.tuple #[x, .int .i64 k]) ∧ OwnI w W.heap.size x u ∧ Below W.heap.size W w ∧ u.length ≤ 2 * ps.length ∧ ((k = 0 ∧ u = [] ∧ quotedQ (ps.drop i) = none) ∨ (0 < k ∧ i + k ≤ ps.length ∧ quotedQ (ps.drop i) = some (u, ps.drop (i + k)))) :=
    fun H h => ⟨_, [], 0, rfl, World.ownsRow_nil _ _ _ _, H.below, Nat.zero_le _, .inl ⟨rfl, rfl, h⟩⟩
  refine cutG (fun e w => e 0 = .slice A ps.length c ∧ e 1 = .int .i64 i ∧ e 29 = .bool (decide (¬ (i < ps.length ∧ (ps.getD i 0 = 34 ∨ ps.getD i 0 = 39)))) ∧ St W.heap.size W w [.roI (.slice A ps.length c) ps]) ?_ ?_
  · refine gF (fun c0 => ?_) (fun c0 => ?_)
    · refine idxN (H.rd 0 rfl) (by omega) fun b off hc => ?_
      refine loadS hc ?_
      refine gT (fun c3 => ?_) (fun c3 => ?_)
      · refine idxN (H.rd 0 rfl) (by omega) fun b off hc => ?_
        refine loadS hc ?_
        refine gY ?_
        refine ⟨rfl, rfl, congrArg Value.bool ?_, H⟩
        (rw [Bool.eq_iff_iff]; simp only [decide_eq_true_eq, Bool.false_eq_true, true_iff, iff_true, false_iff, iff_false]; omega)
      · refine gY ?_
        refine ⟨rfl, rfl, congrArg Value.bool ?_, H⟩
        (rw [Bool.eq_iff_iff]; simp only [decide_eq_true_eq, Bool.false_eq_true, true_iff, iff_true, false_iff, iff_false]; omega)
    · refine gNot ?_
      refine gNt ?_
      refine ⟨rfl, rfl, congrArg Value.bool ?_, H⟩
      (rw [Bool.eq_iff_iff]; simp only [decide_eq_true_eq, Bool.false_eq_true, true_iff, iff_true, false_iff, iff_false]; omega)
  rintro e w ⟨h0, h1, h29, H⟩
  rw [Env.three h0 h1 h29]
  refine ifB (fun h => ?_) (fun h => ?_)
  · refine no H ?_
    rw [drop_at]
    split
    · unfold quotedQ; simp only []; rw [if_neg (by omega)]
    · rfl
  obtain ⟨hil, hq⟩ : i < ps.length ∧ (ps.getD i 0 = 34 ∨ ps.getD i 0 = 39) := by omega
  obtain ⟨q, hqe⟩ : ∃ q, ps.getD i 0 = q := ⟨_, rfl⟩
  have hst0 : quotedQ (ps.drop i) = strQ q ((ps.drop (i + 1)).length + 1) (ps.drop (i + 1)) [] := by
    rw [drop_cons ps i hil, hqe]; unfold quotedQ; simp only []; rw [if_pos (by omega)]
  refine arN (by omega) ?_
  refine loopV (by kernel_rfl) (fun m e w => e 0 = .slice A ps.length c ∧ e 1 = .int .i64 i ∧ ∃ (v : Value) (acc : List Int) (k f : Nat), e 6 = v ∧ e 7 = .int .i64 k ∧ k + m = ps.length ∧ i < k ∧ ps.length - k < f ∧ acc.length + 2 * (ps.length - k) ≤ 2 * ps.length ∧ quotedQ (ps.drop i) = strQ q f (ps.drop k) acc ∧ St W.heap.size W w [.rowI v acc, .roI (.slice A ps.length c) ps]) (ps.length - (i + 1))
    ⟨rfl, rfl, _, [], i + 1, _, rfl, rfl, by omega, by omega, by rw [List.length_drop]; omega, by simp only [List.length_nil]; omega, hst0, H.rowNil⟩ ?_
  rintro m e w ⟨h0, h1, v, acc, k, f, h6, h7, hkm, hik, hf, hac, hst, H⟩
  rw [Env.four h0 h1 h6 h7]
  obtain ⟨f, rfl⟩ : ∃ f', f = f' + 1 := ⟨f - 1, by omega⟩
  obtain ⟨p, hp⟩ : ∃ p, ps.getD k 0 = p := ⟨_, rfl⟩
  refine drawR H fun w H => ?_
  refine gT (fun c1 => ?_) (fun c1 => ?_)
  · refine idxP hp (H.rd 1 rfl) (by omega) fun b off hc => ?_
    refine loadS hc ?_
    refine idxP hqe (H.rd 1 rfl) (by omega) fun b off hc => ?_
    refine loadS hc ?_
    refine ifB (fun c6 => ?_) (fun c6 => ?_)
    · refine RegV.mk ?_
      refine idxP hp (H.rd 1 rfl) (by omega) fun b off hc => ?_
      refine loadS hc ?_
      refine gF (fun c10 => ?_) (fun c10 => ?_)
      · refine idxP hp (H.rd 1 rfl) (by omega) fun b off hc => ?_
        refine loadS hc ?_
        refine ifB (fun c13 => ?_) (fun c13 => ?_)
        · refine no H ?_
          rw [hst, drop_cons ps k (by omega), hp, strQ_cons, if_neg (by omega), if_pos (by omega)]
        · refine idxP hp (H.rd 1 rfl) (by omega) fun b off hc => ?_
          refine loadS hc ?_
          refine ifB (fun c16 => ?_) (fun c16 => ?_)
          · refine arN (by omega) ?_
            refine CallS.mk ok_l4escape ((spec_l4escape hbd (k + 1) hl (by omega) (H.rd 1 rfl)).mono ?_)
            rintro _ w ⟨x, u, kk, rfl, ho, hb, hu, hcase⟩
            have H := newRow H ho hb
            refine ifB (fun c0 => ?_) (fun c0 => ?_)
            · refine no H ?_
              rw [hst, drop_cons ps k (by omega), hp, strQ_cons, if_neg (by omega), if_neg (by omega), if_pos c16]
              rcases hcase with q | q
              · rw [q.2]
              · omega
            · refine appSI H 1 rfl (H.rd 0 rfl) (by omega) fun v2 w H => ?_
              refine ar64 (by omega) (by omega) ?_
              refine ar64 (by omega) (by omega) ?_
              rcases hcase with q | q
              · omega
              · refine Exists.intro (ps.length - (k + 1 + kk)) (And.intro (by omega) ⟨rfl, rfl, v2, acc ++ u, k + 1 + kk, f, rfl, congrArg (Value.int .i64) (show (k : Int) + (1 + kk) = ((k + 1 + kk : Nat) : Int) by omega), by omega, by omega, by omega, by rw [List.length_append]; omega, ?_, H.tl⟩)
                rw [hst, drop_cons ps k (by omega), hp, strQ_cons, if_neg (by omega), if_neg (by omega), if_pos c16, q.2.2]
          · refine idxP hp (H.rd 1 rfl) (by omega) fun b off hc => ?_
            refine loadS hc ?_
            refine litI1 H fun v20 w H => ?_
            obtain ⟨A9, c9, rfl⟩ := own_val (H.own 0 rfl)
            have hb := bd_at hbd k (by omega)
            rw [hp] at hb
            refine callRow2 ok_spec_ToUnits (spec_units1 p hb.1 hb.2 (H.rd 0 rfl)) H fun A1 c1 w H => ?_
            have hul := unitsOne_len p
            refine appSI H 2 rfl (H.rd 0 rfl) (by omega) fun v2 w H => ?_
            refine arN (by omega) ?_
            refine Exists.intro (ps.length - (k + 1)) (And.intro (by omega) ⟨rfl, rfl, v2, acc ++ unitsOne p, k + 1, f, rfl, rfl, by omega, by omega, by omega, by rw [List.length_append]; omega, ?_, H.tl.tl⟩)
            rw [hst, drop_cons ps k (by omega), hp, strQ_cons, if_neg (by omega), if_neg (by omega), if_neg c16]
      · refine ifT ?_
        refine no H ?_
        rw [hst, drop_cons ps k (by omega), hp, strQ_cons, if_neg (by omega), if_pos (by omega)]
    · refine ifB (fun c22 => absurd c22 (by omega)) (fun c22 => ?_)
      refine arN (by omega) ?_
      refine ar64 (by omega) (by omega) ?_
      refine Exists.intro v (Exists.intro acc (Exists.intro (k + 1 - i) (And.intro (congrArg (fun z => Ending.returned (.tuple #[v, .int .i64 z])) (show (k : Int) + 1 - i = ((k + 1 - i : Nat) : Int) by omega)) (And.intro (H.own 0 rfl) (And.intro H.below (And.intro (by omega) (Or.inr ⟨by omega, by omega, ?_⟩)))))))
      rw [hst, drop_cons ps k (by omega), hp, strQ_cons, if_pos (by omega), show i + (k + 1 - i) = k + 1 by omega]
  · refine ifF ?_
    refine ifB (fun c26 => ?_) (fun c26 => absurd c26 (by omega))
    refine no H ?_
    rw [hst, List.drop_of_length_le (by omega)]; rfl
theorem decW_bd {xs : List Int} (hb : byteOK xs) (h : (decW xs).2.1 = 0) : ∀ p ∈ (decW xs).1, 0 ≤ p ∧ p ≤ 1114111 := by
  obtain ⟨qs, hq, ha⟩ := at_of xs hb xs.length 0 [] (by omega) (by omega) h
  have hq : (decW xs).1 = qs := hq
  rw [hq]; exact ha.bd hb











































end Go.Proofs.YtjdgcgmhbhfpkaaDoorE
/- The length of what a quoted text answers. -/
namespace Go.Proofs.YtjdgcgmhbhfpkaaDoorE
open Go Go.RowKit Go.Proofs
set_option linter.unusedVariables false
set_option maxRecDepth 100000

theorem escQ_u {qs u r : List Int} (h : escQ qs = some (u, r)) : u.length ≤ 2 := by
  cases qs with
  | nil => simp [escQ] at h
  | cons c t =>
    unfold escQ at h
    simp only [] at h
    have hx : ∀ n, (readHex n t 0).map (fun x => ([x.1], x.2)) = some (u, r) → u.length ≤ 2 := fun n h => by
      cases hh : readHex n t 0 with
      | none => rw [hh] at h; cases h
      | some x =>
        rw [hh] at h
        simp only [Option.map_some, Option.some.injEq, Prod.mk.injEq] at h
        obtain ⟨rfl, _⟩ := h
        simp
    split at h
    · simp only [Option.some.injEq, Prod.mk.injEq] at h; obtain ⟨rfl, _⟩ := h; simp
    split at h
    · simp only [Option.some.injEq, Prod.mk.injEq] at h; obtain ⟨rfl, _⟩ := h; simp
    split at h
    · exact hx 2 h
    split at h
    · exact hx 4 h
    split at h
    · split at h
      · cases h
      · simp only [Option.some.injEq, Prod.mk.injEq] at h; obtain ⟨rfl, _⟩ := h; simp
    split at h
    · cases h
    split at h
    · simp only [Option.some.injEq, Prod.mk.injEq] at h; obtain ⟨rfl, _⟩ := h; simp
    · simp only [Option.some.injEq, Prod.mk.injEq] at h; obtain ⟨rfl, _⟩ := h; exact unitsOne_len c
theorem strQ_len (q : Int) : ∀ (f : Nat) (qs acc u r : List Int), strQ q f qs acc = some (u, r) → u.length ≤ acc.length + 2 * qs.length := by
  intro f
  induction f with
  | zero => intro qs acc u r h; cases h
  | succ f ih =>
    intro qs acc u r h
    cases qs with
    | nil => cases h
    | cons c t =>
      rw [strQ_cons] at h
      split at h
      · simp only [Option.some.injEq, Prod.mk.injEq] at h; obtain ⟨rfl, _⟩ := h; omega
      split at h
      · cases h
      split at h
      · cases he : escQ t with
        | none => rw [he] at h; cases h
        | some x =>
          rw [he] at h
          have h1 := ih _ _ _ _ h
          have h2 := escQ_len (u := x.1) (r := x.2) he
          have h3 := escQ_u (u := x.1) (r := x.2) he
          simp only [List.length_append, List.length_cons] at h1 ⊢; omega
      · have h1 := ih _ _ _ _ h
        have h2 := unitsOne_len c
        simp only [List.length_append, List.length_cons] at h1 ⊢; omega
theorem readS_len (xs : List Int) (hb : byteOK xs) : (readS xs).1.length ≤ 2 * xs.length := by
  unfold readS
  split
  · simp
  · have hl := decW_len xs hb
    unfold readR
    cases hq : quotedQ (decW xs).1 with
    | none => simp
    | some x =>
      obtain ⟨u, r⟩ := x
      have : u.length ≤ 2 * (decW xs).1.length := by
        cases hd : (decW xs).1 with
        | nil => rw [hd] at hq; cases hq
        | cons q t =>
          rw [hd] at hq
          unfold quotedQ at hq
          simp only [] at hq
          split at hq
          · have := strQ_len _ _ _ _ _ _ hq; simp only [List.length_nil, List.length_cons] at this ⊢; omega
          · cases hq
      cases r <;> simp <;> omega
end Go.Proofs.YtjdgcgmhbhfpkaaDoorE
/- The reference's kinds of points, offsets and ASCII bytes. -/
namespace Go.Proofs.YtjdgcgmhbhfpkaaDoorE
open Go Go.RowKit Go.Proofs
set_option linter.unusedVariables false
set_option linter.unusedSimpArgs false
set_option maxRecDepth 100000
set_option maxHeartbeats 2000000

theorem ok_l4letter : callOK Tryd.prog 24 = true := by kernel_rfl
theorem spec_l4letter (c : Int) (W : World) : GivesV Tryd.prog 24 [.int .i64 c] W (.bool (letQ c)) := by
  have H := St.enter W
  have hs := sortN_cases c
  refine calls_of_vcV (args := [.int .i64 c]) Tryd.func24 rfl (by kernel_rfl) (Nat.le_of_ble_eq_true rfl) ?_
  unfold letQ
  refine cutG (fun e w => e 2 = .bool (decide (sortN c = 1)) ∧ St W.heap.size W w []) ?_ ?_
  · repeat' first | (refine gY ?_) | (refine gNt ?_) | (refine gNf ?_) | (refine ifT ?_) | (refine ifF ?_) | (refine arN (by omega) ?_) | (refine ar64 (by omega) (by omega) ?_) | (refine ar32 (by omega) (by omega) ?_) | (refine ar8 (by omega) (by omega) ?_) | (refine div64 (by omega) (by omega) (by omega) ?_) | (refine rem0 (by omega) (by omega) ?_) | (refine drawR H fun w H => ?_) | (refine RegV.mk ?_) | (refine JoinV.mk ?_) | (refine gT (fun h => ?_) (fun h => ?_) <;> first | (exfalso; omega) | skip) | (refine gF (fun h => ?_) (fun h => ?_) <;> first | (exfalso; omega) | skip) | (refine ifB (fun h => ?_) (fun h => ?_) <;> first | (exfalso; omega) | skip)
    all_goals refine ⟨congrArg Value.bool ?_, H⟩
    all_goals (rw [Bool.eq_iff_iff]; simp only [decide_eq_true_eq, Bool.false_eq_true, true_iff, iff_true, false_iff, iff_false]; omega)
  rintro e w ⟨h2, H⟩
  rw [Env.one h2]
  exact Exists.intro _ (And.intro rfl (And.intro rfl H))
theorem ok_l4runs : callOK Tryd.prog 26 = true := by kernel_rfl
theorem spec_l4runs (c : Int) (W : World) : GivesV Tryd.prog 26 [.int .i64 c] W (.bool (rnQ c)) := by
  have H := St.enter W
  have hs := sortN_cases c
  refine calls_of_vcV (args := [.int .i64 c]) Tryd.func26 rfl (by kernel_rfl) (Nat.le_of_ble_eq_true rfl) ?_
  have hd : digit c = decide (48 ≤ c ∧ c ≤ 57) := rfl
  unfold rnQ
  refine cutG (fun e w => e 2 = .bool (decide (sortN c = 1 ∨ sortN c = 2 ∨ sortN c = 3)) ∧ St W.heap.size W w []) ?_ ?_
  · refine callV ok_l4letter (spec_l4letter _ _) H fun w H => ?_
    refine gF (fun c1 => ?_) (fun c1 => ?_)
    · refine callV ok_l4digit (givesV_of (spec_l4digit _ _)) H fun w H => ?_
      refine gF (fun c3 => ?_) (fun c3 => ?_)
      · refine gF (fun c4 => ?_) (fun c4 => ?_)
        · refine gF (fun c5 => ?_) (fun c5 => ?_)
          · refine ⟨congrArg Value.bool ?_, H⟩
            (rw [Bool.eq_iff_iff]; simp only [decide_eq_true_eq, Bool.false_eq_true, true_iff, iff_true, false_iff, iff_false]; omega)
          · refine ⟨congrArg Value.bool ?_, H⟩
            (rw [Bool.eq_iff_iff]; simp only [decide_eq_true_eq, Bool.false_eq_true, true_iff, iff_true, false_iff, iff_false]; omega)
        · refine gNf ?_
          refine ⟨congrArg Value.bool ?_, H⟩
          (rw [Bool.eq_iff_iff]; simp only [decide_eq_true_eq, Bool.false_eq_true, true_iff, iff_true, false_iff, iff_false]; omega)
      · refine gNf ?_
        refine gNf ?_
        refine ⟨congrArg Value.bool ?_, H⟩
        (rw [Bool.eq_iff_iff]; simp only [decide_eq_true_eq, Bool.false_eq_true, true_iff, iff_true, false_iff, iff_false]; omega)
    · refine gNf ?_
      refine gNf ?_
      refine gNf ?_
      refine ⟨congrArg Value.bool ?_, H⟩
      (rw [Bool.eq_iff_iff]; simp only [decide_eq_true_eq, Bool.false_eq_true, true_iff, iff_true, false_iff, iff_false]; omega)
  rintro e w ⟨h2, H⟩
  rw [Env.one h2]
  exact Exists.intro _ (And.intro rfl (And.intro rfl H))
theorem ok_l4blank : callOK Tryd.prog 14 = true := by kernel_rfl
theorem spec_l4blank (c : Int) (W : World) : GivesV Tryd.prog 14 [.int .i64 c] W (.bool (blankQ c)) := by
  have H := St.enter W
  refine calls_of_vcV (args := [.int .i64 c]) Tryd.func14 rfl (by kernel_rfl) (Nat.le_of_ble_eq_true rfl) ?_
  refine cutG (fun e w => e 2 = .bool (blankQ c) ∧ St W.heap.size W w []) ?_ ?_
  · refine gF (fun c0 => ?_) (fun c0 => ?_)
    · refine gF (fun c1 => ?_) (fun c1 => ?_)
      · refine gF (fun c2 => ?_) (fun c2 => ?_)
        · refine gF (fun c3 => ?_) (fun c3 => ?_)
          · refine gF (fun c4 => ?_) (fun c4 => ?_)
            · refine gF (fun c5 => ?_) (fun c5 => ?_)
              · refine callV ok_l4lineEnd (spec_l4lineEnd _ _) H fun w H => ?_
                refine ⟨congrArg Value.bool ?_, H⟩
                (unfold blankQ lineE; simp only [decide_eq_true_eq])
                (rw [Bool.eq_iff_iff]; simp only [decide_eq_true_eq, Bool.false_eq_true, true_iff, iff_true, false_iff, iff_false]; omega)
              · refine ⟨congrArg Value.bool ?_, H⟩
                (unfold blankQ lineE; simp only [decide_eq_true_eq])
                (rw [Bool.eq_iff_iff]; simp only [decide_eq_true_eq, Bool.false_eq_true, true_iff, iff_true, false_iff, iff_false]; omega)
            · refine gNf ?_
              refine ⟨congrArg Value.bool ?_, H⟩
              (unfold blankQ lineE; simp only [decide_eq_true_eq])
              (rw [Bool.eq_iff_iff]; simp only [decide_eq_true_eq, Bool.false_eq_true, true_iff, iff_true, false_iff, iff_false]; omega)
          · refine gNf ?_
            refine gNf ?_
            refine ⟨congrArg Value.bool ?_, H⟩
            (unfold blankQ lineE; simp only [decide_eq_true_eq])
            (rw [Bool.eq_iff_iff]; simp only [decide_eq_true_eq, Bool.false_eq_true, true_iff, iff_true, false_iff, iff_false]; omega)
        · refine gNf ?_
          refine gNf ?_
          refine gNf ?_
          refine ⟨congrArg Value.bool ?_, H⟩
          (unfold blankQ lineE; simp only [decide_eq_true_eq])
          (rw [Bool.eq_iff_iff]; simp only [decide_eq_true_eq, Bool.false_eq_true, true_iff, iff_true, false_iff, iff_false]; omega)
      · refine gNf ?_
        refine gNf ?_
        refine gNf ?_
        refine gNf ?_
        refine ⟨congrArg Value.bool ?_, H⟩
        (unfold blankQ lineE; simp only [decide_eq_true_eq])
        (rw [Bool.eq_iff_iff]; simp only [decide_eq_true_eq, Bool.false_eq_true, true_iff, iff_true, false_iff, iff_false]; omega)
    · refine gNf ?_
      refine gNf ?_
      refine gNf ?_
      refine gNf ?_
      refine gNf ?_
      refine ⟨congrArg Value.bool ?_, H⟩
      (unfold blankQ lineE; simp only [decide_eq_true_eq])
      (rw [Bool.eq_iff_iff]; simp only [decide_eq_true_eq, Bool.false_eq_true, true_iff, iff_true, false_iff, iff_false]; omega)
  rintro e w ⟨h2, H⟩
  rw [Env.one h2]
  exact Exists.intro _ (And.intro rfl (And.intro rfl H))
theorem ok_l4ascii : callOK Tryd.prog 28 = true := by kernel_rfl
theorem spec_l4ascii {ps : List Int} (hb : byteOK ps) {A : Option Addr} {n c : Nat} (hl : n ≤ 4294967296) {W : World} (hx : Rd W (.slice A n c) 1 n (ps.map (.int .i64))) :
    Calls Tryd.prog 28 #[.slice A n c] W fun e w => ∃ x, e = .returned x ∧ OwnB w W.heap.size x ps ∧ Below W.heap.size W w := by
  have H := ((St.enter W).ro0 rfl hx).rowNil (e := 5) (sz := 1)
  obtain rfl : n = ps.length := by have := hx.len; simpa using this.symm
  refine calls_of_vcV (args := [.slice A ps.length c]) Tryd.func28 rfl (by kernel_rfl) (Nat.le_of_ble_eq_true rfl) ?_
  refine loopV (by kernel_rfl) (fun m e w => e 0 = .slice A ps.length c ∧ ∃ (i : Nat) (v : Value), e 4 = .int .i64 i ∧ e 3 = v ∧ i + m = ps.length ∧ St W.heap.size W w [.rowB v (ps.take i), .roI (.slice A ps.length c) ps]) ps.length
    ⟨rfl, 0, _, rfl, rfl, by omega, H⟩ ?_
  rintro m e w ⟨h0, i, v, h4, h3, him, H⟩
  rw [Env.three h0 h4 h3]
  refine ifB (fun h => ?_) (fun h => ?_)
  case refine_2 =>
    rw [List.take_of_length_le (by omega)] at H
    exact Exists.intro v (And.intro rfl (And.intro (H.own 0 rfl) H.below))
  have hil : i < ps.length := by omega
  have hlt : (ps.take i).length = i := by rw [List.length_take]; omega
  have hbi := hb.get i
  have htk : ps.take (i + 1) = ps.take i ++ [ps.getD i 0] := by rw [List.take_add_one, List.getElem?_eq_getElem hil, List.getD_eq_getElem?_getD, List.getElem?_eq_getElem hil]; rfl
  refine idxN (i := i) (H.rd 1 rfl) (by omega) fun b off hc => ?_
  refine loadS hc ?_
  refine ar8 (by omega) (by omega) ?_
  refine litB1 H fun v1 w H => ?_
  refine appSB H 1 rfl (H.rd 0 rfl) (by simp; omega) fun v2 w H => ?_
  refine arN (by omega) ?_
  exact Exists.intro (m - 1) (And.intro (by omega) ⟨rfl, i + 1, v2, rfl, rfl, by omega, by rw [htk]; exact H.sub [1, 2] (by decide)⟩)
def offL (ps : List Int) (k : Nat) : List Int := (List.range (k + 1)).map fun j => (wdt (ps.take j) : Int)
theorem offL_len (ps : List Int) (k : Nat) : (offL ps k).length = k + 1 := by simp [offL]
theorem offL_get (ps : List Int) (k j : Nat) (h : j ≤ k) : (offL ps k).getD j 0 = wdt (ps.take j) := by
  unfold offL
  rw [List.getD_eq_getElem?_getD, List.getElem?_map, List.getElem?_range (by omega)]; rfl
theorem offL_snoc (ps : List Int) (k : Nat) : offL ps (k + 1) = offL ps k ++ [(wdt (ps.take (k + 1)) : Int)] := by
  unfold offL; rw [List.range_succ, List.map_append]; rfl
theorem wdt_take (ps : List Int) (i : Nat) (h : i < ps.length) : wdt (ps.take (i + 1)) = wdt (ps.take i) + (need (ps.getD i 0)).toNat := by
  rw [List.take_add_one, List.getElem?_eq_getElem h, List.getD_eq_getElem?_getD, List.getElem?_eq_getElem h, wdt_app]; simp [wdt]
theorem wdt_le : ∀ ps : List Int, wdt ps ≤ 4 * ps.length
  | [] => Nat.zero_le _
  | p :: r => by
    have := wdt_le r
    have hn := need_cases p
    simp only [wdt, List.length_cons]; omega
theorem ok_l4offsets : callOK Tryd.prog 13 = true := by kernel_rfl
theorem spec_l4offsets {ps : List Int} {A : Option Addr} {n c : Nat} (hl : n ≤ 4294967296) {W : World} (hx : Rd W (.slice A n c) 1 n (ps.map (.int .i64))) :
    Calls Tryd.prog 13 #[.slice A n c] W fun e w => ∃ x, e = .returned x ∧ OwnI w W.heap.size x (offL ps n) ∧ Below W.heap.size W w := by
  have H := (St.enter W).ro0 rfl hx
  obtain rfl : n = ps.length := by have := hx.len; simpa using this.symm
  refine calls_of_vcV (args := [.slice A ps.length c]) Tryd.func13 rfl (by kernel_rfl) (Nat.le_of_ble_eq_true rfl) ?_
  refine litI1 H fun v0 w H => ?_
  refine loopV (by kernel_rfl) (fun m e w => e 0 = .slice A ps.length c ∧ ∃ (i : Nat) (v : Value), e 4 = .int .i64 i ∧ e 3 = v ∧ i + m = ps.length ∧ St W.heap.size W w [.rowI v (offL ps i), .roI (.slice A ps.length c) ps]) ps.length
    ⟨rfl, 0, _, rfl, rfl, by omega, H⟩ ?_
  rintro m e w ⟨h0, i, v, h4, h3, him, H⟩
  rw [Env.three h0 h4 h3]
  refine ifB (fun h => ?_) (fun h => ?_)
  case refine_2 =>
    obtain rfl : i = ps.length := by omega
    exact Exists.intro v (And.intro rfl (And.intro (H.own 0 rfl) H.below))
  have hil : i < ps.length := by omega
  have hlt := offL_len ps i
  have hg := offL_get ps i i (Nat.le_refl _)
  have hw := wdt_le (ps.take i)
  have hw1 := wdt_take ps i hil
  have hn := need_cases (ps.getD i 0)
  have hsn := offL_snoc ps i
  rw [List.length_take] at hw
  obtain ⟨A2, c2, rfl⟩ := own_val (H.own 0 rfl)
  refine regG [9, 11, 12] [9] [4, 8] [0, 1, 2, 3, 4, 5, 6, 7, 8, 9, 10, 11, 12, 13] (by kernel_rfl) ?_
  refine drawR H fun w H => ?_
  refine idxN (i := i) (H.rd 0 rfl) (by omega) fun b off hc => ?_
  refine loadS hc ?_
  refine idxN (i := i) (H.rd 1 rfl) (by omega) fun b off hc => ?_
  refine loadS hc ?_
  refine callVB ok_l1need (spec_need _ _) H fun w hB H => ?_
  refine KeepS.mk ⟨HeldW.ofBelow hB, ?_⟩
  refine ar64 (by omega) (by omega) ?_
  refine litI1 H fun v1 w H => ?_
  refine appSI H 1 rfl (H.rd 0 rfl) (by simp; omega) fun v2 w H => ?_
  refine arN (by omega) ?_
  have ev : ((wdt (ps.take i) : Int) + need (ps.getD i 0)) = (wdt (ps.take (i + 1)) : Int) := by omega
  rw [hg, ev, ← hsn] at H
  exact Exists.intro (m - 1) (And.intro (by omega) ⟨rfl, i + 1, v2, rfl, rfl, by omega, H.sub [1, 2] (by decide)⟩)
end Go.Proofs.YtjdgcgmhbhfpkaaDoorE
/- The reference's token. -/
namespace Go.Proofs.YtjdgcgmhbhfpkaaDoorE
open Go Go.RowKit Go.Proofs
set_option linter.unusedVariables false
set_option linter.unusedSimpArgs false
set_option maxRecDepth 100000
set_option maxHeartbeats 4000000

theorem brace_hit (k : Nat) (hk : k < 6) : braceQ (onesQ.getD k 0) = (k : Int) + 1 := by
  have : ∀ k : Fin 6, braceQ (onesQ.getD k.val 0) = (k.val : Int) + 1 := by decide
  exact this ⟨k, hk⟩
theorem brace_no (p : Int) (h : ∀ j, j < 6 → onesQ.getD j 0 ≠ p) : braceQ p = 0 := by
  have h0 := h 0 (by omega); have h1 := h 1 (by omega); have h2 := h 2 (by omega); have h3 := h 3 (by omega); have h4 := h 4 (by omega); have h5 := h 5 (by omega)
  simp only [onesQ, List.getD_cons_zero, List.getD_cons_succ] at h0 h1 h2 h3 h4 h5
  unfold braceQ
  rw [if_neg (fun e => h0 e.symm), if_neg (fun e => h1 e.symm), if_neg (fun e => h2 e.symm), if_neg (fun e => h3 e.symm), if_neg (fun e => h4 e.symm), if_neg (fun e => h5 e.symm)]
theorem scan_w (f : Int → Bool) (ps : List Int) : ∀ (m a : Nat), a + m ≤ ps.length → (∀ j, j < m → f (ps.getD (a + j) 0) = true) → (a + m < ps.length → f (ps.getD (a + m) 0) = false) → (ps.drop a).dropWhile f = ps.drop (a + m) ∧ (ps.drop a).takeWhile f = (ps.drop a).take m
  | 0, a, h1, h2, h3 => by
    rw [Nat.add_zero] at h3 ⊢
    by_cases h : a < ps.length
    · have := h3 h
      rw [drop_cons ps a h, List.dropWhile_cons, List.takeWhile_cons, this]
      exact ⟨rfl, rfl⟩
    · rw [List.drop_of_length_le (by omega)]; exact ⟨rfl, rfl⟩
  | m + 1, a, h1, h2, h3 => by
    have h : a < ps.length := by omega
    have h0 := h2 0 (by omega)
    rw [Nat.add_zero] at h0
    obtain ⟨q1, q2⟩ := scan_w f ps m (a + 1) (by omega) (fun j hj => by have := h2 (j + 1) (by omega); rwa [show a + (j + 1) = a + 1 + j by omega] at this) (fun hh => by have := h3 (by omega); rwa [show a + (m + 1) = a + 1 + m by omega] at this)
    rw [drop_cons ps a h, List.dropWhile_cons, List.takeWhile_cons, h0, if_pos rfl, if_pos rfl, q1, q2, show a + (m + 1) = a + 1 + m by omega]
    exact ⟨rfl, rfl⟩
theorem tokQ_cons (c : Int) (r : List Int) : tokQ (c :: r) = if braceQ c ≠ 0 then some (braceQ c, r) else
    if sortN c = 1 then some (7, r.dropWhile nameQ) else
    if sortN c = 2 ∨ sortN c = 3 then (if numb (c :: r.takeWhile rnQ) then some (8, r.dropWhile rnQ) else none) else
    if c = 34 ∨ c = 39 then (match quotedQ (c :: r) with | some x => some (9, x.2) | none => none) else
    if c ≠ 47 then none else
    if headP r = 47 then some (10, (r.drop 1).dropWhile noEnd) else
    if headP r = 42 then (match endQ (r.drop 1) with | some x => some (11, x) | none => none) else none := rfl
theorem tw_all (f : Int → Bool) : ∀ r : List Int, ∀ x ∈ r.takeWhile f, f x = true
  | [], x, h => by simp at h
  | a :: r, x, h => by
    rw [List.takeWhile_cons] at h
    by_cases ha : f a = true
    · rw [if_pos ha] at h
      rcases List.mem_cons.1 h with rfl | h
      · exact ha
      · exact tw_all f r x h
    · rw [if_neg ha] at h; simp at h
theorem rn_bd {x : Int} (h : sortN x = 1 ∨ sortN x = 2 ∨ sortN x = 3) : 0 ≤ x ∧ x < 128 := by
  have := sortN_cases x; omega
theorem endQ_two (a b : Int) (r : List Int) : endQ (a :: b :: r) = if a = 42 ∧ b = 47 then some r else endQ (b :: r) := rfl
theorem endQ_short (r : List Int) (h : r.length ≤ 1) : endQ r = none := by
  match r, h with
  | [], _ => rfl
  | [_], _ => rfl
def TokR (W : World) (ps : List Int) (i : Nat) (e : Ending) (w : World) : Prop := ∃ (k : Int) (m : Nat), e = .returned (.tuple #[.int .i64 k, .int .i64 m]) ∧ Below W.heap.size W w ∧ ((m = 0 ∧ tokQ (ps.drop i) = none) ∨ (0 < m ∧ i + m ≤ ps.length ∧ 0 ≤ k ∧ k ≤ 11 ∧ tokQ (ps.drop i) = some (k, ps.drop (i + m))))
theorem tok_no {W w : World} {ps : List Int} {i : Nat} {k : Int} {L : List It} (H : St W.heap.size W w L) (h : tokQ (ps.drop i) = none) : TokR W ps i (.returned (.tuple #[.int .i64 k, .int .i64 0])) w := ⟨k, 0, rfl, H.below, .inl ⟨rfl, h⟩⟩
theorem tok_yes {W w : World} {ps : List Int} {i m : Nat} {k : Int} {L : List It} (H : St W.heap.size W w L) (hm : 0 < m) (hi : i + m ≤ ps.length) (hk : 0 ≤ k ∧ k ≤ 11) (h : tokQ (ps.drop i) = some (k, ps.drop (i + m))) : TokR W ps i (.returned (.tuple #[.int .i64 k, .int .i64 m])) w := ⟨k, m, rfl, H.below, .inr ⟨hm, hi, hk.1, hk.2, h⟩⟩
theorem ok_l4token : callOK Tryd.prog 15 = true := by kernel_rfl
theorem spec_l4token {ps : List Int} (hbd : ∀ p ∈ ps, 0 ≤ p ∧ p ≤ 1114111) (i : Nat) {A : Option Addr} {n c : Nat} (hl : n ≤ 4294967296) (hi : i < n) {W : World} (hx : Rd W (.slice A n c) 1 n (ps.map (.int .i64))) :
    Calls Tryd.prog 15 #[.slice A n c, .int .i64 i] W fun e w => TokR W ps i e w := by
  have H := (St.enter W).ro0 rfl hx
  obtain rfl : n = ps.length := by have := hx.len; simpa using this.symm
  refine calls_of_vcV (args := [.slice A ps.length c, .int .i64 i]) Tryd.func15 rfl (by kernel_rfl) (Nat.le_of_ble_eq_true rfl) ?_
  obtain ⟨p, hp⟩ : ∃ p, ps.getD i 0 = p := ⟨_, rfl⟩
  have hpb := bd_at hbd i hi
  rw [hp] at hpb
  have hds : ps.drop i = p :: ps.drop (i + 1) := by rw [drop_cons ps i hi, hp]
  have htk := tokQ_cons p (ps.drop (i + 1))
  rw [← hds] at htk
  have hsc := sortN_cases p
  refine idxP hp (H.rd 0 rfl) (by omega) fun b off hc => ?_
  refine loadS hc ?_
  refine loopV (by kernel_rfl) (fun m e w => e 0 = .slice A ps.length c ∧ e 1 = .int .i64 i ∧ e 6 = .int .i64 p ∧ e 7 = .string (strOfNums onesQ) ∧ ∃ k : Nat, e 8 = .int .i64 k ∧ k + m = 6 ∧ (∀ j, j < k → onesQ.getD j 0 ≠ p) ∧ St W.heap.size W w [.roI (.slice A ps.length c) ps]) 6
    ⟨rfl, rfl, rfl, rfl, 0, rfl, rfl, fun j hj => by omega, H⟩ ?_
  rintro m e w ⟨h0, h1, h6, h7, k, h8, hkm, hno, H⟩
  rw [Env.five h0 h1 h6 h7 h8]
  refine ifB (fun h => ?_) (fun h => ?_)
  · refine JoinV.mk ?_
    have hw8 : 0 ≤ onesQ.getD k 0 ∧ onesQ.getD k 0 ≤ 255 := by
      have : ∀ k : Fin 6, 0 ≤ onesQ.getD k.val 0 ∧ onesQ.getD k.val 0 ≤ 255 := by decide
      exact this ⟨k, by omega⟩
    have hbk := brace_hit k (by omega)
    refine strN (xs := onesQ) (i := k) (by intro x hx; simp [onesQ] at hx; omega) (by simp [onesQ]; omega) ?_
    refine ar64 (by omega) (by omega) ?_
    refine ifB (fun c2 => ?_) (fun c2 => ?_)
    · refine arN (by omega) ?_
      rw [c2] at hbk
      refine tok_yes (m := 1) (k := (k : Int) + 1) H (by decide) hi ⟨by omega, by omega⟩ ?_
      rw [htk, hbk, if_pos (by omega)]
    · refine arN (by omega) ?_
      refine Exists.intro (m - 1) (And.intro (by omega) (And.intro rfl ⟨rfl, rfl, rfl, k + 1, rfl, by omega, fun j hj => ?_, H⟩))
      by_cases hjk : j = k
      · subst hjk; exact c2
      · exact hno j (by omega)
  have hb0 := brace_no p (fun j hj => hno j (by omega))
  rw [hb0, if_neg (by omega)] at htk
  refine callV ok_l4letter (spec_l4letter _ _) H fun w H => ?_
  refine ifB (fun c1 => ?_) (fun c1 => ?_)
  · rw [if_pos c1] at htk
    refine loopV (by kernel_rfl) (fun m e w => e 0 = .slice A ps.length c ∧ e 1 = .int .i64 i ∧ ∃ k : Nat, e 9 = .int .i64 k ∧ i + k + m = ps.length ∧ 1 ≤ k ∧ (∀ j, j < k - 1 → nameQ (ps.getD (i + 1 + j) 0) = true) ∧ St W.heap.size W w [.roI (.slice A ps.length c) ps]) (ps.length - i - 1)
      ⟨rfl, rfl, 1, rfl, by omega, by omega, fun j hj => by omega, H⟩ ?_
    rintro m e w ⟨h0, h1, k, h9, hkm, hk1, hall, H⟩
    rw [Env.three h0 h1 h9]
    have hss := sortN_cases (ps.getD (i + k) 0)
    refine cutG (fun e w => e 0 = .slice A ps.length c ∧ e 1 = .int .i64 i ∧ e 9 = .int .i64 k ∧ e 54 = .bool (decide (i + k < ps.length ∧ (sortN (ps.getD (i + k) 0) = 1 ∨ sortN (ps.getD (i + k) 0) = 2))) ∧ St W.heap.size W w [.roI (.slice A ps.length c) ps]) ?_ ?_
    · refine ar64 (by omega) (by omega) ?_
      refine gT (fun c1 => ?_) (fun c1 => ?_)
      · refine ar64 (by omega) (by omega) ?_
        refine idxN (i := i + k) (H.rd 0 rfl) (by omega) fun b off hc => ?_
        refine loadS hc ?_
        refine callV ok_l4letter (spec_l4letter _ _) H fun w H => ?_
        refine gF (fun c6 => ?_) (fun c6 => ?_)
        · refine ar64 (by omega) (by omega) ?_
          refine idxN (i := i + k) (H.rd 0 rfl) (by omega) fun b off hc => ?_
          refine loadS hc ?_
          refine callV ok_l4digit (givesV_of (spec_l4digit _ _)) H fun w H => ?_
          refine gY ?_
          refine ⟨rfl, rfl, rfl, congrArg Value.bool ?_, H⟩
          (try unfold digit)
          (rw [Bool.eq_iff_iff]; simp only [decide_eq_true_eq, Bool.false_eq_true, true_iff, iff_true, false_iff, iff_false]; omega)
        · refine gY ?_
          refine ⟨rfl, rfl, rfl, congrArg Value.bool ?_, H⟩
          (try unfold digit)
          (rw [Bool.eq_iff_iff]; simp only [decide_eq_true_eq, Bool.false_eq_true, true_iff, iff_true, false_iff, iff_false]; omega)
      · refine gNot ?_
        refine gNf ?_
        refine ⟨rfl, rfl, rfl, congrArg Value.bool ?_, H⟩
        (try unfold digit)
        (rw [Bool.eq_iff_iff]; simp only [decide_eq_true_eq, Bool.false_eq_true, true_iff, iff_true, false_iff, iff_false]; omega)
    rintro e w ⟨h0, h1, h9, h54, H⟩
    rw [Env.four h0 h1 h9 h54]
    refine ifB (fun q => ?_) (fun q => ?_)
    · refine arN (by omega) ?_
      refine Exists.intro (m - 1) (And.intro (by omega) (And.intro rfl ⟨rfl, k + 1, rfl, by omega, by omega, fun j hj => ?_, H⟩))
      by_cases hjk : j = k - 1
      · subst hjk; rw [show i + 1 + (k - 1) = i + k by omega]; exact decide_eq_true q.2
      · exact hall j (by omega)
    · refine tok_yes H (by omega) (by omega) (by omega) ?_
      have hsw := scan_w nameQ ps (k - 1) (i + 1) (by omega) hall (fun hh => by rw [show i + 1 + (k - 1) = i + k by omega] at hh ⊢; exact decide_eq_false (fun z => q ⟨hh, z⟩))
      rw [htk, hsw.1, show i + 1 + (k - 1) = i + k by omega]
  rw [if_neg c1] at htk
  refine callV ok_l4runs (spec_l4runs _ _) H fun w H => ?_
  refine ifB (fun c2 => ?_) (fun c2 => ?_)
  · rw [if_pos (by omega)] at htk
    refine loopV (by kernel_rfl) (fun m e w => e 0 = .slice A ps.length c ∧ e 1 = .int .i64 i ∧ ∃ k : Nat, e 9 = .int .i64 k ∧ i + k + m = ps.length ∧ 1 ≤ k ∧ (∀ j, j < k - 1 → rnQ (ps.getD (i + 1 + j) 0) = true) ∧ St W.heap.size W w [.roI (.slice A ps.length c) ps]) (ps.length - i - 1)
      ⟨rfl, rfl, 1, rfl, by omega, by omega, fun j hj => by omega, H⟩ ?_
    rintro m e w ⟨h0, h1, k, h9, hkm, hk1, hall, H⟩
    rw [Env.three h0 h1 h9]
    refine cutG (fun e w => e 0 = .slice A ps.length c ∧ e 1 = .int .i64 i ∧ e 9 = .int .i64 k ∧ e 74 = .bool (decide (i + k < ps.length ∧ (sortN (ps.getD (i + k) 0) = 1 ∨ sortN (ps.getD (i + k) 0) = 2 ∨ sortN (ps.getD (i + k) 0) = 3))) ∧ St W.heap.size W w [.roI (.slice A ps.length c) ps]) ?_ ?_
    · refine ar64 (by omega) (by omega) ?_
      refine gT (fun c1 => ?_) (fun c1 => ?_)
      · refine ar64 (by omega) (by omega) ?_
        refine idxN (i := i + k) (H.rd 0 rfl) (by omega) fun b off hc => ?_
        refine loadS hc ?_
        refine callV ok_l4runs (spec_l4runs _ _) H fun w H => ?_
        refine ⟨rfl, rfl, rfl, congrArg Value.bool ?_, H⟩
        (try unfold rnQ)
        (rw [Bool.eq_iff_iff]; simp only [decide_eq_true_eq, Bool.false_eq_true, true_iff, iff_true, false_iff, iff_false]; omega)
      · refine ⟨rfl, rfl, rfl, congrArg Value.bool ?_, H⟩
        (try unfold rnQ)
        (rw [Bool.eq_iff_iff]; simp only [decide_eq_true_eq, Bool.false_eq_true, true_iff, iff_true, false_iff, iff_false]; omega)
    rintro e w ⟨h0, h1, h9, h74, H⟩
    rw [Env.four h0 h1 h9 h74]
    refine ifB (fun q => ?_) (fun q => ?_)
    · refine arN (by omega) ?_
      refine Exists.intro (m - 1) (And.intro (by omega) (And.intro rfl ⟨rfl, k + 1, rfl, by omega, by omega, fun j hj => ?_, H⟩))
      by_cases hjk : j = k - 1
      · subst hjk; rw [show i + 1 + (k - 1) = i + k by omega]; exact decide_eq_true q.2
      · exact hall j (by omega)
    · have hsw := scan_w rnQ ps (k - 1) (i + 1) (by omega) hall (fun hh => by rw [show i + 1 + (k - 1) = i + k by omega] at hh ⊢; exact decide_eq_false (fun z => q ⟨hh, z⟩))
      rw [show i + 1 + (k - 1) = i + k by omega] at hsw
      have hE : (ps.take (i + k)).drop i = p :: (ps.drop (i + 1)).takeWhile rnQ := by
        rw [hsw.2, List.drop_take, hds, show i + k - i = (k - 1) + 1 by omega]; rfl
      have hbE : byteOK ((ps.take (i + k)).drop i) := by
        rw [hE]
        intro x hx
        rcases List.mem_cons.1 hx with rfl | hx
        · have := rn_bd c2; omega
        · have := rn_bd (of_decide_eq_true (tw_all rnQ _ x hx)); omega
      refine ar64 (by omega) (by omega) ?_
      refine sliceR (l := i) (h := i + k) H 0 rfl rfl (Int.natCast_add i k).symm (by omega) (by omega) fun A2 H => ?_
      refine CallS.mk ok_l4ascii ((spec_l4ascii hbE (by omega) (H.rd 0 rfl)).mono ?_)
      rintro _ w ⟨x, rfl, ho, hb1⟩
      have H := newRow H ho hb1
      obtain ⟨A3, c3, rfl⟩ := own_val (H.own 0 rfl)
      have hlE : ((ps.take (i + k)).drop i).length = k := by rw [List.length_drop, List.length_take]; omega
      refine callV ok_spec_IsNumber (spec_IsNumber hbE (by omega) (H.rd 0 rfl)) H fun w H => ?_
      refine ifNot ?_
      rw [hE] at H ⊢
      rw [hsw.1] at htk
      refine ifO (fun hh => ?_) (fun hh => ?_)
      · rw [if_pos hh] at htk
        exact tok_yes H (by omega) (by omega) (by omega) htk
      · rw [if_neg (by rw [hh]; decide)] at htk
        exact tok_no H htk
  rw [if_neg (by omega)] at htk
  refine RegV.mk ?_
  refine gF (fun c1 => ?_) (fun c1 => ?_)
  · refine ifB (fun c2 => ?_) (fun c2 => ?_)
    · refine CallS.mk ok_l4string ((spec_l4string hbd i hl (by omega) (H.rd 0 rfl)).mono ?_)
      rintro _ w ⟨x, u, k, rfl, ho, hb1, hu, hcase⟩
      have H := newRow H ho hb1
      rw [if_pos (by omega)] at htk
      rcases hcase with ⟨rfl, _, hq⟩ | ⟨hk0, hk1, hq⟩
      · rw [hq] at htk
        exact tok_no H htk
      · rw [hq] at htk
        exact tok_yes H hk0 hk1 (by omega) htk
    · refine RegV.mk ?_
      refine gF (fun c4 => ?_) (fun c4 => ?_)
      · refine arN (by omega) ?_
        refine ifB (fun c6 => ?_) (fun c6 => ?_)
        · rw [if_neg (by omega), if_neg (by omega), if_neg (by rw [List.drop_of_length_le (by omega)]; decide), if_neg (by rw [List.drop_of_length_le (by omega)]; decide)] at htk
          exact tok_no H htk
        · refine arN (by omega) ?_
          refine idxN (H.rd 0 rfl) (by omega) fun b off hc => ?_
          refine loadS hc ?_
          refine ifB (fun c10 => ?_) (fun c10 => ?_)
          · have hd1 : ps.drop (i + 1) = ps.getD (i + 1) 0 :: ps.drop (i + 1 + 1) := drop_cons ps (i + 1) (by omega)
            rw [if_neg (by omega), if_neg (by omega), if_pos (by rw [hd1]; exact c10)] at htk
            refine loopV (by kernel_rfl) (fun m e w => e 0 = .slice A ps.length c ∧ e 1 = .int .i64 i ∧ ∃ k : Nat, e 9 = .int .i64 k ∧ i + k + m = ps.length ∧ 1 ≤ k ∧ (∀ j, j < k - 1 → noEnd (ps.getD (i + 1 + j) 0) = true) ∧ St W.heap.size W w [.roI (.slice A ps.length c) ps]) (ps.length - i - 1)
              ⟨rfl, rfl, 1, rfl, by omega, by omega, fun j hj => by omega, H⟩ ?_
            rintro m e w ⟨h0, h1, k, h9, hkm, hk1, hall, H⟩
            rw [Env.three h0 h1 h9]
            refine cutG (fun e w => e 0 = .slice A ps.length c ∧ e 1 = .int .i64 i ∧ e 9 = .int .i64 k ∧ e 130 = .bool (decide (i + k < ps.length ∧ ¬ (ps.getD (i + k) 0 = 10 ∨ ps.getD (i + k) 0 = 13 ∨ ps.getD (i + k) 0 = 8232 ∨ ps.getD (i + k) 0 = 8233))) ∧ St W.heap.size W w [.roI (.slice A ps.length c) ps]) ?_ ?_
            · refine ar64 (by omega) (by omega) ?_
              refine gT (fun c1 => ?_) (fun c1 => ?_)
              · refine ar64 (by omega) (by omega) ?_
                refine idxN (i := i + k) (H.rd 0 rfl) (by omega) fun b off hc => ?_
                refine loadS hc ?_
                refine callV ok_l4lineEnd (spec_l4lineEnd _ _) H fun w H => ?_
                refine ⟨rfl, rfl, rfl, congrArg Value.bool ?_, H⟩
                first | (rw [Bool.eq_iff_iff]; simp only [Bool.not_eq_true', decide_eq_false_iff_not, decide_eq_true_eq]; omega) | (rw [Bool.eq_iff_iff]; simp only [decide_eq_true_eq, Bool.false_eq_true, true_iff, iff_true, false_iff, iff_false]; omega)
              · refine ⟨rfl, rfl, rfl, congrArg Value.bool ?_, H⟩
                first | (rw [Bool.eq_iff_iff]; simp only [Bool.not_eq_true', decide_eq_false_iff_not, decide_eq_true_eq]; omega) | (rw [Bool.eq_iff_iff]; simp only [decide_eq_true_eq, Bool.false_eq_true, true_iff, iff_true, false_iff, iff_false]; omega)
            rintro e w ⟨h0, h1, h9, h74, H⟩
            rw [Env.four h0 h1 h9 h74]
            refine ifB (fun q => ?_) (fun q => ?_)
            · refine arN (by omega) ?_
              refine Exists.intro (m - 1) (And.intro (by omega) (And.intro rfl ⟨rfl, k + 1, rfl, by omega, by omega, fun j hj => ?_, H⟩))
              by_cases hjk : j = k - 1
              · subst hjk; rw [show i + 1 + (k - 1) = i + k by omega]; unfold noEnd lineE; rw [decide_eq_false q.2]; rfl
              · exact hall j (by omega)
            · refine tok_yes H (by omega) (by omega) (by omega) ?_
              have hsw := scan_w noEnd ps (k - 1) (i + 1) (by omega) hall (fun hh => by rw [show i + 1 + (k - 1) = i + k by omega] at hh ⊢; unfold noEnd lineE; rw [decide_eq_true (Decidable.not_not.1 fun z => q ⟨hh, z⟩)]; rfl)
              rw [htk, ← show i + 1 + (k - 1) = i + k by omega, ← hsw.1, hd1, List.dropWhile_cons]
              rw [if_pos (by rw [c10]; decide)]; rfl
          · have hd1 : ps.drop (i + 1) = ps.getD (i + 1) 0 :: ps.drop (i + 1 + 1) := drop_cons ps (i + 1) (by omega)
            rw [if_neg (by omega), if_neg (by omega), if_neg (by rw [hd1]; exact c10)] at htk
            refine JoinV.mk ?_
            refine arN (by omega) ?_
            refine idxN (i := i + 1) (H.rd 0 rfl) (by omega) fun b off hc => ?_
            refine loadS hc ?_
            refine ifB (fun c3 => ?_) (fun c3 => ?_)
            · refine arN (by omega) ?_
              rw [if_pos (by rw [hd1]; exact c3), hd1, List.drop_one, List.tail_cons] at htk
              refine loopV (by kernel_rfl) (fun m e w => e 0 = .slice A ps.length c ∧ e 1 = .int .i64 i ∧ ∃ k : Nat, e 12 = .int .i64 k ∧ k + m = ps.length ∧ i + 2 ≤ k ∧ endQ (ps.drop (i + 1 + 1)) = endQ (ps.drop k) ∧ St W.heap.size W w [.roI (.slice A ps.length c) ps]) (ps.length - (i + 2))
                ⟨rfl, rfl, i + 2, rfl, by omega, by omega, rfl, H⟩ ?_
              rintro m e w ⟨h0, h1, k, h12, hkm, hk1, hE, H⟩
              rw [Env.three h0 h1 h12]
              refine arN (by omega) ?_
              refine ifB (fun c1 => ?_) (fun c1 => ?_)
              · refine JoinV.mk ?_
                refine RegV.mk ?_
                refine idxN (i := k) (H.rd 0 rfl) (by omega) fun b off hc => ?_
                refine loadS hc ?_
                refine gT (fun c6 => ?_) (fun c6 => ?_)
                · refine arN (by omega) ?_
                  refine idxN (i := k + 1) (H.rd 0 rfl) (by omega) fun b off hc => ?_
                  refine loadS hc ?_
                  refine ifB (fun c10 => ?_) (fun c10 => ?_)
                  · refine arN (by omega) ?_
                    refine ar64 (by omega) (by omega) ?_
                    rw [hE, drop_cons ps k (by omega), drop_cons ps (k + 1) (by omega), endQ_two, if_pos ⟨c6, c10⟩] at htk
                    have e2 : ((k + 2 : Nat) : Int) - i = ((k + 2 - i : Nat) : Int) := by omega
                    have e3 : i + (k + 2 - i) = k + 1 + 1 := by omega
                    rw [← e3] at htk
                    exact Eq.mp (congrArg (fun z => TokR W ps i (.returned (.tuple #[.int .i64 11, .int .i64 z])) _) e2.symm) (tok_yes H (by omega) (by omega) (by omega) htk)
                  · refine arN (by omega) ?_
                    have hE2 : endQ (ps.drop k) = endQ (ps.drop (k + 1)) := by rw [drop_cons ps k (by omega), drop_cons ps (k + 1) (by omega), endQ_two, if_neg (by omega)]
                    exact Exists.intro (m - 1) (And.intro (by omega) (And.intro rfl ⟨rfl, k + 1, rfl, by omega, by omega, hE.trans hE2, H⟩))
                · refine ifF ?_
                  refine arN (by omega) ?_
                  have hE2 : endQ (ps.drop k) = endQ (ps.drop (k + 1)) := by rw [drop_cons ps k (by omega), drop_cons ps (k + 1) (by omega), endQ_two, if_neg (by omega)]
                  exact Exists.intro (m - 1) (And.intro (by omega) (And.intro rfl ⟨rfl, k + 1, rfl, by omega, by omega, hE.trans hE2, H⟩))
              · rw [hE, endQ_short _ (by rw [List.length_drop]; omega)] at htk
                exact tok_no H htk
            · rw [if_neg (by rw [hd1]; exact c3)] at htk
              exact tok_no H htk
      · refine ifT ?_
        rw [if_neg (by omega), if_pos c4] at htk
        exact tok_no H htk
  · refine ifT ?_
    refine CallS.mk ok_l4string ((spec_l4string hbd i hl (by omega) (H.rd 0 rfl)).mono ?_)
    rintro _ w ⟨x, u, k, rfl, ho, hb1, hu, hcase⟩
    have H := newRow H ho hb1
    rw [if_pos (by omega)] at htk
    rcases hcase with ⟨rfl, _, hq⟩ | ⟨hk0, hk1, hq⟩
    · rw [hq] at htk
      exact tok_no H htk
    · rw [hq] at htk
      exact tok_yes H hk0 hk1 (by omega) htk
end Go.Proofs.YtjdgcgmhbhfpkaaDoorE
/- What the laws' own helpers do over lists of whole numbers and of bytes: copied, compared, marked, held. -/
namespace Go.Proofs.YtjdgcgmhbhfpkaaDoorE
open Go Go.RowKit Go.Proofs
set_option linter.unusedVariables false
set_option maxRecDepth 100000
















































































































































theorem ok_toByteS : callOK Tryd.prog 5 = true := by kernel_rfl
theorem laws_toByteS (xs : List Int) (A : Option Addr) (c : Nat) (w : World) (hx : RdB w (.slice A xs.length c) xs) (hl : xs.length ≤ 4294967296) :
    Calls Tryd.prog 5 #[.slice A xs.length c] w fun e w' => ∃ x, e = .returned x ∧ OwnB w' w.heap.size x xs ∧ Below w.heap.size w w' := by
  refine calls_of_vcR (args := [.slice A xs.length c]) Tryd.func5 rfl (by kernel_rfl) (Nat.le_of_ble_eq_true rfl) ?_
  refine msB hl fun x w1 ho hB1 => ?_
  refine loopR (by kernel_rfl) (fun n e w' => (e 0 = .slice A xs.length c ∧ e 3 = x) ∧ ∃ j : Nat, e 4 = .int .i64 j ∧ j + n = xs.length ∧ OwnB w' w.heap.size x (xs.take j ++ (List.replicate xs.length (0 : Int)).drop j) ∧ Below w.heap.size w w') xs.length
    ⟨⟨rfl, rfl⟩, 0, rfl, by omega, by simpa using ho, hB1⟩ ?_
  rintro n e w2 ⟨⟨h0, h3⟩, j, h4, hj, ho, hB⟩
  have hlen : (xs.take j ++ (List.replicate xs.length (0 : Int)).drop j).length = xs.length := by simp; omega
  obtain ⟨A3, c3, hx3⟩ := own_val ho
  rw [hx3] at h3
  rw [Env.three h0 h3 h4]
  refine ifB (fun h => ?_) (fun h => ?_)
  · have hjl : j < xs.length := by omega
    obtain ⟨b, off, hA, hc⟩ := (hx.ext hB).int (i := (j : Int)) (by omega) h
    refine idxS (by omega) (h) hA ?_
    refine loadS hc ?_
    rw [hx3, hlen] at ho
    unfold OwnB at ho
    rw [hlen] at ho
    obtain ⟨b3, off3, hA3, hcell, hfr, hset⟩ := own_store ho (i := j) hjl
    refine IdxS.mk ⟨by omega, by rw [hlen]; exact h, _, _, hA3, ?_⟩
    refine StoreS.mk ⟨hcell, hfr, ⟨fun cs e => (nomatch e), fun cs e => (nomatch e)⟩, ?_⟩
    obtain ⟨ho', hg⟩ := hset (.int .u8 (xs.getD j 0))
    refine Exists.intro (n - 1) (And.intro (by omega) (And.intro ⟨rfl, hx3 ▸ hlen ▸ rfl⟩ ?_))
    refine ⟨j + 1, vI ?_, by omega, ?_, own_below hB hB.size ho hg⟩
    · rw [w64k _ (by omega) (by omega)]; omega
    · have e1 : xs.take (j + 1) ++ (List.replicate xs.length (0 : Int)).drop (j + 1) = (xs.take j ++ (List.replicate xs.length (0 : Int)).drop j).set j (xs.getD j 0) := by
        rw [set_step _ _ _ _ (by simp; omega) (by simpa using hjl), List.take_succ_eq_append_getElem hjl]
        simp [hjl]
      rw [e1, hx3, hlen]
      unfold OwnB
      rw [List.length_set, hlen, List.map_set]
      exact ho'
  · have hjl : j = xs.length := by omega
    subst hjl
    refine Exists.intro x (And.intro ?_ (And.intro ?_ hB))
    · rw [hx3]; rfl
    · simpa using ho
theorem ok_eqByteS : callOK Tryd.prog 8 = true := by kernel_rfl
theorem laws_eqByteS (xs ys : List Int) (A A' : Option Addr) (c c' : Nat) (w : World) (hx : RdB w (.slice A xs.length c) xs) (hy : RdB w (.slice A' ys.length c') ys) (hl : xs.length ≤ 1099511627776) :
    Calls Tryd.prog 8 #[.slice A xs.length c, .slice A' ys.length c'] w fun e w' => e = .returned (.bool (decide (xs = ys))) ∧ Below w.heap.size w w' := by
  refine calls_of_vcR (args := [.slice A xs.length c, .slice A' ys.length c']) Tryd.func8 rfl (by kernel_rfl) (Nat.le_of_ble_eq_true rfl) ?_
  refine CondB.mk ⟨fun h => ?_, fun h => ?_⟩
  · have h : xs.length ≠ ys.length := by simp at h; omega
    exact And.intro (retB (decide_eq_false fun e => h (by rw [e])).symm) (Below.refl _ _)
  · have h : xs.length = ys.length := by simp at h; omega
    refine loopR (by kernel_rfl) (fun n e w' => (e 0 = .slice A xs.length c ∧ e 1 = .slice A' ys.length c') ∧ ∃ j : Nat, e 5 = .int .i64 j ∧ j + n = xs.length ∧ xs.take j = ys.take j ∧ Below w.heap.size w w') xs.length
      ⟨⟨rfl, rfl⟩, 0, rfl, by omega, by simp, Below.refl _ _⟩ ?_
    rintro n e w2 ⟨⟨h0, h1⟩, j, h5, hj, ht, hB⟩
    rw [Env.three h0 h1 h5]
    refine ifB (fun h2 => ?_) (fun h2 => ?_)
    · have hjl : j < xs.length := by omega
      refine DrawS.mk fun w3 hs => ?_
      have hB3 := below_trans hB (hs.below _)
      obtain ⟨b, off, hA, hc⟩ := (hx.ext hB3).int (i := (j : Int)) (by omega) h2
      obtain ⟨b', off', hA', hc'⟩ := (hy.ext hB3).int (i := (j : Int)) (by omega) (by omega)
      refine IdxS.mk ⟨by omega, h2, _, _, hA, ?_⟩
      refine loadS hc ?_
      refine IdxS.mk ⟨by omega, by omega, _, _, hA', ?_⟩
      refine LoadS.mk ⟨_, hc', ?_⟩
      have e1 : xs.take (j + 1) = xs.take j ++ [xs.getD j 0] := by rw [List.take_succ_eq_append_getElem hjl]; simp [hjl]
      have e2 : ys.take (j + 1) = ys.take j ++ [ys.getD j 0] := by rw [List.take_succ_eq_append_getElem (by omega)]; simp [show j < ys.length by omega]
      refine CondB.mk ⟨fun h3 => ?_, fun h3 => ?_⟩
      · have h3 : xs.getD j 0 ≠ ys.getD j 0 := by simpa using h3
        exact And.intro (retB (decide_eq_false fun e => h3 (by rw [e])).symm) hB3
      · have h3 : xs.getD j 0 = ys.getD j 0 := by simpa using h3
        refine Exists.intro (n - 1) (And.intro (by omega) (And.intro ⟨rfl, rfl⟩ ⟨j + 1, vI ?_, by omega, ?_, hB3⟩))
        · rw [w64k _ (by omega) (by omega)]; omega
        · rw [e1, e2, ht, h3]
    · refine And.intro (retB ?_) hB
      have hjl : j = xs.length := by omega
      subst hjl
      rw [List.take_length] at ht
      rw [h, List.take_length] at ht
      exact (decide_eq_true ht).symm
theorem laws_eqByteS_same (xs : List Int) (A A' : Option Addr) (c c' : Nat) (w : World) (hx : RdB w (.slice A xs.length c) xs) (hy : RdB w (.slice A' xs.length c') xs) (hl : xs.length ≤ 1099511627776) :
    Calls Tryd.prog 8 #[.slice A xs.length c, .slice A' xs.length c'] w fun e w' => e = .returned (.bool true) ∧ Below w.heap.size w w' := by
  have h := laws_eqByteS xs xs A A' c c' w hx hy hl
  rw [decide_eq_true rfl] at h
  exact h
theorem ok_markByteS : callOK Tryd.prog 9 = true := by kernel_rfl
theorem laws_markByteS (m : Int) (hm : 0 ≤ m) (xs : List Int) (A : Option Addr) (c B : Nat) (w : World) (ho : OwnB w B (.slice A xs.length c) xs) (hl : m + xs.length ≤ 1099511627776) :
    Calls Tryd.prog 9 #[.slice A xs.length c, .int .i64 m] w fun e w' => e = .returned (.int .i64 (m + xs.length)) ∧ OwnB w' B (.slice A xs.length c) (cnt (· % 256) m xs.length) ∧ w.grownBy w' (Value.slice A xs.length c).ownBlock := by
  refine calls_of_vcR (args := [.slice A xs.length c, .int .i64 m]) Tryd.func9 rfl (by kernel_rfl) (Nat.le_of_ble_eq_true rfl) ?_
  refine loopR (by kernel_rfl) (fun n e w' => e 0 = .slice A xs.length c ∧ ∃ j : Nat, e 5 = .int .i64 j ∧ e 1 = .int .i64 (m + j) ∧ j + n = xs.length ∧ OwnB w' B (.slice A xs.length c) (cnt (· % 256) m j ++ xs.drop j) ∧ w.grownBy w' (Value.slice A xs.length c).ownBlock) xs.length
    ⟨rfl, 0, rfl, vI (by simp), by omega, ho, grown_of_below (Below.refl _ _) _⟩ ?_
  rintro n e w2 ⟨h0, j, h5, h1, hj, ho2, hg2⟩
  have hlen : (cnt (· % 256) m j ++ xs.drop j).length = xs.length := by simp [cnt_len]; omega
  rw [Env.three h0 h5 h1]
  refine ifB (fun h => ?_) (fun h => ?_)
  · have hjl : j < xs.length := by omega
    unfold OwnB at ho2
    rw [hlen] at ho2
    obtain ⟨b3, off3, hA3, hcell, hfr, hset⟩ := own_store ho2 (i := j) hjl
    refine IdxS.mk ⟨by omega, h, _, _, hA3, ?_⟩
    refine StoreS.mk ⟨hcell, hfr, ⟨fun cs e => (nomatch e), fun cs e => (nomatch e)⟩, ?_⟩
    obtain ⟨ho', hg⟩ := hset (.int .u8 (IntKind.u8.wrap (m + j)))
    refine Exists.intro (n - 1) (And.intro (by omega) (And.intro rfl ?_))
    refine ⟨j + 1, vI ?_, vI ?_, by omega, ?_, grown_trans hg2 hg⟩
    · rw [w64k _ (by omega) (by omega)]; omega
    · rw [w64k _ (by omega) (by omega)]; omega
    · have e1 : cnt (· % 256) m (j + 1) ++ xs.drop (j + 1) = (cnt (· % 256) m j ++ xs.drop j).set j ((· % 256) (m + j)) := by
        rw [set_step _ _ _ _ (cnt_len _ _ _) hjl, cnt_snoc]
      rw [e1]
      unfold OwnB
      rw [List.length_set, hlen, List.map_set]
      have e2 : (IntKind.u8.wrap (m + j)) = (· % 256) (m + j) := w8k _
      rw [e2] at ho'
      exact ho'
  · have hjl : j = xs.length := by omega
    subst hjl
    exact And.intro rfl (And.intro (by simpa using ho2) hg2)





























end Go.Proofs.YtjdgcgmhbhfpkaaDoorE
/- What the laws' helpers over bytes come to, as steps of a walk. -/
namespace Go.Proofs.YtjdgcgmhbhfpkaaDoorE
open Go Go.RowKit
set_option linter.unusedVariables false
set_option maxRecDepth 100000

def szI (l k : Int) : Int := if l - k < 0 then -1 else l - k




















theorem set_mid {α : Type} (gs : List α) (x y : α) (r : List α) : (gs ++ x :: r).set gs.length y = (gs ++ [y]) ++ r := by
  rw [List.set_append_right _ _ (Nat.le_refl _)]; simp
theorem markB_call {B : Nat} {W0 w : World} {L : List It} {A : Option Addr} {n c : Nat} {xs : List Int} {m : Int} {K : Value → World → Prop} {X : List PanicEntry → World → Prop} (H : St B W0 w (.rowB (.slice A n c) xs :: L)) (hn : n = xs.length) (hm : 0 ≤ m) (hl : m + xs.length ≤ 1099511627776)
    (k : ∀ w', St B W0 w' (.rowB (.slice A n c) (cnt (· % 256) m xs.length) :: L) → K (.int .i64 (m + xs.length)) w') : CallS Tryd.prog 9 [.slice A n c, .int .i64 m] w K X := by
  subst hn
  refine CallS.mk ok_markByteS ((laws_markByteS m hm xs A c B w (H.own 0 rfl) hl).mono ?_)
  rintro _ w' ⟨rfl, ho, hg⟩
  exact k w' (H.turn 0 rfl hg ho (fun g h => .inl h))



end Go.Proofs.YtjdgcgmhbhfpkaaDoorE
/- What the laws' helpers do with one slice, as steps of a walk. -/
namespace Go.Proofs.YtjdgcgmhbhfpkaaDoorE
open Go Go.RowKit
set_option linter.unusedVariables false
set_option maxRecDepth 100000

theorem ifBeq {b : Bool} {X Y : Prop} (h : X) : CondB (b == b) X Y := ⟨fun _ => h, fun e => by simp at e⟩
theorem ifBnd {p : Prop} [Decidable p] {X Y : Prop} (h : Y) : CondB (!(decide p == decide p)) X Y := ⟨fun e => by simp at e, fun _ => h⟩
theorem eqB2 {xs : List Int} {A A' : Option Addr} {c c' : Nat} {w : World} (hx : RdB w (.slice A xs.length c) xs) (hy : RdB w (.slice A' xs.length c') xs) (hl : xs.length ≤ 1099511627776) : GivesV Tryd.prog 8 [.slice A xs.length c, .slice A' xs.length c'] w (.bool true) :=
  givesV_of ((laws_eqByteS_same _ _ _ _ _ _ hx hy hl).mono fun e w' ⟨h1, h2⟩ => ⟨_, h1, rfl, h2⟩)



end Go.Proofs.YtjdgcgmhbhfpkaaDoorE
/- Rows of tokens, three whole numbers each, and what the laws' helpers do with them. -/
namespace Go.Proofs.YtjdgcgmhbhfpkaaDoorE
open Go Go.RowKit
set_option linter.unusedVariables false
set_option linter.unusedSimpArgs false
set_option maxRecDepth 100000
set_option maxHeartbeats 2000000

abbrev It.rowT (v : Value) (n : Nat) (xs : List Int) : It := .row v 40 3 n (xs.map (.int .i64))
abbrev RdT (w : World) (v : Value) (n : Nat) (xs : List Int) : Prop := Rd w v 3 n (xs.map (.int .i64))
theorem RdT.len {w : World} {v : Value} {n : Nat} {xs : List Int} (h : RdT w v n xs) : xs.length = n * 3 := by
  have := Rd.len h; rw [List.length_map] at this; exact this
theorem idxT {w : World} {A : Option Addr} {n c i : Nat} {xs : List Int} {K : Nat → Nat → Prop} (h : RdT w (.slice A n c) n xs) (h1 : i < n)
    (q : ∀ b off, (∀ j, j < 3 → w.cell? ⟨b, off + (i : Int).toNat * 3 + j, none⟩ = some (.int .i64 (xs.getD (i * 3 + j) 0))) → K b off) : IdxS A n (i : Int) K :=
  idxR h (by omega) (by omega) fun b off hA hc => q b off fun j hj => by
    have hl := h.len
    have : (i : Int).toNat = i := by omega
    rw [hc j hj, this, List.getElem?_map, List.getElem?_eq_getElem (by omega), List.getD_eq_getElem?_getD, List.getElem?_eq_getElem (by omega)]; rfl
theorem ok_eqToken : callOK Tryd.prog 20 = true := by kernel_rfl
theorem laws_eqToken (a b c : Int) (W : World) : GivesV Tryd.prog 20 [.agg #[.int .i64 a, .int .i64 b, .int .i64 c], .agg #[.int .i64 a, .int .i64 b, .int .i64 c]] W (.bool true) := by
  have H := St.enter W
  refine calls_of_vcV (args := [.agg #[.int .i64 a, .int .i64 b, .int .i64 c], .agg #[.int .i64 a, .int .i64 b, .int .i64 c]]) Tryd.func20 rfl (by kernel_rfl) (Nat.le_of_ble_eq_true rfl) ?_
  refine newR (o := .cells #[.int .i64 a, .int .i64 b, .int .i64 c] _) H fun g0 w H => ?_
  refine newR (o := .cells #[.int .i64 a, .int .i64 b, .int .i64 c] _) H fun g1 w H => ?_
  refine loadO H 1 rfl rfl ?_
  refine loadO H 0 rfl rfl ?_
  refine ifB (fun c4 => absurd c4 (by omega)) (fun c4 => ?_)
  refine loadO H 1 rfl rfl ?_
  refine loadO H 0 rfl rfl ?_
  refine ifB (fun c4 => absurd c4 (by omega)) (fun c4 => ?_)
  refine loadO H 1 rfl rfl ?_
  refine loadO H 0 rfl rfl ?_
  refine ifB (fun c4 => absurd c4 (by omega)) (fun c4 => ?_)
  exact Exists.intro _ (And.intro rfl (And.intro rfl H.none))
theorem ok_eqTokenS : callOK Tryd.prog 7 = true := by kernel_rfl
theorem laws_eqTokenS {xs : List Int} {A A' : Option Addr} {n c c' : Nat} {W : World} (hx : RdT W (.slice A n c) n xs) (hy : RdT W (.slice A' n c') n xs) (hl : n ≤ 4294967296) : GivesV Tryd.prog 7 [.slice A n c, .slice A' n c'] W (.bool true) := by
  have H := St.enter W
  refine calls_of_vcV (args := [.slice A n c, .slice A' n c']) Tryd.func7 rfl (by kernel_rfl) (Nat.le_of_ble_eq_true rfl) ?_
  refine ifB (fun c0 => absurd c0 (by omega)) (fun c0 => ?_)
  refine loopV (by kernel_rfl) (fun m e w => e 0 = .slice A n c ∧ e 1 = .slice A' n c' ∧ ∃ j : Nat, e 5 = .int .i64 j ∧ j + m = n ∧ St W.heap.size W w []) n ⟨rfl, rfl, 0, rfl, by omega, H⟩ ?_
  rintro m e w ⟨h0, h1, j, h5, hj, H⟩
  rw [Env.three h0 h1 h5]
  refine ifB (fun h => ?_) (fun h => ?_)
  case refine_2 => exact Exists.intro _ (And.intro rfl (And.intro rfl H.none))
  have hjl : j < n := by omega
  refine JoinV.mk ?_
  refine drawR H fun w H => ?_
  refine idxT (Rd.ext hx H.below) hjl fun b off hc => ?_
  refine loadS (hc 0 (by decide)) ?_
  refine loadS (hc 1 (by decide)) ?_
  refine loadS (hc 2 (by decide)) ?_
  refine idxT (Rd.ext hy H.below) hjl fun b' off' hd => ?_
  refine loadS (hd 0 (by decide)) ?_
  refine loadS (hd 1 (by decide)) ?_
  refine loadS (hd 2 (by decide)) ?_
  refine callV ok_eqToken (laws_eqToken _ _ _ w) H fun w H => ?_
  refine ifNot ?_
  refine ifT ?_
  refine arN (by omega) ?_
  exact Exists.intro (m - 1) (And.intro (by omega) ⟨rfl, rfl, j + 1, rfl, by omega, H⟩)
theorem cntT_step (k : Int) (xs : List Int) (j n : Nat) (hl : xs.length = n * 3) (hj : j < n) : (((((cnt id k (j * 3) ++ xs.drop (j * 3)).map (Value.int .i64)).set (j * 3 + 0) (.int .i64 (k + (j * 3 : Nat)))).set (j * 3 + 1) (.int .i64 (k + (j * 3 : Nat) + 1))).set (j * 3 + 2) (.int .i64 (k + (j * 3 : Nat) + 1 + 1))) = (cnt id k ((j + 1) * 3) ++ xs.drop ((j + 1) * 3)).map (Value.int .i64) := by
  have hc : (cnt id k (j * 3)).length = j * 3 := cnt_len _ _ _
  obtain ⟨a, b, c, r, hr⟩ : ∃ a b c r, xs.drop (j * 3) = a :: b :: c :: r := by
    have h1 : 3 ≤ (xs.drop (j * 3)).length := by rw [List.length_drop]; omega
    match h : xs.drop (j * 3), h1 with
    | a :: b :: c :: r, _ => exact ⟨a, b, c, r, rfl⟩
  have hr2 : xs.drop ((j + 1) * 3) = r := by
    rw [show (j + 1) * 3 = j * 3 + 3 by omega, ← List.drop_drop, hr]; rfl
  rw [hr, hr2, show (j + 1) * 3 = j * 3 + 1 + 1 + 1 by omega, cnt_snoc, cnt_snoc, cnt_snoc]
  simp only [List.map_append, List.map_cons, List.map_nil]
  rw [List.set_append_right _ _ (by rw [List.length_map]; omega), List.set_append_right _ _ (by rw [List.length_map]; omega), List.set_append_right _ _ (by rw [List.length_map]; omega), List.length_map, hc]
  rw [show j * 3 + 0 - j * 3 = 0 by omega, show j * 3 + 1 - j * 3 = 1 by omega, show j * 3 + 2 - j * 3 = 2 by omega]
  simp only [List.set_cons_zero, List.set_cons_succ, List.append_assoc, List.cons_append, List.nil_append, id]
  rw [show k + ((j * 3 + 1 : Nat) : Int) = k + (j * 3 : Nat) + 1 by omega, show k + ((j * 3 + 1 + 1 : Nat) : Int) = k + (j * 3 : Nat) + 1 + 1 by omega]
theorem ok_markTokenS : callOK Tryd.prog 10 = true := by kernel_rfl
theorem laws_markTokenS {xs : List Int} {A : Option Addr} {n c : Nat} {k : Int} (hk : 0 ≤ k) (hb : k + n * 3 ≤ 1099511627776) {B : Nat} {W0 w : World} {L : List It} (H : St B W0 w (.rowT (.slice A n c) n xs :: L)) :
    Calls Tryd.prog 10 #[.slice A n c, .int .i64 k] w fun e w' => e = .returned (.int .i64 (k + (n * 3 : Nat))) ∧ St B W0 w' (.rowT (.slice A n c) n (cnt id k (n * 3)) :: L) := by
  have hl : xs.length = n * 3 := RdT.len (H.rd 0 rfl)
  refine calls_of_vcV (args := [.slice A n c, .int .i64 k]) Tryd.func10 rfl (by kernel_rfl) (Nat.le_of_ble_eq_true rfl) ?_
  refine loopV (by kernel_rfl) (fun m e w => e 0 = .slice A n c ∧ ∃ j : Nat, e 5 = .int .i64 j ∧ e 1 = .int .i64 (k + (j * 3 : Nat)) ∧ j + m = n ∧ St B W0 w (.rowT (.slice A n c) n (cnt id k (j * 3) ++ xs.drop (j * 3)) :: L)) n
    ⟨rfl, 0, rfl, congrArg (Value.int .i64) (by omega), by omega, H⟩ ?_
  rintro m e w ⟨h0, j, h5, h1, hj, H⟩
  rw [Env.three h0 h5 h1]
  refine ifB (fun h => ?_) (fun h => ?_)
  case refine_2 =>
    obtain rfl : j = n := by omega
    rw [List.drop_of_length_le (by omega), List.append_nil] at H
    exact And.intro rfl H
  have hjl : j < n := by omega
  have hst := cntT_step k xs j n hl hjl
  have hk0 : 0 ≤ k + (j * 3 : Nat) ∧ k + (j * 3 : Nat) + 3 ≤ 1099511627776 := by omega
  obtain ⟨k0, hkk⟩ : ∃ k0, k + (j * 3 : Nat) = k0 := ⟨_, rfl⟩
  have hkn : k + ((j + 1) * 3 : Nat) = k0 + 1 + 1 + 1 := by omega
  obtain ⟨b0, rfl, _⟩ := own_cells (H.own 0 rfl) (by omega)
  rw [hkk] at hst hk0 ⊢
  obtain ⟨cs, hcs⟩ : ∃ cs, (cnt id k (j * 3) ++ xs.drop (j * 3)).map (Value.int .i64) = cs := ⟨_, rfl⟩
  rw [hcs] at hst
  have H : St B W0 w (.row (.slice (some ⟨b0, 0, none⟩) n c) 40 3 n cs :: L) := hcs ▸ H
  refine idxRow H 0 rfl (by omega) (by omega) fun b1 hA _ => ?_
  cases hA
  refine storeRowN H 0 rfl (j * 3 + 0) (by show 0 + (j : Int).toNat * 3 = _; omega) (by omega) rfl fun w H => ?_
  have H : St B W0 w (.row (.slice (some ⟨b0, 0, none⟩) n c) 40 3 n (cs.set (j * 3 + 0) (.int .i64 k0)) :: L) := H
  refine ar64 (by omega) (by omega) ?_
  refine idxRow H 0 rfl (by omega) (by omega) fun b1 hA _ => ?_
  cases hA
  refine storeRowN H 0 rfl (j * 3 + 1) (by show 0 + (j : Int).toNat * 3 + 1 = _; omega) (by omega) rfl fun w H => ?_
  have H : St B W0 w (.row (.slice (some ⟨b0, 0, none⟩) n c) 40 3 n ((cs.set (j * 3 + 0) (.int .i64 k0)).set (j * 3 + 1) (.int .i64 (k0 + 1))) :: L) := H
  refine ar64 (by omega) (by omega) ?_
  refine idxRow H 0 rfl (by omega) (by omega) fun b1 hA _ => ?_
  cases hA
  refine storeRowN H 0 rfl (j * 3 + 2) (by show 0 + (j : Int).toNat * 3 + 2 = _; omega) (by omega) rfl fun w H => ?_
  have H : St B W0 w (.row (.slice (some ⟨b0, 0, none⟩) n c) 40 3 n (((cs.set (j * 3 + 0) (.int .i64 k0)).set (j * 3 + 1) (.int .i64 (k0 + 1))).set (j * 3 + 2) (.int .i64 (k0 + 1 + 1))) :: L) := H
  rw [hst] at H
  refine ar64 (by omega) (by omega) ?_
  refine arN (by omega) ?_
  exact Exists.intro (m - 1) (And.intro (by omega) ⟨rfl, j + 1, rfl, congrArg (Value.int .i64) hkn.symm, by omega, H⟩)
theorem ok_heldTokenS : callOK Tryd.prog 11 = true := by kernel_rfl
theorem laws_heldTokenS {A : Option Addr} {n c : Nat} {k : Int} (hk : 0 ≤ k) (hb : k + n * 3 ≤ 1099511627776) {W : World} (hx : RdT W (.slice A n c) n (cnt id k (n * 3))) : GivesV Tryd.prog 11 [.slice A n c, .int .i64 k] W (.int .i64 (k + (n * 3 : Nat))) := by
  have H := St.enter W
  refine calls_of_vcV (args := [.slice A n c, .int .i64 k]) Tryd.func11 rfl (by kernel_rfl) (Nat.le_of_ble_eq_true rfl) ?_
  refine loopV (by kernel_rfl) (fun m e w => e 0 = .slice A n c ∧ ∃ j : Nat, e 5 = .int .i64 j ∧ e 1 = .int .i64 (k + (j * 3 : Nat)) ∧ j + m = n ∧ St W.heap.size W w []) n
    ⟨rfl, 0, rfl, congrArg (Value.int .i64) (by omega), by omega, H⟩ ?_
  rintro m e w ⟨h0, j, h5, h1, hj, H⟩
  rw [Env.three h0 h5 h1]
  refine ifB (fun h => ?_) (fun h => ?_)
  case refine_2 =>
    obtain rfl : j = n := by omega
    exact Exists.intro _ (And.intro rfl (And.intro rfl H.none))
  have hjl : j < n := by omega
  have e0 : (cnt id k (n * 3)).getD (j * 3 + 0) 0 = k + (j * 3 : Nat) := by rw [cnt_get _ _ _ _ (by omega)]; simp
  have e1 : (cnt id k (n * 3)).getD (j * 3 + 1) 0 = k + (j * 3 : Nat) + 1 := by rw [cnt_get _ _ _ _ (by omega)]; simp only [id]; omega
  have e2 : (cnt id k (n * 3)).getD (j * 3 + 2) 0 = k + (j * 3 : Nat) + 1 + 1 := by rw [cnt_get _ _ _ _ (by omega)]; simp only [id]; omega
  obtain ⟨k0, hkk⟩ : ∃ k0, k + (j * 3 : Nat) = k0 := ⟨_, rfl⟩
  have hkn : k + ((j + 1) * 3 : Nat) = k0 + 1 + 1 + 1 := by omega
  rw [hkk] at e0 e1 e2 ⊢
  refine JoinV.mk ?_
  refine idxT (Rd.ext hx H.below) hjl fun b off hc => ?_
  refine loadS (hc 0 (by decide)) ?_
  refine ifB (fun q => absurd q (by omega)) (fun q => ?_)
  refine ar64 (by omega) (by omega) ?_
  refine idxT (Rd.ext hx H.below) hjl fun b off hc => ?_
  refine loadS (hc 1 (by decide)) ?_
  refine ifB (fun q => absurd q (by omega)) (fun q => ?_)
  refine ar64 (by omega) (by omega) ?_
  refine idxT (Rd.ext hx H.below) hjl fun b off hc => ?_
  refine loadS (hc 2 (by decide)) ?_
  refine ifB (fun q => absurd q (by omega)) (fun q => ?_)
  refine ar64 (by omega) (by omega) ?_
  refine arN (by omega) ?_
  exact Exists.intro (m - 1) (And.intro (by omega) ⟨rfl, j + 1, rfl, congrArg (Value.int .i64) hkn.symm, by omega, H⟩)
end Go.Proofs.YtjdgcgmhbhfpkaaDoorE
/- The reference's Lex. -/
namespace Go.Proofs.YtjdgcgmhbhfpkaaDoorE
open Go Go.RowKit Go.Proofs
set_option linter.unusedVariables false
set_option linter.unusedSimpArgs false
set_option maxRecDepth 100000
set_option maxHeartbeats 4000000

theorem undTokens : Tryd.prog.underlying 23 = some (.slice 40) := by kernel_rfl
theorem infToken : (Tryd.prog.info? 40).map (fun i => (i.zero, i.size, i.bytes)) = some (some (.agg #[.int .i64 0, .int .i64 0, .int .i64 0]), 3, 24) := by kernel_rfl
theorem appT {B : Nat} {W0 w : World} {L : List It} {n m : Nat} {v x : Value} {cs ds : List Int} {K : Value → World → Prop} (H : St B W0 w L) (i : Nat) (hi : L[i]? = some (.rowT v n cs)) (hx : RdT w x m ds)
    (hm : n + m ≤ 1099511627776) (k : ∀ A c w', St B W0 w' (L.set i (.rowT (.slice A (n + m) c) (n + m) (cs ++ ds))) → K (.slice A (n + m) c) w') : RunS Tryd.prog (Builtin.append_ #[23, 23] 23 #[v, x]) w K :=
  appRS undTokens infToken rfl (by decide) (by decide) H i hi hx (fun u hu => by obtain ⟨z, _, rfl⟩ := List.mem_map.1 hu; rfl) hm (fun A c w' H' => k A c w' (by
    have e : cs.map (Value.int .i64) ++ ds.map (Value.int .i64) = (cs ++ ds).map (Value.int .i64) := by rw [List.map_append]
    rw [e] at H'; exact H'))
/-- what a lexer hands back -/
def LexR (W : World) (r : List Int × Int × Int) (e : Ending) (w : World) : Prop := ∃ A n c, e = .returned (.tuple #[.slice A n c, .int .i64 r.2.1, .int .i64 r.2.2]) ∧ w.ownsRow W.heap.size 40 3 (.slice A n c) n (r.1.map (.int .i64)) ∧ Below W.heap.size W w
theorem lex_none {W w : World} {L : List It} {a b : Int} (H : St W.heap.size W w L) : LexR W ([], a, b) (.returned (.tuple #[.slice none 0 0, .int .i64 a, .int .i64 b])) w := ⟨none, 0, 0, rfl, World.ownsRow_nil _ _ _ _, H.below⟩
theorem ok_spec_Lex : callOK Tryd.prog 4 = true := by kernel_rfl
theorem spec_Lex {xs : List Int} (hb : byteOK xs) {A : Option Addr} {n c : Nat} (hl : n ≤ 4294967296) {W : World} (hx : Rd W (.slice A n c) 1 n (xs.map (.int .u8))) :
    Calls Tryd.prog 4 #[.slice A n c] W fun e w => LexR W (lexF xs) e w := by
  have H := (St.enter W).ro0 rfl hx
  obtain rfl : n = xs.length := by have := hx.len; simpa using this.symm
  have hlen := decW_len xs hb
  obtain ⟨r, hr⟩ : ∃ r, lexF xs = r := ⟨_, rfl⟩
  rw [hr]
  unfold lexF at hr
  refine calls_of_vcV (args := [.slice A xs.length c]) Tryd.func4 rfl (by kernel_rfl) (Nat.le_of_ble_eq_true rfl) ?_
  refine ifB (fun c0 => ?_) (fun c0 => ?_)
  · rw [if_pos (by omega)] at hr
    subst hr
    exact lex_none H
  rw [if_neg (by omega)] at hr
  have h := spec_DecodeText hb hl hx
  change Calls _ _ _ _ fun e w => ∃ x, e = .returned (.tuple #[x, .int .i64 (decW xs).2.1, .int .i64 (decW xs).2.2]) ∧ OwnI w W.heap.size x (decW xs).1 ∧ Below W.heap.size W w at h
  have hbd := decW_bd hb
  have hat : (decW xs).2.1 = 0 → wdt (decW xs).1 = xs.length := fun h => by
    obtain ⟨qs, hq, ha⟩ := at_of xs hb xs.length 0 [] (by omega) (by omega) h
    have hq : (decW xs).1 = qs := hq
    have := ha.wd hb
    rw [hq]; omega
  obtain ⟨d, hd⟩ : ∃ d, decW xs = d := ⟨_, rfl⟩
  rw [hd] at h hr hlen hbd hat
  refine callRow3 ok_spec_DecodeText h H fun A1 c1 w H => ?_
  refine ifB (fun c2 => ?_) (fun c2 => ?_)
  · rw [if_pos c2] at hr
    subst hr
    exact lex_none H
  rw [if_neg c2] at hr
  have hbd := hbd (by omega)
  have hat := hat (by omega)
  obtain ⟨ps, d2, d3⟩ := d
  simp only at hr hlen hbd hat c2 H
  refine CallS.mk ok_l4offsets ((spec_l4offsets (by omega) (H.rd 0 rfl)).mono ?_)
  rintro _ w ⟨x, rfl, ho, hb1⟩
  have H := newRow H ho hb1
  obtain ⟨A2, k2, rfl⟩ := own_val (H.own 0 rfl)
  have hol := offL_len ps ps.length
  have hLL : (offL ps ps.length).length = ps.length + 1 := hol
  have hog : ∀ j, j ≤ ps.length → (offL ps ps.length).getD j 0 = (xs.length : Int) - wdt (ps.drop j) := fun j hj => by
    rw [offL_get ps ps.length j hj]
    have : wdt ps = wdt (ps.take j) + wdt (ps.drop j) := by rw [← wdt_app, List.take_append_drop]
    omega
  have hwb : ∀ j, wdt (ps.drop j) ≤ xs.length := fun j => by
    have : wdt ps = wdt (ps.take j) + wdt (ps.drop j) := by rw [← wdt_app, List.take_append_drop]
    omega
  obtain ⟨os, hos⟩ : ∃ os, offL ps ps.length = os := ⟨_, rfl⟩
  rw [hos] at H hog hol hLL ⊢
  have hrn := H.rowNil (e := 40) (sz := 3)
  refine loopV (by kernel_rfl) (fun m e w => e 5 = .slice A1 ps.length c1 ∧ e 8 = .slice A2 os.length k2 ∧ ∃ (i f nt : Nat) (acc : List Int) (v : Value), e 9 = v ∧ e 10 = .int .i64 i ∧ i + m = ps.length ∧ nt ≤ i ∧ m < f ∧ lexQ xs.length f (ps.drop i) acc = r ∧ St W.heap.size W w [.rowT v nt acc, .rowI (.slice A2 os.length k2) os, .rowI (.slice A1 ps.length c1) ps, .roB (.slice A xs.length c) xs]) ps.length
    ⟨rfl, rfl, 0, ps.length + 1, 0, [], _, rfl, rfl, by omega, by omega, by omega, hr, hrn⟩ ?_
  rintro m e w ⟨h5, h8, i, f, nt, acc, v, h9, h10, him, hnt, hf, hr, H⟩
  obtain ⟨A3, k3, rfl⟩ := H.mk1 0 rfl
  rw [Env.four h5 h8 h9 h10]
  refine ifB (fun h => ?_) (fun h => ?_)
  case refine_2 =>
    rw [List.drop_of_length_le (by omega), lexQ_nil] at hr
    subst hr
    exact Exists.intro A3 (Exists.intro nt (Exists.intro k3 (And.intro rfl (And.intro (H.own 0 rfl) H.below))))
  have hil : i < ps.length := by omega
  obtain ⟨f, rfl⟩ : ∃ f', f = f' + 1 := ⟨f - 1, by omega⟩
  obtain ⟨p, hp⟩ : ∃ p, ps.getD i 0 = p := ⟨_, rfl⟩
  have hds : ps.drop i = p :: ps.drop (i + 1) := by rw [drop_cons ps i hil, hp]
  have hst : lexQ xs.length (f + 1) (ps.drop i) acc = if blankQ p then lexQ xs.length f (ps.drop (i + 1)) acc else
      match tokQ (ps.drop i) with
      | none => ([], 3, (xs.length : Int) - wdt (ps.drop i))
      | some (k, r') => lexQ xs.length f r' (acc ++ [k, (xs.length : Int) - wdt (ps.drop i), (wdt (ps.drop i) : Int) - wdt r']) := by rw [hds]; rfl
  rw [hst] at hr
  refine idxP hp (H.rd 2 rfl) (by omega) fun b off hc => ?_
  refine loadS hc ?_
  refine callV ok_l4blank (spec_l4blank _ _) H fun w H => ?_
  refine ifO (fun hh => ?_) (fun hh => ?_)
  · rw [if_pos hh] at hr
    refine arN (by omega) ?_
    exact Exists.intro (m - 1) (And.intro (by omega) ⟨rfl, rfl, i + 1, f, nt, acc, _, rfl, rfl, by omega, by omega, by omega, hr, H⟩)
  · rw [if_neg (by rw [hh]; decide)] at hr
    refine CallS.mk ok_l4token ((spec_l4token hbd i (by omega) hil (H.rd 2 rfl)).mono ?_)
    rintro _ w ⟨k, q, rfl, hb1, hcase⟩
    have H : St W.heap.size W w ([] ++ [.rowT (.slice A3 nt k3) nt acc, .rowI (.slice A2 os.length k2) os, .rowI (.slice A1 ps.length c1) ps, .roB (.slice A xs.length c) xs]) := H.joinS (St.ofBelow hb1) rfl
    have H : St W.heap.size W w [.rowT (.slice A3 nt k3) nt acc, .rowI (.slice A2 os.length k2) os, .rowI (.slice A1 ps.length c1) ps, .roB (.slice A xs.length c) xs] := H
    have hw1 := hwb i
    have hog1 := hog i (by omega)
    rcases hcase with ⟨rfl, hq⟩ | ⟨hq0, hq1, hk0, hk1, hq⟩
    · rw [hq] at hr
      refine ifB (fun z => ?_) (fun z => absurd rfl z)
      refine drawR H fun w H => ?_
      refine idxN (i := i) (H.rd 1 rfl) (by omega) fun b off hc => ?_
      refine loadS hc ?_
      have hr : (([] : List Int), (3 : Int), (xs.length : Int) - wdt (ps.drop i)) = r := hr
      rw [← hog1] at hr
      subst hr
      exact lex_none H
    · rw [hq] at hr
      have hw2 := hwb (i + q)
      have hog2 := hog (i + q) (by omega)
      refine ifB (fun z => absurd z (by omega)) (fun z => ?_)
      refine regG [17, 18, 19] [] [5, 11, 15] [0, 1, 2, 3, 4, 5, 6, 7, 8, 9, 10, 11, 12, 13, 14, 15, 16, 17, 18, 19, 20] (by kernel_rfl) ?_
      refine drawR H fun w H => ?_
      refine idxN (i := i) (H.rd 1 rfl) (by omega) fun b off hc => ?_
      refine loadS hc ?_
      refine ar64 (by omega) (by omega) ?_
      refine idxN (i := i + q) (H.rd 1 rfl) (by omega) fun b off hc => ?_
      refine loadS hc ?_
      refine idxN (i := i) (H.rd 1 rfl) (by omega) fun b off hc => ?_
      refine loadS hc ?_
      refine ar64 (by omega) (by omega) ?_
      refine RunS.mk ⟨.agg #[.int .i64 k, .int .i64 (os.getD i 0), .int .i64 (os.getD (i + q) 0 - os.getD i 0)], w, by kernel_rfl, ?_⟩
      have hr : lexQ xs.length f (ps.drop (i + q)) (acc ++ [k, (xs.length : Int) - wdt (ps.drop i), (wdt (ps.drop i) : Int) - wdt (ps.drop (i + q))]) = r := hr
      rw [show (wdt (ps.drop i) : Int) - wdt (ps.drop (i + q)) = os.getD (i + q) 0 - os.getD i 0 by omega, ← hog1] at hr
      refine litR (e := 40) (sz := 3) (n := 1) (cs := [.int .i64 k, .int .i64 (os.getD i 0), .int .i64 (os.getD (i + q) 0 - os.getD i 0)]) H rfl (by decide) (by kernel_rfl) fun A4 k4 w H => ?_
      have H : St W.heap.size W w [.rowT (.slice A4 1 k4) 1 [k, os.getD i 0, os.getD (i + q) 0 - os.getD i 0], .rowT (.slice A3 nt k3) nt acc, .rowI (.slice A2 os.length k2) os, .rowI (.slice A1 ps.length c1) ps, .roB (.slice A xs.length c) xs] := H
      refine appT (m := 1) H 1 rfl (H.rd 0 rfl) (by omega) fun A5 k5 w H => ?_
      refine ar64 (by omega) (by omega) ?_
      exact Exists.intro (m - q) (And.intro (by omega) ⟨rfl, rfl, i + q, f, nt + 1, _, _, rfl, rfl, by omega, by omega, by omega, hr, H.sub [1, 2, 3, 4] (by decide)⟩)
end Go.Proofs.YtjdgcgmhbhfpkaaDoorE
/- A token leaves fewer points than there were. No program stands here. -/
namespace Go.Proofs.YtjdgcgmhbhfpkaaDoorE
open Go Go.RowKit
set_option linter.unusedVariables false
set_option maxRecDepth 100000

theorem strQ_short (q : Int) : ∀ (f : Nat) (qs acc u r : List Int), strQ q f qs acc = some (u, r) → r.length < qs.length
  | 0, qs, acc, u, r, h => by simp [strQ] at h
  | f + 1, [], acc, u, r, h => by simp [strQ] at h
  | f + 1, c :: t, acc, u, r, h => by
    rw [strQ_cons] at h
    split at h
    · cases h; simp
    · split at h
      · cases h
      · split at h
        · cases he : escQ t with
          | none => rw [he] at h; cases h
          | some x =>
            rw [he] at h
            have h1 := strQ_short q f _ _ u r h
            have h2 := escQ_len (u := x.1) (r := x.2) he
            simp only [List.length_cons]; omega
        · have h1 := strQ_short q f _ _ u r h
          simp only [List.length_cons]; omega
theorem quotedQ_short {qs u r : List Int} (h : quotedQ qs = some (u, r)) : r.length + 1 < qs.length := by
  cases qs with
  | nil => simp [quotedQ] at h
  | cons q t =>
    change (if q = 34 ∨ q = 39 then strQ q (t.length + 1) t [] else none) = some (u, r) at h
    split at h
    · have := strQ_short q _ _ _ u r h
      simp only [List.length_cons]; omega
    · cases h
theorem tokQ_short {c k : Int} {t r : List Int} (h : tokQ (c :: t) = some (k, r)) : r.length ≤ t.length ∧ 0 ≤ k ∧ k ≤ 11 := by
  have dw : ∀ (f : Int → Bool) (l : List Int), (l.dropWhile f).length ≤ l.length := fun f l => by
    obtain ⟨j, h1, h2, _⟩ := dropWhile_drop f l
    rw [h2, List.length_drop]; omega
  have bq : 0 ≤ braceQ c ∧ braceQ c ≤ 6 := by
    unfold braceQ
    repeat' split
    all_goals omega
  rw [tokQ_cons] at h
  split at h
  · cases h; exact ⟨Nat.le_refl _, by omega, by omega⟩
  split at h
  · cases h; exact ⟨dw _ _, by decide, by decide⟩
  split at h
  · split at h
    · cases h; exact ⟨dw _ _, by decide, by decide⟩
    · cases h
  split at h
  · cases hq : quotedQ (c :: t) with
    | none => rw [hq] at h; cases h
    | some x =>
      rw [hq] at h
      cases h
      have := quotedQ_short (u := x.1) (r := x.2) hq
      simp only [List.length_cons] at this
      exact ⟨by omega, by decide, by decide⟩
  split at h
  · cases h
  split at h
  · cases h
    have := dw noEnd (t.drop 1)
    rw [List.length_drop] at this
    exact ⟨by omega, by decide, by decide⟩
  split at h
  · cases hq : endQ (t.drop 1) with
    | none => rw [hq] at h; cases h
    | some x =>
      rw [hq] at h
      cases h
      obtain ⟨j, h1, h2, h3⟩ := endQ_drop hq
      rw [h3, List.length_drop, List.length_drop]
      exact ⟨by omega, by decide, by decide⟩
  · cases h
end Go.Proofs.YtjdgcgmhbhfpkaaDoorE
/- The program's Lex. -/
namespace Go.Proofs.YtjdgcgmhbhfpkaaDoorE
open Go Go.RowKit Go.Proofs
set_option linter.unusedVariables false
set_option linter.unusedSimpArgs false
set_option maxRecDepth 100000
set_option maxHeartbeats 4000000

theorem lexQ_step (L f : Nat) (c : Int) (r acc : List Int) : lexQ L (f + 1) (c :: r) acc = if blankQ c then lexQ L f r acc else match tokQ (c :: r) with
    | none => ([], 3, (L : Int) - wdt (c :: r))
    | some (k, r') => lexQ L f r' (acc ++ [k, (L : Int) - wdt (c :: r), (wdt (c :: r) : Int) - wdt r']) := rfl
theorem ok_impl_Lex : callOK Tryd.prog 6 = true := by kernel_rfl
theorem impl_Lex {xs : List Int} (hb : byteOK xs) {A : Option Addr} {n c : Nat} (hl : n ≤ 4294967296) {W : World} (hx : Rd W (.slice A n c) 1 n (xs.map (.int .u8))) (hM : MaxL W) :
    Calls Tryd.prog 6 #[.slice A n c] W fun e w => LexR W (lexF xs) e w := by
  have H := (St.enter W).ro0 rfl hx
  obtain rfl : n = xs.length := by have := hx.len; simpa using this.symm
  have hlen := decW_len xs hb
  obtain ⟨r, hr⟩ : ∃ r, lexF xs = r := ⟨_, rfl⟩
  rw [hr]
  unfold lexF at hr
  refine calls_of_vcV (args := [.slice A xs.length c]) Tryd.func6 rfl (by kernel_rfl) (Nat.le_of_ble_eq_true rfl) ?_
  refine ifB (fun c0 => ?_) (fun c0 => ?_)
  · rw [if_pos (by omega)] at hr
    subst hr
    exact lex_none H
  rw [if_neg (by omega)] at hr
  have h := impl_DecodeText hb hl hx
  change Calls _ _ _ _ fun e w => ∃ x, e = .returned (.tuple #[x, .int .i64 (decW xs).2.1, .int .i64 (decW xs).2.2]) ∧ OwnI w W.heap.size x (decW xs).1 ∧ Below W.heap.size W w at h
  have hat : (decW xs).2.1 = 0 → ∃ qs, (decW xs).1 = qs ∧ At xs 0 qs := fun h => by
    obtain ⟨qs, hq, ha⟩ := at_of xs hb xs.length 0 [] (by omega) (by omega) h
    exact ⟨qs, hq, ha⟩
  obtain ⟨d, hd⟩ : ∃ d, decW xs = d := ⟨_, rfl⟩
  rw [hd] at h hr hlen hat
  refine callRow3 ok_impl_DecodeText h H fun A1 c1 w H => ?_
  refine ifB (fun c2 => ?_) (fun c2 => ?_)
  · rw [if_pos c2] at hr
    subst hr
    exact lex_none H
  rw [if_neg c2] at hr
  obtain ⟨qs, hq, ha⟩ := hat (by omega)
  obtain ⟨ps, d2, d3⟩ := d
  simp only at hr hlen hq c2 H
  subst hq
  conv => whnf
  refine ⟨.agg #[.slice A xs.length c, .int .i64 0], w, by kernel_rfl, ?_⟩
  conv => whnf
  refine newR H fun g w H => ?_
  have H : St W.heap.size W w [scO g (.slice A xs.length c) (0 : Nat), .rowI (.slice A1 ps.length c1) ps, txt (.slice A xs.length c) xs.length xs] := H
  have H : St W.heap.size W w [scO g (.slice A xs.length c) (0 : Nat), txt (.slice A xs.length c) xs.length xs] := H.sub [0, 2] (by decide)
  refine callU ok_peek (impl_peek hb hl ha H) fun w H => ?_
  have hrn := H.rowNil (e := 40) (sz := 3)
  have hrn : St W.heap.size W w [.rowT (.slice none 0 0) 0 [], scO g (.slice A xs.length c) (0 : Nat), txt (.slice A xs.length c) xs.length xs] := hrn
  have hrn := hrn.sub [1, 2, 0] (by decide)
  refine loopV (by kernel_rfl) (fun m e w => e 9 = .pointer (some ⟨g, 0, none⟩) ∧ ∃ (i f nt : Nat) (qs acc : List Int) (v : Value), e 8 = v ∧ e 10 = .int .i32 (headP qs) ∧ e 11 = .int .i64 (headN xs i qs) ∧ qs.length = m ∧ nt + m ≤ ps.length ∧ m < f ∧ At xs i qs ∧ lexQ xs.length f qs acc = r ∧ St W.heap.size W w [scO g (.slice A xs.length c) i, txt (.slice A xs.length c) xs.length xs, .rowT v nt acc]) ps.length
    ⟨rfl, 0, ps.length + 1, 0, ps, [], _, rfl, rfl, rfl, rfl, by omega, by omega, ha, hr, hrn⟩ ?_
  rintro m e w ⟨h9, i, f, nt, qs, acc, v, h8, h10, h11, hm, hnt, hf, ha, hr, H⟩
  obtain ⟨A3, k3, rfl⟩ := H.mk1 2 rfl
  rw [Env.four h9 h8 h10 h11]
  have hbd := headN_bd hb ha
  have hpb := ha.bd hb
  have hwd := ha.wd hb
  refine ifB (fun h => ?_) (fun h => ?_)
  case refine_2 =>
    cases qs with
    | cons p t => have := hpb p (by simp); exact absurd (show p ≥ 0 by omega) h
    | nil =>
      rw [lexQ_nil] at hr
      subst hr
      exact Exists.intro A3 (Exists.intro nt (Exists.intro k3 (And.intro rfl (And.intro (H.own 2 rfl) H.below))))
  obtain ⟨p, t, rfl⟩ : ∃ p t, qs = p :: t := by
    cases qs with
    | nil => exact absurd h (by decide)
    | cons p t => exact ⟨p, t, rfl⟩
  obtain ⟨f, rfl⟩ : ∃ f', f = f' + 1 := ⟨f - 1, by omega⟩
  rw [lexQ_step] at hr
  simp only [List.length_cons] at hm
  refine JoinV.mk ?_
  refine callV ok_blank (impl_blank _ _) H fun w H => ?_
  refine ifO (fun hh => ?_) (fun hh => ?_)
  · have hh : blankQ p = true := hh
    rw [if_pos hh] at hr
    refine loadO H 0 rfl rfl ?_
    refine ar64 (by omega) (by omega) ?_
    refine storeO H 0 rfl rfl rfl fun w H => ?_
    have H : St W.heap.size W w [scO g (.slice A xs.length c) (i + headN xs i (p :: t)), txt (.slice A xs.length c) xs.length xs, .rowT (.slice A3 nt k3) nt acc] := H
    obtain ⟨i2, ha2, HH⟩ := advO hb ha H
    refine callU ok_peek (impl_peek hb hl ha2 HH) fun w H => ?_
    exact Exists.intro (m - 1) (And.intro (by omega) ⟨rfl, i2, f, nt, t, acc, _, rfl, rfl, rfl, by omega, by omega, by omega, ha2, hr, H⟩)
  have hh : blankQ p = false := hh
  rw [if_neg (by rw [hh]; decide)] at hr
  refine loadO H 0 rfl rfl ?_
  refine CallS.mk ok_token ((impl_token hb (by omega) ha hM hM.lt H).mono ?_)
  rintro _ w ⟨k, b, i2, r2, rfl, htk, ha2, H⟩
  rw [htk] at hr
  cases b with
  | false =>
    refine ifNot ?_
    refine ifF ?_
    have hr : (([] : List Int), (3 : Int), (xs.length : Int) - wdt (p :: t)) = r := hr
    rw [show (xs.length : Int) - wdt (p :: t) = i by omega] at hr
    subst hr
    exact lex_none H
  | true =>
    have ha2 := ha2 rfl
    have hwd2 := ha2.wd hb
    have hsh := tokQ_short htk
    refine ifNot ?_
    refine ifT ?_
    have hr : lexQ xs.length f r2 (acc ++ [k, (xs.length : Int) - wdt (p :: t), (wdt (p :: t) : Int) - wdt r2]) = r := hr
    rw [show (xs.length : Int) - wdt (p :: t) = i by omega, show (wdt (p :: t) : Int) - wdt r2 = i2 - i by omega] at hr
    refine loadO H 0 rfl rfl ?_
    refine ar64 (by omega) (by omega) ?_
    refine RunS.mk ⟨.agg #[.int .i64 k, .int .i64 i, .int .i64 (i2 - i)], w, by kernel_rfl, ?_⟩
    refine litR (e := 40) (sz := 3) (n := 1) (cs := [.int .i64 k, .int .i64 i, .int .i64 (i2 - i)]) H rfl (by decide) (by kernel_rfl) fun A4 k4 w H => ?_
    have H : St W.heap.size W w [.rowT (.slice A4 1 k4) 1 [k, i, i2 - i], scO g (.slice A xs.length c) i2, txt (.slice A xs.length c) xs.length xs, .rowT (.slice A3 nt k3) nt acc] := H
    refine appT (m := 1) H 3 rfl (H.rd 0 rfl) (by omega) fun A5 k5 w H => ?_
    have H : St W.heap.size W w [.rowT (.slice A4 1 k4) 1 [k, i, i2 - i], scO g (.slice A xs.length c) i2, txt (.slice A xs.length c) xs.length xs, .rowT (.slice A5 (nt + 1) k5) (nt + 1) (acc ++ [k, i, i2 - i])] := H
    have H := H.sub [1, 2, 3] (by decide)
    refine callU ok_peek (impl_peek hb hl ha2 H) fun w H => ?_
    exact Exists.intro r2.length (And.intro (by omega) ⟨rfl, i2, f, nt + 1, r2, _, _, rfl, rfl, rfl, rfl, by omega, by omega, ha2, hr, H⟩)
end Go.Proofs.YtjdgcgmhbhfpkaaDoorE/- The law FnExactLex: at every text of at most 2^20 bytes the program's Lex and the reference's answer the same; the argument is left alone and the answer owns its memory. -/
namespace Go.Proofs.YtjdgcgmhbhfpkaaDoorE
open Go Go.RowKit Go.Proofs
set_option linter.unusedVariables false
set_option maxRecDepth 100000
set_option maxHeartbeats 4000000

theorem lexQ_len (L : Nat) : ∀ (f : Nat) (qs acc : List Int), (lexQ L f qs acc).1.length ≤ acc.length + 3 * qs.length
  | 0, qs, acc => by simp only [lexQ]; omega
  | f + 1, [], acc => by simp only [lexQ, List.length_nil]; omega
  | f + 1, c :: t, acc => by
    rw [lexQ_step]
    split
    · have := lexQ_len L f t acc
      simp only [List.length_cons]; omega
    · cases h : tokQ (c :: t) with
      | none => simp only [List.length_nil]; omega
      | some x =>
        obtain ⟨k, r⟩ := x
        have h1 := lexQ_len L f r (acc ++ [k, (L : Int) - wdt (c :: t), (wdt (c :: t) : Int) - wdt r])
        have h2 := tokQ_short h
        simp only [List.length_append, List.length_cons, List.length_nil] at h1 ⊢
        omega
theorem lexF_len {xs : List Int} (hb : byteOK xs) : (lexF xs).1.length ≤ 12000 := by
  unfold lexF
  split
  · exact Nat.zero_le _
  · split
    · exact Nat.zero_le _
    · have h1 := lexQ_len xs.length ((decW xs).1.length + 1) (decW xs).1 []
      have h2 := decW_len xs hb
      simp only [List.length_nil] at h1
      omega
theorem law_Lex {xs : List Int} {A : Option Addr} {c : Nat} {W : World} (hx : RdB W (.slice A xs.length c) xs) (hb : byteOK xs) (hM : MaxL W) :
    Calls Tryd.prog 3 #[.slice A xs.length c] W fun e w => e = .returned (.bool true) ∧ Below W.heap.size W w := by
  have H := (St.enter W).ro0 rfl hx
  obtain ⟨r, hr⟩ : ∃ r, lexF xs = r := ⟨_, rfl⟩
  have hrl := lexF_len hb
  have spC : ∀ {w : World} {A c}, xs.length ≤ 1048576 → RdB w (.slice A xs.length c) xs → Calls Tryd.prog 4 #[.slice A xs.length c] w fun e w' => LexR w r e w' := fun h h2 => hr ▸ spec_Lex hb (by omega) h2
  have imC : ∀ {w : World} {A c}, xs.length ≤ 1048576 → Below W.heap.size W w → RdB w (.slice A xs.length c) xs → Calls Tryd.prog 6 #[.slice A xs.length c] w fun e w' => LexR w r e w' := fun h hB h2 => hr ▸ impl_Lex hb (by omega) h2 (hM.ext hB)
  rw [hr] at hrl
  clear hr
  refine calls_of_vcV (args := [.slice A xs.length c]) Tryd.func3 rfl (by kernel_rfl) (Nat.le_of_ble_eq_true rfl) ?_
  refine ifB (fun h => And.intro rfl H.below) fun h => ?_
  have hl : xs.length ≤ 1048576 := by omega
  refine callRow ok_toByteS (laws_toByteS xs A c _ (H.rd 0 rfl) (by omega)) H fun A1 c1 w H => ?_
  refine CallS.mk ok_spec_Lex ((spC hl (H.rd 0 rfl)).mono ?_)
  rintro _ w ⟨A2, n, c2, rfl, ho, hb1⟩
  have H := newRow H ho hb1
  have hn : r.1.length = n * 3 := RdT.len (H.rd 0 rfl)
  refine callRow ok_toByteS (laws_toByteS xs A c _ (H.rd 2 rfl) (by omega)) H fun A3 c3 w H => ?_
  refine CallS.mk ok_impl_Lex ((imC hl H.below (H.rd 0 rfl)).mono ?_)
  rintro _ w ⟨A4, n4, c4, rfl, ho4, hb4⟩
  have H := newRow H ho4 hb4
  have hn4 : r.1.length = n4 * 3 := RdT.len (H.rd 0 rfl)
  obtain rfl : n4 = n := by omega
  have H : St W.heap.size W w [.rowT (.slice A4 n4 c4) n4 r.1, .rowB (.slice A3 xs.length c3) xs, .rowT (.slice A2 n4 c2) n4 r.1, .rowB (.slice A1 xs.length c1) xs, .roB (.slice A xs.length c) xs] := H
  refine RegV.mk ?_
  refine callV ok_eqTokenS (laws_eqTokenS (H.rd 0 rfl) (H.rd 2 rfl) (by omega)) H fun w H => ?_
  refine gNot ?_
  refine gY ?_
  refine gF (fun _ => ?_) (fun h => absurd rfl h)
  refine ifB (fun h => absurd rfl h) (fun _ => ?_)
  refine callRow ok_toByteS (laws_toByteS xs A c _ (H.rd 4 rfl) (by omega)) H fun A5 c5 w H => ?_
  refine CallS.mk ok_eqByteS ((laws_eqByteS_same xs A3 A5 c3 c5 _ (H.rd 2 rfl) (H.rd 0 rfl) (by omega)).mono ?_)
  rintro _ w ⟨rfl, hb5⟩
  have H := H.ext hb5
  repeat first | refine gNot ?_ | refine ifNot ?_ | refine gY ?_ | refine gNe ?_ | refine ifNe ?_ | refine ifF ?_ | refine ifT ?_ | refine RegV.mk ?_
  have H : St W.heap.size W w [.rowB (.slice A3 xs.length c3) xs, .rowT (.slice A4 n4 c4) n4 r.1, .rowT (.slice A2 n4 c2) n4 r.1, .roB (.slice A xs.length c) xs] := H.sub [2, 1, 3, 5] (by decide)
  refine markB_call H rfl (by decide) (by omega) fun w H => ?_
  refine RegV.mk ?_
  refine gF (fun _ => ?_) (fun h => absurd h (by omega))
  refine callV ok_eqTokenS (laws_eqTokenS (H.rd 1 rfl) (H.rd 2 rfl) (by omega)) H fun w H => ?_
  refine gNot ?_
  refine gY ?_
  refine gF (fun _ => ?_) (fun h => absurd rfl h)
  refine ifB (fun h => absurd rfl h) (fun _ => ?_)
  have H : St W.heap.size W w [.rowT (.slice A4 n4 c4) n4 r.1, .rowT (.slice A2 n4 c2) n4 r.1, .roB (.slice A xs.length c) xs] := H.sub [1, 2, 3] (by decide)
  refine CallS.mk ok_markTokenS ((laws_markTokenS (by decide) (by omega) H).mono ?_)
  rintro _ w ⟨rfl, H⟩
  refine callV ok_heldTokenS (laws_heldTokenS (by decide) (by omega) (H.rd 0 rfl)) H fun w H => ?_
  refine ifB (fun h => absurd h (by omega)) fun _ => ?_
  refine ifB (fun h => absurd rfl h) (fun _ => ?_)
  refine callRow ok_toByteS (laws_toByteS xs A c _ (H.rd 2 rfl) (by omega)) H fun A6 c6 w H => ?_
  refine CallS.mk ok_impl_Lex ((imC hl H.below (H.rd 0 rfl)).mono ?_)
  rintro _ w ⟨A7, n7, c7, rfl, ho7, hb7⟩
  have H := newRow H ho7 hb7
  have hn7 : r.1.length = n7 * 3 := RdT.len (H.rd 0 rfl)
  have e7 : n7 = n4 := by omega
  subst e7
  have H : St W.heap.size W w [.rowT (.slice A7 n7 c7) n7 r.1, .rowB (.slice A6 xs.length c6) xs, .rowT (.slice A4 n7 c4) n7 (cnt id 1 (n7 * 3)), .rowT (.slice A2 n7 c2) n7 r.1, .roB (.slice A xs.length c) xs] := H
  refine RegV.mk ?_
  refine callV ok_eqTokenS (laws_eqTokenS (H.rd 0 rfl) (H.rd 3 rfl) (by omega)) H fun w H => ?_
  refine gNot ?_
  refine gY ?_
  refine gF (fun _ => ?_) (fun h => absurd rfl h)
  refine ifB (fun h => absurd rfl h) (fun _ => ?_)
  refine callV ok_heldTokenS (laws_heldTokenS (by decide) (by omega) (H.rd 2 rfl)) H fun w H => ?_
  refine ifB (fun h => absurd h (by omega)) fun _ => ?_
  refine ifB (fun h => absurd rfl h) (fun _ => ?_)
  exact And.intro rfl H.below
end Go.Proofs.YtjdgcgmhbhfpkaaDoorE
