/- bytes.Contains by the library's shelf: its closure laid at this program, and as a step of a walk. -/
import Derived.Test.YtpaklalfopfilaaStripCommentsQ1
import Derived.Test.YtpaklalfopfilaaTByt
import Derived.Test.YtpaklalfopfilaaTFine
import Derived.Test.YtpaklalfopfilaaTPts
import Derived.Test.YtpaklalfopfilaaPrim
import Derived.Test.YtpaklalfopfilaaPText
import Derived.Test.YtpaklalfopfilaaEngG
import Derived.Test.YtpaklalfopfilaaPrim3
import Derived.Test.YtpaklalfopfilaaTRow
import Derived.Test.YtpaklalfopfilaaPrim4
import Derived.Shelf.Bytes.SlIndexWhole
import Derived.Shelf.Vars
import Derived.HandedShaped
namespace Go.Proofs.YtpaklalfopfilaaE
open Go Go.RowKit
set_option linter.unusedVariables false
set_option maxRecDepth 100000

def laysC186_ren : Go.Shelf.Ren := ⟨fun | 186 => 115 | 185 => 135 | 187 => 89 | 115 => 145 | 253 => 146 | 224 => 147 | 254 => 148 | 255 => 126 | 291 => 150 | n => n, fun | 37 => 35 | 4 => 4 | 3 => 3 | 0 => 0 | 5 => 5 | 46 => 206 | 9 => 9 | 146 => 210 | 51 => 209 | n => n, fun | 1 => 0 | n => n⟩
theorem laysC186 : Go.Proofs.Lays.n186 Try.prog laysC186_ren where
  mixed := by kernel_rfl
  f115 := Try.func145.trans (congrArg some (by kernel_rfl))
  f185 := Try.func135.trans (congrArg some (by kernel_rfl))
  f186 := Try.func115.trans (congrArg some (by kernel_rfl))
  f187 := Try.func89.trans (congrArg some (by kernel_rfl))
  f224 := Try.func147.trans (congrArg some (by kernel_rfl))
  f253 := Try.func146.trans (congrArg some (by kernel_rfl))
  f254 := Try.func148.trans (congrArg some (by kernel_rfl))
  f255 := Try.func126.trans (congrArg some (by kernel_rfl))
  f291 := Try.func150.trans (congrArg some (by kernel_rfl))
  t0 := Try.underlying0
  a0 := Try.isAgg0
  z0 := Try.sizeOf0
  v0 := Try.zeroValue0
  t3 := Try.underlying3
  a3 := Try.isAgg3
  z3 := Try.sizeOf3
  v3 := Try.zeroValue3
  t4 := Try.underlying4
  a4 := Try.isAgg4
  z4 := Try.sizeOf4
  v4 := Try.zeroValue4
  t5 := Try.underlying5
  a5 := Try.isAgg5
  z5 := Try.sizeOf5
  v5 := Try.zeroValue5
  t9 := Try.underlying9
  a9 := Try.isAgg9
  z9 := Try.sizeOf9
  v9 := Try.zeroValue9
  t37 := Try.underlying35
  a37 := Try.isAgg35
  z37 := Try.sizeOf35
  v37 := Try.zeroValue35
  t46 := Try.underlying206
  a46 := Try.isAgg206
  z46 := Try.sizeOf206
  v46 := Try.zeroValue206
  t51 := Try.underlying209
  a51 := Try.isAgg209
  z51 := Try.sizeOf209
  v51 := Try.zeroValue209
  t146 := Try.underlying210
  a146 := Try.isAgg210
  z146 := Try.sizeOf210
  v146 := Try.zeroValue210
  g1 := by kernel_rfl
/-- that variable of the library's holds some number -/
def MaxL (w : World) : Prop := ∃ m, w.cell? ⟨0, 0, none⟩ = some (.int .i64 m)
theorem maxL_of {w : World} (h : w.ShapedOpen Try.prog) : MaxL w :=
  Go.Proofs.cell_of_shapedOpen_int (zero := #[.int .i64 0]) (t := 3) h (of_decide_eq_true (by kernel_rfl)) (by kernel_rfl) rfl (by kernel_rfl) (by kernel_rfl) Try.underlying3
theorem MaxL.ext {w w' : World} (h : MaxL w) (k : Below w.heap.size w w') : MaxL w' := by
  obtain ⟨m, hm⟩ := h
  exact ⟨m, (grown_below k).cell hm (fun e => by cases e)⟩
theorem drewN_below (w : World) (q : Nat) : Below w.heap.size w (w.drewN q) := by
  exact ⟨rfl, rfl, rfl, Nat.le_refl _, fun _ _ => rfl⟩
/-- a row of constant bytes handed on as it stands: it is marked, and only read from then on -/
theorem convMark {B : Nat} {W0 w : World} {L : List It} {A : Option Addr} {n c : Nat} {cs : List Value} {K : Value → World → Prop} (H : St B W0 w L) (i : Nat) (hi : L[i]? = some (.row (.slice A n c) 5 1 n cs)) (hn : 0 < n)
    (k : ∀ w', St B W0 w' (L.set i (.ro (.slice A n c) 1 n cs)) → K (.slice A n c) w') : RunS Try.prog (convert 35 35 (.slice A n c)) w K := by
  have ho := H.own i hi
  have hrd := own_rd ho
  obtain ⟨hl, h⟩ := ho
  rcases h with ⟨h1, h2⟩ | ⟨g, cap, cur, h1, hb, hg, hnc, hc, hs, ht⟩
  · omega
  cases h1
  have hlt : g < w.heap.size := (Array.getElem?_eq_some_iff.1 hg).1
  have hsh : w.shape? g = some (5, cur.size) := by unfold World.shape?; rw [hg]
  have hz : ∀ q : Nat, (w.freeze ⟨g, cur.size, none⟩ 1).heap[q]? = if g = q then some (.cells cur 5 (cur.size, cur.size + 1)) else w.heap[q]? := by
    intro q
    unfold World.freeze
    rw [if_neg (by decide)]
    show (w.heap.modify g _)[q]? = _
    rw [Array.getElem?_modify]
    split
    · rename_i e; subst e; rw [hg]; rfl
    · rfl
  have hat : (w.freeze ⟨g, cur.size, none⟩ 1).heap[g]? = some (.cells cur 5 (cur.size, cur.size + 1)) := by rw [hz, if_pos rfl]
  have hgr : w.grownBy (w.freeze ⟨g, cur.size, none⟩ 1) (some g) := by
    refine ⟨by unfold World.freeze; rw [if_neg (by decide)], by unfold World.freeze; rw [if_neg (by decide)], by unfold World.freeze; rw [if_neg (by decide)], ?_, fun q hq hne => ?_⟩
    · unfold World.freeze
      rw [if_neg (by decide)]
      show w.heap.size ≤ (w.heap.modify g _).size
      rw [Array.size_modify]; exact Nat.le_refl _
    · rw [hz, if_neg (fun e => hne (by rw [e]))]
  refine ⟨.slice (some ⟨g, 0, none⟩) n c, w.freeze ⟨g, cur.size, none⟩ 1, ?_, k _ (H.turn i hi hgr ?_ (fun q hq => .inl ?_))⟩
  · have hu : Try.prog.underlying 5 = some (.int .u8) := by kernel_rfl
    simp [convert, run_underlying undB, run_underlying hu, markStringish, hsh]
  · refine ⟨hl, _, _, rfl, hnc, .inr ⟨g, 0, rfl, fun j hj => ?_⟩⟩
    rw [← ht]
    rw [← ht, List.length_take] at hj
    simp only [World.cell?, hat, Nat.zero_add, Option.isSome_none, Bool.false_eq_true, if_false]
    rw [List.getElem?_take, if_pos (by omega)]
    simp
  · rw [leans_ro] at hq
    split at hq
    · cases hq
    · exact hq
theorem ok_bIndex : callOK Try.prog 135 = true := by kernel_rfl
theorem bytes_Index_none {A' : Option Addr} {c n' c' : Nat} {W : World} (h : 2 ≤ n') (hn : n' ≤ 4294967280) : GivesV Try.prog 135 [.slice none 0 c, .slice A' n' c'] W (.int .i64 (-1)) := by
  have H := St.enter W
  refine calls_of_vcV (args := [.slice none 0 c, .slice A' n' c']) Try.func135 rfl (by kernel_rfl) (Nat.le_of_ble_eq_true rfl) ?_
  refine JoinV.mk ?_
  refine ifB (fun c0 => absurd c0 (by omega)) (fun c0 => ?_)
  refine ifB (fun c1 => absurd c1 (by omega)) (fun c1 => ?_)
  refine ifB (fun c2 => absurd c2 (by omega)) (fun c2 => ?_)
  refine ifB (fun c3 => ?_) (fun c3 => absurd c3 (by omega))
  exact Exists.intro _ (And.intro rfl (And.intro rfl H))
theorem ok_bContains : callOK Try.prog 115 = true := by kernel_rfl
theorem bytes_Contains0 {A' : Option Addr} {c n' c' : Nat} {W : World} (h : 2 ≤ n') (hn : n' ≤ 4294967280) : GivesV Try.prog 115 [.slice none 0 c, .slice A' n' c'] W (.bool false) := by
  have H := St.enter W
  refine calls_of_vcV (args := [.slice none 0 c, .slice A' n' c']) Try.func115 rfl (by kernel_rfl) (Nat.le_of_ble_eq_true rfl) ?_
  refine callV ok_bIndex (bytes_Index_none h hn) H fun w H => ?_
  exact Exists.intro _ (And.intro rfl (And.intro rfl H))
theorem bytes_ContainsS {xs ys : List Int} (hx : byteOK xs) (hy : byteOK ys) (hne : 0 < ys.length) {A A' : Option Addr} {n c n' c' : Nat} {W : World} (rx : Rd W (.slice A n c) 1 n (xs.map (.int .u8))) (ry : Rd W (.slice A' n' c') 1 n' (ys.map (.int .u8))) (hl : n ≤ 4294967280) (hk : n' ≤ 4294967280) (hA0 : A ≠ none) (hM : MaxL W) :
    GivesV Try.prog 115 [.slice A n c, .slice A' n' c'] W (.bool (Lib.contains (Lib.bytesOf xs) (Lib.bytesOf ys))) := by
  obtain ⟨m, hm⟩ := hM
  obtain ⟨lx, A1, c1, e1, hc1, hx1⟩ := rx
  obtain ⟨ly, A2, c2, e2, hc2, hy2⟩ := ry
  cases e1
  cases e2
  rw [List.length_map, Nat.mul_one] at lx ly
  rcases hy2 with hy2 | ⟨b2, o2, rfl, hy2⟩
  · omega
  have cells : ∀ {zs : List Int} {b off : Nat}, (∀ j, j < (zs.map (Value.int .u8)).length → W.cell? ⟨b, off + j, none⟩ = (zs.map (Value.int .u8))[j]?) → ∀ i, i < zs.length → W.cell? ((⟨b, off, none⟩ : Addr).add i) = some (.int .u8 (zs.getD i 0)) := by
    intro zs b off h i hi
    rw [add_plain, h i (by simpa using hi), List.getElem?_map, List.getElem?_eq_getElem hi, List.getD_eq_getElem?_getD, List.getElem?_eq_getElem hi]; rfl
  have fin : (Calls Try.prog 115 #[.slice A n c, .slice (some ⟨b2, o2, none⟩) n' c'] W fun e w' => e = .returned (.bool (Lib.contains (Lib.bytesOf xs) (Lib.bytesOf ys))) ∧ ∃ q, w' = W.drewN q) → GivesV Try.prog 115 [.slice A n c, .slice (some ⟨b2, o2, none⟩) n' c'] W (.bool (Lib.contains (Lib.bytesOf xs) (Lib.bytesOf ys))) := fun h =>
    givesV_of (h.mono fun e w' ⟨he, q, hw⟩ => ⟨_, he, rfl, by rw [hw]; exact drewN_below W q⟩)
  refine fin ?_
  have key : ∀ a1 : Addr, A = some a1 → (∀ i, i < n → W.cell? (a1.add i) = some (.int .u8 (xs.getD i 0))) → Calls Try.prog 115 #[.slice A n c, .slice (some ⟨b2, o2, none⟩) n' c'] W fun e w' => e = .returned (.bool (Lib.contains (Lib.bytesOf xs) (Lib.bytesOf ys))) ∧ ∃ q, w' = W.drewN q := fun a1 e h => by
    subst e
    exact Any.bytes_Contains_at (P := Try.prog) (ρ := laysC186_ren) laysC186 a1 ⟨b2, o2, none⟩ n c n' c' xs ys m W lx ly hx hy h (fun i hi => cells hy2 i (by omega)) hc1 (by omega) (by omega) hm
  rcases hx1 with hx1 | ⟨b1, o1, rfl, hx1⟩
  · subst hx1
    cases A with
    | some a1 => exact key a1 rfl fun i hi => by omega
    | none =>
      refine absurd hA0 ?_
      simp
  · exact key _ rfl fun i hi => cells hx1 i (by omega)
theorem bytes_Contains {xs ys : List Int} (hx : byteOK xs) (hy : byteOK ys) (hne : 2 ≤ ys.length) {A A' : Option Addr} {n c n' c' : Nat} {W : World} (rx : Rd W (.slice A n c) 1 n (xs.map (.int .u8))) (ry : Rd W (.slice A' n' c') 1 n' (ys.map (.int .u8))) (hl : n ≤ 4294967280) (hk : n' ≤ 4294967280) (hM : MaxL W) :
    GivesV Try.prog 115 [.slice A n c, .slice A' n' c'] W (.bool (Lib.contains (Lib.bytesOf xs) (Lib.bytesOf ys))) := by
  cases A with
  | some a => exact bytes_ContainsS hx hy (by omega) rx ry hl hk (by simp) hM
  | none =>
    have h0 : n = 0 := by
      obtain ⟨_, A1, c1, e1, _, h⟩ := rx
      cases e1
      rcases h with h | ⟨_, _, e, _⟩
      · exact h
      · cases e
    subst h0
    obtain rfl : xs = [] := by
      have := rx.len
      simpa using this
    have hn : n' = ys.length := by have := ry.len; simpa using this.symm
    have e : Lib.contains (Lib.bytesOf []) (Lib.bytesOf ys) = false := by
      cases ys with
      | nil => simp at hne
      | cons y ys => rfl
    rw [e]
    exact bytes_Contains0 (by omega) hk
end Go.Proofs.YtpaklalfopfilaaE
/- The program's test of a comment. -/
namespace Go.Proofs.YtpaklalfopfilaaE
open Go Go.RowKit Go.Proofs
set_option linter.unusedVariables false
set_option linter.unusedSimpArgs false
set_option maxRecDepth 100000
set_option maxHeartbeats 4000000

theorem ok_lineEnd : callOK Try.prog 114 = true := by kernel_rfl
theorem impl_lineEnd (p : Int) (W : World) : GivesV Try.prog 114 [.int .i32 p] W (.bool (lineE p)) := by
  have H := St.enter W
  refine calls_of_vcV (args := [.int .i32 p]) Try.func114 rfl (by kernel_rfl) (Nat.le_of_ble_eq_true rfl) ?_
  unfold lineE
  refine RegV.mk ?_
  refine gF (fun c1 => ?_) (fun c1 => ?_)
  · refine gF (fun c2 => ?_) (fun c2 => ?_)
    · refine gF (fun c3 => ?_) (fun c3 => ?_)
      · exact Exists.intro _ (And.intro rfl (And.intro (congrArg Value.bool (by (rw [Bool.eq_iff_iff]; simp only [decide_eq_true_eq, Bool.false_eq_true, true_iff, iff_true, false_iff, iff_false]; omega))) H.none))
      · exact Exists.intro _ (And.intro rfl (And.intro (congrArg Value.bool (by (rw [Bool.eq_iff_iff]; simp only [decide_eq_true_eq, Bool.false_eq_true, true_iff, iff_true, false_iff, iff_false]; omega))) H.none))
    · refine gNf ?_
      exact Exists.intro _ (And.intro rfl (And.intro (congrArg Value.bool (by (rw [Bool.eq_iff_iff]; simp only [decide_eq_true_eq, Bool.false_eq_true, true_iff, iff_true, false_iff, iff_false]; omega))) H.none))
  · refine gNf ?_
    refine gNf ?_
    exact Exists.intro _ (And.intro rfl (And.intro (congrArg Value.bool (by (rw [Bool.eq_iff_iff]; simp only [decide_eq_true_eq, Bool.false_eq_true, true_iff, iff_true, false_iff, iff_false]; omega))) H.none))
theorem contains_star (xs : List Int) (hb : byteOK xs) : Lib.contains (Lib.bytesOf xs) (Lib.bytesOf [42, 47]) = endPair xs := by
  unfold Lib.contains
  induction xs with
  | nil => rfl
  | cons a r ih =>
    obtain ⟨⟨a0, a1⟩, hr⟩ := hb.cons
    have ih := ih hr
    have key : ∀ x c : Int, 0 ≤ x → x < 256 → 0 ≤ c → c < 256 → (UInt8.ofNat c.toNat == UInt8.ofNat x.toNat) = decide (x = c) := by
      intro x c hx0 hx1 hc0 hc1
      rw [Bool.eq_iff_iff, beq_iff_eq, decide_eq_true_eq]
      constructor
      · intro e
        have e := congrArg UInt8.toNat e
        rw [UInt8.toNat_ofNat', UInt8.toNat_ofNat'] at e
        omega
      · intro e; rw [e]
    have hge := Lib.index_ge (Lib.bytesOf r) (Lib.bytesOf [42, 47])
    show decide (0 ≤ (if (Lib.bytesOf [42, 47]).isPrefixOf (UInt8.ofNat a.toNat :: Lib.bytesOf r) then (0 : Int) else if Lib.index (Lib.bytesOf r) (Lib.bytesOf [42, 47]) == -1 then -1 else Lib.index (Lib.bytesOf r) (Lib.bytesOf [42, 47]) + 1)) = _
    have tl : decide (0 ≤ (if Lib.index (Lib.bytesOf r) (Lib.bytesOf [42, 47]) == -1 then (-1 : Int) else Lib.index (Lib.bytesOf r) (Lib.bytesOf [42, 47]) + 1)) = endPair r := by
      rw [← ih]
      by_cases h : Lib.index (Lib.bytesOf r) (Lib.bytesOf [42, 47]) = -1
      · rw [if_pos (by simp [h]), h]
      · rw [if_neg (by simp [h])]
        rw [Bool.eq_iff_iff, decide_eq_true_eq, decide_eq_true_eq]; omega
    cases r with
    | nil =>
      rw [show (Lib.bytesOf [42, 47]).isPrefixOf (UInt8.ofNat a.toNat :: Lib.bytesOf []) = false from Bool.and_false _]
      exact tl
    | cons b r =>
      obtain ⟨⟨b0, b1⟩, _⟩ := hr.cons
      have pre : (Lib.bytesOf [42, 47]).isPrefixOf (UInt8.ofNat a.toNat :: Lib.bytesOf (b :: r)) = decide (a = 42 ∧ b = 47) := by
        show ((UInt8.ofNat (42 : Int).toNat == UInt8.ofNat a.toNat) && ((UInt8.ofNat (47 : Int).toNat == UInt8.ofNat b.toNat) && true)) = decide (a = 42 ∧ b = 47)
        rw [key a 42 a0 a1 (by decide) (by decide), key b 47 b0 b1 (by decide) (by decide), Bool.and_true, Bool.decide_and]
      rw [pre, endPair]
      by_cases h : a = 42 ∧ b = 47
      · rw [decide_eq_true h]; rfl
      · rw [decide_eq_false h, Bool.false_or, ← tl]; rfl
theorem calls_of_range1 {P : Program} {f : FuncId} {fn : Func} {A0 A2 C : Code} {id : Nat} {g : Operand} {ps : Array Tmp} {asg bd : Code} {args : List Value} {w : World} {R : Ending → World → Prop} (hf : P.funcs[f]? = some fn)
    (hb : fn.body = some (.seq A0 (.seq (.seq A2 (.block id (.rangeFunc g ps asg bd))) C))) (hok : (codeOKI fn.ntmps (.seq A0 A2) && codeOKI fn.ntmps C) = true) (hargs : args.length ≤ fn.ntmps)
    (h : vcI [] fn.ntmps none 0 P (opV P) (.seq A0 A2) (fun ex e w => ex = .normal ∧ RangeP P fn.ntmps g ps asg bd (fun r ex e w => match ex with | .normal => vcI [markOf r] fn.ntmps none 0 P (opV P) C (retM P fn R r) e w | .ret => retM P fn R r .ret e w | _ => False) e w) (start args) w) : Calls P f args.toArray w R := by
  rw [Bool.and_eq_true] at hok
  have ho1 := hok.1
  simp only [codeOKI, Bool.and_eq_true] at ho1
  have hm : ∀ r ex e w a, RelI [markOf r] fn.ntmps e a → retM P fn R r ex e w → bodyPostM (FW none) 0 P fn R ex a w := by
    intro r ex e w a hr hk
    have fin : retM P fn R r .normal e w → LeavesInM (FW none) 0 P fn a.tmps R a.defers .returning w := by
      rintro ⟨w', ht, v, hv, hR⟩
      rw [hr.1]
      exact ⟨by simp, .inl ⟨r, w', rfl, ht, v, hv _ hr.2.2, hR⟩⟩
    cases ex <;> first | exact fin hk | exact hk.elim
  refine callsIn_wide.1 (callsIn_of_wp_marks (F := FW none) (n := 0) hf hb trivial ?_)
  have h0 : RelI [] fn.ntmps (start args) { tmps := args.toArray ++ Array.replicate (fn.ntmps - args.toArray.size) undef, defers := [] } := by
    refine ⟨rfl, by simp; omega, fun i => ?_⟩
    rw [start_eq, Array.getD_eq_getD_getElem?, Array.getElem?_append]
    by_cases hi : i < args.length
    · simp [hi]
    · simp only [List.size_toArray, hi, if_false, Array.getElem?_replicate]
      rw [List.getElem?_eq_none (by omega)]
      split <;> rfl
  refine wpIn_seq (wpIn_mono (vcI_sound (soundV P none 0) A0 _ _ _ _ ho1.1 h h0) ?_)
  rintro ex a1 w1 ⟨e1, r1, h1⟩
  have hx : ex = .normal := by cases ex <;> first | rfl | exact h1.1
  subst hx
  refine wpIn_seq (wpIn_seq (wpIn_mono (vcI_sound (soundV P none 0) A2 _ _ _ _ ho1.2 h1 r1) ?_))
  rintro ex a3 w3 ⟨e3, r3, h3⟩
  have hx : ex = .normal := by cases ex <;> first | rfl | exact h3.1
  subst hx
  refine wpIn_block (wpIn_mono (range_sound r3 h3.2) ?_)
  rintro ex a4 w4 ⟨e4, r4, h4⟩
  cases ex with
  | normal => exact wpIn_mono (vcI_sound (soundV P none 0) C _ _ _ _ hok.2 h4 r4) fun ex a5 w5 ⟨e5, r5, h5⟩ => hm _ _ _ _ _ r5 h5
  | ret => exact hm _ _ _ _ _ r4 h4
  | _ => exact h4.elim
theorem ok_validComment : callOK Try.prog 72 = true := by kernel_rfl
theorem impl_validComment {f : CommentG} {W : World} (h : f.Rd W) (hb : byteOK f.text) (hl : f.text.length ≤ 4294967280) (hM : MaxL W) : GivesV Try.prog 72 [.agg f.cells.toArray] W (.bool (commentOK f.p)) := by
  obtain ⟨A, c, e⟩ := CommentG.shape h
  obtain ⟨tv, block, text⟩ := f
  dsimp only at e hb hl
  subst e
  have hx : Rd W (.slice A text.length c) 1 text.length (text.map (.int .u8)) := h
  obtain ⟨r, hr⟩ : ∃ r, commentOK (CommentG.p ⟨.slice A text.length c, block, text⟩) = r := ⟨_, rfl⟩
  rw [hr]
  rw [commentOK_its] at hr
  have hr : (ptsOK block (ptsF text text.length 0) && (!block || !endPair text)) = r := hr
  obtain ⟨fin, hfin⟩ : ∃ q, (!block || !endPair text) = q := ⟨_, rfl⟩
  rw [hfin] at hr
  have H := (St.enter W).ro0 rfl hx
  show GivesV Try.prog 72 [.agg #[.bool block, .slice A text.length c]] W _
  refine calls_of_range1 (args := [.agg #[.bool block, .slice A text.length c]]) Try.func72 rfl (by kernel_rfl) (Nat.le_of_ble_eq_true rfl) ?_
  refine newR (o := .cells #[.bool block, .slice A text.length c] _) H fun g1 w H => ?_
  refine newR (o := .cells #[.bool false] _) H fun g2 w H => ?_
  refine loadO H 1 rfl rfl ?_
  refine callPoints H fun g w H => ?_
  have H : St W.heap.size W w [.obj g (.cells #[.slice A text.length c] 35), .roB (.slice A text.length c) text, .obj g2 (.cells #[.bool false] 4), .obj g1 (.cells #[.bool block, .slice A text.length c] 73)] := H.sub [0, 3, 1, 2] (by decide)
  refine And.intro rfl (rangePts hb (by omega) (of_decide_eq_true (by kernel_rfl)) (of_decide_eq_true (by kernel_rfl)) rfl
    (fun its L => (ptsOK block its && fin) = r ∧ L = [.obj g2 (.cells #[.bool false] 4), .obj g1 (.cells #[.bool block, .slice A text.length c] 73)])
    (fun L => r = false ∧ L = [.obj g2 (.cells #[.bool false] 4), .obj g1 (.cells #[.bool block, .slice A text.length c] 73)]) H ⟨hr, rfl⟩ (by kernel_rfl) ?_ ?_ ?_)
  · rintro i q its L l D M w ⟨hk, rfl⟩
    refine And.intro rfl (And.intro rfl fun w2 H => ?_)
    have hk : ((decide (0 ≤ q) && linesOK block q && ptsOK block its) && fin) = r := hk
    have lineC : ∀ (p : Int) (W : World), GivesV Try.prog 114 [.int .i32 p] W (.bool (decide (p = 10 ∨ p = 13 ∨ p = 8232 ∨ p = 8233))) := impl_lineEnd
    cases block
    · have bad : ¬ (0 ≤ q ∧ ¬ (q = 10 ∨ q = 13 ∨ q = 8232 ∨ q = 8233)) → r = false := fun h => by
        rw [← hk]; unfold linesOK lineE
        by_cases h0 : 0 ≤ q
        · rw [decide_eq_true (show q = 10 ∨ q = 13 ∨ q = 8232 ∨ q = 8233 by omega)]; simp
        · rw [decide_eq_false h0]; rfl
      have good : 0 ≤ q ∧ ¬ (q = 10 ∨ q = 13 ∨ q = 8232 ∨ q = 8233) → (ptsOK false its && fin) = r := fun h => by
        rw [← hk]; unfold linesOK lineE
        rw [decide_eq_true h.1, decide_eq_false h.2]; rfl
      clear hk
      refine gF (fun c0 => ?_) (fun c0 => ?_)
      · refine callV ok_lineEnd (lineC _ _) H fun w H => ?_
        refine gT (fun c2 => ?_) (fun c2 => ?_)
        · refine gF (fun c3 => ?_) (fun c3 => ?_)
          · refine loadO H 1 rfl rfl ?_
            refine gY ?_
            refine gY ?_
            refine ifNot ?_
            refine ifF ?_
            refine storeO H 0 rfl rfl rfl fun w H => ?_
            exact ⟨[.obj g2 (.cells #[.bool false] 4), .obj g1 (.cells #[.bool false, .slice A text.length c] 73)], ⟨bad (by omega), rfl⟩, H⟩
          · refine gY ?_
            refine gY ?_
            refine ifT ?_
            refine storeO H 0 rfl rfl rfl fun w H => ?_
            exact ⟨[.obj g2 (.cells #[.bool false] 4), .obj g1 (.cells #[.bool false, .slice A text.length c] 73)], ⟨bad (by omega), rfl⟩, H⟩
        · refine gNot ?_
          refine gNf ?_
          refine gY ?_
          refine ifF ?_
          exact ⟨[.obj g2 (.cells #[.bool false] 4), .obj g1 (.cells #[.bool false, .slice A text.length c] 73)], ⟨good (by omega), rfl⟩, H⟩
      · refine gNot ?_
        refine gNt ?_
        refine ifT ?_
        refine storeO H 0 rfl rfl rfl fun w H => ?_
        exact ⟨[.obj g2 (.cells #[.bool false] 4), .obj g1 (.cells #[.bool false, .slice A text.length c] 73)], ⟨bad (by omega), rfl⟩, H⟩
    · have bad : ¬ (0 ≤ q ∧ ((q = 10 ∨ q = 13 ∨ q = 8232 ∨ q = 8233) → q = 10)) → r = false := fun h => by
        rw [← hk]; unfold linesOK lineE
        by_cases h0 : 0 ≤ q
        · rw [decide_eq_true (show q = 10 ∨ q = 13 ∨ q = 8232 ∨ q = 8233 by omega), decide_eq_false (show ¬ q = 10 by omega)]; simp
        · rw [decide_eq_false h0]; rfl
      have good : 0 ≤ q ∧ ((q = 10 ∨ q = 13 ∨ q = 8232 ∨ q = 8233) → q = 10) → (ptsOK true its && fin) = r := fun h => by
        rw [← hk]; unfold linesOK lineE
        by_cases h1 : q = 10
        · rw [decide_eq_true h.1, decide_eq_true h1]; simp
        · rw [decide_eq_true h.1, decide_eq_false (fun q => h1 (h.2 q))]; rfl
      clear hk
      refine gF (fun c0 => ?_) (fun c0 => ?_)
      · refine callV ok_lineEnd (lineC _ _) H fun w H => ?_
        refine gT (fun c2 => ?_) (fun c2 => ?_)
        · refine gF (fun c3 => ?_) (fun c3 => ?_)
          · refine loadO H 1 rfl rfl ?_
            refine gY ?_
            refine gY ?_
            refine ifNot ?_
            refine ifT ?_
            exact ⟨[.obj g2 (.cells #[.bool false] 4), .obj g1 (.cells #[.bool true, .slice A text.length c] 73)], ⟨good (by omega), rfl⟩, H⟩
          · refine gY ?_
            refine gY ?_
            refine ifT ?_
            refine storeO H 0 rfl rfl rfl fun w H => ?_
            exact ⟨[.obj g2 (.cells #[.bool false] 4), .obj g1 (.cells #[.bool true, .slice A text.length c] 73)], ⟨bad (by omega), rfl⟩, H⟩
        · refine gNot ?_
          refine gNf ?_
          refine gY ?_
          refine ifF ?_
          exact ⟨[.obj g2 (.cells #[.bool false] 4), .obj g1 (.cells #[.bool true, .slice A text.length c] 73)], ⟨good (by omega), rfl⟩, H⟩
      · refine gNot ?_
        refine gNt ?_
        refine ifT ?_
        refine storeO H 0 rfl rfl rfl fun w H => ?_
        exact ⟨[.obj g2 (.cells #[.bool false] 4), .obj g1 (.cells #[.bool true, .slice A text.length c] 73)], ⟨bad (by omega), rfl⟩, H⟩
  · rintro w L ⟨hk, rfl⟩ H
    have hk : fin = r := hk
    have coC : ∀ {w : World} {A2 : Option Addr} {k2 : Nat}, Below W.heap.size W w → Rd w (.slice A2 2 k2) 1 2 ([(42 : Int), 47].map (.int .u8)) → GivesV Try.prog 115 [.slice A text.length c, .slice A2 2 k2] w (.bool (endPair text)) := fun hB hR => by
      rw [← contains_star text hb]
      exact bytes_Contains hb (fun x hx => by simp at hx; omega) (by decide) (hx.ext hB) hR hl (by decide) (hM.ext hB)
    cases block
    · refine loadO H 2 rfl rfl ?_
      refine gNot ?_
      refine gNt ?_
      refine storeO H 1 rfl rfl rfl fun w H => ?_
      subst hk
      have H2 := H.putO 0 rfl (.deferred none)
      refine ⟨_, run_takeDeferred (H.obj 0 rfl).2, .bool true, fun tmps ht => resC1 rfl (ht 2) (runOf ?_), ?_⟩
      · exact loadO H2 1 rfl rfl ⟨rfl, rfl⟩
      · exact ⟨_, rfl, by rw [← hfin]; rfl, H2.none⟩
    · refine loadO H 2 rfl rfl ?_
      refine gNot ?_
      refine gY ?_
      refine loadO H 2 rfl rfl ?_
      refine litBS (xs := [42, 47]) H (by simp) (by kernel_rfl) fun A4 k4 w H => ?_
      refine convMark H 0 rfl (by decide) fun w H => ?_
      refine callV ok_bContains (coC H.below (H.rd 0 rfl)) H fun w H => ?_
      refine storeO H 2 rfl rfl rfl fun w H => ?_
      subst hk
      have H2 := H.putO 1 rfl (.deferred none)
      refine ⟨_, run_takeDeferred (H.obj 1 rfl).2, .bool (!endPair text), fun tmps ht => resC1 rfl (ht 2) (runOf ?_), ?_⟩
      · exact loadO H2 2 rfl rfl ⟨rfl, rfl⟩
      · exact ⟨_, rfl, by rw [← hfin]; rfl, H2.none⟩
  · rintro w L ⟨hk, rfl⟩ H
    have H2 := H.putO 0 rfl (.deferred none)
    refine ⟨_, run_takeDeferred (H.obj 0 rfl).2, .bool false, fun tmps ht => resC1 rfl (ht 2) (runOf ?_), ?_⟩
    · exact loadO H2 1 rfl rfl ⟨rfl, rfl⟩
    · exact ⟨_, rfl, by rw [hk], H2.none⟩
end Go.Proofs.YtpaklalfopfilaaE
/- What the reference's and the program's functions do that go between code points and units. -/
namespace Go.Proofs.YtpaklalfopfilaaE
open Go Go.RowKit Go.Proofs
set_option linter.unusedVariables false
set_option maxRecDepth 100000

theorem own_nilI (w : World) (B : Nat) : OwnI w B (.slice none 0 0) [] := World.ownsRow_nil _ _ _ _
theorem ok_goodUnits : callOK Try.prog 73 = true := by kernel_rfl
theorem impl_goodUnits (xs : List Int) (A : Option Addr) (c : Nat) (w : World) (hx : RdI w (.slice A xs.length c) xs) (hl : xs.length ≤ 4294967296) :
    Calls Try.prog 73 #[.slice A xs.length c] w fun e w' => e = .returned (.bool (goodU xs)) ∧ Below w.heap.size w w' := by
  refine calls_of_vcR (args := [.slice A xs.length c]) Try.func73 rfl (by kernel_rfl) (Nat.le_of_ble_eq_true rfl) ?_
  refine loopR (by kernel_rfl) (fun n e w' => (e 5 = .slice A xs.length c ∧ e 6 = .int .i64 xs.length) ∧ ∃ j : Nat, e 7 = .int .i64 j ∧ j + n = xs.length ∧ goodU xs = goodU (xs.drop j) ∧ Below w.heap.size w w') xs.length
    ⟨⟨rfl, rfl⟩, 0, rfl, by omega, by simp, Below.refl _ _⟩ ?_
  rintro n e w1 ⟨⟨h5, h6⟩, j, h7, hj, hg, hB⟩
  rw [Env.three h5 h6 h7]
  refine ifB (fun h => ?_) (fun h => ?_)
  · have hjl : j < xs.length := by omega
    obtain ⟨b, off, hA, hc⟩ := (hx.ext hB).int (i := (j : Int)) (by omega) h
    refine idxS (by omega) (h) hA ?_
    refine loadS hc ?_
    refine gF (p := xs.getD j 0 < 0) (fun h1 => ?_) (fun h1 => ?_)
    · refine ifB (p := xs.getD j 0 > 65535) (fun h2 => ?_) (fun h2 => ?_)
      · exact And.intro (retB (goodU_bad xs j hjl hg (by omega)).symm) hB
      · refine Exists.intro (n - 1) (And.intro (by omega) (And.intro ⟨rfl, rfl⟩ ⟨j + 1, vI ?_, by omega, goodU_drop xs j hjl hg (by omega), hB⟩))
        rw [w64k _ (by omega) (by omega)]; omega
    · refine ifT ?_
      exact And.intro (retB (goodU_bad xs j hjl hg (by omega)).symm) hB
  · refine And.intro (retB ?_) hB
    rw [hg, List.drop_of_length_le (by omega)]
    rfl
theorem ok_spec_FromUnits : callOK Try.prog 108 = true := by kernel_rfl
theorem spec_FromUnits (xs : List Int) (A : Option Addr) (c : Nat) (w : World) (hx : RdI w (.slice A xs.length c) xs) (hl : xs.length ≤ 4294967296) :
    Calls Try.prog 108 #[.slice A xs.length c] w fun e w' => ∃ x, e = .returned (.tuple #[x, .int .i64 (fromR xs).2]) ∧ OwnI w' w.heap.size x (fromR xs).1 ∧ Below w.heap.size w w' := by
  refine calls_of_vcR (args := [.slice A xs.length c]) Try.func108 rfl (by kernel_rfl) (Nat.le_of_ble_eq_true rfl) ?_
  have bad : goodU xs = false → ∀ w', Below w.heap.size w w' → ∃ x, Ending.returned (.tuple #[.slice none 0 0, .int .i64 1]) = .returned (.tuple #[x, .int .i64 (fromR xs).2]) ∧ OwnI w' w.heap.size x (fromR xs).1 ∧ Below w.heap.size w w' := by
    intro h w' hb
    have e1 : fromR xs = ([], 1) := by simp [fromR, h]
    rw [e1]
    exact ⟨_, rfl, own_nilI _ _, hb⟩
  refine loopJ (by kernel_rfl) (fun n e w' => e 0 = .slice A xs.length c ∧ ∃ j : Nat, e 4 = .int .i64 j ∧ j + n = xs.length ∧ goodU xs = goodU (xs.drop j) ∧ Below w.heap.size w w')
    (fun id e w' => id = 0 ∧ e 0 = .slice A xs.length c ∧ goodU xs = true ∧ Below w.heap.size w w') xs.length
    ⟨rfl, 0, rfl, by omega, by simp, Below.refl _ _⟩ ?_ ?_
  · rintro n e w1 ⟨h0, j, h4, hj, hg, hB⟩
    rw [Env.two h0 h4]
    refine ifB (fun h => ?_) (fun h => ?_)
    case refine_2 => exact ⟨rfl, rfl, by rw [hg, List.drop_of_length_le (by omega)]; rfl, hB⟩
    have hjl : j < xs.length := by omega
    obtain ⟨b, off, hA, hc⟩ := (hx.ext hB).int (i := (j : Int)) (by omega) h
    refine idxS (by omega) (h) hA ?_
    refine loadS hc ?_
    refine gF (p := xs.getD j 0 < 0) (fun h1 => ?_) (fun h1 => ?_)
    · refine idxS (by omega) (h) hA ?_
      refine loadS hc ?_
      refine ifB (p := xs.getD j 0 > 65535) (fun h2 => ?_) (fun h2 => ?_)
      · exact bad (goodU_bad xs j hjl hg (by omega)) w1 hB
      · refine Exists.intro (n - 1) (And.intro (by omega) (And.intro rfl ⟨j + 1, vI ?_, by omega, goodU_drop xs j hjl hg (by omega), hB⟩))
        rw [w64k _ (by omega) (by omega)]; omega
    · refine ifT ?_
      exact bad (goodU_bad xs j hjl hg (by omega)) w1 hB
  · rintro id e w1 ⟨rfl, h0, hgood, hB⟩
    rw [Env.one h0]
    have hR : fromR xs = (fromAll xs, 0) := by simp [fromR, hgood]
    rw [hR]
    refine loopR (by kernel_rfl) (fun n e w' => e 0 = .slice A xs.length c ∧ ∃ (j : Nat) (x : Value) (acc : List Int), e 6 = .int .i64 j ∧ e 5 = x ∧ j + n = xs.length ∧ fromAll xs = acc ++ fromAll (xs.drop j) ∧ acc.length ≤ j ∧ OwnI w' w.heap.size x acc ∧ Below w.heap.size w w') xs.length
      ⟨rfl, 0, _, [], rfl, rfl, by omega, by simp, by simp, own_nilI _ _, hB⟩ ?_
    clear hB h0
    rintro n e w1 ⟨h0, j, x, acc, h6, h5, hj, hF, ha, ho, hB⟩
    rw [Env.three h0 h6 h5]
    refine ifB (fun h => ?_) (fun h => ?_)
    · have hjl : j < xs.length := by omega
      have hx1 := hx.ext hB
      obtain ⟨b, off, hA, hc⟩ := hx1.int (i := (j : Int)) (by omega) h
      have hu := goodU_at xs hgood j hjl
      have hw1 : IntKind.i64.wrap ((j : Int) + 1) = ((j + 1 : Nat) : Int) := by rw [w64k _ (by omega) (by omega)]; omega
      obtain ⟨A5, c5, hx5⟩ := own_val ho
      subst hx5
      have hlen1 : acc.length + [xs.getD ((j : Int)).toNat 0].length ≤ 1099511627776 := by rw [List.length_singleton]; omega
      have fin : ∀ (e' : Env) (x' : Value) (w2 w3 : World), e' 0 = .slice A xs.length c → e' 6 = .int .i64 (IntKind.i64.wrap ((j : Int) + 1)) → e' 5 = x' → fromAll (xs.drop j) = xs.getD j 0 :: fromAll (xs.drop (j + 1)) → Below w1.heap.size w1 w2 → OwnI w3 w.heap.size x' (acc ++ [xs.getD ((j : Int)).toNat 0]) → w2.grownBy w3 (Value.slice A5 acc.length c5).ownBlock →
          ∃ m, m < n ∧ (e' 0 = .slice A xs.length c ∧ ∃ (j : Nat) (x : Value) (acc : List Int), e' 6 = .int .i64 j ∧ e' 5 = x ∧ j + m = xs.length ∧ fromAll xs = acc ++ fromAll (xs.drop j) ∧ acc.length ≤ j ∧ OwnI w3 w.heap.size x acc ∧ Below w.heap.size w w3) := by
        intro e' x' w2 w3 h0 h6 h5 hone hB2 ho3 hg3
        refine ⟨n - 1, by omega, h0, j + 1, x', acc ++ [xs.getD j 0], h6.trans (vI hw1), h5, by omega, ?_, by simp; omega, ho3, own_below (below_trans hB hB2) (below_trans hB hB2).size (own_ext ho hB2) hg3⟩
        rw [hF, hone]; simp
      refine idxS (by omega) (h) hA ?_
      refine loadS hc ?_
      by_cases hj1 : j + 1 < xs.length
      · have hu1 := goodU_at xs hgood (j + 1) hj1
        have hc1 : w1.cell? ⟨b, off + (IntKind.i64.wrap ((j : Int) + 1)).toNat * 1, none⟩ = some (.int .i64 (xs.getD (j + 1) 0)) := by
          obtain ⟨b', off', hA', hc'⟩ := hx1.int (i := ((j + 1 : Nat) : Int)) (by omega) (by omega)
          rw [hA] at hA'
          cases hA'
          rw [hw1]; exact hc'
        by_cases hp : isPair (xs.getD j 0) (xs.getD (j + 1) 0)
        · have hp' := hp
          unfold isPair at hp'
          refine gT (p := xs.getD j 0 ≥ 55296) (fun _ => ?_) (fun h => absurd h (by omega))
          refine gT (p := xs.getD j 0 ≤ 56319) (fun _ => ?_) (fun h => absurd h (by omega))
          refine gT (p := IntKind.i64.wrap ((j : Int) + 1) < xs.length) (fun _ => ?_) (fun h => absurd h (by omega))
          refine idxS (by omega) (by omega) hA ?_
          refine loadS hc1 ?_
          refine gT (p := xs.getD (j + 1) 0 ≥ 56320) (fun _ => ?_) (fun h => absurd h (by omega))
          refine idxS (by omega) (by omega) hA ?_
          refine loadS hc1 ?_
          refine ifB (p := xs.getD (j + 1) 0 ≤ 57343) (fun _ => ?_) (fun h => absurd h (by omega))
          refine idxS (by omega) (by omega) hA ?_
          refine loadS hc1 ?_
          refine bsI1 fun y w2 hy hB2 _ => ?_
          refine appI (own_ext ho hB2) (own_rd hy) (by simp; omega) (below_trans hB hB2).size fun x' w3 ho3 hg3 _ => ?_
          refine Exists.intro (n - 2) (And.intro (by omega) (And.intro rfl ⟨j + 2, x', acc ++ [65536 + (xs.getD j 0 - 55296) * 1024 + xs.getD (j + 1) 0 - 56320], vI ?_, rfl, by omega, ?_, by simp; omega, ?_, own_below (below_trans hB hB2) (below_trans hB hB2).size (own_ext ho hB2) hg3⟩))
          · rw [w64k _ (by omega) (by omega)]; omega
          · rw [hF, fromAll_pair xs j hj1 hp]; simp
          · have e : IntKind.i64.wrap (IntKind.i64.wrap (IntKind.i64.wrap (65536 + IntKind.i64.wrap (IntKind.i64.wrap (xs.getD ((j : Int)).toNat 0 - 55296) * 1024)) + xs.getD (j + 1) 0) - 56320) = 65536 + (xs.getD j 0 - 55296) * 1024 + xs.getD (j + 1) 0 - 56320 := by
              rw [Int.toNat_natCast, w64k (xs.getD j 0 - 55296) (by omega) (by omega), w64k ((xs.getD j 0 - 55296) * 1024) (by omega) (by omega), w64k (65536 + (xs.getD j 0 - 55296) * 1024) (by omega) (by omega), w64k (65536 + (xs.getD j 0 - 55296) * 1024 + xs.getD (j + 1) 0) (by omega) (by omega), w64k _ (by omega) (by omega)]
            rw [e] at ho3
            exact ho3
        · have hone := fromAll_one xs j hjl (fun q => hp q.2)
          have hp' := hp
          unfold isPair at hp'
          have hcase : xs.getD j 0 < 55296 ∨ (55296 ≤ xs.getD j 0 ∧ 56319 < xs.getD j 0) ∨ ((55296 ≤ xs.getD j 0 ∧ xs.getD j 0 ≤ 56319) ∧ xs.getD (j + 1) 0 < 56320) ∨ ((55296 ≤ xs.getD j 0 ∧ xs.getD j 0 ≤ 56319) ∧ 56320 ≤ xs.getD (j + 1) 0 ∧ 57343 < xs.getD (j + 1) 0) := by omega
          rcases hcase with hh | hh | hh | hh
          · refine gT (p := xs.getD j 0 ≥ 55296) (fun h => absurd h (by omega)) (fun _ => ?_)
            refine gNt ?_
            refine gNt ?_
            refine gNt ?_
            refine ifF ?_
            refine bsI1 fun y w2 hy hB2 _ => ?_
            refine appI (own_ext ho hB2) (own_rd hy) hlen1 (below_trans hB hB2).size fun x' w3 ho3 hg3 _ => ?_
            exact fin _ x' w2 w3 rfl rfl rfl hone hB2 ho3 hg3
          · refine gT (p := xs.getD j 0 ≥ 55296) (fun _ => ?_) (fun h => absurd h (by omega))
            refine gT (p := xs.getD j 0 ≤ 56319) (fun h => absurd h (by omega)) (fun _ => ?_)
            refine gNt ?_
            refine gNt ?_
            refine ifF ?_
            refine bsI1 fun y w2 hy hB2 _ => ?_
            refine appI (own_ext ho hB2) (own_rd hy) hlen1 (below_trans hB hB2).size fun x' w3 ho3 hg3 _ => ?_
            exact fin _ x' w2 w3 rfl rfl rfl hone hB2 ho3 hg3
          · refine gT (p := xs.getD j 0 ≥ 55296) (fun _ => ?_) (fun h => absurd h (by omega))
            refine gT (p := xs.getD j 0 ≤ 56319) (fun _ => ?_) (fun h => absurd h (by omega))
            refine gT (p := IntKind.i64.wrap ((j : Int) + 1) < xs.length) (fun _ => ?_) (fun h => absurd h (by omega))
            refine idxS (by omega) (by omega) hA ?_
            refine loadS hc1 ?_
            refine gT (p := xs.getD (j + 1) 0 ≥ 56320) (fun h => absurd h (by omega)) (fun _ => ?_)
            refine ifF ?_
            refine bsI1 fun y w2 hy hB2 _ => ?_
            refine appI (own_ext ho hB2) (own_rd hy) hlen1 (below_trans hB hB2).size fun x' w3 ho3 hg3 _ => ?_
            exact fin _ x' w2 w3 rfl rfl rfl hone hB2 ho3 hg3
          · refine gT (p := xs.getD j 0 ≥ 55296) (fun _ => ?_) (fun h => absurd h (by omega))
            refine gT (p := xs.getD j 0 ≤ 56319) (fun _ => ?_) (fun h => absurd h (by omega))
            refine gT (p := IntKind.i64.wrap ((j : Int) + 1) < xs.length) (fun _ => ?_) (fun h => absurd h (by omega))
            refine idxS (by omega) (by omega) hA ?_
            refine loadS hc1 ?_
            refine gT (p := xs.getD (j + 1) 0 ≥ 56320) (fun _ => ?_) (fun h => absurd h (by omega))
            refine idxS (by omega) (by omega) hA ?_
            refine loadS hc1 ?_
            refine ifB (p := xs.getD (j + 1) 0 ≤ 57343) (fun h => absurd h (by omega)) (fun _ => ?_)
            refine bsI1 fun y w2 hy hB2 _ => ?_
            refine appI (own_ext ho hB2) (own_rd hy) hlen1 (below_trans hB hB2).size fun x' w3 ho3 hg3 _ => ?_
            exact fin _ x' w2 w3 rfl rfl rfl hone hB2 ho3 hg3
      · have hone := fromAll_one xs j hjl (fun q => hj1 q.1)
        have hcase : xs.getD j 0 < 55296 ∨ (55296 ≤ xs.getD j 0 ∧ 56319 < xs.getD j 0) ∨ (55296 ≤ xs.getD j 0 ∧ xs.getD j 0 ≤ 56319) := by omega
        rcases hcase with hh | hh | hh
        · refine gT (p := xs.getD j 0 ≥ 55296) (fun h => absurd h (by omega)) (fun _ => ?_)
          refine gNt ?_
          refine gNt ?_
          refine gNt ?_
          refine ifF ?_
          refine bsI1 fun y w2 hy hB2 _ => ?_
          refine appI (own_ext ho hB2) (own_rd hy) hlen1 (below_trans hB hB2).size fun x' w3 ho3 hg3 _ => ?_
          exact fin _ x' w2 w3 rfl rfl rfl hone hB2 ho3 hg3
        · refine gT (p := xs.getD j 0 ≥ 55296) (fun _ => ?_) (fun h => absurd h (by omega))
          refine gT (p := xs.getD j 0 ≤ 56319) (fun h => absurd h (by omega)) (fun _ => ?_)
          refine gNt ?_
          refine gNt ?_
          refine ifF ?_
          refine bsI1 fun y w2 hy hB2 _ => ?_
          refine appI (own_ext ho hB2) (own_rd hy) hlen1 (below_trans hB hB2).size fun x' w3 ho3 hg3 _ => ?_
          exact fin _ x' w2 w3 rfl rfl rfl hone hB2 ho3 hg3
        · refine gT (p := xs.getD j 0 ≥ 55296) (fun _ => ?_) (fun h => absurd h (by omega))
          refine gT (p := xs.getD j 0 ≤ 56319) (fun _ => ?_) (fun h => absurd h (by omega))
          refine gT (p := IntKind.i64.wrap ((j : Int) + 1) < xs.length) (fun h => absurd h (by omega)) (fun _ => ?_)
          refine gNt ?_
          refine ifF ?_
          refine bsI1 fun y w2 hy hB2 _ => ?_
          refine appI (own_ext ho hB2) (own_rd hy) hlen1 (below_trans hB hB2).size fun x' w3 ho3 hg3 _ => ?_
          exact fin _ x' w2 w3 rfl rfl rfl hone hB2 ho3 hg3
    · refine Exists.intro _ (And.intro rfl (And.intro ?_ hB))
      have e1 : fromAll xs = acc := by rw [hF, List.drop_of_length_le (by omega)]; simp [fromAll]
      rw [e1]
      exact ho
end Go.Proofs.YtpaklalfopfilaaE
/- The reference's test for a line end. -/
namespace Go.Proofs.YtpaklalfopfilaaE
open Go Go.RowKit
set_option linter.unusedVariables false
set_option maxRecDepth 100000
theorem ok_l4lineEnd : callOK Try.prog 107 = true := by kernel_rfl
theorem spec_l4lineEnd (p : Int) (W : World) : GivesV Try.prog 107 [.int .i64 p] W (.bool (decide (p = 10 ∨ p = 13 ∨ p = 8232 ∨ p = 8233))) := by
  have H := St.enter W
  refine calls_of_vcV (args := [.int .i64 p]) Try.func107 rfl (by kernel_rfl) (Nat.le_of_ble_eq_true rfl) ?_
  refine cutG (fun e w => e 2 = .bool (decide (p = 10 ∨ p = 13 ∨ p = 8232 ∨ p = 8233)) ∧ St W.heap.size W w []) ?_ ?_
  · repeat' first | (refine gY ?_) | (refine gNt ?_) | (refine gNf ?_) | (refine ifT ?_) | (refine ifF ?_) | (refine arN (by omega) ?_) | (refine ar64 (by omega) (by omega) ?_) | (refine ar32 (by omega) (by omega) ?_) | (refine ar8 (by omega) (by omega) ?_) | (refine div64 (by omega) (by omega) (by omega) ?_) | (refine rem0 (by omega) (by omega) ?_) | (refine drawR H fun w H => ?_) | (refine RegV.mk ?_) | (refine JoinV.mk ?_) | (refine gT (fun h => ?_) (fun h => ?_) <;> first | (exfalso; omega) | skip) | (refine gF (fun h => ?_) (fun h => ?_) <;> first | (exfalso; omega) | skip) | (refine ifB (fun h => ?_) (fun h => ?_) <;> first | (exfalso; omega) | skip)
    all_goals refine ⟨congrArg Value.bool ?_, H⟩
    all_goals (rw [Bool.eq_iff_iff]; simp only [decide_eq_true_eq, Bool.false_eq_true, true_iff, iff_true, false_iff, iff_false]; omega)
  rintro e w ⟨h2, H⟩
  rw [Env.one h2]
  exact Exists.intro (.bool (decide (p = 10 ∨ p = 13 ∨ p = 8232 ∨ p = 8233))) (And.intro rfl (And.intro rfl H))
end Go.Proofs.YtpaklalfopfilaaE
/- The reference's tests of comments, nodes and trees. -/
namespace Go.Proofs.YtpaklalfopfilaaE
open Go Go.RowKit Go.Proofs
set_option linter.unusedVariables false
set_option linter.unusedSimpArgs false
set_option maxRecDepth 100000
set_option maxHeartbeats 4000000

theorem ok_l5commentOK : callOK Try.prog 65 = true := by kernel_rfl
theorem spec_l5commentOK {f : CommentG} {W : World} (h : f.Rd W) (hb : byteOK f.text) (hl : f.text.length ≤ 4294967296) : GivesV Try.prog 65 [.agg f.cells.toArray] W (.bool (commentOK f.p)) := by
  have H := St.enter W
  obtain ⟨A, c, e⟩ := CommentG.shape h
  obtain ⟨tv, block, text⟩ := f
  dsimp only at e hb hl
  subst e
  have hx : RdB W (.slice A text.length c) text := h
  obtain ⟨r, hr⟩ : ∃ r, commentOK (CommentG.p ⟨.slice A text.length c, block, text⟩) = r := ⟨_, rfl⟩
  rw [hr]
  rw [commentOK_pts (c := CommentG.p ⟨.slice A text.length c, block, text⟩) hb] at hr
  have hr : (decide ((decW text).2.1 = 0) && (decW text).1.all (linesOK block) && (!block || !endPair (decW text).1)) = r := hr
  have hc := spec_DecodeText hb hl (hx.ext (Below.refl _ _))
  have hdl := decW_len text hb
  unfold decW at hr hdl
  obtain ⟨d, hd⟩ : ∃ d, decP (ptsF text text.length 0) [] = d := ⟨_, rfl⟩
  rw [hd] at hr hc hdl
  rw [Bool.and_assoc, scanC] at hr
  show GivesV Try.prog 65 [.agg #[.bool block, .slice A text.length c]] W _
  refine calls_of_vcV (args := [.agg #[.bool block, .slice A text.length c]]) Try.func65 rfl (by kernel_rfl) (Nat.le_of_ble_eq_true rfl) ?_
  refine newR (o := .cells #[.bool block, .slice A text.length c] _) H fun g0 w H => ?_
  refine loadO H 0 rfl rfl ?_
  refine callRow3 ok_spec_DecodeText (hd ▸ spec_DecodeText hb hl (hx.ext H.below)) H fun A2 c2 w H => ?_
  have ret : ∀ {b : Bool} {w : World} {L : List It}, r = b → St W.heap.size W w L → ∃ v, Ending.returned (.bool b) = .returned v ∧ v = .bool r ∧ St W.heap.size W w [] := fun e H => ⟨_, rfl, by rw [e], H.none⟩
  refine ifB (fun h => ?_) (fun h => ?_)
  · exact ret (by rw [← hr, decide_eq_false h]; rfl) H
  rw [decide_eq_true (Classical.not_not.1 h), Bool.true_and] at hr
  have no : ∀ {w : World} {L : List It} (k : Nat), k < d.1.length → ¬ goodC block d.1 k → St W.heap.size W w L → ∃ v, Ending.returned (.bool false) = .returned v ∧ v = .bool r ∧ St W.heap.size W w [] := fun k hk q H => ret (by rw [← hr]; exact decide_eq_false fun a => q (a k hk)) H
  refine loopV (by kernel_rfl) (fun m e w => e 1 = .pointer (some ⟨g0, 0, none⟩) ∧ e 3 = .slice A2 d.1.length c2 ∧ ∃ j : Nat, e 6 = .int .i64 j ∧ j + m = d.1.length ∧ (∀ i, i < j → goodC block d.1 i) ∧ St W.heap.size W w [.rowI (.slice A2 d.1.length c2) d.1, .obj g0 (.cells #[.bool block, .slice A text.length c] 73)]) d.1.length
    ⟨rfl, rfl, 0, rfl, by omega, fun i hi => by omega, H⟩ ?_
  rintro m e w ⟨h1, h3, j, h6, hj, hg, H⟩
  rw [Env.three h1 h3 h6]
  refine ifB (fun h => ?_) (fun h => ?_)
  case refine_2 => exact ret (by rw [← hr]; exact decide_eq_true fun k hk => hg k (by omega)) H
  have hjl : j < d.1.length := by omega
  obtain ⟨p, hp⟩ : ∃ p, d.1.getD j 0 = p := ⟨_, rfl⟩
  obtain ⟨q, hq⟩ : ∃ q, d.1.getD (j - 1) 0 = q := ⟨_, rfl⟩
  have hgd : goodC block d.1 j ↔ ((p = 10 ∨ p = 13 ∨ p = 8232 ∨ p = 8233) → p = 10 ∧ block = true) ∧ (block = true → 0 < j → ¬ (q = 42 ∧ p = 47)) := by
    unfold goodC linesOK lineE
    rw [hp, hq]
    refine and_congr ?_ Iff.rfl
    cases block <;> simp only [Bool.or_eq_true, Bool.not_eq_true', decide_eq_false_iff_not, Bool.and_eq_true, decide_eq_true_eq, Bool.false_eq_true, and_false, or_false, and_true] <;> omega
  have hp' : d.1.getD (j : Int).toNat 0 = p := hp
  have hq' : d.1.getD ((j : Int) - 1).toNat 0 = q := by rw [show ((j : Int) - 1).toNat = j - 1 by omega]; exact hq
  have step : ∀ {w : World}, goodC block d.1 j → St W.heap.size W w [.rowI (.slice A2 d.1.length c2) d.1, .obj g0 (.cells #[.bool block, .slice A text.length c] 73)] → (∀ i, i < j + 1 → goodC block d.1 i) ∧ St W.heap.size W w [.rowI (.slice A2 d.1.length c2) d.1, .obj g0 (.cells #[.bool block, .slice A text.length c] 73)] := fun g H => ⟨fun i hi => by rcases Nat.lt_succ_iff_lt_or_eq.1 hi with q | rfl; exact hg i q; exact g, H⟩
  cases block
  · have hgd : goodC false d.1 j ↔ ¬ (p = 10 ∨ p = 13 ∨ p = 8232 ∨ p = 8233) := by rw [hgd]; simp
    refine JoinV.mk ?_
    refine RegV.mk ?_
    refine idxI (H.rd 0 rfl) (by omega) (by omega) fun b off hc => ?_
    refine loadS hc ?_
    refine callV ok_l4lineEnd (spec_l4lineEnd _ _) H fun w H => ?_
    refine gT (fun c4 => ?_) (fun c4 => ?_)
    · refine idxI (H.rd 0 rfl) (by omega) (by omega) fun b off hc => ?_
      refine loadS hc ?_
      refine gF (fun c7 => ?_) (fun c7 => ?_)
      · refine loadO H 1 rfl rfl ?_
        refine gY ?_
        refine ifNot ?_
        refine ifF ?_
        exact no j hjl (fun g => (hgd.1 g) (by omega)) H
      · refine gY ?_
        refine ifT ?_
        exact no j hjl (fun g => (hgd.1 g) (by omega)) H
    · refine gNot ?_
      refine gNf ?_
      refine ifF ?_
      refine RegV.mk ?_
      refine loadO H 1 rfl rfl ?_
      refine gNt ?_
      refine gNt ?_
      refine gNt ?_
      refine ifF ?_
      refine arN (by omega) ?_
      exact Exists.intro (m - 1) (And.intro (by omega) ⟨rfl, rfl, j + 1, rfl, by omega, step (hgd.2 (by omega)) H⟩)
  · have hgd : goodC true d.1 j ↔ ((p = 10 ∨ p = 13 ∨ p = 8232 ∨ p = 8233) → p = 10) ∧ (0 < j → ¬ (q = 42 ∧ p = 47)) := by rw [hgd]; simp
    refine JoinV.mk ?_
    refine RegV.mk ?_
    refine idxI (H.rd 0 rfl) (by omega) (by omega) fun b off hc => ?_
    refine loadS hc ?_
    refine callV ok_l4lineEnd (spec_l4lineEnd _ _) H fun w H => ?_
    refine gT (fun c4 => ?_) (fun c4 => ?_)
    · refine idxI (H.rd 0 rfl) (by omega) (by omega) fun b off hc => ?_
      refine loadS hc ?_
      refine gF (fun c7 => ?_) (fun c7 => ?_)
      · refine loadO H 1 rfl rfl ?_
        refine gY ?_
        refine ifNot ?_
        refine ifT ?_
        refine RegV.mk ?_
        refine loadO H 1 rfl rfl ?_
        refine gY ?_
        refine gT (fun c15 => ?_) (fun c15 => ?_)
        · refine idxI (H.rd 0 rfl) (by omega) (by omega) fun b off hc => ?_
          refine loadS hc ?_
          refine gT (fun c18 => absurd c18 (by omega)) (fun c18 => ?_)
          refine ifF ?_
          refine arN (by omega) ?_
          exact Exists.intro (m - 1) (And.intro (by omega) ⟨rfl, rfl, j + 1, rfl, by omega, step (hgd.2 (by omega)) H⟩)
        · refine gNt ?_
          refine ifF ?_
          refine arN (by omega) ?_
          exact Exists.intro (m - 1) (And.intro (by omega) ⟨rfl, rfl, j + 1, rfl, by omega, step (hgd.2 (by omega)) H⟩)
      · refine gY ?_
        refine ifT ?_
        exact no j hjl (fun g => absurd (hgd.1 g) (by omega)) H
    · refine gNot ?_
      refine gNf ?_
      refine ifF ?_
      refine RegV.mk ?_
      refine loadO H 1 rfl rfl ?_
      refine gY ?_
      refine gT (fun c32 => ?_) (fun c32 => ?_)
      · refine idxI (H.rd 0 rfl) (by omega) (by omega) fun b off hc => ?_
        refine loadS hc ?_
        refine gT (fun c35 => ?_) (fun c35 => ?_)
        · refine ar64 (by omega) (by omega) ?_
          refine idxI (H.rd 0 rfl) (by omega) (by omega) fun b off hc => ?_
          refine loadS hc ?_
          refine ifB (fun c39 => ?_) (fun c39 => ?_)
          · exact no j hjl (fun g => absurd (hgd.1 g) (by omega)) H
          · refine arN (by omega) ?_
            exact Exists.intro (m - 1) (And.intro (by omega) ⟨rfl, rfl, j + 1, rfl, by omega, step (hgd.2 (by omega)) H⟩)
        · refine ifF ?_
          refine arN (by omega) ?_
          exact Exists.intro (m - 1) (And.intro (by omega) ⟨rfl, rfl, j + 1, rfl, by omega, step (hgd.2 (by omega)) H⟩)
      · refine gNt ?_
        refine ifF ?_
        refine arN (by omega) ?_
        exact Exists.intro (m - 1) (And.intro (by omega) ⟨rfl, rfl, j + 1, rfl, by omega, step (hgd.2 (by omega)) H⟩)
theorem ok_l5commentsOK : callOK Try.prog 29 = true := by kernel_rfl
theorem spec_l5commentsOK {fs : List CommentG} {A : Option Addr} {n c : Nat} {W : World} (hx : RdComment W (.slice A n c) n fs) (hl : n ≤ 4294967296) (hs : ∀ f ∈ fs, SmallComment f) (hb : ∀ f ∈ fs, byteOK f.text) : GivesV Try.prog 29 [.slice A n c] W (.bool ((fs.map CommentG.p).all commentOK)) := by
  have H := St.enter W
  obtain rfl := hx.len
  obtain ⟨r, hr⟩ : ∃ r, (fs.map CommentG.p).all commentOK = r := ⟨_, rfl⟩
  rw [hr]
  refine calls_of_vcV (args := [.slice A fs.length c]) Try.func29 rfl (by kernel_rfl) (Nat.le_of_ble_eq_true rfl) ?_
  have ret : ∀ {b : Bool} {w : World} {L : List It}, r = b → St W.heap.size W w L → ∃ v, Ending.returned (.bool b) = .returned v ∧ v = .bool r ∧ St W.heap.size W w [] := fun e H => ⟨_, rfl, by rw [e], H.none⟩
  refine loopV (by kernel_rfl) (fun m e w => e 0 = .slice A fs.length c ∧ ∃ j : Nat, e 3 = .int .i64 j ∧ j + m = fs.length ∧ ((fs.drop j).map CommentG.p).all commentOK = r ∧ St W.heap.size W w []) fs.length
    ⟨rfl, 0, rfl, by omega, hr, H⟩ ?_
  rintro m e w ⟨h0, j, h3, hj, hg, H⟩
  rw [Env.two h0 h3]
  refine ifB (fun h => ?_) (fun h => ?_)
  case refine_2 => exact ret (by rw [← hg, List.drop_of_length_le (by omega)]; rfl) H
  have hjl : j < fs.length := by omega
  obtain ⟨f, hf⟩ : ∃ f, fs[j]? = some f := ⟨_, List.getElem?_eq_getElem hjl⟩
  have hfm : f ∈ fs := List.mem_of_getElem? hf
  have hdr : fs.drop j = f :: fs.drop (j + 1) := by
    rw [List.drop_eq_getElem_cons hjl]
    congr 1
    rw [List.getElem?_eq_getElem hjl] at hf
    exact Option.some.inj hf
  rw [hdr, List.map_cons, List.all_cons] at hg
  have hkf := hx.kids f hfm
  have hsf := hs f hfm
  have hbf := hb f hfm
  refine JoinV.mk ?_
  refine idxC (cells := CommentG.cells) CommentG.cells_len (hx.ext H.below).row hf hjl fun b off hc => ?_
  refine loadS (hc 0 _ rfl) ?_
  refine loadS (hc 1 _ rfl) ?_
  refine callV ok_l5commentOK (spec_l5commentOK (hkf.ext H.below) hbf hsf.text) H fun w H => ?_
  refine ifNot ?_
  refine ifO (fun hq => ?_) (fun hq => ?_)
  · rw [hq, Bool.true_and] at hg
    refine arN (by omega) ?_
    exact Exists.intro (m - 1) (And.intro (by omega) ⟨rfl, j + 1, rfl, by omega, hg, H⟩)
  · rw [hq, Bool.false_and] at hg
    exact ret hg.symm H
theorem ok_l5unitsOK : callOK Try.prog 66 = true := by kernel_rfl
theorem spec_l5unitsOK {xs : List Int} {A : Option Addr} {c : Nat} {W : World} (hx : RdI W (.slice A xs.length c) xs) (hl : xs.length ≤ 4294967296) : GivesV Try.prog 66 [.slice A xs.length c] W (.bool (goodU xs)) := by
  have H := St.enter W
  refine calls_of_vcV (args := [.slice A xs.length c]) Try.func66 rfl (by kernel_rfl) (Nat.le_of_ble_eq_true rfl) ?_
  refine callRow2 ok_spec_FromUnits (spec_FromUnits xs A c W hx hl) H fun A2 c2 w H => ?_
  refine Exists.intro _ (And.intro rfl (And.intro (congrArg Value.bool ?_) H.none))
  unfold fromR
  cases goodU xs <;> rfl
end Go.Proofs.YtpaklalfopfilaaE
/- The reference's test of a node. -/
namespace Go.Proofs.YtpaklalfopfilaaE
open Go Go.RowKit Go.Proofs
set_option linter.unusedVariables false
set_option linter.unusedSimpArgs false
set_option maxRecDepth 100000
set_option maxHeartbeats 4000000

theorem ok_l5nodeOK : callOK Try.prog 30 = true := by kernel_rfl
theorem spec_l5nodeOK {f : NodeG} {W : World} (h : f.Rd W) (s : SmallNode f) (hb : ByteN f.p) : GivesV Try.prog 30 [.agg f.cells.toArray] W (.bool (decide (nodeOK f.p))) := by
  have H := St.enter W
  have s0 := s.lead
  have ss0 := s.leads
  have s1 := s.key
  have s2 := s.text
  have s3 := s.units
  have s4 := s.tail
  have ss4 := s.tails
  have b0 : ∀ g ∈ f.lead, byteOK g.text := fun g hg => hb.lead g.p (List.mem_map_of_mem hg)
  have b4 : ∀ g ∈ f.tail, byteOK g.text := fun g hg => hb.tail g.p (List.mem_map_of_mem hg)
  have b2 : byteOK f.text := hb.b
  clear s hb
  obtain ⟨A0, c0, A1, c1, A2, c2, A3, c3, A4, c4, e0, e1, e2, e3, e4⟩ := NodeG.shape h
  obtain ⟨leadV, keyV, textV, unitsV, tailV, kind, lead, member, key, text, units, count, tail⟩ := f
  dsimp only at e0 e1 e2 e3 e4 s0 ss0 s1 s2 s3 s4 ss4 b0 b4 b2
  subst e0 e1 e2 e3 e4
  have hk : RdComment W (.slice A0 lead.length c0) lead.length lead ∧ RdI W (.slice A1 key.length c1) key ∧ RdB W (.slice A2 text.length c2) text ∧ RdI W (.slice A3 units.length c3) units ∧ RdComment W (.slice A4 tail.length c4) tail.length tail := h
  clear h
  obtain ⟨r, hr⟩ : ∃ r, decide (nodeOK (NodeG.p ⟨.slice A0 lead.length c0, .slice A1 key.length c1, .slice A2 text.length c2, .slice A3 units.length c3, .slice A4 tail.length c4, kind, lead, member, key, text, units, count, tail⟩)) = r := ⟨_, rfl⟩
  rw [hr]
  have lt : (tail.map CommentG.p).length = tail.length := List.length_map _
  have hr : decide ((0 ≤ kind ∧ kind ≤ 6) ∧ (lead.map CommentG.p).all commentOK = true ∧ (tail.map CommentG.p).all commentOK = true ∧ goodU key = true ∧ goodU units = true ∧ (member = false → key.length = 0) ∧ (kind = 3 → numb text = true) ∧ (kind ≠ 3 → text.length = 0) ∧ (kind ≠ 4 → units.length = 0) ∧ (kind < 5 → count = 0 ∧ (tail.map CommentG.p).length = 0) ∧ 0 ≤ count) = r := hr
  rw [lt] at hr
  have cl : ∀ {w : World}, Below W.heap.size W w → GivesV Try.prog 29 [.slice A0 lead.length c0] w (.bool ((lead.map CommentG.p).all commentOK)) := fun hB => spec_l5commentsOK (hk.1.ext hB) s0 ss0 b0
  have ct : ∀ {w : World}, Below W.heap.size W w → GivesV Try.prog 29 [.slice A4 tail.length c4] w (.bool ((tail.map CommentG.p).all commentOK)) := fun hB => spec_l5commentsOK (hk.2.2.2.2.ext hB) s4 ss4 b4
  have ck : ∀ {w : World}, Below W.heap.size W w → GivesV Try.prog 66 [.slice A1 key.length c1] w (.bool (goodU key)) := fun hB => spec_l5unitsOK (hk.2.1.ext hB) s1
  have cu : ∀ {w : World}, Below W.heap.size W w → GivesV Try.prog 66 [.slice A3 units.length c3] w (.bool (goodU units)) := fun hB => spec_l5unitsOK (hk.2.2.2.1.ext hB) s3
  have cn : ∀ {w : World}, Below W.heap.size W w → GivesV Try.prog 67 [.slice A2 text.length c2] w (.bool (numb text)) := fun hB => spec_IsNumber b2 (by omega) (hk.2.2.1.ext hB)
  generalize (lead.map CommentG.p).all commentOK = lo at *
  generalize (tail.map CommentG.p).all commentOK = ta at *
  generalize goodU key = gk at *
  generalize goodU units = gu at *
  generalize numb text = nt at *
  have cc : ∀ {w : World} {v : Value} {b : Bool}, ((v = .slice A0 lead.length c0 ∧ b = lo) ∨ (v = .slice A4 tail.length c4 ∧ b = ta)) → Below W.heap.size W w → GivesV Try.prog 29 [v] w (.bool b) := fun h hB => by
    rcases h with ⟨rfl, rfl⟩ | ⟨rfl, rfl⟩
    · exact cl hB
    · exact ct hB
  have cg : ∀ {w : World} {v : Value} {b : Bool}, ((v = .slice A1 key.length c1 ∧ b = gk) ∨ (v = .slice A3 units.length c3 ∧ b = gu)) → Below W.heap.size W w → GivesV Try.prog 66 [v] w (.bool b) := fun h hB => by
    rcases h with ⟨rfl, rfl⟩ | ⟨rfl, rfl⟩
    · exact ck hB
    · exact cu hB
  clear cl ct ck cu
  have ret : ∀ {b : Bool} {w : World} {L : List It}, r = b → St W.heap.size W w L → ∃ v, Ending.returned (.bool b) = .returned v ∧ v = .bool r ∧ St W.heap.size W w [] := fun e H => ⟨_, rfl, by rw [e], H.none⟩
  show GivesV Try.prog 30 [.agg #[.int .i64 kind, .slice A0 lead.length c0, .bool member, .slice A1 key.length c1, .slice A2 text.length c2, .slice A3 units.length c3, .int .i64 count, .slice A4 tail.length c4]] W _
  refine calls_of_vcV (args := [.agg #[.int .i64 kind, .slice A0 lead.length c0, .bool member, .slice A1 key.length c1, .slice A2 text.length c2, .slice A3 units.length c3, .int .i64 count, .slice A4 tail.length c4]]) Try.func30 rfl (by kernel_rfl) (Nat.le_of_ble_eq_true rfl) ?_
  refine newR (o := .cells #[.int .i64 kind, .slice A0 lead.length c0, .bool member, .slice A1 key.length c1, .slice A2 text.length c2, .slice A3 units.length c3, .int .i64 count, .slice A4 tail.length c4] _) H fun g0 w H => ?_
  refine cutG (fun e w => e 1 = .pointer (some ⟨g0, 0, none⟩) ∧ e 22 = .bool (decide (¬ ((0 ≤ kind ∧ kind ≤ 6) ∧ lo = true ∧ ta = true))) ∧ St W.heap.size W w [.obj g0 (.cells #[.int .i64 kind, .slice A0 lead.length c0, .bool member, .slice A1 key.length c1, .slice A2 text.length c2, .slice A3 units.length c3, .int .i64 count, .slice A4 tail.length c4] 67)]) ?_ ?_
  · refine loadO H 0 rfl rfl ?_
    refine gF (fun c1 => ?_) (fun c1 => ?_)
    · refine loadO H 0 rfl rfl ?_
      refine gF (fun c3 => ?_) (fun c3 => ?_)
      · refine loadO H 0 rfl rfl ?_
        refine callV ok_l5commentsOK (cc (by first | exact Or.inl ⟨rfl, rfl⟩ | exact Or.inr ⟨rfl, rfl⟩) H.below) H fun w H => ?_
        refine gNot ?_
        refine gO (fun c7 => ?_) (fun c7 => ?_)
        · refine loadO H 0 rfl rfl ?_
          refine callV ok_l5commentsOK (cc (by first | exact Or.inl ⟨rfl, rfl⟩ | exact Or.inr ⟨rfl, rfl⟩) H.below) H fun w H => ?_
          exact ⟨rfl, congrArg Value.bool (by clear ret cc cg cn; grind), H⟩
        · exact ⟨rfl, congrArg Value.bool (by clear ret cc cg cn; grind), H⟩
      · refine gNf ?_
        exact ⟨rfl, congrArg Value.bool (by clear ret cc cg cn; grind), H⟩
    · refine gNf ?_
      refine gNf ?_
      exact ⟨rfl, congrArg Value.bool (by clear ret cc cg cn; grind), H⟩
  rintro e w ⟨h1, h2, H⟩
  rw [Env.two h1 h2]
  refine ifB (fun x1 => ret (by rw [← hr]; exact decide_eq_false fun q => x1 ⟨q.1, q.2.1, q.2.2.1⟩) H) (fun x1 => ?_)
  refine cutG (fun e w => e 1 = .pointer (some ⟨g0, 0, none⟩) ∧ e 43 = .bool (decide (¬ (gk = true ∧ gu = true ∧ (member = false → key.length = 0)))) ∧ St W.heap.size W w [.obj g0 (.cells #[.int .i64 kind, .slice A0 lead.length c0, .bool member, .slice A1 key.length c1, .slice A2 text.length c2, .slice A3 units.length c3, .int .i64 count, .slice A4 tail.length c4] 67)]) ?_ ?_
  · refine loadO H 0 rfl rfl ?_
    refine callV ok_l5unitsOK (cg (by first | exact Or.inl ⟨rfl, rfl⟩ | exact Or.inr ⟨rfl, rfl⟩) H.below) H fun w H => ?_
    refine gNot ?_
    refine gO (fun c3 => ?_) (fun c3 => ?_)
    · refine loadO H 0 rfl rfl ?_
      refine callV ok_l5unitsOK (cg (by first | exact Or.inl ⟨rfl, rfl⟩ | exact Or.inr ⟨rfl, rfl⟩) H.below) H fun w H => ?_
      refine gNot ?_
      refine gO (fun c7 => ?_) (fun c7 => ?_)
      · refine loadO H 0 rfl rfl ?_
        refine gNot ?_
        refine gO (fun c10 => ?_) (fun c10 => ?_)
        · refine loadO H 0 rfl rfl ?_
          refine gY ?_
          exact ⟨rfl, congrArg Value.bool (by clear ret cc cg cn; grind), H⟩
        · refine gY ?_
          exact ⟨rfl, congrArg Value.bool (by clear ret cc cg cn; grind), H⟩
      · refine gNot ?_
        refine gNt ?_
        exact ⟨rfl, congrArg Value.bool (by clear ret cc cg cn; grind), H⟩
    · refine gNf ?_
      refine gNot ?_
      refine gNt ?_
      exact ⟨rfl, congrArg Value.bool (by clear ret cc cg cn; grind), H⟩
  rintro e w ⟨h1, h2, H⟩
  rw [Env.two h1 h2]
  refine ifB (fun x2 => ret (by rw [← hr]; exact decide_eq_false fun q => x2 ⟨q.2.2.2.1, q.2.2.2.2.1, q.2.2.2.2.2.1⟩) H) (fun x2 => ?_)
  refine joinV (fun e w => e 1 = .pointer (some ⟨g0, 0, none⟩) ∧ (kind = 3 → nt = true) ∧ (kind ≠ 3 → text.length = 0) ∧ St W.heap.size W w [.obj g0 (.cells #[.int .i64 kind, .slice A0 lead.length c0, .bool member, .slice A1 key.length c1, .slice A2 text.length c2, .slice A3 units.length c3, .int .i64 count, .slice A4 tail.length c4] 67)]) rfl ?_ ?_
  · refine loadO H 0 rfl rfl ?_
    refine ifB (fun c1 => ?_) (fun c1 => ?_)
    · refine loadO H 0 rfl rfl ?_
      refine callV ok_spec_IsNumber (cn H.below) H fun w H => ?_
      refine ifNot ?_
      refine ifO (fun c5 => ?_) (fun c5 => ?_)
      · first | exact ret (by rw [← hr]; clear ret cc cg cn; grind) H | exact ⟨rfl, (by clear ret cc cg cn; grind), (by clear ret cc cg cn; grind), H⟩
      · first | exact ret (by rw [← hr]; clear ret cc cg cn; grind) H | exact ⟨rfl, (by clear ret cc cg cn; grind), (by clear ret cc cg cn; grind), H⟩
    · refine loadO H 0 rfl rfl ?_
      refine ifB (fun c7 => ?_) (fun c7 => ?_)
      · first | exact ret (by rw [← hr]; clear ret cc cg cn; grind) H | exact ⟨rfl, (by clear ret cc cg cn; grind), (by clear ret cc cg cn; grind), H⟩
      · first | exact ret (by rw [← hr]; clear ret cc cg cn; grind) H | exact ⟨rfl, (by clear ret cc cg cn; grind), (by clear ret cc cg cn; grind), H⟩
  rintro e w ⟨h1, x3, x4, H⟩
  rw [Env.one h1]
  refine cutG (fun e w => e 1 = .pointer (some ⟨g0, 0, none⟩) ∧ e 63 = .bool (decide (¬ (kind ≠ 4 → units.length = 0))) ∧ St W.heap.size W w [.obj g0 (.cells #[.int .i64 kind, .slice A0 lead.length c0, .bool member, .slice A1 key.length c1, .slice A2 text.length c2, .slice A3 units.length c3, .int .i64 count, .slice A4 tail.length c4] 67)]) ?_ ?_
  · refine loadO H 0 rfl rfl ?_
    refine gT (fun c1 => ?_) (fun c1 => ?_)
    · refine loadO H 0 rfl rfl ?_
      exact ⟨rfl, congrArg Value.bool (by clear ret cc cg cn; grind), H⟩
    · exact ⟨rfl, congrArg Value.bool (by clear ret cc cg cn; grind), H⟩
  rintro e w ⟨h1, h2, H⟩
  rw [Env.two h1 h2]
  refine ifB (fun x5 => ret (by rw [← hr]; exact decide_eq_false fun q => x5 q.2.2.2.2.2.2.2.2.1) H) (fun x5 => ?_)
  refine cutG (fun e w => e 1 = .pointer (some ⟨g0, 0, none⟩) ∧ e 77 = .bool (decide (¬ (kind < 5 → count = 0 ∧ tail.length = 0))) ∧ St W.heap.size W w [.obj g0 (.cells #[.int .i64 kind, .slice A0 lead.length c0, .bool member, .slice A1 key.length c1, .slice A2 text.length c2, .slice A3 units.length c3, .int .i64 count, .slice A4 tail.length c4] 67)]) ?_ ?_
  · refine loadO H 0 rfl rfl ?_
    refine gT (fun c1 => ?_) (fun c1 => ?_)
    · refine loadO H 0 rfl rfl ?_
      refine gF (fun c3 => ?_) (fun c3 => ?_)
      · refine loadO H 0 rfl rfl ?_
        refine gY ?_
        exact ⟨rfl, congrArg Value.bool (by clear ret cc cg cn; grind), H⟩
      · refine gY ?_
        exact ⟨rfl, congrArg Value.bool (by clear ret cc cg cn; grind), H⟩
    · refine gNot ?_
      refine gNf ?_
      exact ⟨rfl, congrArg Value.bool (by clear ret cc cg cn; grind), H⟩
  rintro e w ⟨h1, h2, H⟩
  rw [Env.two h1 h2]
  refine ifB (fun x6 => ret (by rw [← hr]; exact decide_eq_false fun q => x6 q.2.2.2.2.2.2.2.2.2.1) H) (fun x6 => ?_)
  refine loadO H 0 rfl rfl ?_
  have x1 := Classical.not_not.1 x1
  have x2 := Classical.not_not.1 x2
  have x5 := Classical.not_not.1 x5
  have x6 := Classical.not_not.1 x6
  exact Exists.intro _ (And.intro rfl (And.intro (congrArg Value.bool (by rw [← hr]; clear ret cc cg cn; grind)) H.none))
end Go.Proofs.YtpaklalfopfilaaE
/- The reference's walk over a tree's nodes. -/
namespace Go.Proofs.YtpaklalfopfilaaE
open Go Go.RowKit Go.Proofs
set_option linter.unusedVariables false
set_option linter.unusedSimpArgs false
set_option maxRecDepth 100000
set_option maxHeartbeats 4000000

/-- a whole record of eight cells written -/
theorem store8 {B : Nat} {W0 w : World} {L : List It} {g : Nat} {t : TypeId} {z0 z1 z2 z3 z4 z5 z6 z7 v0 v1 v2 v3 v4 v5 v6 v7 : Value} {K : World → Prop} (H : St B W0 w L) (i : Nat) (hi : L[i]? = some (.obj g (.cells #[z0, z1, z2, z3, z4, z5, z6, z7] t (0, 0))))
    (hv : ([v0, v1, v2, v3, v4, v5, v6, v7].all fun v => v.oneCell') = true) (k : ∀ w', St B W0 w' (L.set i (.obj g (.cells #[v0, v1, v2, v3, v4, v5, v6, v7] t (0, 0)))) → K w') :
    StoreS w ⟨g, 0, none⟩ v0 fun w => StoreS w ⟨g, 1, none⟩ v1 fun w => StoreS w ⟨g, 2, none⟩ v2 fun w => StoreS w ⟨g, 3, none⟩ v3 fun w => StoreS w ⟨g, 4, none⟩ v4 fun w => StoreS w ⟨g, 5, none⟩ v5 fun w => StoreS w ⟨g, 6, none⟩ v6 fun w => StoreS w ⟨g, 7, none⟩ v7 K := by
  simp only [List.all_cons, List.all_nil, Bool.and_true, Bool.and_eq_true] at hv
  obtain ⟨h0, h1, h2, h3, h4, h5, h6, h7⟩ := hv
  have hil := (List.getElem?_eq_some_iff.1 hi).1
  have st : ∀ {w : World} {cs : List Value} {M : List It} {v : Value} {K : World → Prop} (off : Nat), St B W0 w (L.set i (.obj g (.cells cs.toArray t (0, 0)))) → off < cs.length → v.oneCell' = true → (∀ w', St B W0 w' (L.set i (.obj g (.cells (cs.set off v).toArray t (0, 0)))) → K w') → StoreS w ⟨g, off, none⟩ v K := by
    intro w cs M v K off S ho h1 k
    refine storeO S i (cs := cs) (t := t) (by rw [List.getElem?_set_self hil]) (by simpa using ho) h1 fun w' S' => k w' ?_
    rw [List.set_set] at S'
    exact S'
  rw [← set_same hi] at H
  refine st (M := []) 0 (cs := [z0, z1, z2, z3, z4, z5, z6, z7]) H (by simp) h0 fun w H => ?_
  refine st (M := []) 1 (cs := [v0, z1, z2, z3, z4, z5, z6, z7]) H (by simp) h1 fun w H => ?_
  refine st (M := []) 2 (cs := [v0, v1, z2, z3, z4, z5, z6, z7]) H (by simp) h2 fun w H => ?_
  refine st (M := []) 3 (cs := [v0, v1, v2, z3, z4, z5, z6, z7]) H (by simp) h3 fun w H => ?_
  refine st (M := []) 4 (cs := [v0, v1, v2, v3, z4, z5, z6, z7]) H (by simp) h4 fun w H => ?_
  refine st (M := []) 5 (cs := [v0, v1, v2, v3, v4, z5, z6, z7]) H (by simp) h5 fun w H => ?_
  refine st (M := []) 6 (cs := [v0, v1, v2, v3, v4, v5, z6, z7]) H (by simp) h6 fun w H => ?_
  refine st (M := []) 7 (cs := [v0, v1, v2, v3, v4, v5, v6, z7]) H (by simp) h7 fun w H => ?_
  exact k w H
def optI : Option Nat → Int
  | some j => j
  | none => -1
/-- what the nodes' kinds and counts say -/
def CntOK (fs : List NodeG) : Prop := ∀ f ∈ fs, (f.kind < 5 → f.count = 0) ∧ 0 ≤ f.count ∧ f.count ≤ 9223372036854775807
theorem endT_eq {fs : List NodeG} (hk : CntOK fs) (d i : Nat) (m : Bool) {f : NodeG} (hf : fs[i]? = some f) : endT (fs.map NodeG.p) d i m = if f.member = m then (if 5 ≤ f.kind ∧ d = 0 then none else itN (fun j => endT (fs.map NodeG.p) (d - 1) j (decide (f.kind = 6))) f.count.toNat (i + 1)) else none := by
  have h1 : (fs.map NodeG.p)[i]? = some f.p := by rw [List.getElem?_map, hf]; rfl
  have hc := hk f (List.mem_of_getElem? hf)
  cases d with
  | zero =>
    rw [endT, h1]
    show (if f.member = m ∧ f.kind < 5 then some (i + 1) else none) = _
    by_cases hm : f.member = m
    · rw [if_pos hm]
      by_cases h5 : f.kind < 5
      · rw [if_pos ⟨hm, h5⟩, if_neg (by omega), hc.1 h5]; rfl
      · rw [if_neg (fun q => h5 q.2), if_pos ⟨by omega, rfl⟩]
    · rw [if_neg hm, if_neg (fun q => hm q.1)]
  | succ d =>
    rw [endT, h1]
    show (if f.member = m then itN (fun j => endT (fs.map NodeG.p) d j (decide (f.kind = 6))) f.count.toNat (i + 1) else none) = _
    by_cases hm : f.member = m
    · rw [if_pos hm, if_pos hm, if_neg (by omega)]; rfl
    · rw [if_neg hm, if_neg hm]
theorem endT_none {fs : List NodeG} (d i : Nat) (m : Bool) (h : fs.length ≤ i) : endT (fs.map NodeG.p) d i m = none := by
  have h1 : (fs.map NodeG.p)[i]? = none := by rw [List.getElem?_eq_none]; simpa using h
  cases d <;> rw [endT, h1]
theorem itN_succ (f : Nat → Option Nat) (k i : Nat) : itN f (k + 1) i = (match f i with | some j => itN f k j | none => none) := rfl
theorem ok_l5end : callOK Try.prog 31 = true := by kernel_rfl
theorem spec_l5end_step {t : TreeG} (hl : t.nodes.length ≤ 4294967296) (hk : CntOK t.nodes) {d : Nat} (hd : d ≤ 4294967296) {W : World} (hx : t.Rd W) {i : Nat} (hi : i ≤ 4294967296) {m : Bool} {di : Int} (hdi : di = d)
    (ih : 0 < d → ∀ {w : World}, Below W.heap.size W w → ∀ (j : Nat) (b : Bool) (e : Int), e = (d - 1 : Nat) → j ≤ 4294967296 → GivesV Try.prog 31 [.agg t.cells.toArray, .int .i64 j, .bool b, .int .i64 e] w (.int .i64 (optI (endT (t.nodes.map NodeG.p) (d - 1) j b)))) :
    GivesV Try.prog 31 [.agg t.cells.toArray, .int .i64 i, .bool m, .int .i64 di] W (.int .i64 (optI (endT (t.nodes.map NodeG.p) d i m))) := by
  subst hdi
  have H := St.enter W
  obtain ⟨A0, k0, A1, k1, e0, e1⟩ := TreeG.shape hx
  obtain ⟨nodesV, tailV, nodes, tail⟩ := t
  dsimp only at e0 e1 hl hk ih
  subst e0 e1
  have hN : RdNode W (.slice A0 nodes.length k0) nodes.length nodes := hx.1
  clear hx
  show GivesV Try.prog 31 [.agg #[.slice A0 nodes.length k0, .slice A1 tail.length k1], .int .i64 i, .bool m, .int .i64 d] W (.int .i64 (optI (endT (nodes.map NodeG.p) d i m)))
  obtain ⟨r, hr⟩ : ∃ r, endT (nodes.map NodeG.p) d i m = r := ⟨_, rfl⟩
  rw [hr]
  have ret : ∀ {b : Int} {w : World} {L : List It}, optI r = b → St W.heap.size W w L → ∃ v, Ending.returned (.int .i64 b) = .returned v ∧ v = .int .i64 (optI r) ∧ St W.heap.size W w [] := fun e H => ⟨_, rfl, by rw [e], H.none⟩
  refine calls_of_vcV (args := [.agg #[.slice A0 nodes.length k0, .slice A1 tail.length k1], .int .i64 i, .bool m, .int .i64 d]) Try.func31 rfl (by kernel_rfl) (Nat.le_of_ble_eq_true rfl) ?_
  refine newR (o := .cells #[.slice A0 nodes.length k0, .slice A1 tail.length k1] _) H fun g0 w H => ?_
  by_cases hil : nodes.length ≤ i
  · rw [endT_none d i m hil] at hr
    subst hr
    refine RegV.mk ?_
    refine loadO H 0 rfl rfl ?_
    refine gF (fun c => absurd c (by omega)) (fun c => ?_)
    refine ifT ?_
    exact ret rfl H
  have hil : i < nodes.length := by omega
  obtain ⟨f, hf⟩ : ∃ f, nodes[i]? = some f := ⟨_, List.getElem?_eq_getElem hil⟩
  have hfm : f ∈ nodes := List.mem_of_getElem? hf
  rw [endT_eq hk d i m hf] at hr
  have hkf := hk f hfm
  obtain ⟨B0, b0, B1, b1, B2, b2, B3, b3, B4, b4, e0, e1, e2, e3, e4⟩ := NodeG.shape (hN.kids f hfm)
  obtain ⟨leadV, keyV, textV, unitsV, tailV', kind, lead, member, key, text, units, count, tail'⟩ := f
  dsimp only at e0 e1 e2 e3 e4 hkf hr
  subst e0 e1 e2 e3 e4
  refine RegV.mk ?_
  refine loadO H 0 rfl rfl ?_
  refine gF (fun c => ?_) (fun c => absurd c (by omega))
  refine loadO H 0 rfl rfl ?_
  refine idxC (cells := NodeG.cells) NodeG.cells_len (hN.ext H.below).row hf hil fun b off hc => ?_
  refine loadS (v := .bool member) (hc 2 _ rfl) ?_
  refine ifNot ?_
  refine ifB (fun c1 => ?_) (fun c1 => ?_)
  · refine loadO H 0 rfl rfl ?_
    rw [if_pos ‹member = m›] at hr
    refine idxC (cells := NodeG.cells) NodeG.cells_len (hN.ext H.below).row hf hil fun b off hc => ?_
    refine loadS (v := .int .i64 kind) (hc 0 _ rfl) ?_
    refine loadS (v := .slice B0 lead.length b0) (hc 1 _ rfl) ?_
    refine loadS (v := .bool member) (hc 2 _ rfl) ?_
    refine loadS (v := .slice B1 key.length b1) (hc 3 _ rfl) ?_
    refine loadS (v := .slice B2 text.length b2) (hc 4 _ rfl) ?_
    refine loadS (v := .slice B3 units.length b3) (hc 5 _ rfl) ?_
    refine loadS (v := .int .i64 count) (hc 6 _ rfl) ?_
    refine loadS (v := .slice B4 tail'.length b4) (hc 7 _ rfl) ?_
    refine newR (o := .cells #[.int .i64 0, .slice none 0 0, .bool false, .slice none 0 0, .slice none 0 0, .slice none 0 0, .int .i64 0, .slice none 0 0] _) H fun g1 w H => ?_
    refine store8 H 0 rfl rfl fun w H => ?_
    refine cutG (fun e w => e 1 = .int .i64 i ∧ e 3 = .int .i64 d ∧ e 4 = .pointer (some ⟨g0, 0, none⟩) ∧ e 9 = .pointer (some ⟨g1, 0, none⟩) ∧ e 46 = .bool (decide (count > nodes.length ∨ (5 ≤ kind ∧ d = 0))) ∧ St W.heap.size W w [.obj g1 (.cells #[.int .i64 kind, .slice B0 lead.length b0, .bool member, .slice B1 key.length b1, .slice B2 text.length b2, .slice B3 units.length b3, .int .i64 count, .slice B4 tail'.length b4] 67), .obj g0 (.cells #[.slice A0 nodes.length k0, .slice A1 tail.length k1] 31)]) ?_ ?_
    · refine loadO H 0 rfl rfl ?_
      refine loadO H 1 rfl rfl ?_
      refine gF (fun c2 => ?_) (fun c2 => ?_)
      · refine loadO H 0 rfl rfl ?_
        refine gT (fun c4 => ?_) (fun c4 => ?_)
        · refine gY ?_
          exact ⟨rfl, rfl, rfl, rfl, congrArg Value.bool (by clear ret ih; grind), H⟩
        · refine gY ?_
          exact ⟨rfl, rfl, rfl, rfl, congrArg Value.bool (by clear ret ih; grind), H⟩
      · refine gNot ?_
        refine gNt ?_
        exact ⟨rfl, rfl, rfl, rfl, congrArg Value.bool (by clear ret ih; grind), H⟩
    rintro e w ⟨h1, h3, h4, h9, h46, H⟩
    rw [Env.five h1 h3 h4 h9 h46]
    refine ifB (fun x => ?_) (fun x => ?_)
    · refine ret ?_ H
      rcases x with x | x
      · by_cases q : 5 ≤ kind ∧ d = 0
        · rw [if_pos q] at hr; subst hr; rfl
        · rw [if_neg q, itN_none (L := nodes.length) (fun a b e => by have := endT_up (nodes.map NodeG.p) (d - 1) a _ b e; rw [List.length_map] at this; exact this) (by omega) (by omega)] at hr
          subst hr; rfl
      · rw [if_pos x] at hr; subst hr; rfl
    rw [if_neg (fun q => x (Or.inr q))] at hr
    refine arN (by omega) ?_
    refine loopV (by kernel_rfl) (fun k e w => e 3 = .int .i64 d ∧ e 4 = .pointer (some ⟨g0, 0, none⟩) ∧ e 9 = .pointer (some ⟨g1, 0, none⟩) ∧ ∃ j a : Nat, e 11 = .int .i64 j ∧ e 10 = .int .i64 a ∧ j + k = count.toNat ∧ a ≤ nodes.length ∧ itN (fun j => endT (nodes.map NodeG.p) (d - 1) j (decide (kind = 6))) k a = r ∧ St W.heap.size W w [.obj g1 (.cells #[.int .i64 kind, .slice B0 lead.length b0, .bool member, .slice B1 key.length b1, .slice B2 text.length b2, .slice B3 units.length b3, .int .i64 count, .slice B4 tail'.length b4] 67), .obj g0 (.cells #[.slice A0 nodes.length k0, .slice A1 tail.length k1] 31)]) count.toNat
      ⟨rfl, rfl, rfl, 0, i + 1, rfl, rfl, by omega, by omega, hr, H⟩ ?_
    rintro k e w ⟨h3, h4, h9, j, a, h11, h10, hjk, ha, hit, H⟩
    rw [Env.five h3 h4 h9 h11 h10]
    refine loadO H 0 rfl rfl ?_
    refine ifB (fun h => ?_) (fun h => ?_)
    case refine_2 =>
      obtain rfl : k = 0 := by omega
      exact ret (by rw [← hit]; rfl) H
    obtain ⟨k, rfl⟩ : ∃ k', k = k' + 1 := ⟨k - 1, by omega⟩
    rw [itN_succ] at hit
    have hup := endT_up (nodes.map NodeG.p) (d - 1) a (decide (kind = 6))
    obtain ⟨o, ho⟩ : ∃ o, endT (nodes.map NodeG.p) (d - 1) a (decide (kind = 6)) = o := ⟨_, rfl⟩
    rw [ho] at hit hup
    rw [List.length_map] at hup
    have hcall : 0 < d → ∀ {w : World}, Below W.heap.size W w → ∀ e : Int, e = (d - 1 : Nat) → GivesV Try.prog 31 [.agg #[.slice A0 nodes.length k0, .slice A1 tail.length k1], .int .i64 a, .bool (decide (kind = 6)), .int .i64 e] w (.int .i64 (optI o)) := fun hd => fun hB e he => by rw [← ho]; exact ih hd hB a _ e he (by omega)
    refine JoinV.mk ?_
    refine loadO H 1 rfl rfl ?_
    refine loadO H 1 rfl rfl ?_
    refine loadO H 0 rfl rfl ?_
    refine ar64 (by omega) (by omega) ?_
    refine callV ok_l5end (hcall (by omega) H.below _ (by omega)) H fun w H => ?_
    cases o with
    | none =>
      refine ifB (fun _ => ?_) (fun q => absurd (show (-1 : Int) < 0 by decide) q)
      have hit : none = r := hit
      exact ret (by rw [← hit]; rfl) H
    | some b =>
      have hb := hup b rfl
      refine ifB (fun q => absurd (show (b : Int) < 0 from q) (by omega)) (fun _ => ?_)
      refine arN (by omega) ?_
      exact Exists.intro k (And.intro (by omega) ⟨rfl, rfl, rfl, j + 1, b, rfl, rfl, by omega, hb.2, hit, H⟩)
  · rw [if_neg ‹¬ member = m›] at hr
    subst hr
    exact ret rfl H
theorem spec_l5end {t : TreeG} (hl : t.nodes.length ≤ 4294967296) (hk : CntOK t.nodes) : ∀ (d : Nat), d ≤ 4294967296 → ∀ {W : World} (hx : t.Rd W) (i : Nat) (m : Bool) (di : Int), di = d → i ≤ 4294967296 →
    GivesV Try.prog 31 [.agg t.cells.toArray, .int .i64 i, .bool m, .int .i64 di] W (.int .i64 (optI (endT (t.nodes.map NodeG.p) d i m)))
  | 0, hd, W, hx, i, m, di, hdi, hi => spec_l5end_step hl hk hd hx hi hdi fun q => absurd q (Nat.lt_irrefl 0)
  | d + 1, hd, W, hx, i, m, di, hdi, hi => spec_l5end_step hl hk hd hx hi hdi fun _ w hB j b e he hj => spec_l5end hl hk d (by omega) (hx.ext hB) j b e he hj
end Go.Proofs.YtpaklalfopfilaaE
/- The reference's sizes of a tree, and its test of a whole tree. -/
namespace Go.Proofs.YtpaklalfopfilaaE
open Go Go.RowKit Go.Proofs
set_option linter.unusedVariables false
set_option linter.unusedSimpArgs false
set_option maxRecDepth 100000
set_option maxHeartbeats 4000000

def sumC (fs : List CommentG) : Nat := (fs.map CommentG.size).sum
theorem sumC_p (fs : List CommentG) : sizeC (fs.map CommentG.p) = sumC fs := by
  unfold sizeC sumC
  rw [List.map_map]; rfl
theorem ok_l5size : callOK Try.prog 64 = true := by kernel_rfl
theorem spec_l5size {fs : List CommentG} {A : Option Addr} {n c : Nat} {W : World} (hx : RdComment W (.slice A n c) n fs) (hl : n ≤ 4294967296) (hs : sumC fs ≤ 4294967296) : GivesV Try.prog 64 [.slice A n c] W (.tuple #[.int .i64 (sumC fs), .int .i64 n]) := by
  have H := St.enter W
  obtain rfl := hx.len
  refine calls_of_vcV (args := [.slice A fs.length c]) Try.func64 rfl (by kernel_rfl) (Nat.le_of_ble_eq_true rfl) ?_
  refine loopV (by kernel_rfl) (fun m e w => e 0 = .slice A fs.length c ∧ ∃ j a : Nat, e 5 = .int .i64 j ∧ e 4 = .int .i64 a ∧ j + m = fs.length ∧ a = sumC (fs.take j) ∧ St W.heap.size W w []) fs.length
    ⟨rfl, 0, 0, rfl, rfl, by omega, rfl, H⟩ ?_
  rintro m e w ⟨h0, j, a, h5, h4, hj, ha, H⟩
  rw [Env.three h0 h5 h4]
  refine ifB (fun h => ?_) (fun h => ?_)
  case refine_2 =>
    rw [List.take_of_length_le (by omega)] at ha
    subst ha
    exact Exists.intro _ (And.intro rfl (And.intro rfl H))
  have hjl : j < fs.length := by omega
  obtain ⟨f, hf⟩ : ∃ f, fs[j]? = some f := ⟨_, List.getElem?_eq_getElem hjl⟩
  have h1 := sizeComment_take hf
  have h2 := sizeComment_le fs (j + 1)
  unfold sumC at ha hs
  have e1 : f.size = f.text.length := rfl
  obtain ⟨A1, c1, e0⟩ := CommentG.shape (hx.kids f (List.mem_of_getElem? hf))
  refine idxC (cells := CommentG.cells) CommentG.cells_len (hx.ext H.below).row hf hjl fun b off hc => ?_
  refine loadS (v := .slice A1 f.text.length c1) (hc 1 _ (by show some f.textV = _; rw [e0])) ?_
  refine ar64 (by omega) (by omega) ?_
  refine arN (by omega) ?_
  exact Exists.intro (m - 1) (And.intro (by omega) ⟨rfl, j + 1, a + f.text.length, rfl, congrArg (Value.int .i64) (by omega), by omega, by unfold sumC; omega, H⟩)
def sumN (fs : List NodeG) : Nat := (fs.map fun f => sumC f.lead + sumC f.tail + f.key.length + f.text.length + f.units.length).sum
def cntN (fs : List NodeG) : Nat := (fs.map fun f => f.lead.length + f.tail.length).sum
theorem sumN_take {fs : List NodeG} {j : Nat} {f : NodeG} (h : fs[j]? = some f) : sumN (fs.take (j + 1)) = sumN (fs.take j) + (sumC f.lead + sumC f.tail + f.key.length + f.text.length + f.units.length) ∧ cntN (fs.take (j + 1)) = cntN (fs.take j) + (f.lead.length + f.tail.length) := by
  unfold sumN cntN
  rw [List.take_add_one, h, List.map_append, List.map_append, List.sum_append, List.sum_append]; simp
theorem sumN_size (fs : List NodeG) : sumN fs + cntN fs = (fs.map NodeG.size).sum := by
  induction fs with
  | nil => rfl
  | cons f fs ih =>
    unfold sumN cntN at ih ⊢
    simp only [List.map_cons, List.sum_cons]
    rw [← ih]
    have e : f.size = (f.lead.length + sumC f.lead) + f.key.length + f.text.length + f.units.length + (f.tail.length + sumC f.tail) := rfl
    omega
theorem sumN_le (fs : List NodeG) (j : Nat) : sumN (fs.take j) + cntN (fs.take j) ≤ (fs.map NodeG.size).sum := by
  rw [sumN_size]; exact sizeNode_le fs j
theorem sizTr_p (t : TreeG) : sizTr t.p = sumC t.tail + sumN t.nodes ∧ comTr t.p = t.tail.length + cntN t.nodes := by
  have h1 : ∀ fs : List NodeG, ((fs.map NodeG.p).map sizeN).sum = sumN fs ∧ ((fs.map NodeG.p).map comsN).sum = cntN fs := by
    intro fs
    induction fs with
    | nil => exact ⟨rfl, rfl⟩
    | cons f fs ih =>
      unfold sumN cntN at ih ⊢
      simp only [List.map_cons, List.sum_cons]
      refine ⟨?_, ?_⟩
      · rw [ih.1]
        congr 1
        show sizeC (f.lead.map CommentG.p) + sizeC (f.tail.map CommentG.p) + _ + _ + _ = _
        rw [sumC_p, sumC_p]; rfl
      · rw [ih.2]
        congr 1
        show (f.lead.map CommentG.p).length + (f.tail.map CommentG.p).length = _
        rw [List.length_map, List.length_map]
  refine ⟨?_, ?_⟩
  · show sizeC (t.tail.map CommentG.p) + _ = _
    rw [sumC_p, ← (h1 t.nodes).1]; rfl
  · show (t.tail.map CommentG.p).length + _ = _
    rw [List.length_map, ← (h1 t.nodes).2]; rfl
theorem ok_l5small : callOK Try.prog 28 = true := by kernel_rfl
theorem spec_l5small {t : TreeG} {W : World} (hx : t.Rd W) (hs : t.size ≤ 4294967296) : GivesV Try.prog 28 [.agg t.cells.toArray] W (.bool (decide (sizTr t.p ≤ 100000 ∧ comTr t.p ≤ 4000))) := by
  have H := St.enter W
  obtain ⟨A0, k0, A1, k1, e0, e1⟩ := TreeG.shape hx
  have hz := sizTr_p t
  rw [hz.1, hz.2]
  clear hz
  obtain ⟨nodesV, tailV, nodes, tail⟩ := t
  dsimp only at e0 e1
  subst e0 e1
  have hN : RdNode W (.slice A0 nodes.length k0) nodes.length nodes := hx.1
  have hT : RdComment W (.slice A1 tail.length k1) tail.length tail := hx.2
  have hs : (nodes.length + (nodes.map NodeG.size).sum) + (tail.length + sumC tail) ≤ 4294967296 := hs
  have hsz := sumN_size nodes
  clear hx
  show GivesV Try.prog 28 [.agg #[.slice A0 nodes.length k0, .slice A1 tail.length k1]] W (.bool (decide (sumC tail + sumN nodes ≤ 100000 ∧ tail.length + cntN nodes ≤ 4000)))
  refine calls_of_vcV (args := [.agg #[.slice A0 nodes.length k0, .slice A1 tail.length k1]]) Try.func28 rfl (by kernel_rfl) (Nat.le_of_ble_eq_true rfl) ?_
  refine newR (o := .cells #[.slice A0 nodes.length k0, .slice A1 tail.length k1] _) H fun g0 w H => ?_
  refine loadO H 0 rfl rfl ?_
  refine callV ok_l5size (spec_l5size (hT.ext H.below) (by omega) (by omega)) H fun w H => ?_
  refine loopV (by kernel_rfl) (fun m e w => e 1 = .pointer (some ⟨g0, 0, none⟩) ∧ ∃ j a b : Nat, e 5 = .int .i64 j ∧ e 3 = .int .i64 a ∧ e 4 = .int .i64 b ∧ j + m = nodes.length ∧ a = sumC tail + sumN (nodes.take j) ∧ b = tail.length + cntN (nodes.take j) ∧ St W.heap.size W w [.obj g0 (.cells #[.slice A0 nodes.length k0, .slice A1 tail.length k1] 31)]) nodes.length
    ⟨rfl, 0, sumC tail, tail.length, rfl, rfl, rfl, by omega, rfl, rfl, H⟩ ?_
  rintro m e w ⟨h1, j, a, b, h5, h3, h4, hj, ha, hb, H⟩
  rw [Env.four h1 h5 h3 h4]
  refine loadO H 0 rfl rfl ?_
  refine ifB (fun h => ?_) (fun h => ?_)
  case refine_2 =>
    rw [List.take_of_length_le (by omega)] at ha hb
    subst ha hb
    refine RegV.mk ?_
    refine gT (fun c1 => ?_) (fun c1 => ?_)
    · exact Exists.intro _ (And.intro rfl (And.intro (congrArg Value.bool (by (rw [Bool.eq_iff_iff]; simp only [decide_eq_true_eq, Bool.false_eq_true, true_iff, iff_true, false_iff, iff_false]; omega))) H.none))
    · exact Exists.intro _ (And.intro rfl (And.intro (congrArg Value.bool (by (rw [Bool.eq_iff_iff]; simp only [decide_eq_true_eq, Bool.false_eq_true, true_iff, iff_true, false_iff, iff_false]; omega))) H.none))
  have hjl : j < nodes.length := by omega
  obtain ⟨f, hf⟩ : ∃ f, nodes[j]? = some f := ⟨_, List.getElem?_eq_getElem hjl⟩
  have q1 := sumN_take hf
  have q2 := sumN_le nodes (j + 1)
  obtain ⟨B0, b0, B1, b1, B2, b2, B3, b3, B4, b4, e0, e1, e2, e3, e4⟩ := NodeG.shape (hN.kids f (List.mem_of_getElem? hf))
  have hL := (hN.kids f (List.mem_of_getElem? hf)).1
  have hR := (hN.kids f (List.mem_of_getElem? hf)).2.2.2.2
  obtain ⟨leadV, keyV, textV, unitsV, tailV', kind, lead, member, key, text, units, count, tail'⟩ := f
  dsimp only at e0 e1 e2 e3 e4 q1 hL hR
  subst e0 e1 e2 e3 e4
  refine loadO H 0 rfl rfl ?_
  refine idxC (cells := NodeG.cells) NodeG.cells_len (hN.ext H.below).row hf hjl fun b off hc => ?_
  refine loadS (v := .int .i64 kind) (hc 0 _ rfl) ?_
  refine loadS (v := .slice B0 lead.length b0) (hc 1 _ rfl) ?_
  refine loadS (v := .bool member) (hc 2 _ rfl) ?_
  refine loadS (v := .slice B1 key.length b1) (hc 3 _ rfl) ?_
  refine loadS (v := .slice B2 text.length b2) (hc 4 _ rfl) ?_
  refine loadS (v := .slice B3 units.length b3) (hc 5 _ rfl) ?_
  refine loadS (v := .int .i64 count) (hc 6 _ rfl) ?_
  refine loadS (v := .slice B4 tail'.length b4) (hc 7 _ rfl) ?_
  refine newR (o := .cells #[.int .i64 0, .slice none 0 0, .bool false, .slice none 0 0, .slice none 0 0, .slice none 0 0, .int .i64 0, .slice none 0 0] _) H fun g1 w H => ?_
  refine store8 H 0 rfl rfl fun w H => ?_
  refine loadO H 0 rfl rfl ?_
  refine callV ok_l5size (spec_l5size (hL.ext H.below) (by omega) (by omega)) H fun w H => ?_
  refine loadO H 0 rfl rfl ?_
  refine callV ok_l5size (spec_l5size (hR.ext H.below) (by omega) (by omega)) H fun w H => ?_
  refine ar64 (by omega) (by omega) ?_
  refine loadO H 0 rfl rfl ?_
  refine ar64 (by omega) (by omega) ?_
  refine loadO H 0 rfl rfl ?_
  refine ar64 (by omega) (by omega) ?_
  refine loadO H 0 rfl rfl ?_
  refine ar64 (by omega) (by omega) ?_
  refine ar64 (by omega) (by omega) ?_
  refine ar64 (by omega) (by omega) ?_
  refine ar64 (by omega) (by omega) ?_
  refine arN (by omega) ?_
  exact Exists.intro (m - 1) (And.intro (by omega) ⟨rfl, j + 1, sumC tail + sumN (nodes.take (j + 1)), tail.length + cntN (nodes.take (j + 1)), rfl, congrArg (Value.int .i64) (by omega), congrArg (Value.int .i64) (by omega), by omega, rfl, rfl, H.tl⟩)
theorem goodCnt {fs : List NodeG} (h : ∀ n ∈ fs.map NodeG.p, nodeOK n) (hm : ∀ f ∈ fs, f.count ≤ 9223372036854775807) : CntOK fs := fun f hf => by
  obtain ⟨_, _, _, _, _, _, _, _, _, h1, h2⟩ := h f.p (List.mem_map_of_mem hf)
  exact ⟨fun q => (h1 q).1, h2, hm f hf⟩
structure TreeOK (t : TreeG) : Prop where
  sz : t.size ≤ 4294967296
  b : ByteT t.p
  c : ∀ f ∈ t.nodes, f.count ≤ 9223372036854775807
theorem validT_eq (t : TreeG) : validT t.p = decide ((1 ≤ t.nodes.length ∧ t.nodes.length ≤ 4000) ∧ (t.tail.map CommentG.p).all commentOK = true ∧ (∀ n ∈ t.nodes.map NodeG.p, nodeOK n) ∧ sizTr t.p ≤ 100000 ∧ comTr t.p ≤ 4000 ∧ endT (t.nodes.map NodeG.p) 200 0 false = some t.nodes.length) := by
  have e : (t.p.nodes).length = t.nodes.length := List.length_map _
  unfold validT ValidT
  simp only [e]
  rfl
theorem ok_spec_ValidTree : callOK Try.prog 7 = true := by kernel_rfl
theorem spec_ValidTree {t : TreeG} {W : World} (hx : t.Rd W) (ht : TreeOK t) : GivesV Try.prog 7 [.agg t.cells.toArray] W (.bool (validT t.p)) := by
  have H := St.enter W
  have hsm := small_tree ht.sz (Nat.le_refl _)
  have bn : ∀ f ∈ t.nodes, ByteN f.p := fun f hf => ht.b.nodes f.p (List.mem_map_of_mem hf)
  have bt : ∀ f ∈ t.tail, byteOK f.text := fun f hf => ht.b.tail f.p (List.mem_map_of_mem hf)
  have hc := ht.c
  have hsz := ht.sz
  obtain ⟨r, hr⟩ : ∃ r, validT t.p = r := ⟨_, rfl⟩
  rw [hr]
  rw [validT_eq] at hr
  have smC : ∀ {w : World}, Below W.heap.size W w → GivesV Try.prog 28 [.agg t.cells.toArray] w (.bool (decide (sizTr t.p ≤ 100000 ∧ comTr t.p ≤ 4000))) := fun hB => spec_l5small (hx.ext hB) hsz
  have enC : (∀ n ∈ t.nodes.map NodeG.p, nodeOK n) → ∀ {w : World}, Below W.heap.size W w → GivesV Try.prog 31 [.agg t.cells.toArray, .int .i64 0, .bool false, .int .i64 200] w (.int .i64 (optI (endT (t.nodes.map NodeG.p) 200 0 false))) := fun hn => fun hB => spec_l5end hsm.nodes (goodCnt hn hc) 200 (by decide) (hx.ext hB) 0 false 200 rfl (by decide)
  generalize sizTr t.p = z1 at *
  generalize comTr t.p = z2 at *
  obtain ⟨A0, k0, A1, k1, e0, e1⟩ := TreeG.shape hx
  obtain ⟨nodesV, tailV, nodes, tail⟩ := t
  dsimp only at e0 e1 hr bn bt hc
  subst e0 e1
  have hN : RdNode W (.slice A0 nodes.length k0) nodes.length nodes := hx.1
  have hT : RdComment W (.slice A1 tail.length k1) tail.length tail := hx.2
  have n1 : nodes.length ≤ 4294967296 := hsm.nodes
  have n2 : ∀ f ∈ nodes, SmallNode f := hsm.nodess
  have n3 : tail.length ≤ 4294967296 := hsm.tail
  have n4 : ∀ f ∈ tail, SmallComment f := hsm.tails
  have smC : ∀ {w : World}, Below W.heap.size W w → GivesV Try.prog 28 [.agg #[.slice A0 nodes.length k0, .slice A1 tail.length k1]] w (.bool (decide (z1 ≤ 100000 ∧ z2 ≤ 4000))) := smC
  have enC : (∀ n ∈ nodes.map NodeG.p, nodeOK n) → ∀ {w : World}, Below W.heap.size W w → GivesV Try.prog 31 [.agg #[.slice A0 nodes.length k0, .slice A1 tail.length k1], .int .i64 0, .bool false, .int .i64 200] w (.int .i64 (optI (endT (nodes.map NodeG.p) 200 0 false))) := enC
  have taC : ∀ {w : World}, Below W.heap.size W w → GivesV Try.prog 29 [.slice A1 tail.length k1] w (.bool ((tail.map CommentG.p).all commentOK)) := fun hB => spec_l5commentsOK (hT.ext hB) n3 n4 bt
  have hup := endT_up (nodes.map NodeG.p) 200 0 false
  rw [List.length_map] at hup
  generalize (tail.map CommentG.p).all commentOK = ta at *
  generalize endT (nodes.map NodeG.p) 200 0 false = en at *
  clear hx hsm ht hsz
  have ret : ∀ {b : Bool} {w : World} {L : List It}, r = b → St W.heap.size W w L → ∃ v, Ending.returned (.bool b) = .returned v ∧ v = .bool r ∧ St W.heap.size W w [] := fun e H => ⟨_, rfl, by rw [e], H.none⟩
  show GivesV Try.prog 7 [.agg #[.slice A0 nodes.length k0, .slice A1 tail.length k1]] W _
  refine calls_of_vcV (args := [.agg #[.slice A0 nodes.length k0, .slice A1 tail.length k1]]) Try.func7 rfl (by kernel_rfl) (Nat.le_of_ble_eq_true rfl) ?_
  refine newR (o := .cells #[.slice A0 nodes.length k0, .slice A1 tail.length k1] _) H fun g0 w H => ?_
  refine cutG (fun e w => e 1 = .pointer (some ⟨g0, 0, none⟩) ∧ e 24 = .bool (decide (¬ ((1 ≤ nodes.length ∧ nodes.length ≤ 4000) ∧ (z1 ≤ 100000 ∧ z2 ≤ 4000) ∧ ta = true))) ∧ St W.heap.size W w [.obj g0 (.cells #[.slice A0 nodes.length k0, .slice A1 tail.length k1] 31)]) ?_ ?_
  · refine loadO H 0 rfl rfl ?_
    refine gF (fun c1 => ?_) (fun c1 => ?_)
    · refine loadO H 0 rfl rfl ?_
      refine gF (fun c3 => ?_) (fun c3 => ?_)
      · refine loadO H 0 rfl rfl ?_
        refine loadO H 0 rfl rfl ?_
        refine callV ok_l5small (smC H.below) H fun w H => ?_
        refine gNot ?_
        refine gT (fun c8 => ?_) (fun c8 => ?_)
        · refine loadO H 0 rfl rfl ?_
          refine callV ok_l5commentsOK (taC H.below) H fun w H => ?_
          exact ⟨rfl, congrArg Value.bool (by clear ret smC enC taC hN hT bn bt hr n2 n4 hc hup; grind), H⟩
        · exact ⟨rfl, congrArg Value.bool (by clear ret smC enC taC hN hT bn bt hr n2 n4 hc hup; grind), H⟩
      · refine gNf ?_
        exact ⟨rfl, congrArg Value.bool (by clear ret smC enC taC hN hT bn bt hr n2 n4 hc hup; grind), H⟩
    · refine gNf ?_
      refine gNf ?_
      exact ⟨rfl, congrArg Value.bool (by clear ret smC enC taC hN hT bn bt hr n2 n4 hc hup; grind), H⟩
  rintro e w ⟨h1, h24, H⟩
  rw [Env.two h1 h24]
  refine ifB (fun x => ret (by rw [← hr]; exact decide_eq_false fun q => x ⟨q.1, ⟨q.2.2.2.1, q.2.2.2.2.1⟩, q.2.1⟩) H) (fun x => ?_)
  have x := Classical.not_not.1 x
  refine loopW (by kernel_rfl) (fun m e w => e 1 = .pointer (some ⟨g0, 0, none⟩) ∧ ∃ j : Nat, e 3 = .int .i64 j ∧ j + m = nodes.length ∧ (∀ n ∈ (nodes.take j).map NodeG.p, nodeOK n) ∧ St W.heap.size W w [.obj g0 (.cells #[.slice A0 nodes.length k0, .slice A1 tail.length k1] 31)])
    (fun id e w => id = 0 ∧ e 1 = .pointer (some ⟨g0, 0, none⟩) ∧ (∀ n ∈ nodes.map NodeG.p, nodeOK n) ∧ St W.heap.size W w [.obj g0 (.cells #[.slice A0 nodes.length k0, .slice A1 tail.length k1] 31)]) nodes.length
    ⟨rfl, 0, rfl, by omega, by simp, H⟩ ?_ ?_
  · rintro m e w ⟨h1, j, h3, hj, hg, H⟩
    rw [Env.two h1 h3]
    refine loadO H 0 rfl rfl ?_
    refine ifB (fun h => ?_) (fun h => ?_)
    case refine_2 =>
      rw [List.take_of_length_le (by omega)] at hg
      exact ⟨rfl, rfl, hg, H⟩
    have hjl : j < nodes.length := by omega
    obtain ⟨f, hf⟩ : ∃ f, nodes[j]? = some f := ⟨_, List.getElem?_eq_getElem hjl⟩
    have hfm : f ∈ nodes := List.mem_of_getElem? hf
    have htk : (nodes.take (j + 1)).map NodeG.p = (nodes.take j).map NodeG.p ++ [f.p] := by rw [List.take_add_one, hf, List.map_append]; rfl
    have ndC : ∀ {w : World}, Below W.heap.size W w → GivesV Try.prog 30 [.agg f.cells.toArray] w (.bool (decide (nodeOK f.p))) := fun hB => spec_l5nodeOK ((hN.kids f hfm).ext hB) (n2 f hfm) (bn f hfm)
    refine JoinV.mk ?_
    refine loadO H 0 rfl rfl ?_
    refine idxC (cells := NodeG.cells) NodeG.cells_len (hN.ext H.below).row hf hjl fun b off hcl => ?_
    refine loadS (hcl 0 _ rfl) ?_
    refine loadS (hcl 1 _ rfl) ?_
    refine loadS (hcl 2 _ rfl) ?_
    refine loadS (hcl 3 _ rfl) ?_
    refine loadS (hcl 4 _ rfl) ?_
    refine loadS (hcl 5 _ rfl) ?_
    refine loadS (hcl 6 _ rfl) ?_
    refine loadS (hcl 7 _ rfl) ?_
    refine callV ok_l5nodeOK (ndC H.below) H fun w H => ?_
    refine ifNot ?_
    refine ifB (fun hq => ?_) (fun hq => ?_)
    · refine arN (by omega) ?_
      exact Exists.intro (m - 1) (And.intro (by omega) ⟨rfl, j + 1, rfl, by omega, by rw [htk]; exact fun n hn => by rcases List.mem_append.1 hn with a | a; exact hg n a; rw [List.mem_singleton.1 a]; exact hq, H⟩)
    · exact ret (by rw [← hr]; exact decide_eq_false fun q => hq (q.2.2.1 f.p (List.mem_map_of_mem hfm))) H
  · rintro id e w ⟨rfl, h1, hg, H⟩
    rw [Env.one h1]
    refine regG [1] [1] [0, 3] [0, 2, 3, 4, 1, 5, 6] (by kernel_rfl) ?_
    refine drawR H fun w H => ?_
    refine loadO H 0 rfl rfl ?_
    refine loadO H 0 rfl rfl ?_
    refine loadO H 0 rfl rfl ?_
    refine callVB ok_l5end (enC hg H.below) H fun w hB H => ?_
    refine KeepS.mk ⟨HeldW.ofBelow hB, ?_⟩
    refine Exists.intro _ (And.intro rfl (And.intro (congrArg Value.bool ?_) H.none))
    rw [← hr]
    cases en with
    | none =>
      show decide ((-1 : Int) = (nodes.length : Int)) = _
      rw [decide_eq_false (show ¬ (-1 : Int) = (nodes.length : Int) by omega)]
      exact (decide_eq_false fun q => by cases q.2.2.2.2.2).symm
    | some j =>
      show decide ((j : Int) = (nodes.length : Int)) = _
      by_cases hj : j = nodes.length
      · rw [decide_eq_true (show (j : Int) = (nodes.length : Int) by omega)]
        exact (decide_eq_true ⟨x.1, x.2.2, hg, x.2.1.1, x.2.1.2, by rw [hj]⟩).symm
      · rw [decide_eq_false (show ¬ (j : Int) = (nodes.length : Int) by omega)]
        exact (decide_eq_false fun q => hj (Option.some.inj q.2.2.2.2.2)).symm
end Go.Proofs.YtpaklalfopfilaaE
/- The program's walk over a tree's nodes. -/
namespace Go.Proofs.YtpaklalfopfilaaE
open Go Go.RowKit Go.Proofs
set_option linter.unusedVariables false
set_option linter.unusedSimpArgs false
set_option maxRecDepth 100000
set_option maxHeartbeats 4000000

theorem ok_behind : callOK Try.prog 37 = true := by kernel_rfl
/-- an element of a row of records, by its place: what stands there, now and later -/
theorem elemAt {α : Type} {cells : α → List Value} {sz : Nat} (hs : ∀ x, (cells x).length = sz) {W w : World} {A : Option Addr} {n c : Nat} {xs : List α} {i : Nat} {x : α} (h : Rd W (.slice A n c) sz n (xs.flatMap cells)) (hB : Below W.heap.size W w) (hx : xs[i]? = some x) (hi : i < n) :
    ∃ b off, A = some ⟨b, off, none⟩ ∧ ∀ w', Below W.heap.size W w' → ∀ (j : Nat) (v : Value), (cells x)[j]? = some v → w'.cell? ⟨b, off + (i : Int).toNat * sz + j, none⟩ = some v := by
  have hin : i < xs.length := (List.getElem?_eq_some_iff.1 hx).1
  obtain ⟨hl, A1, c1, e1, hc, h2⟩ := id h
  cases e1
  rcases h2 with h2 | ⟨b, off, rfl, h2⟩
  · omega
  refine ⟨b, off, rfl, fun w' hB' j v hj => ?_⟩
  have hlt : j < sz := by rw [← hs x]; exact (List.getElem?_eq_some_iff.1 hj).1
  obtain ⟨_, _, _, e2, _, h3⟩ := h.ext hB'
  cases e2
  rcases h3 with h3 | ⟨b', off', e3, h3⟩
  · omega
  cases e3
  have hle : (i + 1) * sz ≤ xs.length * sz := Nat.mul_le_mul_right _ hin
  have hlen := flat_len hs xs
  rw [Nat.succ_mul] at hle
  have := h3 (i * sz + j) (by omega)
  rw [show off + (i : Int).toNat * sz + j = off + (i * sz + j) by rw [Int.toNat_natCast]; omega, this, flat_get hs xs i j x hx hlt, hj]
theorem impl_behind_step {nodes : List NodeG} {A0 : Option Addr} {k0 n : Nat} (hl : n ≤ 4294967296) (hk : CntOK nodes) {d : Nat} (hd : d ≤ 4294967296) {W : World} (hN : RdNode W (.slice A0 n k0) n nodes) {i : Nat} (hi : i ≤ 4294967296) {m : Bool} {di : Int} (hdi : di = d)
    (ih : 0 < d → ∀ {w : World}, Below W.heap.size W w → ∀ (j : Nat) (b : Bool) (e : Int), e = (d - 1 : Nat) → j ≤ 4294967296 → GivesV Try.prog 37 [.slice A0 n k0, .int .i64 j, .bool b, .int .i64 e] w (.int .i64 (optI (endT (nodes.map NodeG.p) (d - 1) j b)))) :
    GivesV Try.prog 37 [.slice A0 n k0, .int .i64 i, .bool m, .int .i64 di] W (.int .i64 (optI (endT (nodes.map NodeG.p) d i m))) := by
  subst hdi
  have H := St.enter W
  obtain rfl := hN.len
  obtain ⟨r, hr⟩ : ∃ r, endT (nodes.map NodeG.p) d i m = r := ⟨_, rfl⟩
  rw [hr]
  have ret : ∀ {b : Int} {w : World} {L : List It}, optI r = b → St W.heap.size W w L → ∃ v, Ending.returned (.int .i64 b) = .returned v ∧ v = .int .i64 (optI r) ∧ St W.heap.size W w [] := fun e H => ⟨_, rfl, by rw [e], H.none⟩
  refine calls_of_vcV (args := [.slice A0 nodes.length k0, .int .i64 i, .bool m, .int .i64 d]) Try.func37 rfl (by kernel_rfl) (Nat.le_of_ble_eq_true rfl) ?_
  by_cases hil : nodes.length ≤ i
  · rw [endT_none d i m hil] at hr
    subst hr
    refine RegV.mk ?_
    refine gF (fun c => absurd c (by omega)) (fun c => ?_)
    refine ifT ?_
    exact ret rfl H
  have hil : i < nodes.length := by omega
  obtain ⟨f, hf⟩ : ∃ f, nodes[i]? = some f := ⟨_, List.getElem?_eq_getElem hil⟩
  have hfm : f ∈ nodes := List.mem_of_getElem? hf
  rw [endT_eq hk d i m hf] at hr
  have hkf := hk f hfm
  obtain ⟨bb, bo, rfl, hc⟩ := elemAt NodeG.cells_len hN.row (Below.refl _ _) hf hil
  obtain ⟨B0, b0, B1, b1, B2, b2, B3, b3, B4, b4, e0, e1, e2, e3, e4⟩ := NodeG.shape (hN.kids f hfm)
  obtain ⟨leadV, keyV, textV, unitsV, tailV', kind, lead, member, key, text, units, count, tail'⟩ := f
  dsimp only at e0 e1 e2 e3 e4 hkf hr
  subst e0 e1 e2 e3 e4
  refine RegV.mk ?_
  refine gF (fun c => ?_) (fun c => absurd c (by omega))
  refine idxC (cells := NodeG.cells) NodeG.cells_len (hN.ext H.below).row hf hil fun b off hc1 => ?_
  refine loadS (v := .bool member) (hc1 2 _ rfl) ?_
  by_cases hmm : member = m
  case neg =>
    rw [if_neg hmm] at hr
    subst hr
    refine ifNot (ifB (fun q => absurd q hmm) (fun _ => ?_))
    exact ret rfl H
  rw [if_pos hmm] at hr
  refine ifNot (ifB (fun _ => ?_) (fun q => absurd hmm q))
  refine idxS (by omega) (by omega) rfl ?_
  have ldk : ∀ {w : World}, St W.heap.size W w [] → w.cell? ⟨bb, bo + (i : Int).toNat * 8 + 0, none⟩ = some (.int .i64 kind) := fun H => hc _ H.below 0 _ rfl
  have ldc : ∀ {w : World}, St W.heap.size W w [] → w.cell? ⟨bb, bo + (i : Int).toNat * 8 + 6, none⟩ = some (.int .i64 count) := fun H => hc _ H.below 6 _ rfl
  refine cutG (fun e w => e 0 = .slice (some ⟨bb, bo, none⟩) nodes.length k0 ∧ e 1 = .int .i64 i ∧ e 3 = .int .i64 d ∧ e 9 = .pointer (some ⟨bb, bo + (i : Int).toNat * 8, none⟩) ∧ e 34 = .bool (decide (5 ≤ kind ∧ d = 0)) ∧ St W.heap.size W w []) ?_ ?_
  · refine loadS (ldk H) ?_
    refine gT (fun c1 => ?_) (fun c1 => ?_)
    · exact ⟨rfl, rfl, rfl, rfl, congrArg Value.bool (by clear ret ih; grind), H⟩
    · exact ⟨rfl, rfl, rfl, rfl, congrArg Value.bool (by clear ret ih; grind), H⟩
  rintro e w ⟨h0, h1, h3, h9, h34, H⟩
  rw [Env.five h0 h1 h3 h9 h34]
  refine ifB (fun x => ?_) (fun x => ?_)
  · rw [if_pos x] at hr
    subst hr
    exact ret rfl H
  rw [if_neg x] at hr
  refine arN (by omega) ?_
  refine loadS (ldc H) ?_
  refine loopV (by kernel_rfl) (fun k e w => e 0 = .slice (some ⟨bb, bo, none⟩) nodes.length k0 ∧ e 3 = .int .i64 d ∧ e 9 = .pointer (some ⟨bb, bo + (i : Int).toNat * 8, none⟩) ∧ e 40 = .int .i64 count ∧ ∃ j a : Nat, e 41 = .int .i64 j ∧ e 1 = .int .i64 a ∧ j + k = count.toNat ∧ a ≤ nodes.length ∧ itN (fun j => endT (nodes.map NodeG.p) (d - 1) j (decide (kind = 6))) k a = r ∧ St W.heap.size W w []) count.toNat
    ⟨rfl, rfl, rfl, rfl, 0, i + 1, rfl, rfl, by omega, by omega, hr, H⟩ ?_
  rintro k e w ⟨h0, h3, h9, h40, j, a, h41, h1, hjk, ha, hit, H⟩
  rw [Env.six h0 h3 h9 h40 h41 h1]
  refine ifB (fun h => ?_) (fun h => ?_)
  case refine_2 =>
    obtain rfl : k = 0 := by omega
    exact ret (by rw [← hit]; rfl) H
  obtain ⟨k, rfl⟩ : ∃ k', k = k' + 1 := ⟨k - 1, by omega⟩
  rw [itN_succ] at hit
  have hup := endT_up (nodes.map NodeG.p) (d - 1) a (decide (kind = 6))
  obtain ⟨o, ho⟩ : ∃ o, endT (nodes.map NodeG.p) (d - 1) a (decide (kind = 6)) = o := ⟨_, rfl⟩
  rw [ho] at hit hup
  rw [List.length_map] at hup
  have hcall : 0 < d → ∀ {w : World}, Below W.heap.size W w → ∀ e : Int, e = (d - 1 : Nat) → GivesV Try.prog 37 [.slice (some ⟨bb, bo, none⟩) nodes.length k0, .int .i64 a, .bool (decide (kind = 6)), .int .i64 e] w (.int .i64 (optI o)) := fun hd => fun hB e he => by rw [← ho]; exact ih hd hB a _ e he (by omega)
  refine JoinV.mk ?_
  refine loadS (ldk H) ?_
  refine ar64 (by omega) (by omega) ?_
  refine callV ok_behind (hcall (by omega) H.below _ (by omega)) H fun w H => ?_
  cases o with
  | none =>
    refine ifB (fun _ => ?_) (fun q => absurd (show (-1 : Int) < 0 by decide) q)
    have hit : none = r := hit
    exact ret (by rw [← hit]; rfl) H
  | some b =>
    have hb := hup b rfl
    refine ifB (fun q => absurd (show (b : Int) < 0 from q) (by omega)) (fun _ => ?_)
    refine arN (by omega) ?_
    exact Exists.intro k (And.intro (by omega) ⟨rfl, rfl, rfl, rfl, j + 1, b, rfl, rfl, by omega, hb.2, hit, H⟩)
theorem impl_behind {nodes : List NodeG} {A0 : Option Addr} {k0 n : Nat} (hl : n ≤ 4294967296) (hk : CntOK nodes) : ∀ (d : Nat), d ≤ 4294967296 → ∀ {W : World} (hN : RdNode W (.slice A0 n k0) n nodes) (i : Nat) (m : Bool) (di : Int), di = d → i ≤ 4294967296 →
    GivesV Try.prog 37 [.slice A0 n k0, .int .i64 i, .bool m, .int .i64 di] W (.int .i64 (optI (endT (nodes.map NodeG.p) d i m)))
  | 0, hd, W, hN, i, m, di, hdi, hi => impl_behind_step hl hk hd hN hi hdi fun q => absurd q (Nat.lt_irrefl 0)
  | d + 1, hd, W, hN, i, m, di, hdi, hi => impl_behind_step hl hk hd hN hi hdi fun _ w hB j b e he hj => impl_behind hl hk d (by omega) (hN.ext hB) j b e he hj
end Go.Proofs.YtpaklalfopfilaaE
/- The program's tests of lists of comments and of a node. -/
namespace Go.Proofs.YtpaklalfopfilaaE
open Go Go.RowKit Go.Proofs
set_option linter.unusedVariables false
set_option linter.unusedSimpArgs false
set_option maxRecDepth 100000
set_option maxHeartbeats 4000000

theorem ok_validComments1 : callOK Try.prog 71 = true := by kernel_rfl
theorem impl_validComments1 {f : CommentG} {W : World} (h : f.Rd W) (hb : byteOK f.text) (hl : f.text.length ≤ 4294967280) (hM : MaxL W) : GivesV Try.prog 71 [.agg f.cells.toArray] W (.bool (!commentOK f.p)) := by
  have H := St.enter W
  have vC : ∀ {w : World}, Below W.heap.size W w → GivesV Try.prog 72 [.agg f.cells.toArray] w (.bool (commentOK f.p)) := fun hB => impl_validComment (h.ext hB) hb hl (hM.ext hB)
  obtain ⟨A, c, e⟩ := CommentG.shape h
  obtain ⟨r, hr⟩ : ∃ r, commentOK f.p = r := ⟨_, rfl⟩
  rw [hr] at vC ⊢
  obtain ⟨tv, block, text⟩ := f
  dsimp only at e
  subst e
  show GivesV Try.prog 71 [.agg #[.bool block, .slice A text.length c]] W _
  refine calls_of_vcV (args := [.agg #[.bool block, .slice A text.length c]]) Try.func71 rfl (by kernel_rfl) (Nat.le_of_ble_eq_true rfl) ?_
  refine newR (o := .cells #[.bool block, .slice A text.length c] _) H fun g0 w H => ?_
  refine loadO H 0 rfl rfl ?_
  refine loadO H 0 rfl rfl ?_
  refine callV ok_validComment (vC H.below) H fun w H => ?_
  exact Exists.intro _ (And.intro rfl (And.intro rfl H.none))
theorem ok_IndexFuncC : callOK Try.prog 112 = true := by kernel_rfl
def firstBad : List CommentG → Nat → Int
  | [], _ => -1
  | f :: fs, j => if commentOK f.p then firstBad fs (j + 1) else (j : Int)
theorem firstBad_iff : ∀ (fs : List CommentG) (j : Nat), decide (0 ≤ firstBad fs j) = !((fs.map CommentG.p).all commentOK)
  | [], j => rfl
  | f :: fs, j => by
    unfold firstBad
    rw [List.map_cons, List.all_cons]
    cases commentOK f.p with
    | true => rw [if_pos rfl, firstBad_iff fs (j + 1), Bool.true_and]
    | false => rw [if_neg (by simp)]; simp
theorem slices_IndexFuncC {fs : List CommentG} {A : Option Addr} {n c : Nat} {W : World} (hx : RdComment W (.slice A n c) n fs) (hl : n ≤ 4294967296) (hs : ∀ f ∈ fs, f.text.length ≤ 4294967280) (hb : ∀ f ∈ fs, byteOK f.text) (hM : MaxL W) :
    GivesV Try.prog 112 [.slice A n c, .func (.func 71) #[] #[]] W (.int .i64 (firstBad fs 0)) := by
  have H := St.enter W
  obtain rfl := hx.len
  obtain ⟨r, hr⟩ : ∃ r, firstBad fs 0 = r := ⟨_, rfl⟩
  rw [hr]
  have ret : ∀ {b : Int} {w : World} {L : List It}, r = b → St W.heap.size W w L → ∃ v, Ending.returned (.int .i64 b) = .returned v ∧ v = .int .i64 r ∧ St W.heap.size W w [] := fun e H => ⟨_, rfl, by rw [e], H.none⟩
  refine calls_of_vcV (args := [.slice A fs.length c, .func (.func 71) #[] #[]]) Try.func112 rfl (by kernel_rfl) (Nat.le_of_ble_eq_true rfl) ?_
  refine loopV (by kernel_rfl) (fun m e w => e 0 = .slice A fs.length c ∧ e 1 = .func (.func 71) #[] #[] ∧ e 7 = .int .i64 fs.length ∧ ∃ j : Nat, e 8 = .int .i64 j ∧ j + m = fs.length ∧ firstBad (fs.drop j) j = r ∧ St W.heap.size W w []) fs.length
    ⟨rfl, rfl, rfl, 0, rfl, by omega, hr, H⟩ ?_
  rintro m e w ⟨h0, h1, h7, j, h8, hj, hg, H⟩
  rw [Env.four h0 h1 h7 h8]
  refine ifB (fun h => ?_) (fun h => ?_)
  case refine_2 => exact ret (by rw [← hg, List.drop_of_length_le (by omega)]; rfl) H
  have hjl : j < fs.length := by omega
  obtain ⟨f, hf⟩ : ∃ f, fs[j]? = some f := ⟨_, List.getElem?_eq_getElem hjl⟩
  have hfm : f ∈ fs := List.mem_of_getElem? hf
  have hdr : fs.drop j = f :: fs.drop (j + 1) := by
    rw [List.drop_eq_getElem_cons hjl]
    congr 1
    rw [List.getElem?_eq_getElem hjl] at hf
    exact Option.some.inj hf
  rw [hdr] at hg
  unfold firstBad at hg
  have vC : ∀ {w : World}, Below W.heap.size W w → GivesV Try.prog 71 [.agg f.cells.toArray] w (.bool (!commentOK f.p)) := fun hB => impl_validComments1 ((hx.kids f hfm).ext hB) (hb f hfm) (hs f hfm) (hM.ext hB)
  refine JoinV.mk ?_
  refine idxC (cells := CommentG.cells) CommentG.cells_len (hx.ext H.below).row hf hjl fun b off hc => ?_
  refine loadS (hc 0 _ rfl) ?_
  refine loadS (hc 1 _ rfl) ?_
  refine callV ok_validComments1 (vC H.below) H fun w H => ?_
  cases hq : commentOK f.p with
  | true =>
    rw [hq, if_pos rfl] at hg
    refine ifF ?_
    refine arN (by omega) ?_
    exact Exists.intro (m - 1) (And.intro (by omega) ⟨rfl, rfl, rfl, j + 1, rfl, by omega, hg, H⟩)
  | false =>
    rw [hq, if_neg (by simp)] at hg
    refine ifT ?_
    exact ret hg.symm H
theorem ok_ContainsFuncC : callOK Try.prog 70 = true := by kernel_rfl
theorem slices_ContainsFuncC {fs : List CommentG} {A : Option Addr} {n c : Nat} {W : World} (hx : RdComment W (.slice A n c) n fs) (hl : n ≤ 4294967296) (hs : ∀ f ∈ fs, f.text.length ≤ 4294967280) (hb : ∀ f ∈ fs, byteOK f.text) (hM : MaxL W) :
    GivesV Try.prog 70 [.slice A n c, .func (.func 71) #[] #[]] W (.bool (!((fs.map CommentG.p).all commentOK))) := by
  have H := St.enter W
  refine calls_of_vcV (args := [.slice A n c, .func (.func 71) #[] #[]]) Try.func70 rfl (by kernel_rfl) (Nat.le_of_ble_eq_true rfl) ?_
  refine callV ok_IndexFuncC (slices_IndexFuncC hx hl hs hb hM) H fun w H => ?_
  exact Exists.intro _ (And.intro rfl (And.intro (congrArg Value.bool (firstBad_iff fs 0)) H.none))
theorem ok_impl_validComments : callOK Try.prog 34 = true := by kernel_rfl
theorem impl_validComments {fs : List CommentG} {A : Option Addr} {n c : Nat} {W : World} (hx : RdComment W (.slice A n c) n fs) (hl : n ≤ 4294967296) (hs : ∀ f ∈ fs, f.text.length ≤ 4294967280) (hb : ∀ f ∈ fs, byteOK f.text) (hM : MaxL W) :
    GivesV Try.prog 34 [.slice A n c] W (.bool ((fs.map CommentG.p).all commentOK)) := by
  have H := St.enter W
  refine calls_of_vcV (args := [.slice A n c]) Try.func34 rfl (by kernel_rfl) (Nat.le_of_ble_eq_true rfl) ?_
  refine callV ok_ContainsFuncC (slices_ContainsFuncC hx hl hs hb hM) H fun w H => ?_
  exact Exists.intro _ (And.intro rfl (And.intro (congrArg Value.bool (Bool.not_not _)) H.none))
end Go.Proofs.YtpaklalfopfilaaE
/- The program's test of a node. -/
namespace Go.Proofs.YtpaklalfopfilaaE
open Go Go.RowKit Go.Proofs
set_option linter.unusedVariables false
set_option linter.unusedSimpArgs false
set_option maxRecDepth 100000
set_option maxHeartbeats 8000000

theorem comments_text {fs : List CommentG} {m : Nat} (h : (fs.map CommentG.size).sum ≤ m) : ∀ f ∈ fs, f.text.length ≤ m := fun f hf => by
  have := sizeComment_mem hf
  have e : f.size = f.text.length := rfl
  omega
theorem ok_nodeValid : callOK Try.prog 36 = true := by kernel_rfl
theorem impl_nodeValid {f : NodeG} {W : World} {b off : Nat} (hc : ∀ w', Below W.heap.size W w' → ∀ (j : Nat) (v : Value), f.cells[j]? = some v → w'.cell? ⟨b, off + j, none⟩ = some v) (h : f.Rd W) (hz : f.size ≤ 4294967280) (hb : ByteN f.p) (hM : MaxL W) : GivesV Try.prog 36 [.pointer (some ⟨b, off, none⟩)] W (.bool (decide (nodeOK f.p))) := by
  have H := St.enter W
  have b0 : ∀ g ∈ f.lead, byteOK g.text := fun g hg => hb.lead g.p (List.mem_map_of_mem hg)
  have b4 : ∀ g ∈ f.tail, byteOK g.text := fun g hg => hb.tail g.p (List.mem_map_of_mem hg)
  have b2 : byteOK f.text := hb.b
  have ez : f.size = (f.lead.length + (f.lead.map CommentG.size).sum) + f.key.length + f.text.length + f.units.length + (f.tail.length + (f.tail.map CommentG.size).sum) := rfl
  rw [ez] at hz
  have t0 := comments_text (fs := f.lead) (m := 4294967280) (by omega)
  have t4 := comments_text (fs := f.tail) (m := 4294967280) (by omega)
  clear hb ez
  obtain ⟨A0, c0, A1, c1, A2, c2, A3, c3, A4, c4, e0, e1, e2, e3, e4⟩ := NodeG.shape h
  obtain ⟨leadV, keyV, textV, unitsV, tailV, kind, lead, member, key, text, units, count, tail⟩ := f
  dsimp only at e0 e1 e2 e3 e4 hz b0 b4 b2 t0 t4
  subst e0 e1 e2 e3 e4
  have hk : RdComment W (.slice A0 lead.length c0) lead.length lead ∧ RdI W (.slice A1 key.length c1) key ∧ RdB W (.slice A2 text.length c2) text ∧ RdI W (.slice A3 units.length c3) units ∧ RdComment W (.slice A4 tail.length c4) tail.length tail := h
  clear h
  have l0 : ∀ {w : World}, St W.heap.size W w [] → w.cell? ⟨b, off + 0, none⟩ = some (.int .i64 kind) := fun H => hc _ H.below 0 _ rfl
  have l1 : ∀ {w : World}, St W.heap.size W w [] → w.cell? ⟨b, off + 1, none⟩ = some (.slice A0 lead.length c0) := fun H => hc _ H.below 1 _ rfl
  have l2 : ∀ {w : World}, St W.heap.size W w [] → w.cell? ⟨b, off + 2, none⟩ = some (.bool member) := fun H => hc _ H.below 2 _ rfl
  have l3 : ∀ {w : World}, St W.heap.size W w [] → w.cell? ⟨b, off + 3, none⟩ = some (.slice A1 key.length c1) := fun H => hc _ H.below 3 _ rfl
  have l4 : ∀ {w : World}, St W.heap.size W w [] → w.cell? ⟨b, off + 4, none⟩ = some (.slice A2 text.length c2) := fun H => hc _ H.below 4 _ rfl
  have l5 : ∀ {w : World}, St W.heap.size W w [] → w.cell? ⟨b, off + 5, none⟩ = some (.slice A3 units.length c3) := fun H => hc _ H.below 5 _ rfl
  have l6 : ∀ {w : World}, St W.heap.size W w [] → w.cell? ⟨b, off + 6, none⟩ = some (.int .i64 count) := fun H => hc _ H.below 6 _ rfl
  have l7 : ∀ {w : World}, St W.heap.size W w [] → w.cell? ⟨b, off + 7, none⟩ = some (.slice A4 tail.length c4) := fun H => hc _ H.below 7 _ rfl
  clear hc
  obtain ⟨r, hr⟩ : ∃ r, decide (nodeOK (NodeG.p ⟨.slice A0 lead.length c0, .slice A1 key.length c1, .slice A2 text.length c2, .slice A3 units.length c3, .slice A4 tail.length c4, kind, lead, member, key, text, units, count, tail⟩)) = r := ⟨_, rfl⟩
  rw [hr]
  have lt : (tail.map CommentG.p).length = tail.length := List.length_map _
  have hr : decide ((0 ≤ kind ∧ kind ≤ 6) ∧ (lead.map CommentG.p).all commentOK = true ∧ (tail.map CommentG.p).all commentOK = true ∧ goodU key = true ∧ goodU units = true ∧ (member = false → key.length = 0) ∧ (kind = 3 → numb text = true) ∧ (kind ≠ 3 → text.length = 0) ∧ (kind ≠ 4 → units.length = 0) ∧ (kind < 5 → count = 0 ∧ (tail.map CommentG.p).length = 0) ∧ 0 ≤ count) = r := hr
  rw [lt] at hr
  have cl : ∀ {w : World}, Below W.heap.size W w → GivesV Try.prog 34 [.slice A0 lead.length c0] w (.bool ((lead.map CommentG.p).all commentOK)) := fun hB => impl_validComments (hk.1.ext hB) (by omega) t0 b0 (hM.ext hB)
  have ct : ∀ {w : World}, Below W.heap.size W w → GivesV Try.prog 34 [.slice A4 tail.length c4] w (.bool ((tail.map CommentG.p).all commentOK)) := fun hB => impl_validComments (hk.2.2.2.2.ext hB) (by omega) t4 b4 (hM.ext hB)
  have ck : ∀ {w : World}, Below W.heap.size W w → GivesV Try.prog 73 [.slice A1 key.length c1] w (.bool (goodU key)) := fun hB => givesV_of ((impl_goodUnits _ _ _ _ (hk.2.1.ext hB) (by omega)).mono fun e w ⟨h1, h2⟩ => ⟨_, h1, rfl, h2⟩)
  have cu : ∀ {w : World}, Below W.heap.size W w → GivesV Try.prog 73 [.slice A3 units.length c3] w (.bool (goodU units)) := fun hB => givesV_of ((impl_goodUnits _ _ _ _ (hk.2.2.2.1.ext hB) (by omega)).mono fun e w ⟨h1, h2⟩ => ⟨_, h1, rfl, h2⟩)
  have cn : ∀ {w : World}, Below W.heap.size W w → GivesV Try.prog 74 [.slice A2 text.length c2] w (.bool (numb text)) := fun hB => by rw [← num_eq]; exact impl_IsNumber b2 (by omega) (hk.2.2.1.ext hB)
  generalize (lead.map CommentG.p).all commentOK = lo at *
  generalize (tail.map CommentG.p).all commentOK = ta at *
  generalize goodU key = gk at *
  generalize goodU units = gu at *
  generalize numb text = nt at *
  have cc : ∀ {w : World} {v : Value} {b : Bool}, ((v = .slice A0 lead.length c0 ∧ b = lo) ∨ (v = .slice A4 tail.length c4 ∧ b = ta)) → Below W.heap.size W w → GivesV Try.prog 34 [v] w (.bool b) := fun h hB => by
    rcases h with ⟨rfl, rfl⟩ | ⟨rfl, rfl⟩
    · exact cl hB
    · exact ct hB
  have cg : ∀ {w : World} {v : Value} {b : Bool}, ((v = .slice A1 key.length c1 ∧ b = gk) ∨ (v = .slice A3 units.length c3 ∧ b = gu)) → Below W.heap.size W w → GivesV Try.prog 73 [v] w (.bool b) := fun h hB => by
    rcases h with ⟨rfl, rfl⟩ | ⟨rfl, rfl⟩
    · exact ck hB
    · exact cu hB
  clear cl ct ck cu
  have ret : ∀ {b : Bool} {w : World} {L : List It}, r = b → St W.heap.size W w L → ∃ v, Ending.returned (.bool b) = .returned v ∧ v = .bool r ∧ St W.heap.size W w [] := fun e H => ⟨_, rfl, by rw [e], H.none⟩
  refine calls_of_vcV (args := [.pointer (some ⟨b, off, none⟩)]) Try.func36 rfl (by kernel_rfl) (Nat.le_of_ble_eq_true rfl) ?_
  refine cutG (fun e w => e 0 = .pointer (some ⟨b, off, none⟩) ∧ e 3 = .bool (decide (kind = 5 ∨ kind = 6)) ∧ St W.heap.size W w []) ?_ ?_
  · refine loadS (l0 H) ?_
    refine gF (fun c1 => ?_) (fun c1 => ?_)
    · refine loadS (l0 H) ?_
      exact ⟨rfl, congrArg Value.bool (by (rw [Bool.eq_iff_iff]; simp only [decide_eq_true_eq, Bool.false_eq_true, true_iff, iff_true, false_iff, iff_false]; omega)), H⟩
    · exact ⟨rfl, congrArg Value.bool (by (rw [Bool.eq_iff_iff]; simp only [decide_eq_true_eq, Bool.false_eq_true, true_iff, iff_true, false_iff, iff_false]; omega)), H⟩
  rintro e w ⟨h0, h3, H⟩
  rw [Env.two h0 h3]
  refine JoinV.mk ?_
  refine joinV (fun e w => e 0 = .pointer (some ⟨b, off, none⟩) ∧ e 3 = .bool (decide (kind = 5 ∨ kind = 6)) ∧ e 16 = .bool (decide (¬ ((0 ≤ kind ∧ kind ≤ 6) ∧ lo = true ∧ ta = true ∧ gk = true ∧ gu = true))) ∧ St W.heap.size W w []) rfl ?_ ?_
  · refine RegV.mk ?_
    refine loadS (l0 H) ?_
    refine gF (fun c2 => ?_) (fun c2 => ?_)
    · refine loadS (l0 H) ?_
      refine ifB (fun c4 => ?_) (fun c4 => ?_)
      · exact ⟨rfl, rfl, congrArg Value.bool (by clear l0 l1 l2 l3 l4 l5 l6 l7 cc cg cn ret b0 b4 t0 t4 hk; grind), H⟩
      · refine loadS (l1 H) ?_
        refine callV ok_impl_validComments (cc (by first | exact Or.inl ⟨rfl, rfl⟩ | exact Or.inr ⟨rfl, rfl⟩) H.below) H fun w H => ?_
        refine ifNot ?_
        refine ifO (fun c8 => ?_) (fun c8 => ?_)
        · refine loadS (l7 H) ?_
          refine callV ok_impl_validComments (cc (by first | exact Or.inl ⟨rfl, rfl⟩ | exact Or.inr ⟨rfl, rfl⟩) H.below) H fun w H => ?_
          refine ifNot ?_
          refine ifO (fun c12 => ?_) (fun c12 => ?_)
          · refine loadS (l3 H) ?_
            refine callV ok_goodUnits (cg (by first | exact Or.inl ⟨rfl, rfl⟩ | exact Or.inr ⟨rfl, rfl⟩) H.below) H fun w H => ?_
            refine ifNot ?_
            refine ifO (fun c16 => ?_) (fun c16 => ?_)
            · refine loadS (l5 H) ?_
              refine callV ok_goodUnits (cg (by first | exact Or.inl ⟨rfl, rfl⟩ | exact Or.inr ⟨rfl, rfl⟩) H.below) H fun w H => ?_
              exact ⟨rfl, rfl, congrArg Value.bool (by clear l0 l1 l2 l3 l4 l5 l6 l7 cc cg cn ret b0 b4 t0 t4 hk; grind), H⟩
            · exact ⟨rfl, rfl, congrArg Value.bool (by clear l0 l1 l2 l3 l4 l5 l6 l7 cc cg cn ret b0 b4 t0 t4 hk; grind), H⟩
          · exact ⟨rfl, rfl, congrArg Value.bool (by clear l0 l1 l2 l3 l4 l5 l6 l7 cc cg cn ret b0 b4 t0 t4 hk; grind), H⟩
        · exact ⟨rfl, rfl, congrArg Value.bool (by clear l0 l1 l2 l3 l4 l5 l6 l7 cc cg cn ret b0 b4 t0 t4 hk; grind), H⟩
    · refine ifT ?_
      exact ⟨rfl, rfl, congrArg Value.bool (by clear l0 l1 l2 l3 l4 l5 l6 l7 cc cg cn ret b0 b4 t0 t4 hk; grind), H⟩
  rintro e w ⟨h0, h3, h16, H⟩
  rw [Env.three h0 h3 h16]
  refine ifB (fun x => ret (by rw [← hr]; exact decide_eq_false fun q => x ⟨q.1, q.2.1, q.2.2.1, q.2.2.2.1, q.2.2.2.2.1⟩) H) (fun x => ?_)
  refine joinV (fun e w => e 0 = .pointer (some ⟨b, off, none⟩) ∧ e 53 = .bool (decide (¬ ((member = false → key.length = 0) ∧ (kind ≠ 4 → units.length = 0) ∧ (¬ (kind = 5 ∨ kind = 6) → count = 0 ∧ tail.length = 0) ∧ 0 ≤ count))) ∧ St W.heap.size W w []) rfl ?_ ?_
  · refine RegV.mk ?_
    refine loadS (l2 H) ?_
    refine gNot ?_
    refine gO (fun c3 => ?_) (fun c3 => ?_)
    · refine loadS (l3 H) ?_
      refine ifB (fun c5 => ?_) (fun c5 => ?_)
      · exact ⟨rfl, congrArg Value.bool (by clear l0 l1 l2 l3 l4 l5 l6 l7 cc cg cn ret b0 b4 t0 t4 hk; grind), H⟩
      · refine RegV.mk ?_
        refine loadS (l0 H) ?_
        refine gT (fun c8 => ?_) (fun c8 => ?_)
        · refine loadS (l5 H) ?_
          refine ifB (fun c10 => ?_) (fun c10 => ?_)
          · exact ⟨rfl, congrArg Value.bool (by clear l0 l1 l2 l3 l4 l5 l6 l7 cc cg cn ret b0 b4 t0 t4 hk; grind), H⟩
          · refine RegV.mk ?_
            refine gNot ?_
            refine gF (fun c13 => ?_) (fun c13 => ?_)
            · refine loadS (l6 H) ?_
              refine gF (fun c15 => ?_) (fun c15 => ?_)
              · refine loadS (l7 H) ?_
                refine gY ?_
                refine ifB (fun c18 => ?_) (fun c18 => ?_)
                · exact ⟨rfl, congrArg Value.bool (by clear l0 l1 l2 l3 l4 l5 l6 l7 cc cg cn ret b0 b4 t0 t4 hk; grind), H⟩
                · refine loadS (l6 H) ?_
                  exact ⟨rfl, congrArg Value.bool (by clear l0 l1 l2 l3 l4 l5 l6 l7 cc cg cn ret b0 b4 t0 t4 hk; grind), H⟩
              · refine gY ?_
                refine ifT ?_
                exact ⟨rfl, congrArg Value.bool (by clear l0 l1 l2 l3 l4 l5 l6 l7 cc cg cn ret b0 b4 t0 t4 hk; grind), H⟩
            · refine gNot ?_
              refine gNf ?_
              refine ifF ?_
              refine loadS (l6 H) ?_
              exact ⟨rfl, congrArg Value.bool (by clear l0 l1 l2 l3 l4 l5 l6 l7 cc cg cn ret b0 b4 t0 t4 hk; grind), H⟩
        · refine ifF ?_
          refine RegV.mk ?_
          refine gNot ?_
          refine gF (fun c29 => ?_) (fun c29 => absurd c29 (by omega))
          refine loadS (l6 H) ?_
          refine gF (fun c31 => ?_) (fun c31 => ?_)
          · refine loadS (l7 H) ?_
            refine gY ?_
            refine ifB (fun c34 => ?_) (fun c34 => ?_)
            · exact ⟨rfl, congrArg Value.bool (by clear l0 l1 l2 l3 l4 l5 l6 l7 cc cg cn ret b0 b4 t0 t4 hk; grind), H⟩
            · refine loadS (l6 H) ?_
              exact ⟨rfl, congrArg Value.bool (by clear l0 l1 l2 l3 l4 l5 l6 l7 cc cg cn ret b0 b4 t0 t4 hk; grind), H⟩
          · refine gY ?_
            refine ifT ?_
            exact ⟨rfl, congrArg Value.bool (by clear l0 l1 l2 l3 l4 l5 l6 l7 cc cg cn ret b0 b4 t0 t4 hk; grind), H⟩
    · refine ifF ?_
      refine RegV.mk ?_
      refine loadS (l0 H) ?_
      refine gT (fun c41 => ?_) (fun c41 => ?_)
      · refine loadS (l5 H) ?_
        refine ifB (fun c43 => ?_) (fun c43 => ?_)
        · exact ⟨rfl, congrArg Value.bool (by clear l0 l1 l2 l3 l4 l5 l6 l7 cc cg cn ret b0 b4 t0 t4 hk; grind), H⟩
        · refine RegV.mk ?_
          refine gNot ?_
          refine gF (fun c46 => ?_) (fun c46 => ?_)
          · refine loadS (l6 H) ?_
            refine gF (fun c48 => ?_) (fun c48 => ?_)
            · refine loadS (l7 H) ?_
              refine gY ?_
              refine ifB (fun c51 => ?_) (fun c51 => ?_)
              · exact ⟨rfl, congrArg Value.bool (by clear l0 l1 l2 l3 l4 l5 l6 l7 cc cg cn ret b0 b4 t0 t4 hk; grind), H⟩
              · refine loadS (l6 H) ?_
                exact ⟨rfl, congrArg Value.bool (by clear l0 l1 l2 l3 l4 l5 l6 l7 cc cg cn ret b0 b4 t0 t4 hk; grind), H⟩
            · refine gY ?_
              refine ifT ?_
              exact ⟨rfl, congrArg Value.bool (by clear l0 l1 l2 l3 l4 l5 l6 l7 cc cg cn ret b0 b4 t0 t4 hk; grind), H⟩
          · refine gNot ?_
            refine gNf ?_
            refine ifF ?_
            refine loadS (l6 H) ?_
            exact ⟨rfl, congrArg Value.bool (by clear l0 l1 l2 l3 l4 l5 l6 l7 cc cg cn ret b0 b4 t0 t4 hk; grind), H⟩
      · refine ifF ?_
        refine RegV.mk ?_
        refine gNot ?_
        refine gF (fun c62 => ?_) (fun c62 => absurd c62 (by omega))
        refine loadS (l6 H) ?_
        refine gF (fun c64 => ?_) (fun c64 => ?_)
        · refine loadS (l7 H) ?_
          refine gY ?_
          refine ifB (fun c67 => ?_) (fun c67 => ?_)
          · exact ⟨rfl, congrArg Value.bool (by clear l0 l1 l2 l3 l4 l5 l6 l7 cc cg cn ret b0 b4 t0 t4 hk; grind), H⟩
          · refine loadS (l6 H) ?_
            exact ⟨rfl, congrArg Value.bool (by clear l0 l1 l2 l3 l4 l5 l6 l7 cc cg cn ret b0 b4 t0 t4 hk; grind), H⟩
        · refine gY ?_
          refine ifT ?_
          exact ⟨rfl, congrArg Value.bool (by clear l0 l1 l2 l3 l4 l5 l6 l7 cc cg cn ret b0 b4 t0 t4 hk; grind), H⟩
  rintro e w ⟨h0, h53, H⟩
  rw [Env.two h0 h53]
  have x := Classical.not_not.1 x
  refine ifB (fun y => ret (by rw [← hr]; exact decide_eq_false fun q => y ⟨q.2.2.2.2.2.1, q.2.2.2.2.2.2.2.2.1, fun z => q.2.2.2.2.2.2.2.2.2.1 (by omega), q.2.2.2.2.2.2.2.2.2.2⟩) H) (fun y => ?_)
  have y := Classical.not_not.1 y
  refine loadS (l0 H) ?_
  refine ifB (fun z => ?_) (fun z => ?_)
  · refine loadS (l4 H) ?_
    refine callV ok_IsNumber (cn H.below) H fun w H => ?_
    refine Exists.intro _ (And.intro rfl (And.intro (congrArg Value.bool ?_) H.none))
    rw [← hr, Bool.eq_iff_iff, decide_eq_true_eq]
    exact ⟨fun h => ⟨x.1, x.2.1, x.2.2.1, x.2.2.2.1, x.2.2.2.2, y.1, fun _ => h, fun q => absurd z q, y.2.1, fun q => y.2.2.1 (by omega), y.2.2.2⟩, fun q => q.2.2.2.2.2.2.1 z⟩
  · refine loadS (l4 H) ?_
    refine Exists.intro _ (And.intro rfl (And.intro (congrArg Value.bool ?_) H.none))
    rw [← hr, Bool.eq_iff_iff, decide_eq_true_eq, decide_eq_true_eq]
    exact ⟨fun h => ⟨x.1, x.2.1, x.2.2.1, x.2.2.2.1, x.2.2.2.2, y.1, fun q => absurd q z, fun _ => by omega, y.2.1, fun q => y.2.2.1 (by omega), y.2.2.2⟩, fun q => by have := q.2.2.2.2.2.2.2.1 z; omega⟩
end Go.Proofs.YtpaklalfopfilaaE
/- Drawn regions told as a tree of orders: where two operations that do something may come in either order, both are told. No condition of the laws stands here. -/
namespace Go.Proofs.YtpaklalfopfilaaE
open Go Go.RowKit
set_option linter.unusedVariables false
set_option maxRecDepth 100000
set_option linter.unusedSimpArgs false

inductive PT where
  | nil
  | one (i : Nat) (r : PT)
  | fork (a b : PT)
def PT.heads : PT → List Nat
  | .nil => []
  | .one i _ => [i]
  | .fork a b => a.heads ++ b.heads
def PT.len : PT → Nat
  | .nil => 0
  | .one _ r => r.len + 1
  | .fork a _ => a.len
def PT.of : List Nat → PT → PT
  | [], p => p
  | i :: r, p => .one i (PT.of r p)
structure ForkS (X Y : Prop) : Prop where
  both : X ∧ Y
noncomputable def vopsT (P : Program) (ops : List Oper) (now keep : List Nat) (w0 : World) (K : Env → World → Prop) (p : PT) : Env → World → Prop :=
  PT.rec (motive := fun _ => Env → World → Prop) (fun e w => K e w)
    (fun i _ ih e w => Option.rec (motive := fun _ => Prop) False (fun o => stepG P ops now keep w0 i ih e w o) (nthO ops i))
    (fun _ _ ia ib e w => ForkS (ia e w) (ib e w)) p
def planT (ops : Array Oper) (now keep loads : List Nat) : PT → Bool → Bool → Array Bool → Bool
  | .nil, _, fk, listed => !fk && (Region.ready .any ops listed).isEmpty
  | .one i r, s, fk, listed =>
    match ops[i]? with
    | none => false
    | some o =>
      (bif has i now then (fk || decide (Region.ready .any ops listed = [i])) && (has i keep || loads.all fun h => reachN ops ops.size i h)
       else !fk && ((Region.ready .any ops listed).contains i && Region.free .any ops listed i && (!isLoad o || (s && has i loads)))) &&
      planT ops now keep loads r (s && (!has i now || has i keep)) false (listed.setIfInBounds i true)
  | .fork a b, s, fk, listed => (fk || decide (Region.ready .any ops listed = a.heads ++ b.heads)) && Nat.beq a.len b.len && planT ops now keep loads a s true listed && planT ops now keep loads b s true listed
def okT (N : Nat) (P : Program) (ops : Array Oper) (now keep loads : List Nat) (p : PT) : Bool :=
  P.follows .mixedOrders && Region.noSelect ops && (ops.toList.all fun o => dstOK N o) && Nat.beq p.len ops.size &&
  (now.all fun j => has j keep || loads.all fun h => reachN ops ops.size j h) && planT ops now keep loads p true false (Array.replicate ops.size false)
theorem vopsT_sound {N : Nat} {P : Program} {ops : Array Oper} {now keep loads : List Nat} {w0 : World} {K : Env → World → Prop} {Q : Exit → Act → World → Prop} (hsel : Region.noSelect ops = true)
    (hall : ∀ o ∈ ops.toList, dstOK N o = true) (hnow : ∀ j ∈ now, has j keep = true ∨ ∀ h ∈ loads, reachN ops ops.size j h = true)
    (hK : ∀ e w a, K e w → Rel N e a → Q .normal a w) (hX : ∀ c a w, Q (.panic c) a w = False) :
    ∀ (p : PT) (s fk : Bool) (listed : Array Bool) (e : Env) (a : Act) (w : World), HeadInv .any ops ops.size listed → planT ops now keep loads p s fk listed = true → (s = true → HeldW w0 w) →
      vopsT P ops.toList now keep w0 K p e w → Rel N e a →
      (fk = false → wpAnyG P ops Q (HeldW w0) (fun j => has j now && !has j keep) p.len listed a w) ∧
      (fk = true → 0 < p.len ∧ ∀ i ∈ p.heads, i ∈ Region.ready .any ops listed → wpOp P ops Q i (fun a' w' => ((has i now && !has i keep) = false → HeldW w0 w → HeldW w0 w') ∧ wpAnyG P ops Q (HeldW w0) (fun j => has j now && !has j keep) (p.len - 1) (listed.setIfInBounds i true) a' w') a w) := by
  intro p
  induction p with
  | nil =>
    intro s fk listed e a w inv hp _ h hr
    cases fk with
    | true => simp [planT] at hp
    | false => exact ⟨fun _ => ⟨by simpa [planT] using hp, hK _ _ _ h hr⟩, fun q => by cases q⟩
  | fork x y ihx ihy =>
    intro s fk listed e a w inv hp hs h hr
    simp only [planT, Bool.and_eq_true] at hp
    obtain ⟨⟨⟨hrd, hlen⟩, hpx⟩, hpy⟩ := hp
    have hlen := Nat.eq_of_beq_eq_true hlen
    have h : ForkS (vopsT P ops.toList now keep w0 K x e w) (vopsT P ops.toList now keep w0 K y e w) := h
    have hx := (ihx s true listed e a w inv hpx hs h.both.1 hr).2 rfl
    have hy := (ihy s true listed e a w inv hpy hs h.both.2 hr).2 rfl
    have both : ∀ i ∈ x.heads ++ y.heads, i ∈ Region.ready .any ops listed → wpOp P ops Q i (fun a' w' => ((has i now && !has i keep) = false → HeldW w0 w → HeldW w0 w') ∧ wpAnyG P ops Q (HeldW w0) (fun j => has j now && !has j keep) (x.len - 1) (listed.setIfInBounds i true) a' w') a w := by
      intro i hi hir
      rcases List.mem_append.1 hi with q | q
      · exact hx.2 i q hir
      · have := hy.2 i q hir
        rw [← hlen] at this; exact this
    refine ⟨fun hf => ?_, fun _ => ⟨hx.1, both⟩⟩
    subst hf
    simp only [Bool.false_or, decide_eq_true_eq] at hrd
    have e1 : (PT.fork x y).len = x.len - 1 + 1 := by show x.len = _; have := hx.1; omega
    rw [e1]
    refine ⟨fun q => ?_, fun j hj => both j (hrd ▸ hj) hj⟩
    exfalso
    have hne : x.heads ++ y.heads = [] := hrd.symm.trans q
    obtain ⟨hxe, _⟩ := List.append_eq_nil_iff.1 hne
    have gen : ∀ p : PT, 0 < p.len → p.heads ≠ [] := by
      intro p
      induction p with
      | nil => intro h; cases h
      | one i r _ => intro _ h; cases h
      | fork a b iha _ => intro h q; exact iha h (List.append_eq_nil_iff.1 q).1
    exact gen x hx.1 hxe
  | one i r ih =>
    intro s fk listed e a w inv hp hs h hr
    cases ho : ops[i]? with
    | none => simp [planT, ho] at hp
    | some o =>
      simp only [planT, ho, Bool.and_eq_true] at hp
      obtain ⟨hp1, hp2⟩ := hp
      have hn : nthO ops.toList i = some o := by rw [nthO_eq]; simpa using ho
      have him : o ∈ ops.toList := List.mem_of_getElem? (l := ops.toList) (i := i) (a := o) (by simpa using ho)
      have hd := hall o him
      have his : i < ops.size := (Array.getElem?_eq_some_iff.1 ho).1
      have h : Option.rec (motive := fun _ => Prop) False (fun o => stepG P ops.toList now keep w0 i (vopsT P ops.toList now keep w0 K r) e w o) (nthO ops.toList i) := h
      rw [hn] at h
      have h : stepG P ops.toList now keep w0 i (vopsT P ops.toList now keep w0 K r) e w o := h
      have hseln := Region.noSelect_spec hsel
      have ih' : ∀ {s'} {e a w}, planT ops now keep loads r s' false (listed.setIfInBounds i true) = true → (s' = true → HeldW w0 w) → i ∈ Region.ready .any ops listed → vopsT P ops.toList now keep w0 K r e w → Rel N e a → wpAnyG P ops Q (HeldW w0) (fun j => has j now && !has j keep) r.len (listed.setIfInBounds i true) a w :=
        fun hp2 hs' hri h hr => (ih _ false _ _ _ _ (inv.set hri his) hp2 hs' h hr).1 rfl
      cases hin : has i now with
      | false =>
        rw [hin] at hp1 hp2
        simp only [cond_false, Bool.and_eq_true, Bool.or_eq_true, Bool.not_eq_true'] at hp1
        obtain ⟨hfk, ⟨hrd, hfr⟩, hld⟩ := hp1
        subst hfk
        have hri : i ∈ Region.ready .any ops listed := by simpa using hrd
        refine ⟨fun _ => ?_, fun q => by cases q⟩
        have done : ∀ e : Env, Rel N e a → Region.wanted o (yielded ops a.tmps) = true → doG P now keep w0 i o (vopsT P ops.toList now keep w0 K r) e w → wpAnyG P ops Q (HeldW w0) (fun j => has j now && !has j keep) (r.len + 1) listed a w := by
          intro e hr hwt h
          unfold doG at h
          have h : vopG P o e w0 fun v => vopsT P ops.toList now keep w0 K r (e.putO o.dst v) w := by simpa only [hin] using h
          obtain ⟨v, hk, hrun⟩ := vopG_run h
          refine wpAnyG_first (b := isLoad o) (n := ops.size) (v := v) ho hseln (fun c a w q => by rw [hX] at q; exact q.elim) ?_ r.len listed a w inv (Region.free_spec ho hfr) hri ?_ ?_ ?_
          · intro hb j hj
            simp only [Bool.and_eq_true, Bool.not_eq_true'] at hj
            rcases hld with hld | hld
            · rw [hb] at hld; cases hld
            · rcases hnow j (has_mem hj.1) with q | q
              · rw [hj.2] at q; cases q
              · exact q i (has_mem hld.2)
          · intro hb
            rcases hld with hld | hld
            · rw [hb] at hld; cases hld
            · exact hs hld.1
          · exact .inl ⟨hwt, fun w' hw' => by rw [hr.eval]; exact hrun w' hw'⟩
          · refine ih' hp2 (fun q => hs ?_) hri hk (hr.put hd v)
            simp only [Bool.and_eq_true] at q
            exact q.1
        have left : ∀ e : Env, Rel N e a → Region.wanted o (yielded ops a.tmps) = false → vopsT P ops.toList now keep w0 K r (e.putO o.dst undef) w → wpAnyG P ops Q (HeldW w0) (fun j => has j now && !has j keep) (r.len + 1) listed a w := by
          intro e hr hwt h
          refine wpAnyG_first (b := false) (n := ops.size) (v := undef) ho hseln (fun c a w q => by rw [hX] at q; exact q.elim) (fun q => by cases q) r.len listed a w inv (Region.free_spec ho hfr) hri (fun q => by cases q) (.inr ⟨hwt, rfl⟩) ?_
          refine ih' hp2 (fun q => hs ?_) hri h (hr.put hd undef)
          simp only [Bool.and_eq_true] at q
          exact q.1
        unfold stepG at h
        cases hg : o.guard with
        | none =>
          rw [hg] at h
          exact done e hr (by simp [Region.wanted, hg]) h
        | some jw =>
          obtain ⟨j, want⟩ := jw
          rw [hg] at h
          cases hsl : slotOf ops.toList j with
          | none => simp only [hsl] at h
          | some g =>
            simp only [hsl] at h
            have hwt := wanted_of (opsA := ops) hr hg hsl
            unfold guardK at h
            split at h
            · rename_i b heg
              rw [heg] at hwt
              by_cases hb : b = want
              · subst hb
                have h := h.all.1 rfl
                rw [Env.put_same heg] at h
                exact done e hr (by simpa using hwt) h
              · have hb' : b = !want := by cases b <;> cases want <;> first | rfl | exact absurd rfl hb
                have h2 := h.all.2 hb'
                clear h
                subst hb'
                rw [Env.put_same heg] at h2
                exact left e hr (by rw [hwt]; simp) h2
            · rename_i hne
              refine left e hr ?_ h
              rw [hwt]
              cases heg : e g <;> first | rfl | exact absurd heg (hne _)
      | true =>
        rw [hin] at hp1 hp2
        simp only [cond_true, Bool.and_eq_true, Bool.or_eq_true, decide_eq_true_eq] at hp1
        obtain ⟨hrd, _⟩ := hp1
        -- the operation itself
        have core : i ∈ Region.ready .any ops listed → wpOp P ops Q i (fun a' w' => ((has i now && !has i keep) = false → HeldW w0 w → HeldW w0 w') ∧ wpAnyG P ops Q (HeldW w0) (fun j => has j now && !has j keep) r.len (listed.setIfInBounds i true) a' w') a w := by
          intro hri
          have done : ∀ e : Env, Rel N e a → Region.wanted o (yielded ops a.tmps) = true → doG P now keep w0 i o (vopsT P ops.toList now keep w0 K r) e w → wpOp P ops Q i (fun a' w' => ((has i now && !has i keep) = false → HeldW w0 w → HeldW w0 w') ∧ wpAnyG P ops Q (HeldW w0) (fun j => has j now && !has j keep) r.len (listed.setIfInBounds i true) a' w') a w := by
            intro e hr hwt h
            unfold doG at h
            have h : vopV P o e w (fun v w' => Bool.rec (motive := fun _ => Prop) (vopsT P ops.toList now keep w0 K r (e.putO o.dst v) w') (KeepS w0 w' (vopsT P ops.toList now keep w0 K r (e.putO o.dst v) w')) (has i keep)) (fun _ _ => False) := by simpa only [hin] using h
            rw [vopV_eq] at h
            unfold wpOp
            simp only [ho, hwt, if_true]
            refine .inl (wp_of_good (vop_sound hr.eval h) ?_ (fun ch w' q => q.elim))
            intro v w' hv
            cases hkp : has i keep with
            | false =>
              rw [hkp] at hv hp2
              refine ⟨fun q => by simp [hin, hkp] at q, ih' hp2 (fun q => by simp at q) hri hv (hr.put hd v)⟩
            | true =>
              rw [hkp] at hv hp2
              have hv : KeepS w0 w' (vopsT P ops.toList now keep w0 K r (e.putO o.dst v) w') := hv
              exact ⟨fun _ _ => hv.ex.1, ih' hp2 (fun _ => hv.ex.1) hri hv.ex.2 (hr.put hd v)⟩
          have left : ∀ e : Env, Rel N e a → Region.wanted o (yielded ops a.tmps) = false → vopsT P ops.toList now keep w0 K r (e.putO o.dst undef) w → wpOp P ops Q i (fun a' w' => ((has i now && !has i keep) = false → HeldW w0 w → HeldW w0 w') ∧ wpAnyG P ops Q (HeldW w0) (fun j => has j now && !has j keep) r.len (listed.setIfInBounds i true) a' w') a w := by
            intro e hr hwt h
            unfold wpOp
            simp only [ho, hwt]
            exact ⟨fun _ q => q, ih' hp2 (fun q => hs (by simp only [Bool.and_eq_true] at q; exact q.1)) hri h (hr.put hd undef)⟩
          unfold stepG at h
          cases hg : o.guard with
          | none =>
            rw [hg] at h
            exact done e hr (by simp [Region.wanted, hg]) h
          | some jw =>
            obtain ⟨j, want⟩ := jw
            rw [hg] at h
            cases hsl : slotOf ops.toList j with
            | none => simp only [hsl] at h
            | some g =>
              simp only [hsl] at h
              have hwt := wanted_of (opsA := ops) hr hg hsl
              unfold guardK at h
              split at h
              · rename_i b heg
                rw [heg] at hwt
                by_cases hb : b = want
                · subst hb
                  have h := h.all.1 rfl
                  rw [Env.put_same heg] at h
                  exact done e hr (by simpa using hwt) h
                · have hb' : b = !want := by cases b <;> cases want <;> first | rfl | exact absurd rfl hb
                  have h2 := h.all.2 hb'
                  clear h
                  subst hb'
                  rw [Env.put_same heg] at h2
                  exact left e hr (by rw [hwt]; simp) h2
              · rename_i hne
                refine left e hr ?_ h
                rw [hwt]
                cases heg : e g <;> first | rfl | exact absurd heg (hne _)
        refine ⟨fun hf => ?_, fun _ => ⟨Nat.succ_pos _, fun j hj hjr => ?_⟩⟩
        · subst hf
          rcases hrd with hrd | hrd
          · cases hrd
          refine ⟨fun q => (by rw [hrd] at q; cases q), fun j hj => ?_⟩
          have hj' := hj
          rw [hrd] at hj'
          obtain rfl : j = i := by simpa using hj'
          exact core hj
        · obtain rfl : j = i := by simpa [PT.heads] using hj
          exact core hjr
theorem regT {N : Nat} {P : Program} {id : Nat} {ops : Array Oper} {K : Exit → Env → World → Prop} {e : Env} {w : World} (now keep loads : List Nat) (p : PT) (hok : okT N P ops now keep loads p = true)
    (h : DrawS w fun w1 => vopsT P ops.toList now keep w1 (K .normal) p e w1) : RegS N P id ops K e w := by
  simp only [okT, Bool.and_eq_true] at hok
  obtain ⟨⟨⟨⟨⟨hm, hsel⟩, hall⟩, hlen⟩, hnow⟩, hplan⟩ := hok
  have hs : SameW w { w with drawn := w.drawn + 1 } := ⟨rfl, rfl, rfl, rfl⟩
  have hlen := Nat.eq_of_beq_eq_true hlen
  refine ⟨fun a hr => ?_⟩
  have inv0 : HeadInv .any ops ops.size (Array.replicate ops.size false) :=
    ⟨by simp, fun j oj _ hl => (by rw [getD_replicate_false] at hl; cases hl), fun t ht ht' => absurd ht' (by omega)⟩
  have H := (vopsT_sound (N := N) (Q := fun ex a' w' => match ex with | .normal => ∃ e', Rel N e' a' ∧ K .normal e' w' | _ => False) hsel
    (fun o ho => List.all_eq_true.1 hall o ho)
    (fun j hj => by
      have := List.all_eq_true.1 hnow j hj
      simp only [Bool.or_eq_true, List.all_eq_true] at this
      exact this)
    (fun e w a hk hr => ⟨e, hr, hk⟩) (fun c a w => rfl) p true false _ e a _ inv0 hplan (fun _ => HeldW.refl _) (h.all _ hs) hr).1 rfl
  rw [hlen] at H
  refine wp_mono (wp_region_any hm (wpAny_of_G _ _ _ _ H)) ?_
  intro ex a' w' q
  cases ex <;> first | exact q | exact q.elim
/-- a drawn region's end, said once -/
theorem cutReg {N : Nat} {P : Program} {id : Nat} {ops : Array Oper} {K : Exit → Env → World → Prop} {e : Env} {w : World} (J : Env → World → Prop) (h : RegS N P id ops (fun ex e w => match ex with | .normal => J e w | ex => K ex e w) e w) (k : ∀ e w, J e w → K .normal e w) : RegS N P id ops K e w :=
  ⟨fun a hr => wp_mono (h.sem a hr) fun ex a' w' ⟨e', hr', hk⟩ => ⟨e', hr', by cases ex <;> first | exact k _ _ hk | exact hk⟩⟩
end Go.Proofs.YtpaklalfopfilaaE
/- Steps over rows of whatever elements. No condition of the laws stands here. -/
namespace Go.Proofs.YtpaklalfopfilaaE
open Go Go.RowKit
set_option linter.unusedVariables false
set_option maxRecDepth 100000
set_option maxHeartbeats 2000000

/-- append to an own row of whatever elements -/
theorem appRS {P : Program} {B : Nat} {W0 w : World} {L : List It} {t ty e : TypeId} {z : Value} {sz bytes n m : Nat} {v x : Value} {cs ds : List Value} {K : Value → World → Prop} (ht : P.underlying t = some (.slice e))
    (inf : (P.info? e).map (fun i => (i.zero, i.size, i.bytes)) = some (some z, sz, bytes)) (hzs : z.cells.size = sz) (hsz : 0 < sz) (hby : bytes ≤ 128) (H : St B W0 w L) (i : Nat) (hi : L[i]? = some (.row v e sz n cs)) (hx : Rd w x sz m ds) (h1 : ∀ u ∈ ds, u.oneCell' = true)
    (hm : n + m ≤ 1099511627776) (k : ∀ A c w', St B W0 w' (L.set i (.row (.slice A (n + m) c) e sz (n + m) (cs ++ ds))) → K (.slice A (n + m) c) w') : RunS P (Builtin.append_ #[t, t] ty #[v, x]) w K := by
  obtain ⟨i0, q1, q2, q3, q4⟩ := infoOf inf
  refine app_run ht q1 q2 q3 q4 hzs hsz (H.own i hi) hx h1 hm hby H.size fun v' w' ho hg hb => ?_
  have H' := app_turn H i hi ho hg hb
  obtain ⟨A, c, rfl⟩ := H'.mk1 i (get_set hi)
  exact k A c w' H'
theorem HeldW.step {w0 w1 w2 : World} (h : HeldW w0 w1) (hb : Below w1.heap.size w1 w2) : HeldW w0 w2 := ⟨fun k hk => by
  have h1 := h.block k hk
  have h2 : k < w1.heap.size := by
    rcases Nat.lt_or_ge k w1.heap.size with q | q
    · exact q
    · rw [Array.getElem?_eq_none q, Array.getElem?_eq_getElem hk] at h1; cases h1
  rw [hb.block k h2, h1]⟩
theorem callRowB {P : Program} {B : Nat} {W0 w : World} {L : List It} {f : FuncId} {args : List Value} {K : Value → World → Prop} {X : List PanicEntry → World → Prop} {e : TypeId} {sz n : Nat} {cs : List Value} (ok : callOK P f = true)
    (h : Calls P f args.toArray w fun e' w' => ∃ x, e' = .returned x ∧ w'.ownsRow w.heap.size e sz x n cs ∧ Below w.heap.size w w') (H : St B W0 w L) (k : ∀ A c w', Below w.heap.size w w' → St B W0 w' (.row (.slice A n c) e sz n cs :: L) → K (.slice A n c) w') : CallS P f args w K X :=
  CallS.mk ok (h.mono fun e' w' ⟨x, he, ho, hb⟩ => by
    subst he
    obtain ⟨A, c, rfl⟩ := own_val ho
    exact k A c w' hb (newRow H ho hb))
theorem litRB {P : Program} {B : Nat} {W0 w : World} {L : List It} {t e : TypeId} {m n sz : Nat} {parts : Array (Nat × Value)} {cs : List Value} {K : Value → World → Prop} (H : St B W0 w L) (hc : cs.length = n * sz) (hl : n ≤ 1099511627776) (hr : (Instr.buildSlice t m parts).run P w = .ok (.slice (some ⟨w.heap.size, 0, none⟩) n n) (w.alloc (.cells cs.toArray e)))
    (k : ∀ A c w', Below w.heap.size w w' → St B W0 w' (.row (.slice A n c) e sz n cs :: L) → K (.slice A n c) w') : RunS P (Instr.buildSlice t m parts) w K :=
  ⟨_, _, hr, k _ _ _ (alloc_below _ _) (newRow H (own_newR hc hl) (alloc_below _ _))⟩
theorem newRB {B : Nat} {W0 w : World} {L : List It} {o : Obj} {K : Nat → World → Prop} (H : St B W0 w L) (k : ∀ g w', Below w.heap.size w w' → St B W0 w' (.obj g o :: L) → K g w') : NewS w o K :=
  ⟨fun b w' hb hw => k b w' (by subst hw; exact (Below.refl _ _).alloc (Nat.le_refl _) o) (by subst hb hw; exact H.cons ((Below.refl _ _).alloc (Nat.le_refl _) o) ⟨H.size, heap_alloc_new w o⟩ (fun g hg => by cases hg; exact Nat.le_refl _))⟩
theorem Env.seven {e : Env} {a b c d f g h : Nat} {va vb vc vd vf vg vh : Value} (ha : e a = va) (hb : e b = vb) (hc : e c = vc) (hd : e d = vd) (hf : e f = vf) (hg : e g = vg) (hh : e h = vh) : e = (((((((e.put a va).put b vb).put c vc).put d vd).put f vf).put g vg).put h vh) := by rw [Env.put_same ha, Env.put_same hb, Env.put_same hc, Env.put_same hd, Env.put_same hf, Env.put_same hg, Env.put_same hh]
theorem Env.eight {e : Env} {a b c d f g h i : Nat} {va vb vc vd vf vg vh vi : Value} (ha : e a = va) (hb : e b = vb) (hc : e c = vc) (hd : e d = vd) (hf : e f = vf) (hg : e g = vg) (hh : e h = vh) (hi : e i = vi) : e = ((((((((e.put a va).put b vb).put c vc).put d vd).put f vf).put g vg).put h vh).put i vi) := by rw [Env.put_same ha, Env.put_same hb, Env.put_same hc, Env.put_same hd, Env.put_same hf, Env.put_same hg, Env.put_same hh, Env.put_same hi]
theorem Env.nine {e : Env} {a b c d f g h i j : Nat} {va vb vc vd vf vg vh vi vj : Value} (ha : e a = va) (hb : e b = vb) (hc : e c = vc) (hd : e d = vd) (hf : e f = vf) (hg : e g = vg) (hh : e h = vh) (hi : e i = vi) (hj : e j = vj) : e = (((((((((e.put a va).put b vb).put c vc).put d vd).put f vf).put g vg).put h vh).put i vi).put j vj) := by rw [Env.put_same ha, Env.put_same hb, Env.put_same hc, Env.put_same hd, Env.put_same hf, Env.put_same hg, Env.put_same hh, Env.put_same hi, Env.put_same hj]
theorem Env.ten {e : Env} {a b c d f g h i j k : Nat} {va vb vc vd vf vg vh vi vj vk : Value} (ha : e a = va) (hb : e b = vb) (hc : e c = vc) (hd : e d = vd) (hf : e f = vf) (hg : e g = vg) (hh : e h = vh) (hi : e i = vi) (hj : e j = vj) (hk : e k = vk) : e = ((((((((((e.put a va).put b vb).put c vc).put d vd).put f vf).put g vg).put h vh).put i vi).put j vj).put k vk) := by rw [Env.put_same ha, Env.put_same hb, Env.put_same hc, Env.put_same hd, Env.put_same hf, Env.put_same hg, Env.put_same hh, Env.put_same hi, Env.put_same hj, Env.put_same hk]
end Go.Proofs.YtpaklalfopfilaaE
/- The program's test of a whole tree. -/
namespace Go.Proofs.YtpaklalfopfilaaE
open Go Go.RowKit Go.Proofs
set_option linter.unusedVariables false
set_option linter.unusedSimpArgs false
set_option maxRecDepth 100000
set_option maxHeartbeats 8000000

theorem St.toRo {B : Nat} {W0 w : World} {L : List It} (H : St B W0 w L) (i : Nat) {v : Value} {e : TypeId} {sz n : Nat} {cs : List Value} (hi : L[i]? = some (.row v e sz n cs)) : St B W0 w (L.set i (.ro v sz n cs)) :=
  H.turn i hi ⟨rfl, rfl, rfl, Nat.le_refl _, fun _ _ _ => rfl⟩ (own_rd (H.own i hi)) (fun g hg => .inl (by
    rw [leans_ro] at hg
    split at hg
    · cases hg
    · exact hg))
def lenL (ls : List (Value × List CommentG)) : Nat := (ls.map fun x => x.2.length).sum
def sumL (ls : List (Value × List CommentG)) : Nat := (ls.map fun x => sumC x.2).sum
theorem lenL_take {ls : List (Value × List CommentG)} {j : Nat} {x : Value × List CommentG} (h : ls[j]? = some x) : lenL (ls.take (j + 1)) = lenL (ls.take j) + x.2.length ∧ sumL (ls.take (j + 1)) = sumL (ls.take j) + sumC x.2 := by
  unfold lenL sumL
  rw [List.take_add_one, h, List.map_append, List.map_append, List.sum_append, List.sum_append]; simp
theorem lenL_le (ls : List (Value × List CommentG)) (j : Nat) : lenL (ls.take j) ≤ lenL ls ∧ sumL (ls.take j) ≤ sumL ls := by
  have e : ∀ f : (Value × List CommentG) → Nat, ((ls.take j).map f).sum ≤ (ls.map f).sum := fun f => by
    have h : (ls.map f).sum = ((ls.take j).map f).sum + ((ls.drop j).map f).sum := by
      rw [← List.sum_append, ← List.map_append, List.take_append_drop]
    omega
  exact ⟨e _, e _⟩
theorem ok_count : callOK Try.prog 35 = true := by kernel_rfl
theorem impl_count {W0 w : World} {L : List It} {ls : List (Value × List CommentG)} {g4 g3 n c : Nat} {a b : Nat} {A : Option Addr} (hC : ∀ x ∈ ls, RdComment W0 x.1 x.2.length x.2) (ha : a + lenL ls ≤ 4294967296) (hb : b + sumL ls ≤ 4294967296) (hn : n = ls.length) (hnb : n ≤ 4294967296)
    (H : St W0.heap.size W0 w (.obj g4 (.cells #[.int .i64 a] 3) :: .obj g3 (.cells #[.int .i64 b] 3) :: .ro (.slice A n c) 1 n (ls.map Prod.fst) :: L)) :
    Calls Try.prog 35 #[.slice A n c, .pointer (some ⟨g4, 0, none⟩), .pointer (some ⟨g3, 0, none⟩)] w fun e w' => e = .returned (.tuple #[]) ∧ St W0.heap.size W0 w' (.obj g4 (.cells #[.int .i64 (a + lenL ls : Nat)] 3) :: .obj g3 (.cells #[.int .i64 (b + sumL ls : Nat)] 3) :: .ro (.slice A n c) 1 n (ls.map Prod.fst) :: L) := by
  subst hn
  refine calls_of_vcV (args := [.slice A ls.length c, .pointer (some ⟨g4, 0, none⟩), .pointer (some ⟨g3, 0, none⟩)]) Try.func35 rfl (by kernel_rfl) (Nat.le_of_ble_eq_true rfl) ?_
  refine loopV (by kernel_rfl) (fun m e w => e 1 = .pointer (some ⟨g4, 0, none⟩) ∧ e 2 = .pointer (some ⟨g3, 0, none⟩) ∧ e 8 = .slice A ls.length c ∧ e 9 = .int .i64 ls.length ∧ ∃ j : Nat, e 10 = .int .i64 j ∧ j + m = ls.length ∧ St W0.heap.size W0 w (.obj g4 (.cells #[.int .i64 (a + lenL (ls.take j) : Nat)] 3) :: .obj g3 (.cells #[.int .i64 (b + sumL (ls.take j) : Nat)] 3) :: .ro (.slice A ls.length c) 1 ls.length (ls.map Prod.fst) :: L)) ls.length
    ⟨rfl, rfl, rfl, rfl, 0, rfl, by omega, by simpa [lenL, sumL] using H⟩ ?_
  rintro m e w ⟨h1, h2, h8, h9, j, h10, hj, H⟩
  rw [Env.five h1 h2 h8 h9 h10]
  refine ifB (fun h => ?_) (fun h => ?_)
  case refine_2 =>
    rw [List.take_of_length_le (by omega)] at H
    exact And.intro rfl H
  have hjl : j < ls.length := by omega
  obtain ⟨x, hx⟩ : ∃ x, ls[j]? = some x := ⟨_, List.getElem?_eq_getElem hjl⟩
  have hxm : x ∈ ls := List.mem_of_getElem? hx
  have q1 := lenL_take hx
  have q2 := lenL_le ls (j + 1)
  have hR := hC x hxm
  obtain ⟨v, fs⟩ := x
  dsimp only at q1 hR
  obtain ⟨_, A1, c1, e1, _⟩ := id hR.row
  subst e1
  have hget : (ls.map Prod.fst)[j]? = some (.slice A1 fs.length c1) := by rw [List.getElem?_map, hx]; rfl
  refine idxR (H.rd 2 rfl) (by omega) (by omega) fun b0 off hA hcl => ?_
  refine loadS (v := .slice A1 fs.length c1) ((hcl 0 (by decide)).trans (by rw [show (j : Int).toNat * 1 + 0 = j by omega]; exact hget)) ?_
  refine loadO H 0 rfl rfl ?_
  refine ar64 (by omega) (by omega) ?_
  refine storeO H 0 rfl rfl rfl fun w H => ?_
  have H : St W0.heap.size W0 w (.obj g4 (.cells #[.int .i64 (a + lenL (ls.take (j + 1)) : Nat)] 3) :: .obj g3 (.cells #[.int .i64 (b + sumL (ls.take j) : Nat)] 3) :: .ro (.slice A ls.length c) 1 ls.length (ls.map Prod.fst) :: L) := by
    have e : ((a + lenL (ls.take (j + 1)) : Nat) : Int) = ((a + lenL (ls.take j) : Nat) : Int) + fs.length := by omega
    rw [e]; exact H
  refine loopV (by kernel_rfl) (fun k e w => e 1 = .pointer (some ⟨g4, 0, none⟩) ∧ e 2 = .pointer (some ⟨g3, 0, none⟩) ∧ e 8 = .slice A ls.length c ∧ e 9 = .int .i64 ls.length ∧ e 10 = .int .i64 j ∧ e 18 = .slice A1 fs.length c1 ∧ e 19 = .int .i64 fs.length ∧ ∃ i : Nat, e 20 = .int .i64 i ∧ i + k = fs.length ∧ St W0.heap.size W0 w (.obj g4 (.cells #[.int .i64 (a + lenL (ls.take (j + 1)) : Nat)] 3) :: .obj g3 (.cells #[.int .i64 (b + sumL (ls.take j) + sumC (fs.take i) : Nat)] 3) :: .ro (.slice A ls.length c) 1 ls.length (ls.map Prod.fst) :: L)) fs.length
    ⟨rfl, rfl, rfl, rfl, rfl, rfl, rfl, 0, rfl, by omega, H⟩ ?_
  rintro k e w ⟨h1, h2, h8, h9, h10, h18, h19, i, h20, hi, H⟩
  rw [Env.eight h1 h2 h8 h9 h10 h18 h19 h20]
  refine ifB (fun h => ?_) (fun h => ?_)
  case refine_2 =>
    rw [show fs.take i = fs from List.take_of_length_le (by omega)] at H
    refine arN (by omega) ?_
    refine Exists.intro (m - 1) (And.intro (by omega) ⟨rfl, rfl, rfl, rfl, j + 1, rfl, by omega, ?_⟩)
    rw [q1.2, ← Nat.add_assoc]; exact H
  have hil : i < fs.length := by omega
  obtain ⟨f, hf⟩ : ∃ f, fs[i]? = some f := ⟨_, List.getElem?_eq_getElem hil⟩
  have p1 := sizeComment_take hf
  have p2 := sizeComment_le fs (i + 1)
  have p3 : sumC fs = (fs.map CommentG.size).sum := rfl
  have p4 : sumC (fs.take i) = ((fs.take i).map CommentG.size).sum := rfl
  have p5 : sumC (fs.take (i + 1)) = ((fs.take (i + 1)).map CommentG.size).sum := rfl
  have p6 : f.size = f.text.length := rfl
  obtain ⟨A2, c2, e2⟩ := CommentG.shape (hR.kids f (List.mem_of_getElem? hf))
  refine idxC (cells := CommentG.cells) CommentG.cells_len (hR.ext H.below).row hf hil fun b1 off1 hc => ?_
  refine loadS (v := .bool f.block) (hc 0 _ rfl) ?_
  refine loadS (v := .slice A2 f.text.length c2) (hc 1 _ (by show some f.textV = _; rw [e2])) ?_
  refine newR (o := .cells #[.bool false, .slice none 0 0] _) H fun g7 w H => ?_
  refine storeO H 0 rfl rfl rfl fun w H => ?_
  refine storeO H 0 rfl rfl rfl fun w H => ?_
  refine loadO H 2 rfl rfl ?_
  refine loadO H 0 rfl rfl ?_
  refine ar64 (by omega) (by omega) ?_
  refine storeO H 2 rfl rfl rfl fun w H => ?_
  refine arN (by omega) ?_
  refine Exists.intro (k - 1) (And.intro (by omega) ⟨rfl, rfl, rfl, rfl, rfl, rfl, rfl, i + 1, rfl, by omega, ?_⟩)
  have e : ((b + sumL (ls.take j) + sumC (fs.take (i + 1)) : Nat) : Int) = ((b + sumL (ls.take j) + sumC (fs.take i) : Nat) : Int) + f.text.length := by omega
  rw [e]
  exact H.tl
end Go.Proofs.YtpaklalfopfilaaE
/- The program's ValidTree. -/
namespace Go.Proofs.YtpaklalfopfilaaE
open Go Go.RowKit Go.Proofs
set_option linter.unusedVariables false
set_option linter.unusedSimpArgs false
set_option maxRecDepth 100000
set_option maxHeartbeats 8000000

theorem cntN_le (fs : List NodeG) (j : Nat) : sumN (fs.take j) ≤ (fs.map NodeG.size).sum ∧ cntN (fs.take j) ≤ (fs.map NodeG.size).sum := by have := sumN_le fs j; omega
theorem ok_impl_ValidTree : callOK Try.prog 9 = true := by kernel_rfl
theorem impl_ValidTree {t : TreeG} {W : World} (hx : t.Rd W) (ht : TreeOK t) (hz : t.size ≤ 4294967280) (hM : MaxL W) : GivesV Try.prog 9 [.agg t.cells.toArray] W (.bool (validT t.p)) := by
  have H := St.enter W
  have bn : ∀ f ∈ t.nodes, ByteN f.p := fun f hf => ht.b.nodes f.p (List.mem_map_of_mem hf)
  have bt : ∀ f ∈ t.tail, byteOK f.text := fun f hf => ht.b.tail f.p (List.mem_map_of_mem hf)
  have hcn := ht.c
  obtain ⟨r, hr⟩ : ∃ r, validT t.p = r := ⟨_, rfl⟩
  rw [hr]
  rw [validT_eq, (sizTr_p t).1, (sizTr_p t).2] at hr
  obtain ⟨A0, k0, A1, k1, e0, e1⟩ := TreeG.shape hx
  obtain ⟨nodesV, tailV, nodes, tail⟩ := t
  dsimp only at e0 e1 hr bn bt hcn
  subst e0 e1
  have hN : RdNode W (.slice A0 nodes.length k0) nodes.length nodes := hx.1
  have hT : RdComment W (.slice A1 tail.length k1) tail.length tail := hx.2
  have hz : (nodes.length + (nodes.map NodeG.size).sum) + (tail.length + sumC tail) ≤ 4294967280 := hz
  have taC : ∀ {w : World}, Below W.heap.size W w → GivesV Try.prog 34 [.slice A1 tail.length k1] w (.bool ((tail.map CommentG.p).all commentOK)) := fun hB => impl_validComments (hT.ext hB) (by omega) (comments_text (show (tail.map CommentG.size).sum ≤ 4294967280 from by unfold sumC at hz; omega)) bt (hM.ext hB)
  have enC : (∀ n ∈ nodes.map NodeG.p, nodeOK n) → ∀ {w : World}, Below W.heap.size W w → GivesV Try.prog 37 [.slice A0 nodes.length k0, .int .i64 0, .bool false, .int .i64 200] w (.int .i64 (optI (endT (nodes.map NodeG.p) 200 0 false))) := fun hn => fun hB => impl_behind (by omega) (goodCnt hn hcn) 200 (by decide) (hN.ext hB) 0 false 200 rfl (by decide)
  have hup := endT_up (nodes.map NodeG.p) 200 0 false
  rw [List.length_map] at hup
  generalize (tail.map CommentG.p).all commentOK = ta at *
  generalize endT (nodes.map NodeG.p) 200 0 false = en at *
  clear hx ht
  have ret : ∀ {b : Bool} {w : World} {L : List It}, r = b → St W.heap.size W w L → ∃ v, Ending.returned (.bool b) = .returned v ∧ v = .bool r ∧ St W.heap.size W w [] := fun e H => ⟨_, rfl, by rw [e], H.none⟩
  show GivesV Try.prog 9 [.agg #[.slice A0 nodes.length k0, .slice A1 tail.length k1]] W _
  refine calls_of_vcV (args := [.agg #[.slice A0 nodes.length k0, .slice A1 tail.length k1]]) Try.func9 rfl (by kernel_rfl) (Nat.le_of_ble_eq_true rfl) ?_
  refine newR (o := .cells #[.slice A0 nodes.length k0, .slice A1 tail.length k1] _) H fun g0 w H => ?_
  refine cutG (fun e w => e 1 = .pointer (some ⟨g0, 0, none⟩) ∧ e 23 = .bool (decide (¬ ((1 ≤ nodes.length ∧ nodes.length ≤ 4000) ∧ ta = true))) ∧ St W.heap.size W w [.obj g0 (.cells #[.slice A0 nodes.length k0, .slice A1 tail.length k1] 31)]) ?_ ?_
  · refine loadO H 0 rfl rfl ?_
    refine gF (fun c1 => ?_) (fun c1 => ?_)
    · refine loadO H 0 rfl rfl ?_
      refine gF (fun c3 => ?_) (fun c3 => ?_)
      · refine loadO H 0 rfl rfl ?_
        refine callV ok_impl_validComments (taC H.below) H fun w H => ?_
        exact ⟨rfl, congrArg Value.bool (by clear ret enC taC hN hT bn bt hr hcn hup; grind), H⟩
      · exact ⟨rfl, congrArg Value.bool (by clear ret enC taC hN hT bn bt hr hcn hup; grind), H⟩
    · refine gNf ?_
      exact ⟨rfl, congrArg Value.bool (by clear ret enC taC hN hT bn bt hr hcn hup; grind), H⟩
  rintro e w ⟨h1, h23, H⟩
  rw [Env.two h1 h23]
  refine ifB (fun x => ret (by rw [← hr]; exact decide_eq_false fun q => x ⟨q.1, q.2.1⟩) H) (fun x => ?_)
  have x := Classical.not_not.1 x
  refine newR (o := .cells #[.int .i64 0] _) H fun g3 w H => ?_
  refine newR (o := .cells #[.int .i64 0] _) H fun g4 w H => ?_
  refine storeO H 1 rfl rfl rfl fun w H => ?_
  refine storeO H 0 rfl rfl rfl fun w H => ?_
  have H : St W.heap.size W w [.obj g4 (.cells #[.int .i64 (0 : Nat)] 3), .obj g3 (.cells #[.int .i64 (0 : Nat)] 3), .obj g0 (.cells #[.slice A0 nodes.length k0, .slice A1 tail.length k1] 31)] := H
  refine loadO H 2 rfl rfl ?_
  refine litRB (cs := [.slice A1 tail.length k1]) (e := 29) (n := 1) (sz := 1) H rfl (by decide) (by kernel_rfl) fun Al kl w _ H => ?_
  have H := (H.toRo 0 rfl).sel (M := [.obj g4 (.cells #[.int .i64 (0 : Nat)] 3), .obj g3 (.cells #[.int .i64 (0 : Nat)] 3), .ro (.slice Al 1 kl) 1 1 [.slice A1 tail.length k1], .obj g0 (.cells #[.slice A0 nodes.length k0, .slice A1 tail.length k1] 31)]) (fun q => by simp only [cntL_append, cntL, List.cons_append, List.nil_append, List.set_cons_zero, List.set_cons_succ, List.flatMap_append, List.flatMap_cons, List.flatMap_nil, It.rowB, It.rowI, It.roB, It.roI]; omega)
  refine CallS.mk ok_count ((impl_count (W0 := W) (ls := [(.slice A1 tail.length k1, tail)]) (a := 0) (b := 0) (fun y hy => by rw [List.mem_singleton.1 hy]; exact hT) (by simp only [lenL, List.map_cons, List.map_nil, List.sum_cons, List.sum_nil]; omega) (by simp only [sumL, List.map_cons, List.map_nil, List.sum_cons, List.sum_nil]; omega) rfl (by simp) H).mono ?_)
  rintro _ w ⟨rfl, H⟩
  have H : St W.heap.size W w [.obj g4 (.cells #[.int .i64 (tail.length + cntN (nodes.take 0) : Nat)] 3), .obj g3 (.cells #[.int .i64 (sumC tail + sumN (nodes.take 0) : Nat)] 3), .obj g0 (.cells #[.slice A0 nodes.length k0, .slice A1 tail.length k1] 31)] := by
    have e1 : 0 + lenL [(Value.slice A1 tail.length k1, tail)] = tail.length + cntN (nodes.take 0) := by simp [lenL, cntN]
    have e2 : 0 + sumL [(Value.slice A1 tail.length k1, tail)] = sumC tail + sumN (nodes.take 0) := by simp [sumL, sumN]
    rw [e1, e2] at H
    exact H.sel (fun q => by simp only [cntL_append, cntL, List.cons_append, List.nil_append, List.set_cons_zero, List.set_cons_succ, List.flatMap_append, List.flatMap_cons, List.flatMap_nil, It.rowB, It.rowI, It.roB, It.roI]; omega)
  refine loadO H 2 rfl rfl ?_
  refine loopW (by kernel_rfl) (fun m e w => e 1 = .pointer (some ⟨g0, 0, none⟩) ∧ e 3 = .pointer (some ⟨g3, 0, none⟩) ∧ e 4 = .pointer (some ⟨g4, 0, none⟩) ∧ e 5 = .func (.func 35) #[] #[.pointer (some ⟨g4, 0, none⟩), .pointer (some ⟨g3, 0, none⟩)] ∧ e 32 = .int .i64 nodes.length ∧ ∃ j : Nat, e 33 = .int .i64 j ∧ j + m = nodes.length ∧ (∀ n ∈ (nodes.take j).map NodeG.p, nodeOK n) ∧ St W.heap.size W w [.obj g4 (.cells #[.int .i64 (tail.length + cntN (nodes.take j) : Nat)] 3), .obj g3 (.cells #[.int .i64 (sumC tail + sumN (nodes.take j) : Nat)] 3), .obj g0 (.cells #[.slice A0 nodes.length k0, .slice A1 tail.length k1] 31)])
    (fun id e w => id = 0 ∧ e 1 = .pointer (some ⟨g0, 0, none⟩) ∧ e 3 = .pointer (some ⟨g3, 0, none⟩) ∧ e 4 = .pointer (some ⟨g4, 0, none⟩) ∧ (∀ n ∈ nodes.map NodeG.p, nodeOK n) ∧ St W.heap.size W w [.obj g4 (.cells #[.int .i64 (tail.length + cntN nodes : Nat)] 3), .obj g3 (.cells #[.int .i64 (sumC tail + sumN nodes : Nat)] 3), .obj g0 (.cells #[.slice A0 nodes.length k0, .slice A1 tail.length k1] 31)]) nodes.length
    ⟨rfl, rfl, rfl, rfl, rfl, 0, rfl, by omega, by simp, H⟩ ?_ ?_
  · rintro m e w ⟨h1, h3, h4, h5, h32, j, h33, hj, hg, H⟩
    rw [Env.six h1 h3 h4 h5 h32 h33]
    refine ifB (fun h => ?_) (fun h => ?_)
    case refine_2 =>
      rw [List.take_of_length_le (by omega)] at hg H
      exact ⟨rfl, rfl, rfl, rfl, hg, H⟩
    have hjl : j < nodes.length := by omega
    obtain ⟨f, hf⟩ : ∃ f, nodes[j]? = some f := ⟨_, List.getElem?_eq_getElem hjl⟩
    have hfm : f ∈ nodes := List.mem_of_getElem? hf
    have htk : (nodes.take (j + 1)).map NodeG.p = (nodes.take j).map NodeG.p ++ [f.p] := by rw [List.take_add_one, hf, List.map_append]; rfl
    have q1 := sumN_take hf
    have q2 := sumN_le nodes (j + 1)
    have q3 := sumN_size nodes
    have hfz := sizeNode_mem hfm
    have efz : f.size = (f.lead.length + sumC f.lead) + f.key.length + f.text.length + f.units.length + (f.tail.length + sumC f.tail) := rfl
    obtain ⟨bb, bo, hA0, hc⟩ := elemAt NodeG.cells_len hN.row (Below.refl _ _) hf hjl
    subst hA0
    have ndC : ∀ {w : World}, Below W.heap.size W w → GivesV Try.prog 36 [.pointer (some ⟨bb, bo + (j : Int).toNat * 8, none⟩)] w (.bool (decide (nodeOK f.p))) := fun hB => impl_nodeValid (f := f) (fun w' hB' i v hv => hc w' (hB.trans (hB'.mono hB.size)) i v hv) ((hN.kids f hfm).ext hB) (by omega) (bn f hfm) (hM.ext hB)
    have hL := (hN.kids f hfm).1
    have hR := (hN.kids f hfm).2.2.2.2
    obtain ⟨B0, b0, B1, b1, B2, b2, B3, b3, B4, b4, e0, e1, e2, e3, e4⟩ := NodeG.shape (hN.kids f hfm)
    obtain ⟨leadV, keyV, textV, unitsV, tailV', kind, lead, member, key, text, units, count, tail'⟩ := f
    dsimp only at e0 e1 e2 e3 e4 q1 hL hR
    subst e0 e1 e2 e3 e4
    have l1 : ∀ {w : World}, Below W.heap.size W w → w.cell? ⟨bb, bo + (j : Int).toNat * 8 + 1, none⟩ = some (.slice B0 lead.length b0) := fun hB => hc _ hB 1 _ rfl
    have l3 : ∀ {w : World}, Below W.heap.size W w → w.cell? ⟨bb, bo + (j : Int).toNat * 8 + 3, none⟩ = some (.slice B1 key.length b1) := fun hB => hc _ hB 3 _ rfl
    have l4 : ∀ {w : World}, Below W.heap.size W w → w.cell? ⟨bb, bo + (j : Int).toNat * 8 + 4, none⟩ = some (.slice B2 text.length b2) := fun hB => hc _ hB 4 _ rfl
    have l5 : ∀ {w : World}, Below W.heap.size W w → w.cell? ⟨bb, bo + (j : Int).toNat * 8 + 5, none⟩ = some (.slice B3 units.length b3) := fun hB => hc _ hB 5 _ rfl
    have l7 : ∀ {w : World}, Below W.heap.size W w → w.cell? ⟨bb, bo + (j : Int).toNat * 8 + 7, none⟩ = some (.slice B4 tail'.length b4) := fun hB => hc _ hB 7 _ rfl
    refine JoinV.mk ?_
    refine loadO H 2 rfl rfl ?_
    refine idxS (by omega) (by omega) rfl ?_
    refine callV ok_nodeValid (ndC H.below) H fun w H => ?_
    refine ifNot ?_
    refine ifB (fun hq => ?_) (fun hq => ?_)
    case refine_2 => exact ret (by rw [← hr]; exact decide_eq_false fun q => hq (q.2.2.1 _ (List.mem_map_of_mem hfm))) H
    refine regG [9, 10] [] [4, 8] [0, 1, 2, 3, 4, 5, 6, 7, 8, 9, 10] (by kernel_rfl) ?_
    refine drawR H fun w H => ?_
    refine loadS (l1 H.below) ?_
    refine loadS (l7 H.below) ?_
    refine litRB (cs := [.slice B0 lead.length b0, .slice B4 tail'.length b4]) (e := 29) (n := 2) (sz := 1) H rfl (by decide) (by kernel_rfl) fun Al kl w _ H => ?_
    have H := (H.toRo 0 rfl).sel (M := [.obj g4 (.cells #[.int .i64 (tail.length + cntN (nodes.take j) : Nat)] 3), .obj g3 (.cells #[.int .i64 (sumC tail + sumN (nodes.take j) : Nat)] 3), .ro (.slice Al 2 kl) 1 2 [.slice B0 lead.length b0, .slice B4 tail'.length b4], .obj g0 (.cells #[.slice (some ⟨bb, bo, none⟩) nodes.length k0, .slice A1 tail.length k1] 31)]) (fun q => by simp only [cntL_append, cntL, List.cons_append, List.nil_append, List.set_cons_zero, List.set_cons_succ, List.flatMap_append, List.flatMap_cons, List.flatMap_nil, It.rowB, It.rowI, It.roB, It.roI]; omega)
    have el : lenL [(Value.slice B0 lead.length b0, lead), (Value.slice B4 tail'.length b4, tail')] = lead.length + tail'.length := by simp [lenL]
    have es : sumL [(Value.slice B0 lead.length b0, lead), (Value.slice B4 tail'.length b4, tail')] = sumC lead + sumC tail' := by simp [sumL]
    refine CallS.mk ok_count ((impl_count (W0 := W) (ls := [(.slice B0 lead.length b0, lead), (.slice B4 tail'.length b4, tail')]) (a := tail.length + cntN (nodes.take j)) (b := sumC tail + sumN (nodes.take j)) (fun y hy => by rcases List.mem_cons.1 hy with rfl | hy; exact hL; rw [List.mem_singleton.1 hy]; exact hR) (by rw [el]; omega) (by rw [es]; omega) rfl (by simp) H).mono ?_)
    rintro _ w ⟨rfl, H⟩
    rw [el, es] at H
    have H : St W.heap.size W w [.obj g4 (.cells #[.int .i64 (tail.length + cntN (nodes.take j) + (lead.length + tail'.length) : Nat)] 3), .obj g3 (.cells #[.int .i64 (sumC tail + sumN (nodes.take j) + (sumC lead + sumC tail') : Nat)] 3), .obj g0 (.cells #[.slice (some ⟨bb, bo, none⟩) nodes.length k0, .slice A1 tail.length k1] 31)] := H.sel (fun q => by simp only [cntL_append, cntL, List.cons_append, List.nil_append, List.set_cons_zero, List.set_cons_succ, List.flatMap_append, List.flatMap_cons, List.flatMap_nil, It.rowB, It.rowI, It.roB, It.roI]; omega)
    refine drawR H fun w H => ?_
    refine loadO H 1 rfl rfl ?_
    refine loadS (l3 H.below) ?_
    refine loadS (l4 H.below) ?_
    refine ar64 (by omega) (by omega) ?_
    refine loadS (l5 H.below) ?_
    refine ar64 (by omega) (by omega) ?_
    refine ar64 (by omega) (by omega) ?_
    refine storeO H 1 rfl rfl rfl fun w H => ?_
    refine arN (by omega) ?_
    refine Exists.intro (m - 1) (And.intro (by omega) ⟨rfl, rfl, rfl, rfl, rfl, j + 1, rfl, by omega, by rw [htk]; exact fun n hn => by rcases List.mem_append.1 hn with a | a; exact hg n a; rw [List.mem_singleton.1 a]; exact hq, ?_⟩)
    have e1 : tail.length + cntN (nodes.take (j + 1)) = tail.length + cntN (nodes.take j) + (lead.length + tail'.length) := by omega
    have e2 : ((sumC tail + sumN (nodes.take (j + 1)) : Nat) : Int) = ((sumC tail + sumN (nodes.take j) + (sumC lead + sumC tail') : Nat) : Int) + ((key.length : Int) + text.length + units.length) := by omega
    rw [e1, e2]
    exact H
  · rintro id e w ⟨rfl, h1, h3, h4, hg, H⟩
    rw [Env.three h1 h3 h4]
    refine regG [9] [9] [0, 3, 8, 11] [0, 1, 2, 3, 4, 5, 6, 7, 8, 10, 11, 12, 9, 13, 14, 15] (by kernel_rfl) ?_
    refine drawR H fun w H => ?_
    refine loadO H 1 rfl rfl ?_
    refine gT (fun c2 => ?_) (fun c2 => ?_)
    · refine loadO H 0 rfl rfl ?_
      refine gY ?_
      refine gT (fun c5 => ?_) (fun c5 => ?_)
      · refine gY ?_
        refine loadO H 2 rfl rfl ?_
        refine gY ?_
        refine gY ?_
        refine loadO H 2 rfl rfl ?_
        refine gY ?_
        refine gY ?_
        refine callVB ok_behind (enC hg H.below) H fun w hB H => ?_
        refine KeepS.mk ⟨HeldW.ofBelow hB, ?_⟩
        refine gY ?_
        refine Exists.intro _ (And.intro rfl (And.intro (congrArg Value.bool ?_) H.none))
        rw [← hr]
        cases en with
        | none =>
          show decide ((-1 : Int) = (nodes.length : Int)) = _
          rw [decide_eq_false (show ¬ (-1 : Int) = (nodes.length : Int) by omega)]
          exact (decide_eq_false fun q => by cases q.2.2.2.2.2).symm
        | some k =>
          show decide ((k : Int) = (nodes.length : Int)) = _
          by_cases hk : k = nodes.length
          · rw [decide_eq_true (show (k : Int) = (nodes.length : Int) by omega)]
            exact (decide_eq_true ⟨x.1, x.2, hg, by omega, by omega, by rw [hk]⟩).symm
          · rw [decide_eq_false (show ¬ (k : Int) = (nodes.length : Int) by omega)]
            exact (decide_eq_false fun q => hk (Option.some.inj q.2.2.2.2.2)).symm
      · refine gNot ?_
        refine gNf ?_
        refine gNot ?_
        refine gNf ?_
        refine gNot ?_
        refine gNf ?_
        refine gNot ?_
        refine gNf ?_
        refine gNot ?_
        refine gNf ?_
        refine gNot ?_
        refine gNf ?_
        exact Exists.intro _ (And.intro rfl (And.intro (congrArg Value.bool (by rw [← hr]; exact (decide_eq_false fun q => by have := q.2.2.2.2.1; omega).symm)) H.none))
    · refine gNot ?_
      refine gNf ?_
      refine gNt ?_
      refine gNot ?_
      refine gNf ?_
      refine gNot ?_
      refine gNf ?_
      refine gNot ?_
      refine gNf ?_
      refine gNot ?_
      refine gNf ?_
      refine gNot ?_
      refine gNf ?_
      refine gNot ?_
      refine gNf ?_
      exact Exists.intro _ (And.intro rfl (And.intro (congrArg Value.bool (by rw [← hr]; exact (decide_eq_false fun q => by have := q.2.2.2.1; omega).symm)) H.none))
end Go.Proofs.YtpaklalfopfilaaE
/- The law FnExactValidTree: at every tree of at most 2^20 elements in all the program's ValidTree and the reference's answer the same, and the argument is left alone. -/
namespace Go.Proofs.YtpaklalfopfilaaE
open Go Go.RowKit
set_option linter.unusedVariables false
set_option linter.unusedSimpArgs false
set_option maxRecDepth 100000
set_option maxHeartbeats 4000000

theorem szI_okT {k : Nat} (h : ¬ szI 1048576 k < 0) : k ≤ 1048576 := by unfold szI at h; split at h <;> omega
theorem sizeTree_p {f g : TreeG} (h : g.p = f.p) : g.size = f.size := by
  have e1 : g.nodes.map NodeG.p = f.nodes.map NodeG.p := congrArg TreeP.nodes h
  have e2 : g.tail.map CommentG.p = f.tail.map CommentG.p := congrArg TreeP.tail h
  have l1 : g.nodes.length = f.nodes.length := by have := congrArg List.length e1; simpa using this
  have l2 : g.tail.length = f.tail.length := by have := congrArg List.length e2; simpa using this
  have h1 := sizeNode_p e1
  have h2 := sizeComment_p e2
  unfold TreeG.size
  omega
theorem treeOK_of {f g : TreeG} (h : g.p = f.p) (hf : FineT f) (hz : f.size ≤ 1048576) : TreeOK g := by
  refine ⟨by rw [sizeTree_p h]; omega, by rw [h]; exact byteT_of hf, fun x hx => ?_⟩
  have e1 : g.nodes.map NodeG.p = f.nodes.map NodeG.p := congrArg TreeP.nodes h
  have : x.p ∈ f.nodes.map NodeG.p := e1 ▸ List.mem_map_of_mem hx
  obtain ⟨y, hy, he⟩ := List.mem_map.1 this
  have e2 : y.count = x.count := congrArg NodeP.count he
  rw [← e2]
  exact (hf.nodes y hy).count.2
theorem rdTree {w : World} {B : Nat} {W0 : World} {L : List It} {g : TreeG} (H : St B W0 w L) (h : ∀ it ∈ g.own, it ∈ L) : g.Rd w := TreeG.rdo H h
theorem law_ValidTree {f : TreeG} {W : World} (hx : f.Rd W) (hf : FineT f) (hM : MaxL W) :
    Calls Try.prog 3 #[.agg f.cells.toArray] W fun e w => e = .returned (.bool true) ∧ Below W.heap.size W w := by
  have H := St.enter W
  have szC : ∀ {w : World}, Below W.heap.size W w → GivesV Try.prog 6 [.agg f.cells.toArray, .int .i64 1048576] w (.int .i64 (szI 1048576 f.size)) := fun hB => laws_szTree (by decide) (by decide) (hx.ext hB) hf.l
  have toC : f.size ≤ 1048576 → ∀ {w : World}, Below W.heap.size W w → Calls Try.prog 8 #[.agg f.cells.toArray] w fun e w' => ∃ g : TreeG, e = .returned (.agg g.cells.toArray) ∧ g.p = f.p ∧ St w.heap.size w w' g.own := fun hz => fun hB => laws_toTree (hx.ext hB) (small_tree hz (by decide))
  have spC : f.size ≤ 1048576 → ∀ {w : World} {g : TreeG}, g.Rd w → g.p = f.p → GivesV Try.prog 7 [.agg g.cells.toArray] w (.bool (validT f.p)) := fun hz => fun h he => he ▸ spec_ValidTree h (treeOK_of he hf hz)
  have imC : f.size ≤ 1048576 → ∀ {w : World} {g : TreeG}, Below W.heap.size W w → g.Rd w → g.p = f.p → GivesV Try.prog 9 [.agg g.cells.toArray] w (.bool (validT f.p)) := fun hz => fun hB h he => he ▸ impl_ValidTree h (treeOK_of he hf hz) (by rw [sizeTree_p he]; omega) (hM.ext hB)
  have eqC : f.size ≤ 1048576 → ∀ {w : World} {g g' : TreeG}, g.Rd w → g'.Rd w → g.p = f.p → g'.p = f.p → GivesV Try.prog 10 [.agg g.cells.toArray, .agg g'.cells.toArray] w (.bool true) := fun hz => fun h h' he he' => laws_eqTree h h' (he.trans he'.symm) (small_tree (m := 1048576) (by rw [sizeTree_p he]; omega) (by decide))
  obtain ⟨A0, k0, A1, k1, e0, e1⟩ := TreeG.shape hx
  obtain ⟨v, hv⟩ : ∃ v, validT f.p = v := ⟨_, rfl⟩
  rw [hv] at spC imC
  obtain ⟨cs, hcs⟩ : ∃ cs, f.cells = cs := ⟨_, rfl⟩
  obtain rfl : cs = [.slice A0 f.nodes.length k0, .slice A1 f.tail.length k1] := by rw [← hcs]; unfold TreeG.cells; rw [e0, e1]
  rw [hcs] at szC toC ⊢
  show Calls Try.prog 3 #[.agg #[.slice A0 f.nodes.length k0, .slice A1 f.tail.length k1]] W _
  refine calls_of_vcV (args := [.agg #[.slice A0 f.nodes.length k0, .slice A1 f.tail.length k1]]) Try.func3 rfl (by kernel_rfl) (Nat.le_of_ble_eq_true rfl) ?_
  refine newR (o := .cells #[.slice A0 f.nodes.length k0, .slice A1 f.tail.length k1] _) H fun g0 w H => ?_
  refine loadO H 0 rfl rfl ?_
  refine loadO H 0 rfl rfl ?_
  refine callV ok_szTree (szC H.below) H fun w H => ?_
  refine ifB (fun c3 => And.intro rfl H.below) (fun c3 => ?_)
  have hz := szI_okT c3
  refine loadO H 0 rfl rfl ?_
  refine loadO H 0 rfl rfl ?_
  refine CallS.mk ok_toTree ((toC hz H.below).mono ?_)
  rintro _ w1 ⟨g1, rfl, p1, H1⟩
  have H := H.joinL H1 (TreeG.ownAll _)
  refine callV ok_spec_ValidTree (spC hz (rdTree H (fun it hit => List.mem_append_right _ hit)) p1) H fun w H => ?_
  refine loadO H 0 rfl rfl ?_
  refine loadO H 0 rfl rfl ?_
  refine CallS.mk ok_toTree ((toC hz H.below).mono ?_)
  rintro _ w2 ⟨g2, rfl, p2, H2⟩
  have hone := TreeG.one H2
  have H := H.joinL H2 (TreeG.ownAll _)
  refine newR (o := .cells #[.slice none 0 0, .slice none 0 0] _) H fun g5 w H => ?_
  refine storeO H 0 rfl rfl (hone 0 _ rfl) fun w H => ?_
  refine storeO H 0 rfl rfl (hone 1 _ rfl) fun w H => ?_
  have H : St W.heap.size W w (.obj g5 (.cells #[g2.nodesV, g2.tailV] 31) :: (([.obj g0 (.cells #[.slice A0 f.nodes.length k0, .slice A1 f.tail.length k1] 25)] ++ g1.own) ++ g2.own)) := H
  refine loadO H 0 rfl rfl ?_
  refine loadO H 0 rfl rfl ?_
  refine callV ok_impl_ValidTree (imC hz H.below (rdTree H (fun it hit => by simp [hit])) p2) H fun w H => ?_
  refine ifNot ?_
  refine ifB (fun _ => ?_) (fun q => absurd rfl q)
  refine regG [2, 3] [2] [0, 1] [0, 1, 2, 3, 4] (by kernel_rfl) ?_
  refine drawR H fun w H => ?_
  refine loadO H 0 rfl rfl ?_
  refine loadO H 0 rfl rfl ?_
  refine loadO H 1 rfl rfl ?_
  refine loadO H 1 rfl rfl ?_
  (refine CallS.mk ok_toTree ((toC hz H.below).mono ?_); rintro _ w3 ⟨g3, rfl, p3, H3⟩; have hB := H3.below; have H := H.joinL H3 (TreeG.ownAll _))
  refine KeepS.mk ⟨HeldW.ofBelow hB, ?_⟩
  refine callV ok_eqTree (eqC hz (g := g2) (g' := g3) (rdTree H (fun it hit => by simp [hit])) (rdTree H (fun it hit => by simp [hit])) p2 p3) H fun w H => ?_
  refine ifNot ?_
  refine ifT ?_
  exact And.intro rfl H.below
end Go.Proofs.YtpaklalfopfilaaE
/- Copies of bytes and of whole numbers. -/
namespace Go.Proofs.YtpaklalfopfilaaE
open Go Go.RowKit
set_option linter.unusedVariables false
set_option maxRecDepth 100000
set_option maxHeartbeats 2000000


theorem ok_l1copy : callOK Try.prog 100 = true := by kernel_rfl
theorem spec_l1copy {A : Option Addr} {n c : Nat} {xs : List Int} {W : World} (hx : RdB W (.slice A n c) xs) (hl : n ≤ 1099511627776) : Calls Try.prog 100 #[.slice A n c] W fun e w => ∃ x, e = .returned x ∧ OwnB w W.heap.size x xs ∧ Below W.heap.size W w := by
  have H := ((St.enter W).ro0 rfl hx).rowNil (e := 5) (sz := 1)
  obtain rfl : n = xs.length := by obtain ⟨_, _, _, e, _⟩ := id hx; cases e; rfl
  refine calls_of_vcV (args := [.slice A xs.length c]) Try.func100 rfl (by kernel_rfl) (Nat.le_of_ble_eq_true rfl) ?_
  refine appBS (xs := []) H 0 rfl (H.rd 1 rfl) (by simp only [List.length_nil]; omega) fun A1 k0 w H => ?_
  exact Exists.intro _ (And.intro rfl (And.intro (H.own 0 rfl) H.below))


theorem ok_l5ints : callOK Try.prog 99 = true := by kernel_rfl
theorem spec_l5ints {A : Option Addr} {n c : Nat} {xs : List Int} {W : World} (hx : RdI W (.slice A n c) xs) (hl : n ≤ 1099511627776) : Calls Try.prog 99 #[.slice A n c] W fun e w => ∃ x, e = .returned x ∧ OwnI w W.heap.size x xs ∧ Below W.heap.size W w := by
  have H := ((St.enter W).ro0 rfl hx).rowNil (e := 3) (sz := 1)
  obtain rfl : n = xs.length := by obtain ⟨_, _, _, e, _⟩ := id hx; cases e; rfl
  refine calls_of_vcV (args := [.slice A xs.length c]) Try.func99 rfl (by kernel_rfl) (Nat.le_of_ble_eq_true rfl) ?_
  refine appIS (xs := []) H 0 rfl (H.rd 1 rfl) (by simp only [List.length_nil]; omega) fun A1 k0 w H => ?_
  exact Exists.intro _ (And.intro rfl (And.intro (H.own 0 rfl) H.below))


theorem ok_clone : callOK Try.prog 57 = true := by kernel_rfl
theorem slices_Clone {A : Option Addr} {n c : Nat} {xs : List Int} {W : World} (hx : RdB W (.slice A n c) xs) (hl : n ≤ 1099511627776) : Calls Try.prog 57 #[.slice A n c] W fun e w => ∃ x, e = .returned x ∧ OwnB w W.heap.size x xs ∧ Below W.heap.size W w := by
  have H := (St.enter W).ro0 rfl hx
  obtain rfl : n = xs.length := by obtain ⟨_, _, _, e, _⟩ := id hx; cases e; rfl
  cases A
  all_goals refine calls_of_vcV (args := [.slice _ xs.length c]) Try.func57 rfl (by kernel_rfl) (Nat.le_of_ble_eq_true rfl) ?_
  · obtain rfl : xs = [] := by
      obtain ⟨_, _, _, e, _, h⟩ := id hx
      cases e
      rcases h with h | ⟨_, _, h, _⟩
      · exact List.eq_nil_of_length_eq_zero h
      · cases h
    refine ifT ?_
    exact Exists.intro _ (And.intro rfl (And.intro (World.ownsRow_nil _ _ _ _) (Below.refl _ _)))
  · refine ifF ?_
    refine litBS (xs := []) H (by decide) (by kernel_rfl) fun A0 c0 w H => ?_
    refine appBS (xs := []) H 0 rfl (H.rd 1 rfl) (by simp only [List.length_nil]; omega) fun A1 k0 w H => ?_
    exact Exists.intro _ (And.intro rfl (And.intro (H.own 0 rfl) H.below))


theorem ok_cloneI : callOK Try.prog 56 = true := by kernel_rfl
theorem slices_CloneI {A : Option Addr} {n c : Nat} {xs : List Int} {W : World} (hx : RdI W (.slice A n c) xs) (hl : n ≤ 1099511627776) : Calls Try.prog 56 #[.slice A n c] W fun e w => ∃ x, e = .returned x ∧ OwnI w W.heap.size x xs ∧ Below W.heap.size W w := by
  have H := (St.enter W).ro0 rfl hx
  obtain rfl : n = xs.length := by obtain ⟨_, _, _, e, _⟩ := id hx; cases e; rfl
  cases A
  all_goals refine calls_of_vcV (args := [.slice _ xs.length c]) Try.func56 rfl (by kernel_rfl) (Nat.le_of_ble_eq_true rfl) ?_
  · obtain rfl : xs = [] := by
      obtain ⟨_, _, _, e, _, h⟩ := id hx
      cases e
      rcases h with h | ⟨_, _, h, _⟩
      · exact List.eq_nil_of_length_eq_zero h
      · cases h
    refine ifT ?_
    exact Exists.intro _ (And.intro rfl (And.intro (World.ownsRow_nil _ _ _ _) (Below.refl _ _)))
  · refine ifF ?_
    refine litIS (xs := []) H (by decide) (by kernel_rfl) fun A0 c0 w H => ?_
    refine appIS (xs := []) H 0 rfl (H.rd 1 rfl) (by simp only [List.length_nil]; omega) fun A1 k0 w H => ?_
    exact Exists.intro _ (And.intro rfl (And.intro (H.own 0 rfl) H.below))

end Go.Proofs.YtpaklalfopfilaaE
/- The reference's copies of lists of comments. -/
namespace Go.Proofs.YtpaklalfopfilaaE
open Go Go.RowKit
set_option linter.unusedVariables false
set_option linter.unusedSimpArgs false
set_option maxRecDepth 100000
set_option maxHeartbeats 4000000

theorem ok_l5join : callOK Try.prog 98 = true := by kernel_rfl
theorem spec_l5join {fs gs : List CommentG} {A A' : Option Addr} {n c n' c' : Nat} {W : World} (hx : RdComment W (.slice A n c) n fs) (hy : RdComment W (.slice A' n' c') n' gs) (hl : n ≤ 4294967296) (hl' : n' ≤ 4294967296) (hs : ∀ f ∈ fs, SmallComment f) (hs' : ∀ f ∈ gs, SmallComment f) :
    Calls Try.prog 98 #[.slice A n c, .slice A' n' c'] W fun e w => ∃ A2 c2 qs, e = .returned (.slice A2 (n + n') c2) ∧ qs.map CommentG.p = fs.map CommentG.p ++ gs.map CommentG.p ∧ St W.heap.size W w (.rowComment (.slice A2 (n + n') c2) (n + n') qs :: qs.flatMap CommentG.own) := by
  have H := (St.enter W).rowNil (e := 73) (sz := 2)
  obtain rfl := hx.len
  obtain rfl := hy.len
  refine calls_of_vcV (args := [.slice A fs.length c, .slice A' gs.length c']) Try.func98 rfl (by kernel_rfl) (Nat.le_of_ble_eq_true rfl) ?_
  refine loopW (by kernel_rfl) (fun m e w => e 0 = .slice A fs.length c ∧ e 1 = .slice A' gs.length c' ∧ ∃ (j : Nat) (A2 : Option Addr) (c2 : Nat) (qs : List CommentG), e 6 = .int .i64 j ∧ e 5 = .slice A2 j c2 ∧ j + m = fs.length ∧ qs.map CommentG.p = (fs.take j).map CommentG.p ∧ St W.heap.size W w (.rowComment (.slice A2 j c2) j qs :: qs.flatMap CommentG.own))
    (fun id e w => id = 0 ∧ e 1 = .slice A' gs.length c' ∧ ∃ (A2 : Option Addr) (c2 : Nat) (qs : List CommentG), e 5 = .slice A2 fs.length c2 ∧ qs.map CommentG.p = fs.map CommentG.p ∧ St W.heap.size W w (.rowComment (.slice A2 fs.length c2) fs.length qs :: qs.flatMap CommentG.own)) fs.length
    ⟨rfl, rfl, 0, none, 0, [], rfl, rfl, by omega, rfl, H⟩ ?_ ?_
  · rintro m e w ⟨h0, h1, j, A2, c2, qs, h6, h5, hj, hq, H⟩
    rw [Env.four h0 h1 h6 h5]
    refine ifB (fun h => ?_) (fun h => ?_)
    case refine_2 =>
      obtain rfl : j = fs.length := by omega
      rw [List.take_length] at hq
      exact ⟨rfl, rfl, A2, c2, qs, rfl, hq, H⟩
    have hjl : j < fs.length := by omega
    obtain ⟨f, hf⟩ : ∃ f, fs[j]? = some f := ⟨_, List.getElem?_eq_getElem hjl⟩
    have hfm : f ∈ fs := List.mem_of_getElem? hf
    have htk : (fs.take (j + 1)).map CommentG.p = (fs.take j).map CommentG.p ++ [f.p] := by rw [List.take_add_one, hf, List.map_append]; rfl
    have k1 := hx.kids f hfm
    have s1 := (hs f hfm).text
    obtain ⟨B1, b1, e1⟩ := CommentG.shape k1
    obtain ⟨tv, block, text⟩ := f
    dsimp only at e1 s1
    subst e1
    have k1 : RdB W (.slice B1 text.length b1) text := k1
    refine regG [11, 12, 13, 14] [11] [5, 10] [0, 1, 2, 3, 4, 5, 6, 7, 8, 9, 10, 11, 12, 13, 14, 15] (by kernel_rfl) ?_
    (refine drawR H fun w H => ?_; have H0 := H; have hw := HeldW.refl w)
    refine idxC (cells := CommentG.cells) CommentG.cells_len (hx.ext H.below).row hf hjl fun b off hc => ?_
    refine loadS (v := .bool block) (hc 0 _ rfl) ?_
    refine idxC (cells := CommentG.cells) CommentG.cells_len (hx.ext H.below).row hf hjl fun b off hc => ?_
    refine loadS (v := .slice B1 text.length b1) (hc 1 _ rfl) ?_
    refine callRowB ok_l1copy (spec_l1copy (k1.ext H.below) (by omega)) H fun A4 k4 w hB H => ?_
    have hw := hw.step hB
    refine KeepS.mk ⟨hw, ?_⟩
    refine RunS.mk ⟨.agg #[.bool block, .slice A4 text.length k4], w, by kernel_rfl, ?_⟩
    refine litRB (e := 73) (sz := 2) (n := 1) (cs := [.bool block, .slice A4 text.length k4]) H rfl (by decide) (by kernel_rfl) fun A6 k6 w hB H => ?_
    refine appRS undComments infComment rfl (by decide) (by decide) H 2 rfl (H.rd 0 rfl) (by intro u hu; simp only [List.mem_cons, List.not_mem_nil, or_false] at hu; rcases hu with rfl | rfl <;> rfl) (by omega) fun A7 k7 w H => ?_
    refine arN (by omega) ?_
    refine Exists.intro (m - 1) (And.intro (by omega) ⟨rfl, rfl, j + 1, A7, k7, qs ++ [⟨.slice A4 text.length k4, block, text⟩], rfl, rfl, by omega, by rw [htk, List.map_append, hq]; rfl, ?_⟩)
    refine H.sel (fun q => ?_)
    simp only [cntL_append, cntL, List.cons_append, List.nil_append, List.set_cons_zero, List.set_cons_succ, List.flatMap_append, List.flatMap_cons, List.flatMap_nil, List.append_nil, It.rowB, It.rowComment, CommentG.own, CommentG.cells]; omega
  · rintro id e w ⟨rfl, h1, A2, c2, qs, h5, hq, H⟩
    rw [Env.two h1 h5]
    refine loopV (by kernel_rfl) (fun m e w => e 1 = .slice A' gs.length c' ∧ ∃ (j : Nat) (A2 : Option Addr) (c2 : Nat) (qs : List CommentG), e 7 = .int .i64 j ∧ e 5 = .slice A2 (fs.length + j) c2 ∧ j + m = gs.length ∧ qs.map CommentG.p = fs.map CommentG.p ++ (gs.take j).map CommentG.p ∧ St W.heap.size W w (.rowComment (.slice A2 (fs.length + j) c2) (fs.length + j) qs :: qs.flatMap CommentG.own)) gs.length
      ⟨rfl, 0, A2, c2, qs, rfl, rfl, by omega, by simpa using hq, H⟩ ?_
    rintro m e w ⟨h1, j, A2, c2, qs, h7, h5, hj, hq, H⟩
    rw [Env.three h1 h7 h5]
    refine ifB (fun h => ?_) (fun h => ?_)
    case refine_2 =>
      obtain rfl : j = gs.length := by omega
      rw [List.take_length] at hq
      exact Exists.intro A2 (Exists.intro c2 (Exists.intro qs (And.intro rfl (And.intro hq H))))
    have hjl : j < gs.length := by omega
    obtain ⟨f, hf⟩ : ∃ f, gs[j]? = some f := ⟨_, List.getElem?_eq_getElem hjl⟩
    have hfm : f ∈ gs := List.mem_of_getElem? hf
    have htk : (gs.take (j + 1)).map CommentG.p = (gs.take j).map CommentG.p ++ [f.p] := by rw [List.take_add_one, hf, List.map_append]; rfl
    have k1 := hy.kids f hfm
    have s1 := (hs' f hfm).text
    obtain ⟨B1, b1, e1⟩ := CommentG.shape k1
    obtain ⟨tv, block, text⟩ := f
    dsimp only at e1 s1
    subst e1
    have k1 : RdB W (.slice B1 text.length b1) text := k1
    refine regG [11, 12, 13, 14] [11] [5, 10] [0, 1, 2, 3, 4, 5, 6, 7, 8, 9, 10, 11, 12, 13, 14, 15] (by kernel_rfl) ?_
    (refine drawR H fun w H => ?_; have H0 := H; have hw := HeldW.refl w)
    refine idxC (cells := CommentG.cells) CommentG.cells_len (hy.ext H.below).row hf hjl fun b off hc => ?_
    refine loadS (v := .bool block) (hc 0 _ rfl) ?_
    refine idxC (cells := CommentG.cells) CommentG.cells_len (hy.ext H.below).row hf hjl fun b off hc => ?_
    refine loadS (v := .slice B1 text.length b1) (hc 1 _ rfl) ?_
    refine callRowB ok_l1copy (spec_l1copy (k1.ext H.below) (by omega)) H fun A4 k4 w hB H => ?_
    have hw := hw.step hB
    refine KeepS.mk ⟨hw, ?_⟩
    refine RunS.mk ⟨.agg #[.bool block, .slice A4 text.length k4], w, by kernel_rfl, ?_⟩
    refine litRB (e := 73) (sz := 2) (n := 1) (cs := [.bool block, .slice A4 text.length k4]) H rfl (by decide) (by kernel_rfl) fun A6 k6 w hB H => ?_
    refine appRS undComments infComment rfl (by decide) (by decide) H 2 rfl (H.rd 0 rfl) (by intro u hu; simp only [List.mem_cons, List.not_mem_nil, or_false] at hu; rcases hu with rfl | rfl <;> rfl) (by omega) fun A7 k7 w H => ?_
    refine arN (by omega) ?_
    refine Exists.intro (m - 1) (And.intro (by omega) ⟨rfl, j + 1, A7, k7, qs ++ [⟨.slice A4 text.length k4, block, text⟩], rfl, rfl, by omega, by rw [htk, List.map_append, hq, List.append_assoc]; rfl, ?_⟩)
    refine H.sel (fun q => ?_)
    simp only [cntL_append, cntL, List.cons_append, List.nil_append, List.set_cons_zero, List.set_cons_succ, List.flatMap_append, List.flatMap_cons, List.flatMap_nil, List.append_nil, It.rowB, It.rowComment, CommentG.own, CommentG.cells, Nat.add_assoc]; omega
end Go.Proofs.YtpaklalfopfilaaE
/- append to rows of wide elements. No condition of the laws stands here. -/
namespace Go.Proofs.YtpaklalfopfilaaE
open Go Go.RowKit
set_option linter.unusedVariables false
set_option maxRecDepth 100000
set_option maxHeartbeats 2000000

theorem app_runG {P : Program} {w : World} {t ty e : TypeId} {i : TypeInfo} {z : Value} {sz bytes : Nat} (ht : P.underlying t = some (.slice e)) (hi : P.info? e = some i) (hz : i.zero = some z) (hsize : i.size = sz) (hby : i.bytes = bytes)
    (hzs : z.cells.size = sz) (hsz : 0 < sz) {v x : Value} {n m B : Nat} {cs ds : List Value} {K : Value → World → Prop} (hv : w.ownsRow B e sz v n cs) (hx : Rd w x sz m ds) (h1 : ∀ u ∈ ds, u.oneCell' = true)
    (hm : n + m ≤ 4294967296) (hb : bytes ≤ 1024) (hB : B ≤ w.heap.size) (k : ∀ v' w', w'.ownsRow B e sz v' (n + m) (cs ++ ds) → w.grownBy w' v.ownBlock → (v'.ownBlock = v.ownBlock ∨ v'.ownBlock = some w.heap.size) → K v' w') :
    RunS P (Builtin.append_ #[t, t] ty #[v, x]) w K := by
  obtain ⟨hl, A, c, rfl, hcap, hA⟩ := hx
  have nb : (n + m) * bytes ≤ 140737488355328 := Nat.le_trans (Nat.mul_le_mul hm hb) (by decide)
  cases A with
  | some a =>
    have hnews : ∀ j u, ds[j]? = some u → w.cell? (a.add j) = some u := by
      intro j u hu
      have hj : j < ds.length := (List.getElem?_eq_some_iff.1 hu).1
      rcases hA with rfl | ⟨b, off, ha, hA⟩
      · have : ds.length = 0 := by rw [hl, Nat.zero_mul]
        omega
      · cases ha
        rw [add_plain, hA j hj, hu]
    obtain ⟨v', w', hr, ho, hg, _, hbk⟩ := run_append_own_at w B t ty e i z sz bytes ht hi hz hsize hby hzs hsz v n cs hv a m c ds hl hnews h1 (by unfold maxLen; omega) nb hB
    exact ⟨v', w', hr, k v' w' ho hg hbk⟩
  | none =>
    have hm0 : m = 0 := by
      rcases hA with h | ⟨b, off, ha, _⟩
      · exact h
      · cases ha
    subst hm0
    have hds : ds = [] := List.length_eq_zero_iff.1 (by rw [hl, Nat.zero_mul])
    subst hds
    have hv' : w.ownsRow B e sz v (n + 0) (cs ++ []) := by simpa using hv
    refine ⟨v, w, ?_, k v w hv' (grown_of_below (Below.refl _ _) _) (.inl rfl)⟩
    rcases hv.2 with ⟨rfl, rfl⟩ | ⟨g, cap, cur, rfl, _, _, hn, _⟩
    · simp [Builtin.append_, run_underlying ht, sizeOf, typeInfo, hi, Builtin.lenOf, Builtin.firstCells, loadCells, loadCellsFrom, storeCells]
    · simp [Builtin.append_, run_underlying ht, sizeOf, typeInfo, hi, Builtin.lenOf, Builtin.firstCells, loadCells, loadCellsFrom, storeCells, hn]

/-- append to an own row of wide elements -/
theorem appRG {P : Program} {B : Nat} {W0 w : World} {L : List It} {t ty e : TypeId} {z : Value} {sz bytes n m : Nat} {v x : Value} {cs ds : List Value} {K : Value → World → Prop} (ht : P.underlying t = some (.slice e))
    (inf : (P.info? e).map (fun i => (i.zero, i.size, i.bytes)) = some (some z, sz, bytes)) (hzs : z.cells.size = sz) (hsz : 0 < sz) (hby : bytes ≤ 1024) (H : St B W0 w L) (i : Nat) (hi : L[i]? = some (.row v e sz n cs)) (hx : Rd w x sz m ds) (h1 : ∀ u ∈ ds, u.oneCell' = true)
    (hm : n + m ≤ 4294967296) (k : ∀ A c w', St B W0 w' (L.set i (.row (.slice A (n + m) c) e sz (n + m) (cs ++ ds))) → K (.slice A (n + m) c) w') : RunS P (Builtin.append_ #[t, t] ty #[v, x]) w K := by
  obtain ⟨i0, q1, q2, q3, q4⟩ := infoOf inf
  refine app_runG ht q1 q2 q3 q4 hzs hsz (H.own i hi) hx h1 hm hby H.size fun v' w' ho hg hb => ?_
  have H' := app_turn H i hi ho hg hb
  obtain ⟨A, c, rfl⟩ := H'.mk1 i (get_set hi)
  exact k A c w' H'
end Go.Proofs.YtpaklalfopfilaaE
/- The reference's copy of a tree, and its StripComments. -/
namespace Go.Proofs.YtpaklalfopfilaaE
open Go Go.RowKit
set_option linter.unusedVariables false
set_option linter.unusedSimpArgs false
set_option maxRecDepth 100000
set_option maxHeartbeats 8000000

theorem rdNilC (w : World) : RdComment w (.slice none 0 0) 0 [] := ⟨⟨rfl, none, 0, rfl, Nat.le_refl _, .inl rfl⟩, fun f hf => by cases hf⟩
theorem ok_l5copy : callOK Try.prog 54 = true := by kernel_rfl
theorem spec_l5copy {t : TreeG} {W : World} (hx : t.Rd W) (hs : SmallTree t) :
    Calls Try.prog 54 #[.agg t.cells.toArray] W fun e w => ∃ g : TreeG, e = .returned (.agg g.cells.toArray) ∧ g.p = t.p ∧ g.nodes.length = t.nodes.length ∧ St W.heap.size W w g.own := by
  have H := St.enter W
  obtain ⟨A0, c0, A1, c1, e0, e1⟩ := TreeG.shape hx
  obtain ⟨nodesV, tailV, nodes, tail⟩ := t
  dsimp only at e0 e1
  subst e0 e1
  have hN : RdNode W (.slice A0 nodes.length c0) nodes.length nodes := hx.1
  have hT : RdComment W (.slice A1 tail.length c1) tail.length tail := hx.2
  have n1 : nodes.length ≤ 4294967296 := hs.nodes
  have n2 : ∀ g ∈ nodes, SmallNode g := hs.nodess
  have n3 : tail.length ≤ 4294967296 := hs.tail
  have n4 : ∀ g ∈ tail, SmallComment g := hs.tails
  show Calls Try.prog 54 #[.agg #[.slice A0 nodes.length c0, .slice A1 tail.length c1]] W _
  refine calls_of_vcV (args := [.agg #[.slice A0 nodes.length c0, .slice A1 tail.length c1]]) Try.func54 rfl (by kernel_rfl) (Nat.le_of_ble_eq_true rfl) ?_
  refine newR (o := .cells #[.slice A0 nodes.length c0, .slice A1 tail.length c1] _) H fun g1 w H => ?_
  refine newR (o := .cells #[.slice none 0 0, .slice none 0 0] _) H fun g2 w H => ?_
  refine loadO H 1 rfl rfl ?_
  refine CallS.mk ok_l5join ((spec_l5join (hT.ext H.below) (rdNilC _) n3 (by decide) n4 (fun f hf => by cases hf)).mono ?_)
  rintro _ w ⟨TA, TC, tq, rfl, hq, H1⟩
  have H := H.joinL H1 (rowCommentAll _ _ _)
  simp only [List.map_nil, List.append_nil, Nat.add_zero] at hq H
  simp only [Nat.add_zero]
  have lt : tq.length = tail.length := by have := congrArg List.length hq; simpa using this
  refine RunS.mk ⟨.agg #[.slice none 0 0, .slice TA tail.length TC], w, by kernel_rfl, ?_⟩
  refine newR (o := .cells #[.slice none 0 0, .slice none 0 0] _) H fun g3 w H => ?_
  refine storeO H 0 rfl rfl rfl fun w H => ?_
  refine storeO H 0 rfl rfl rfl fun w H => ?_
  have H : St W.heap.size W w (.obj g3 (.cells #[.slice none 0 0, .slice TA tail.length TC] 31) :: .obj g2 (.cells #[.slice none 0 0, .slice none 0 0] 31) :: .obj g1 (.cells #[.slice A0 nodes.length c0, .slice A1 tail.length c1] 31) :: .rowNode (.slice none 0 0) 0 [] :: (([]).flatMap NodeG.own ++ (.rowComment (.slice TA tail.length TC) tail.length tq :: tq.flatMap CommentG.own))) := by
    have H : St W.heap.size W w (.obj g3 (.cells #[.slice none 0 0, .slice TA tail.length TC] 31) :: .obj g2 (.cells #[.slice none 0 0, .slice none 0 0] 31) :: .obj g1 (.cells #[.slice A0 nodes.length c0, .slice A1 tail.length c1] 31) :: (.rowComment (.slice TA tail.length TC) tail.length tq :: tq.flatMap CommentG.own)) := H
    exact (H.rowNil (e := 67) (sz := 8)).sel (fun q => by simp only [cntL_append, cntL, List.cons_append, List.nil_append, List.set_cons_zero, List.set_cons_succ, List.flatMap_append, List.flatMap_cons, List.flatMap_nil, It.rowB, It.rowI, It.roB, It.roI, It.rowNode, It.rowComment]; omega)
  refine loopV (by kernel_rfl) (fun m e w => e 1 = .pointer (some ⟨g1, 0, none⟩) ∧ e 2 = .pointer (some ⟨g2, 0, none⟩) ∧ e 3 = .pointer (some ⟨g3, 0, none⟩) ∧ ∃ (j : Nat) (A2 : Option Addr) (c2 : Nat) (qs : List NodeG), e 4 = .int .i64 j ∧ j + m = nodes.length ∧ qs.length = j ∧ qs.map NodeG.p = (nodes.take j).map NodeG.p ∧ St W.heap.size W w (.obj g3 (.cells #[.slice A2 j c2, .slice TA tail.length TC] 31) :: .obj g2 (.cells #[.slice none 0 0, .slice none 0 0] 31) :: .obj g1 (.cells #[.slice A0 nodes.length c0, .slice A1 tail.length c1] 31) :: .rowNode (.slice A2 j c2) j qs :: ((qs).flatMap NodeG.own ++ (.rowComment (.slice TA tail.length TC) tail.length tq :: tq.flatMap CommentG.own)))) nodes.length
    ⟨rfl, rfl, rfl, 0, none, 0, [], rfl, by omega, rfl, rfl, H⟩ ?_
  rintro m e w ⟨h1, h2, h3, j, A2, c2, qs, h4, hj, hql, hp, H⟩
  rw [Env.four h1 h2 h3 h4]
  refine loadO H 2 rfl rfl ?_
  refine ifB (fun h => ?_) (fun h => ?_)
  case refine_2 =>
    obtain rfl : j = nodes.length := by omega
    rw [List.take_length] at hp
    refine loadO H 0 rfl rfl ?_
    refine loadO H 0 rfl rfl ?_
    refine storeO H 1 rfl rfl rfl fun w H => ?_
    refine storeO H 1 rfl rfl rfl fun w H => ?_
    refine loadO H 1 rfl rfl ?_
    refine loadO H 1 rfl rfl ?_
    refine Exists.intro (⟨.slice A2 nodes.length c2, .slice TA tail.length TC, qs, tq⟩ : TreeG) (And.intro rfl (And.intro ?_ (And.intro hql (H.sel (fun q => by simp only [cntL_append, cntL, List.cons_append, List.nil_append, List.set_cons_zero, List.set_cons_succ, List.flatMap_append, List.flatMap_cons, List.flatMap_nil, It.rowB, It.rowI, It.roB, It.roI, TreeG.own, It.rowNode, It.rowComment, lt, hql]; omega)))))
    simp only [TreeG.p, hp, hq]
  have hjl : j < nodes.length := by omega
  obtain ⟨f, hf⟩ : ∃ f, nodes[j]? = some f := ⟨_, List.getElem?_eq_getElem hjl⟩
  have hfm : f ∈ nodes := List.mem_of_getElem? hf
  have htk : (nodes.take (j + 1)).map NodeG.p = (nodes.take j).map NodeG.p ++ [f.p] := by rw [List.take_add_one, hf, List.map_append]; rfl
  have hk := hN.kids f hfm
  have s0 := (n2 f hfm).lead
  have ss0 := (n2 f hfm).leads
  have s1 := (n2 f hfm).key
  have s2 := (n2 f hfm).text
  have s3 := (n2 f hfm).units
  have s4 := (n2 f hfm).tail
  have ss4 := (n2 f hfm).tails
  obtain ⟨B0, b0, B1, b1, B2, b2, B3, b3, B4, b4, e0, e1, e2, e3, e4⟩ := NodeG.shape hk
  obtain ⟨leadV, keyV, textV, unitsV, tailV', kind, lead, member, key, text, units, count, tail'⟩ := f
  dsimp only at e0 e1 e2 e3 e4 s0 ss0 s1 s2 s3 s4 ss4 htk
  subst e0 e1 e2 e3 e4
  have hk : RdComment W (.slice B0 lead.length b0) lead.length lead ∧ RdI W (.slice B1 key.length b1) key ∧ RdB W (.slice B2 text.length b2) text ∧ RdI W (.slice B3 units.length b3) units ∧ RdComment W (.slice B4 tail'.length b4) tail'.length tail' := hk
  refine loadO H 2 rfl rfl ?_
  refine idxC (cells := NodeG.cells) NodeG.cells_len (hN.ext H.below).row hf hjl fun b off hc => ?_
  refine loadS (v := .int .i64 kind) (hc 0 _ rfl) ?_
  refine loadS (v := .slice B0 lead.length b0) (hc 1 _ rfl) ?_
  refine loadS (v := .bool member) (hc 2 _ rfl) ?_
  refine loadS (v := .slice B1 key.length b1) (hc 3 _ rfl) ?_
  refine loadS (v := .slice B2 text.length b2) (hc 4 _ rfl) ?_
  refine loadS (v := .slice B3 units.length b3) (hc 5 _ rfl) ?_
  refine loadS (v := .int .i64 count) (hc 6 _ rfl) ?_
  refine loadS (v := .slice B4 tail'.length b4) (hc 7 _ rfl) ?_
  refine newR (o := .cells #[.int .i64 0, .slice none 0 0, .bool false, .slice none 0 0, .slice none 0 0, .slice none 0 0, .int .i64 0, .slice none 0 0] _) H fun g5 w H => ?_
  refine store8 H 0 rfl rfl fun w H => ?_
  refine loadO H 0 rfl rfl ?_
  refine CallS.mk ok_l5join ((spec_l5join (hk.1.ext H.below) (rdNilC _) s0 (by decide) ss0 (fun f hf => by cases hf)).mono ?_)
  rintro _ w ⟨D0, d0, q0, rfl, hq0, H0⟩
  have H := H.joinL H0 (rowCommentAll _ _ _)
  simp only [List.map_nil, List.append_nil, Nat.add_zero] at hq0 H
  simp only [Nat.add_zero]
  have lq0 : q0.length = lead.length := by have := congrArg List.length hq0; simpa using this
  refine storeO H 0 rfl rfl rfl fun w H => ?_
  have H : St W.heap.size W w (.obj g5 (.cells #[.int .i64 kind, .slice D0 lead.length d0, .bool member, .slice B1 key.length b1, .slice B2 text.length b2, .slice B3 units.length b3, .int .i64 count, .slice B4 tail'.length b4] 67) :: (.obj g3 (.cells #[.slice A2 j c2, .slice TA tail.length TC] 31) :: .obj g2 (.cells #[.slice none 0 0, .slice none 0 0] 31) :: .obj g1 (.cells #[.slice A0 nodes.length c0, .slice A1 tail.length c1] 31) :: .rowNode (.slice A2 j c2) j qs :: ((qs).flatMap NodeG.own ++ (.rowComment (.slice TA tail.length TC) tail.length tq :: tq.flatMap CommentG.own)) ++ (.rowComment (.slice D0 lead.length d0) lead.length q0 :: q0.flatMap CommentG.own))) := H
  refine loadO H 0 rfl rfl ?_
  refine CallS.mk ok_l5join ((spec_l5join (hk.2.2.2.2.ext H.below) (rdNilC _) s4 (by decide) ss4 (fun f hf => by cases hf)).mono ?_)
  rintro _ w ⟨D4, d4, q4, rfl, hq4, H4⟩
  have H := H.joinL H4 (rowCommentAll _ _ _)
  simp only [List.map_nil, List.append_nil, Nat.add_zero] at hq4 H
  simp only [Nat.add_zero]
  have lq4 : q4.length = tail'.length := by have := congrArg List.length hq4; simpa using this
  refine storeO H 0 rfl rfl rfl fun w H => ?_
  have H : St W.heap.size W w (.obj g5 (.cells #[.int .i64 kind, .slice D0 lead.length d0, .bool member, .slice B1 key.length b1, .slice B2 text.length b2, .slice B3 units.length b3, .int .i64 count, .slice D4 tail'.length d4] 67) :: (.obj g3 (.cells #[.slice A2 j c2, .slice TA tail.length TC] 31) :: .obj g2 (.cells #[.slice none 0 0, .slice none 0 0] 31) :: .obj g1 (.cells #[.slice A0 nodes.length c0, .slice A1 tail.length c1] 31) :: .rowNode (.slice A2 j c2) j qs :: ((qs).flatMap NodeG.own ++ (.rowComment (.slice TA tail.length TC) tail.length tq :: tq.flatMap CommentG.own)) ++ (.rowComment (.slice D0 lead.length d0) lead.length q0 :: q0.flatMap CommentG.own) ++ (.rowComment (.slice D4 tail'.length d4) tail'.length q4 :: q4.flatMap CommentG.own))) := H
  refine loadO H 0 rfl rfl ?_
  refine callRow ok_l5ints (spec_l5ints (hk.2.1.ext H.below) (by omega)) H fun D1 d1 w H => ?_
  refine storeO H 1 rfl rfl rfl fun w H => ?_
  have H : St W.heap.size W w (.rowI (.slice D1 key.length d1) key :: .obj g5 (.cells #[.int .i64 kind, .slice D0 lead.length d0, .bool member, .slice D1 key.length d1, .slice B2 text.length b2, .slice B3 units.length b3, .int .i64 count, .slice D4 tail'.length d4] 67) :: (.obj g3 (.cells #[.slice A2 j c2, .slice TA tail.length TC] 31) :: .obj g2 (.cells #[.slice none 0 0, .slice none 0 0] 31) :: .obj g1 (.cells #[.slice A0 nodes.length c0, .slice A1 tail.length c1] 31) :: .rowNode (.slice A2 j c2) j qs :: ((qs).flatMap NodeG.own ++ (.rowComment (.slice TA tail.length TC) tail.length tq :: tq.flatMap CommentG.own)) ++ (.rowComment (.slice D0 lead.length d0) lead.length q0 :: q0.flatMap CommentG.own) ++ (.rowComment (.slice D4 tail'.length d4) tail'.length q4 :: q4.flatMap CommentG.own))) := H
  refine loadO H 1 rfl rfl ?_
  refine callRow ok_l5ints (spec_l5ints (hk.2.2.2.1.ext H.below) (by omega)) H fun D3 d3 w H => ?_
  refine storeO H 2 rfl rfl rfl fun w H => ?_
  have H : St W.heap.size W w (.rowI (.slice D3 units.length d3) units :: .rowI (.slice D1 key.length d1) key :: .obj g5 (.cells #[.int .i64 kind, .slice D0 lead.length d0, .bool member, .slice D1 key.length d1, .slice B2 text.length b2, .slice D3 units.length d3, .int .i64 count, .slice D4 tail'.length d4] 67) :: (.obj g3 (.cells #[.slice A2 j c2, .slice TA tail.length TC] 31) :: .obj g2 (.cells #[.slice none 0 0, .slice none 0 0] 31) :: .obj g1 (.cells #[.slice A0 nodes.length c0, .slice A1 tail.length c1] 31) :: .rowNode (.slice A2 j c2) j qs :: ((qs).flatMap NodeG.own ++ (.rowComment (.slice TA tail.length TC) tail.length tq :: tq.flatMap CommentG.own)) ++ (.rowComment (.slice D0 lead.length d0) lead.length q0 :: q0.flatMap CommentG.own) ++ (.rowComment (.slice D4 tail'.length d4) tail'.length q4 :: q4.flatMap CommentG.own))) := H
  refine loadO H 2 rfl rfl ?_
  refine callRow ok_l1copy (spec_l1copy (hk.2.2.1.ext H.below) (by omega)) H fun D2 d2 w H => ?_
  refine storeO H 3 rfl rfl rfl fun w H => ?_
  have H : St W.heap.size W w (.rowB (.slice D2 text.length d2) text :: .rowI (.slice D3 units.length d3) units :: .rowI (.slice D1 key.length d1) key :: .obj g5 (.cells #[.int .i64 kind, .slice D0 lead.length d0, .bool member, .slice D1 key.length d1, .slice D2 text.length d2, .slice D3 units.length d3, .int .i64 count, .slice D4 tail'.length d4] 67) :: (.obj g3 (.cells #[.slice A2 j c2, .slice TA tail.length TC] 31) :: .obj g2 (.cells #[.slice none 0 0, .slice none 0 0] 31) :: .obj g1 (.cells #[.slice A0 nodes.length c0, .slice A1 tail.length c1] 31) :: .rowNode (.slice A2 j c2) j qs :: ((qs).flatMap NodeG.own ++ (.rowComment (.slice TA tail.length TC) tail.length tq :: tq.flatMap CommentG.own)) ++ (.rowComment (.slice D0 lead.length d0) lead.length q0 :: q0.flatMap CommentG.own) ++ (.rowComment (.slice D4 tail'.length d4) tail'.length q4 :: q4.flatMap CommentG.own))) := H
  refine loadO H 4 rfl rfl ?_
  refine loadO H 3 rfl rfl ?_
  refine loadO H 3 rfl rfl ?_
  refine loadO H 3 rfl rfl ?_
  refine loadO H 3 rfl rfl ?_
  refine loadO H 3 rfl rfl ?_
  refine loadO H 3 rfl rfl ?_
  refine loadO H 3 rfl rfl ?_
  refine loadO H 3 rfl rfl ?_
  refine litRB (e := 67) (sz := 8) (n := 1) (cs := [.int .i64 kind, .slice D0 lead.length d0, .bool member, .slice D1 key.length d1, .slice D2 text.length d2, .slice D3 units.length d3, .int .i64 count, .slice D4 tail'.length d4]) H rfl (by decide) (by kernel_rfl) fun A6 k6 w hB H => ?_
  refine appRG undNodes infNode rfl (by decide) (by decide) H 8 rfl (H.rd 0 rfl) (by intro u hu; simp only [List.mem_cons, List.not_mem_nil, or_false] at hu; rcases hu with rfl | rfl | rfl | rfl | rfl | rfl | rfl | rfl <;> rfl) (by omega) fun A7 k7 w H => ?_
  refine storeO H 5 rfl rfl rfl fun w H => ?_
  refine arN (by omega) ?_
  refine Exists.intro (m - 1) (And.intro (by omega) ⟨rfl, rfl, rfl, j + 1, A7, k7, qs ++ [⟨.slice D0 lead.length d0, .slice D1 key.length d1, .slice D2 text.length d2, .slice D3 units.length d3, .slice D4 tail'.length d4, kind, q0, member, key, text, units, count, q4⟩], rfl, by omega, by simp [hql], by rw [htk, List.map_append, hp]; simp only [List.map_cons, List.map_nil, NodeG.p, hq0, hq4], ?_⟩)
  have H : St W.heap.size W w (.row (.slice A6 1 k6) 67 8 1 [.int .i64 kind, .slice D0 lead.length d0, .bool member, .slice D1 key.length d1, .slice D2 text.length d2, .slice D3 units.length d3, .int .i64 count, .slice D4 tail'.length d4] :: .rowB (.slice D2 text.length d2) text :: .rowI (.slice D3 units.length d3) units :: .rowI (.slice D1 key.length d1) key :: .obj g5 (.cells #[.int .i64 kind, .slice D0 lead.length d0, .bool member, .slice D1 key.length d1, .slice D2 text.length d2, .slice D3 units.length d3, .int .i64 count, .slice D4 tail'.length d4] 67) :: (.obj g3 (.cells #[.slice A7 (j + 1) k7, .slice TA tail.length TC] 31) :: .obj g2 (.cells #[.slice none 0 0, .slice none 0 0] 31) :: .obj g1 (.cells #[.slice A0 nodes.length c0, .slice A1 tail.length c1] 31) :: .row (.slice A7 (j + 1) k7) 67 8 (j + 1) (qs.flatMap NodeG.cells ++ [.int .i64 kind, .slice D0 lead.length d0, .bool member, .slice D1 key.length d1, .slice D2 text.length d2, .slice D3 units.length d3, .int .i64 count, .slice D4 tail'.length d4]) :: ((qs).flatMap NodeG.own ++ (.rowComment (.slice TA tail.length TC) tail.length tq :: tq.flatMap CommentG.own)) ++ (.rowComment (.slice D0 lead.length d0) lead.length q0 :: q0.flatMap CommentG.own) ++ (.rowComment (.slice D4 tail'.length d4) tail'.length q4 :: q4.flatMap CommentG.own))) := H
  refine H.sel (fun q => ?_)
  simp only [cntL_append, cntL, List.cons_append, List.nil_append, List.flatMap_append, List.flatMap_cons, List.flatMap_nil, List.append_nil, It.rowB, It.rowI, It.rowNode, It.rowComment, NodeG.own, NodeG.cells, lq0, lq4]; omega
end Go.Proofs.YtpaklalfopfilaaE
/- A tree without its comments. -/
namespace Go.Proofs.YtpaklalfopfilaaE
open Go Go.RowKit
set_option linter.unusedVariables false
set_option maxRecDepth 100000

def stripN (n : NodeP) : NodeP := { n with lead := [], tail := [] }
def stripT (t : TreeP) : TreeP := if validT t then ⟨t.nodes.map stripN, []⟩ else ⟨[], []⟩
def stripG (f : NodeG) : NodeG := { f with leadV := .slice none 0 0, tailV := .slice none 0 0, lead := [], tail := [] }
theorem stripG_p (f : NodeG) : (stripG f).p = stripN f.p := rfl
theorem stripG_own {B : Nat} {W0 w : World} : ∀ (xs : List NodeG) {L : List It}, St B W0 w (xs.flatMap NodeG.own ++ L) → St B W0 w ((xs.map stripG).flatMap NodeG.own ++ L)
  | [], L, H => H
  | x :: xs, L, H => by
    have H1 : St B W0 w (xs.flatMap NodeG.own ++ (x.own ++ L)) := H.sel (fun q => by simp only [List.flatMap_cons, cntL_append]; omega)
    have H2 := stripG_own xs H1
    have H3 := (H2.rowNil (e := 73) (sz := 2)).rowNil (e := 73) (sz := 2)
    refine H3.sel (fun q => ?_)
    simp only [List.map_cons, List.flatMap_cons, List.flatMap_nil, cntL_append, cntL, NodeG.own, stripG, It.rowComment, It.rowB, It.rowI, List.length_nil]
    omega
/-- the first j of them stripped -/
def stripTo (xs : List NodeG) (j : Nat) : List NodeG := (xs.take j).map stripG ++ xs.drop j
theorem stripTo_get {xs : List NodeG} {j : Nat} {x : NodeG} (h : xs[j]? = some x) : (stripTo xs j)[j]? = some x ∧ (stripTo xs j).set j (stripG x) = stripTo xs (j + 1) := by
  obtain ⟨hj, rfl⟩ := List.getElem?_eq_some_iff.1 h
  have hl : ((xs.take j).map stripG).length = j := by rw [List.length_map, List.length_take]; omega
  unfold stripTo
  rw [List.drop_eq_getElem_cons hj]
  refine ⟨get_mid hl, ?_⟩
  rw [set_mid2 hl, List.take_add_one, h, List.map_append, List.append_assoc]; rfl
theorem stripTo_len (xs : List NodeG) (j : Nat) : (stripTo xs j).length = xs.length := by
  unfold stripTo
  rw [List.length_append, List.length_map, List.length_take, List.length_drop]; omega
theorem stripTo_all (xs : List NodeG) : stripTo xs xs.length = xs.map stripG := by
  unfold stripTo
  rw [List.take_length, List.drop_length, List.append_nil]
end Go.Proofs.YtpaklalfopfilaaE
/- The reference's StripComments. -/
namespace Go.Proofs.YtpaklalfopfilaaE
open Go Go.RowKit
set_option linter.unusedVariables false
set_option linter.unusedSimpArgs false
set_option maxRecDepth 100000
set_option maxHeartbeats 8000000

theorem ok_spec_StripComments : callOK Try.prog 22 = true := by kernel_rfl
theorem spec_StripComments {t : TreeG} {W : World} (hx : t.Rd W) (ht : TreeOK t) :
    Calls Try.prog 22 #[.agg t.cells.toArray] W fun e w => ∃ g : TreeG, e = .returned (.agg g.cells.toArray) ∧ g.p = stripT t.p ∧ St W.heap.size W w g.own := by
  have H := St.enter W
  have vaC : ∀ {w : World}, Below W.heap.size W w → GivesV Try.prog 7 [.agg t.cells.toArray] w (.bool (validT t.p)) := fun hB => spec_ValidTree (hx.ext hB) ht
  have coC : ∀ {w : World}, Below W.heap.size W w → Calls Try.prog 54 #[.agg t.cells.toArray] w fun e w' => ∃ g : TreeG, e = .returned (.agg g.cells.toArray) ∧ g.p = t.p ∧ g.nodes.length = t.nodes.length ∧ St w.heap.size w w' g.own := fun hB => spec_l5copy (hx.ext hB) (small_tree ht.sz (Nat.le_refl _))
  have n1 : t.nodes.length ≤ 4294967296 := (small_tree ht.sz (Nat.le_refl _)).nodes
  obtain ⟨A0, c0, A1, c1, e0, e1⟩ := TreeG.shape hx
  obtain ⟨cs, hcs⟩ : ∃ cs, t.cells = cs := ⟨_, rfl⟩
  obtain rfl : cs = [.slice A0 t.nodes.length c0, .slice A1 t.tail.length c1] := by rw [← hcs]; unfold TreeG.cells; rw [e0, e1]
  obtain ⟨v, hv⟩ : ∃ v, validT t.p = v := ⟨_, rfl⟩
  rw [hcs] at vaC coC ⊢
  rw [hv] at vaC
  show Calls Try.prog 22 #[.agg #[.slice A0 t.nodes.length c0, .slice A1 t.tail.length c1]] W _
  refine calls_of_vcV (args := [.agg #[.slice A0 t.nodes.length c0, .slice A1 t.tail.length c1]]) Try.func22 rfl (by kernel_rfl) (Nat.le_of_ble_eq_true rfl) ?_
  refine newR (o := .cells #[.slice A0 t.nodes.length c0, .slice A1 t.tail.length c1] _) H fun g1 w H => ?_
  refine newR (o := .cells #[.slice none 0 0, .slice none 0 0] _) H fun g2 w H => ?_
  refine loadO H 1 rfl rfl ?_
  refine loadO H 1 rfl rfl ?_
  refine callV ok_spec_ValidTree (vaC H.below) H fun w H => ?_
  refine ifNot ?_
  cases v with
  | false =>
    refine ifF ?_
    refine RunS.mk ⟨.agg #[.slice none 0 0, .slice none 0 0], w, by kernel_rfl, ?_⟩
    refine storeO H 0 rfl rfl rfl fun w H => ?_
    refine storeO H 0 rfl rfl rfl fun w H => ?_
    refine loadO H 0 rfl rfl ?_
    refine loadO H 0 rfl rfl ?_
    refine Exists.intro (⟨.slice none 0 0, .slice none 0 0, [], []⟩ : TreeG) (And.intro rfl (And.intro (by unfold stripT; rw [hv]; rfl) ?_))
    exact ((H.none.rowNil (e := 73) (sz := 2)).rowNil (e := 67) (sz := 8))
  | true =>
    refine ifT ?_
    refine loadO H 1 rfl rfl ?_
    refine loadO H 1 rfl rfl ?_
    refine CallS.mk ok_l5copy ((coC H.below).mono ?_)
    rintro _ w1 ⟨g, rfl, hp, hnl, H1⟩
    have hone := TreeG.one H1
    obtain ⟨D0, d0, D1, d1, f0, f1⟩ := TreeG.shape (TreeG.rdo H1 fun it hit => hit)
    have H := H.joinL H1 (TreeG.ownAll _)
    obtain ⟨nodesV, tailV, nodes, tail⟩ := g
    dsimp only at f0 f1 hnl
    subst f0 f1
    rw [← hnl] at n1
    refine newR (o := .cells #[.slice none 0 0, .slice none 0 0] _) H fun g3 w H => ?_
    refine storeO H 0 rfl rfl (hone 0 _ rfl) fun w H => ?_
    refine storeO H 0 rfl rfl (hone 1 _ rfl) fun w H => ?_
    refine storeO H 0 rfl rfl rfl fun w H => ?_
    have H : St W.heap.size W w (.obj g3 (.cells #[.slice D0 nodes.length d0, .slice none 0 0] 31) :: .obj g2 (.cells #[.slice none 0 0, .slice none 0 0] 31) :: .obj g1 (.cells #[.slice A0 t.nodes.length c0, .slice A1 t.tail.length c1] 31) :: ((.rowNode (.slice D0 nodes.length d0) nodes.length nodes :: nodes.flatMap NodeG.own) ++ (.rowComment (.slice D1 tail.length d1) tail.length tail :: tail.flatMap CommentG.own))) := H
    have H : St W.heap.size W w (.obj g3 (.cells #[.slice D0 nodes.length d0, .slice none 0 0] 31) :: .obj g2 (.cells #[.slice none 0 0, .slice none 0 0] 31) :: .row (.slice D0 nodes.length d0) 67 8 nodes.length ((stripTo nodes 0).flatMap NodeG.cells) :: nodes.flatMap NodeG.own) := by
      have e : stripTo nodes 0 = nodes := by simp [stripTo]
      rw [e]; exact H.sel (fun q => by simp only [cntL_append, cntL, List.cons_append, List.nil_append, List.set_cons_zero, List.set_cons_succ, List.flatMap_append, List.flatMap_cons, List.flatMap_nil, It.rowB, It.rowI, It.roB, It.roI, It.rowNode]; omega)
    refine loopV (by kernel_rfl) (fun m e w => e 2 = .pointer (some ⟨g2, 0, none⟩) ∧ e 3 = .pointer (some ⟨g3, 0, none⟩) ∧ ∃ j : Nat, e 4 = .int .i64 j ∧ j + m = nodes.length ∧ St W.heap.size W w (.obj g3 (.cells #[.slice D0 nodes.length d0, .slice none 0 0] 31) :: .obj g2 (.cells #[.slice none 0 0, .slice none 0 0] 31) :: .row (.slice D0 nodes.length d0) 67 8 nodes.length ((stripTo nodes j).flatMap NodeG.cells) :: nodes.flatMap NodeG.own)) nodes.length
      ⟨rfl, rfl, 0, rfl, by omega, H⟩ ?_
    rintro m e w ⟨h2, h3, j, h4, hj, H⟩
    rw [Env.three h2 h3 h4]
    refine loadO H 0 rfl rfl ?_
    refine ifB (fun h => ?_) (fun h => ?_)
    case refine_2 =>
      obtain rfl : j = nodes.length := by omega
      rw [stripTo_all] at H
      refine loadO H 0 rfl rfl ?_
      refine loadO H 0 rfl rfl ?_
      refine storeO H 1 rfl rfl rfl fun w H => ?_
      refine storeO H 1 rfl rfl rfl fun w H => ?_
      refine loadO H 1 rfl rfl ?_
      refine loadO H 1 rfl rfl ?_
      refine Exists.intro (⟨.slice D0 nodes.length d0, .slice none 0 0, nodes.map stripG, []⟩ : TreeG) (And.intro rfl (And.intro ?_ ?_))
      · have h1 : nodes.map NodeG.p = t.p.nodes := congrArg TreeP.nodes hp
        unfold stripT
        rw [hv, if_pos rfl, ← h1]
        simp only [TreeG.p, List.map_map, List.map_nil]
        rfl
      · have H2 := stripG_own nodes (L := [.row (.slice D0 nodes.length d0) 67 8 nodes.length ((nodes.map stripG).flatMap NodeG.cells)]) (H.sel (fun q => by simp only [cntL_append, cntL, List.set_cons_succ, List.set_cons_zero]; omega))
        exact (H2.rowNil (e := 73) (sz := 2)).sel (fun q => by simp only [TreeG.own, cntL_append, cntL, List.cons_append, List.nil_append, It.rowNode, It.rowComment, List.length_map, List.length_nil, List.flatMap_nil]; omega)
    have hjl : j < nodes.length := by omega
    obtain ⟨f, hf⟩ : ∃ f, nodes[j]? = some f := ⟨_, List.getElem?_eq_getElem hjl⟩
    obtain ⟨hg1, hg2⟩ := stripTo_get hf
    refine loadO H 0 rfl rfl ?_
    refine idxRow H 2 rfl (by omega) (by omega) fun b0 hA _ => ?_
    subst hA
    refine storeRowN H 2 rfl (j * 8 + 1) (by show 0 + (j : Int).toNat * 8 + 1 = _; omega) (by omega) rfl fun w H => ?_
    refine loadO H 0 rfl rfl ?_
    refine idxRow H 2 rfl (by omega) (by omega) fun b1 hA _ => ?_
    cases hA
    refine storeRowN H 2 rfl (j * 8 + 7) (by show 0 + (j : Int).toNat * 8 + 7 = _; omega) (by omega) rfl fun w H => ?_
    have e1 := flat_set (v := .slice none 0 0) (x' := { f with leadV := .slice none 0 0 }) NodeG.cells_len (stripTo nodes j) j 1 f hg1 (by decide) rfl
    have hl : j < (stripTo nodes j).length := by rw [stripTo_len]; exact hjl
    have e2 := flat_set (v := .slice none 0 0) (x' := stripG f) NodeG.cells_len ((stripTo nodes j).set j { f with leadV := .slice none 0 0 }) j 7 { f with leadV := .slice none 0 0 } (List.getElem?_set_self hl) (by decide) rfl
    rw [List.set_set, hg2] at e2
    refine arN (by omega) ?_
    refine Exists.intro (m - 1) (And.intro (by omega) ⟨rfl, rfl, j + 1, rfl, by omega, ?_⟩)
    rw [← e2, ← e1]
    exact H
end Go.Proofs.YtpaklalfopfilaaE
/- The program's StripComments. -/
namespace Go.Proofs.YtpaklalfopfilaaE
open Go Go.RowKit
set_option linter.unusedVariables false
set_option linter.unusedSimpArgs false
set_option maxRecDepth 100000
set_option maxHeartbeats 8000000

theorem NodeG.oneR {w : World} {f : NodeG} (h : f.Rd w) : ∀ u ∈ f.cells, u.oneCell' = true := by
  obtain ⟨A0, c0, A1, c1, A2, c2, A3, c3, A4, c4, e0, e1, e2, e3, e4⟩ := NodeG.shape h
  intro u hu
  unfold NodeG.cells at hu
  simp only [List.mem_cons, List.not_mem_nil, or_false] at hu
  rcases hu with rfl | rfl | rfl | rfl | rfl | rfl | rfl | rfl
  · rfl
  · rw [e0]; rfl
  · rfl
  · rw [e1]; rfl
  · rw [e2]; rfl
  · rw [e3]; rfl
  · rfl
  · rw [e4]; rfl
theorem ok_cloneN : callOK Try.prog 55 = true := by kernel_rfl
theorem slices_CloneN {A : Option Addr} {n c : Nat} {fs : List NodeG} {W : World} (hx : RdNode W (.slice A n c) n fs) (hl : n ≤ 4294967296) : Calls Try.prog 55 #[.slice A n c] W fun e w => ∃ x, e = .returned x ∧ w.ownsRow W.heap.size 67 8 x n (fs.flatMap NodeG.cells) ∧ Below W.heap.size W w := by
  have H := (St.enter W).ro0 rfl hx.row
  obtain rfl := hx.len
  cases A
  all_goals refine calls_of_vcV (args := [.slice _ fs.length c]) Try.func55 rfl (by kernel_rfl) (Nat.le_of_ble_eq_true rfl) ?_
  · obtain rfl : fs = [] := by
      obtain ⟨_, _, _, e, _, h⟩ := id hx.row
      cases e
      rcases h with h | ⟨_, _, h, _⟩
      · exact List.eq_nil_of_length_eq_zero h
      · cases h
    refine ifT ?_
    exact Exists.intro _ (And.intro rfl (And.intro (World.ownsRow_nil _ _ _ _) (Below.refl _ _)))
  · refine ifF ?_
    refine litRB (e := 67) (sz := 8) (n := 0) (cs := []) H rfl (by decide) (by kernel_rfl) fun A0 c0 w _ H => ?_
    refine appRG undNodes infNode rfl (by decide) (by decide) H 0 rfl (H.rd 1 rfl) (fun u hu => by obtain ⟨f, hf, hu⟩ := List.mem_flatMap.1 hu; exact NodeG.oneR (hx.kids f hf) u hu) (by omega) fun A1 k0 w H => ?_
    simp only [List.nil_append, Nat.zero_add] at H ⊢
    exact Exists.intro _ (And.intro rfl (And.intro (H.own 0 rfl) H.below))
theorem ok_impl_StripComments : callOK Try.prog 23 = true := by kernel_rfl
theorem impl_StripComments {t : TreeG} {W : World} (hx : t.Rd W) (ht : TreeOK t) (hz : t.size ≤ 4294967280) (hM : MaxL W) :
    Calls Try.prog 23 #[.agg t.cells.toArray] W fun e w => ∃ g : TreeG, e = .returned (.agg g.cells.toArray) ∧ g.p = stripT t.p ∧ St W.heap.size W w g.own := by
  have H := St.enter W
  have vaC : ∀ {w : World}, Below W.heap.size W w → GivesV Try.prog 9 [.agg t.cells.toArray] w (.bool (validT t.p)) := fun hB => impl_ValidTree (hx.ext hB) ht hz (hM.ext hB)
  have hsm := small_tree ht.sz (Nat.le_refl _)
  have n2 := hsm.nodess
  have n1 := hsm.nodes
  have hp1 : t.p.nodes = t.nodes.map NodeG.p := rfl
  obtain ⟨v, hv⟩ : ∃ v, validT t.p = v := ⟨_, rfl⟩
  obtain ⟨r, hr⟩ : ∃ r, stripT t.p = r := ⟨_, rfl⟩
  rw [hr]
  unfold stripT at hr
  rw [hv] at vaC hr
  rw [hp1] at hr
  obtain ⟨A0, c0, A1, c1, e0, e1⟩ := TreeG.shape hx
  obtain ⟨nodesV, tailV, nodes, tail⟩ := t
  dsimp only at e0 e1 n1 n2 hr
  subst e0 e1
  have hN : RdNode W (.slice A0 nodes.length c0) nodes.length nodes := hx.1
  clear hx ht hz hv hsm hp1
  show Calls Try.prog 23 #[.agg #[.slice A0 nodes.length c0, .slice A1 tail.length c1]] W _
  refine calls_of_vcV (args := [.agg #[.slice A0 nodes.length c0, .slice A1 tail.length c1]]) Try.func23 rfl (by kernel_rfl) (Nat.le_of_ble_eq_true rfl) ?_
  refine newR (o := .cells #[.slice A0 nodes.length c0, .slice A1 tail.length c1] _) H fun g1 w H => ?_
  refine newR (o := .cells #[.slice none 0 0, .slice none 0 0] _) H fun g2 w H => ?_
  refine loadO H 1 rfl rfl ?_
  refine loadO H 1 rfl rfl ?_
  refine callV ok_impl_ValidTree (vaC H.below) H fun w H => ?_
  refine ifNot ?_
  cases v with
  | false =>
    refine ifF ?_
    refine RunS.mk ⟨.agg #[.slice none 0 0, .slice none 0 0], w, by kernel_rfl, ?_⟩
    refine storeO H 0 rfl rfl rfl fun w H => ?_
    refine storeO H 0 rfl rfl rfl fun w H => ?_
    refine loadO H 0 rfl rfl ?_
    refine loadO H 0 rfl rfl ?_
    refine Exists.intro (⟨.slice none 0 0, .slice none 0 0, [], []⟩ : TreeG) (And.intro rfl (And.intro (by rw [← hr]; rfl) ?_))
    exact ((H.none.rowNil (e := 73) (sz := 2)).rowNil (e := 67) (sz := 8))
  | true =>
    refine ifT ?_
    refine loadO H 1 rfl rfl ?_
    refine callRow ok_cloneN (slices_CloneN (hN.ext H.below) n1) H fun D0 d0 w H => ?_
    refine RunS.mk ⟨.agg #[.slice D0 nodes.length d0, .slice none 0 0], w, by kernel_rfl, ?_⟩
    refine newR (o := .cells #[.slice none 0 0, .slice none 0 0] _) H fun g3 w H => ?_
    refine storeO H 0 rfl rfl rfl fun w H => ?_
    refine storeO H 0 rfl rfl rfl fun w H => ?_
    refine loadO H 0 rfl rfl ?_
    have H : St W.heap.size W w (.obj g3 (.cells #[.slice D0 nodes.length d0, .slice none 0 0] 31) :: .obj g2 (.cells #[.slice none 0 0, .slice none 0 0] 31) :: .row (.slice D0 nodes.length d0) 67 8 nodes.length ((([] : List NodeG) ++ nodes).flatMap NodeG.cells) :: ([] : List NodeG).flatMap NodeG.own) := H.sub [0, 2, 1] (by decide)
    refine loopV (by kernel_rfl) (fun m e w => e 2 = .pointer (some ⟨g2, 0, none⟩) ∧ e 3 = .pointer (some ⟨g3, 0, none⟩) ∧ e 16 = .int .i64 nodes.length ∧ ∃ (j : Nat) (done rest : List NodeG), e 17 = .int .i64 j ∧ done.length = j ∧ rest.length = m ∧ nodes.drop j = rest ∧ j + m = nodes.length ∧ done.map NodeG.p = (nodes.take j).map (fun f => stripN f.p) ∧ St W.heap.size W w (.obj g3 (.cells #[.slice D0 nodes.length d0, .slice none 0 0] 31) :: .obj g2 (.cells #[.slice none 0 0, .slice none 0 0] 31) :: .row (.slice D0 nodes.length d0) 67 8 nodes.length ((done ++ rest).flatMap NodeG.cells) :: done.flatMap NodeG.own)) nodes.length
      ⟨rfl, rfl, rfl, 0, [], nodes, rfl, rfl, rfl, rfl, by omega, rfl, H⟩ ?_
    rintro m e w ⟨h2, h3, h16, j, done, rest, h17, hdl, hrl, hdr, hj, hp, H⟩
    rw [Env.four h2 h3 h16 h17]
    refine ifB (fun h => ?_) (fun h => ?_)
    case refine_2 =>
      obtain rfl : rest = [] := List.length_eq_zero_iff.1 (by omega)
      rw [List.append_nil] at H
      rw [List.take_of_length_le (by omega)] at hp
      refine loadO H 0 rfl rfl ?_
      refine loadO H 0 rfl rfl ?_
      refine storeO H 1 rfl rfl rfl fun w H => ?_
      refine storeO H 1 rfl rfl rfl fun w H => ?_
      refine loadO H 1 rfl rfl ?_
      refine loadO H 1 rfl rfl ?_
      have hdn : done.length = nodes.length := by omega
      refine Exists.intro (⟨.slice D0 nodes.length d0, .slice none 0 0, done, []⟩ : TreeG) (And.intro rfl (And.intro ?_ ?_))
      · rw [← hr, if_pos rfl, List.map_map]
        show TreeP.mk (done.map NodeG.p) [] = _
        rw [hp]; rfl
      · exact (H.rowNil (e := 73) (sz := 2)).sel (fun q => by simp only [TreeG.own, cntL_append, cntL, List.cons_append, List.nil_append, It.rowNode, It.rowComment, hdn, List.length_nil, List.flatMap_nil, List.set_cons_succ, List.set_cons_zero]; omega)
    have hjl : j < nodes.length := by omega
    cases rest with
    | nil => simp only [List.length_nil] at hrl; omega
    | cons f rest =>
      have hf : nodes[j]? = some f := by
        have := congrArg (fun l => l[0]?) hdr
        simpa using this
      have hfm : f ∈ nodes := List.mem_of_getElem? hf
      have htk : (nodes.take (j + 1)).map (fun f => stripN f.p) = (nodes.take j).map (fun f => stripN f.p) ++ [stripN f.p] := by rw [List.take_add_one, hf, List.map_append]; rfl
      have hdr2 : nodes.drop (j + 1) = rest := by
        have : nodes.drop (j + 1) = (nodes.drop j).drop 1 := by rw [List.drop_drop]
        rw [this, hdr]; rfl
      have hk := hN.kids f hfm
      have s1 := (n2 f hfm).key
      have s2 := (n2 f hfm).text
      have s3 := (n2 f hfm).units
      obtain ⟨B0, b0, B1, b1, B2, b2, B3, b3, B4, b4, e0, e1, e2, e3, e4⟩ := NodeG.shape hk
      obtain ⟨leadV, keyV, textV, unitsV, tailV', kind, lead, member, key, text, units, count, tail'⟩ := f
      dsimp only at e0 e1 e2 e3 e4 s1 s2 s3
      subst e0 e1 e2 e3 e4
      have hk : RdComment W (.slice B0 lead.length b0) lead.length lead ∧ RdI W (.slice B1 key.length b1) key ∧ RdB W (.slice B2 text.length b2) text ∧ RdI W (.slice B3 units.length b3) units ∧ RdComment W (.slice B4 tail'.length b4) tail'.length tail' := hk
      refine loadO H 0 rfl rfl ?_
      refine idxRow H 2 rfl (by omega) (by omega) fun bb hA _ => ?_
      subst hA
      refine storeRowN H 2 rfl (j * 8 + 1) (by show 0 + (j : Int).toNat * 8 + 1 = _; omega) (by omega) rfl fun w H => ?_
      refine storeRowN H 2 rfl (j * 8 + 7) (by show 0 + (j : Int).toNat * 8 + 7 = _; omega) (by omega) rfl fun w H => ?_
      have w1 := flat_set (v := .slice none 0 0) (x' := (⟨.slice none 0 0, .slice B1 key.length b1, .slice B2 text.length b2, .slice B3 units.length b3, .slice B4 tail'.length b4, kind, lead, member, key, text, units, count, tail'⟩ : NodeG)) NodeG.cells_len (done ++ (⟨.slice B0 lead.length b0, .slice B1 key.length b1, .slice B2 text.length b2, .slice B3 units.length b3, .slice B4 tail'.length b4, kind, lead, member, key, text, units, count, tail'⟩ : NodeG) :: rest) j 1 ⟨.slice B0 lead.length b0, .slice B1 key.length b1, .slice B2 text.length b2, .slice B3 units.length b3, .slice B4 tail'.length b4, kind, lead, member, key, text, units, count, tail'⟩ (get_mid hdl) (by decide) rfl
      have w2 := flat_set (v := .slice none 0 0) (x' := (⟨.slice none 0 0, .slice B1 key.length b1, .slice B2 text.length b2, .slice B3 units.length b3, .slice none 0 0, kind, [], member, key, text, units, count, []⟩ : NodeG)) NodeG.cells_len (done ++ (⟨.slice none 0 0, .slice B1 key.length b1, .slice B2 text.length b2, .slice B3 units.length b3, .slice B4 tail'.length b4, kind, lead, member, key, text, units, count, tail'⟩ : NodeG) :: rest) j 7 ⟨.slice none 0 0, .slice B1 key.length b1, .slice B2 text.length b2, .slice B3 units.length b3, .slice B4 tail'.length b4, kind, lead, member, key, text, units, count, tail'⟩ (get_mid hdl) (by decide) rfl
      rw [set_mid2 hdl] at w1 w2
      have H : St W.heap.size W w (.obj g3 (.cells #[.slice (some ⟨bb, 0, none⟩) nodes.length d0, .slice none 0 0] 31) :: .obj g2 (.cells #[.slice none 0 0, .slice none 0 0] 31) :: .row (.slice (some ⟨bb, 0, none⟩) nodes.length d0) 67 8 nodes.length ((done ++ ⟨.slice none 0 0, .slice B1 key.length b1, .slice B2 text.length b2, .slice B3 units.length b3, .slice none 0 0, kind, [], member, key, text, units, count, []⟩ :: rest).flatMap NodeG.cells) :: done.flatMap NodeG.own) := by rw [← w2, ← w1]; exact H
      refine regG [7, 12, 17, 20, 23, 26] [7, 12] [6, 11, 16] [0, 1, 2, 3, 4, 5, 6, 8, 9, 10, 11, 13, 14, 15, 16, 7, 12, 17, 18, 19, 20, 21, 22, 23, 24, 25, 26] (by kernel_rfl) ?_
      (refine drawR H fun w H => ?_; have H0 := H; have hw := HeldW.refl w)
      obtain ⟨b', hb', hcl⟩ := own_cells (H.own 2 rfl) (by omega)
      cases hb'
      have hcl : ∀ (q : Nat) (v : Value), q < 8 → (NodeG.cells ⟨.slice none 0 0, .slice B1 key.length b1, .slice B2 text.length b2, .slice B3 units.length b3, .slice none 0 0, kind, [], member, key, text, units, count, []⟩)[q]? = some v → w.cell? ⟨bb, 0 + (j : Int).toNat * 8 + q, none⟩ = some v := fun q v hq hv => by
        have hg := flat_get NodeG.cells_len (done ++ ⟨.slice none 0 0, .slice B1 key.length b1, .slice B2 text.length b2, .slice B3 units.length b3, .slice none 0 0, kind, [], member, key, text, units, count, []⟩ :: rest) j q ⟨.slice none 0 0, .slice B1 key.length b1, .slice B2 text.length b2, .slice B3 units.length b3, .slice none 0 0, kind, [], member, key, text, units, count, []⟩ (get_mid hdl) hq
        have hle : ((done ++ (⟨.slice none 0 0, .slice B1 key.length b1, .slice B2 text.length b2, .slice B3 units.length b3, .slice none 0 0, kind, [], member, key, text, units, count, []⟩ : NodeG) :: rest).flatMap NodeG.cells).length = nodes.length * 8 := by rw [flat_len NodeG.cells_len]; simp only [List.length_append, List.length_cons] at hrl ⊢; omega
        rw [show 0 + (j : Int).toNat * 8 + q = j * 8 + q by omega, hcl (j * 8 + q) (by omega), hg, hv]
      refine loadS (hcl 3 _ (by decide) rfl) ?_
      refine loadS (hcl 4 _ (by decide) rfl) ?_
      refine loadS (hcl 5 _ (by decide) rfl) ?_
      refine callRowB ok_cloneI (slices_CloneI (hk.2.1.ext H.below) (by omega)) H fun K1 q1 w hB H => ?_
      have hw := hw.step hB
      refine KeepS.mk ⟨hw, ?_⟩
      refine callRowB ok_clone (slices_Clone (hk.2.2.1.ext H.below) (by omega)) H fun K2 q2 w hB H => ?_
      have hw := hw.step hB
      refine KeepS.mk ⟨hw, ?_⟩
      refine callRowB ok_cloneI (slices_CloneI (hk.2.2.2.1.ext H.below) (by omega)) H fun K3 q3 w hB H => ?_
      refine storeRowN H 5 rfl (j * 8 + 3) (by show 0 + (j : Int).toNat * 8 + 3 = _; omega) (by omega) rfl fun w H => ?_
      refine storeRowN H 5 rfl (j * 8 + 4) (by show 0 + (j : Int).toNat * 8 + 4 = _; omega) (by omega) rfl fun w H => ?_
      refine storeRowN H 5 rfl (j * 8 + 5) (by show 0 + (j : Int).toNat * 8 + 5 = _; omega) (by omega) rfl fun w H => ?_
      have w3 := flat_set (v := .slice K1 key.length q1) (x' := (⟨.slice none 0 0, .slice K1 key.length q1, .slice B2 text.length b2, .slice B3 units.length b3, .slice none 0 0, kind, [], member, key, text, units, count, []⟩ : NodeG)) NodeG.cells_len (done ++ (⟨.slice none 0 0, .slice B1 key.length b1, .slice B2 text.length b2, .slice B3 units.length b3, .slice none 0 0, kind, [], member, key, text, units, count, []⟩ : NodeG) :: rest) j 3 ⟨.slice none 0 0, .slice B1 key.length b1, .slice B2 text.length b2, .slice B3 units.length b3, .slice none 0 0, kind, [], member, key, text, units, count, []⟩ (get_mid hdl) (by decide) rfl
      have w4 := flat_set (v := .slice K2 text.length q2) (x' := (⟨.slice none 0 0, .slice K1 key.length q1, .slice K2 text.length q2, .slice B3 units.length b3, .slice none 0 0, kind, [], member, key, text, units, count, []⟩ : NodeG)) NodeG.cells_len (done ++ (⟨.slice none 0 0, .slice K1 key.length q1, .slice B2 text.length b2, .slice B3 units.length b3, .slice none 0 0, kind, [], member, key, text, units, count, []⟩ : NodeG) :: rest) j 4 ⟨.slice none 0 0, .slice K1 key.length q1, .slice B2 text.length b2, .slice B3 units.length b3, .slice none 0 0, kind, [], member, key, text, units, count, []⟩ (get_mid hdl) (by decide) rfl
      have w5 := flat_set (v := .slice K3 units.length q3) (x' := (⟨.slice none 0 0, .slice K1 key.length q1, .slice K2 text.length q2, .slice K3 units.length q3, .slice none 0 0, kind, [], member, key, text, units, count, []⟩ : NodeG)) NodeG.cells_len (done ++ (⟨.slice none 0 0, .slice K1 key.length q1, .slice K2 text.length q2, .slice B3 units.length b3, .slice none 0 0, kind, [], member, key, text, units, count, []⟩ : NodeG) :: rest) j 5 ⟨.slice none 0 0, .slice K1 key.length q1, .slice K2 text.length q2, .slice B3 units.length b3, .slice none 0 0, kind, [], member, key, text, units, count, []⟩ (get_mid hdl) (by decide) rfl
      rw [set_mid2 hdl] at w3 w4 w5
      have H : St W.heap.size W w (.rowI (.slice K3 units.length q3) units :: .rowB (.slice K2 text.length q2) text :: .rowI (.slice K1 key.length q1) key :: .obj g3 (.cells #[.slice (some ⟨bb, 0, none⟩) nodes.length d0, .slice none 0 0] 31) :: .obj g2 (.cells #[.slice none 0 0, .slice none 0 0] 31) :: .row (.slice (some ⟨bb, 0, none⟩) nodes.length d0) 67 8 nodes.length ((done ++ ⟨.slice none 0 0, .slice K1 key.length q1, .slice K2 text.length q2, .slice K3 units.length q3, .slice none 0 0, kind, [], member, key, text, units, count, []⟩ :: rest).flatMap NodeG.cells) :: done.flatMap NodeG.own) := by rw [← w5, ← w4, ← w3]; exact H
      refine arN (by omega) ?_
      refine Exists.intro (m - 1) (And.intro (by omega) ⟨rfl, rfl, rfl, j + 1, done ++ [⟨.slice none 0 0, .slice K1 key.length q1, .slice K2 text.length q2, .slice K3 units.length q3, .slice none 0 0, kind, [], member, key, text, units, count, []⟩], rest, rfl, by simp [hdl], by simp only [List.length_cons] at hrl; omega, hdr2, by omega, by rw [htk, List.map_append, hp]; rfl, ?_⟩)
      have H := (H.rowNil (e := 73) (sz := 2)).rowNil (e := 73) (sz := 2)
      refine H.sel (fun q => ?_)
      simp only [cntL_append, cntL, List.append_assoc, List.cons_append, List.nil_append, List.flatMap_append, List.flatMap_cons, List.flatMap_nil, List.append_nil, It.rowB, It.rowI, It.rowComment, NodeG.own, List.length_nil]; omega
end Go.Proofs.YtpaklalfopfilaaE
/- What the laws' helpers do that mark a tree and look whether the marks hold. -/
namespace Go.Proofs.YtpaklalfopfilaaE
open Go Go.RowKit
set_option linter.unusedVariables false
set_option linter.unusedSimpArgs false
set_option maxRecDepth 100000
set_option maxHeartbeats 4000000

def stepsTree (f : TreeG) : Nat := (f.nodes.map stepsNode).sum + (f.tail.map stepsComment).sum
def markTree1 (f : TreeG) (k : Int) : TreeG := ⟨f.nodesV, f.tailV, markNodeL f.nodes k, markCommentL f.tail (endNodeL f.nodes k)⟩
def endTree (f : TreeG) (k : Int) : Int := endCommentL f.tail (endNodeL f.nodes k)
theorem endTree_eq (f : TreeG) (k : Int) : endTree f k = k + (stepsTree f : Nat) := by
  unfold endTree stepsTree
  rw [endCommentL_eq, endNodeL_eq]; omega
theorem stepsC_le : ∀ fs : List CommentG, (fs.map stepsComment).sum ≤ fs.length + (fs.map CommentG.size).sum
  | [] => Nat.le_refl _
  | f :: fs => by
    have ih := stepsC_le fs
    have e : f.size = f.text.length := rfl
    simp only [List.map_cons, List.sum_cons, List.length_cons, stepsComment]; omega
theorem stepsN_le : ∀ fs : List NodeG, (fs.map stepsNode).sum ≤ 3 * fs.length + 2 * (fs.map NodeG.size).sum
  | [] => Nat.le_refl _
  | f :: fs => by
    have ih := stepsN_le fs
    have h1 := stepsC_le f.lead
    have h2 := stepsC_le f.tail
    have e : f.size = (f.lead.length + (f.lead.map CommentG.size).sum) + f.key.length + f.text.length + f.units.length + (f.tail.length + (f.tail.map CommentG.size).sum) := rfl
    simp only [List.map_cons, List.sum_cons, List.length_cons, stepsNode]; omega
theorem stepsTree_le (f : TreeG) : stepsTree f ≤ 3 * f.size := by
  have h1 := stepsN_le f.nodes
  have h2 := stepsC_le f.tail
  unfold stepsTree TreeG.size
  omega

theorem ok_markTree : callOK Try.prog 24 = true := by kernel_rfl
theorem laws_markTree {f : TreeG} {k : Int} (hk : 0 ≤ k) (hb : k + (stepsTree f : Nat) ≤ 1099511627776) {B : Nat} {W0 w : World} {L : List It} (H : St B W0 w (f.own ++ L)) :
    Calls Try.prog 24 #[.agg f.cells.toArray, .int .i64 k] w fun e w' => e = .returned (.int .i64 (endTree f k)) ∧ St B W0 w' ((markTree1 f k).own ++ L) := by
  obtain ⟨A0, c0, A1, c1, e0, e1⟩ := TreeG.shape (TreeG.rdo (f := f) H fun it hit => List.mem_append_left _ hit)
  obtain ⟨nodesV, tailV, nodes, tail⟩ := f
  dsimp only at e0 e1
  subst e0 e1
  simp only [stepsTree] at hb
  have z1 := endNodeL_eq nodes k
  show Calls Try.prog 24 #[.agg #[.slice A0 nodes.length c0, .slice A1 tail.length c1], .int .i64 k] w _
  refine calls_of_vcV (args := [.agg #[.slice A0 nodes.length c0, .slice A1 tail.length c1], .int .i64 k]) Try.func24 rfl (by kernel_rfl) (Nat.le_of_ble_eq_true rfl) ?_
  refine newR (o := .cells #[.slice A0 nodes.length c0, .slice A1 tail.length c1] _) H fun g0 w H => ?_
  refine loadO H 0 rfl rfl ?_
  have H : St B W0 w (.rowNode (.slice A0 nodes.length c0) nodes.length nodes :: (nodes.flatMap NodeG.own ++ (.obj g0 (.cells #[.slice A0 nodes.length c0, .slice A1 tail.length c1] 31) :: (.rowComment (.slice A1 tail.length c1) tail.length tail :: (tail.flatMap CommentG.own ++ L))))) := H.sel (fun q => by simp only [cntL_append, cntL, List.cons_append, List.nil_append, List.set_cons_zero, List.set_cons_succ, List.flatMap_append, List.flatMap_cons, List.flatMap_nil, It.rowB, It.rowI, It.roB, It.roI, TreeG.own, It.rowNode, It.rowComment]; omega)
  refine CallS.mk ok_markNodeS ((laws_markNodeS hk (by omega) rfl H).mono ?_)
  rintro _ w1 ⟨rfl, H⟩
  have H : St B W0 w1 (.obj g0 (.cells #[.slice A0 nodes.length c0, .slice A1 tail.length c1] 31) :: .rowComment (.slice A1 tail.length c1) tail.length tail :: (tail.flatMap CommentG.own ++ (.rowNode (.slice A0 nodes.length c0) nodes.length (markNodeL nodes k) :: ((markNodeL nodes k).flatMap NodeG.own ++ L)))) := H.sel (fun q => by simp only [cntL_append, cntL, List.cons_append, List.nil_append, List.set_cons_zero, List.set_cons_succ, List.flatMap_append, List.flatMap_cons, List.flatMap_nil, It.rowB, It.rowI, It.roB, It.roI, It.rowNode, It.rowComment]; omega)
  refine loadO H 0 rfl rfl ?_
  have H : St B W0 w1 (.rowComment (.slice A1 tail.length c1) tail.length tail :: (tail.flatMap CommentG.own ++ (.rowNode (.slice A0 nodes.length c0) nodes.length (markNodeL nodes k) :: ((markNodeL nodes k).flatMap NodeG.own ++ L)))) := H.tl
  refine CallS.mk ok_markCommentS ((laws_markCommentS (by omega) (by omega) rfl H).mono ?_)
  rintro _ w2 ⟨rfl, H⟩
  refine And.intro rfl (H.sel (fun q => ?_))
  simp only [cntL_append, cntL, List.cons_append, List.nil_append, TreeG.own, markTree1, It.rowNode, It.rowComment, markNodeL_len, markCommentL_len]; omega


theorem ok_heldTree : callOK Try.prog 25 = true := by kernel_rfl
theorem laws_heldTree {f : TreeG} {k : Int} (hk : 0 ≤ k) (hb : k + (stepsTree f : Nat) ≤ 1099511627776) {W : World} (hx : (markTree1 f k).Rd W) :
    GivesV Try.prog 25 [.agg f.cells.toArray, .int .i64 k] W (.int .i64 (endTree f k)) := by
  have H := St.enter W
  obtain ⟨A0, c0, A1, c1, q0, q1⟩ := TreeG.shape hx
  obtain ⟨nodesV, tailV, nodes, tail⟩ := f
  have hx0 : RdNode W nodesV (markNodeL nodes k).length (markNodeL nodes k) := hx.1
  have hx1 : RdComment W tailV (markCommentL tail (endNodeL nodes k)).length (markCommentL tail (endNodeL nodes k)) := hx.2
  have e0 : nodesV = .slice A0 (markNodeL nodes k).length c0 := q0
  have e1 : tailV = .slice A1 (markCommentL tail (endNodeL nodes k)).length c1 := q1
  rw [markNodeL_len] at e0 hx0
  rw [markCommentL_len] at e1 hx1
  clear hx q0 q1
  subst e0 e1
  simp only [stepsTree] at hb
  have z1 := endNodeL_eq nodes k
  have z2 := endCommentL_eq tail (endNodeL nodes k)
  show GivesV Try.prog 25 [.agg #[.slice A0 nodes.length c0, .slice A1 tail.length c1], .int .i64 k] W (.int .i64 (endCommentL tail (endNodeL nodes k)))
  refine calls_of_vcV (args := [.agg #[.slice A0 nodes.length c0, .slice A1 tail.length c1], .int .i64 k]) Try.func25 rfl (by kernel_rfl) (Nat.le_of_ble_eq_true rfl) ?_
  refine newR (o := .cells #[.slice A0 nodes.length c0, .slice A1 tail.length c1] _) H fun g0 w H => ?_
  refine loadO H 0 rfl rfl ?_
  refine callV ok_heldNodeS (laws_heldNodeS hk (by omega) (hx0.ext H.below)) H fun w H => ?_
  refine ifB (fun q => absurd q (by omega)) (fun q => ?_)
  refine loadO H 0 rfl rfl ?_
  refine callV ok_heldCommentS (laws_heldCommentS (by omega) (by omega) (hx1.ext H.below)) H fun w H => ?_
  refine ifB (fun q => absurd q (by omega)) (fun q => ?_)
  exact Exists.intro _ (And.intro rfl (And.intro rfl H.none))

end Go.Proofs.YtpaklalfopfilaaE
/- The law FnExactStripComments: at every tree of at most 2^20 elements in all the program's StripComments and the reference's answer the same; the answer owns its memory. -/
namespace Go.Proofs.YtpaklalfopfilaaE
open Go Go.RowKit
set_option linter.unusedVariables false
set_option linter.unusedSimpArgs false
set_option maxRecDepth 100000
set_option maxHeartbeats 8000000

theorem stripG_size (f : NodeG) : (stripG f).size ≤ f.size := by
  have e : f.size = (f.lead.length + (f.lead.map CommentG.size).sum) + f.key.length + f.text.length + f.units.length + (f.tail.length + (f.tail.map CommentG.size).sum) := rfl
  have e2 : (stripG f).size = (0 + 0) + f.key.length + f.text.length + f.units.length + (0 + 0) := rfl
  omega
theorem stripT_size {f g : TreeG} (h : g.p = stripT f.p) : g.size ≤ f.size := by
  unfold stripT at h
  split at h
  · have e : ∀ xs : List NodeG, ((xs.map stripG).map NodeG.size).sum ≤ (xs.map NodeG.size).sum := by
      intro xs
      induction xs with
      | nil => exact Nat.le_refl _
      | cons x xs ih =>
        have := stripG_size x
        simp only [List.map_cons, List.sum_cons]; omega
    have h2 : g.p = (TreeG.mk (.slice none 0 0) (.slice none 0 0) (f.nodes.map stripG) []).p := by
      rw [h]
      simp only [TreeG.p, List.map_map, List.map_nil]
      rfl
    rw [sizeTree_p h2]
    have := e f.nodes
    unfold TreeG.size
    simp only [List.length_map, List.length_nil, List.map_nil, List.sum_nil]
    omega
  · have h2 : g.p = (TreeG.mk (.slice none 0 0) (.slice none 0 0) [] []).p := h
    rw [sizeTree_p h2]
    exact Nat.zero_le _
theorem law_StripComments {f : TreeG} {W : World} (hx : f.Rd W) (hf : FineT f) (hM : MaxL W) :
    Calls Try.prog 5 #[.agg f.cells.toArray] W fun e w => e = .returned (.bool true) ∧ Below W.heap.size W w := by
  have H := St.enter W
  have szC : ∀ {w : World}, Below W.heap.size W w → GivesV Try.prog 6 [.agg f.cells.toArray, .int .i64 1048576] w (.int .i64 (szI 1048576 f.size)) := fun hB => laws_szTree (by decide) (by decide) (hx.ext hB) hf.l
  have toC : f.size ≤ 1048576 → ∀ {w : World}, Below W.heap.size W w → Calls Try.prog 8 #[.agg f.cells.toArray] w fun e w' => ∃ g : TreeG, e = .returned (.agg g.cells.toArray) ∧ g.p = f.p ∧ St w.heap.size w w' g.own := fun hz => fun hB => laws_toTree (hx.ext hB) (small_tree hz (by decide))
  obtain ⟨r, hr⟩ : ∃ r, stripT f.p = r := ⟨_, rfl⟩
  have spC : f.size ≤ 1048576 → ∀ {w : World} {g : TreeG}, g.Rd w → g.p = f.p → Calls Try.prog 22 #[.agg g.cells.toArray] w fun e w' => ∃ q : TreeG, e = .returned (.agg q.cells.toArray) ∧ q.p = r ∧ St w.heap.size w w' q.own := fun hz => fun h he => by
    have := spec_StripComments h (treeOK_of he hf hz)
    rw [he, hr] at this; exact this
  have imC : f.size ≤ 1048576 → ∀ {w : World} {g : TreeG}, Below W.heap.size W w → g.Rd w → g.p = f.p → Calls Try.prog 23 #[.agg g.cells.toArray] w fun e w' => ∃ q : TreeG, e = .returned (.agg q.cells.toArray) ∧ q.p = r ∧ St w.heap.size w w' q.own := fun hz => fun hB h he => by
    have := impl_StripComments h (treeOK_of he hf hz) (by rw [sizeTree_p he]; omega) (hM.ext hB)
    rw [he, hr] at this; exact this
  have eqC : f.size ≤ 1048576 → ∀ {w : World} {g g' : TreeG}, g.Rd w → g'.Rd w → g.p = f.p → g'.p = f.p → GivesV Try.prog 10 [.agg g.cells.toArray, .agg g'.cells.toArray] w (.bool true) := fun hz => fun h h' he he' => laws_eqTree h h' (he.trans he'.symm) (small_tree (m := 1048576) (by rw [sizeTree_p he]; omega) (by decide))
  have rsz : ∀ {g : TreeG}, g.p = r → g.size ≤ f.size := fun h => stripT_size (h.trans hr.symm)
  have eqR : f.size ≤ 1048576 → ∀ {w : World} {g g' : TreeG}, g.Rd w → g'.Rd w → g.p = r → g'.p = r → GivesV Try.prog 10 [.agg g.cells.toArray, .agg g'.cells.toArray] w (.bool true) := fun hz => fun h h' he he' => laws_eqTree h h' (he.trans he'.symm) (small_tree (m := 1048576) (by have := rsz he; omega) (by decide))
  clear hr
  obtain ⟨A0, k0, A1, k1, e0, e1⟩ := TreeG.shape hx
  obtain ⟨cs, hcs⟩ : ∃ cs, f.cells = cs := ⟨_, rfl⟩
  obtain rfl : cs = [.slice A0 f.nodes.length k0, .slice A1 f.tail.length k1] := by rw [← hcs]; unfold TreeG.cells; rw [e0, e1]
  rw [hcs] at szC toC ⊢
  show Calls Try.prog 5 #[.agg #[.slice A0 f.nodes.length k0, .slice A1 f.tail.length k1]] W _
  refine calls_of_vcV (args := [.agg #[.slice A0 f.nodes.length k0, .slice A1 f.tail.length k1]]) Try.func5 rfl (by kernel_rfl) (Nat.le_of_ble_eq_true rfl) ?_
  refine newR (o := .cells #[.slice A0 f.nodes.length k0, .slice A1 f.tail.length k1] _) H fun g0 w H => ?_
  refine loadO H 0 rfl rfl ?_
  refine loadO H 0 rfl rfl ?_
  refine callV ok_szTree (szC H.below) H fun w H => ?_
  refine ifB (fun c3 => And.intro rfl H.below) (fun c3 => ?_)
  have hz := szI_okT c3
  refine loadO H 0 rfl rfl ?_
  refine loadO H 0 rfl rfl ?_
  refine CallS.mk ok_toTree ((toC hz H.below).mono ?_)
  rintro _ w1 ⟨g1, rfl, p1, H1⟩
  have H := H.joinL H1 (TreeG.ownAll _)
  refine CallS.mk ok_spec_StripComments ((spC hz (rdTree H (fun it hit => List.mem_append_right _ hit)) p1).mono ?_)
  rintro _ w2 ⟨g2, rfl, p2, H2⟩
  have hone2 := TreeG.one H2
  have H := H.joinL H2 (TreeG.ownAll _)
  have H : St W.heap.size W w2 (.obj g0 (.cells #[.slice A0 f.nodes.length k0, .slice A1 f.tail.length k1] 25) :: g2.own) := H.sel (fun q => by simp only [cntL_append, cntL, List.cons_append, List.nil_append, List.set_cons_zero, List.set_cons_succ, List.flatMap_append, List.flatMap_cons, List.flatMap_nil, It.rowB, It.rowI, It.roB, It.roI]; omega)
  refine newR (o := .cells #[.slice none 0 0, .slice none 0 0] _) H fun g4 w H => ?_
  refine storeO H 0 rfl rfl (hone2 0 _ rfl) fun w H => ?_
  refine storeO H 0 rfl rfl (hone2 1 _ rfl) fun w H => ?_
  have H : St W.heap.size W w (.obj g4 (.cells #[g2.nodesV, g2.tailV] 31) :: .obj g0 (.cells #[.slice A0 f.nodes.length k0, .slice A1 f.tail.length k1] 25) :: g2.own) := H
  refine loadO H 1 rfl rfl ?_
  refine loadO H 1 rfl rfl ?_
  refine CallS.mk ok_toTree ((toC hz H.below).mono ?_)
  rintro _ w3 ⟨g3, rfl, p3, H3⟩
  have hone3 := TreeG.one H3
  have H := H.joinL H3 (TreeG.ownAll _)
  refine newR (o := .cells #[.slice none 0 0, .slice none 0 0] _) H fun g5 w H => ?_
  refine storeO H 0 rfl rfl (hone3 0 _ rfl) fun w H => ?_
  refine storeO H 0 rfl rfl (hone3 1 _ rfl) fun w H => ?_
  have H : St W.heap.size W w (.obj g5 (.cells #[g3.nodesV, g3.tailV] 31) :: .obj g4 (.cells #[g2.nodesV, g2.tailV] 31) :: .obj g0 (.cells #[.slice A0 f.nodes.length k0, .slice A1 f.tail.length k1] 25) :: (g2.own ++ g3.own)) := H
  refine loadO H 0 rfl rfl ?_
  refine loadO H 0 rfl rfl ?_
  refine CallS.mk ok_impl_StripComments ((imC hz H.below (rdTree H (fun it hit => by simp [hit])) p3).mono ?_)
  rintro _ w4 ⟨g6, rfl, p6, H4⟩
  have hone6 := TreeG.one H4
  have H := H.joinL H4 (TreeG.ownAll _)
  refine newR (o := .cells #[.slice none 0 0, .slice none 0 0] _) H fun o6 w H => ?_
  refine storeO H 0 rfl rfl (hone6 0 _ rfl) fun w H => ?_
  refine storeO H 0 rfl rfl (hone6 1 _ rfl) fun w H => ?_
  have H : St W.heap.size W w (.obj o6 (.cells #[g6.nodesV, g6.tailV] 31) :: .obj g5 (.cells #[g3.nodesV, g3.tailV] 31) :: .obj g4 (.cells #[g2.nodesV, g2.tailV] 31) :: .obj g0 (.cells #[.slice A0 f.nodes.length k0, .slice A1 f.tail.length k1] 25) :: ((g2.own ++ g3.own) ++ g6.own)) := H
  refine loadO H 0 rfl rfl ?_
  refine loadO H 0 rfl rfl ?_
  refine loadO H 2 rfl rfl ?_
  refine loadO H 2 rfl rfl ?_
  refine callV ok_eqTree (eqR hz (g := g6) (g' := g2) (rdTree H (fun it hit => by simp [hit])) (rdTree H (fun it hit => by simp [hit])) p6 p2) H fun w H => ?_
  refine ifNot ?_
  refine ifT ?_
  refine regG [2, 3] [2] [0, 1] [0, 1, 2, 3, 4] (by kernel_rfl) ?_
  refine drawR H fun w H => ?_
  refine loadO H 1 rfl rfl ?_
  refine loadO H 1 rfl rfl ?_
  refine loadO H 3 rfl rfl ?_
  refine loadO H 3 rfl rfl ?_
  (refine CallS.mk ok_toTree ((toC hz H.below).mono ?_); rintro _ w5 ⟨g7, rfl, p7, H5⟩; have hB := H5.below; have H := H.joinL H5 (TreeG.ownAll _))
  refine KeepS.mk ⟨HeldW.ofBelow hB, ?_⟩
  refine callV ok_eqTree (eqC hz (g := g3) (g' := g7) (rdTree H (fun it hit => by simp [hit])) (rdTree H (fun it hit => by simp [hit])) p3 p7) H fun w H => ?_
  refine ifNot ?_
  refine ifT ?_
  refine loadO H 1 rfl rfl ?_
  refine loadO H 1 rfl rfl ?_
  have st3 := stepsTree_le g3
  have sz3 := sizeTree_p p3
  have st6 := stepsTree_le g6
  have sz6 := rsz p6
  have H : St W.heap.size W w (g3.own ++ (.obj o6 (.cells #[g6.nodesV, g6.tailV] 31) :: .obj g4 (.cells #[g2.nodesV, g2.tailV] 31) :: .obj g0 (.cells #[.slice A0 f.nodes.length k0, .slice A1 f.tail.length k1] 25) :: (g2.own ++ g6.own))) := H.sel (fun q => by simp only [cntL_append, cntL, List.cons_append, List.nil_append, List.set_cons_zero, List.set_cons_succ, List.flatMap_append, List.flatMap_cons, List.flatMap_nil, It.rowB, It.rowI, It.roB, It.roI]; omega)
  refine CallS.mk ok_markTree ((laws_markTree (by decide) (by omega) H).mono ?_)
  rintro _ w6 ⟨rfl, H⟩
  have en3 := endTree_eq g3 1
  have H : St W.heap.size W w6 (.obj o6 (.cells #[g6.nodesV, g6.tailV] 31) :: .obj g4 (.cells #[g2.nodesV, g2.tailV] 31) :: .obj g0 (.cells #[.slice A0 f.nodes.length k0, .slice A1 f.tail.length k1] 25) :: (g2.own ++ g6.own)) := H.sel (fun q => by simp only [cntL_append, cntL, List.cons_append, List.nil_append, List.set_cons_zero, List.set_cons_succ, List.flatMap_append, List.flatMap_cons, List.flatMap_nil, It.rowB, It.rowI, It.roB, It.roI]; omega)
  refine RegV.mk ?_
  refine gF (fun c1 => ?_) (fun c1 => absurd c1 (by omega))
  refine loadO H 0 rfl rfl ?_
  refine loadO H 0 rfl rfl ?_
  refine loadO H 1 rfl rfl ?_
  refine loadO H 1 rfl rfl ?_
  refine callV ok_eqTree (eqR hz (g := g6) (g' := g2) (rdTree H (fun it hit => by simp [hit])) (rdTree H (fun it hit => by simp [hit])) p6 p2) H fun w H => ?_
  refine ifNot ?_
  refine ifT ?_
  refine loadO H 0 rfl rfl ?_
  refine loadO H 0 rfl rfl ?_
  have H : St W.heap.size W w (g6.own ++ (.obj o6 (.cells #[g6.nodesV, g6.tailV] 31) :: .obj g4 (.cells #[g2.nodesV, g2.tailV] 31) :: .obj g0 (.cells #[.slice A0 f.nodes.length k0, .slice A1 f.tail.length k1] 25) :: g2.own)) := H.sel (fun q => by simp only [cntL_append, cntL, List.cons_append, List.nil_append, List.set_cons_zero, List.set_cons_succ, List.flatMap_append, List.flatMap_cons, List.flatMap_nil, It.rowB, It.rowI, It.roB, It.roI]; omega)
  refine CallS.mk ok_markTree ((laws_markTree (by decide) (by omega) H).mono ?_)
  rintro _ w7 ⟨rfl, H⟩
  have en6 := endTree_eq g6 1
  have hdC : ∀ {w : World}, (markTree1 g6 1).Rd w → GivesV Try.prog 25 [.agg g6.cells.toArray, .int .i64 1] w (.int .i64 (endTree g6 1)) := fun h => laws_heldTree (by decide) (by omega) h
  obtain ⟨mk, hmk⟩ : ∃ m, markTree1 g6 1 = m := ⟨_, rfl⟩
  rw [hmk] at H hdC
  have H : St W.heap.size W w7 (.obj o6 (.cells #[g6.nodesV, g6.tailV] 31) :: .obj g4 (.cells #[g2.nodesV, g2.tailV] 31) :: .obj g0 (.cells #[.slice A0 f.nodes.length k0, .slice A1 f.tail.length k1] 25) :: (g2.own ++ mk.own)) := H.sel (fun q => by simp only [cntL_append, cntL, List.cons_append, List.nil_append, List.set_cons_zero, List.set_cons_succ, List.flatMap_append, List.flatMap_cons, List.flatMap_nil, It.rowB, It.rowI, It.roB, It.roI]; omega)
  refine loadO H 0 rfl rfl ?_
  refine loadO H 0 rfl rfl ?_
  refine callV ok_heldTree (hdC (rdTree H (fun it hit => by simp [hit]))) H fun w H => ?_
  refine ifB (fun c1 => absurd c1 (by omega)) (fun c1 => ?_)
  refine ifB (fun c2 => absurd rfl c2) (fun c2 => ?_)
  refine loadO H 2 rfl rfl ?_
  refine loadO H 2 rfl rfl ?_
  refine CallS.mk ok_toTree ((toC hz H.below).mono ?_)
  rintro _ w8 ⟨g8, rfl, p8, H8⟩
  have H := H.joinL H8 (TreeG.ownAll _)
  refine CallS.mk ok_impl_StripComments ((imC hz H.below (rdTree H (fun it hit => List.mem_append_right _ hit)) p8).mono ?_)
  rintro _ w9 ⟨g9, rfl, p9, H9⟩
  have hone9 := TreeG.one H9
  have H := H.joinL H9 (TreeG.ownAll _)
  refine newR (o := .cells #[.slice none 0 0, .slice none 0 0] _) H fun o9 w H => ?_
  refine storeO H 0 rfl rfl (hone9 0 _ rfl) fun w H => ?_
  refine storeO H 0 rfl rfl (hone9 1 _ rfl) fun w H => ?_
  have H : St W.heap.size W w (.obj o9 (.cells #[g9.nodesV, g9.tailV] 31) :: (((.obj o6 (.cells #[g6.nodesV, g6.tailV] 31) :: .obj g4 (.cells #[g2.nodesV, g2.tailV] 31) :: .obj g0 (.cells #[.slice A0 f.nodes.length k0, .slice A1 f.tail.length k1] 25) :: (g2.own ++ mk.own)) ++ g8.own) ++ g9.own)) := H
  refine loadO H 0 rfl rfl ?_
  refine loadO H 0 rfl rfl ?_
  refine loadO H 2 rfl rfl ?_
  refine loadO H 2 rfl rfl ?_
  refine callV ok_eqTree (eqR hz (g := g9) (g' := g2) (rdTree H (fun it hit => by simp [hit])) (rdTree H (fun it hit => by simp [hit])) p9 p2) H fun w H => ?_
  refine ifNot ?_
  refine ifT ?_
  refine loadO H 1 rfl rfl ?_
  refine loadO H 1 rfl rfl ?_
  refine callV ok_heldTree (hdC (rdTree H (fun it hit => by simp [hit]))) H fun w H => ?_
  refine ifB (fun c1 => absurd c1 (by omega)) (fun c1 => ?_)
  refine ifB (fun c2 => absurd rfl c2) (fun c2 => ?_)
  exact And.intro rfl H.below
end Go.Proofs.YtpaklalfopfilaaE
