/- slices.Delete and slices.Insert over files. -/
import Derived.Test.YtfhpgfbakimmhaaTRow
import Derived.Test.YtfhpgfbakimmhaaEngT
import Derived.Test.YtfhpgfbakimmhaaTChg
namespace Go.Proofs.YtfhpgfbakimmhaaE
open Go Go.RowKit
set_option linter.unusedVariables false
set_option maxRecDepth 100000
set_option maxHeartbeats 2000000

theorem cells_one (gs : List FileG) (h : ∀ g ∈ gs, g.nv.oneCell' = true ∧ g.dv.oneCell' = true) : ∀ u ∈ gs.flatMap FileG.cells, u.oneCell' = true := by
  intro u hu
  obtain ⟨g, hg, hu⟩ := List.mem_flatMap.1 hu
  have := h g hg
  simp only [FileG.cells, List.mem_cons, List.not_mem_nil, or_false] at hu
  rcases hu with rfl | rfl | rfl
  · exact this.1
  · exact this.2
  · rfl
theorem addr0 {A : Option Addr} {c sz : Nat} : (if c = 0 then A else A.map (·.add (0 * sz))) = A := by
  split
  · rfl
  · cases A with
    | none => rfl
    | some a => simp [add_zero]
theorem flat_take {α : Type} {cells : α → List Value} {sz : Nat} (hs : ∀ x, (cells x).length = sz) : ∀ (xs : List α) (i : Nat), (xs.flatMap cells).take (i * sz) = (xs.take i).flatMap cells
  | [], i => by simp
  | x :: xs, 0 => by simp
  | x :: xs, i + 1 => by rw [List.flatMap_cons, List.take_succ_cons, List.flatMap_cons, Nat.succ_mul, Nat.add_comm, ← hs x, List.take_length_add_append, hs x, flat_take hs xs i]
theorem flat_drop {α : Type} {cells : α → List Value} {sz : Nat} (hs : ∀ x, (cells x).length = sz) : ∀ (xs : List α) (i : Nat), (xs.flatMap cells).drop (i * sz) = (xs.drop i).flatMap cells
  | [], i => by simp
  | x :: xs, 0 => by simp
  | x :: xs, i + 1 => by rw [List.flatMap_cons, List.drop_succ_cons, Nat.succ_mul, Nat.add_comm, ← hs x, List.drop_length_add_append, hs x, flat_drop hs xs i]
theorem zero_one {z : Array Value} (h : ∀ u ∈ z, u.oneCell' = true) (k : Nat) : ∀ u ∈ (Builtin.zeroCells z k).toList, u.oneCell' = true := by
  intro u hu
  by_cases hz : z.size = 0
  · simp [Builtin.zeroCells, hz] at hu
  simp only [Builtin.zeroCells, Array.toList_map, List.mem_map] at hu
  obtain ⟨q, _, rfl⟩ := hu
  have hq : q % z.size < z.size := Nat.mod_lt _ (by omega)
  exact h _ (by simp [hq])
theorem fileZ (k : Nat) : ∀ u ∈ (Builtin.zeroCells (Value.agg #[.slice none 0 0, .slice none 0 0, .int .i64 0]).cells k).toList, u.oneCell' = true := zero_one (by intro u hu; simp only [Value.cells] at hu; simp at hu; rcases hu with rfl | rfl <;> rfl) k
theorem ok_del : callOK Try.prog 111 = true := by kernel_rfl
theorem slices_Delete {gs : List FileG} {A : Option Addr} {n c i : Nat} {B : Nat} {W0 w : World} {L : List It} (H : St B W0 w (.rowF (.slice A n c) n gs :: L)) (hn : n = gs.length) (hl : n ≤ 4294967296) (hi : i < n) (h1 : ∀ g ∈ gs, g.nv.oneCell' = true ∧ g.dv.oneCell' = true) :
    Calls Try.prog 111 #[.slice A n c, .int .i64 i, .int .i64 (i + 1)] w fun e w' => e = .returned (.slice A (n - 1) c) ∧ St B W0 w' (.rowF (.slice A (n - 1) c) (n - 1) (gs.eraseIdx i) :: L) := by
  refine calls_of_vcV (args := [.slice A n c, .int .i64 i, .int .i64 (i + 1)]) Try.func111 rfl (by kernel_rfl) (Nat.le_of_ble_eq_true rfl) ?_
  have hcap := (own_rd (H.own 0 rfl)).cap
  refine slice3 (sz := 3) (l := i) (h := i + 1) (m := n) undFiles (by kernel_rfl) rfl (by omega) rfl (by omega) (by omega) (own_rd (H.own 0 rfl)).cap fun A' => ?_
  refine ifB (fun c1 => absurd c1 (by omega)) (fun c1 => ?_)
  refine drawR H fun w H => ?_
  refine CutS.any (sz := 3) (l := 0) (h := i) rfl rfl (by omega) (by omega) fun A1 hA1 => ?_
  refine CutS.own (sz := 3) (l := i + 1) (h := n) H 0 rfl (by show ((i : Int) + 1) = _; omega) rfl (by omega) (by omega) fun A2 hA2 hx => ?_
  rw [List.take_of_length_le (by rw [flat_len FileG.cells_len, hn]; exact Nat.le_refl _), flat_drop FileG.cells_len] at hx
  refine appCut undFiles infFile H 0 rfl hx (fun u hu => cells_one gs h1 u (by obtain ⟨g, hg, hu⟩ := List.mem_flatMap.1 hu; exact List.mem_flatMap.2 ⟨g, List.mem_of_mem_drop hg, hu⟩)) (by omega) (by omega) (hA1.trans addr0) fun w H => ?_
  have H : St B W0 w (.rowF (.slice A (n - 1) c) (n - 1) (gs.eraseIdx i) :: L) := by
    have e1 : i + (n - (i + 1)) = n - 1 := by omega
    have e2 : (gs.flatMap FileG.cells).take (i * 3) ++ (gs.drop (i + 1)).flatMap FileG.cells = (gs.eraseIdx i).flatMap FileG.cells := by
      rw [flat_take FileG.cells_len, List.eraseIdx_eq_take_drop_succ, List.flatMap_append]
    have H2 : St B W0 w (.row (.slice A (i + (n - (i + 1))) c) 69 3 (i + (n - (i + 1))) ((gs.flatMap FileG.cells).take (i * 3) ++ (gs.drop (i + 1)).flatMap FileG.cells) :: L) := H
    rw [e1, e2] at H2
    exact H2
  refine CutS.any (sz := 3) (l := n - 1) (h := n) (by show ((i + (n - (i + 1)) : Nat) : Int) = _; omega) rfl (by omega) (by omega) fun A3 hA3 => ?_
  refine clearOwn (d := n - 1) undFiles infFile rfl (fileZ _) H 0 rfl (by omega) (by omega) ?_ fun w H => ?_
  · rw [hA3]; split
    · left; omega
    · exact .inr rfl
  exact And.intro (congrArg (fun k => Ending.returned (Value.slice A k c)) (show i + (n - (i + 1)) = n - 1 by omega)) H
theorem ins_grow (P Z F D : List Value) (h : Z.length = F.length + D.length) : seg (seg (P ++ Z) P.length F) (P.length + F.length) D = P ++ F ++ D := by
  have e : P ++ Z = P ++ Z.take F.length ++ Z.drop F.length := by rw [List.append_assoc, List.take_append_drop]
  rw [e, seg_mid P (Z.take F.length) (Z.drop F.length) F (by rw [List.length_take]; omega)]
  have := seg_mid (P ++ F) (Z.drop F.length) [] D (by rw [List.length_drop]; omega)
  simpa using this
theorem ins_room (P D T F : List Value) (h : T.length = F.length) : seg (seg (P ++ D ++ T) (P.length + F.length) D) P.length F = P ++ F ++ D := by
  have e : P ++ D ++ T = (P ++ (D ++ T).take F.length) ++ (D ++ T).drop F.length ++ [] := by rw [List.append_nil, List.append_assoc, List.append_assoc, List.take_append_drop]
  have l1 : (P ++ (D ++ T).take F.length).length = P.length + F.length := by rw [List.length_append, List.length_take, List.length_append]; omega
  have := seg_mid (P ++ (D ++ T).take F.length) ((D ++ T).drop F.length) [] D (by rw [List.length_drop, List.length_append]; omega)
  rw [l1] at this
  rw [e, this, List.append_nil, seg_mid P ((D ++ T).take F.length) D F (by rw [List.length_take, List.length_append]; omega)]
theorem ov_apart {A A3 Av : Option Addr} {n nv c cv lb cb o : Nat} {cs ds : List Value} {B : Nat} {W0 w : World} {L : List It} (H : St B W0 w (.row (.slice Av nv cv) 69 3 nv cs :: .row (.slice A n c) 69 3 n ds :: L)) (hv : 0 < cv) (hc : 0 < c) (hA : A3 = A.map (·.add o)) :
    (callFunc 131 #[.slice Av nv cv, .slice A3 lb cb]).run Try.prog w = .ok (.value (.bool false)) w := by
  obtain ⟨a, rfl, sa, fa⟩ := own_shape (H.own 0 rfl) hv
  obtain ⟨b, rfl, sb, fb⟩ := own_shape (H.own 1 rfl) hc
  have hne : a ≠ b := fun e => (H.apart 0 1 _ _ (by decide) rfl rfl).1 a rfl (by rw [e]; rfl)
  subst hA
  rw [Option.map_some, add_plain, Nat.zero_add]
  rw [run_callFunc_extern (e := Extern.SlicesOverlaps.overlaps #[27, 27] #[4]) Try.func131 (by kernel_rfl) (by kernel_rfl) (by kernel_rfl) (by kernel_rfl),
    Lib.run_overlaps_apart w 27 4 69 undFiles 3 (fun w => by kernel_rfl) ⟨a, 0, none⟩ ⟨b, o, none⟩ nv cv lb cb hne _ _ _ _ sa sb (by omega) (fa _) (fa _)]
  rfl
theorem St.sub2 {B : Nat} {W0 w : World} {a b c : It} {L : List It} (H : St B W0 w (a :: b :: c :: L)) : St B W0 w (a :: L) := H.sublist (((List.sublist_cons_self c L).cons b).cons_cons a)
theorem ok_ins : callOK Try.prog 112 = true := by kernel_rfl
theorem slices_Insert {gs : List FileG} {f : FileG} {A Av : Option Addr} {n c cv i : Nat} {B : Nat} {W0 w : World} {L : List It} (H : St B W0 w (.rowF (.slice Av 1 cv) 1 [f] :: .rowF (.slice A n c) n gs :: L)) (hn : n = gs.length) (hl : n ≤ 4294967296) (hi : i ≤ n) (h1 : ∀ g ∈ gs, g.nv.oneCell' = true ∧ g.dv.oneCell' = true) (h2 : f.nv.oneCell' = true ∧ f.dv.oneCell' = true) :
    Calls Try.prog 112 #[.slice A n c, .int .i64 i, .slice Av 1 cv] w fun e w' => ∃ A' c', e = .returned (.slice A' (n + 1) c') ∧ St B W0 w' (.rowF (.slice A' (n + 1) c') (n + 1) (gs.take i ++ f :: gs.drop i) :: L) := by
  have hcap := (own_rd (H.own 1 rfl)).cap
  have hcv := (own_rd (H.own 0 rfl)).cap
  refine calls_of_vcV (args := [.slice A n c, .int .i64 i, .slice Av 1 cv]) Try.func112 rfl (by kernel_rfl) (Nat.le_of_ble_eq_true rfl) ?_
  have hf1 : f.cells.all Value.oneCell' = true := by simp [FileG.cells, h2.1, h2.2]; rfl
  refine CutS.any (sz := 3) (l := i) (h := n) rfl rfl (by omega) (by omega) fun A1 hA1 => ?_
  refine ifB (fun c1 => absurd c1 (by omega)) (fun c1 => ?_)
  refine ifB (fun c2 => ?_) (fun c2 => ?_)
  · refine appF f H 1 rfl (H.rd 0 rfl) hf1 (by omega) fun A7 k7 w H => ?_
    have e1 : gs.take i ++ f :: gs.drop i = gs ++ [f] := by rw [List.take_of_length_le (by omega), List.drop_of_length_le (by omega)]
    rw [e1]
    exact Exists.intro A7 (Exists.intro k7 (And.intro rfl H.tl))
  · refine arN (by omega) ?_
    refine capS undFiles ?_
    refine ifB (fun c0 => ?_) (fun c0 => ?_)
    · refine CutS.any (sz := 3) (l := 0) (h := i) rfl rfl (by omega) (by omega) fun A2 hA2 => ?_
      refine arN (by omega) ?_
      refine ar64 (by omega) (by omega) ?_
      refine appZeros (k := n + 1 - i) undFiles (by kernel_rfl : Try.prog.underlying 3 = some (.int .i64)) infFile rfl (by decide) (by decide) H (H.rd 1 rfl) (by omega) (by omega) (by omega) (by omega) (by omega) (hA2.trans addr0) fun A3 k3 Z w hZ H => ?_
      have hc3 := (own_rd (H.own 0 rfl)).cap
      refine CutS.own (sz := 3) (l := i) (h := i + (n + 1 - i)) H 0 rfl rfl rfl (by omega) (by omega) fun A4 hA4 hx4 => ?_
      refine copyOwn (d := i) (k := 1) undFiles (by kernel_rfl) H 0 rfl (H.rd 1 rfl) (fun u hu => List.all_eq_true.1 hf1 u (List.mem_of_mem_take hu)) (Nat.min_eq_left (by omega)) (by omega) (.inr (by rw [hA4, if_neg (by omega)])) fun w H => ?_
      refine drawR H fun w H => ?_
      refine arN (by omega) ?_
      refine CutS.own (sz := 3) (l := i + 1) (h := i + (n + 1 - i)) H 0 rfl rfl rfl (by omega) (by omega) fun A5 hA5 hx5 => ?_
      refine CutS.own (sz := 3) (l := i) (h := n) H 2 rfl rfl rfl (by omega) (by omega) fun A6 hA6 hx6 => ?_
      have ed : ((gs.flatMap FileG.cells).take (n * 3)).drop (i * 3) = (gs.drop i).flatMap FileG.cells := by
        rw [List.take_of_length_le (by rw [flat_len FileG.cells_len, hn]; exact Nat.le_refl _), flat_drop FileG.cells_len]
      rw [ed] at hx6
      refine copyOwn (d := i + 1) (k := n - i) undFiles (by kernel_rfl) H 0 rfl hx6 (fun u hu => cells_one gs h1 u (by obtain ⟨g, hg, hu⟩ := List.mem_flatMap.1 (List.mem_of_mem_take hu); exact List.mem_flatMap.2 ⟨g, List.mem_of_mem_drop hg, hu⟩)) (Nat.min_eq_left (by omega)) (by omega) (by by_cases hki : k3 = i + 1; exact .inl (by omega); exact .inr (by rw [hA5, if_neg hki])) fun w H => ?_
      have H2 : St B W0 w (.row (.slice A3 (i + (n + 1 - i)) k3) 69 3 (i + (n + 1 - i)) (seg (seg ((gs.flatMap FileG.cells).take (i * 3) ++ Z) (i * 3) f.cells) ((i + 1) * 3) (((gs.drop i).flatMap FileG.cells).take ((n - i) * 3))) :: .rowF (.slice Av 1 cv) 1 [f] :: .rowF (.slice A n c) n gs :: L) := H
      have lP : ((gs.take i).flatMap FileG.cells).length = i * 3 := by rw [flat_len FileG.cells_len, List.length_take]; omega
      have lD : ((gs.drop i).flatMap FileG.cells).length = (n - i) * 3 := by rw [flat_len FileG.cells_len, List.length_drop, hn]
      have eq := ins_grow ((gs.take i).flatMap FileG.cells) Z f.cells ((gs.drop i).flatMap FileG.cells) (by rw [hZ, lD, FileG.cells_len]; omega)
      rw [lP, FileG.cells_len] at eq
      rw [flat_take FileG.cells_len, List.take_of_length_le (l := (gs.drop i).flatMap FileG.cells) (by omega), show (i + 1) * 3 = i * 3 + 3 by omega, eq, show i + (n + 1 - i) = n + 1 by omega] at H2
      refine Exists.intro A3 (Exists.intro k3 (And.intro (congrArg (fun k => Ending.returned (Value.slice A3 k k3)) (show i + (n + 1 - i) = n + 1 by omega)) ?_))
      have e2 : (gs.take i ++ f :: gs.drop i).flatMap FileG.cells = (gs.take i).flatMap FileG.cells ++ f.cells ++ (gs.drop i).flatMap FileG.cells := by simp
      unfold It.rowF; rw [e2]
      exact H2.sub2
    · refine arN (by omega) ?_
      refine CutS.more (sz := 3) H 1 rfl rfl (h := n + 1) rfl (by omega) (by omega) (by omega) fun T hT H => ?_
      have H : St B W0 w (.rowF (.slice Av 1 cv) 1 [f] :: .row (.slice A (n + 1) c) 69 3 (n + 1) (gs.flatMap FileG.cells ++ T) :: L) := H
      refine arN (by omega) ?_
      refine CutS.own (sz := 3) (l := i + 1) (h := n + 1) H 1 rfl rfl rfl (by omega) (by omega) fun A4 hA4 hx4 => ?_
      refine CallS.ext (ov_apart (o := (i + 1) * 3) H (by omega) (by omega) (by rw [hA4, if_neg (by omega)])) ?_
      refine ifNot ?_
      refine ifF ?_
      refine drawR H fun w H => ?_
      refine arN (by omega) ?_
      refine CutS.own (sz := 3) (l := i + 1) (h := n + 1) H 1 rfl rfl rfl (by omega) (by omega) fun A5 hA5 hx5 => ?_
      refine CutS.own (sz := 3) (l := i) (h := n + 1) H 1 rfl rfl rfl (by omega) (by omega) fun A6 hA6 hx6 => ?_
      have lD : ((gs.drop i).flatMap FileG.cells).length = (n - i) * 3 := by rw [flat_len FileG.cells_len, List.length_drop, hn]
      have ed : ((gs.flatMap FileG.cells ++ T).take ((n + 1) * 3)).drop (i * 3) = (gs.drop i).flatMap FileG.cells ++ T := by
        rw [List.take_of_length_le (by rw [List.length_append, flat_len FileG.cells_len, hT, hn]; omega), List.drop_append_of_le_length (by rw [flat_len FileG.cells_len]; omega), flat_drop FileG.cells_len]
      rw [ed] at hx6
      have et : ((gs.drop i).flatMap FileG.cells ++ T).take ((n - i) * 3) = (gs.drop i).flatMap FileG.cells := by rw [← lD, List.take_left]
      refine copyOwn (d := i + 1) (k := n - i) undFiles (by kernel_rfl) H 1 rfl hx6 (fun u hu => cells_one gs h1 u (by rw [et] at hu; obtain ⟨g, hg, hu⟩ := List.mem_flatMap.1 hu; exact List.mem_flatMap.2 ⟨g, List.mem_of_mem_drop hg, hu⟩)) ((Nat.min_eq_right (by omega)).trans (by omega)) (by omega) (.inr (by rw [hA5, if_neg (by omega)])) fun w H => ?_
      refine CutS.own (sz := 3) (l := i) (h := n + 1) H 1 rfl rfl rfl (by omega) (by omega) fun A7 hA7 hx7 => ?_
      refine copyOwn (d := i) (k := 1) undFiles (by kernel_rfl) H 1 rfl (H.rd 0 rfl) (fun u hu => List.all_eq_true.1 hf1 u (List.mem_of_mem_take hu)) (Nat.min_eq_left (by omega)) (by omega) (.inr (by rw [hA7, if_neg (by omega)])) fun w H => ?_
      have H2 : St B W0 w (.rowF (.slice Av 1 cv) 1 [f] :: .row (.slice A (n + 1) c) 69 3 (n + 1) (seg (seg (gs.flatMap FileG.cells ++ T) ((i + 1) * 3) (((gs.drop i).flatMap FileG.cells ++ T).take ((n - i) * 3))) (i * 3) f.cells) :: L) := H
      have lP : ((gs.take i).flatMap FileG.cells).length = i * 3 := by rw [flat_len FileG.cells_len, List.length_take]; omega
      have eq := ins_room ((gs.take i).flatMap FileG.cells) ((gs.drop i).flatMap FileG.cells) T f.cells (by rw [hT, FileG.cells_len]; omega)
      rw [lP, FileG.cells_len, ← List.flatMap_append, List.take_append_drop] at eq
      rw [et, show (i + 1) * 3 = i * 3 + 3 by omega, eq] at H2
      refine Exists.intro A (Exists.intro c (And.intro rfl ?_))
      have e2 : (gs.take i ++ f :: gs.drop i).flatMap FileG.cells = (gs.take i).flatMap FileG.cells ++ f.cells ++ (gs.drop i).flatMap FileG.cells := by simp
      unfold It.rowF; rw [e2]
      exact H2.tl
end Go.Proofs.YtfhpgfbakimmhaaE
