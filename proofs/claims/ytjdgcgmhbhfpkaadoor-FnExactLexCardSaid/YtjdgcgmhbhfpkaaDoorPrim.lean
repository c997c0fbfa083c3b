/- Words of this program's own types for the engine: lists of whole numbers and of bytes: appended, made, literal. No condition of the laws stands here. -/
import Derived.Test.YtjdgcgmhbhfpkaaDoorMem
import Derived.Test.YtjdgcgmhbhfpkaaDoorProg
import Derived.Laws.BitsLemmas
import Derived.Laws.Entries
namespace Go.Proofs.YtjdgcgmhbhfpkaaDoorE
open Go Go.RowKit Go.Proofs
set_option linter.unusedVariables false
set_option maxRecDepth 100000

abbrev RdI (w : World) (v : Value) (xs : List Int) : Prop := Rd w v 1 xs.length (xs.map (.int .i64))
abbrev RdB (w : World) (v : Value) (xs : List Int) : Prop := Rd w v 1 xs.length (xs.map (.int .u8))
abbrev OwnI (w : World) (B : Nat) (v : Value) (xs : List Int) : Prop := w.ownsRow B 3 1 v xs.length (xs.map (.int .i64))
abbrev OwnB (w : World) (B : Nat) (v : Value) (xs : List Int) : Prop := w.ownsRow B 5 1 v xs.length (xs.map (.int .u8))
theorem infI : (Tryd.prog.info? 3).map (fun i => (i.zero, i.size, i.bytes)) = some (some (.int .i64 0), 1, 8) := by kernel_rfl
theorem infB : (Tryd.prog.info? 5).map (fun i => (i.zero, i.size, i.bytes)) = some (some (.int .u8 0), 1, 1) := by kernel_rfl
theorem undI : Tryd.prog.underlying 32 = some (.slice 3) := by kernel_rfl
theorem undB : Tryd.prog.underlying 22 = some (.slice 5) := by kernel_rfl
theorem one_int {k : IntKind} {xs : List Int} : ∀ u ∈ xs.map (Value.int k), u.oneCell' = true := by
  intro u hu
  obtain ⟨x, _, rfl⟩ := List.mem_map.1 hu
  rfl
theorem appI {w : World} {v x : Value} {B : Nat} {xs ys : List Int} {ty : TypeId} {K : Value → World → Prop} (hv : OwnI w B v xs) (hx : RdI w x ys) (hm : xs.length + ys.length ≤ 1099511627776) (hB : B ≤ w.heap.size)
    (k : ∀ v' w', OwnI w' B v' (xs ++ ys) → w.grownBy w' v.ownBlock → (v'.ownBlock = v.ownBlock ∨ v'.ownBlock = some w.heap.size) → K v' w') : RunS Tryd.prog (Builtin.append_ #[32, 32] ty #[v, x]) w K := by
  obtain ⟨i0, hi, hz0, hz1, hz2⟩ := infoOf infI
  refine app_run undI hi hz0 hz1 hz2 rfl (by decide) hv hx one_int hm (by decide) hB fun v' w' ho hg hb => k v' w' ?_ hg hb
  simpa [OwnI] using ho
theorem appB {w : World} {v x : Value} {B : Nat} {xs ys : List Int} {ty : TypeId} {K : Value → World → Prop} (hv : OwnB w B v xs) (hx : RdB w x ys) (hm : xs.length + ys.length ≤ 1099511627776) (hB : B ≤ w.heap.size)
    (k : ∀ v' w', OwnB w' B v' (xs ++ ys) → w.grownBy w' v.ownBlock → (v'.ownBlock = v.ownBlock ∨ v'.ownBlock = some w.heap.size) → K v' w') : RunS Tryd.prog (Builtin.append_ #[22, 22] ty #[v, x]) w K := by
  obtain ⟨i0, hi, hz0, hz1, hz2⟩ := infoOf infB
  refine app_run undB hi hz0 hz1 hz2 rfl (by decide) hv hx one_int hm (by decide) hB fun v' w' ho hg hb => k v' w' ?_ hg hb
  simpa [OwnB] using ho
theorem own_new {w : World} {e : TypeId} {k : IntKind} (xs : List Int) (hm : xs.length ≤ 1099511627776) : (w.alloc (.cells (xs.map (Value.int k)).toArray e)).ownsRow w.heap.size e 1 (.slice (some ⟨w.heap.size, 0, none⟩) xs.length xs.length) xs.length (xs.map (.int k)) := by
  refine ⟨by simp, .inr ⟨w.heap.size, xs.length, _, rfl, Nat.le_refl _, heap_alloc_new w _, Nat.le_refl _, by unfold maxLen; omega, by simp, by simp [List.take_of_length_le]⟩⟩
theorem alloc_below (w : World) (o : Obj) : Below w.heap.size w (w.alloc o) := (Below.refl _ _).alloc (Nat.le_refl _) o
theorem bsI1 {w : World} {x : Int} {K : Value → World → Prop} (k : ∀ v w', OwnI w' w.heap.size v [x] → Below w.heap.size w w' → v.ownBlock = some w.heap.size → K v w') : RunS Tryd.prog (Instr.buildSlice 32 1 #[(0, .int .i64 x)]) w K :=
  ⟨_, _, (by kernel_rfl : (Instr.buildSlice 32 1 #[(0, .int .i64 x)]).run Tryd.prog w = .ok (.slice (some ⟨w.heap.size, 0, none⟩) 1 1) (w.alloc (.cells #[.int .i64 x] 3))), k _ _ (own_new [x] (by simp)) (alloc_below _ _) rfl⟩
theorem bsI2 {w : World} {x y : Int} {K : Value → World → Prop} (k : ∀ v w', OwnI w' w.heap.size v [x, y] → Below w.heap.size w w' → v.ownBlock = some w.heap.size → K v w') : RunS Tryd.prog (Instr.buildSlice 32 2 #[(0, .int .i64 x), (1, .int .i64 y)]) w K :=
  ⟨_, _, (by kernel_rfl : (Instr.buildSlice 32 2 #[(0, .int .i64 x), (1, .int .i64 y)]).run Tryd.prog w = .ok (.slice (some ⟨w.heap.size, 0, none⟩) 2 2) (w.alloc (.cells #[.int .i64 x, .int .i64 y] 3))), k _ _ (own_new [x, y] (by simp)) (alloc_below _ _) rfl⟩
theorem bsB1 {w : World} {x : Int} {K : Value → World → Prop} (k : ∀ v w', OwnB w' w.heap.size v [x] → Below w.heap.size w w' → v.ownBlock = some w.heap.size → K v w') : RunS Tryd.prog (Instr.buildSlice 22 1 #[(0, .int .u8 x)]) w K :=
  ⟨_, _, (by kernel_rfl : (Instr.buildSlice 22 1 #[(0, .int .u8 x)]).run Tryd.prog w = .ok (.slice (some ⟨w.heap.size, 0, none⟩) 1 1) (w.alloc (.cells #[.int .u8 x] 5))), k _ _ (own_new [x] (by simp)) (alloc_below _ _) rfl⟩
theorem bsB2 {w : World} {x y : Int} {K : Value → World → Prop} (k : ∀ v w', OwnB w' w.heap.size v [x, y] → Below w.heap.size w w' → v.ownBlock = some w.heap.size → K v w') : RunS Tryd.prog (Instr.buildSlice 22 2 #[(0, .int .u8 x), (1, .int .u8 y)]) w K :=
  ⟨_, _, (by kernel_rfl : (Instr.buildSlice 22 2 #[(0, .int .u8 x), (1, .int .u8 y)]).run Tryd.prog w = .ok (.slice (some ⟨w.heap.size, 0, none⟩) 2 2) (w.alloc (.cells #[.int .u8 x, .int .u8 y] 5))), k _ _ (own_new [x, y] (by simp)) (alloc_below _ _) rfl⟩
theorem bsB3 {w : World} {x y z : Int} {K : Value → World → Prop} (k : ∀ v w', OwnB w' w.heap.size v [x, y, z] → Below w.heap.size w w' → v.ownBlock = some w.heap.size → K v w') : RunS Tryd.prog (Instr.buildSlice 22 3 #[(0, .int .u8 x), (1, .int .u8 y), (2, .int .u8 z)]) w K :=
  ⟨_, _, (by kernel_rfl : (Instr.buildSlice 22 3 #[(0, .int .u8 x), (1, .int .u8 y), (2, .int .u8 z)]).run Tryd.prog w = .ok (.slice (some ⟨w.heap.size, 0, none⟩) 3 3) (w.alloc (.cells #[.int .u8 x, .int .u8 y, .int .u8 z] 5))), k _ _ (own_new [x, y, z] (by simp)) (alloc_below _ _) rfl⟩
theorem bsB4 {w : World} {x y z u : Int} {K : Value → World → Prop} (k : ∀ v w', OwnB w' w.heap.size v [x, y, z, u] → Below w.heap.size w w' → v.ownBlock = some w.heap.size → K v w') : RunS Tryd.prog (Instr.buildSlice 22 4 #[(0, .int .u8 x), (1, .int .u8 y), (2, .int .u8 z), (3, .int .u8 u)]) w K :=
  ⟨_, _, (by kernel_rfl : (Instr.buildSlice 22 4 #[(0, .int .u8 x), (1, .int .u8 y), (2, .int .u8 z), (3, .int .u8 u)]).run Tryd.prog w = .ok (.slice (some ⟨w.heap.size, 0, none⟩) 4 4) (w.alloc (.cells #[.int .u8 x, .int .u8 y, .int .u8 z, .int .u8 u] 5))), k _ _ (own_new [x, y, z, u] (by simp)) (alloc_below _ _) rfl⟩
theorem grown_trans {a b c : World} {row : Option Nat} (h : a.grownBy b row) (k : b.grownBy c row) : a.grownBy c row :=
  ⟨k.os.trans h.os, k.tape.trans h.tape, k.output.trans h.output, Nat.le_trans h.size k.size, fun i hi hr => (k.block i (Nat.lt_of_lt_of_le hi h.size) hr).trans (h.block i hi hr)⟩
theorem contB (x : Int) (h : 0 ≤ x) : bits .or .u8 128 (bits .and .u8 (IntKind.u8.wrap x) 63) = 128 + x % 64 := by
  rw [w8k, u8_and63 _ (by omega) (by omega), u8_or128 _ (by omega) (by omega)]; omega
theorem leadB2 (x : Int) (h : 0 ≤ x) (k : x < 32) : bits .or .u8 192 (IntKind.u8.wrap x) = 192 + x := by rw [w8k, u8_or192 _ (by omega) (by omega)]; omega
theorem leadB3 (x : Int) (h : 0 ≤ x) (k : x < 16) : bits .or .u8 224 (IntKind.u8.wrap x) = 224 + x := by rw [w8k, u8_or224 _ (by omega) (by omega)]; omega
theorem leadB4 (x : Int) (h : 0 ≤ x) (k : x < 8) : bits .or .u8 240 (IntKind.u8.wrap x) = 240 + x := by rw [w8k, u8_or240 _ (by omega) (by omega)]; omega
theorem made_zero {k : IntKind} (n : Nat) : (madeCells (Value.int k 0).cells n).toList = (List.replicate n (0 : Int)).map (Value.int k) := by
  apply List.ext_getElem
  · simp [madeCells]
  · intro i h1 h2
    simp [madeCells, Value.cells, Nat.mod_one]
theorem msI {w : World} {n : Nat} {K : Value → World → Prop} (hn : n ≤ 4294967296) (k : ∀ v w', OwnI w' w.heap.size v (List.replicate n 0) → Below w.heap.size w w' → K v w') : RunS Tryd.prog (Instr.makeSlice 32 (.int .i64 n) (.int .i64 n)) w K := by
  obtain ⟨i0, hi, hz0, hz1, hz2⟩ := infoOf infI
  have hr := run_make (P := Tryd.prog) w 32 3 i0 _ undI hi hz0 .i64 .i64 n n (by omega) (by omega) (by rw [hz2]; omega) (by omega)
  refine ⟨_, _, hr, ?_⟩
  have ho : (w.alloc (.cells (madeCells (Value.int .i64 0).cells n) 3)).ownsRow w.heap.size 3 1 (.slice (some ⟨w.heap.size, 0, none⟩) n n) n ((List.replicate n (0 : Int)).map (Value.int .i64)) :=
    ⟨by simp, .inr ⟨w.heap.size, n, _, rfl, Nat.le_refl _, heap_alloc_new w _, Nat.le_refl _, by unfold maxLen; omega, by simp [madeCells], by rw [made_zero]; simp⟩⟩
  have hk := k (.slice (some ⟨w.heap.size, 0, none⟩) n n) _ (by simpa [OwnI] using ho) (alloc_below _ _)
  simpa [hz1] using hk
theorem msB {w : World} {n : Nat} {K : Value → World → Prop} (hn : n ≤ 4294967296) (k : ∀ v w', OwnB w' w.heap.size v (List.replicate n 0) → Below w.heap.size w w' → K v w') : RunS Tryd.prog (Instr.makeSlice 22 (.int .i64 n) (.int .i64 n)) w K := by
  obtain ⟨i0, hi, hz0, hz1, hz2⟩ := infoOf infB
  have hr := run_make (P := Tryd.prog) w 22 5 i0 _ undB hi hz0 .i64 .i64 n n (by omega) (by omega) (by rw [hz2]; omega) (by omega)
  refine ⟨_, _, hr, ?_⟩
  have ho : (w.alloc (.cells (madeCells (Value.int .u8 0).cells n) 5)).ownsRow w.heap.size 5 1 (.slice (some ⟨w.heap.size, 0, none⟩) n n) n ((List.replicate n (0 : Int)).map (Value.int .u8)) :=
    ⟨by simp, .inr ⟨w.heap.size, n, _, rfl, Nat.le_refl _, heap_alloc_new w _, Nat.le_refl _, by unfold maxLen; omega, by simp [madeCells], by rw [made_zero]; simp⟩⟩
  have hk := k (.slice (some ⟨w.heap.size, 0, none⟩) n n) _ (by simpa [OwnB] using ho) (alloc_below _ _)
  simpa [hz1] using hk
end Go.Proofs.YtjdgcgmhbhfpkaaDoorE
