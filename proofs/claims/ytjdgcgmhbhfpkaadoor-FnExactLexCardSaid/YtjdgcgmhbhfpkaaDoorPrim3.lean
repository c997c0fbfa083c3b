/- Strings appended to rows of bytes; longer literals. No condition of the laws stands here. -/
import Derived.Test.YtjdgcgmhbhfpkaaDoorPrim2
import Derived.Lib.AppendStr
namespace Go.Proofs.YtjdgcgmhbhfpkaaDoorE
open Go Go.RowKit Go.Proofs Go.Lib
set_option linter.unusedVariables false
set_option maxRecDepth 100000

theorem strCells_nums {ys : List Int} (hb : byteOK ys) : strCells (strOfNums ys) = ys.map (Value.int .u8) := by
  have h : ∀ ys : List Int, byteOK ys → (ys.map fun x => Value.int .u8 ((UInt8.ofNat x.toNat).toNat : Int)) = ys.map (Value.int .u8) := by
    intro ys
    induction ys with
    | nil => intro _; rfl
    | cons x r ih =>
      intro h
      obtain ⟨hx, hr⟩ := h.cons
      rw [List.map_cons, List.map_cons, ih hr]
      congr 2
      rw [UInt8.toNat_ofNat']
      omega
  rw [← h ys hb]
  simp [strCells, strOfNums]
theorem undS : Tryd.prog.underlying 9 = some .string := by kernel_rfl
section
variable {B : Nat} {W0 w : World} {L : List It}
theorem appSS {v : Value} {xs ys : List Int} {s : ByteArray} {ty : TypeId} {K : Value → World → Prop} (H : St B W0 w L) (i : Nat) (hi : L[i]? = some (.rowB v xs)) (hs : s = strOfNums ys) (hb : byteOK ys) (hm : xs.length + ys.length ≤ 1099511627776)
    (k : ∀ v' w', St B W0 w' (L.set i (.rowB v' (xs ++ ys))) → K v' w') : RunS Tryd.prog (Builtin.append_ #[22, 9] ty #[v, .string s]) w K := by
  subst hs
  obtain ⟨i0, hi0, hz0, hz1, hz2⟩ := infoOf infB
  have ho := H.own i hi
  have hsz : (strOfNums ys).size = ys.length := strOfNums_size ys
  have h63 : xs.length + (strOfNums ys).size ≤ maxLen := by rw [hsz]; unfold maxLen; omega
  obtain ⟨v', w', hr, ho', hg, _⟩ := run_append_own_string (P := Tryd.prog) w B 22 9 ty 5 i0 undB undS hi0 hz0 hz1 hz2 v xs.length _ ho (strOfNums ys) h63 (by rw [hsz]; omega) H.size
  refine ⟨v', w', hr, k v' w' ?_⟩
  have hrow : w'.ownsRow B 5 1 v' (xs ++ ys).length ((xs ++ ys).map (.int .u8)) := by
    rw [List.length_append, List.map_append, ← strCells_nums hb, ← hsz]; exact ho'
  refine H.turn i hi hg hrow fun g hgb => ?_
  have hgb : v'.ownBlock = some g := hgb
  rcases ho.2 with ⟨rfl, hx0⟩ | ⟨g0, cap, cur, rfl, hbg, hg0, hnc, hcm, hcs, htake⟩
  · right
    have hx : xs = [] := List.eq_nil_of_length_eq_zero hx0
    subst hx
    obtain ⟨v2, w2, hr2, ho2, _⟩ := run_append_own_string (P := Tryd.prog) w w.heap.size 22 9 ty 5 i0 undB undS hi0 hz0 hz1 hz2 (.slice none 0 0) 0 [] (World.ownsRow_nil _ _ _ _) (strOfNums ys) (by simpa using h63) (by rw [hsz]; omega) (Nat.le_refl _)
    rw [hr] at hr2
    cases hr2
    exact (World.ownsRow.lt ho2 g hgb).1
  · by_cases hroom : xs.length + (strOfNums ys).size ≤ cap
    · left
      have hr2 := run_append_room_string (P := Tryd.prog) w 22 9 ty 5 i0 undB undS hi0 hz1 g0 xs.length cap cur hg0 (strOfNums ys) hroom (by omega)
      rw [hr] at hr2
      cases hr2
      exact hgb
    · right
      have holds : ∀ j u, (xs.map (Value.int .u8))[j]? = some u → w.cell? ((⟨g0, 0, none⟩ : Addr).add j) = some u := World.ownsRow.cells (g := g0) ho rfl
      have hr2 := run_append_grow_string (P := Tryd.prog) w 22 9 ty 5 i0 (.int .u8 0) undB undS hi0 hz0 ⟨g0, 0, none⟩ xs.length cap (xs.map (.int .u8)) (by rw [hz1]; simp) holds (strOfNums ys) (by omega) (by unfold maxLen at h63; omega) (by rw [hz2]; exact growslice_fits (by unfold maxLen at h63; omega) (by rw [hsz]; omega))
      rw [hr] at hr2
      cases hr2
      cases hgb
      exact Nat.le_refl _
theorem litB6 {a b c d x y : Int} {K : Value → World → Prop} (H : St B W0 w L) (k : ∀ v w', St B W0 w' (.rowB v [a, b, c, d, x, y] :: L) → K v w') : RunS Tryd.prog (Instr.buildSlice 22 6 #[(0, .int .u8 a), (1, .int .u8 b), (2, .int .u8 c), (3, .int .u8 d), (4, .int .u8 x), (5, .int .u8 y)]) w K :=
  litB (xs := [a, b, c, d, x, y]) H (by simp) (by kernel_rfl) k
end
end Go.Proofs.YtjdgcgmhbhfpkaaDoorE
