/- The program's stack of documents, in plain lists. No program stands here. -/
import Derived.Test.YtfhpgfbakimmhaaPLoc
namespace Go.Proofs.YtfhpgfbakimmhaaE
set_option linter.unusedVariables false

def nvals (st : List Ent) : List Int := (st.map fun e => e.d.nestD).reverse
theorem nvals_len (st : List Ent) : (nvals st).length = st.length := by simp [nvals]
def maxL (xs : List Int) : Int := xs.foldl (fun a b => if a < b then b else a) 0
theorem maxL_snoc (xs : List Int) (x : Int) : maxL (xs ++ [x]) = if maxL xs < x then x else maxL xs := by unfold maxL; rw [List.foldl_append]; rfl
theorem nvals_drop0 (st : List Ent) : (nvals st).drop st.length = [] := by rw [← nvals_len st, List.drop_length]
theorem nvals_drop1 (e : Ent) (r : List Ent) : (nvals (e :: r)).drop r.length = [e.d.nestD] := by
  have : (r.map fun e => e.d.nestD).reverse.length = r.length := by simp
  simp only [nvals, List.map_cons, List.reverse_cons]
  rw [List.drop_append_of_le_length (by omega), ← this, List.drop_length]; rfl
theorem nvals_drop2 (e f : Ent) (r : List Ent) : (nvals (e :: f :: r)).drop r.length = [f.d.nestD, e.d.nestD] := by
  have : (r.map fun e => e.d.nestD).reverse.length = r.length := by simp
  simp only [nvals, List.map_cons, List.reverse_cons, List.append_assoc]
  rw [List.drop_append_of_le_length (by omega), ← this, List.drop_length]; rfl
theorem nvals_take (a : List Ent) (r : List Ent) : (nvals (a ++ r)).take r.length = nvals r := by
  simp [nvals]
theorem nvals_cons (e : Ent) (r : List Ent) : nvals (e :: r) = nvals r ++ [e.d.nestD] := by simp [nvals]
end Go.Proofs.YtfhpgfbakimmhaaE
