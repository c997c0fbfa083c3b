/- What a law's arguments hold, opened: rows of whole numbers, of structs, of rows. No condition of the laws stands here. -/
import Derived.Test.YtjdgcgmhbhfpkaaDoorLexQ4
import Derived.WalkKit
import Derived.ProofKit
import Derived.OpenShut
import Derived.ChangeOld
import Derived.SizedLaws
import Derived.Deep.Strs
namespace Go.Proofs.YtjdgcgmhbhfpkaaDoorE
open Go Go.RowKit Go.ChangeShapes Go.WideShapes Go.ChangeAt
set_option linter.unusedVariables false
set_option maxRecDepth 100000

theorem one_of (l : List Value) (h : l.length = 1) : ∃ u, l = [u] := by
  match l, h with
  | [u], _ => exact ⟨u, rfl⟩
section
variable {H : Type} {enc : TypeId × Value → H} {P : Program} {W : World} {sp : Nat → Bool} {held : Bool} {fuel : Nat}
theorem cells_of {a : Addr} {n : Nat} {r : List Value} (h : W.cells? 0 a n = some r) : r.length = n ∧ ∀ k, k < n → W.cell? (a.add k) = r[k]? := by
  unfold World.cells? at h
  rw [if_pos (Nat.zero_le _)] at h
  exact ⟨by simpa using mapM_some_length h, fun k hk => mapM_some_get h k k (by simp [hk])⟩
theorem open_rows {t e : TypeId} {sz : Nat} (ht : P.underlying t = some (.slice e)) (hsz : P.cellsOf e = sz) (hpos : 0 < sz) {v : Value} {x : DataW H × List MemPlace} (h : DataW.trod enc P W 0 sp held fuel t [v] = some x) :
    ∃ A n c, v = .slice A n c ∧ n ≤ c ∧ c ≤ maxLen ∧ ∃ rows : List (List Value), rows.length = n ∧ (∀ r ∈ rows, r.length = sz ∧ ∃ m y, DataW.trod enc P W 0 sp held m e r = some y) ∧ Rd W v sz n rows.flatten := by
  rcases DataW.trod_slice ht h with ⟨hcs, _⟩ | ⟨a, len, cap, elems, rest, m, _, hcs, _, _, hl, hm, hlen, hel, _⟩
  · simp only [List.cons.injEq, and_true] at hcs
    subst hcs
    exact ⟨none, 0, 0, rfl, Nat.le_refl _, by unfold maxLen; omega, [], rfl, by simp, ⟨by simp, none, 0, rfl, Nat.le_refl _, .inl rfl⟩⟩
  · simp only [List.cons.injEq, and_true] at hcs
    subst hcs
    rw [hsz] at hel
    have key : ∀ i, i < len → ∃ r, W.cells? 0 (a.add (i * sz)) sz = some r ∧ ∃ y, DataW.trod enc P W 0 sp held m e r = some y := fun i hi => by
      have h1 := hel i hi
      rw [List.getElem?_eq_getElem (by omega)] at h1
      obtain ⟨r, h2, h3⟩ := Option.bind_eq_some_iff.1 h1
      exact ⟨r, h2, _, h3⟩
    let rows : List (List Value) := (List.range len).map fun i => (W.cells? 0 (a.add (i * sz)) sz).getD []
    have hrow : ∀ i, i < len → ∃ r, rows[i]? = some r ∧ W.cells? 0 (a.add (i * sz)) sz = some r ∧ ∃ y, DataW.trod enc P W 0 sp held m e r = some y := fun i hi => by
      obtain ⟨r, h1, h2⟩ := key i hi
      exact ⟨r, by simp [rows, hi, h1], h1, h2⟩
    have hall : ∀ r ∈ rows, r.length = sz ∧ ∃ m y, DataW.trod enc P W 0 sp held m e r = some y := fun r hr => by
      obtain ⟨i, hi, he⟩ := List.getElem_of_mem hr
      have hi' : i < len := by simpa [rows] using hi
      obtain ⟨r', h1, h2, y, h3⟩ := hrow i hi'
      rw [List.getElem?_eq_getElem hi, he] at h1
      cases h1
      exact ⟨(cells_of h2).1, m, y, h3⟩
    have hrl : rows.length = len := by simp [rows]
    refine ⟨some a, len, cap, rfl, hl, hm, rows, hrl, hall, ?_⟩
    have hfl : rows.flatten.length = len * sz := by
      rw [← List.flatMap_id, show rows.flatMap id = rows.flatMap (fun r => r) from rfl]
      have : ∀ l : List (List Value), (∀ r ∈ l, r.length = sz) → (l.flatMap fun r => r).length = l.length * sz := fun l => by
        induction l with
        | nil => simp
        | cons r l ih => intro h; rw [List.flatMap_cons, List.length_append, h r (by simp), ih fun r' hr' => h r' (by simp [hr']), List.length_cons, Nat.succ_mul, Nat.add_comm]
      rw [this rows fun r hr => (hall r hr).1, hrl]
    refine ⟨hfl, some a, cap, rfl, hl, ?_⟩
    by_cases h0 : len = 0
    · exact .inl h0
    · right
      have hget : ∀ (l : List (List Value)) (i k : Nat) (r : List Value), (∀ r ∈ l, r.length = sz) → l[i]? = some r → k < sz → l.flatten[i * sz + k]? = r[k]? := fun l => by
        induction l with
        | nil => intro i k r _ h; simp at h
        | cons q l ih =>
          intro i k r hs hr hk
          cases i with
          | zero =>
            simp only [List.getElem?_cons_zero, Option.some.injEq] at hr
            subst hr
            rw [List.flatten_cons, Nat.zero_mul, Nat.zero_add, List.getElem?_append_left (by rw [hs q (by simp)]; exact hk)]
          | succ i =>
            rw [List.getElem?_cons_succ] at hr
            have e : (i + 1) * sz + k = sz + (i * sz + k) := by rw [Nat.succ_mul]; omega
            rw [List.flatten_cons, List.getElem?_append_right (by rw [hs q (by simp)]; omega), hs q (by simp), e, Nat.add_sub_cancel_left]
            exact ih i k r (fun r' hr' => hs r' (by simp [hr'])) hr hk
      have hcell : ∀ j, j < len * sz → W.cell? ((a.add (j / sz * sz)).add (j % sz)) = rows.flatten[j]? := fun j hj => by
        have hi : j / sz < len := Nat.div_lt_of_lt_mul (by rw [Nat.mul_comm]; exact hj)
        have hk : j % sz < sz := Nat.mod_lt _ hpos
        obtain ⟨r, h1, h2, _⟩ := hrow _ hi
        rw [(cells_of h2).2 _ hk, ← hget rows _ _ r (fun r hr => (hall r hr).1) h1 hk]
        congr 1
        rw [Nat.mul_comm]; exact Nat.div_add_mod j sz
      obtain ⟨b, off, spot⟩ := a
      have hs0 : spot = none := by
        have h := hcell 0 (Nat.mul_pos (by omega) hpos)
        rw [Nat.zero_div, Nat.zero_mul, Nat.zero_mod] at h
        have e : ∀ a : Addr, a.add 0 = a := fun a => by simp [Addr.add]
        rw [e, e, List.getElem?_eq_getElem (by rw [hfl]; exact Nat.mul_pos (by omega) hpos)] at h
        cases spot with
        | none => rfl
        | some s => simp only [World.cell?, Option.isSome_some, if_true] at h; split at h <;> cases h
      subst hs0
      refine ⟨b, off, rfl, fun j hj => ?_⟩
      rw [hfl] at hj
      have h := hcell j hj
      rw [Go.Proofs.YtjdgcgmhbhfpkaaDoorE.add_plain, Go.Proofs.YtjdgcgmhbhfpkaaDoorE.add_plain, Nat.add_assoc, Nat.mul_comm (j / sz) sz, Nat.div_add_mod] at h
      exact h
/-- a row of whole numbers -/
theorem open_nums {t e : TypeId} {k : IntKind} (ht : P.underlying t = some (.slice e)) (he : P.underlying e = some (.int k)) (hc : P.cellsOf e = 1) {v : Value} {x : DataW H × List MemPlace} (h : DataW.trod enc P W 0 sp held fuel t [v] = some x) :
    ∃ A n c, v = .slice A n c ∧ n ≤ c ∧ c ≤ maxLen ∧ ∃ zs : List Int, zs.length = n ∧ Rd W v 1 n (zs.map (.int k)) ∧ ∀ z ∈ zs, (Lit.int k z).wf = true := by
  obtain ⟨A, n, c, rfl, h1, h2, rows, h3, h4, h5⟩ := open_rows ht hc (by decide) h
  have key : ∀ l : List (List Value), (∀ r ∈ l, r.length = 1 ∧ ∃ m y, DataW.trod enc P W 0 sp held m e r = some y) → ∃ zs : List Int, zs.length = l.length ∧ l.flatten = zs.map (.int k) ∧ ∀ z ∈ zs, (Lit.int k z).wf = true := fun l => by
    induction l with
    | nil => intro _; exact ⟨[], rfl, rfl, by simp⟩
    | cons r l ih =>
      intro hl
      obtain ⟨zs, q1, q2, q3⟩ := ih fun r' hr' => hl r' (by simp [hr'])
      obtain ⟨hr1, m, y, hy⟩ := hl r (by simp)
      match r, hr1, hy with
      | [u], _, hy =>
        cases m with
        | zero => cases hy
        | succ m =>
          unfold DataW.trod at hy
          rw [he] at hy
          cases u with
          | int k' z =>
            simp only [Option.ite_none_right_eq_some] at hy
            obtain ⟨⟨rfl, hw⟩, _⟩ := hy
            exact ⟨z :: zs, by simp [q1], by simp [q2], fun z' hz' => by rcases List.mem_cons.1 hz' with rfl | hz'; exact hw; exact q3 z' hz'⟩
          | _ => simp at hy
  obtain ⟨zs, q1, q2, q3⟩ := key rows h4
  exact ⟨A, n, c, rfl, h1, h2, zs, by omega, q2 ▸ h5, q3⟩
def fieldsOf (P : Program) (t : TypeId) : Option (List (TypeId × Nat)) :=
  match P.underlying t with
  | some (.struct fs) => some (fs.toList.map fun f => (f.type, f.offset))
  | _ => none
theorem open_struct {t : TypeId} {l : List (TypeId × Nat)} (hl : fieldsOf P t = some l) {cs : List Value} {x : DataW H × List MemPlace} (h : DataW.trod enc P W 0 sp held fuel t cs = some x) :
    cs.length = P.cellsOf t ∧ ∀ (i : Nat) (p : TypeId × Nat), l[i]? = some p → ∃ m y, DataW.trod enc P W 0 sp held m p.1 ((cs.drop p.2).take (P.cellsOf p.1)) = some y := by
  unfold fieldsOf at hl
  split at hl
  · rename_i fs hu
    simp only [Option.some.injEq] at hl
    subst hl
    obtain ⟨xs, n, _, _, h1, h2, h3⟩ := DataW.trod_struct hu h
    refine ⟨h1, fun i p hp => ?_⟩
    simp only [List.getElem?_map, Option.map_eq_some_iff] at hp
    obtain ⟨f, hf, rfl⟩ := hp
    have hf' : fs[i]? = some f := by simpa using hf
    have hi : i < xs.length := by rw [h2]; exact (Array.getElem?_eq_some_iff.1 hf').1
    exact ⟨n, xs[i], by rw [h3 i f hf', List.getElem?_eq_getElem hi]⟩
  · cases hl
theorem okWide_agg {r : Reach} {base : Nat} {t : TypeId} {v : Value} {l : List (TypeId × Nat)} (hl : fieldsOf P t = some l) (h : Value.okWide P W r base t v) : ∃ cs, v = .agg cs := by
  unfold fieldsOf at hl
  split at hl
  · rename_i fs hu
    obtain ⟨cs, hv, _⟩ := okWide_struct hu h
    exact ⟨cs, hv⟩
  · cases hl
theorem open_one {e : TypeId} {k : IntKind} (he : P.underlying e = some (.int k)) {v : Value} {x : DataW H × List MemPlace} (h : DataW.trod enc P W 0 sp held fuel e [v] = some x) : ∃ z, v = .int k z ∧ (Lit.int k z).wf = true := by
  cases fuel with
  | zero => cases h
  | succ m =>
    unfold DataW.trod at h
    rw [he] at h
    cases v with
    | int k' z =>
      simp only [Option.ite_none_right_eq_some] at h
      obtain ⟨⟨rfl, hw⟩, _⟩ := h
      exact ⟨z, rfl, hw⟩
    | _ => simp at h
end
theorem wf_u8 {z : Int} (h : (Lit.int .u8 z).wf = true) : 0 ≤ z ∧ z < 256 := by have := bounds_u8 h; omega
theorem wf_i64 {z : Int} (h : (Lit.int .i64 z).wf = true) : -9223372036854775808 ≤ z ∧ z ≤ 9223372036854775807 := by have := bounds_i64 h; omega
end Go.Proofs.YtjdgcgmhbhfpkaaDoorE
