/- What a law's arguments hold, opened: rows of whole numbers, of structs, of rows. No condition of the laws stands here. -/
import Derived.Test.YtpaklalfopfilaaStripCommentsQ2
import Derived.Test.YtpaklalfopfilaaNest
import Derived.Test.YtpaklalfopfilaaTFine
import Derived.WalkKit
import Derived.ProofKit
import Derived.OpenShut
import Derived.ChangeOld
import Derived.SizedLaws
import Derived.Deep.Strs
namespace Go.Proofs.YtpaklalfopfilaaE
open Go Go.RowKit Go.ChangeShapes Go.WideShapes Go.ChangeAt
set_option linter.unusedVariables false
set_option maxRecDepth 100000

theorem one_of (l : List Value) (h : l.length = 1) : ∃ u, l = [u] := by
  match l, h with
  | [u], _ => exact ⟨u, rfl⟩
section
variable {H : Type} {enc : TypeId × Value → H} {P : Program} {W : World} {sp : Nat → Bool} {held : Bool} {fuel : Nat}
theorem cells_of {a : Addr} {n : Nat} {r : List Value} (h : W.cells? 0 a n = some r) : r.length = n ∧ ∀ k, k < n → W.cell? (a.add k) = r[k]? := by
  unfold World.cells? at h
  rw [if_pos (Nat.zero_le _)] at h
  exact ⟨by simpa using mapM_some_length h, fun k hk => mapM_some_get h k k (by simp [hk])⟩
theorem open_rows {t e : TypeId} {sz : Nat} (ht : P.underlying t = some (.slice e)) (hsz : P.cellsOf e = sz) (hpos : 0 < sz) {v : Value} {x : DataW H × List MemPlace} (h : DataW.trod enc P W 0 sp held fuel t [v] = some x) :
    ∃ A n c, v = .slice A n c ∧ n ≤ c ∧ c ≤ maxLen ∧ ∃ rows : List (List Value), rows.length = n ∧ (∀ r ∈ rows, r.length = sz ∧ ∃ m y, DataW.trod enc P W 0 sp held m e r = some y) ∧ Rd W v sz n rows.flatten := by
  rcases DataW.trod_slice ht h with ⟨hcs, _⟩ | ⟨a, len, cap, elems, rest, m, _, hcs, _, _, hl, hm, hlen, hel, _⟩
  · simp only [List.cons.injEq, and_true] at hcs
    subst hcs
    exact ⟨none, 0, 0, rfl, Nat.le_refl _, by unfold maxLen; omega, [], rfl, by simp, ⟨by simp, none, 0, rfl, Nat.le_refl _, .inl rfl⟩⟩
  · simp only [List.cons.injEq, and_true] at hcs
    subst hcs
    rw [hsz] at hel
    have key : ∀ i, i < len → ∃ r, W.cells? 0 (a.add (i * sz)) sz = some r ∧ ∃ y, DataW.trod enc P W 0 sp held m e r = some y := fun i hi => by
      have h1 := hel i hi
      rw [List.getElem?_eq_getElem (by omega)] at h1
      obtain ⟨r, h2, h3⟩ := Option.bind_eq_some_iff.1 h1
      exact ⟨r, h2, _, h3⟩
    let rows : List (List Value) := (List.range len).map fun i => (W.cells? 0 (a.add (i * sz)) sz).getD []
    have hrow : ∀ i, i < len → ∃ r, rows[i]? = some r ∧ W.cells? 0 (a.add (i * sz)) sz = some r ∧ ∃ y, DataW.trod enc P W 0 sp held m e r = some y := fun i hi => by
      obtain ⟨r, h1, h2⟩ := key i hi
      exact ⟨r, by simp [rows, hi, h1], h1, h2⟩
    have hall : ∀ r ∈ rows, r.length = sz ∧ ∃ m y, DataW.trod enc P W 0 sp held m e r = some y := fun r hr => by
      obtain ⟨i, hi, he⟩ := List.getElem_of_mem hr
      have hi' : i < len := by simpa [rows] using hi
      obtain ⟨r', h1, h2, y, h3⟩ := hrow i hi'
      rw [List.getElem?_eq_getElem hi, he] at h1
      cases h1
      exact ⟨(cells_of h2).1, m, y, h3⟩
    have hrl : rows.length = len := by simp [rows]
    refine ⟨some a, len, cap, rfl, hl, hm, rows, hrl, hall, ?_⟩
    have hfl : rows.flatten.length = len * sz := by
      rw [← List.flatMap_id, show rows.flatMap id = rows.flatMap (fun r => r) from rfl]
      have : ∀ l : List (List Value), (∀ r ∈ l, r.length = sz) → (l.flatMap fun r => r).length = l.length * sz := fun l => by
        induction l with
        | nil => simp
        | cons r l ih => intro h; rw [List.flatMap_cons, List.length_append, h r (by simp), ih fun r' hr' => h r' (by simp [hr']), List.length_cons, Nat.succ_mul, Nat.add_comm]
      rw [this rows fun r hr => (hall r hr).1, hrl]
    refine ⟨hfl, some a, cap, rfl, hl, ?_⟩
    by_cases h0 : len = 0
    · exact .inl h0
    · right
      have hget : ∀ (l : List (List Value)) (i k : Nat) (r : List Value), (∀ r ∈ l, r.length = sz) → l[i]? = some r → k < sz → l.flatten[i * sz + k]? = r[k]? := fun l => by
        induction l with
        | nil => intro i k r _ h; simp at h
        | cons q l ih =>
          intro i k r hs hr hk
          cases i with
          | zero =>
            simp only [List.getElem?_cons_zero, Option.some.injEq] at hr
            subst hr
            rw [List.flatten_cons, Nat.zero_mul, Nat.zero_add, List.getElem?_append_left (by rw [hs q (by simp)]; exact hk)]
          | succ i =>
            rw [List.getElem?_cons_succ] at hr
            have e : (i + 1) * sz + k = sz + (i * sz + k) := by rw [Nat.succ_mul]; omega
            rw [List.flatten_cons, List.getElem?_append_right (by rw [hs q (by simp)]; omega), hs q (by simp), e, Nat.add_sub_cancel_left]
            exact ih i k r (fun r' hr' => hs r' (by simp [hr'])) hr hk
      have hcell : ∀ j, j < len * sz → W.cell? ((a.add (j / sz * sz)).add (j % sz)) = rows.flatten[j]? := fun j hj => by
        have hi : j / sz < len := Nat.div_lt_of_lt_mul (by rw [Nat.mul_comm]; exact hj)
        have hk : j % sz < sz := Nat.mod_lt _ hpos
        obtain ⟨r, h1, h2, _⟩ := hrow _ hi
        rw [(cells_of h2).2 _ hk, ← hget rows _ _ r (fun r hr => (hall r hr).1) h1 hk]
        congr 1
        rw [Nat.mul_comm]; exact Nat.div_add_mod j sz
      obtain ⟨b, off, spot⟩ := a
      have hs0 : spot = none := by
        have h := hcell 0 (Nat.mul_pos (by omega) hpos)
        rw [Nat.zero_div, Nat.zero_mul, Nat.zero_mod] at h
        have e : ∀ a : Addr, a.add 0 = a := fun a => by simp [Addr.add]
        rw [e, e, List.getElem?_eq_getElem (by rw [hfl]; exact Nat.mul_pos (by omega) hpos)] at h
        cases spot with
        | none => rfl
        | some s => simp only [World.cell?, Option.isSome_some, if_true] at h; split at h <;> cases h
      subst hs0
      refine ⟨b, off, rfl, fun j hj => ?_⟩
      rw [hfl] at hj
      have h := hcell j hj
      rw [Go.Proofs.YtpaklalfopfilaaE.add_plain, Go.Proofs.YtpaklalfopfilaaE.add_plain, Nat.add_assoc, Nat.mul_comm (j / sz) sz, Nat.div_add_mod] at h
      exact h
/-- a row of whole numbers -/
theorem open_nums {t e : TypeId} {k : IntKind} (ht : P.underlying t = some (.slice e)) (he : P.underlying e = some (.int k)) (hc : P.cellsOf e = 1) {v : Value} {x : DataW H × List MemPlace} (h : DataW.trod enc P W 0 sp held fuel t [v] = some x) :
    ∃ A n c, v = .slice A n c ∧ n ≤ c ∧ c ≤ maxLen ∧ ∃ zs : List Int, zs.length = n ∧ Rd W v 1 n (zs.map (.int k)) ∧ ∀ z ∈ zs, (Lit.int k z).wf = true := by
  obtain ⟨A, n, c, rfl, h1, h2, rows, h3, h4, h5⟩ := open_rows ht hc (by decide) h
  have key : ∀ l : List (List Value), (∀ r ∈ l, r.length = 1 ∧ ∃ m y, DataW.trod enc P W 0 sp held m e r = some y) → ∃ zs : List Int, zs.length = l.length ∧ l.flatten = zs.map (.int k) ∧ ∀ z ∈ zs, (Lit.int k z).wf = true := fun l => by
    induction l with
    | nil => intro _; exact ⟨[], rfl, rfl, by simp⟩
    | cons r l ih =>
      intro hl
      obtain ⟨zs, q1, q2, q3⟩ := ih fun r' hr' => hl r' (by simp [hr'])
      obtain ⟨hr1, m, y, hy⟩ := hl r (by simp)
      match r, hr1, hy with
      | [u], _, hy =>
        cases m with
        | zero => cases hy
        | succ m =>
          unfold DataW.trod at hy
          rw [he] at hy
          cases u with
          | int k' z =>
            simp only [Option.ite_none_right_eq_some] at hy
            obtain ⟨⟨rfl, hw⟩, _⟩ := hy
            exact ⟨z :: zs, by simp [q1], by simp [q2], fun z' hz' => by rcases List.mem_cons.1 hz' with rfl | hz'; exact hw; exact q3 z' hz'⟩
          | _ => simp at hy
  obtain ⟨zs, q1, q2, q3⟩ := key rows h4
  exact ⟨A, n, c, rfl, h1, h2, zs, by omega, q2 ▸ h5, q3⟩
def fieldsOf (P : Program) (t : TypeId) : Option (List (TypeId × Nat)) :=
  match P.underlying t with
  | some (.struct fs) => some (fs.toList.map fun f => (f.type, f.offset))
  | _ => none
theorem open_struct {t : TypeId} {l : List (TypeId × Nat)} (hl : fieldsOf P t = some l) {cs : List Value} {x : DataW H × List MemPlace} (h : DataW.trod enc P W 0 sp held fuel t cs = some x) :
    cs.length = P.cellsOf t ∧ ∀ (i : Nat) (p : TypeId × Nat), l[i]? = some p → ∃ m y, DataW.trod enc P W 0 sp held m p.1 ((cs.drop p.2).take (P.cellsOf p.1)) = some y := by
  unfold fieldsOf at hl
  split at hl
  · rename_i fs hu
    simp only [Option.some.injEq] at hl
    subst hl
    obtain ⟨xs, n, _, _, h1, h2, h3⟩ := DataW.trod_struct hu h
    refine ⟨h1, fun i p hp => ?_⟩
    simp only [List.getElem?_map, Option.map_eq_some_iff] at hp
    obtain ⟨f, hf, rfl⟩ := hp
    have hf' : fs[i]? = some f := by simpa using hf
    have hi : i < xs.length := by rw [h2]; exact (Array.getElem?_eq_some_iff.1 hf').1
    exact ⟨n, xs[i], by rw [h3 i f hf', List.getElem?_eq_getElem hi]⟩
  · cases hl
theorem okWide_agg {r : Reach} {base : Nat} {t : TypeId} {v : Value} {l : List (TypeId × Nat)} (hl : fieldsOf P t = some l) (h : Value.okWide P W r base t v) : ∃ cs, v = .agg cs := by
  unfold fieldsOf at hl
  split at hl
  · rename_i fs hu
    obtain ⟨cs, hv, _⟩ := okWide_struct hu h
    exact ⟨cs, hv⟩
  · cases hl
theorem open_one {e : TypeId} {k : IntKind} (he : P.underlying e = some (.int k)) {v : Value} {x : DataW H × List MemPlace} (h : DataW.trod enc P W 0 sp held fuel e [v] = some x) : ∃ z, v = .int k z ∧ (Lit.int k z).wf = true := by
  cases fuel with
  | zero => cases h
  | succ m =>
    unfold DataW.trod at h
    rw [he] at h
    cases v with
    | int k' z =>
      simp only [Option.ite_none_right_eq_some] at h
      obtain ⟨⟨rfl, hw⟩, _⟩ := h
      exact ⟨z, rfl, hw⟩
    | _ => simp at h
end
theorem wf_u8 {z : Int} (h : (Lit.int .u8 z).wf = true) : 0 ≤ z ∧ z < 256 := by have := bounds_u8 h; omega
theorem wf_i64 {z : Int} (h : (Lit.int .i64 z).wf = true) : -9223372036854775808 ≤ z ∧ z ≤ 9223372036854775807 := by have := bounds_i64 h; omega
end Go.Proofs.YtpaklalfopfilaaE
/- A law's tree, opened: its nodes and comments. -/
namespace Go.Proofs.YtpaklalfopfilaaE
open Go Go.RowKit Go.ChangeShapes Go.WideShapes Go.ChangeAt
set_option linter.unusedVariables false
set_option linter.unusedSimpArgs false
set_option maxRecDepth 100000

theorem open_truth {H : Type} {enc : TypeId × Value → H} {P : Program} {W : World} {sp : Nat → Bool} {held : Bool} {fuel : Nat} {e : TypeId} (he : P.underlying e = some .bool) {v : Value} {x : DataW H × List MemPlace} (h : DataW.trod enc P W 0 sp held fuel e [v] = some x) : ∃ b, v = .bool b := by
  cases fuel with
  | zero => cases h
  | succ m =>
    unfold DataW.trod at h
    rw [he] at h
    cases v with
    | bool b => exact ⟨b, rfl⟩
    | _ => simp at h
theorem fldComment : fieldsOf Try.prog 118 = some [(4, 0), (35, 1)] := by kernel_rfl
theorem fldNode : fieldsOf Try.prog 116 = some [(3, 0), (23, 1), (4, 2), (39, 3), (35, 4), (39, 5), (3, 6), (23, 7)] := by kernel_rfl
theorem fldTree : fieldsOf Try.prog 25 = some [(22, 0), (23, 1)] := by kernel_rfl
theorem undLCs : Try.prog.underlying 23 = some (.slice 118) := by kernel_rfl
theorem undLNs : Try.prog.underlying 22 = some (.slice 116) := by kernel_rfl
theorem undInt : Try.prog.underlying 3 = some (.int .i64) := by kernel_rfl
section
variable {H : Type} {enc : TypeId × Value → H} {W : World} {sp : Nat → Bool} {held : Bool} {fuel : Nat}
theorem open_bytesT {v : Value} {x : DataW H × List MemPlace} (h : DataW.trod enc Try.prog W 0 sp held fuel 35 [v] = some x) : ∃ zs : List Int, RdB W v zs ∧ byteOK zs ∧ zs.length ≤ 9223372036854775807 := by
  obtain ⟨A, n, c, rfl, h1, h2, zs, h3, h4, h5⟩ := open_nums undB (by kernel_rfl : Try.prog.underlying 5 = some (.int .u8)) (by kernel_rfl) h
  subst h3
  unfold maxLen at h2
  exact ⟨zs, h4, fun z hz => wf_u8 (h5 z hz), by omega⟩
theorem open_intsT {v : Value} {x : DataW H × List MemPlace} (h : DataW.trod enc Try.prog W 0 sp held fuel 39 [v] = some x) : ∃ zs : List Int, RdI W v zs ∧ (∀ z ∈ zs, -9223372036854775808 ≤ z ∧ z ≤ 9223372036854775807) ∧ zs.length ≤ 9223372036854775807 := by
  obtain ⟨A, n, c, rfl, h1, h2, zs, h3, h4, h5⟩ := open_nums undI undInt (by kernel_rfl) h
  subst h3
  unfold maxLen at h2
  exact ⟨zs, h4, fun z hz => wf_i64 (h5 z hz), by omega⟩
theorem open_comment {r : List Value} {x : DataW H × List MemPlace} (hr : r.length = 2) (h : DataW.trod enc Try.prog W 0 sp held fuel 118 r = some x) : ∃ f : CommentG, r = f.cells ∧ f.Rd W ∧ FineC f := by
  match r, hr with
  | [a, b], _ =>
    obtain ⟨_, hf⟩ := open_struct fldComment h
    obtain ⟨m0, y0, h0⟩ := hf 0 _ rfl
    obtain ⟨m1, y1, h1⟩ := hf 1 _ rfl
    have h0 : DataW.trod enc Try.prog W 0 sp held m0 4 [a] = some y0 := h0
    have h1 : DataW.trod enc Try.prog W 0 sp held m1 35 [b] = some y1 := h1
    obtain ⟨k, rfl⟩ := open_truth (by kernel_rfl : Try.prog.underlying 4 = some .bool) h0
    obtain ⟨tx, p1, p2, p3⟩ := open_bytesT h1
    exact ⟨⟨b, k, tx⟩, rfl, p1, ⟨p3⟩, p2⟩
theorem open_list {α : Type} {cells : α → List Value} {Q : α → Prop} {t : TypeId} (l : List (List Value)) (step : ∀ r ∈ l, ∃ f, r = cells f ∧ Q f) : ∃ fs : List α, l.flatten = fs.flatMap cells ∧ fs.length = l.length ∧ ∀ f ∈ fs, Q f := by
  induction l with
  | nil => exact ⟨[], rfl, rfl, by simp⟩
  | cons r l ih =>
    obtain ⟨fs, q1, q2, q3⟩ := ih fun r' hr' => step r' (by simp [hr'])
    obtain ⟨f, rfl, hf⟩ := step r (by simp)
    exact ⟨f :: fs, by simp [q1], by simp [q2], fun g hg => by rcases List.mem_cons.1 hg with rfl | hg; exact hf; exact q3 g hg⟩
theorem open_comments {v : Value} {x : DataW H × List MemPlace} (h : DataW.trod enc Try.prog W 0 sp held fuel 23 [v] = some x) :
    ∃ fs : List CommentG, RdComment W v fs.length fs ∧ fs.length ≤ 9223372036854775807 ∧ ∀ f ∈ fs, FineC f := by
  obtain ⟨A, n, c, rfl, h1, h2, rows, h3, h4, h5⟩ := open_rows (sz := 2) undLCs (by kernel_rfl) (by decide) h
  obtain ⟨fs, q1, q2, q3⟩ := open_list (cells := CommentG.cells) (Q := fun f => f.Rd W ∧ FineC f) (t := 0) rows fun r hr => by
    obtain ⟨hr1, m, y, hy⟩ := h4 r hr
    obtain ⟨f, e, a, b⟩ := open_comment hr1 hy
    exact ⟨f, e, a, b⟩
  unfold maxLen at h2
  obtain rfl : n = fs.length := by omega
  exact ⟨fs, ⟨q1 ▸ h5, fun f hf => (q3 f hf).1⟩, by omega, fun f hf => (q3 f hf).2⟩
theorem open_node {r : List Value} {x : DataW H × List MemPlace} (hr : r.length = 8) (h : DataW.trod enc Try.prog W 0 sp held fuel 116 r = some x) : ∃ f : NodeG, r = f.cells ∧ f.Rd W ∧ FineN f := by
  match r, hr with
  | [a0, a1, a2, a3, a4, a5, a6, a7], _ =>
    obtain ⟨_, hf⟩ := open_struct fldNode h
    obtain ⟨m0, y0, h0⟩ := hf 0 _ rfl
    obtain ⟨m1, y1, h1⟩ := hf 1 _ rfl
    obtain ⟨m2, y2, h2⟩ := hf 2 _ rfl
    obtain ⟨m3, y3, h3⟩ := hf 3 _ rfl
    obtain ⟨m4, y4, h4⟩ := hf 4 _ rfl
    obtain ⟨m5, y5, h5⟩ := hf 5 _ rfl
    obtain ⟨m6, y6, h6⟩ := hf 6 _ rfl
    obtain ⟨m7, y7, h7⟩ := hf 7 _ rfl
    have h0 : DataW.trod enc Try.prog W 0 sp held m0 3 [a0] = some y0 := h0
    have h1 : DataW.trod enc Try.prog W 0 sp held m1 23 [a1] = some y1 := h1
    have h2 : DataW.trod enc Try.prog W 0 sp held m2 4 [a2] = some y2 := h2
    have h3 : DataW.trod enc Try.prog W 0 sp held m3 39 [a3] = some y3 := h3
    have h4 : DataW.trod enc Try.prog W 0 sp held m4 35 [a4] = some y4 := h4
    have h5 : DataW.trod enc Try.prog W 0 sp held m5 39 [a5] = some y5 := h5
    have h6 : DataW.trod enc Try.prog W 0 sp held m6 3 [a6] = some y6 := h6
    have h7 : DataW.trod enc Try.prog W 0 sp held m7 23 [a7] = some y7 := h7
    obtain ⟨kind, rfl, hk⟩ := open_one undInt h0
    obtain ⟨lead, l1, l2, l3⟩ := open_comments h1
    obtain ⟨member, rfl⟩ := open_truth (by kernel_rfl : Try.prog.underlying 4 = some .bool) h2
    obtain ⟨key, i1, i2, i3⟩ := open_intsT h3
    obtain ⟨text, b1, b2, b3⟩ := open_bytesT h4
    obtain ⟨units, u1, u2, u3⟩ := open_intsT h5
    obtain ⟨count, rfl, hc⟩ := open_one undInt h6
    obtain ⟨tail, t1, t2, t3⟩ := open_comments h7
    exact ⟨⟨a1, a3, a4, a5, a7, kind, lead, member, key, text, units, count, tail⟩, rfl, ⟨l1, i1, b1, u1, t1⟩, ⟨⟨l2, fun g hg => (l3 g hg).l, i3, b3, u3, t2, fun g hg => (t3 g hg).l⟩, b2, l3, t3, wf_i64 hk, wf_i64 hc⟩⟩
theorem open_nodes {v : Value} {x : DataW H × List MemPlace} (h : DataW.trod enc Try.prog W 0 sp held fuel 22 [v] = some x) :
    ∃ fs : List NodeG, RdNode W v fs.length fs ∧ fs.length ≤ 9223372036854775807 ∧ ∀ f ∈ fs, FineN f := by
  obtain ⟨A, n, c, rfl, h1, h2, rows, h3, h4, h5⟩ := open_rows (sz := 8) undLNs (by kernel_rfl) (by decide) h
  obtain ⟨fs, q1, q2, q3⟩ := open_list (cells := NodeG.cells) (Q := fun f => f.Rd W ∧ FineN f) (t := 0) rows fun r hr => by
    obtain ⟨hr1, m, y, hy⟩ := h4 r hr
    obtain ⟨f, e, a, b⟩ := open_node hr1 hy
    exact ⟨f, e, a, b⟩
  unfold maxLen at h2
  obtain rfl : n = fs.length := by omega
  exact ⟨fs, ⟨q1 ▸ h5, fun f hf => (q3 f hf).1⟩, by omega, fun f hf => (q3 f hf).2⟩
theorem two_of (l : List Value) (h : l.length = 2) : ∃ u v, l = [u, v] := by
  match l, h with
  | [u, v], _ => exact ⟨u, v, rfl⟩
theorem open_tree {r : List Value} {x : DataW H × List MemPlace} (h : DataW.trod enc Try.prog W 0 sp held fuel 25 r = some x) : ∃ f : TreeG, r = f.cells ∧ f.Rd W ∧ FineT f := by
  obtain ⟨hl, hf⟩ := open_struct fldTree h
  rw [(by kernel_rfl : Try.prog.cellsOf 25 = 2)] at hl
  obtain ⟨a, b, rfl⟩ := two_of r hl
  obtain ⟨m0, y0, h0⟩ := hf 0 _ rfl
  obtain ⟨m1, y1, h1⟩ := hf 1 _ rfl
  have h0 : DataW.trod enc Try.prog W 0 sp held m0 22 [a] = some y0 := h0
  have h1 : DataW.trod enc Try.prog W 0 sp held m1 23 [b] = some y1 := h1
  obtain ⟨ns, n1, n2, n3⟩ := open_nodes h0
  obtain ⟨ts, t1, t2, t3⟩ := open_comments h1
  exact ⟨⟨a, b, ns, ts⟩, rfl, ⟨n1, t1⟩, ⟨⟨n2, fun g hg => (n3 g hg).l, t2, fun g hg => (t3 g hg).l⟩, n3, t3⟩⟩
end
end Go.Proofs.YtpaklalfopfilaaE
