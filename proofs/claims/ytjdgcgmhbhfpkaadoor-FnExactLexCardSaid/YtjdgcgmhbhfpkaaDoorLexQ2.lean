/- Own rows: parts written over, cleared, made longer, copied. No condition of the laws stands here. -/
import Derived.Test.YtjdgcgmhbhfpkaaDoorLexQ1
import Derived.Test.YtjdgcgmhbhfpkaaDoorEngG
import Derived.Test.YtjdgcgmhbhfpkaaDoorPLex
import Derived.Test.YtjdgcgmhbhfpkaaDoorTScan3
import Derived.Lib.AppendZerosOnto
import Derived.Lib.Overlaps
import Derived.Laws.CopyRow
namespace Go.Proofs.YtjdgcgmhbhfpkaaDoorE
open Go Go.RowKit
set_option linter.unusedVariables false
set_option maxRecDepth 100000

def seg (l : List Value) (o : Nat) (vs : List Value) : List Value := l.take o ++ vs ++ l.drop (o + vs.length)
theorem seg_len {l : List Value} {o : Nat} {vs : List Value} (h : o + vs.length ≤ l.length) : (seg l o vs).length = l.length := by
  simp only [seg, List.length_append, List.length_take, List.length_drop]; omega
theorem seg_nil (l : List Value) (o : Nat) : seg l o [] = l := by simp [seg]
theorem seg_mid (p q r v : List Value) (h : q.length = v.length) : seg (p ++ q ++ r) p.length v = p ++ v ++ r := by
  have e1 : List.take p.length (p ++ (q ++ r)) = p := by simp
  have e2 : List.drop (p.length + v.length) (p ++ (q ++ r)) = r := by
    rw [← h, ← List.length_append, ← List.append_assoc, List.drop_left]
  simp only [seg, List.append_assoc, e1, e2]
theorem seg_take {l : List Value} {o m : Nat} {vs : List Value} (h : o + vs.length ≤ m) : (seg l o vs).take m = seg (l.take m) o vs ∨ l.length < o + vs.length := by
  by_cases hl : l.length < o + vs.length
  · exact .inr hl
  · left
    have e1 : (l.take o ++ vs).length = o + vs.length := by simp only [List.length_append, List.length_take]; omega
    unfold seg
    rw [List.take_append, e1, List.take_of_length_le (l := l.take o ++ vs) (by omega), List.take_take, Nat.min_eq_left (by omega), List.drop_take]
theorem own_seg {w : World} {B : Nat} {e : TypeId} {sz : Nat} {A : Option Addr} {n c m : Nat} {cs : List Value} (h : w.ownsRow B e sz (.slice A n c) n cs) {o : Nat} {vs : List Value} (hm : o + vs.length ≤ c * sz) (hp : A ≠ none) :
    ∃ b cur, A = some ⟨b, 0, none⟩ ∧ w.heap[b]? = some (.cells cur e (0, 0)) ∧ o + vs.length ≤ cur.size ∧ w.grownBy (w.setRow b (cur.toList.take o ++ vs ++ cur.toList.drop (o + vs.length)).toArray) (some b) ∧
      (o + vs.length ≤ n * sz → (w.setRow b (cur.toList.take o ++ vs ++ cur.toList.drop (o + vs.length)).toArray).ownsRow B e sz (.slice A n c) n (seg cs o vs)) ∧
      (n * sz ≤ o → (w.setRow b (cur.toList.take o ++ vs ++ cur.toList.drop (o + vs.length)).toArray).ownsRow B e sz (.slice A n c) n cs) := by
  obtain ⟨hl, h⟩ := h
  rcases h with ⟨h1, h2⟩ | ⟨g, cap, cur, h1, hb, hg, hn, hc, hs, ht⟩
  · cases h1; exact absurd rfl hp
  · cases h1
    have hcs : cur.toList.length = c * sz := by simpa using hs
    have hle : n * sz ≤ c * sz := Nat.mul_le_mul_right _ hn
    have hg' := setRow_heap w g cur (cur.toList.take o ++ vs ++ cur.toList.drop (o + vs.length)).toArray e (0, 0) hg
    have hsz : (cur.toList.take o ++ vs ++ cur.toList.drop (o + vs.length)).length = c * sz := by
      have := seg_len (l := cur.toList) (o := o) (vs := vs) (by omega)
      unfold seg at this; omega
    refine ⟨g, cur, rfl, hg, by rw [hs]; exact hm, ⟨rfl, rfl, rfl, by simp, fun k hk hne => setRow_other w g k _ (fun e => hne (by rw [e]))⟩, fun hin => ⟨?_, .inr ⟨g, c, _, rfl, hb, hg', hn, hc, by simpa using hsz, ?_⟩⟩, fun hout => ⟨hl, .inr ⟨g, c, _, rfl, hb, hg', hn, hc, by simpa using hsz, ?_⟩⟩⟩
    · rw [seg_len (by omega)]; exact hl
    · rcases seg_take (l := cur.toList) (vs := vs) hin with q | q
      · rw [ht] at q; exact q
      · omega
    · rw [← ht]
      have e1 : (cur.toList.take o).length = o := by rw [List.length_take]; omega
      show ((cur.toList.take o ++ vs ++ cur.toList.drop (o + vs.length))).take (n * sz) = _
      rw [List.append_assoc, List.take_append_of_le_length (by omega), List.take_take, Nat.min_eq_left hout]
theorem own_some {w : World} {B : Nat} {e : TypeId} {sz : Nat} {A : Option Addr} {n c : Nat} {cs : List Value} (h : w.ownsRow B e sz (.slice A n c) n cs) (hp : 0 < c) : A ≠ none := by
  obtain ⟨hl, h⟩ := h
  rcases h with ⟨h1, h2⟩ | ⟨g, cap, cur, h1, _⟩
  · cases h1; omega
  · cases h1; exact fun e => by cases e
theorem set_same {α : Type} {L : List α} {i : Nat} {a : α} (h : L[i]? = some a) : L.set i a = L := by
  obtain ⟨hi, rfl⟩ := List.getElem?_eq_some_iff.1 h
  exact List.set_getElem_self hi
section
variable {P : Program} {B : Nat} {W0 w : World} {L : List It}
theorem capS {t e ty : TypeId} {A : Option Addr} {n c : Nat} {K : Value → World → Prop} (ht : P.underlying t = some (.slice e)) (k : K (.int .i64 c) w) : RunS P (Builtin.cap_ #[t] ty #[.slice A n c]) w K :=
  ⟨_, _, by simp [Builtin.cap_, run_underlying ht]; rfl, k⟩
/-- a part of an own row -/
theorem own_part {w : World} {B : Nat} {e : TypeId} {sz : Nat} {A : Option Addr} {n c : Nat} {cs : List Value} (h : w.ownsRow B e sz (.slice A n c) n cs) (l m : Nat) (h1 : l ≤ m) (h2 : m ≤ n) :
    Rd w (.slice (if c = l then A else A.map (·.add (l * sz))) (m - l) (c - l)) sz (m - l) ((cs.take (m * sz)).drop (l * sz)) := by
  have hr := own_rd h
  have hcap := hr.cap
  have hle : m * sz ≤ n * sz := Nat.mul_le_mul_right _ h2
  have hl := hr.len
  refine ⟨by rw [List.length_drop, List.length_take, Nat.min_eq_left (by omega), Nat.sub_mul], _, _, rfl, by omega, ?_⟩
  by_cases hz : m - l = 0
  · exact .inl hz
  · obtain ⟨b, rfl, hc⟩ := own_cells h (by omega)
    refine .inr ⟨b, l * sz, by rw [if_neg (by omega), Option.map_some, add_plain, Nat.zero_add], fun j hj => ?_⟩
    simp only [List.length_drop, List.length_take] at hj
    rw [hc _ (by omega), List.getElem?_drop, List.getElem?_take, if_pos (by omega)]
theorem CutS.own {A : Option Addr} {n c sz l h : Nat} {lo hi : Option Int} {e : TypeId} {cs : List Value} {K : Nat → Nat → Option Addr → Prop} (H : St B W0 w L) (i : Nat) (hi' : L[i]? = some (.row (.slice A n c) e sz n cs)) (hl : lo.getD 0 = l) (hh : hi.getD n = h) (h1 : l ≤ h) (h2 : h ≤ n)
    (q : ∀ A', A' = (if c = l then A else A.map (·.add (l * sz))) → Rd w (.slice A' (h - l) (c - l)) sz (h - l) ((cs.take (h * sz)).drop (l * sz)) → K l h A') : CutS n c lo hi fun l h => LetS (if c = l then A else A.map (·.add (l * sz))) (K l h) :=
  ⟨l, h, hl, hh, h1, fun _ => by have := (own_rd (H.own i hi')).cap; omega, ⟨fun A' hA => q A' hA (by rw [hA]; exact own_part (H.own i hi') l h h1 h2)⟩⟩
/-- whatever cut, nothing said -/
theorem CutS.any {A : Option Addr} {n c sz l h : Nat} {lo hi : Option Int} {K : Nat → Nat → Option Addr → Prop} (hl : lo.getD 0 = l) (hh : hi.getD n = h) (h1 : l ≤ h) (h2 : h ≤ c) (q : ∀ A', A' = (if c = l then A else A.map (·.add (l * sz))) → K l h A') : CutS n c lo hi fun l h => LetS (if c = l then A else A.map (·.add (l * sz))) (K l h) :=
  ⟨l, h, hl, hh, h1, fun _ => h2, ⟨fun A' hA => q A' hA⟩⟩
theorem copyOwn {t t' ty e : TypeId} {sz n c dl dc d k m mc : Nat} {A A1 A' : Option Addr} {cs ds : List Value} {K : Value → World → Prop} (ht : P.underlying t = some (.slice e)) (hsz : (P.info? e).map (·.size) = some sz) (H : St B W0 w L) (i : Nat) (hi : L[i]? = some (.row (.slice A n c) e sz n cs))
    (hx : Rd w (.slice A' m mc) sz m ds) (h1 : ∀ u ∈ ds.take (k * sz), u.oneCell' = true) (hk : Nat.min m dl = k) (hd : d + dl ≤ n) (hA : dl = 0 ∨ A1 = A.map (·.add (d * sz)))
    (q : ∀ w', St B W0 w' (L.set i (.row (.slice A n c) e sz n (seg cs (d * sz) (ds.take (k * sz))))) → K (.int .i64 k) w') : RunS P (Builtin.copy_ #[t, t'] ty #[.slice A1 dl dc, .slice A' m mc]) w K := by
  cases hq : P.info? e with
  | none => simp [hq] at hsz
  | some inf =>
  have hsi : inf.size = sz := by simpa [hq] using hsz
  have ho := H.own i hi
  by_cases hk0 : k = 0
  · subst hk0
    refine ⟨.int .i64 0, w, ?_, ?_⟩
    · have hl : ∀ (x : Addr), (loadCells x 0).run P w = .ok #[] w := fun x => by simpa using run_loadCells_list (P := P) w x [] (by simp)
      cases A1 <;> cases A' <;> simp [Builtin.copy_, run_underlying ht, Builtin.lenOf, Builtin.firstCells, sizeOf, typeInfo, hq, hk, storeCells, hl] <;> rfl
    · refine q w ?_
      rw [Nat.zero_mul, List.take_zero, seg_nil, set_same hi]; exact H
  · have hmk : k ≤ m ∧ k ≤ dl := by rw [← hk]; exact ⟨Nat.min_le_left _ _, Nat.min_le_right _ _⟩
    have hks : k * sz ≤ m * sz := Nat.mul_le_mul_right _ hmk.1
    have hcap := (own_rd ho).cap
    have hrl := hx.len
    have hcl := (own_rd ho).len
    obtain ⟨_, A2, c2, e2, _, hx⟩ := hx
    cases e2
    rcases hx with hx | ⟨b', off', rfl, hx⟩
    · omega
    have hvl : (ds.take (k * sz)).length = k * sz := by rw [List.length_take]; omega
    have hds : d * sz + k * sz ≤ n * sz := by rw [← Nat.add_mul]; exact Nat.mul_le_mul_right _ (by omega)
    have hns : n * sz ≤ c * sz := Nat.mul_le_mul_right _ hcap
    obtain ⟨b, cur, rfl, hg, hfit, hgrow, hin, _⟩ := own_seg (m := 0) ho (o := d * sz) (vs := ds.take (k * sz)) (by omega) (own_some ho (by omega))
    have hA1 : A1 = some ⟨b, d * sz, none⟩ := by
      rcases hA with hA | hA
      · omega
      · rw [hA, Option.map_some, add_plain, Nat.zero_add]
    subst hA1
    have hf := run_firstCells_some (P := P) w sz k ⟨b', off', none⟩ m mc (ds.take (k * sz)) hvl (fun j u hu => by
      rw [List.getElem?_take] at hu
      split at hu
      · rw [add_plain, hx j (List.getElem?_eq_some_iff.1 hu).1]; exact hu
      · cases hu)
    have hst := run_storeCells_at P b (d * sz) e (ds.take (k * sz)) 0 cur w hg (by simpa using hfit) h1
    simp only [Nat.add_zero] at hst
    refine ⟨.int .i64 k, _, ?_, q _ (H.turn i hi hgrow (hin (by omega)) (fun g hg => .inl hg))⟩
    simp [Builtin.copy_, run_underlying ht, Builtin.lenOf, sizeOf, typeInfo, hq, hsi, hk, hf, hst]
    rfl
theorem clearOwn {t ty e : TypeId} {z : Value} {sz bytes n c dl dc d : Nat} {A A1 : Option Addr} {cs : List Value} {K : Value → World → Prop} (ht : P.underlying t = some (.slice e)) (inf : (P.info? e).map (fun i => (i.zero, i.size, i.bytes)) = some (some z, sz, bytes)) (hzs : z.cells.size = sz) (hz1 : ∀ u ∈ (Builtin.zeroCells z.cells dl).toList, u.oneCell' = true)
    (H : St B W0 w L) (i : Nat) (hi : L[i]? = some (.row (.slice A n c) e sz n cs)) (hd : d + dl ≤ c) (hn : n ≤ d) (hA : dl = 0 ∨ A1 = A.map (·.add (d * sz))) (q : ∀ w', St B W0 w' L → K (.tuple #[]) w') : RunS P (Builtin.clear_ #[t] ty #[.slice A1 dl dc]) w K := by
  obtain ⟨i0, q1, q2, q3, q4⟩ := infoOf inf
  have ho := H.own i hi
  by_cases h0 : dl = 0
  · subst h0
    refine ⟨.tuple #[], w, ?_, q w H⟩
    cases A1 <;> simp [Builtin.clear_, run_underlying ht]
  · have hzl : (Builtin.zeroCells z.cells dl).toList.length = dl * sz := by rw [Array.length_toList, size_zeroCells, hzs]
    have hds : d * sz + dl * sz ≤ c * sz := by rw [← Nat.add_mul]; exact Nat.mul_le_mul_right _ hd
    have hns : n * sz ≤ d * sz := Nat.mul_le_mul_right _ hn
    obtain ⟨b, cur, rfl, hg, hfit, hgrow, _, hout⟩ := own_seg (m := 0) ho (o := d * sz) (vs := (Builtin.zeroCells z.cells dl).toList) (by omega) (own_some ho (by omega))
    have hA1 : A1 = some ⟨b, d * sz, none⟩ := by
      rcases hA with hA | hA
      · omega
      · rw [hA, Option.map_some, add_plain, Nat.zero_add]
    subst hA1
    have hst := run_storeCells_at P b (d * sz) e (Builtin.zeroCells z.cells dl).toList 0 cur w hg (by simpa using hfit) hz1
    simp only [Nat.add_zero] at hst
    have H' := H.turn i hi (it' := .row (.slice (some ⟨b, 0, none⟩) n c) e sz n cs) hgrow (hout hns) (fun g hg => .inl hg)
    rw [set_same hi] at H'
    refine ⟨.tuple #[], _, ?_, q _ H'⟩
    obtain ⟨dl, rfl⟩ : ∃ x, dl = x + 1 := ⟨dl - 1, by omega⟩
    simp [Builtin.clear_, run_underlying ht, zeroValue, typeInfo, q1, q2, hst]
/-- append to the first d elements of an own row, in place -/
theorem appCut {t ty e : TypeId} {z : Value} {sz bytes n c d m mc : Nat} {A A1 A' : Option Addr} {cs ds : List Value} {K : Value → World → Prop} (ht : P.underlying t = some (.slice e)) (inf : (P.info? e).map (fun i => (i.zero, i.size, i.bytes)) = some (some z, sz, bytes))
    (H : St B W0 w L) (i : Nat) (hi : L[i]? = some (.row (.slice A n c) e sz n cs)) (hx : Rd w (.slice A' m mc) sz m ds) (h1 : ∀ u ∈ ds, u.oneCell' = true) (hd : d ≤ n) (hroom : d + m ≤ c) (hA : A1 = A)
    (q : ∀ w', St B W0 w' (L.set i (.row (.slice A (d + m) c) e sz (d + m) (cs.take (d * sz) ++ ds))) → K (.slice A (d + m) c) w') : RunS P (Builtin.append_ #[t, t] ty #[.slice A1 d c, .slice A' m mc]) w K := by
  subst hA
  obtain ⟨i0, q1, q2, q3, q4⟩ := infoOf inf
  have ho := own_take (H.own i hi) d hd
  have hlo : ∀ g, (It.row (.slice A1 (d + m) c) e sz (d + m) (cs.take (d * sz) ++ ds)).leans = some g → (It.row (.slice A1 n c) e sz n cs).own = some g ∨ w.heap.size ≤ g := fun g hg => .inl (by cases A1 <;> exact hg)
  have fin : ds = [] → m = 0 → ∃ v w', (Builtin.append_ #[t, t] ty #[.slice A1 d c, .slice A' m mc]).run P w = .ok v w' ∧ K v w' := fun hds hm => by
    subst hds hm
    refine ⟨.slice A1 (d + 0) c, w, ?_, q w (H.turn i hi ⟨rfl, rfl, rfl, Nat.le_refl _, fun _ _ _ => rfl⟩ (show w.ownsRow B e sz (.slice A1 d c) d (cs.take (d * sz) ++ []) by simpa using ho) hlo)⟩
    have hl : ∀ (x : Addr), (loadCells x 0).run P w = .ok #[] w := fun x => by simpa using run_loadCells_list (P := P) w x [] (by simp)
    have hroom : d ≤ c := hroom
    cases A1 <;> cases A' <;> simp [Builtin.append_, run_underlying ht, sizeOf, typeInfo, q1, Builtin.lenOf, Builtin.firstCells, hl, hroom, storeCells]
  by_cases hm : m = 0
  · have hl := hx.len
    subst hm
    exact ⟨fin (List.length_eq_zero_iff.1 (by omega)) rfl⟩
  · have hl := hx.len
    obtain ⟨_, A2, c2, e2, _, hx⟩ := hx
    cases e2
    rcases hx with hx | ⟨b', off', rfl, hx⟩
    · omega
    obtain ⟨hol, ho⟩ := ho
    rcases ho with ⟨h1', h2⟩ | ⟨g, cap, cur, h1', hb, hg, hn, hc, hs, htk⟩
    · cases h1'; omega
    cases h1'
    have hfit : d * sz + ds.length ≤ cur.size := by rw [hl, hs, ← Nat.add_mul]; exact Nat.mul_le_mul_right _ hroom
    have hr := run_append_room (P := P) w t ty e i0 ht q1 g d c cur hg ⟨b', off', none⟩ m mc ds (by rw [q3]; exact hl) (fun j u hu => by rw [add_plain, hx j (List.getElem?_eq_some_iff.1 hu).1]; exact hu) h1 hroom (by rw [q3]; exact hfit)
    rw [q3] at hr
    refine ⟨_, _, hr, q _ (H.turn i hi (it' := .row (.slice (some ⟨g, 0, none⟩) (d + m) c) e sz (d + m) (cs.take (d * sz) ++ ds)) ⟨rfl, rfl, rfl, by simp, fun k _ hk => setRow_other w g k _ (fun e => hk (by rw [e]; rfl))⟩ ⟨?_, .inr ⟨g, c, _, rfl, hb, setRow_heap w g cur _ e _ hg, hroom, hc, ?_, ?_⟩⟩ hlo)⟩
    · rw [List.length_append, hol, hl, Nat.add_mul]
    · simp only [List.size_toArray, List.length_append, List.length_take, List.length_drop, Array.length_toList]; omega
    · rw [← htk, show (d + m) * sz = (cur.toList.take (d * sz) ++ ds).length by rw [List.length_append, htk, hol, hl, Nat.add_mul]]
      exact List.take_left
/-- append of zeros to the first d elements of a row, where there is no room -/
theorem appZeros {t tn ty e : TypeId} {z : Value} {kq kn : IntKind} {sz bytes n c d k : Nat} {x : Int} {A A1 : Option Addr} {cs : List Value} {K : Value → World → Prop} (ht : P.underlying t = some (.slice e)) (htn : P.underlying tn = some (.int kn)) (inf : (P.info? e).map (fun i => (i.zero, i.size, i.bytes)) = some (some z, sz, bytes)) (hzs : z.cells.size = sz) (hsz : 0 < sz) (hby : bytes ≤ 128)
    (H : St B W0 w L) (hr : Rd w (.slice A n c) sz n cs) (hd : d ≤ n) (hx : x = (k : Int)) (hk : 0 < k) (hroom : c < d + k) (hm : d + k ≤ 1099511627776) (hA : A1 = A)
    (q : ∀ A2 c2 Z w', Z.length = k * sz → St B W0 w' (.row (.slice A2 (d + k) c2) e sz (d + k) (cs.take (d * sz) ++ Z) :: L) → K (.slice A2 (d + k) c2) w') : RunS P (Builtin.append_ #[t, tn] ty #[.slice A1 d c, .int kq x]) w K := by
  subst hA hx
  obtain ⟨i0, q1, q2, q3, q4⟩ := infoOf inf
  have hl := hr.len
  have hds : d * sz ≤ n * sz := Nat.mul_le_mul_right _ hd
  have hol : (cs.take (d * sz)).length = d * sz := by rw [List.length_take]; omega
  have hold : (Builtin.firstCells i0.size d (.slice A1 d c)).run P w.drew = .ok (cs.take (d * sz)).toArray w.drew := by
    obtain ⟨_, A2, c2, e2, _, hx⟩ := hr
    cases e2
    rw [q3]
    cases A1 with
    | none =>
      have hn0 : n = 0 := by rcases hx with hx | ⟨_, _, e, _⟩; exact hx; cases e
      have hd0 : d = 0 := by omega
      subst hd0
      simp [Builtin.firstCells]
    | some a =>
      refine run_firstCells_some (P := P) w.drew sz d a d c (cs.take (d * sz)) hol fun j u hu => ?_
      rw [List.getElem?_take] at hu
      split at hu
      · rcases hx with hx | ⟨b', off', ea, hx⟩
        · rw [hx, Nat.zero_mul] at hds; omega
        · cases ea
          rw [add_plain]
          exact (hx j (List.getElem?_eq_some_iff.1 hu).1).trans hu
      · cases hu
  have nb : (d + k) * bytes ≤ 140737488355328 := Nat.le_trans (Nat.mul_le_mul hm hby) (by decide)
  have nk : k * bytes ≤ 281474976710656 := Nat.le_trans (Nat.mul_le_mul_right _ (by omega : k ≤ d + k)) (by omega)
  have hrun := Lib.run_append_grow_zeros (P := P) w t tn ty e i0 z kq kn ht htn q1 q2 A1 d c (cs.take (d * sz)) hold k hk (by omega) hroom (by omega) (by rw [q4]; exact nk) (by rw [q4]; exact growslice_fits hroom nb)
  have hge := grownCap_ge w (d + k) c e
  have hcm : grownCap w (d + k) c e ≤ maxLen := grownCap_le_maxLen w (d + k) c e (by unfold maxLen; omega)
  have hzl : (Builtin.zeroCells z.cells k).toList.length = k * sz := by rw [Array.length_toList, size_zeroCells, hzs]
  have hsz2 : z.cells.size = sz := hzs
  refine ⟨_, _, hrun, q _ _ (Builtin.zeroCells z.cells k).toList _ hzl (newRow H ⟨?_, .inr ⟨w.heap.size, _, _, rfl, Nat.le_refl _, heap_alloc_new w.drew _, hge, hcm, ?_, ?_⟩⟩ ⟨rfl, rfl, rfl, by simp, fun k hk => heap_alloc_old w.drew _ k hk⟩)⟩
  · rw [List.length_append, hol, hzl, Nat.add_mul]
  · simp only [Array.size_append, List.size_toArray, size_zeroCells, hzs, hol, ← Nat.add_mul]
    congr 1; omega
  · simp only [Array.toList_append]
    rw [show (d + k) * sz = (cs.take (d * sz) ++ (Builtin.zeroCells z.cells k).toList).length by rw [List.length_append, hol, hzl, Nat.add_mul]]
    exact List.take_left
/-- a longer slice of an own row, within its room -/
theorem CutS.more {A : Option Addr} {n c sz h : Nat} {lo hi : Option Int} {e : TypeId} {cs : List Value} {K : Nat → Nat → Option Addr → Prop} (H : St B W0 w L) (i : Nat) (hi' : L[i]? = some (.row (.slice A n c) e sz n cs)) (hl : lo.getD 0 = 0) (hh : hi.getD n = h) (h2 : n ≤ h) (h3 : h ≤ c) (hp : 0 < c)
    (q : ∀ T, T.length = (h - n) * sz → St B W0 w (L.set i (.row (.slice A h c) e sz h (cs ++ T))) → K 0 h A) : CutS n c lo hi fun l h => LetS (if c = l then A else A.map (·.add (l * sz))) (K l h) := by
  refine ⟨0, h, hl, hh, Nat.zero_le _, fun _ => h3, ⟨fun A' hA => ?_⟩⟩
  have : A' = A := by
    rw [hA]
    split
    · rfl
    · cases A with
      | none => rfl
      | some a => simp [add_zero]
  subst this
  obtain ⟨hol, ho⟩ := H.own i hi'
  rcases ho with ⟨h1', h2'⟩ | ⟨g, cap, cur, h1', hb, hg, hn, hc, hs, htk⟩
  · cases h1'; omega
  cases h1'
  have hns : n * sz ≤ h * sz := Nat.mul_le_mul_right _ h2
  have hhs : h * sz ≤ c * sz := Nat.mul_le_mul_right _ h3
  have e1 : cs ++ (cur.toList.drop (n * sz)).take ((h - n) * sz) = cur.toList.take (h * sz) := by
    rw [← htk, Nat.sub_mul, ← List.drop_take]
    have e0 : cur.toList.take (n * sz) = (cur.toList.take (h * sz)).take (n * sz) := by rw [List.take_take, Nat.min_eq_left hns]
    rw [e0]
    exact List.take_append_drop (n * sz) (cur.toList.take (h * sz))
  refine q _ ?_ (H.turn i hi' ⟨rfl, rfl, rfl, Nat.le_refl _, fun _ _ _ => rfl⟩ (it' := .row (.slice (some ⟨g, 0, none⟩) h c) e sz h (cs ++ (cur.toList.drop (n * sz)).take ((h - n) * sz))) ⟨?_, .inr ⟨g, c, cur, rfl, hb, hg, h3, hc, hs, e1.symm⟩⟩ (fun g hg => .inl hg))
  · rw [List.length_take, List.length_drop, Array.length_toList, hs, Nat.sub_mul]; omega
  · rw [e1, List.length_take, Array.length_toList, hs]; omega
theorem own_shape {w : World} {B : Nat} {e : TypeId} {sz : Nat} {A : Option Addr} {n c : Nat} {cs : List Value} (h : w.ownsRow B e sz (.slice A n c) n cs) (hc : 0 < c) : ∃ b, A = some ⟨b, 0, none⟩ ∧ w.shape? b = some (e, c * sz) ∧ ∀ o, w.frozen? ⟨b, o, none⟩ = false := by
  obtain ⟨hol, ho⟩ := h
  rcases ho with ⟨h1', h2'⟩ | ⟨g, cap, cur, h1', hb, hg, hn, hc, hs, htk⟩
  · cases h1'; omega
  cases h1'
  exact ⟨g, rfl, by simp [World.shape?, hg, hs], fun o => by simp [World.frozen?, hg]⟩
/-- a slice with a bound of its room -/
theorem slice3 {t e : TypeId} {sz n c l h m : Nat} {i j p : Int} {k1 k2 k3 : IntKind} {A : Option Addr} {K : Value → World → Prop} (ht : P.underlying t = some (.slice e)) (hsz : (P.info? e).map (·.size) = some sz) (hi : i = (l : Int)) (hj : j = (h : Int)) (hp : p = (m : Int)) (h1 : l ≤ h) (h2 : h ≤ m) (h3 : m ≤ c)
    (q : ∀ A', K (.slice A' (h - l) (m - l)) w) : RunS P (Instr.sliceAt t (.slice A n c) (some (.int k1 i)) (some (.int k2 j)) (some (.int k3 p))) w K := by
  subst hi hj hp
  cases hq : P.info? e with
  | none => simp [hq] at hsz
  | some inf => exact ⟨_, w, by simp only [Instr.sliceAt, Sem.run_bind, underlying, program, Sem.run, ht, Result.andThen, Sem.run_pure, Instr.slice, Instr.sliceBounds, bound_run k3 m c _ h3, bound_run k2 h m _ h2, bound_run k1 l h _ h1, sizeOf, typeInfo, hq]; rfl, q _⟩
end
theorem flat_take {α : Type} {cells : α → List Value} {sz : Nat} (hs : ∀ x, (cells x).length = sz) : ∀ (xs : List α) (i : Nat), (xs.flatMap cells).take (i * sz) = (xs.take i).flatMap cells
  | [], i => by simp
  | x :: xs, 0 => by simp
  | x :: xs, i + 1 => by rw [List.flatMap_cons, List.take_succ_cons, List.flatMap_cons, Nat.succ_mul, Nat.add_comm, ← hs x, List.take_length_add_append, hs x, flat_take hs xs i]
theorem flat_drop {α : Type} {cells : α → List Value} {sz : Nat} (hs : ∀ x, (cells x).length = sz) : ∀ (xs : List α) (i : Nat), (xs.flatMap cells).drop (i * sz) = (xs.drop i).flatMap cells
  | [], i => by simp
  | x :: xs, 0 => by simp
  | x :: xs, i + 1 => by rw [List.flatMap_cons, List.drop_succ_cons, Nat.succ_mul, Nat.add_comm, ← hs x, List.drop_length_add_append, hs x, flat_drop hs xs i]
/-- all cells of an element written over -/
def setAll (l : List Value) : Nat → List Value → List Value
  | _, [] => l
  | o, v :: vs => setAll (l.set o v) (o + 1) vs
theorem setAll_seg : ∀ (vs l : List Value) (o : Nat), o + vs.length ≤ l.length → setAll l o vs = seg l o vs
  | [], l, o, _ => (seg_nil l o).symm
  | v :: vs, l, o, h => by
    simp only [List.length_cons] at h
    rw [setAll, setAll_seg vs (l.set o v) (o + 1) (by rw [List.length_set]; omega)]
    unfold seg
    rw [List.length_cons, show o + 1 + vs.length = o + (vs.length + 1) by omega, List.drop_set, if_pos (by omega)]
    have e : (l.set o v).take (o + 1) = l.take o ++ [v] := by
      rw [List.take_add_one, List.take_set_of_le (Nat.le_refl _), List.getElem?_set_self (by omega)]; rfl
    rw [e]; simp
theorem flat_setAll {α : Type} {cells : α → List Value} {sz : Nat} (hs : ∀ x, (cells x).length = sz) {xs : List α} {j : Nat} {x y : α} (hx : xs[j]? = some x) : setAll (xs.flatMap cells) (j * sz) (cells y) = (xs.set j y).flatMap cells := by
  have hj := (List.getElem?_eq_some_iff.1 hx).1
  have hle : (j + 1) * sz ≤ xs.length * sz := Nat.mul_le_mul_right _ hj
  rw [Nat.add_mul] at hle
  rw [setAll_seg _ _ _ (by rw [flat_len hs, hs]; omega)]
  unfold seg
  rw [hs, flat_take hs, show j * sz + sz = (j + 1) * sz by rw [Nat.add_mul]; omega, flat_drop hs, List.set_eq_take_append_cons_drop, if_pos hj, List.flatMap_append, List.flatMap_cons, List.append_assoc]
theorem get_mid {α : Type} {a r : List α} {x : α} {j : Nat} (h : a.length = j) : (a ++ x :: r)[j]? = some x := by subst h; simp
theorem set_mid2 {α : Type} {a r : List α} {x y : α} {j : Nat} (h : a.length = j) : (a ++ x :: r).set j y = a ++ y :: r := by subst h; rw [List.set_append_right _ _ (Nat.le_refl _), Nat.sub_self]; rfl
end Go.Proofs.YtjdgcgmhbhfpkaaDoorE
/- Drawn regions told as a tree of orders: where two operations that do something may come in either order, both are told. No condition of the laws stands here. -/
namespace Go.Proofs.YtjdgcgmhbhfpkaaDoorE
open Go Go.RowKit
set_option linter.unusedVariables false
set_option maxRecDepth 100000
set_option linter.unusedSimpArgs false

inductive PT where
  | nil
  | one (i : Nat) (r : PT)
  | fork (a b : PT)
def PT.heads : PT → List Nat
  | .nil => []
  | .one i _ => [i]
  | .fork a b => a.heads ++ b.heads
def PT.len : PT → Nat
  | .nil => 0
  | .one _ r => r.len + 1
  | .fork a _ => a.len
def PT.of : List Nat → PT → PT
  | [], p => p
  | i :: r, p => .one i (PT.of r p)
structure ForkS (X Y : Prop) : Prop where
  both : X ∧ Y
noncomputable def vopsT (P : Program) (ops : List Oper) (now keep : List Nat) (w0 : World) (K : Env → World → Prop) (p : PT) : Env → World → Prop :=
  PT.rec (motive := fun _ => Env → World → Prop) (fun e w => K e w)
    (fun i _ ih e w => Option.rec (motive := fun _ => Prop) False (fun o => stepG P ops now keep w0 i ih e w o) (nthO ops i))
    (fun _ _ ia ib e w => ForkS (ia e w) (ib e w)) p
def planT (ops : Array Oper) (now keep loads : List Nat) : PT → Bool → Bool → Array Bool → Bool
  | .nil, _, fk, listed => !fk && (Region.ready .any ops listed).isEmpty
  | .one i r, s, fk, listed =>
    match ops[i]? with
    | none => false
    | some o =>
      (bif has i now then (fk || decide (Region.ready .any ops listed = [i])) && (has i keep || loads.all fun h => reachN ops ops.size i h)
       else !fk && ((Region.ready .any ops listed).contains i && Region.free .any ops listed i && (!isLoad o || (s && has i loads)))) &&
      planT ops now keep loads r (s && (!has i now || has i keep)) false (listed.setIfInBounds i true)
  | .fork a b, s, fk, listed => (fk || decide (Region.ready .any ops listed = a.heads ++ b.heads)) && Nat.beq a.len b.len && planT ops now keep loads a s true listed && planT ops now keep loads b s true listed
def okT (N : Nat) (P : Program) (ops : Array Oper) (now keep loads : List Nat) (p : PT) : Bool :=
  P.follows .mixedOrders && Region.noSelect ops && (ops.toList.all fun o => dstOK N o) && Nat.beq p.len ops.size &&
  (now.all fun j => has j keep || loads.all fun h => reachN ops ops.size j h) && planT ops now keep loads p true false (Array.replicate ops.size false)
theorem vopsT_sound {N : Nat} {P : Program} {ops : Array Oper} {now keep loads : List Nat} {w0 : World} {K : Env → World → Prop} {Q : Exit → Act → World → Prop} (hsel : Region.noSelect ops = true)
    (hall : ∀ o ∈ ops.toList, dstOK N o = true) (hnow : ∀ j ∈ now, has j keep = true ∨ ∀ h ∈ loads, reachN ops ops.size j h = true)
    (hK : ∀ e w a, K e w → Rel N e a → Q .normal a w) (hX : ∀ c a w, Q (.panic c) a w = False) :
    ∀ (p : PT) (s fk : Bool) (listed : Array Bool) (e : Env) (a : Act) (w : World), HeadInv .any ops ops.size listed → planT ops now keep loads p s fk listed = true → (s = true → HeldW w0 w) →
      vopsT P ops.toList now keep w0 K p e w → Rel N e a →
      (fk = false → wpAnyG P ops Q (HeldW w0) (fun j => has j now && !has j keep) p.len listed a w) ∧
      (fk = true → 0 < p.len ∧ ∀ i ∈ p.heads, i ∈ Region.ready .any ops listed → wpOp P ops Q i (fun a' w' => ((has i now && !has i keep) = false → HeldW w0 w → HeldW w0 w') ∧ wpAnyG P ops Q (HeldW w0) (fun j => has j now && !has j keep) (p.len - 1) (listed.setIfInBounds i true) a' w') a w) := by
  intro p
  induction p with
  | nil =>
    intro s fk listed e a w inv hp _ h hr
    cases fk with
    | true => simp [planT] at hp
    | false => exact ⟨fun _ => ⟨by simpa [planT] using hp, hK _ _ _ h hr⟩, fun q => by cases q⟩
  | fork x y ihx ihy =>
    intro s fk listed e a w inv hp hs h hr
    simp only [planT, Bool.and_eq_true] at hp
    obtain ⟨⟨⟨hrd, hlen⟩, hpx⟩, hpy⟩ := hp
    have hlen := Nat.eq_of_beq_eq_true hlen
    have h : ForkS (vopsT P ops.toList now keep w0 K x e w) (vopsT P ops.toList now keep w0 K y e w) := h
    have hx := (ihx s true listed e a w inv hpx hs h.both.1 hr).2 rfl
    have hy := (ihy s true listed e a w inv hpy hs h.both.2 hr).2 rfl
    have both : ∀ i ∈ x.heads ++ y.heads, i ∈ Region.ready .any ops listed → wpOp P ops Q i (fun a' w' => ((has i now && !has i keep) = false → HeldW w0 w → HeldW w0 w') ∧ wpAnyG P ops Q (HeldW w0) (fun j => has j now && !has j keep) (x.len - 1) (listed.setIfInBounds i true) a' w') a w := by
      intro i hi hir
      rcases List.mem_append.1 hi with q | q
      · exact hx.2 i q hir
      · have := hy.2 i q hir
        rw [← hlen] at this; exact this
    refine ⟨fun hf => ?_, fun _ => ⟨hx.1, both⟩⟩
    subst hf
    simp only [Bool.false_or, decide_eq_true_eq] at hrd
    have e1 : (PT.fork x y).len = x.len - 1 + 1 := by show x.len = _; have := hx.1; omega
    rw [e1]
    refine ⟨fun q => ?_, fun j hj => both j (hrd ▸ hj) hj⟩
    exfalso
    have hne : x.heads ++ y.heads = [] := hrd.symm.trans q
    obtain ⟨hxe, _⟩ := List.append_eq_nil_iff.1 hne
    have gen : ∀ p : PT, 0 < p.len → p.heads ≠ [] := by
      intro p
      induction p with
      | nil => intro h; cases h
      | one i r _ => intro _ h; cases h
      | fork a b iha _ => intro h q; exact iha h (List.append_eq_nil_iff.1 q).1
    exact gen x hx.1 hxe
  | one i r ih =>
    intro s fk listed e a w inv hp hs h hr
    cases ho : ops[i]? with
    | none => simp [planT, ho] at hp
    | some o =>
      simp only [planT, ho, Bool.and_eq_true] at hp
      obtain ⟨hp1, hp2⟩ := hp
      have hn : nthO ops.toList i = some o := by rw [nthO_eq]; simpa using ho
      have him : o ∈ ops.toList := List.mem_of_getElem? (l := ops.toList) (i := i) (a := o) (by simpa using ho)
      have hd := hall o him
      have his : i < ops.size := (Array.getElem?_eq_some_iff.1 ho).1
      have h : Option.rec (motive := fun _ => Prop) False (fun o => stepG P ops.toList now keep w0 i (vopsT P ops.toList now keep w0 K r) e w o) (nthO ops.toList i) := h
      rw [hn] at h
      have h : stepG P ops.toList now keep w0 i (vopsT P ops.toList now keep w0 K r) e w o := h
      have hseln := Region.noSelect_spec hsel
      have ih' : ∀ {s'} {e a w}, planT ops now keep loads r s' false (listed.setIfInBounds i true) = true → (s' = true → HeldW w0 w) → i ∈ Region.ready .any ops listed → vopsT P ops.toList now keep w0 K r e w → Rel N e a → wpAnyG P ops Q (HeldW w0) (fun j => has j now && !has j keep) r.len (listed.setIfInBounds i true) a w :=
        fun hp2 hs' hri h hr => (ih _ false _ _ _ _ (inv.set hri his) hp2 hs' h hr).1 rfl
      cases hin : has i now with
      | false =>
        rw [hin] at hp1 hp2
        simp only [cond_false, Bool.and_eq_true, Bool.or_eq_true, Bool.not_eq_true'] at hp1
        obtain ⟨hfk, ⟨hrd, hfr⟩, hld⟩ := hp1
        subst hfk
        have hri : i ∈ Region.ready .any ops listed := by simpa using hrd
        refine ⟨fun _ => ?_, fun q => by cases q⟩
        have done : ∀ e : Env, Rel N e a → Region.wanted o (yielded ops a.tmps) = true → doG P now keep w0 i o (vopsT P ops.toList now keep w0 K r) e w → wpAnyG P ops Q (HeldW w0) (fun j => has j now && !has j keep) (r.len + 1) listed a w := by
          intro e hr hwt h
          unfold doG at h
          have h : vopG P o e w0 fun v => vopsT P ops.toList now keep w0 K r (e.putO o.dst v) w := by simpa only [hin] using h
          obtain ⟨v, hk, hrun⟩ := vopG_run h
          refine wpAnyG_first (b := isLoad o) (n := ops.size) (v := v) ho hseln (fun c a w q => by rw [hX] at q; exact q.elim) ?_ r.len listed a w inv (Region.free_spec ho hfr) hri ?_ ?_ ?_
          · intro hb j hj
            simp only [Bool.and_eq_true, Bool.not_eq_true'] at hj
            rcases hld with hld | hld
            · rw [hb] at hld; cases hld
            · rcases hnow j (has_mem hj.1) with q | q
              · rw [hj.2] at q; cases q
              · exact q i (has_mem hld.2)
          · intro hb
            rcases hld with hld | hld
            · rw [hb] at hld; cases hld
            · exact hs hld.1
          · exact .inl ⟨hwt, fun w' hw' => by rw [hr.eval]; exact hrun w' hw'⟩
          · refine ih' hp2 (fun q => hs ?_) hri hk (hr.put hd v)
            simp only [Bool.and_eq_true] at q
            exact q.1
        have left : ∀ e : Env, Rel N e a → Region.wanted o (yielded ops a.tmps) = false → vopsT P ops.toList now keep w0 K r (e.putO o.dst undef) w → wpAnyG P ops Q (HeldW w0) (fun j => has j now && !has j keep) (r.len + 1) listed a w := by
          intro e hr hwt h
          refine wpAnyG_first (b := false) (n := ops.size) (v := undef) ho hseln (fun c a w q => by rw [hX] at q; exact q.elim) (fun q => by cases q) r.len listed a w inv (Region.free_spec ho hfr) hri (fun q => by cases q) (.inr ⟨hwt, rfl⟩) ?_
          refine ih' hp2 (fun q => hs ?_) hri h (hr.put hd undef)
          simp only [Bool.and_eq_true] at q
          exact q.1
        unfold stepG at h
        cases hg : o.guard with
        | none =>
          rw [hg] at h
          exact done e hr (by simp [Region.wanted, hg]) h
        | some jw =>
          obtain ⟨j, want⟩ := jw
          rw [hg] at h
          cases hsl : slotOf ops.toList j with
          | none => simp only [hsl] at h
          | some g =>
            simp only [hsl] at h
            have hwt := wanted_of (opsA := ops) hr hg hsl
            unfold guardK at h
            split at h
            · rename_i b heg
              rw [heg] at hwt
              by_cases hb : b = want
              · subst hb
                have h := h.all.1 rfl
                rw [Env.put_same heg] at h
                exact done e hr (by simpa using hwt) h
              · have hb' : b = !want := by cases b <;> cases want <;> first | rfl | exact absurd rfl hb
                have h2 := h.all.2 hb'
                clear h
                subst hb'
                rw [Env.put_same heg] at h2
                exact left e hr (by rw [hwt]; simp) h2
            · rename_i hne
              refine left e hr ?_ h
              rw [hwt]
              cases heg : e g <;> first | rfl | exact absurd heg (hne _)
      | true =>
        rw [hin] at hp1 hp2
        simp only [cond_true, Bool.and_eq_true, Bool.or_eq_true, decide_eq_true_eq] at hp1
        obtain ⟨hrd, _⟩ := hp1
        -- the operation itself
        have core : i ∈ Region.ready .any ops listed → wpOp P ops Q i (fun a' w' => ((has i now && !has i keep) = false → HeldW w0 w → HeldW w0 w') ∧ wpAnyG P ops Q (HeldW w0) (fun j => has j now && !has j keep) r.len (listed.setIfInBounds i true) a' w') a w := by
          intro hri
          have done : ∀ e : Env, Rel N e a → Region.wanted o (yielded ops a.tmps) = true → doG P now keep w0 i o (vopsT P ops.toList now keep w0 K r) e w → wpOp P ops Q i (fun a' w' => ((has i now && !has i keep) = false → HeldW w0 w → HeldW w0 w') ∧ wpAnyG P ops Q (HeldW w0) (fun j => has j now && !has j keep) r.len (listed.setIfInBounds i true) a' w') a w := by
            intro e hr hwt h
            unfold doG at h
            have h : vopV P o e w (fun v w' => Bool.rec (motive := fun _ => Prop) (vopsT P ops.toList now keep w0 K r (e.putO o.dst v) w') (KeepS w0 w' (vopsT P ops.toList now keep w0 K r (e.putO o.dst v) w')) (has i keep)) (fun _ _ => False) := by simpa only [hin] using h
            rw [vopV_eq] at h
            unfold wpOp
            simp only [ho, hwt, if_true]
            refine .inl (wp_of_good (vop_sound hr.eval h) ?_ (fun ch w' q => q.elim))
            intro v w' hv
            cases hkp : has i keep with
            | false =>
              rw [hkp] at hv hp2
              refine ⟨fun q => by simp [hin, hkp] at q, ih' hp2 (fun q => by simp at q) hri hv (hr.put hd v)⟩
            | true =>
              rw [hkp] at hv hp2
              have hv : KeepS w0 w' (vopsT P ops.toList now keep w0 K r (e.putO o.dst v) w') := hv
              exact ⟨fun _ _ => hv.ex.1, ih' hp2 (fun _ => hv.ex.1) hri hv.ex.2 (hr.put hd v)⟩
          have left : ∀ e : Env, Rel N e a → Region.wanted o (yielded ops a.tmps) = false → vopsT P ops.toList now keep w0 K r (e.putO o.dst undef) w → wpOp P ops Q i (fun a' w' => ((has i now && !has i keep) = false → HeldW w0 w → HeldW w0 w') ∧ wpAnyG P ops Q (HeldW w0) (fun j => has j now && !has j keep) r.len (listed.setIfInBounds i true) a' w') a w := by
            intro e hr hwt h
            unfold wpOp
            simp only [ho, hwt]
            exact ⟨fun _ q => q, ih' hp2 (fun q => hs (by simp only [Bool.and_eq_true] at q; exact q.1)) hri h (hr.put hd undef)⟩
          unfold stepG at h
          cases hg : o.guard with
          | none =>
            rw [hg] at h
            exact done e hr (by simp [Region.wanted, hg]) h
          | some jw =>
            obtain ⟨j, want⟩ := jw
            rw [hg] at h
            cases hsl : slotOf ops.toList j with
            | none => simp only [hsl] at h
            | some g =>
              simp only [hsl] at h
              have hwt := wanted_of (opsA := ops) hr hg hsl
              unfold guardK at h
              split at h
              · rename_i b heg
                rw [heg] at hwt
                by_cases hb : b = want
                · subst hb
                  have h := h.all.1 rfl
                  rw [Env.put_same heg] at h
                  exact done e hr (by simpa using hwt) h
                · have hb' : b = !want := by cases b <;> cases want <;> first | rfl | exact absurd rfl hb
                  have h2 := h.all.2 hb'
                  clear h
                  subst hb'
                  rw [Env.put_same heg] at h2
                  exact left e hr (by rw [hwt]; simp) h2
              · rename_i hne
                refine left e hr ?_ h
                rw [hwt]
                cases heg : e g <;> first | rfl | exact absurd heg (hne _)
        refine ⟨fun hf => ?_, fun _ => ⟨Nat.succ_pos _, fun j hj hjr => ?_⟩⟩
        · subst hf
          rcases hrd with hrd | hrd
          · cases hrd
          refine ⟨fun q => (by rw [hrd] at q; cases q), fun j hj => ?_⟩
          have hj' := hj
          rw [hrd] at hj'
          obtain rfl : j = i := by simpa using hj'
          exact core hj
        · obtain rfl : j = i := by simpa [PT.heads] using hj
          exact core hjr
theorem regT {N : Nat} {P : Program} {id : Nat} {ops : Array Oper} {K : Exit → Env → World → Prop} {e : Env} {w : World} (now keep loads : List Nat) (p : PT) (hok : okT N P ops now keep loads p = true)
    (h : DrawS w fun w1 => vopsT P ops.toList now keep w1 (K .normal) p e w1) : RegS N P id ops K e w := by
  simp only [okT, Bool.and_eq_true] at hok
  obtain ⟨⟨⟨⟨⟨hm, hsel⟩, hall⟩, hlen⟩, hnow⟩, hplan⟩ := hok
  have hs : SameW w { w with drawn := w.drawn + 1 } := ⟨rfl, rfl, rfl, rfl⟩
  have hlen := Nat.eq_of_beq_eq_true hlen
  refine ⟨fun a hr => ?_⟩
  have inv0 : HeadInv .any ops ops.size (Array.replicate ops.size false) :=
    ⟨by simp, fun j oj _ hl => (by rw [getD_replicate_false] at hl; cases hl), fun t ht ht' => absurd ht' (by omega)⟩
  have H := (vopsT_sound (N := N) (Q := fun ex a' w' => match ex with | .normal => ∃ e', Rel N e' a' ∧ K .normal e' w' | _ => False) hsel
    (fun o ho => List.all_eq_true.1 hall o ho)
    (fun j hj => by
      have := List.all_eq_true.1 hnow j hj
      simp only [Bool.or_eq_true, List.all_eq_true] at this
      exact this)
    (fun e w a hk hr => ⟨e, hr, hk⟩) (fun c a w => rfl) p true false _ e a _ inv0 hplan (fun _ => HeldW.refl _) (h.all _ hs) hr).1 rfl
  rw [hlen] at H
  refine wp_mono (wp_region_any hm (wpAny_of_G _ _ _ _ H)) ?_
  intro ex a' w' q
  cases ex <;> first | exact q | exact q.elim
/-- a drawn region's end, said once -/
theorem cutReg {N : Nat} {P : Program} {id : Nat} {ops : Array Oper} {K : Exit → Env → World → Prop} {e : Env} {w : World} (J : Env → World → Prop) (h : RegS N P id ops (fun ex e w => match ex with | .normal => J e w | ex => K ex e w) e w) (k : ∀ e w, J e w → K .normal e w) : RegS N P id ops K e w :=
  ⟨fun a hr => wp_mono (h.sem a hr) fun ex a' w' ⟨e', hr', hk⟩ => ⟨e', hr', by cases ex <;> first | exact k _ _ hk | exact hk⟩⟩
end Go.Proofs.YtjdgcgmhbhfpkaaDoorE
/- Steps over rows of whatever elements. No condition of the laws stands here. -/
namespace Go.Proofs.YtjdgcgmhbhfpkaaDoorE
open Go Go.RowKit
set_option linter.unusedVariables false
set_option maxRecDepth 100000
set_option maxHeartbeats 2000000

/-- append to an own row of whatever elements -/
theorem appRS {P : Program} {B : Nat} {W0 w : World} {L : List It} {t ty e : TypeId} {z : Value} {sz bytes n m : Nat} {v x : Value} {cs ds : List Value} {K : Value → World → Prop} (ht : P.underlying t = some (.slice e))
    (inf : (P.info? e).map (fun i => (i.zero, i.size, i.bytes)) = some (some z, sz, bytes)) (hzs : z.cells.size = sz) (hsz : 0 < sz) (hby : bytes ≤ 128) (H : St B W0 w L) (i : Nat) (hi : L[i]? = some (.row v e sz n cs)) (hx : Rd w x sz m ds) (h1 : ∀ u ∈ ds, u.oneCell' = true)
    (hm : n + m ≤ 1099511627776) (k : ∀ A c w', St B W0 w' (L.set i (.row (.slice A (n + m) c) e sz (n + m) (cs ++ ds))) → K (.slice A (n + m) c) w') : RunS P (Builtin.append_ #[t, t] ty #[v, x]) w K := by
  obtain ⟨i0, q1, q2, q3, q4⟩ := infoOf inf
  refine app_run ht q1 q2 q3 q4 hzs hsz (H.own i hi) hx h1 hm hby H.size fun v' w' ho hg hb => ?_
  have H' := app_turn H i hi ho hg hb
  obtain ⟨A, c, rfl⟩ := H'.mk1 i (get_set hi)
  exact k A c w' H'
theorem HeldW.step {w0 w1 w2 : World} (h : HeldW w0 w1) (hb : Below w1.heap.size w1 w2) : HeldW w0 w2 := ⟨fun k hk => by
  have h1 := h.block k hk
  have h2 : k < w1.heap.size := by
    rcases Nat.lt_or_ge k w1.heap.size with q | q
    · exact q
    · rw [Array.getElem?_eq_none q, Array.getElem?_eq_getElem hk] at h1; cases h1
  rw [hb.block k h2, h1]⟩
theorem callRowB {P : Program} {B : Nat} {W0 w : World} {L : List It} {f : FuncId} {args : List Value} {K : Value → World → Prop} {X : List PanicEntry → World → Prop} {e : TypeId} {sz n : Nat} {cs : List Value} (ok : callOK P f = true)
    (h : Calls P f args.toArray w fun e' w' => ∃ x, e' = .returned x ∧ w'.ownsRow w.heap.size e sz x n cs ∧ Below w.heap.size w w') (H : St B W0 w L) (k : ∀ A c w', Below w.heap.size w w' → St B W0 w' (.row (.slice A n c) e sz n cs :: L) → K (.slice A n c) w') : CallS P f args w K X :=
  CallS.mk ok (h.mono fun e' w' ⟨x, he, ho, hb⟩ => by
    subst he
    obtain ⟨A, c, rfl⟩ := own_val ho
    exact k A c w' hb (newRow H ho hb))
theorem litRB {P : Program} {B : Nat} {W0 w : World} {L : List It} {t e : TypeId} {m n sz : Nat} {parts : Array (Nat × Value)} {cs : List Value} {K : Value → World → Prop} (H : St B W0 w L) (hc : cs.length = n * sz) (hl : n ≤ 1099511627776) (hr : (Instr.buildSlice t m parts).run P w = .ok (.slice (some ⟨w.heap.size, 0, none⟩) n n) (w.alloc (.cells cs.toArray e)))
    (k : ∀ A c w', Below w.heap.size w w' → St B W0 w' (.row (.slice A n c) e sz n cs :: L) → K (.slice A n c) w') : RunS P (Instr.buildSlice t m parts) w K :=
  ⟨_, _, hr, k _ _ _ (alloc_below _ _) (newRow H (own_newR hc hl) (alloc_below _ _))⟩
theorem newRB {B : Nat} {W0 w : World} {L : List It} {o : Obj} {K : Nat → World → Prop} (H : St B W0 w L) (k : ∀ g w', Below w.heap.size w w' → St B W0 w' (.obj g o :: L) → K g w') : NewS w o K :=
  ⟨fun b w' hb hw => k b w' (by subst hw; exact (Below.refl _ _).alloc (Nat.le_refl _) o) (by subst hb hw; exact H.cons ((Below.refl _ _).alloc (Nat.le_refl _) o) ⟨H.size, heap_alloc_new w o⟩ (fun g hg => by cases hg; exact Nat.le_refl _))⟩
theorem Env.seven {e : Env} {a b c d f g h : Nat} {va vb vc vd vf vg vh : Value} (ha : e a = va) (hb : e b = vb) (hc : e c = vc) (hd : e d = vd) (hf : e f = vf) (hg : e g = vg) (hh : e h = vh) : e = (((((((e.put a va).put b vb).put c vc).put d vd).put f vf).put g vg).put h vh) := by rw [Env.put_same ha, Env.put_same hb, Env.put_same hc, Env.put_same hd, Env.put_same hf, Env.put_same hg, Env.put_same hh]
theorem Env.eight {e : Env} {a b c d f g h i : Nat} {va vb vc vd vf vg vh vi : Value} (ha : e a = va) (hb : e b = vb) (hc : e c = vc) (hd : e d = vd) (hf : e f = vf) (hg : e g = vg) (hh : e h = vh) (hi : e i = vi) : e = ((((((((e.put a va).put b vb).put c vc).put d vd).put f vf).put g vg).put h vh).put i vi) := by rw [Env.put_same ha, Env.put_same hb, Env.put_same hc, Env.put_same hd, Env.put_same hf, Env.put_same hg, Env.put_same hh, Env.put_same hi]
theorem Env.nine {e : Env} {a b c d f g h i j : Nat} {va vb vc vd vf vg vh vi vj : Value} (ha : e a = va) (hb : e b = vb) (hc : e c = vc) (hd : e d = vd) (hf : e f = vf) (hg : e g = vg) (hh : e h = vh) (hi : e i = vi) (hj : e j = vj) : e = (((((((((e.put a va).put b vb).put c vc).put d vd).put f vf).put g vg).put h vh).put i vi).put j vj) := by rw [Env.put_same ha, Env.put_same hb, Env.put_same hc, Env.put_same hd, Env.put_same hf, Env.put_same hg, Env.put_same hh, Env.put_same hi, Env.put_same hj]
theorem Env.ten {e : Env} {a b c d f g h i j k : Nat} {va vb vc vd vf vg vh vi vj vk : Value} (ha : e a = va) (hb : e b = vb) (hc : e c = vc) (hd : e d = vd) (hf : e f = vf) (hg : e g = vg) (hh : e h = vh) (hi : e i = vi) (hj : e j = vj) (hk : e k = vk) : e = ((((((((((e.put a va).put b vb).put c vc).put d vd).put f vf).put g vg).put h vh).put i vi).put j vj).put k vk) := by rw [Env.put_same ha, Env.put_same hb, Env.put_same hc, Env.put_same hd, Env.put_same hf, Env.put_same hg, Env.put_same hh, Env.put_same hi, Env.put_same hj, Env.put_same hk]
end Go.Proofs.YtjdgcgmhbhfpkaaDoorE
/- The program's kinds of points, and its run over points of given kinds. -/
namespace Go.Proofs.YtjdgcgmhbhfpkaaDoorE
open Go Go.RowKit Go.Proofs
set_option linter.unusedVariables false
set_option linter.unusedSimpArgs false
set_option maxRecDepth 100000
set_option maxHeartbeats 4000000

def inQ (os : List Int) (p : Int) : Bool := decide (0 ≤ p ∧ sortN p ∈ os)
theorem ok_run1 : callOK Tryd.prog 34 = true := by kernel_rfl
theorem impl_run1 {xs os : List Int} (hb : byteOK xs) {A A2 : Option Addr} {n c n2 c2 g gs i : Nat} {qs : List Int} (hl : n ≤ 4294967296) (hn2 : n2 ≤ 16) (ha : At xs i qs) {B : Nat} {W0 w : World} {L : List It}
    (H : St B W0 w (scO g (.slice A n c) i :: txt (.slice A n c) n xs :: .obj gs (.cells #[.pointer (some ⟨g, 0, none⟩)] 41) :: .row (.slice A2 n2 c2) 60 1 n2 (os.map (.int .i64)) :: L)) :
    Calls Tryd.prog 34 #[.slice A2 n2 c2, .pointer (some ⟨gs, 0, none⟩)] w fun e w' => e = .returned (.tuple #[]) ∧ ∃ i' : Nat, At xs i' (qs.dropWhile (inQ os)) ∧ St B W0 w' (scO g (.slice A n c) i' :: txt (.slice A n c) n xs :: .obj gs (.cells #[.pointer (some ⟨g, 0, none⟩)] 41) :: .row (.slice A2 n2 c2) 60 1 n2 (os.map (.int .i64)) :: L) := by
  obtain rfl : n2 = os.length := by have := (H.rd 3 rfl).len; simpa using this.symm
  have hln : n = xs.length := by have := (H.rd 1 rfl).len; simpa using this.symm
  refine calls_of_vcV (args := [.slice A2 os.length c2, .pointer (some ⟨gs, 0, none⟩)]) Tryd.func34 rfl (by kernel_rfl) (Nat.le_of_ble_eq_true rfl) ?_
  refine loopV (by kernel_rfl) (fun m e w => e 0 = .slice A2 os.length c2 ∧ e 1 = .pointer (some ⟨gs, 0, none⟩) ∧ ∃ (i' : Nat) (r : List Int), r.length = m ∧ At xs i' r ∧ qs.dropWhile (inQ os) = r.dropWhile (inQ os) ∧ St B W0 w (scO g (.slice A n c) i' :: txt (.slice A n c) n xs :: .obj gs (.cells #[.pointer (some ⟨g, 0, none⟩)] 41) :: .row (.slice A2 os.length c2) 60 1 os.length (os.map (.int .i64)) :: L)) qs.length
    ⟨rfl, rfl, i, qs, rfl, ha, rfl, H⟩ ?_
  rintro m e w ⟨h0, h1, i', r, hrl, ha, hdw, H⟩
  rw [Env.two h0 h1]
  have hbd := headN_bd hb ha
  refine loadO H 2 rfl rfl ?_
  refine callU ok_peek (impl_peek hb hl ha H) fun w H => ?_
  obtain ⟨p, hp⟩ : ∃ p, headP r = p := ⟨_, rfl⟩
  obtain ⟨q, hq⟩ : ∃ q, headN xs i' r = q := ⟨_, rfl⟩
  rw [hp, hq]
  rw [hq] at hbd
  refine loopV (by kernel_rfl) (fun k e w => e 0 = .slice A2 os.length c2 ∧ e 1 = .pointer (some ⟨gs, 0, none⟩) ∧ e 3 = .int .i32 p ∧ e 4 = .int .i64 q ∧ e 13 = .slice A2 os.length c2 ∧ e 14 = .int .i64 os.length ∧ ∃ j : Nat, e 15 = .int .i64 j ∧ j + k = os.length ∧ e 5 = .bool (decide (0 ≤ p ∧ sortN p ∈ os.take j)) ∧ St B W0 w (scO g (.slice A n c) i' :: txt (.slice A n c) n xs :: .obj gs (.cells #[.pointer (some ⟨g, 0, none⟩)] 41) :: .row (.slice A2 os.length c2) 60 1 os.length (os.map (.int .i64)) :: L)) os.length
    ⟨rfl, rfl, rfl, rfl, rfl, rfl, 0, rfl, by omega, congrArg Value.bool (by simp), H⟩ ?_
  rintro k e w ⟨h0, h1, h3, h4, h13, h14, j, h15, hj, h5, H⟩
  rw [Env.eight h0 h1 h3 h4 h13 h14 h15 h5]
  have hmem : j < os.length → (sortN p ∈ os.take (j + 1) ↔ (sortN p ∈ os.take j ∨ sortN p = os.getD j 0)) := fun hj => by
    rw [List.take_add_one, List.getElem?_eq_getElem hj, List.getD_eq_getElem?_getD, List.getElem?_eq_getElem hj, List.mem_append, Option.toList_some, List.mem_singleton, Option.getD_some]
  refine ifB (fun c0 => ?_) (fun c0 => ?_)
  · refine idxN (i := j) (H.rd 3 rfl) (by omega) fun b off hc => ?_
    refine loadS hc ?_
    refine RegV.mk ?_
    refine gF (fun c4 => ?_) (fun c4 => ?_)
    · refine gT (fun c5 => ?_) (fun c5 => ?_)
      · refine callV ok_sortOf (impl_sortOf _ _) H fun w H => ?_
        refine gY ?_
        refine arN (by omega) ?_
        have hm := hmem (by omega)
        have c4' : sortN p ∉ os.take j := fun z => c4 ⟨c5, z⟩
        have c5' : 0 ≤ p := c5
        exact Exists.intro (k - 1) (And.intro (by omega) ⟨rfl, rfl, rfl, rfl, rfl, rfl, j + 1, rfl, by omega, congrArg Value.bool (by simp [hm, c4', c5']), H⟩)
      · refine gY ?_
        refine arN (by omega) ?_
        exact Exists.intro (k - 1) (And.intro (by omega) ⟨rfl, rfl, rfl, rfl, rfl, rfl, j + 1, rfl, by omega, congrArg Value.bool (by simp only [show ¬ (0 ≤ p) from c5, false_and, decide_false]), H⟩)
    · refine gNot ?_
      refine gNt ?_
      refine arN (by omega) ?_
      have hm := hmem (by omega)
      exact Exists.intro (k - 1) (And.intro (by omega) ⟨rfl, rfl, rfl, rfl, rfl, rfl, j + 1, rfl, by omega, congrArg Value.bool (by simp [hm, c4.1, c4.2]), H⟩)
  · refine ifNot ?_
    refine ifB (fun c15 => ?_) (fun c15 => ?_)
    · refine loadO H 2 rfl rfl ?_
      refine loadO H 0 rfl rfl ?_
      refine ar64 (by omega) (by omega) ?_
      refine storeO H 0 rfl rfl rfl fun w H => ?_
      rw [List.take_of_length_le (by omega)] at c15
      subst hq
      have H : St B W0 w (scO g (.slice A n c) (i' + headN xs i' r) :: txt (.slice A n c) n xs :: .obj gs (.cells #[.pointer (some ⟨g, 0, none⟩)] 41) :: .row (.slice A2 os.length c2) 60 1 os.length (os.map (.int .i64)) :: L) := H
      obtain ⟨i2, ha2, HH⟩ := advO hb ha H
      cases r with
      | nil => have : p = -1 := hp.symm; omega
      | cons a r =>
        obtain rfl : a = p := hp
        rw [List.dropWhile_cons, if_pos (show inQ os a = true from decide_eq_true c15)] at hdw
        simp only [List.length_cons] at hrl
        exact Exists.intro (m - 1) (And.intro (by omega) ⟨rfl, rfl, i2, r, by omega, ha2, hdw, HH⟩)
    · rw [List.take_of_length_le (by omega)] at c15
      have hE : r.dropWhile (inQ os) = r := by
        cases r with
        | nil => rfl
        | cons a r =>
          obtain rfl : a = p := hp
          rw [List.dropWhile_cons, if_neg (show ¬ inQ os a = true from fun z => c15 (of_decide_eq_true z))]
      rw [hdw, hE]
      exact And.intro rfl ⟨i', ha, H⟩
end Go.Proofs.YtjdgcgmhbhfpkaaDoorE
