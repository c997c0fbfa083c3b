/- Own rows: parts written over, cleared, made longer, copied. No condition of the laws stands here. -/
import Derived.Test.YtpaklalfopfilaaSel
import Derived.Lib.AppendZerosOnto
import Derived.Lib.Overlaps
import Derived.Laws.CopyRow
namespace Go.Proofs.YtpaklalfopfilaaE
open Go Go.RowKit
set_option linter.unusedVariables false
set_option maxRecDepth 100000

def seg (l : List Value) (o : Nat) (vs : List Value) : List Value := l.take o ++ vs ++ l.drop (o + vs.length)
theorem seg_len {l : List Value} {o : Nat} {vs : List Value} (h : o + vs.length ≤ l.length) : (seg l o vs).length = l.length := by
  simp only [seg, List.length_append, List.length_take, List.length_drop]; omega
theorem seg_nil (l : List Value) (o : Nat) : seg l o [] = l := by simp [seg]
theorem seg_mid (p q r v : List Value) (h : q.length = v.length) : seg (p ++ q ++ r) p.length v = p ++ v ++ r := by
  have e1 : List.take p.length (p ++ (q ++ r)) = p := by simp
  have e2 : List.drop (p.length + v.length) (p ++ (q ++ r)) = r := by
    rw [← h, ← List.length_append, ← List.append_assoc, List.drop_left]
  simp only [seg, List.append_assoc, e1, e2]
theorem seg_take {l : List Value} {o m : Nat} {vs : List Value} (h : o + vs.length ≤ m) : (seg l o vs).take m = seg (l.take m) o vs ∨ l.length < o + vs.length := by
  by_cases hl : l.length < o + vs.length
  · exact .inr hl
  · left
    have e1 : (l.take o ++ vs).length = o + vs.length := by simp only [List.length_append, List.length_take]; omega
    unfold seg
    rw [List.take_append, e1, List.take_of_length_le (l := l.take o ++ vs) (by omega), List.take_take, Nat.min_eq_left (by omega), List.drop_take]
theorem own_seg {w : World} {B : Nat} {e : TypeId} {sz : Nat} {A : Option Addr} {n c m : Nat} {cs : List Value} (h : w.ownsRow B e sz (.slice A n c) n cs) {o : Nat} {vs : List Value} (hm : o + vs.length ≤ c * sz) (hp : A ≠ none) :
    ∃ b cur, A = some ⟨b, 0, none⟩ ∧ w.heap[b]? = some (.cells cur e (0, 0)) ∧ o + vs.length ≤ cur.size ∧ w.grownBy (w.setRow b (cur.toList.take o ++ vs ++ cur.toList.drop (o + vs.length)).toArray) (some b) ∧
      (o + vs.length ≤ n * sz → (w.setRow b (cur.toList.take o ++ vs ++ cur.toList.drop (o + vs.length)).toArray).ownsRow B e sz (.slice A n c) n (seg cs o vs)) ∧
      (n * sz ≤ o → (w.setRow b (cur.toList.take o ++ vs ++ cur.toList.drop (o + vs.length)).toArray).ownsRow B e sz (.slice A n c) n cs) := by
  obtain ⟨hl, h⟩ := h
  rcases h with ⟨h1, h2⟩ | ⟨g, cap, cur, h1, hb, hg, hn, hc, hs, ht⟩
  · cases h1; exact absurd rfl hp
  · cases h1
    have hcs : cur.toList.length = c * sz := by simpa using hs
    have hle : n * sz ≤ c * sz := Nat.mul_le_mul_right _ hn
    have hg' := setRow_heap w g cur (cur.toList.take o ++ vs ++ cur.toList.drop (o + vs.length)).toArray e (0, 0) hg
    have hsz : (cur.toList.take o ++ vs ++ cur.toList.drop (o + vs.length)).length = c * sz := by
      have := seg_len (l := cur.toList) (o := o) (vs := vs) (by omega)
      unfold seg at this; omega
    refine ⟨g, cur, rfl, hg, by rw [hs]; exact hm, ⟨rfl, rfl, rfl, by simp, fun k hk hne => setRow_other w g k _ (fun e => hne (by rw [e]))⟩, fun hin => ⟨?_, .inr ⟨g, c, _, rfl, hb, hg', hn, hc, by simpa using hsz, ?_⟩⟩, fun hout => ⟨hl, .inr ⟨g, c, _, rfl, hb, hg', hn, hc, by simpa using hsz, ?_⟩⟩⟩
    · rw [seg_len (by omega)]; exact hl
    · rcases seg_take (l := cur.toList) (vs := vs) hin with q | q
      · rw [ht] at q; exact q
      · omega
    · rw [← ht]
      have e1 : (cur.toList.take o).length = o := by rw [List.length_take]; omega
      show ((cur.toList.take o ++ vs ++ cur.toList.drop (o + vs.length))).take (n * sz) = _
      rw [List.append_assoc, List.take_append_of_le_length (by omega), List.take_take, Nat.min_eq_left hout]
theorem own_some {w : World} {B : Nat} {e : TypeId} {sz : Nat} {A : Option Addr} {n c : Nat} {cs : List Value} (h : w.ownsRow B e sz (.slice A n c) n cs) (hp : 0 < c) : A ≠ none := by
  obtain ⟨hl, h⟩ := h
  rcases h with ⟨h1, h2⟩ | ⟨g, cap, cur, h1, _⟩
  · cases h1; omega
  · cases h1; exact fun e => by cases e
theorem set_same {α : Type} {L : List α} {i : Nat} {a : α} (h : L[i]? = some a) : L.set i a = L := by
  obtain ⟨hi, rfl⟩ := List.getElem?_eq_some_iff.1 h
  exact List.set_getElem_self hi
section
variable {P : Program} {B : Nat} {W0 w : World} {L : List It}
theorem capS {t e ty : TypeId} {A : Option Addr} {n c : Nat} {K : Value → World → Prop} (ht : P.underlying t = some (.slice e)) (k : K (.int .i64 c) w) : RunS P (Builtin.cap_ #[t] ty #[.slice A n c]) w K :=
  ⟨_, _, by simp [Builtin.cap_, run_underlying ht]; rfl, k⟩
/-- a part of an own row -/
theorem own_part {w : World} {B : Nat} {e : TypeId} {sz : Nat} {A : Option Addr} {n c : Nat} {cs : List Value} (h : w.ownsRow B e sz (.slice A n c) n cs) (l m : Nat) (h1 : l ≤ m) (h2 : m ≤ n) :
    Rd w (.slice (if c = l then A else A.map (·.add (l * sz))) (m - l) (c - l)) sz (m - l) ((cs.take (m * sz)).drop (l * sz)) := by
  have hr := own_rd h
  have hcap := hr.cap
  have hle : m * sz ≤ n * sz := Nat.mul_le_mul_right _ h2
  have hl := hr.len
  refine ⟨by rw [List.length_drop, List.length_take, Nat.min_eq_left (by omega), Nat.sub_mul], _, _, rfl, by omega, ?_⟩
  by_cases hz : m - l = 0
  · exact .inl hz
  · obtain ⟨b, rfl, hc⟩ := own_cells h (by omega)
    refine .inr ⟨b, l * sz, by rw [if_neg (by omega), Option.map_some, add_plain, Nat.zero_add], fun j hj => ?_⟩
    simp only [List.length_drop, List.length_take] at hj
    rw [hc _ (by omega), List.getElem?_drop, List.getElem?_take, if_pos (by omega)]
theorem CutS.own {A : Option Addr} {n c sz l h : Nat} {lo hi : Option Int} {e : TypeId} {cs : List Value} {K : Nat → Nat → Option Addr → Prop} (H : St B W0 w L) (i : Nat) (hi' : L[i]? = some (.row (.slice A n c) e sz n cs)) (hl : lo.getD 0 = l) (hh : hi.getD n = h) (h1 : l ≤ h) (h2 : h ≤ n)
    (q : ∀ A', A' = (if c = l then A else A.map (·.add (l * sz))) → Rd w (.slice A' (h - l) (c - l)) sz (h - l) ((cs.take (h * sz)).drop (l * sz)) → K l h A') : CutS n c lo hi fun l h => LetS (if c = l then A else A.map (·.add (l * sz))) (K l h) :=
  ⟨l, h, hl, hh, h1, fun _ => by have := (own_rd (H.own i hi')).cap; omega, ⟨fun A' hA => q A' hA (by rw [hA]; exact own_part (H.own i hi') l h h1 h2)⟩⟩
/-- whatever cut, nothing said -/
theorem CutS.any {A : Option Addr} {n c sz l h : Nat} {lo hi : Option Int} {K : Nat → Nat → Option Addr → Prop} (hl : lo.getD 0 = l) (hh : hi.getD n = h) (h1 : l ≤ h) (h2 : h ≤ c) (q : ∀ A', A' = (if c = l then A else A.map (·.add (l * sz))) → K l h A') : CutS n c lo hi fun l h => LetS (if c = l then A else A.map (·.add (l * sz))) (K l h) :=
  ⟨l, h, hl, hh, h1, fun _ => h2, ⟨fun A' hA => q A' hA⟩⟩
theorem copyOwn {t t' ty e : TypeId} {sz n c dl dc d k m mc : Nat} {A A1 A' : Option Addr} {cs ds : List Value} {K : Value → World → Prop} (ht : P.underlying t = some (.slice e)) (hsz : (P.info? e).map (·.size) = some sz) (H : St B W0 w L) (i : Nat) (hi : L[i]? = some (.row (.slice A n c) e sz n cs))
    (hx : Rd w (.slice A' m mc) sz m ds) (h1 : ∀ u ∈ ds.take (k * sz), u.oneCell' = true) (hk : Nat.min m dl = k) (hd : d + dl ≤ n) (hA : dl = 0 ∨ A1 = A.map (·.add (d * sz)))
    (q : ∀ w', St B W0 w' (L.set i (.row (.slice A n c) e sz n (seg cs (d * sz) (ds.take (k * sz))))) → K (.int .i64 k) w') : RunS P (Builtin.copy_ #[t, t'] ty #[.slice A1 dl dc, .slice A' m mc]) w K := by
  cases hq : P.info? e with
  | none => simp [hq] at hsz
  | some inf =>
  have hsi : inf.size = sz := by simpa [hq] using hsz
  have ho := H.own i hi
  by_cases hk0 : k = 0
  · subst hk0
    refine ⟨.int .i64 0, w, ?_, ?_⟩
    · have hl : ∀ (x : Addr), (loadCells x 0).run P w = .ok #[] w := fun x => by simpa using run_loadCells_list (P := P) w x [] (by simp)
      cases A1 <;> cases A' <;> simp [Builtin.copy_, run_underlying ht, Builtin.lenOf, Builtin.firstCells, sizeOf, typeInfo, hq, hk, storeCells, hl] <;> rfl
    · refine q w ?_
      rw [Nat.zero_mul, List.take_zero, seg_nil, set_same hi]; exact H
  · have hmk : k ≤ m ∧ k ≤ dl := by rw [← hk]; exact ⟨Nat.min_le_left _ _, Nat.min_le_right _ _⟩
    have hks : k * sz ≤ m * sz := Nat.mul_le_mul_right _ hmk.1
    have hcap := (own_rd ho).cap
    have hrl := hx.len
    have hcl := (own_rd ho).len
    obtain ⟨_, A2, c2, e2, _, hx⟩ := hx
    cases e2
    rcases hx with hx | ⟨b', off', rfl, hx⟩
    · omega
    have hvl : (ds.take (k * sz)).length = k * sz := by rw [List.length_take]; omega
    have hds : d * sz + k * sz ≤ n * sz := by rw [← Nat.add_mul]; exact Nat.mul_le_mul_right _ (by omega)
    have hns : n * sz ≤ c * sz := Nat.mul_le_mul_right _ hcap
    obtain ⟨b, cur, rfl, hg, hfit, hgrow, hin, _⟩ := own_seg (m := 0) ho (o := d * sz) (vs := ds.take (k * sz)) (by omega) (own_some ho (by omega))
    have hA1 : A1 = some ⟨b, d * sz, none⟩ := by
      rcases hA with hA | hA
      · omega
      · rw [hA, Option.map_some, add_plain, Nat.zero_add]
    subst hA1
    have hf := run_firstCells_some (P := P) w sz k ⟨b', off', none⟩ m mc (ds.take (k * sz)) hvl (fun j u hu => by
      rw [List.getElem?_take] at hu
      split at hu
      · rw [add_plain, hx j (List.getElem?_eq_some_iff.1 hu).1]; exact hu
      · cases hu)
    have hst := run_storeCells_at P b (d * sz) e (ds.take (k * sz)) 0 cur w hg (by simpa using hfit) h1
    simp only [Nat.add_zero] at hst
    refine ⟨.int .i64 k, _, ?_, q _ (H.turn i hi hgrow (hin (by omega)) (fun g hg => .inl hg))⟩
    simp [Builtin.copy_, run_underlying ht, Builtin.lenOf, sizeOf, typeInfo, hq, hsi, hk, hf, hst]
    rfl
theorem clearOwn {t ty e : TypeId} {z : Value} {sz bytes n c dl dc d : Nat} {A A1 : Option Addr} {cs : List Value} {K : Value → World → Prop} (ht : P.underlying t = some (.slice e)) (inf : (P.info? e).map (fun i => (i.zero, i.size, i.bytes)) = some (some z, sz, bytes)) (hzs : z.cells.size = sz) (hz1 : ∀ u ∈ (Builtin.zeroCells z.cells dl).toList, u.oneCell' = true)
    (H : St B W0 w L) (i : Nat) (hi : L[i]? = some (.row (.slice A n c) e sz n cs)) (hd : d + dl ≤ c) (hn : n ≤ d) (hA : dl = 0 ∨ A1 = A.map (·.add (d * sz))) (q : ∀ w', St B W0 w' L → K (.tuple #[]) w') : RunS P (Builtin.clear_ #[t] ty #[.slice A1 dl dc]) w K := by
  obtain ⟨i0, q1, q2, q3, q4⟩ := infoOf inf
  have ho := H.own i hi
  by_cases h0 : dl = 0
  · subst h0
    refine ⟨.tuple #[], w, ?_, q w H⟩
    cases A1 <;> simp [Builtin.clear_, run_underlying ht]
  · have hzl : (Builtin.zeroCells z.cells dl).toList.length = dl * sz := by rw [Array.length_toList, size_zeroCells, hzs]
    have hds : d * sz + dl * sz ≤ c * sz := by rw [← Nat.add_mul]; exact Nat.mul_le_mul_right _ hd
    have hns : n * sz ≤ d * sz := Nat.mul_le_mul_right _ hn
    obtain ⟨b, cur, rfl, hg, hfit, hgrow, _, hout⟩ := own_seg (m := 0) ho (o := d * sz) (vs := (Builtin.zeroCells z.cells dl).toList) (by omega) (own_some ho (by omega))
    have hA1 : A1 = some ⟨b, d * sz, none⟩ := by
      rcases hA with hA | hA
      · omega
      · rw [hA, Option.map_some, add_plain, Nat.zero_add]
    subst hA1
    have hst := run_storeCells_at P b (d * sz) e (Builtin.zeroCells z.cells dl).toList 0 cur w hg (by simpa using hfit) hz1
    simp only [Nat.add_zero] at hst
    have H' := H.turn i hi (it' := .row (.slice (some ⟨b, 0, none⟩) n c) e sz n cs) hgrow (hout hns) (fun g hg => .inl hg)
    rw [set_same hi] at H'
    refine ⟨.tuple #[], _, ?_, q _ H'⟩
    obtain ⟨dl, rfl⟩ : ∃ x, dl = x + 1 := ⟨dl - 1, by omega⟩
    simp [Builtin.clear_, run_underlying ht, zeroValue, typeInfo, q1, q2, hst]
/-- append to the first d elements of an own row, in place -/
theorem appCut {t ty e : TypeId} {z : Value} {sz bytes n c d m mc : Nat} {A A1 A' : Option Addr} {cs ds : List Value} {K : Value → World → Prop} (ht : P.underlying t = some (.slice e)) (inf : (P.info? e).map (fun i => (i.zero, i.size, i.bytes)) = some (some z, sz, bytes))
    (H : St B W0 w L) (i : Nat) (hi : L[i]? = some (.row (.slice A n c) e sz n cs)) (hx : Rd w (.slice A' m mc) sz m ds) (h1 : ∀ u ∈ ds, u.oneCell' = true) (hd : d ≤ n) (hroom : d + m ≤ c) (hA : A1 = A)
    (q : ∀ w', St B W0 w' (L.set i (.row (.slice A (d + m) c) e sz (d + m) (cs.take (d * sz) ++ ds))) → K (.slice A (d + m) c) w') : RunS P (Builtin.append_ #[t, t] ty #[.slice A1 d c, .slice A' m mc]) w K := by
  subst hA
  obtain ⟨i0, q1, q2, q3, q4⟩ := infoOf inf
  have ho := own_take (H.own i hi) d hd
  have hlo : ∀ g, (It.row (.slice A1 (d + m) c) e sz (d + m) (cs.take (d * sz) ++ ds)).leans = some g → (It.row (.slice A1 n c) e sz n cs).own = some g ∨ w.heap.size ≤ g := fun g hg => .inl (by cases A1 <;> exact hg)
  have fin : ds = [] → m = 0 → ∃ v w', (Builtin.append_ #[t, t] ty #[.slice A1 d c, .slice A' m mc]).run P w = .ok v w' ∧ K v w' := fun hds hm => by
    subst hds hm
    refine ⟨.slice A1 (d + 0) c, w, ?_, q w (H.turn i hi ⟨rfl, rfl, rfl, Nat.le_refl _, fun _ _ _ => rfl⟩ (show w.ownsRow B e sz (.slice A1 d c) d (cs.take (d * sz) ++ []) by simpa using ho) hlo)⟩
    have hl : ∀ (x : Addr), (loadCells x 0).run P w = .ok #[] w := fun x => by simpa using run_loadCells_list (P := P) w x [] (by simp)
    have hroom : d ≤ c := hroom
    cases A1 <;> cases A' <;> simp [Builtin.append_, run_underlying ht, sizeOf, typeInfo, q1, Builtin.lenOf, Builtin.firstCells, hl, hroom, storeCells]
  by_cases hm : m = 0
  · have hl := hx.len
    subst hm
    exact ⟨fin (List.length_eq_zero_iff.1 (by omega)) rfl⟩
  · have hl := hx.len
    obtain ⟨_, A2, c2, e2, _, hx⟩ := hx
    cases e2
    rcases hx with hx | ⟨b', off', rfl, hx⟩
    · omega
    obtain ⟨hol, ho⟩ := ho
    rcases ho with ⟨h1', h2⟩ | ⟨g, cap, cur, h1', hb, hg, hn, hc, hs, htk⟩
    · cases h1'; omega
    cases h1'
    have hfit : d * sz + ds.length ≤ cur.size := by rw [hl, hs, ← Nat.add_mul]; exact Nat.mul_le_mul_right _ hroom
    have hr := run_append_room (P := P) w t ty e i0 ht q1 g d c cur hg ⟨b', off', none⟩ m mc ds (by rw [q3]; exact hl) (fun j u hu => by rw [add_plain, hx j (List.getElem?_eq_some_iff.1 hu).1]; exact hu) h1 hroom (by rw [q3]; exact hfit)
    rw [q3] at hr
    refine ⟨_, _, hr, q _ (H.turn i hi (it' := .row (.slice (some ⟨g, 0, none⟩) (d + m) c) e sz (d + m) (cs.take (d * sz) ++ ds)) ⟨rfl, rfl, rfl, by simp, fun k _ hk => setRow_other w g k _ (fun e => hk (by rw [e]; rfl))⟩ ⟨?_, .inr ⟨g, c, _, rfl, hb, setRow_heap w g cur _ e _ hg, hroom, hc, ?_, ?_⟩⟩ hlo)⟩
    · rw [List.length_append, hol, hl, Nat.add_mul]
    · simp only [List.size_toArray, List.length_append, List.length_take, List.length_drop, Array.length_toList]; omega
    · rw [← htk, show (d + m) * sz = (cur.toList.take (d * sz) ++ ds).length by rw [List.length_append, htk, hol, hl, Nat.add_mul]]
      exact List.take_left
/-- append of zeros to the first d elements of a row, where there is no room -/
theorem appZeros {t tn ty e : TypeId} {z : Value} {kq kn : IntKind} {sz bytes n c d k : Nat} {x : Int} {A A1 : Option Addr} {cs : List Value} {K : Value → World → Prop} (ht : P.underlying t = some (.slice e)) (htn : P.underlying tn = some (.int kn)) (inf : (P.info? e).map (fun i => (i.zero, i.size, i.bytes)) = some (some z, sz, bytes)) (hzs : z.cells.size = sz) (hsz : 0 < sz) (hby : bytes ≤ 128)
    (H : St B W0 w L) (hr : Rd w (.slice A n c) sz n cs) (hd : d ≤ n) (hx : x = (k : Int)) (hk : 0 < k) (hroom : c < d + k) (hm : d + k ≤ 1099511627776) (hA : A1 = A)
    (q : ∀ A2 c2 Z w', Z.length = k * sz → St B W0 w' (.row (.slice A2 (d + k) c2) e sz (d + k) (cs.take (d * sz) ++ Z) :: L) → K (.slice A2 (d + k) c2) w') : RunS P (Builtin.append_ #[t, tn] ty #[.slice A1 d c, .int kq x]) w K := by
  subst hA hx
  obtain ⟨i0, q1, q2, q3, q4⟩ := infoOf inf
  have hl := hr.len
  have hds : d * sz ≤ n * sz := Nat.mul_le_mul_right _ hd
  have hol : (cs.take (d * sz)).length = d * sz := by rw [List.length_take]; omega
  have hold : (Builtin.firstCells i0.size d (.slice A1 d c)).run P w.drew = .ok (cs.take (d * sz)).toArray w.drew := by
    obtain ⟨_, A2, c2, e2, _, hx⟩ := hr
    cases e2
    rw [q3]
    cases A1 with
    | none =>
      have hn0 : n = 0 := by rcases hx with hx | ⟨_, _, e, _⟩; exact hx; cases e
      have hd0 : d = 0 := by omega
      subst hd0
      simp [Builtin.firstCells]
    | some a =>
      refine run_firstCells_some (P := P) w.drew sz d a d c (cs.take (d * sz)) hol fun j u hu => ?_
      rw [List.getElem?_take] at hu
      split at hu
      · rcases hx with hx | ⟨b', off', ea, hx⟩
        · rw [hx, Nat.zero_mul] at hds; omega
        · cases ea
          rw [add_plain]
          exact (hx j (List.getElem?_eq_some_iff.1 hu).1).trans hu
      · cases hu
  have nb : (d + k) * bytes ≤ 140737488355328 := Nat.le_trans (Nat.mul_le_mul hm hby) (by decide)
  have nk : k * bytes ≤ 281474976710656 := Nat.le_trans (Nat.mul_le_mul_right _ (by omega : k ≤ d + k)) (by omega)
  have hrun := Lib.run_append_grow_zeros (P := P) w t tn ty e i0 z kq kn ht htn q1 q2 A1 d c (cs.take (d * sz)) hold k hk (by omega) hroom (by omega) (by rw [q4]; exact nk) (by rw [q4]; exact growslice_fits hroom nb)
  have hge := grownCap_ge w (d + k) c e
  have hcm : grownCap w (d + k) c e ≤ maxLen := grownCap_le_maxLen w (d + k) c e (by unfold maxLen; omega)
  have hzl : (Builtin.zeroCells z.cells k).toList.length = k * sz := by rw [Array.length_toList, size_zeroCells, hzs]
  have hsz2 : z.cells.size = sz := hzs
  refine ⟨_, _, hrun, q _ _ (Builtin.zeroCells z.cells k).toList _ hzl (newRow H ⟨?_, .inr ⟨w.heap.size, _, _, rfl, Nat.le_refl _, heap_alloc_new w.drew _, hge, hcm, ?_, ?_⟩⟩ ⟨rfl, rfl, rfl, by simp, fun k hk => heap_alloc_old w.drew _ k hk⟩)⟩
  · rw [List.length_append, hol, hzl, Nat.add_mul]
  · simp only [Array.size_append, List.size_toArray, size_zeroCells, hzs, hol, ← Nat.add_mul]
    congr 1; omega
  · simp only [Array.toList_append]
    rw [show (d + k) * sz = (cs.take (d * sz) ++ (Builtin.zeroCells z.cells k).toList).length by rw [List.length_append, hol, hzl, Nat.add_mul]]
    exact List.take_left
/-- a longer slice of an own row, within its room -/
theorem CutS.more {A : Option Addr} {n c sz h : Nat} {lo hi : Option Int} {e : TypeId} {cs : List Value} {K : Nat → Nat → Option Addr → Prop} (H : St B W0 w L) (i : Nat) (hi' : L[i]? = some (.row (.slice A n c) e sz n cs)) (hl : lo.getD 0 = 0) (hh : hi.getD n = h) (h2 : n ≤ h) (h3 : h ≤ c) (hp : 0 < c)
    (q : ∀ T, T.length = (h - n) * sz → St B W0 w (L.set i (.row (.slice A h c) e sz h (cs ++ T))) → K 0 h A) : CutS n c lo hi fun l h => LetS (if c = l then A else A.map (·.add (l * sz))) (K l h) := by
  refine ⟨0, h, hl, hh, Nat.zero_le _, fun _ => h3, ⟨fun A' hA => ?_⟩⟩
  have : A' = A := by
    rw [hA]
    split
    · rfl
    · cases A with
      | none => rfl
      | some a => simp [add_zero]
  subst this
  obtain ⟨hol, ho⟩ := H.own i hi'
  rcases ho with ⟨h1', h2'⟩ | ⟨g, cap, cur, h1', hb, hg, hn, hc, hs, htk⟩
  · cases h1'; omega
  cases h1'
  have hns : n * sz ≤ h * sz := Nat.mul_le_mul_right _ h2
  have hhs : h * sz ≤ c * sz := Nat.mul_le_mul_right _ h3
  have e1 : cs ++ (cur.toList.drop (n * sz)).take ((h - n) * sz) = cur.toList.take (h * sz) := by
    rw [← htk, Nat.sub_mul, ← List.drop_take]
    have e0 : cur.toList.take (n * sz) = (cur.toList.take (h * sz)).take (n * sz) := by rw [List.take_take, Nat.min_eq_left hns]
    rw [e0]
    exact List.take_append_drop (n * sz) (cur.toList.take (h * sz))
  refine q _ ?_ (H.turn i hi' ⟨rfl, rfl, rfl, Nat.le_refl _, fun _ _ _ => rfl⟩ (it' := .row (.slice (some ⟨g, 0, none⟩) h c) e sz h (cs ++ (cur.toList.drop (n * sz)).take ((h - n) * sz))) ⟨?_, .inr ⟨g, c, cur, rfl, hb, hg, h3, hc, hs, e1.symm⟩⟩ (fun g hg => .inl hg))
  · rw [List.length_take, List.length_drop, Array.length_toList, hs, Nat.sub_mul]; omega
  · rw [e1, List.length_take, Array.length_toList, hs]; omega
theorem own_shape {w : World} {B : Nat} {e : TypeId} {sz : Nat} {A : Option Addr} {n c : Nat} {cs : List Value} (h : w.ownsRow B e sz (.slice A n c) n cs) (hc : 0 < c) : ∃ b, A = some ⟨b, 0, none⟩ ∧ w.shape? b = some (e, c * sz) ∧ ∀ o, w.frozen? ⟨b, o, none⟩ = false := by
  obtain ⟨hol, ho⟩ := h
  rcases ho with ⟨h1', h2'⟩ | ⟨g, cap, cur, h1', hb, hg, hn, hc, hs, htk⟩
  · cases h1'; omega
  cases h1'
  exact ⟨g, rfl, by simp [World.shape?, hg, hs], fun o => by simp [World.frozen?, hg]⟩
/-- a slice with a bound of its room -/
theorem slice3 {t e : TypeId} {sz n c l h m : Nat} {i j p : Int} {k1 k2 k3 : IntKind} {A : Option Addr} {K : Value → World → Prop} (ht : P.underlying t = some (.slice e)) (hsz : (P.info? e).map (·.size) = some sz) (hi : i = (l : Int)) (hj : j = (h : Int)) (hp : p = (m : Int)) (h1 : l ≤ h) (h2 : h ≤ m) (h3 : m ≤ c)
    (q : ∀ A', K (.slice A' (h - l) (m - l)) w) : RunS P (Instr.sliceAt t (.slice A n c) (some (.int k1 i)) (some (.int k2 j)) (some (.int k3 p))) w K := by
  subst hi hj hp
  cases hq : P.info? e with
  | none => simp [hq] at hsz
  | some inf => exact ⟨_, w, by simp only [Instr.sliceAt, Sem.run_bind, underlying, program, Sem.run, ht, Result.andThen, Sem.run_pure, Instr.slice, Instr.sliceBounds, bound_run k3 m c _ h3, bound_run k2 h m _ h2, bound_run k1 l h _ h1, sizeOf, typeInfo, hq]; rfl, q _⟩
end
theorem flat_take {α : Type} {cells : α → List Value} {sz : Nat} (hs : ∀ x, (cells x).length = sz) : ∀ (xs : List α) (i : Nat), (xs.flatMap cells).take (i * sz) = (xs.take i).flatMap cells
  | [], i => by simp
  | x :: xs, 0 => by simp
  | x :: xs, i + 1 => by rw [List.flatMap_cons, List.take_succ_cons, List.flatMap_cons, Nat.succ_mul, Nat.add_comm, ← hs x, List.take_length_add_append, hs x, flat_take hs xs i]
theorem flat_drop {α : Type} {cells : α → List Value} {sz : Nat} (hs : ∀ x, (cells x).length = sz) : ∀ (xs : List α) (i : Nat), (xs.flatMap cells).drop (i * sz) = (xs.drop i).flatMap cells
  | [], i => by simp
  | x :: xs, 0 => by simp
  | x :: xs, i + 1 => by rw [List.flatMap_cons, List.drop_succ_cons, Nat.succ_mul, Nat.add_comm, ← hs x, List.drop_length_add_append, hs x, flat_drop hs xs i]
/-- all cells of an element written over -/
def setAll (l : List Value) : Nat → List Value → List Value
  | _, [] => l
  | o, v :: vs => setAll (l.set o v) (o + 1) vs
theorem setAll_seg : ∀ (vs l : List Value) (o : Nat), o + vs.length ≤ l.length → setAll l o vs = seg l o vs
  | [], l, o, _ => (seg_nil l o).symm
  | v :: vs, l, o, h => by
    simp only [List.length_cons] at h
    rw [setAll, setAll_seg vs (l.set o v) (o + 1) (by rw [List.length_set]; omega)]
    unfold seg
    rw [List.length_cons, show o + 1 + vs.length = o + (vs.length + 1) by omega, List.drop_set, if_pos (by omega)]
    have e : (l.set o v).take (o + 1) = l.take o ++ [v] := by
      rw [List.take_add_one, List.take_set_of_le (Nat.le_refl _), List.getElem?_set_self (by omega)]; rfl
    rw [e]; simp
theorem flat_setAll {α : Type} {cells : α → List Value} {sz : Nat} (hs : ∀ x, (cells x).length = sz) {xs : List α} {j : Nat} {x y : α} (hx : xs[j]? = some x) : setAll (xs.flatMap cells) (j * sz) (cells y) = (xs.set j y).flatMap cells := by
  have hj := (List.getElem?_eq_some_iff.1 hx).1
  have hle : (j + 1) * sz ≤ xs.length * sz := Nat.mul_le_mul_right _ hj
  rw [Nat.add_mul] at hle
  rw [setAll_seg _ _ _ (by rw [flat_len hs, hs]; omega)]
  unfold seg
  rw [hs, flat_take hs, show j * sz + sz = (j + 1) * sz by rw [Nat.add_mul]; omega, flat_drop hs, List.set_eq_take_append_cons_drop, if_pos hj, List.flatMap_append, List.flatMap_cons, List.append_assoc]
theorem get_mid {α : Type} {a r : List α} {x : α} {j : Nat} (h : a.length = j) : (a ++ x :: r)[j]? = some x := by subst h; simp
theorem set_mid2 {α : Type} {a r : List α} {x y : α} {j : Nat} (h : a.length = j) : (a ++ x :: r).set j y = a ++ y :: r := by subst h; rw [List.set_append_right _ _ (Nat.le_refl _), Nat.sub_self]; rfl
end Go.Proofs.YtpaklalfopfilaaE
