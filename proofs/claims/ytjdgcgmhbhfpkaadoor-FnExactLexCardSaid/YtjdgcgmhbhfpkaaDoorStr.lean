/- Strings as lists of bytes: what the engine asks of them. No condition of the laws stands here. -/
import Derived.Test.YtjdgcgmhbhfpkaaDoorPrim
import Derived.Laws.BytesArg
import Derived.Laws.Strings
namespace Go.Proofs.YtjdgcgmhbhfpkaaDoorE
open Go Go.RowKit Go.Proofs
set_option linter.unusedVariables false
set_option maxRecDepth 100000
set_option linter.unusedSimpArgs false

def byteOK (xs : List Int) : Prop := ∀ x ∈ xs, 0 ≤ x ∧ x < 256
theorem byteOK.get {xs : List Int} (h : byteOK xs) (i : Nat) : 0 ≤ xs.getD i 0 ∧ xs.getD i 0 < 256 := by
  rw [List.getD_eq_getElem?_getD]
  cases hi : xs[i]? with
  | none => simp
  | some x => exact h x (List.mem_of_getElem? hi)
theorem byteOK.drop {xs : List Int} (h : byteOK xs) (k : Nat) : byteOK (xs.drop k) := fun x hx => h x (List.mem_of_mem_drop hx)
theorem byteOK.take {xs : List Int} (h : byteOK xs) (k : Nat) : byteOK (xs.take k) := fun x hx => h x (List.mem_of_mem_take hx)
theorem byteOK.cons {x : Int} {xs : List Int} (h : byteOK (x :: xs)) : (0 ≤ x ∧ x < 256) ∧ byteOK xs := ⟨h x (by simp), fun y hy => h y (by simp [hy])⟩
theorem byteOK.nil : byteOK [] := fun x hx => by simp at hx
theorem byteOK.app {xs ys : List Int} (h : byteOK xs) (k : byteOK ys) : byteOK (xs ++ ys) := fun x hx => by
  rcases List.mem_append.1 hx with hx | hx
  · exact h x hx
  · exact k x hx
theorem str_get {xs : List Int} (hb : byteOK xs) {i : Nat} (hi : i < (strOfNums xs).size) : (((strOfNums xs)[i]'hi).toNat : Int) = xs.getD i 0 := by
  have hi' : i < xs.length := by rw [strOfNums_size] at hi; exact hi
  have h := hb.get i
  have e : (strOfNums xs)[i]'hi = UInt8.ofNat (xs.getD i 0).toNat := by
    show (strOfNums xs).data[i]'hi = _
    simp [strOfNums, List.getD_eq_getElem?_getD, List.getElem?_eq_getElem hi']
  rw [e, UInt8.toNat_ofNat']
  omega
theorem strS {xs : List Int} {i : Int} {K : Int → Prop} (hb : byteOK xs) (h0 : 0 ≤ i) (h1 : i < xs.length) (k : K (xs.getD i.toNat 0)) : StrS (strOfNums xs) i K := by
  have hi : i.toNat < (strOfNums xs).size := by rw [strOfNums_size]; omega
  refine ⟨⟨⟨h0, hi⟩, ?_⟩⟩
  rw [str_get hb hi]; exact k
theorem cutS {len cap : Nat} {lo hi : Option Int} {K : Nat → Nat → Prop} (l h : Nat) (hl : lo.getD 0 = l) (hh : hi.getD len = h) (hlh : l ≤ h) (hc : hi.isSome = true → h ≤ cap) (k : K l h) : CutS len cap lo hi K := ⟨l, h, hl, hh, hlh, hc, k⟩
theorem letV {α : Type} {a b : α} {K : α → Prop} (h : a = b) (k : K b) : LetV a K := ⟨fun a' e => by rw [e, h]; exact k⟩
theorem str_cut (xs : List Int) (l h : Nat) : (strOfNums xs).extract l h = strOfNums ((xs.take h).drop l) := by
  apply ByteArray.ext
  simp only [strOfNums, ByteArray.data_extract]
  apply Array.ext'
  simp [List.extract_eq_take_drop, List.map_drop, List.map_take, List.drop_take]
theorem str_inj {xs ys : List Int} (hx : byteOK xs) (hy : byteOK ys) (h : strOfNums xs = strOfNums ys) : xs = ys := by
  have hs : xs.length = ys.length := by rw [← strOfNums_size xs, ← strOfNums_size ys, h]
  apply List.ext_getElem hs
  intro i h1 h2
  have e1 := str_get hx (i := i) (by rw [strOfNums_size]; exact h1)
  have e2 := str_get hy (i := i) (by rw [strOfNums_size]; exact h2)
  simp only [h] at e1
  rw [e1] at e2
  simpa [List.getD_eq_getElem?_getD, h1, h2] using e2
theorem str_eq {xs : List Int} (ys : List Int) {t : ByteArray} (hx : byteOK xs) (hy : byteOK ys) (ht : t = strOfNums ys) : ((strOfNums xs).toList == t.toList) = decide (xs = ys) := by
  subst ht
  rw [ByteArray.toList_eq, ByteArray.toList_eq]
  by_cases h : xs = ys
  · subst h; simp
  · have : ¬ (strOfNums xs).data = (strOfNums ys).data := fun e => h (str_inj hx hy (ByteArray.ext e))
    simp [h, this]
theorem str_ne {xs : List Int} (ys : List Int) {t : ByteArray} (hx : byteOK xs) (hy : byteOK ys) (ht : t = strOfNums ys) : (!((strOfNums xs).toList == t.toList)) = decide (xs ≠ ys) := by
  rw [str_eq ys hx hy ht]; simp
/-! a test whose word is another's -/
theorem eT {b : Bool} {p : Prop} [Decidable p] {X Y : Prop} (e : b = decide p) (h : p → X) (k : ¬ p → Y) : GuardB b true X Y := e ▸ gT h k
theorem eF {b : Bool} {p : Prop} [Decidable p] {X Y : Prop} (e : b = decide p) (h : ¬ p → X) (k : p → Y) : GuardB b false X Y := e ▸ gF h k
theorem eB {b : Bool} {p : Prop} [Decidable p] {X Y : Prop} (e : b = decide p) (h : p → X) (k : ¬ p → Y) : CondB b X Y := e ▸ ifB h k
/-- bytes made a string -/
theorem conv_str {w : World} {A : Option Addr} {c : Nat} {xs : List Int} {K : Value → World → Prop} (hx : RdB w (.slice A xs.length c) xs) (k : K (.string (strOfNums xs)) w) : RunS Tryd.prog (convert 22 9 (.slice A xs.length c)) w K := by
  refine ⟨_, w, ?_, k⟩
  obtain ⟨hl, A', c', hv, hcap, h⟩ := hx
  cases hv
  cases A with
  | none =>
    have : xs = [] := by
      rcases h with h | ⟨b, off, h, _⟩
      · exact List.length_eq_zero_iff.1 h
      · cases h
    subst this
    exact run_convert_bytes_nil w _ _ undB (by kernel_rfl) _ _ _ (by kernel_rfl)
  | some a =>
    rcases h with h | ⟨b, off, ha, h⟩
    · have : xs = [] := List.length_eq_zero_iff.1 h
      subst this
      rw [run_convert_bytes_string w _ _ _ _ _ _ undB (by kernel_rfl) (by kernel_rfl)]
      exact run_bytesToString w a 0 c [] (by exact run_loadCells_list w a [] (by intro j v hj; simp at hj))
    · cases ha
      refine run_convert_bytes_arg w _ _ undB (by kernel_rfl) b off _ c xs rfl (fun i hi => ?_) _ (by kernel_rfl)
      rw [h i (by simpa using hi)]
      simp [List.getD_eq_getElem?_getD, hi]
/-- a reading's end -/
theorem Rd.cut {w : World} {A : Option Addr} {c : Nat} {k : IntKind} {xs : List Int} (h : Rd w (.slice A xs.length c) 1 xs.length (xs.map (.int k))) (l m : Nat) (h1 : l ≤ m) (h2 : m ≤ xs.length) :
    Rd w (.slice (if c = l then A else A.map (·.add (l * 1))) (m - l) (c - l)) 1 (m - l) (((xs.take m).drop l).map (.int k)) := by
  obtain ⟨hl, A', c', hv, hcap, h⟩ := h
  cases hv
  refine ⟨by simp; omega, _, _, rfl, by omega, ?_⟩
  rcases h with h | ⟨b, off, rfl, h⟩
  · exact .inl (by omega)
  · by_cases hm : m - l = 0
    · exact .inl hm
    · refine .inr ⟨b, off + l, by rw [if_neg (by omega), Option.map_some, Nat.mul_one, add_plain], fun j hj => ?_⟩
      simp only [List.length_map, List.length_drop, List.length_take] at hj
      rw [Nat.add_assoc, h (l + j) (by simp; omega)]
      simp only [List.getElem?_map, List.getElem?_drop, List.getElem?_take]
      rw [if_pos (by omega)]
theorem Rd.cap {w : World} {A : Option Addr} {n c sz : Nat} {cs : List Value} (h : Rd w (.slice A n c) sz n cs) : n ≤ c := by
  obtain ⟨hl, A', c', hv, hcap, h⟩ := h
  cases hv; exact hcap
end Go.Proofs.YtjdgcgmhbhfpkaaDoorE
