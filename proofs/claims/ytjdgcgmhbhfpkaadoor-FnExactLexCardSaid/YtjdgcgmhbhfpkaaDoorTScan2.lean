/- What the program's scanner does with an escape and with a whole quoted text. -/
import Derived.Test.YtjdgcgmhbhfpkaaDoorTScan
namespace Go.Proofs.YtjdgcgmhbhfpkaaDoorE
open Go Go.RowKit Go.Proofs
set_option linter.unusedVariables false
set_option maxRecDepth 100000

/-- a join whose first part may go many ways: what stands at each of them, said once -/
theorem joinW {N : Nat} {P : Program} {c : Code} {X Y : CT} {K : Exit → Env → World → Prop} {e : Env} {w : World} (J : Exit → Env → World → Prop) (hX : X = vcV N P c) (h : vcV N P c J e w)
    (k0 : ∀ e w, J .normal e w → Y K e w) (k : ∀ ex e w, ex ≠ .normal → J ex e w → K ex e w) : JoinV N P c X Y K e w := by
  refine ⟨?_⟩
  rw [hX]
  rw [vcV_eq] at h ⊢
  refine vc_mono c ?_ h
  intro ex e w q
  cases ex <;> first | exact k0 e w q | exact k _ e w (by intro h; cases h) q
def exJ (D : Nat → Env → World → Prop) (Post : Env → World → Prop) (ok : Nat → Bool) (k : Nat) : Exit → Env → World → Prop := fun ex e w =>
  match ex with
  | .normal => D k e w
  | .exit id => ok id = true ∧ D id e w
  | .ret => Post e w
  | _ => False
def blkK (J : Exit → Env → World → Prop) (kp : Nat) : Exit → Env → World → Prop := fun ex e w =>
  match ex with | .exit id' => Bool.rec (motive := fun _ => Prop) (J (.exit id') e w) (J .normal e w) (Nat.beq id' kp) | ex => J ex e w
theorem exJ_block {D : Nat → Env → World → Prop} {Post : Env → World → Prop} {ok : Nat → Bool} {kp k : Nat} {ex : Exit} {e : Env} {w : World} (hne : ex ≠ .normal) (h : exJ D Post (fun id => Nat.beq id kp || ok id) k ex e w) :
    blkK (exJ D Post ok kp) kp ex e w := by
  cases ex with
  | exit id =>
    obtain ⟨h1, h2⟩ := h
    show Bool.rec (motive := fun _ => Prop) (exJ D Post ok kp (.exit id) e w) (exJ D Post ok kp .normal e w) (Nat.beq id kp)
    simp only [] at h1
    cases hb : Nat.beq id kp with
    | true => rw [Nat.eq_of_beq_eq_true hb] at h2; exact h2
    | false => rw [hb] at h1; exact ⟨by simpa using h1, h2⟩
  | normal => exact absurd rfl hne
  | _ => exact h
theorem joinX {N : Nat} {P : Program} {c : Code} {X Y : CT} {D : Nat → Env → World → Prop} {Post : Env → World → Prop} {ok : Nat → Bool} {kp : Nat} {e : Env} {w : World} (k : Nat) (hX : X = vcV N P c)
    (h : vcV N P c (exJ D Post (fun id => Nat.beq id kp || ok id) k) e w)
    (k0 : ∀ e w, D k e w → Y (fun ex e w => match ex with | .exit id' => Bool.rec (motive := fun _ => Prop) (exJ D Post ok kp (.exit id') e w) (exJ D Post ok kp .normal e w) (Nat.beq id' kp) | ex => exJ D Post ok kp ex e w) e w) :
    JoinV N P c X Y (fun ex e w => match ex with | .exit id' => Bool.rec (motive := fun _ => Prop) (exJ D Post ok kp (.exit id') e w) (exJ D Post ok kp .normal e w) (Nat.beq id' kp) | ex => exJ D Post ok kp ex e w) e w :=
  joinW (exJ D Post (fun id => Nat.beq id kp || ok id) k) hX h k0 (fun ex e w hne h => exJ_block hne h)
def wayQ (p : Int) (id : Nat) : Prop :=
  (id = 1 ∧ p = -1) ∨ (id = 2 ∧ p = 98) ∨ (id = 3 ∧ p = 102) ∨ (id = 4 ∧ p = 110) ∨ (id = 5 ∧ p = 114) ∨ (id = 6 ∧ p = 116) ∨ (id = 7 ∧ p = 118) ∨ (id = 8 ∧ p = 120) ∨ (id = 9 ∧ p = 117) ∨ (id = 10 ∧ p = 48) ∨ (id = 11 ∧ p = 13) ∨
  (id = 0 ∧ p ≠ -1 ∧ p ≠ 98 ∧ p ≠ 102 ∧ p ≠ 110 ∧ p ≠ 114 ∧ p ≠ 116 ∧ p ≠ 118 ∧ p ≠ 120 ∧ p ≠ 117 ∧ p ≠ 48 ∧ p ≠ 13 ∧ p ≠ 10 ∧ p ≠ 8232 ∧ p ≠ 8233)
theorem ok_escape : callOK Tryd.prog 55 = true := by kernel_rfl
theorem impl_escape {xs : List Int} (hb : byteOK xs) {A : Option Addr} {n c g i : Nat} {qs : List Int} (hl : n ≤ 4294967296) (ha : At xs i qs) {B : Nat} {W0 w : World} {L : List It} (H : St B W0 w (scO g (.slice A n c) i :: txt (.slice A n c) n xs :: L)) :
    Calls Tryd.prog 55 #[.pointer (some ⟨g, 0, none⟩)] w fun e w' => ∃ (x : Value) (u : List Int) (b : Bool) (i' : Nat) (r : List Int), e = .returned (.tuple #[x, .bool b]) ∧ escQ qs = (if b then some (u, r) else none) ∧ u.length ≤ 2 ∧ At xs i' r ∧ St B W0 w' (.rowI x u :: scO g (.slice A n c) i' :: txt (.slice A n c) n xs :: L) := by
  have hbd := ha.bd hb
  refine calls_of_vcV (args := [.pointer (some ⟨g, 0, none⟩)]) Tryd.func55 rfl (by kernel_rfl) (Nat.le_of_ble_eq_true rfl) ?_
  refine CallS.mk ok_next ((impl_next hb hl ha H).mono ?_)
  rintro _ w ⟨rfl, i2, ha2, H⟩
  obtain ⟨p, hp⟩ : ∃ p, headP qs = p := ⟨_, rfl⟩
  rw [hp]
  have hcons : p ≠ -1 → ∃ r, qs = p :: r := fun hpn => by
    cases qs with
    | nil => exact absurd hp.symm hpn
    | cons q r => exact ⟨r, by rw [show q = p from hp]⟩
  have hnil : p = -1 → qs = [] := fun hpn => by
    cases qs with
    | nil => rfl
    | cons q r => have := hbd q List.mem_cons_self; have hq : q = p := hp; omega
  refine joinW (exJ (fun id e w => e 0 = .pointer (some ⟨g, 0, none⟩) ∧ e 4 = .int .i32 p ∧ ((id ≠ 12 ∧ wayQ p id ∧ St B W0 w (scO g (.slice A n c) i2 :: txt (.slice A n c) n xs :: L)) ∨ (id = 12 ∧ ∃ (i' : Nat) (r : List Int), escQ qs = some ([], r) ∧ At xs i' r ∧ St B W0 w (scO g (.slice A n c) i' :: txt (.slice A n c) n xs :: L))))
    (fun e w => ∃ (u : List Int) (b : Bool) (i' : Nat) (r : List Int), e 3 = .bool b ∧ escQ qs = (if b then some (u, r) else none) ∧ u.length ≤ 2 ∧ At xs i' r ∧ St B W0 w (.rowI (e 2) u :: scO g (.slice A n c) i' :: txt (.slice A n c) n xs :: L))
    (fun _ => false) 0) rfl ?_ ?_ ?_
  case refine_3 =>
    intro ex e w hne q
    cases ex <;> first | exact absurd rfl hne | exact q.elim | exact absurd q.1 Bool.false_ne_true | skip
    obtain ⟨u, b, i', r, h3, he, hu, ha3, H3⟩ := q
    rw [Env.one h3]
    exact Exists.intro (e 2) (Exists.intro u (Exists.intro b (Exists.intro i' (Exists.intro r (And.intro rfl (And.intro he (And.intro hu (And.intro ha3 H3))))))))
  case refine_2 =>
    rintro e w ⟨g0, g4, ⟨_, hw, H⟩ | ⟨hw, _⟩⟩
    case inr => exact absurd hw (by decide)
    have h : p ≠ -1 ∧ p ≠ 98 ∧ p ≠ 102 ∧ p ≠ 110 ∧ p ≠ 114 ∧ p ≠ 116 ∧ p ≠ 118 ∧ p ≠ 120 ∧ p ≠ 117 ∧ p ≠ 48 ∧ p ≠ 13 ∧ p ≠ 10 ∧ p ≠ 8232 ∧ p ≠ 8233 := by simpa [wayQ] using hw
    obtain ⟨r, hr⟩ := hcons h.1
    have hbp := hbd p (by rw [hr]; exact List.mem_cons_self)
    have ha2 : At xs i2 r := by rw [hr] at ha2; exact ha2
    rw [Env.two g0 g4]
    refine ar64 (by omega) (by omega) ?_
    refine callRow ok_unitsOf (impl_unitsOf p hbp.1 hbp.2 w) H fun A1 c1 w H => ?_
    refine callV ok_sortOf (impl_sortOf p w) H fun w H => ?_
    refine Exists.intro (.slice A1 (unitsOne p).length c1) (Exists.intro (unitsOne p) (Exists.intro (decide (sortN p ≠ 2)) (Exists.intro i2 (Exists.intro r (And.intro rfl (And.intro ?_ (And.intro (unitsOne_len p) (And.intro ha2 H))))))))
    obtain ⟨n1, n2, n3, n4, n5, n6, n7, n8, n9, n10, n11, n12, n13, n14⟩ := h
    have hd := sortN_digit p
    rw [hr]
    by_cases q : sortN p = 2
    · have hdp : digit p = true := by rw [← hd]; simp [q]
      simp [escQ, shortQ, q, n2, n3, n4, n5, n6, n7, n8, n9, n10, n11, n12, n13, n14, hdp]
    · have hdp : digit p = false := by rw [← hd]; simp [q]
      simp [escQ, shortQ, q, n2, n3, n4, n5, n6, n7, n8, n9, n10, n11, n12, n13, n14, hdp]
  refine joinX 12 rfl ?_ ?_
  case refine_2 =>
    rintro e w ⟨g0, g4, ⟨hw, _⟩ | ⟨_, i3, r, he, ha3, H⟩⟩
    case inl => exact absurd rfl hw
    exact Exists.intro [] (Exists.intro true (Exists.intro i3 (Exists.intro r (And.intro rfl (And.intro he (And.intro (Nat.zero_le _) (And.intro ha3 H.rowNil)))))))
  refine joinX 11 rfl ?_ ?_
  case refine_2 =>
    rintro e w ⟨g0, g4, ⟨_, hw, H⟩ | ⟨hw, _⟩⟩
    case inr => exact absurd hw (by decide)
    have h : p = 13 := by simpa [wayQ] using hw
    obtain ⟨r, hr⟩ := hcons (by omega)
    subst h
    rw [hr] at ha2
    have ha2 : At xs i2 r := ha2
    rw [Env.two g0 g4]
    refine CallS.mk ok_got ((impl_got hb 10 hl ha2 H).mono ?_)
    rintro _ w ⟨rfl, i3, ha3, H⟩
    refine ⟨rfl, rfl, Or.inr ⟨rfl, i3, _, ?_, ha3, H⟩⟩
    rw [hr]
    simp [escQ, headP]
  refine joinX 10 rfl ?_ ?_
  case refine_2 =>
    rintro e w ⟨g0, g4, ⟨_, hw, H⟩ | ⟨hw, _⟩⟩
    case inr => exact absurd hw (by decide)
    have h : p = 48 := by simpa [wayQ] using hw
    obtain ⟨r, hr⟩ := hcons (by omega)
    subst h
    rw [hr] at ha2
    have ha2 : At xs i2 r := ha2
    rw [Env.two g0 g4]
    refine callU ok_peek (impl_peek hb hl ha2 H) fun w H => ?_
    refine litI1 H fun v w H => ?_
    refine callV ok_sortOf (impl_sortOf (headP r) w) H fun w H => ?_
    refine Exists.intro [0] (Exists.intro (decide (sortN (headP r) ≠ 2)) (Exists.intro i2 (Exists.intro r (And.intro rfl (And.intro ?_ (And.intro (by simp) (And.intro ha2 H)))))))
    rw [hr, show escQ (48 :: r) = (if digit (headP r) then none else some ([0], r)) by simp [escQ, headP], ← sortN_digit]
    by_cases q : sortN (headP r) = 2 <;> simp [q]
  refine joinX 9 rfl ?_ ?_
  case refine_2 =>
    rintro e w ⟨g0, g4, ⟨_, hw, H⟩ | ⟨hw, _⟩⟩
    case inr => exact absurd hw (by decide)
    have h : p = 117 := by simpa [wayQ] using hw
    obtain ⟨r, hr⟩ := hcons (by omega)
    subst h
    rw [hr] at ha2
    rw [Env.two g0 g4]
    refine CallS.mk ok_hex ((impl_hex hb 4 (by omega) hl ha2 H).mono ?_)
    rintro _ w ⟨hv, b, i', r', rfl, hrd, ha3, H⟩
    have hrd : readHex 4 r 0 = (if b then some (hv, r') else none) := hrd
    refine litI1 H fun v w H => ?_
    exact Exists.intro [hv] (Exists.intro b (Exists.intro i' (Exists.intro r' (And.intro rfl (And.intro (by rw [hr, show escQ (117 :: r) = (readHex 4 r 0).map (fun x => ([x.1], x.2)) by simp [escQ], hrd]; cases b <;> rfl) (And.intro (by simp) (And.intro ha3 H)))))))
  refine joinX 8 rfl ?_ ?_
  case refine_2 =>
    rintro e w ⟨g0, g4, ⟨_, hw, H⟩ | ⟨hw, _⟩⟩
    case inr => exact absurd hw (by decide)
    have h : p = 120 := by simpa [wayQ] using hw
    obtain ⟨r, hr⟩ := hcons (by omega)
    subst h
    rw [hr] at ha2
    rw [Env.two g0 g4]
    refine CallS.mk ok_hex ((impl_hex hb 2 (by omega) hl ha2 H).mono ?_)
    rintro _ w ⟨hv, b, i', r', rfl, hrd, ha3, H⟩
    have hrd : readHex 2 r 0 = (if b then some (hv, r') else none) := hrd
    refine litI1 H fun v w H => ?_
    exact Exists.intro [hv] (Exists.intro b (Exists.intro i' (Exists.intro r' (And.intro rfl (And.intro (by rw [hr, show escQ (120 :: r) = (readHex 2 r 0).map (fun x => ([x.1], x.2)) by simp [escQ], hrd]; cases b <;> rfl) (And.intro (by simp) (And.intro ha3 H)))))))
  refine joinX 7 rfl ?_ ?_
  case refine_2 =>
    rintro e w ⟨g0, g4, ⟨_, hw, H⟩ | ⟨hw, _⟩⟩
    case inr => exact absurd hw (by decide)
    have h : p = 118 := by simpa [wayQ] using hw
    obtain ⟨r, hr⟩ := hcons (by omega)
    subst h
    rw [Env.two g0 g4]
    refine litI1 H fun v w H => ?_
    exact Exists.intro [11] (Exists.intro true (Exists.intro i2 (Exists.intro r (And.intro rfl (And.intro (by rw [hr]; simp [escQ, shortQ, digit]) (And.intro (by simp) (And.intro (by rw [hr] at ha2; exact ha2) H)))))))
  refine joinX 6 rfl ?_ ?_
  case refine_2 =>
    rintro e w ⟨g0, g4, ⟨_, hw, H⟩ | ⟨hw, _⟩⟩
    case inr => exact absurd hw (by decide)
    have h : p = 116 := by simpa [wayQ] using hw
    obtain ⟨r, hr⟩ := hcons (by omega)
    subst h
    rw [Env.two g0 g4]
    refine litI1 H fun v w H => ?_
    exact Exists.intro [9] (Exists.intro true (Exists.intro i2 (Exists.intro r (And.intro rfl (And.intro (by rw [hr]; simp [escQ, shortQ, digit]) (And.intro (by simp) (And.intro (by rw [hr] at ha2; exact ha2) H)))))))
  refine joinX 5 rfl ?_ ?_
  case refine_2 =>
    rintro e w ⟨g0, g4, ⟨_, hw, H⟩ | ⟨hw, _⟩⟩
    case inr => exact absurd hw (by decide)
    have h : p = 114 := by simpa [wayQ] using hw
    obtain ⟨r, hr⟩ := hcons (by omega)
    subst h
    rw [Env.two g0 g4]
    refine litI1 H fun v w H => ?_
    exact Exists.intro [13] (Exists.intro true (Exists.intro i2 (Exists.intro r (And.intro rfl (And.intro (by rw [hr]; simp [escQ, shortQ, digit]) (And.intro (by simp) (And.intro (by rw [hr] at ha2; exact ha2) H)))))))
  refine joinX 4 rfl ?_ ?_
  case refine_2 =>
    rintro e w ⟨g0, g4, ⟨_, hw, H⟩ | ⟨hw, _⟩⟩
    case inr => exact absurd hw (by decide)
    have h : p = 110 := by simpa [wayQ] using hw
    obtain ⟨r, hr⟩ := hcons (by omega)
    subst h
    rw [Env.two g0 g4]
    refine litI1 H fun v w H => ?_
    exact Exists.intro [10] (Exists.intro true (Exists.intro i2 (Exists.intro r (And.intro rfl (And.intro (by rw [hr]; simp [escQ, shortQ, digit]) (And.intro (by simp) (And.intro (by rw [hr] at ha2; exact ha2) H)))))))
  refine joinX 3 rfl ?_ ?_
  case refine_2 =>
    rintro e w ⟨g0, g4, ⟨_, hw, H⟩ | ⟨hw, _⟩⟩
    case inr => exact absurd hw (by decide)
    have h : p = 102 := by simpa [wayQ] using hw
    obtain ⟨r, hr⟩ := hcons (by omega)
    subst h
    rw [Env.two g0 g4]
    refine litI1 H fun v w H => ?_
    exact Exists.intro [12] (Exists.intro true (Exists.intro i2 (Exists.intro r (And.intro rfl (And.intro (by rw [hr]; simp [escQ, shortQ, digit]) (And.intro (by simp) (And.intro (by rw [hr] at ha2; exact ha2) H)))))))
  refine joinX 2 rfl ?_ ?_
  case refine_2 =>
    rintro e w ⟨g0, g4, ⟨_, hw, H⟩ | ⟨hw, _⟩⟩
    case inr => exact absurd hw (by decide)
    have h : p = 98 := by simpa [wayQ] using hw
    obtain ⟨r, hr⟩ := hcons (by omega)
    subst h
    rw [Env.two g0 g4]
    refine litI1 H fun v w H => ?_
    exact Exists.intro [8] (Exists.intro true (Exists.intro i2 (Exists.intro r (And.intro rfl (And.intro (by rw [hr]; simp [escQ, shortQ, digit]) (And.intro (by simp) (And.intro (by rw [hr] at ha2; exact ha2) H)))))))
  refine joinX 1 rfl ?_ ?_
  case refine_2 =>
    rintro e w ⟨g0, g4, ⟨_, hw, H⟩ | ⟨hw, _⟩⟩
    case inr => exact absurd hw (by decide)
    have h : p = -1 := by simpa [wayQ] using hw
    exact Exists.intro [] (Exists.intro false (Exists.intro i2 (Exists.intro _ (And.intro rfl (And.intro (by rw [hnil h]; rfl) (And.intro (Nat.zero_le _) (And.intro ha2 H.rowNil)))))))
  refine ifB (fun h => ?_) (fun h1 => ?_)
  · exact ⟨rfl, rfl, Or.inl ⟨by decide, Or.inl ⟨rfl, h⟩, H⟩⟩
  refine ifB (fun h => ?_) (fun h2 => ?_)
  · exact ⟨rfl, rfl, rfl, Or.inl ⟨by decide, Or.inr (Or.inl ⟨rfl, h⟩), H⟩⟩
  refine ifB (fun h => ?_) (fun h3 => ?_)
  · exact ⟨rfl, rfl, rfl, Or.inl ⟨by decide, Or.inr (Or.inr (Or.inl ⟨rfl, h⟩)), H⟩⟩
  refine ifB (fun h => ?_) (fun h4 => ?_)
  · exact ⟨rfl, rfl, rfl, Or.inl ⟨by decide, Or.inr (Or.inr (Or.inr (Or.inl ⟨rfl, h⟩))), H⟩⟩
  refine ifB (fun h => ?_) (fun h5 => ?_)
  · exact ⟨rfl, rfl, rfl, Or.inl ⟨by decide, Or.inr (Or.inr (Or.inr (Or.inr (Or.inl ⟨rfl, h⟩)))), H⟩⟩
  refine ifB (fun h => ?_) (fun h6 => ?_)
  · exact ⟨rfl, rfl, rfl, Or.inl ⟨by decide, Or.inr (Or.inr (Or.inr (Or.inr (Or.inr (Or.inl ⟨rfl, h⟩))))), H⟩⟩
  refine ifB (fun h => ?_) (fun h7 => ?_)
  · exact ⟨rfl, rfl, rfl, Or.inl ⟨by decide, Or.inr (Or.inr (Or.inr (Or.inr (Or.inr (Or.inr (Or.inl ⟨rfl, h⟩)))))), H⟩⟩
  refine ifB (fun h => ?_) (fun h8 => ?_)
  · exact ⟨rfl, rfl, rfl, Or.inl ⟨by decide, Or.inr (Or.inr (Or.inr (Or.inr (Or.inr (Or.inr (Or.inr (Or.inl ⟨rfl, h⟩))))))), H⟩⟩
  refine ifB (fun h => ?_) (fun h9 => ?_)
  · exact ⟨rfl, rfl, rfl, Or.inl ⟨by decide, Or.inr (Or.inr (Or.inr (Or.inr (Or.inr (Or.inr (Or.inr (Or.inr (Or.inl ⟨rfl, h⟩)))))))), H⟩⟩
  refine ifB (fun h => ?_) (fun h10 => ?_)
  · exact ⟨rfl, rfl, rfl, Or.inl ⟨by decide, Or.inr (Or.inr (Or.inr (Or.inr (Or.inr (Or.inr (Or.inr (Or.inr (Or.inr (Or.inl ⟨rfl, h⟩))))))))), H⟩⟩
  refine ifB (fun h => ?_) (fun h11 => ?_)
  · exact ⟨rfl, rfl, rfl, Or.inl ⟨by decide, Or.inr (Or.inr (Or.inr (Or.inr (Or.inr (Or.inr (Or.inr (Or.inr (Or.inr (Or.inr (Or.inl ⟨rfl, h⟩)))))))))), H⟩⟩
  refine joinV (fun e w => e 0 = .pointer (some ⟨g, 0, none⟩) ∧ e 4 = .int .i32 p ∧ e 36 = .bool (decide (p = 10 ∨ p = 8232 ∨ p = 8233)) ∧ St B W0 w (scO g (.slice A n c) i2 :: txt (.slice A n c) n xs :: L)) rfl ?_ ?_
  · repeat' first | (refine gY ?_) | (refine gNt ?_) | (refine gNf ?_) | (refine ifT ?_) | (refine ifF ?_) | (refine arN (by omega) ?_) | (refine ar64 (by omega) (by omega) ?_) | (refine ar32 (by omega) (by omega) ?_) | (refine ar8 (by omega) (by omega) ?_) | (refine div64 (by omega) (by omega) (by omega) ?_) | (refine rem0 (by omega) (by omega) ?_) | (refine drawR H fun w H => ?_) | (refine RegV.mk ?_) | (refine JoinV.mk ?_) | (refine gT (fun h => ?_) (fun h => ?_) <;> first | (exfalso; omega) | skip) | (refine gF (fun h => ?_) (fun h => ?_) <;> first | (exfalso; omega) | skip) | (refine ifB (fun h => ?_) (fun h => ?_) <;> first | (exfalso; omega) | skip)
    all_goals refine ⟨rfl, rfl, congrArg Value.bool ?_, H⟩
    all_goals (rw [Bool.eq_iff_iff]; simp only [decide_eq_true_eq, Bool.false_eq_true, true_iff, iff_true, false_iff, iff_false]; omega)
  rintro e w ⟨g0, g4, g36, H⟩
  rw [Env.three g0 g4 g36]
  refine ifB (fun h => ?_) (fun h => ?_)
  · obtain ⟨r, hr⟩ := hcons (by omega)
    exact ⟨rfl, rfl, rfl, Or.inr ⟨rfl, i2, r, by rw [hr]; unfold escQ; simp only []; rw [if_pos h], by rw [hr] at ha2; exact ha2, H⟩⟩
  · exact ⟨rfl, rfl, rfl, Or.inl ⟨by decide, Or.inr (Or.inr (Or.inr (Or.inr (Or.inr (Or.inr (Or.inr (Or.inr (Or.inr (Or.inr (Or.inr (⟨rfl, h1, h2, h3, h4, h5, h6, h7, h8, h9, h10, h11, fun q => h (Or.inl q), fun q => h (Or.inr (Or.inl q)), fun q => h (Or.inr (Or.inr q))⟩))))))))))), H⟩⟩
end Go.Proofs.YtjdgcgmhbhfpkaaDoorE
