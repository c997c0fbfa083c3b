/- What the laws' helpers over bytes come to, as steps of a walk. -/
import Derived.Test.YtpaklalfopfilaaNest
import Derived.Test.YtpaklalfopfilaaLawIB
namespace Go.Proofs.YtpaklalfopfilaaE
open Go Go.RowKit
set_option linter.unusedVariables false
set_option maxRecDepth 100000

def szI (l k : Int) : Int := if l - k < 0 then -1 else l - k
theorem ok_szByteS : callOK Try.prog 106 = true := by kernel_rfl
theorem laws_szByteS {A : Option Addr} {n c : Nat} {l : Int} (h0 : -1 ≤ l) (h1 : l ≤ 1048576) (hn : n ≤ 9223372036854775807) {W : World} : GivesV Try.prog 106 [.slice A n c, .int .i64 l] W (.int .i64 (szI l n)) := by
  have H := St.enter W
  refine calls_of_vcV (args := [.slice A n c, .int .i64 l]) Try.func106 rfl (by kernel_rfl) (Nat.le_of_ble_eq_true rfl) ?_
  unfold szI
  refine ar64 (by omega) (by omega) ?_
  refine ifB (fun c1 => ?_) (fun c1 => ?_)
  · rw [if_pos c1]; exact Exists.intro _ (And.intro rfl (And.intro rfl H.none))
  · rw [if_neg c1]; exact Exists.intro _ (And.intro rfl (And.intro rfl H.none))

theorem ok_szIntS : callOK Try.prog 105 = true := by kernel_rfl
theorem laws_szIntS {A : Option Addr} {n c : Nat} {l : Int} (h0 : -1 ≤ l) (h1 : l ≤ 1048576) (hn : n ≤ 9223372036854775807) {W : World} : GivesV Try.prog 105 [.slice A n c, .int .i64 l] W (.int .i64 (szI l n)) := by
  have H := St.enter W
  refine calls_of_vcV (args := [.slice A n c, .int .i64 l]) Try.func105 rfl (by kernel_rfl) (Nat.le_of_ble_eq_true rfl) ?_
  unfold szI
  refine ar64 (by omega) (by omega) ?_
  refine ifB (fun c1 => ?_) (fun c1 => ?_)
  · rw [if_pos c1]; exact Exists.intro _ (And.intro rfl (And.intro rfl H.none))
  · rw [if_neg c1]; exact Exists.intro _ (And.intro rfl (And.intro rfl H.none))

theorem set_mid {α : Type} (gs : List α) (x y : α) (r : List α) : (gs ++ x :: r).set gs.length y = (gs ++ [y]) ++ r := by
  rw [List.set_append_right _ _ (Nat.le_refl _)]; simp
theorem markB_call {B : Nat} {W0 w : World} {L : List It} {A : Option Addr} {n c : Nat} {xs : List Int} {m : Int} {K : Value → World → Prop} {X : List PanicEntry → World → Prop} (H : St B W0 w (.rowB (.slice A n c) xs :: L)) (hn : n = xs.length) (hm : 0 ≤ m) (hl : m + xs.length ≤ 1099511627776)
    (k : ∀ w', St B W0 w' (.rowB (.slice A n c) (cnt (· % 256) m xs.length) :: L) → K (.int .i64 (m + xs.length)) w') : CallS Try.prog 102 [.slice A n c, .int .i64 m] w K X := by
  subst hn
  refine CallS.mk ok_markByteS ((laws_markByteS m hm xs A c B w (H.own 0 rfl) hl).mono ?_)
  rintro _ w' ⟨rfl, ho, hg⟩
  exact k w' (H.turn 0 rfl hg ho (fun g h => .inl h))
/-- the rows of the file at hand stand ahead -/
theorem heldV {A : Option Addr} {n c : Nat} {m : Int} {w : World} (hx : Rd w (.slice A n c) 1 n ((cnt (· % 256) m n).map (.int .u8))) (hm : 0 ≤ m) (hl : m + n ≤ 1099511627776) : GivesV Try.prog 104 [.slice A n c, .int .i64 m] w (.int .i64 (m + n)) :=
  givesV_of ((laws_heldByteS m hm n A c w (by simpa only [RdB, cnt_len] using hx) hl).mono fun e w' ⟨h1, h2⟩ => ⟨_, h1, rfl, h2⟩)
end Go.Proofs.YtpaklalfopfilaaE
