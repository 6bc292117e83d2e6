/- Small facts that every walk of this seat uses: bytes as numbers. No condition. -/
import Derived.WalkKit
import Derived.WalkSpells
import Derived.WalkLawsBesides
import Derived.Handy
import Derived.Lib.Hide
import Derived.StillTailTactics
import Derived.BigQuiet
import Derived.Deep.QuietTactic
import Derived.Deep.RegionWith
import Derived.Lib.QuietBelow
import Derived.Deep.DeepCutAuto
import Derived.BigRegion
import Derived.Laws.AppendOwnNone
import Derived.ArgAppend
import Derived.Test.YtphehfllcmbpkaaGf
namespace Go.Proofs.Ytphehfllcmbpkaa
open Go Go.RowKit
/-- a byte as the number that a slot holds -/
def B (a : UInt8) : Int := (a.toNat : Int)
theorem B_lo (a : UInt8) : 0 ≤ B a := by unfold B; omega
theorem B_hi (a : UInt8) : B a ≤ 255 := by have := a.toNat_lt; unfold B; omega
theorem B_eq {a b : UInt8} : B a = B b ↔ a = b := by
  unfold B; constructor
  · intro h; exact UInt8.toNat_inj.1 (by omega)
  · rintro rfl; rfl
theorem B_zero : B 0 = 0 := rfl
theorem B_xor (a b : UInt8) : bits .xor .u8 (B a) (B b) = B (a ^^^ b) := by
  unfold B; rw [u8_xor_nat _ _ a.toNat_lt b.toNat_lt, UInt8.toNat_xor]
theorem B_ne (a b : UInt8) : (B a != B b) = (a != b) := by
  by_cases h : a = b
  · subst h; simp
  · have : B a ≠ B b := fun e => h (B_eq.1 e)
    rw [bne_iff_ne.2 this, bne_iff_ne.2 h]
theorem B_beq (a b : UInt8) : (B a == B b) = (a == b) := by
  by_cases h : a = b
  · subst h; simp
  · have : B a ≠ B b := fun e => h (B_eq.1 e)
    rw [beq_eq_false_iff_ne.2 this, beq_eq_false_iff_ne.2 h]
theorem B_ne0 (a : UInt8) : (B a != 0) = (a != 0) := B_ne a 0
theorem B_beq0 (a : UInt8) : (B a == 0) = (a == 0) := B_beq a 0
attribute [go_sem] B_xor
theorem B_wrap (a : UInt8) : IntKind.u8.wrap (B a) = B a := by rw [IntKind.wrap_u8]; have := B_lo a; have := B_hi a; omega
theorem B_ofNat (n : Nat) : B (UInt8.ofNat n) = (n : Int) % 256 := by unfold B; simp
/-- a region that draws, whose last operations stand in one order: its head is read in the text's order -/
theorem region_tail {P : Program} {id : Nat} {Q : Exit → Act → World → Prop} {a : Act} {w : World} {l : List Oper} (n : Nat) (hm : P.follows .mixedOrders = true) (hB : Region.lexTailB .any l.toArray n = true)
    (h : wpStill P l.toArray w.drew (fun a' => wpList P l.toArray Q (l.drop n) a' w.drew) (l.take n) a) : (Code.region id l.toArray true).wp P Q a w :=
  wp_region_still_tail n hm hB h
theorem quiet_same {P : Program} {f : FuncId} {args : Array Value} {w : World} {n : Nat} {v : Value}
    (h : Calls P f args (w.drewN n) fun e w' => w.drewN n = w' ∧ e = .returned v) : Calls P f args (w.drewN n) fun e w'' => e = .returned v ∧ ∃ m, w'' = w.drewN m :=
  h.mono fun _ _ ⟨hm, he⟩ => ⟨he, n, hm.symm⟩
theorem below_drewN (w : World) (n : Nat) : Below w.heap.size w (w.drewN n) := ⟨rfl, rfl, rfl, Nat.le_refl _, fun _ _ => rfl⟩
end Go.Proofs.Ytphehfllcmbpkaa
