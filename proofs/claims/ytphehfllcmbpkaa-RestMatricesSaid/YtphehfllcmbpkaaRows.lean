/-
  No cell of these rows narrows 'for every input' (looked for: loops, veiled, ifaces, maps, wideKeys, modest, calm, conditions, laid).
  DERIVED. THE GIVEN ROWS OF THIS SEAT. 7 by the template 'for every input the law returns true; each argument reads behind the call as it read before'; 0 by the template 'total and deterministic' (their statements: YtphehfllcmbpkaaTotals.lean).
  GIVEN WITH THE SEED: the statements are not yours to turn. If you find one false, say at which input.
  Laid BY PROGRAM, IN A SANDBOX (cutbox-rows.mjs): the forced cells as the released guide's own fill.sh prints them over the translation f2f7cb7eabbeb5e1… (all of the seat's roots in one cut). By AI agents, Wed Nov 11 2026. No macro, syntax, notation, axiom, sorry.
-/
import Derived.Test.YtphehfllcmbpkaaChecked
import GoSem.Claim
import GoSem.ClaimJoined
import GoSem.ClaimMapViews
import Derived.JoinedTies
import Derived.KernelRfl
namespace Go.Proofs.Ytphehfllcmbpkaa
/- THE CELL 'sum', in the pinned program and in every row, IS THE sha256 OF THE DUMP (.gsa) THAT YtphehfllcmbpkaaProg.lean LOADS. Nothing in Lean hashes anything: it is a label: what it is worth is what the hold of that sum in a sandbox is worth. -/
noncomputable def Try.pinned : Pinned := { name := "ytphehfllcmbpkaa", sum := "f2f7cb7eabbeb5e1624165333787f798fa2fb8a365969faceb65f9ed9241bc21", checked := Try.checked }
namespace Rows
def none {H : Type} : Left H := { results := [], args := [] }

/-- 'supercargolaw.RestMatrices': WHATEVER THE INPUT: true; the input reads as it did. -/
def restMatricesSpec : ChangeSpec := { name := "restMatrices", fn := fun _ => fun
  | [d1, d2, d3, d4, d5] => { results := [.lit (.bool true)], args := [d1, d2, d3, d4, d5] }
  | _ => none }
def restMatricesRow : OpenClaim := { program := "ytphehfllcmbpkaa", sum := "f2f7cb7eabbeb5e1624165333787f798fa2fb8a365969faceb65f9ed9241bc21", func := "supercargo/supercargolaw.RestMatrices", spec := "restMatrices", unfollowed := true, recurses := true, apart := false }
def RestMatricesSaid : Prop := restMatricesRow.holds Try.pinned (OpenSpec.ofChange restMatricesSpec)

/-- ITS FALSE NEIGHBOUR: 'it returns false'. Refute it at one input. -/
def restMatricesWrong : ChangeSpec := { name := "restMatrices", fn := fun _ => fun
  | [d1, d2, d3, d4, d5] => { results := [.lit (.bool false)], args := [d1, d2, d3, d4, d5] }
  | _ => none }
def RestMatricesWrongFalsely : Prop := restMatricesRow.holds Try.pinned (OpenSpec.ofChange restMatricesWrong)

/-- 'supercargolaw.VolumeApart': WHATEVER THE INPUT: true; the input reads as it did. -/
def volumeApartSpec : ChangeSpec := { name := "volumeApart", fn := fun _ => fun
  | [d1, d2, d3, d4] => { results := [.lit (.bool true)], args := [d1, d2, d3, d4] }
  | _ => none }
def volumeApartRow : OpenClaim := { program := "ytphehfllcmbpkaa", sum := "f2f7cb7eabbeb5e1624165333787f798fa2fb8a365969faceb65f9ed9241bc21", func := "supercargo/supercargolaw.VolumeApart", spec := "volumeApart", inPlace := ["internal/abi.NoEscape", "internal/bytealg.MakeNoZero"], unfollowed := true, recurses := true, apart := false }
def VolumeApartSaid : Prop := volumeApartRow.holds Try.pinned (OpenSpec.ofChange volumeApartSpec)

/-- ITS FALSE NEIGHBOUR: 'it returns false'. Refute it at one input. -/
def volumeApartWrong : ChangeSpec := { name := "volumeApart", fn := fun _ => fun
  | [d1, d2, d3, d4] => { results := [.lit (.bool false)], args := [d1, d2, d3, d4] }
  | _ => none }
def VolumeApartWrongFalsely : Prop := volumeApartRow.holds Try.pinned (OpenSpec.ofChange volumeApartWrong)

/-- 'supercargolaw.VolumeComesBack': WHATEVER THE INPUT: true; the input reads as it did. -/
def volumeComesBackSpec : ChangeSpec := { name := "volumeComesBack", fn := fun _ => fun
  | [d1, d2, d3] => { results := [.lit (.bool true)], args := [d1, d2, d3] }
  | _ => none }
def volumeComesBackRow : OpenClaim := { program := "ytphehfllcmbpkaa", sum := "f2f7cb7eabbeb5e1624165333787f798fa2fb8a365969faceb65f9ed9241bc21", func := "supercargo/supercargolaw.VolumeComesBack", spec := "volumeComesBack", inPlace := ["internal/abi.NoEscape", "internal/bytealg.MakeNoZero"], unfollowed := true, recurses := true, apart := false }
def VolumeComesBackSaid : Prop := volumeComesBackRow.holds Try.pinned (OpenSpec.ofChange volumeComesBackSpec)

/-- ITS FALSE NEIGHBOUR: 'it returns false'. Refute it at one input. -/
def volumeComesBackWrong : ChangeSpec := { name := "volumeComesBack", fn := fun _ => fun
  | [d1, d2, d3] => { results := [.lit (.bool false)], args := [d1, d2, d3] }
  | _ => none }
def VolumeComesBackWrongFalsely : Prop := volumeComesBackRow.holds Try.pinned (OpenSpec.ofChange volumeComesBackWrong)

/-- 'supercargolaw.VolumeWiped': WHATEVER THE INPUT: true; the input reads as it did. -/
def volumeWipedSpec : ChangeSpec := { name := "volumeWiped", fn := fun _ => fun
  | [d1, d2, d3] => { results := [.lit (.bool true)], args := [d1, d2, d3] }
  | _ => none }
def volumeWipedRow : OpenClaim := { program := "ytphehfllcmbpkaa", sum := "f2f7cb7eabbeb5e1624165333787f798fa2fb8a365969faceb65f9ed9241bc21", func := "supercargo/supercargolaw.VolumeWiped", spec := "volumeWiped", inPlace := ["internal/abi.NoEscape", "internal/bytealg.MakeNoZero"], unfollowed := true, recurses := true, apart := false }
def VolumeWipedSaid : Prop := volumeWipedRow.holds Try.pinned (OpenSpec.ofChange volumeWipedSpec)

/-- ITS FALSE NEIGHBOUR: 'it returns false'. Refute it at one input. -/
def volumeWipedWrong : ChangeSpec := { name := "volumeWiped", fn := fun _ => fun
  | [d1, d2, d3] => { results := [.lit (.bool false)], args := [d1, d2, d3] }
  | _ => none }
def VolumeWipedWrongFalsely : Prop := volumeWipedRow.holds Try.pinned (OpenSpec.ofChange volumeWipedWrong)

/-- 'supercargolaw.MendWhole': WHATEVER THE INPUT: true; the input reads as it did. -/
def mendWholeSpec : ChangeSpec := { name := "mendWhole", fn := fun _ => fun
  | [d1, d2, d3] => { results := [.lit (.bool true)], args := [d1, d2, d3] }
  | _ => none }
def mendWholeRow : OpenClaim := { program := "ytphehfllcmbpkaa", sum := "f2f7cb7eabbeb5e1624165333787f798fa2fb8a365969faceb65f9ed9241bc21", func := "supercargo/supercargolaw.MendWhole", spec := "mendWhole", inPlace := ["internal/abi.NoEscape", "internal/bytealg.MakeNoZero"], unfollowed := true, recurses := true, apart := false }
def MendWholeSaid : Prop := mendWholeRow.holds Try.pinned (OpenSpec.ofChange mendWholeSpec)

/-- ITS FALSE NEIGHBOUR: 'it returns false'. Refute it at one input. -/
def mendWholeWrong : ChangeSpec := { name := "mendWhole", fn := fun _ => fun
  | [d1, d2, d3] => { results := [.lit (.bool false)], args := [d1, d2, d3] }
  | _ => none }
def MendWholeWrongFalsely : Prop := mendWholeRow.holds Try.pinned (OpenSpec.ofChange mendWholeWrong)

/-- 'supercargolaw.MendReads': WHATEVER THE INPUT: true; the input reads as it did. -/
def mendReadsSpec : ChangeSpec := { name := "mendReads", fn := fun _ => fun
  | [d1, d2, d3, d4, d5, d6] => { results := [.lit (.bool true)], args := [d1, d2, d3, d4, d5, d6] }
  | _ => none }
def mendReadsRow : OpenClaim := { program := "ytphehfllcmbpkaa", sum := "f2f7cb7eabbeb5e1624165333787f798fa2fb8a365969faceb65f9ed9241bc21", func := "supercargo/supercargolaw.MendReads", spec := "mendReads", inPlace := ["internal/abi.NoEscape", "internal/bytealg.MakeNoZero"], unfollowed := true, recurses := true, apart := false }
def MendReadsSaid : Prop := mendReadsRow.holds Try.pinned (OpenSpec.ofChange mendReadsSpec)

/-- ITS FALSE NEIGHBOUR: 'it returns false'. Refute it at one input. -/
def mendReadsWrong : ChangeSpec := { name := "mendReads", fn := fun _ => fun
  | [d1, d2, d3, d4, d5, d6] => { results := [.lit (.bool false)], args := [d1, d2, d3, d4, d5, d6] }
  | _ => none }
def MendReadsWrongFalsely : Prop := mendReadsRow.holds Try.pinned (OpenSpec.ofChange mendReadsWrong)

/-- 'supercargolaw.ScrubClean': WHATEVER THE INPUT: true; the input reads as it did. -/
def scrubCleanSpec : ChangeSpec := { name := "scrubClean", fn := fun _ => fun
  | [d1, d2, d3, d4] => { results := [.lit (.bool true)], args := [d1, d2, d3, d4] }
  | _ => none }
def scrubCleanRow : OpenClaim := { program := "ytphehfllcmbpkaa", sum := "f2f7cb7eabbeb5e1624165333787f798fa2fb8a365969faceb65f9ed9241bc21", func := "supercargo/supercargolaw.ScrubClean", spec := "scrubClean", inPlace := ["internal/abi.NoEscape", "internal/bytealg.MakeNoZero"], unfollowed := true, recurses := true, apart := false }
def ScrubCleanSaid : Prop := scrubCleanRow.holds Try.pinned (OpenSpec.ofChange scrubCleanSpec)

/-- ITS FALSE NEIGHBOUR: 'it returns false'. Refute it at one input. -/
def scrubCleanWrong : ChangeSpec := { name := "scrubClean", fn := fun _ => fun
  | [d1, d2, d3, d4] => { results := [.lit (.bool false)], args := [d1, d2, d3, d4] }
  | _ => none }
def ScrubCleanWrongFalsely : Prop := scrubCleanRow.holds Try.pinned (OpenSpec.ofChange scrubCleanWrong)

/- THE SECOND FORM. 'bulk': how many values and letters a reading holds, each counted each time it is reached (what is shared counts as often as it is met; a slice's spare places count too). A statement '..UptoSaid' is the law's where the arguments, and the package variables that the reading takes, are together of bulk at most 1048576: NARROWER than '..Said'. Prove '..Said' where nothing that the law and all that it calls make is longer than what came in: it says more and counts as full. Else prove '..UptoSaid'. A law counts once. -/
mutual
def uptoBulk {H : Type} : DataW H → Nat
  | .lit (.string bytes) => bytes.length + 1
  | .lit _ => 1
  | .nil => 1
  | .ptr d => uptoBulk d + 1
  | .slice elems spare => uptoBulkAll elems + uptoBulkAll spare + 1
  | .agg parts => uptoBulkAll parts + 1
  | .iface _ d => uptoBulk d + 1
  | .map entries => uptoBulkEntries entries + 1
  | .held _ => 1
def uptoBulkAll {H : Type} : List (DataW H) → Nat
  | [] => 0
  | d :: r => uptoBulk d + uptoBulkAll r
def uptoBulkEntries {H : Type} : List (Lit × DataW H) → Nat
  | [] => 0
  | x :: r => uptoBulkEntry x + uptoBulkEntries r
def uptoBulkEntry {H : Type} : Lit × DataW H → Nat
  | (.string bytes, d) => bytes.length + uptoBulk d + 1
  | (_, d) => uptoBulk d + 1
 end
def uptoSmall : (H : Type) → List (DataW H) → Bool := fun _ ds => decide (uptoBulkAll ds ≤ 1048576)
def OpenSpec.upto (s : _root_.Go.ChangeSpec) : _root_.Go.OpenSpec := { _root_.Go.OpenSpec.ofChange s with cond := some uptoSmall }

/-- 'supercargolaw.RestMatrices', WHERE WHAT IT READS IS OF BULK AT MOST 1048576: true; the input reads as it did. -/
def restMatricesUptoRow : OpenClaim := { program := "ytphehfllcmbpkaa", sum := "f2f7cb7eabbeb5e1624165333787f798fa2fb8a365969faceb65f9ed9241bc21", func := "supercargo/supercargolaw.RestMatrices", spec := "restMatrices", unfollowed := true, recurses := true, apart := false, narrowed := true }
def RestMatricesUptoSaid : Prop := restMatricesUptoRow.holds Try.pinned (OpenSpec.upto restMatricesSpec)

/-- 'supercargolaw.VolumeApart', WHERE WHAT IT READS IS OF BULK AT MOST 1048576: true; the input reads as it did. -/
def volumeApartUptoRow : OpenClaim := { program := "ytphehfllcmbpkaa", sum := "f2f7cb7eabbeb5e1624165333787f798fa2fb8a365969faceb65f9ed9241bc21", func := "supercargo/supercargolaw.VolumeApart", spec := "volumeApart", inPlace := ["internal/abi.NoEscape", "internal/bytealg.MakeNoZero"], unfollowed := true, recurses := true, apart := false, narrowed := true }
def VolumeApartUptoSaid : Prop := volumeApartUptoRow.holds Try.pinned (OpenSpec.upto volumeApartSpec)

/-- 'supercargolaw.VolumeComesBack', WHERE WHAT IT READS IS OF BULK AT MOST 1048576: true; the input reads as it did. -/
def volumeComesBackUptoRow : OpenClaim := { program := "ytphehfllcmbpkaa", sum := "f2f7cb7eabbeb5e1624165333787f798fa2fb8a365969faceb65f9ed9241bc21", func := "supercargo/supercargolaw.VolumeComesBack", spec := "volumeComesBack", inPlace := ["internal/abi.NoEscape", "internal/bytealg.MakeNoZero"], unfollowed := true, recurses := true, apart := false, narrowed := true }
def VolumeComesBackUptoSaid : Prop := volumeComesBackUptoRow.holds Try.pinned (OpenSpec.upto volumeComesBackSpec)

/-- 'supercargolaw.VolumeWiped', WHERE WHAT IT READS IS OF BULK AT MOST 1048576: true; the input reads as it did. -/
def volumeWipedUptoRow : OpenClaim := { program := "ytphehfllcmbpkaa", sum := "f2f7cb7eabbeb5e1624165333787f798fa2fb8a365969faceb65f9ed9241bc21", func := "supercargo/supercargolaw.VolumeWiped", spec := "volumeWiped", inPlace := ["internal/abi.NoEscape", "internal/bytealg.MakeNoZero"], unfollowed := true, recurses := true, apart := false, narrowed := true }
def VolumeWipedUptoSaid : Prop := volumeWipedUptoRow.holds Try.pinned (OpenSpec.upto volumeWipedSpec)

/-- 'supercargolaw.MendWhole', WHERE WHAT IT READS IS OF BULK AT MOST 1048576: true; the input reads as it did. -/
def mendWholeUptoRow : OpenClaim := { program := "ytphehfllcmbpkaa", sum := "f2f7cb7eabbeb5e1624165333787f798fa2fb8a365969faceb65f9ed9241bc21", func := "supercargo/supercargolaw.MendWhole", spec := "mendWhole", inPlace := ["internal/abi.NoEscape", "internal/bytealg.MakeNoZero"], unfollowed := true, recurses := true, apart := false, narrowed := true }
def MendWholeUptoSaid : Prop := mendWholeUptoRow.holds Try.pinned (OpenSpec.upto mendWholeSpec)

/-- 'supercargolaw.MendReads', WHERE WHAT IT READS IS OF BULK AT MOST 1048576: true; the input reads as it did. -/
def mendReadsUptoRow : OpenClaim := { program := "ytphehfllcmbpkaa", sum := "f2f7cb7eabbeb5e1624165333787f798fa2fb8a365969faceb65f9ed9241bc21", func := "supercargo/supercargolaw.MendReads", spec := "mendReads", inPlace := ["internal/abi.NoEscape", "internal/bytealg.MakeNoZero"], unfollowed := true, recurses := true, apart := false, narrowed := true }
def MendReadsUptoSaid : Prop := mendReadsUptoRow.holds Try.pinned (OpenSpec.upto mendReadsSpec)

/-- 'supercargolaw.ScrubClean', WHERE WHAT IT READS IS OF BULK AT MOST 1048576: true; the input reads as it did. -/
def scrubCleanUptoRow : OpenClaim := { program := "ytphehfllcmbpkaa", sum := "f2f7cb7eabbeb5e1624165333787f798fa2fb8a365969faceb65f9ed9241bc21", func := "supercargo/supercargolaw.ScrubClean", spec := "scrubClean", inPlace := ["internal/abi.NoEscape", "internal/bytealg.MakeNoZero"], unfollowed := true, recurses := true, apart := false, narrowed := true }
def ScrubCleanUptoSaid : Prop := scrubCleanUptoRow.holds Try.pinned (OpenSpec.upto scrubCleanSpec)

end Rows
end Go.Proofs.Ytphehfllcmbpkaa
