/-
  NARROWER THAN 'FOR EVERY INPUT', by the rows' own cells (each row's printed sentence says how): ValuesBuilds: loops · ValuesApart: loops · ValuesCmps: loops · ValuesOrders: loops · ValuesMaps: loops · ValuesBack: loops · ValuesTells: loops.
  DERIVED. THE GIVEN ROWS OF THIS SEAT. 9 by the template 'for every input the law returns true; each argument reads behind the call as it read before'; 0 by the template 'total and deterministic' (their statements: YthpgnhmikffcpaaTotals.lean).
  GIVEN WITH THE SEED: the statements are not yours to turn. If you find one false, say at which input.
  Laid BY PROGRAM, IN A SANDBOX (cutbox-rows.mjs): the forced cells as the released guide's own fill.sh prints them over the translation 996913482448368e… (all of the seat's roots in one cut). By AI agents, Wed Nov 11 2026. No macro, syntax, notation, axiom, sorry.
-/
import Derived.Test.YthpgnhmikffcpaaChecked
import GoSem.Claim
import GoSem.ClaimJoined
import GoSem.ClaimMapViews
import Derived.JoinedTies
import Derived.KernelRfl
namespace Go.Proofs.Ythpgnhmikffcpaa
/- THE CELL 'sum', in the pinned program and in every row, IS THE sha256 OF THE DUMP (.gsa) THAT YthpgnhmikffcpaaProg.lean LOADS. Nothing in Lean hashes anything: it is a label: what it is worth is what the hold of that sum in a sandbox is worth. -/
noncomputable def Try.pinned : Pinned := { name := "ythpgnhmikffcpaa", sum := "996913482448368e1cb9ed214ed46d1d00b62a541fa2ab524c205113f8d54da3", checked := Try.checked }
namespace Rows
def none {H : Type} : Left H := { results := [], args := [] }

/-- 'platenlaw08.ValuesBuilds': WHATEVER THE INPUT: true; the input reads as it did. -/
def valuesBuildsSpec : ChangeSpec := { name := "valuesBuilds", fn := fun _ => fun
  | [d] => { results := [.lit (.bool true)], args := [d] }
  | _ => none }
def valuesBuildsRow : OpenClaim := { program := "ythpgnhmikffcpaa", sum := "996913482448368e1cb9ed214ed46d1d00b62a541fa2ab524c205113f8d54da3", func := "platen/platenlaw08.ValuesBuilds", spec := "valuesBuilds", inPlace := ["internal/bytealg.abigen_runtime_cmpstring"], unfollowed := true, recurses := true, loops := true, apart := false }
def ValuesBuildsSaid : Prop := valuesBuildsRow.holds Try.pinned (OpenSpec.ofChange valuesBuildsSpec)

/-- ITS FALSE NEIGHBOUR: 'it returns false'. Refute it at one input. -/
def valuesBuildsWrong : ChangeSpec := { name := "valuesBuilds", fn := fun _ => fun
  | [d] => { results := [.lit (.bool false)], args := [d] }
  | _ => none }
def ValuesBuildsWrongFalsely : Prop := valuesBuildsRow.holds Try.pinned (OpenSpec.ofChange valuesBuildsWrong)

/-- 'platenlaw08.ValuesNumbers': WHATEVER THE INPUT: true; the input reads as it did. -/
def valuesNumbersSpec : ChangeSpec := { name := "valuesNumbers", fn := fun _ => fun
  | [d1, d2] => { results := [.lit (.bool true)], args := [d1, d2] }
  | _ => none }
def valuesNumbersRow : OpenClaim := { program := "ythpgnhmikffcpaa", sum := "996913482448368e1cb9ed214ed46d1d00b62a541fa2ab524c205113f8d54da3", func := "platen/platenlaw08.ValuesNumbers", spec := "valuesNumbers", inPlace := ["internal/bytealg.abigen_runtime_cmpstring"], unfollowed := true, recurses := true, apart := false }
def ValuesNumbersSaid : Prop := valuesNumbersRow.holds Try.pinned (OpenSpec.ofChange valuesNumbersSpec)

/-- ITS FALSE NEIGHBOUR: 'it returns false'. Refute it at one input. -/
def valuesNumbersWrong : ChangeSpec := { name := "valuesNumbers", fn := fun _ => fun
  | [d1, d2] => { results := [.lit (.bool false)], args := [d1, d2] }
  | _ => none }
def ValuesNumbersWrongFalsely : Prop := valuesNumbersRow.holds Try.pinned (OpenSpec.ofChange valuesNumbersWrong)

/-- 'platenlaw08.ValuesFull': WHATEVER THE INPUT: true; the input reads as it did. -/
def valuesFullSpec : ChangeSpec := { name := "valuesFull", fn := fun _ => fun
  | [d1, d2, d3] => { results := [.lit (.bool true)], args := [d1, d2, d3] }
  | _ => none }
def valuesFullRow : OpenClaim := { program := "ythpgnhmikffcpaa", sum := "996913482448368e1cb9ed214ed46d1d00b62a541fa2ab524c205113f8d54da3", func := "platen/platenlaw08.ValuesFull", spec := "valuesFull", inPlace := ["internal/bytealg.abigen_runtime_cmpstring"], unfollowed := true, recurses := true, apart := false }
def ValuesFullSaid : Prop := valuesFullRow.holds Try.pinned (OpenSpec.ofChange valuesFullSpec)

/-- ITS FALSE NEIGHBOUR: 'it returns false'. Refute it at one input. -/
def valuesFullWrong : ChangeSpec := { name := "valuesFull", fn := fun _ => fun
  | [d1, d2, d3] => { results := [.lit (.bool false)], args := [d1, d2, d3] }
  | _ => none }
def ValuesFullWrongFalsely : Prop := valuesFullRow.holds Try.pinned (OpenSpec.ofChange valuesFullWrong)

/-- 'platenlaw08.ValuesApart': WHATEVER THE INPUT: true; the input reads as it did. -/
def valuesApartSpec : ChangeSpec := { name := "valuesApart", fn := fun _ => fun
  | [d] => { results := [.lit (.bool true)], args := [d] }
  | _ => none }
def valuesApartRow : OpenClaim := { program := "ythpgnhmikffcpaa", sum := "996913482448368e1cb9ed214ed46d1d00b62a541fa2ab524c205113f8d54da3", func := "platen/platenlaw08.ValuesApart", spec := "valuesApart", inPlace := ["internal/bytealg.abigen_runtime_cmpstring"], unfollowed := true, recurses := true, loops := true, apart := false }
def ValuesApartSaid : Prop := valuesApartRow.holds Try.pinned (OpenSpec.ofChange valuesApartSpec)

/-- ITS FALSE NEIGHBOUR: 'it returns false'. Refute it at one input. -/
def valuesApartWrong : ChangeSpec := { name := "valuesApart", fn := fun _ => fun
  | [d] => { results := [.lit (.bool false)], args := [d] }
  | _ => none }
def ValuesApartWrongFalsely : Prop := valuesApartRow.holds Try.pinned (OpenSpec.ofChange valuesApartWrong)

/-- 'platenlaw08.ValuesCmps': WHATEVER THE INPUT: true; the input reads as it did. -/
def valuesCmpsSpec : ChangeSpec := { name := "valuesCmps", fn := fun _ => fun
  | [d1, d2] => { results := [.lit (.bool true)], args := [d1, d2] }
  | _ => none }
def valuesCmpsRow : OpenClaim := { program := "ythpgnhmikffcpaa", sum := "996913482448368e1cb9ed214ed46d1d00b62a541fa2ab524c205113f8d54da3", func := "platen/platenlaw08.ValuesCmps", spec := "valuesCmps", inPlace := ["internal/bytealg.abigen_runtime_cmpstring"], unfollowed := true, recurses := true, loops := true, apart := false }
def ValuesCmpsSaid : Prop := valuesCmpsRow.holds Try.pinned (OpenSpec.ofChange valuesCmpsSpec)

/-- ITS FALSE NEIGHBOUR: 'it returns false'. Refute it at one input. -/
def valuesCmpsWrong : ChangeSpec := { name := "valuesCmps", fn := fun _ => fun
  | [d1, d2] => { results := [.lit (.bool false)], args := [d1, d2] }
  | _ => none }
def ValuesCmpsWrongFalsely : Prop := valuesCmpsRow.holds Try.pinned (OpenSpec.ofChange valuesCmpsWrong)

/-- 'platenlaw08.ValuesOrders': WHATEVER THE INPUT: true; the input reads as it did. -/
def valuesOrdersSpec : ChangeSpec := { name := "valuesOrders", fn := fun _ => fun
  | [d1, d2, d3] => { results := [.lit (.bool true)], args := [d1, d2, d3] }
  | _ => none }
def valuesOrdersRow : OpenClaim := { program := "ythpgnhmikffcpaa", sum := "996913482448368e1cb9ed214ed46d1d00b62a541fa2ab524c205113f8d54da3", func := "platen/platenlaw08.ValuesOrders", spec := "valuesOrders", inPlace := ["internal/bytealg.abigen_runtime_cmpstring"], unfollowed := true, recurses := true, loops := true, apart := false }
def ValuesOrdersSaid : Prop := valuesOrdersRow.holds Try.pinned (OpenSpec.ofChange valuesOrdersSpec)

/-- ITS FALSE NEIGHBOUR: 'it returns false'. Refute it at one input. -/
def valuesOrdersWrong : ChangeSpec := { name := "valuesOrders", fn := fun _ => fun
  | [d1, d2, d3] => { results := [.lit (.bool false)], args := [d1, d2, d3] }
  | _ => none }
def ValuesOrdersWrongFalsely : Prop := valuesOrdersRow.holds Try.pinned (OpenSpec.ofChange valuesOrdersWrong)

/-- 'platenlaw08.ValuesMaps': WHATEVER THE INPUT: true; the input reads as it did. -/
def valuesMapsSpec : ChangeSpec := { name := "valuesMaps", fn := fun _ => fun
  | [d] => { results := [.lit (.bool true)], args := [d] }
  | _ => none }
def valuesMapsRow : OpenClaim := { program := "ythpgnhmikffcpaa", sum := "996913482448368e1cb9ed214ed46d1d00b62a541fa2ab524c205113f8d54da3", func := "platen/platenlaw08.ValuesMaps", spec := "valuesMaps", inPlace := ["internal/bytealg.abigen_runtime_cmpstring"], unfollowed := true, recurses := true, loops := true, apart := false }
def ValuesMapsSaid : Prop := valuesMapsRow.holds Try.pinned (OpenSpec.ofChange valuesMapsSpec)

/-- ITS FALSE NEIGHBOUR: 'it returns false'. Refute it at one input. -/
def valuesMapsWrong : ChangeSpec := { name := "valuesMaps", fn := fun _ => fun
  | [d] => { results := [.lit (.bool false)], args := [d] }
  | _ => none }
def ValuesMapsWrongFalsely : Prop := valuesMapsRow.holds Try.pinned (OpenSpec.ofChange valuesMapsWrong)

/-- 'platenlaw08.ValuesBack': WHATEVER THE INPUT: true; the input reads as it did. -/
def valuesBackSpec : ChangeSpec := { name := "valuesBack", fn := fun _ => fun
  | [d] => { results := [.lit (.bool true)], args := [d] }
  | _ => none }
def valuesBackRow : OpenClaim := { program := "ythpgnhmikffcpaa", sum := "996913482448368e1cb9ed214ed46d1d00b62a541fa2ab524c205113f8d54da3", func := "platen/platenlaw08.ValuesBack", spec := "valuesBack", inPlace := ["internal/bytealg.abigen_runtime_cmpstring"], unfollowed := true, recurses := true, loops := true, apart := false }
def ValuesBackSaid : Prop := valuesBackRow.holds Try.pinned (OpenSpec.ofChange valuesBackSpec)

/-- ITS FALSE NEIGHBOUR: 'it returns false'. Refute it at one input. -/
def valuesBackWrong : ChangeSpec := { name := "valuesBack", fn := fun _ => fun
  | [d] => { results := [.lit (.bool false)], args := [d] }
  | _ => none }
def ValuesBackWrongFalsely : Prop := valuesBackRow.holds Try.pinned (OpenSpec.ofChange valuesBackWrong)

/-- 'platenlaw08.ValuesTells': WHATEVER THE INPUT: true; the input reads as it did. -/
def valuesTellsSpec : ChangeSpec := { name := "valuesTells", fn := fun _ => fun
  | [d] => { results := [.lit (.bool true)], args := [d] }
  | _ => none }
def valuesTellsRow : OpenClaim := { program := "ythpgnhmikffcpaa", sum := "996913482448368e1cb9ed214ed46d1d00b62a541fa2ab524c205113f8d54da3", func := "platen/platenlaw08.ValuesTells", spec := "valuesTells", inPlace := ["internal/bytealg.abigen_runtime_cmpstring"], unfollowed := true, recurses := true, loops := true, apart := false }
def ValuesTellsSaid : Prop := valuesTellsRow.holds Try.pinned (OpenSpec.ofChange valuesTellsSpec)

/-- ITS FALSE NEIGHBOUR: 'it returns false'. Refute it at one input. -/
def valuesTellsWrong : ChangeSpec := { name := "valuesTells", fn := fun _ => fun
  | [d] => { results := [.lit (.bool false)], args := [d] }
  | _ => none }
def ValuesTellsWrongFalsely : Prop := valuesTellsRow.holds Try.pinned (OpenSpec.ofChange valuesTellsWrong)

/- THE SECOND FORM. 'bulk': how many values and letters a reading holds, each counted each time it is reached (what is shared counts as often as it is met; a slice's spare places count too). A statement '..UptoSaid' is the law's where the arguments, and the package variables that the reading takes, are together of bulk at most 1048576: NARROWER than '..Said'. Prove '..Said' where nothing that the law and all that it calls make is longer than what came in: it says more and counts as full. Else prove '..UptoSaid'. A law counts once. -/
mutual
def uptoBulk {H : Type} : DataW H → Nat
  | .lit (.string bytes) => bytes.length + 1
  | .lit _ => 1
  | .nil => 1
  | .ptr d => uptoBulk d + 1
  | .slice elems spare => uptoBulkAll elems + uptoBulkAll spare + 1
  | .agg parts => uptoBulkAll parts + 1
  | .iface _ d => uptoBulk d + 1
  | .map entries => uptoBulkEntries entries + 1
  | .held _ => 1
def uptoBulkAll {H : Type} : List (DataW H) → Nat
  | [] => 0
  | d :: r => uptoBulk d + uptoBulkAll r
def uptoBulkEntries {H : Type} : List (Lit × DataW H) → Nat
  | [] => 0
  | x :: r => uptoBulkEntry x + uptoBulkEntries r
def uptoBulkEntry {H : Type} : Lit × DataW H → Nat
  | (.string bytes, d) => bytes.length + uptoBulk d + 1
  | (_, d) => uptoBulk d + 1
 end
def uptoSmall : (H : Type) → List (DataW H) → Bool := fun _ ds => decide (uptoBulkAll ds ≤ 1048576)
def OpenSpec.upto (s : _root_.Go.ChangeSpec) : _root_.Go.OpenSpec := { _root_.Go.OpenSpec.ofChange s with cond := some uptoSmall }

/-- 'platenlaw08.ValuesBuilds', WHERE WHAT IT READS IS OF BULK AT MOST 1048576: true; the input reads as it did. -/
def valuesBuildsUptoRow : OpenClaim := { program := "ythpgnhmikffcpaa", sum := "996913482448368e1cb9ed214ed46d1d00b62a541fa2ab524c205113f8d54da3", func := "platen/platenlaw08.ValuesBuilds", spec := "valuesBuilds", inPlace := ["internal/bytealg.abigen_runtime_cmpstring"], unfollowed := true, recurses := true, loops := true, apart := false, narrowed := true }
def ValuesBuildsUptoSaid : Prop := valuesBuildsUptoRow.holds Try.pinned (OpenSpec.upto valuesBuildsSpec)

/-- 'platenlaw08.ValuesNumbers', WHERE WHAT IT READS IS OF BULK AT MOST 1048576: true; the input reads as it did. -/
def valuesNumbersUptoRow : OpenClaim := { program := "ythpgnhmikffcpaa", sum := "996913482448368e1cb9ed214ed46d1d00b62a541fa2ab524c205113f8d54da3", func := "platen/platenlaw08.ValuesNumbers", spec := "valuesNumbers", inPlace := ["internal/bytealg.abigen_runtime_cmpstring"], unfollowed := true, recurses := true, apart := false, narrowed := true }
def ValuesNumbersUptoSaid : Prop := valuesNumbersUptoRow.holds Try.pinned (OpenSpec.upto valuesNumbersSpec)

/-- 'platenlaw08.ValuesFull', WHERE WHAT IT READS IS OF BULK AT MOST 1048576: true; the input reads as it did. -/
def valuesFullUptoRow : OpenClaim := { program := "ythpgnhmikffcpaa", sum := "996913482448368e1cb9ed214ed46d1d00b62a541fa2ab524c205113f8d54da3", func := "platen/platenlaw08.ValuesFull", spec := "valuesFull", inPlace := ["internal/bytealg.abigen_runtime_cmpstring"], unfollowed := true, recurses := true, apart := false, narrowed := true }
def ValuesFullUptoSaid : Prop := valuesFullUptoRow.holds Try.pinned (OpenSpec.upto valuesFullSpec)

/-- 'platenlaw08.ValuesApart', WHERE WHAT IT READS IS OF BULK AT MOST 1048576: true; the input reads as it did. -/
def valuesApartUptoRow : OpenClaim := { program := "ythpgnhmikffcpaa", sum := "996913482448368e1cb9ed214ed46d1d00b62a541fa2ab524c205113f8d54da3", func := "platen/platenlaw08.ValuesApart", spec := "valuesApart", inPlace := ["internal/bytealg.abigen_runtime_cmpstring"], unfollowed := true, recurses := true, loops := true, apart := false, narrowed := true }
def ValuesApartUptoSaid : Prop := valuesApartUptoRow.holds Try.pinned (OpenSpec.upto valuesApartSpec)

/-- 'platenlaw08.ValuesCmps', WHERE WHAT IT READS IS OF BULK AT MOST 1048576: true; the input reads as it did. -/
def valuesCmpsUptoRow : OpenClaim := { program := "ythpgnhmikffcpaa", sum := "996913482448368e1cb9ed214ed46d1d00b62a541fa2ab524c205113f8d54da3", func := "platen/platenlaw08.ValuesCmps", spec := "valuesCmps", inPlace := ["internal/bytealg.abigen_runtime_cmpstring"], unfollowed := true, recurses := true, loops := true, apart := false, narrowed := true }
def ValuesCmpsUptoSaid : Prop := valuesCmpsUptoRow.holds Try.pinned (OpenSpec.upto valuesCmpsSpec)

/-- 'platenlaw08.ValuesOrders', WHERE WHAT IT READS IS OF BULK AT MOST 1048576: true; the input reads as it did. -/
def valuesOrdersUptoRow : OpenClaim := { program := "ythpgnhmikffcpaa", sum := "996913482448368e1cb9ed214ed46d1d00b62a541fa2ab524c205113f8d54da3", func := "platen/platenlaw08.ValuesOrders", spec := "valuesOrders", inPlace := ["internal/bytealg.abigen_runtime_cmpstring"], unfollowed := true, recurses := true, loops := true, apart := false, narrowed := true }
def ValuesOrdersUptoSaid : Prop := valuesOrdersUptoRow.holds Try.pinned (OpenSpec.upto valuesOrdersSpec)

/-- 'platenlaw08.ValuesMaps', WHERE WHAT IT READS IS OF BULK AT MOST 1048576: true; the input reads as it did. -/
def valuesMapsUptoRow : OpenClaim := { program := "ythpgnhmikffcpaa", sum := "996913482448368e1cb9ed214ed46d1d00b62a541fa2ab524c205113f8d54da3", func := "platen/platenlaw08.ValuesMaps", spec := "valuesMaps", inPlace := ["internal/bytealg.abigen_runtime_cmpstring"], unfollowed := true, recurses := true, loops := true, apart := false, narrowed := true }
def ValuesMapsUptoSaid : Prop := valuesMapsUptoRow.holds Try.pinned (OpenSpec.upto valuesMapsSpec)

/-- 'platenlaw08.ValuesBack', WHERE WHAT IT READS IS OF BULK AT MOST 1048576: true; the input reads as it did. -/
def valuesBackUptoRow : OpenClaim := { program := "ythpgnhmikffcpaa", sum := "996913482448368e1cb9ed214ed46d1d00b62a541fa2ab524c205113f8d54da3", func := "platen/platenlaw08.ValuesBack", spec := "valuesBack", inPlace := ["internal/bytealg.abigen_runtime_cmpstring"], unfollowed := true, recurses := true, loops := true, apart := false, narrowed := true }
def ValuesBackUptoSaid : Prop := valuesBackUptoRow.holds Try.pinned (OpenSpec.upto valuesBackSpec)

/-- 'platenlaw08.ValuesTells', WHERE WHAT IT READS IS OF BULK AT MOST 1048576: true; the input reads as it did. -/
def valuesTellsUptoRow : OpenClaim := { program := "ythpgnhmikffcpaa", sum := "996913482448368e1cb9ed214ed46d1d00b62a541fa2ab524c205113f8d54da3", func := "platen/platenlaw08.ValuesTells", spec := "valuesTells", inPlace := ["internal/bytealg.abigen_runtime_cmpstring"], unfollowed := true, recurses := true, loops := true, apart := false, narrowed := true }
def ValuesTellsUptoSaid : Prop := valuesTellsUptoRow.holds Try.pinned (OpenSpec.upto valuesTellsSpec)

end Rows
end Go.Proofs.Ythpgnhmikffcpaa
