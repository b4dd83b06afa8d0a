/-
  No cell of these rows narrows 'for every input' (looked for: loops, veiled, ifaces, maps, wideKeys, modest, calm, conditions, laid).
  DERIVED. THE GIVEN ROWS OF THIS SEAT. 6 by the template 'for every input the law returns true; each argument reads behind the call as it read before'; 0 by the template 'total and deterministic' (their statements: YtdhbnldigbjkkaaTotals.lean).
  GIVEN WITH THE SEED: the statements are not yours to turn. If you find one false, say at which input.
  Laid BY PROGRAM, IN A SANDBOX (cutbox-rows.mjs): the forced cells as the released guide's own fill.sh prints them over the translation 0309654e27bed439… (all of the seat's roots in one cut). By AI agents, Wed Nov 11 2026. No macro, syntax, notation, axiom, sorry.
-/
import Derived.Test.YtdhbnldigbjkkaaChecked
import GoSem.Claim
import GoSem.ClaimJoined
import GoSem.ClaimMapViews
import Derived.JoinedTies
import Derived.KernelRfl
namespace Go.Proofs.Ytdhbnldigbjkkaa
/- THE CELL 'sum', in the pinned program and in every row, IS THE sha256 OF THE DUMP (.gsa) THAT YtdhbnldigbjkkaaProg.lean LOADS. Nothing in Lean hashes anything: it is a label: what it is worth is what the hold of that sum in a sandbox is worth. -/
noncomputable def Try.pinned : Pinned := { name := "ytdhbnldigbjkkaa", sum := "0309654e27bed4398f26a3603d749f4c346dc2246052597930299035538440fe", checked := Try.checked }
namespace Rows
def none {H : Type} : Left H := { results := [], args := [] }

/-- 'platenlaw13.FreePlays': WHATEVER THE INPUT: true; the input reads as it did. -/
def freePlaysSpec : ChangeSpec := { name := "freePlays", fn := fun _ => fun
  | [d1, d2] => { results := [.lit (.bool true)], args := [d1, d2] }
  | _ => none }
def freePlaysRow : OpenClaim := { program := "ytdhbnldigbjkkaa", sum := "0309654e27bed4398f26a3603d749f4c346dc2246052597930299035538440fe", func := "platen/platenlaw13.FreePlays", spec := "freePlays", unfollowed := true, recurses := true, apart := false }
def FreePlaysSaid : Prop := freePlaysRow.holds Try.pinned (OpenSpec.ofChange freePlaysSpec)

/-- ITS FALSE NEIGHBOUR: 'it returns false'. Refute it at one input. -/
def freePlaysWrong : ChangeSpec := { name := "freePlays", fn := fun _ => fun
  | [d1, d2] => { results := [.lit (.bool false)], args := [d1, d2] }
  | _ => none }
def FreePlaysWrongFalsely : Prop := freePlaysRow.holds Try.pinned (OpenSpec.ofChange freePlaysWrong)

/-- 'platenlaw13.FreeOrders': WHATEVER THE INPUT: true; the input reads as it did. -/
def freeOrdersSpec : ChangeSpec := { name := "freeOrders", fn := fun _ => fun
  | [d] => { results := [.lit (.bool true)], args := [d] }
  | _ => none }
def freeOrdersRow : OpenClaim := { program := "ytdhbnldigbjkkaa", sum := "0309654e27bed4398f26a3603d749f4c346dc2246052597930299035538440fe", func := "platen/platenlaw13.FreeOrders", spec := "freeOrders", unfollowed := true, recurses := true, apart := false }
def FreeOrdersSaid : Prop := freeOrdersRow.holds Try.pinned (OpenSpec.ofChange freeOrdersSpec)

/-- ITS FALSE NEIGHBOUR: 'it returns false'. Refute it at one input. -/
def freeOrdersWrong : ChangeSpec := { name := "freeOrders", fn := fun _ => fun
  | [d] => { results := [.lit (.bool false)], args := [d] }
  | _ => none }
def FreeOrdersWrongFalsely : Prop := freeOrdersRow.holds Try.pinned (OpenSpec.ofChange freeOrdersWrong)

/-- 'platenlaw13.FreeFull': WHATEVER THE INPUT: true; the input reads as it did. -/
def freeFullSpec : ChangeSpec := { name := "freeFull", fn := fun _ => fun
  | [d] => { results := [.lit (.bool true)], args := [d] }
  | _ => none }
def freeFullRow : OpenClaim := { program := "ytdhbnldigbjkkaa", sum := "0309654e27bed4398f26a3603d749f4c346dc2246052597930299035538440fe", func := "platen/platenlaw13.FreeFull", spec := "freeFull", unfollowed := true, recurses := true, apart := false }
def FreeFullSaid : Prop := freeFullRow.holds Try.pinned (OpenSpec.ofChange freeFullSpec)

/-- ITS FALSE NEIGHBOUR: 'it returns false'. Refute it at one input. -/
def freeFullWrong : ChangeSpec := { name := "freeFull", fn := fun _ => fun
  | [d] => { results := [.lit (.bool false)], args := [d] }
  | _ => none }
def FreeFullWrongFalsely : Prop := freeFullRow.holds Try.pinned (OpenSpec.ofChange freeFullWrong)

/-- 'platenlaw13.FreeNone': WHATEVER THE INPUT: true; the input reads as it did. -/
def freeNoneSpec : ChangeSpec := { name := "freeNone", fn := fun _ => fun
  | [d1, d2] => { results := [.lit (.bool true)], args := [d1, d2] }
  | _ => none }
def freeNoneRow : OpenClaim := { program := "ytdhbnldigbjkkaa", sum := "0309654e27bed4398f26a3603d749f4c346dc2246052597930299035538440fe", func := "platen/platenlaw13.FreeNone", spec := "freeNone", unfollowed := true, recurses := true, apart := false }
def FreeNoneSaid : Prop := freeNoneRow.holds Try.pinned (OpenSpec.ofChange freeNoneSpec)

/-- ITS FALSE NEIGHBOUR: 'it returns false'. Refute it at one input. -/
def freeNoneWrong : ChangeSpec := { name := "freeNone", fn := fun _ => fun
  | [d1, d2] => { results := [.lit (.bool false)], args := [d1, d2] }
  | _ => none }
def FreeNoneWrongFalsely : Prop := freeNoneRow.holds Try.pinned (OpenSpec.ofChange freeNoneWrong)

/-- 'platenlaw13.FreeZero': WHATEVER THE INPUT: true; the input reads as it did. -/
def freeZeroSpec : ChangeSpec := { name := "freeZero", fn := fun _ => fun
  | [d1, d2] => { results := [.lit (.bool true)], args := [d1, d2] }
  | _ => none }
def freeZeroRow : OpenClaim := { program := "ytdhbnldigbjkkaa", sum := "0309654e27bed4398f26a3603d749f4c346dc2246052597930299035538440fe", func := "platen/platenlaw13.FreeZero", spec := "freeZero", unfollowed := true, recurses := true, apart := false }
def FreeZeroSaid : Prop := freeZeroRow.holds Try.pinned (OpenSpec.ofChange freeZeroSpec)

/-- ITS FALSE NEIGHBOUR: 'it returns false'. Refute it at one input. -/
def freeZeroWrong : ChangeSpec := { name := "freeZero", fn := fun _ => fun
  | [d1, d2] => { results := [.lit (.bool false)], args := [d1, d2] }
  | _ => none }
def FreeZeroWrongFalsely : Prop := freeZeroRow.holds Try.pinned (OpenSpec.ofChange freeZeroWrong)

/-- 'platenlaw13.FreeApart': WHATEVER THE INPUT: true; the input reads as it did. -/
def freeApartSpec : ChangeSpec := { name := "freeApart", fn := fun _ => fun
  | [d] => { results := [.lit (.bool true)], args := [d] }
  | _ => none }
def freeApartRow : OpenClaim := { program := "ytdhbnldigbjkkaa", sum := "0309654e27bed4398f26a3603d749f4c346dc2246052597930299035538440fe", func := "platen/platenlaw13.FreeApart", spec := "freeApart", unfollowed := true, recurses := true, apart := false }
def FreeApartSaid : Prop := freeApartRow.holds Try.pinned (OpenSpec.ofChange freeApartSpec)

/-- ITS FALSE NEIGHBOUR: 'it returns false'. Refute it at one input. -/
def freeApartWrong : ChangeSpec := { name := "freeApart", fn := fun _ => fun
  | [d] => { results := [.lit (.bool false)], args := [d] }
  | _ => none }
def FreeApartWrongFalsely : Prop := freeApartRow.holds Try.pinned (OpenSpec.ofChange freeApartWrong)

/- THE SECOND FORM. 'bulk': how many values and letters a reading holds, each counted each time it is reached (what is shared counts as often as it is met; a slice's spare places count too). A statement '..UptoSaid' is the law's where the arguments, and the package variables that the reading takes, are together of bulk at most 1048576: NARROWER than '..Said'. Prove '..Said' where nothing that the law and all that it calls make is longer than what came in: it says more and counts as full. Else prove '..UptoSaid'. A law counts once. -/
mutual
def uptoBulk {H : Type} : DataW H → Nat
  | .lit (.string bytes) => bytes.length + 1
  | .lit _ => 1
  | .nil => 1
  | .ptr d => uptoBulk d + 1
  | .slice elems spare => uptoBulkAll elems + uptoBulkAll spare + 1
  | .agg parts => uptoBulkAll parts + 1
  | .iface _ d => uptoBulk d + 1
  | .map entries => uptoBulkEntries entries + 1
  | .held _ => 1
def uptoBulkAll {H : Type} : List (DataW H) → Nat
  | [] => 0
  | d :: r => uptoBulk d + uptoBulkAll r
def uptoBulkEntries {H : Type} : List (Lit × DataW H) → Nat
  | [] => 0
  | x :: r => uptoBulkEntry x + uptoBulkEntries r
def uptoBulkEntry {H : Type} : Lit × DataW H → Nat
  | (.string bytes, d) => bytes.length + uptoBulk d + 1
  | (_, d) => uptoBulk d + 1
 end
def uptoSmall : (H : Type) → List (DataW H) → Bool := fun _ ds => decide (uptoBulkAll ds ≤ 1048576)
def OpenSpec.upto (s : _root_.Go.ChangeSpec) : _root_.Go.OpenSpec := { _root_.Go.OpenSpec.ofChange s with cond := some uptoSmall }

/-- 'platenlaw13.FreePlays', WHERE WHAT IT READS IS OF BULK AT MOST 1048576: true; the input reads as it did. -/
def freePlaysUptoRow : OpenClaim := { program := "ytdhbnldigbjkkaa", sum := "0309654e27bed4398f26a3603d749f4c346dc2246052597930299035538440fe", func := "platen/platenlaw13.FreePlays", spec := "freePlays", unfollowed := true, recurses := true, apart := false, narrowed := true }
def FreePlaysUptoSaid : Prop := freePlaysUptoRow.holds Try.pinned (OpenSpec.upto freePlaysSpec)

/-- 'platenlaw13.FreeOrders', WHERE WHAT IT READS IS OF BULK AT MOST 1048576: true; the input reads as it did. -/
def freeOrdersUptoRow : OpenClaim := { program := "ytdhbnldigbjkkaa", sum := "0309654e27bed4398f26a3603d749f4c346dc2246052597930299035538440fe", func := "platen/platenlaw13.FreeOrders", spec := "freeOrders", unfollowed := true, recurses := true, apart := false, narrowed := true }
def FreeOrdersUptoSaid : Prop := freeOrdersUptoRow.holds Try.pinned (OpenSpec.upto freeOrdersSpec)

/-- 'platenlaw13.FreeFull', WHERE WHAT IT READS IS OF BULK AT MOST 1048576: true; the input reads as it did. -/
def freeFullUptoRow : OpenClaim := { program := "ytdhbnldigbjkkaa", sum := "0309654e27bed4398f26a3603d749f4c346dc2246052597930299035538440fe", func := "platen/platenlaw13.FreeFull", spec := "freeFull", unfollowed := true, recurses := true, apart := false, narrowed := true }
def FreeFullUptoSaid : Prop := freeFullUptoRow.holds Try.pinned (OpenSpec.upto freeFullSpec)

/-- 'platenlaw13.FreeNone', WHERE WHAT IT READS IS OF BULK AT MOST 1048576: true; the input reads as it did. -/
def freeNoneUptoRow : OpenClaim := { program := "ytdhbnldigbjkkaa", sum := "0309654e27bed4398f26a3603d749f4c346dc2246052597930299035538440fe", func := "platen/platenlaw13.FreeNone", spec := "freeNone", unfollowed := true, recurses := true, apart := false, narrowed := true }
def FreeNoneUptoSaid : Prop := freeNoneUptoRow.holds Try.pinned (OpenSpec.upto freeNoneSpec)

/-- 'platenlaw13.FreeZero', WHERE WHAT IT READS IS OF BULK AT MOST 1048576: true; the input reads as it did. -/
def freeZeroUptoRow : OpenClaim := { program := "ytdhbnldigbjkkaa", sum := "0309654e27bed4398f26a3603d749f4c346dc2246052597930299035538440fe", func := "platen/platenlaw13.FreeZero", spec := "freeZero", unfollowed := true, recurses := true, apart := false, narrowed := true }
def FreeZeroUptoSaid : Prop := freeZeroUptoRow.holds Try.pinned (OpenSpec.upto freeZeroSpec)

/-- 'platenlaw13.FreeApart', WHERE WHAT IT READS IS OF BULK AT MOST 1048576: true; the input reads as it did. -/
def freeApartUptoRow : OpenClaim := { program := "ytdhbnldigbjkkaa", sum := "0309654e27bed4398f26a3603d749f4c346dc2246052597930299035538440fe", func := "platen/platenlaw13.FreeApart", spec := "freeApart", unfollowed := true, recurses := true, apart := false, narrowed := true }
def FreeApartUptoSaid : Prop := freeApartUptoRow.holds Try.pinned (OpenSpec.upto freeApartSpec)

end Rows
end Go.Proofs.Ytdhbnldigbjkkaa
