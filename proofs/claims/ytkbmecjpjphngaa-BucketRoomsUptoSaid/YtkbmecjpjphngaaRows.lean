/-
  No cell of these rows narrows 'for every input' (looked for: loops, veiled, ifaces, maps, wideKeys, modest, calm, conditions, laid).
  DERIVED. THE GIVEN ROWS OF THIS SEAT. 4 by the template 'for every input the law returns true; each argument reads behind the call as it read before'; 0 by the template 'total and deterministic' (their statements: YtkbmecjpjphngaaTotals.lean).
  GIVEN WITH THE SEED: the statements are not yours to turn. If you find one false, say at which input.
  Laid BY PROGRAM, IN A SANDBOX (cutbox-rows.mjs): the forced cells as the released guide's own fill.sh prints them over the translation daf69021392418d0… (all of the seat's roots in one cut). By AI agents, Wed Nov 11 2026. No macro, syntax, notation, axiom, sorry.
-/
import Derived.Test.YtkbmecjpjphngaaChecked
import GoSem.Claim
import GoSem.ClaimJoined
import GoSem.ClaimMapViews
import Derived.JoinedTies
import Derived.KernelRfl
namespace Go.Proofs.Ytkbmecjpjphngaa
/- THE CELL 'sum', in the pinned program and in every row, IS THE sha256 OF THE DUMP (.gsa) THAT YtkbmecjpjphngaaProg.lean LOADS. Nothing in Lean hashes anything: it is a label: what it is worth is what the hold of that sum in a sandbox is worth. -/
noncomputable def Try.pinned : Pinned := { name := "ytkbmecjpjphngaa", sum := "daf69021392418d0ca5f5941ca186257c2224db5a3c39bd38b76f7e62d022a3c", checked := Try.checked }
namespace Rows
def none {H : Type} : Left H := { results := [], args := [] }

/-- 'glacierlaw15.BucketChecks': WHATEVER THE INPUT: true; the input reads as it did. -/
def bucketChecksSpec : ChangeSpec := { name := "bucketChecks", fn := fun _ => fun
  | [d] => { results := [.lit (.bool true)], args := [d] }
  | _ => none }
def bucketChecksRow : OpenClaim := { program := "ytkbmecjpjphngaa", sum := "daf69021392418d0ca5f5941ca186257c2224db5a3c39bd38b76f7e62d022a3c", func := "glacier/glacierlaw15.BucketChecks", spec := "bucketChecks", unfollowed := true, recurses := true, apart := false }
def BucketChecksSaid : Prop := bucketChecksRow.holds Try.pinned (OpenSpec.ofChange bucketChecksSpec)

/-- ITS FALSE NEIGHBOUR: 'it returns false'. Refute it at one input. -/
def bucketChecksWrong : ChangeSpec := { name := "bucketChecks", fn := fun _ => fun
  | [d] => { results := [.lit (.bool false)], args := [d] }
  | _ => none }
def BucketChecksWrongFalsely : Prop := bucketChecksRow.holds Try.pinned (OpenSpec.ofChange bucketChecksWrong)

/-- 'glacierlaw15.BucketParts': WHATEVER THE INPUT: true; the input reads as it did. -/
def bucketPartsSpec : ChangeSpec := { name := "bucketParts", fn := fun _ => fun
  | [d1, d2, d3] => { results := [.lit (.bool true)], args := [d1, d2, d3] }
  | _ => none }
def bucketPartsRow : OpenClaim := { program := "ytkbmecjpjphngaa", sum := "daf69021392418d0ca5f5941ca186257c2224db5a3c39bd38b76f7e62d022a3c", func := "glacier/glacierlaw15.BucketParts", spec := "bucketParts", unfollowed := true, recurses := true, apart := false }
def BucketPartsSaid : Prop := bucketPartsRow.holds Try.pinned (OpenSpec.ofChange bucketPartsSpec)

/-- ITS FALSE NEIGHBOUR: 'it returns false'. Refute it at one input. -/
def bucketPartsWrong : ChangeSpec := { name := "bucketParts", fn := fun _ => fun
  | [d1, d2, d3] => { results := [.lit (.bool false)], args := [d1, d2, d3] }
  | _ => none }
def BucketPartsWrongFalsely : Prop := bucketPartsRow.holds Try.pinned (OpenSpec.ofChange bucketPartsWrong)

/-- 'glacierlaw15.BucketRooms': WHATEVER THE INPUT: true; the input reads as it did. -/
def bucketRoomsSpec : ChangeSpec := { name := "bucketRooms", fn := fun _ => fun
  | [d1, d2] => { results := [.lit (.bool true)], args := [d1, d2] }
  | _ => none }
def bucketRoomsRow : OpenClaim := { program := "ytkbmecjpjphngaa", sum := "daf69021392418d0ca5f5941ca186257c2224db5a3c39bd38b76f7e62d022a3c", func := "glacier/glacierlaw15.BucketRooms", spec := "bucketRooms", unfollowed := true, recurses := true, apart := false }
def BucketRoomsSaid : Prop := bucketRoomsRow.holds Try.pinned (OpenSpec.ofChange bucketRoomsSpec)

/-- ITS FALSE NEIGHBOUR: 'it returns false'. Refute it at one input. -/
def bucketRoomsWrong : ChangeSpec := { name := "bucketRooms", fn := fun _ => fun
  | [d1, d2] => { results := [.lit (.bool false)], args := [d1, d2] }
  | _ => none }
def BucketRoomsWrongFalsely : Prop := bucketRoomsRow.holds Try.pinned (OpenSpec.ofChange bucketRoomsWrong)

/-- 'glacierlaw22.JudgeLate': WHATEVER THE INPUT: true; the input reads as it did. -/
def judgeLateSpec : ChangeSpec := { name := "judgeLate", fn := fun _ => fun
  | [d] => { results := [.lit (.bool true)], args := [d] }
  | _ => none }
def judgeLateRow : OpenClaim := { program := "ytkbmecjpjphngaa", sum := "daf69021392418d0ca5f5941ca186257c2224db5a3c39bd38b76f7e62d022a3c", func := "glacier/glacierlaw22.JudgeLate", spec := "judgeLate", unfollowed := true, recurses := true, apart := false }
def JudgeLateSaid : Prop := judgeLateRow.holds Try.pinned (OpenSpec.ofChange judgeLateSpec)

/-- ITS FALSE NEIGHBOUR: 'it returns false'. Refute it at one input. -/
def judgeLateWrong : ChangeSpec := { name := "judgeLate", fn := fun _ => fun
  | [d] => { results := [.lit (.bool false)], args := [d] }
  | _ => none }
def JudgeLateWrongFalsely : Prop := judgeLateRow.holds Try.pinned (OpenSpec.ofChange judgeLateWrong)

/- THE SECOND FORM. 'bulk': how many values and letters a reading holds, each counted each time it is reached (what is shared counts as often as it is met; a slice's spare places count too). A statement '..UptoSaid' is the law's where the arguments, and the package variables that the reading takes, are together of bulk at most 1048576: NARROWER than '..Said'. Prove '..Said' where nothing that the law and all that it calls make is longer than what came in: it says more and counts as full. Else prove '..UptoSaid'. A law counts once. -/
mutual
def uptoBulk {H : Type} : DataW H → Nat
  | .lit (.string bytes) => bytes.length + 1
  | .lit _ => 1
  | .nil => 1
  | .ptr d => uptoBulk d + 1
  | .slice elems spare => uptoBulkAll elems + uptoBulkAll spare + 1
  | .agg parts => uptoBulkAll parts + 1
  | .iface _ d => uptoBulk d + 1
  | .map entries => uptoBulkEntries entries + 1
  | .held _ => 1
def uptoBulkAll {H : Type} : List (DataW H) → Nat
  | [] => 0
  | d :: r => uptoBulk d + uptoBulkAll r
def uptoBulkEntries {H : Type} : List (Lit × DataW H) → Nat
  | [] => 0
  | x :: r => uptoBulkEntry x + uptoBulkEntries r
def uptoBulkEntry {H : Type} : Lit × DataW H → Nat
  | (.string bytes, d) => bytes.length + uptoBulk d + 1
  | (_, d) => uptoBulk d + 1
 end
def uptoSmall : (H : Type) → List (DataW H) → Bool := fun _ ds => decide (uptoBulkAll ds ≤ 1048576)
def OpenSpec.upto (s : _root_.Go.ChangeSpec) : _root_.Go.OpenSpec := { _root_.Go.OpenSpec.ofChange s with cond := some uptoSmall }

/-- 'glacierlaw15.BucketChecks', WHERE WHAT IT READS IS OF BULK AT MOST 1048576: true; the input reads as it did. -/
def bucketChecksUptoRow : OpenClaim := { program := "ytkbmecjpjphngaa", sum := "daf69021392418d0ca5f5941ca186257c2224db5a3c39bd38b76f7e62d022a3c", func := "glacier/glacierlaw15.BucketChecks", spec := "bucketChecks", unfollowed := true, recurses := true, apart := false, narrowed := true }
def BucketChecksUptoSaid : Prop := bucketChecksUptoRow.holds Try.pinned (OpenSpec.upto bucketChecksSpec)

/-- 'glacierlaw15.BucketParts', WHERE WHAT IT READS IS OF BULK AT MOST 1048576: true; the input reads as it did. -/
def bucketPartsUptoRow : OpenClaim := { program := "ytkbmecjpjphngaa", sum := "daf69021392418d0ca5f5941ca186257c2224db5a3c39bd38b76f7e62d022a3c", func := "glacier/glacierlaw15.BucketParts", spec := "bucketParts", unfollowed := true, recurses := true, apart := false, narrowed := true }
def BucketPartsUptoSaid : Prop := bucketPartsUptoRow.holds Try.pinned (OpenSpec.upto bucketPartsSpec)

/-- 'glacierlaw15.BucketRooms', WHERE WHAT IT READS IS OF BULK AT MOST 1048576: true; the input reads as it did. -/
def bucketRoomsUptoRow : OpenClaim := { program := "ytkbmecjpjphngaa", sum := "daf69021392418d0ca5f5941ca186257c2224db5a3c39bd38b76f7e62d022a3c", func := "glacier/glacierlaw15.BucketRooms", spec := "bucketRooms", unfollowed := true, recurses := true, apart := false, narrowed := true }
def BucketRoomsUptoSaid : Prop := bucketRoomsUptoRow.holds Try.pinned (OpenSpec.upto bucketRoomsSpec)

/-- 'glacierlaw22.JudgeLate', WHERE WHAT IT READS IS OF BULK AT MOST 1048576: true; the input reads as it did. -/
def judgeLateUptoRow : OpenClaim := { program := "ytkbmecjpjphngaa", sum := "daf69021392418d0ca5f5941ca186257c2224db5a3c39bd38b76f7e62d022a3c", func := "glacier/glacierlaw22.JudgeLate", spec := "judgeLate", unfollowed := true, recurses := true, apart := false, narrowed := true }
def JudgeLateUptoSaid : Prop := judgeLateUptoRow.holds Try.pinned (OpenSpec.upto judgeLateSpec)

end Rows
end Go.Proofs.Ytkbmecjpjphngaa
