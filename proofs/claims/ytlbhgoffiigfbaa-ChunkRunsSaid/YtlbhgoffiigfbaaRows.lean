/-
  NARROWER THAN 'FOR EVERY INPUT', by the rows' own cells (each row's printed sentence says how): ChunkBack: loops · ChunkBest: loops · ChunkRuns: loops.
  DERIVED. THE GIVEN ROWS OF THIS SEAT. 6 by the template 'for every input the law returns true; each argument reads behind the call as it read before'; 0 by the template 'total and deterministic' (their statements: YtlbhgoffiigfbaaTotals.lean).
  GIVEN WITH THE SEED: the statements are not yours to turn. If you find one false, say at which input.
  Laid BY PROGRAM, IN A SANDBOX (cutbox-rows.mjs): the forced cells as the released guide's own fill.sh prints them over the translation b3a89665cc3af7bb… (all of the seat's roots in one cut). By AI agents, Wed Nov 11 2026. No macro, syntax, notation, axiom, sorry.
-/
import Derived.Test.YtlbhgoffiigfbaaChecked
import GoSem.Claim
import GoSem.ClaimJoined
import GoSem.ClaimMapViews
import Derived.JoinedTies
import Derived.KernelRfl
namespace Go.Proofs.Ytlbhgoffiigfbaa
/- THE CELL 'sum', in the pinned program and in every row, IS THE sha256 OF THE DUMP (.gsa) THAT YtlbhgoffiigfbaaProg.lean LOADS. Nothing in Lean hashes anything: it is a label: what it is worth is what the hold of that sum in a sandbox is worth. -/
noncomputable def Try.pinned : Pinned := { name := "ytlbhgoffiigfbaa", sum := "b3a89665cc3af7bbb397d31e3451aae670a6b3dac3d09f3fb4f7ff769cc9e45c", checked := Try.checked }
namespace Rows
def none {H : Type} : Left H := { results := [], args := [] }

/-- 'cirruslaw05.ChunkNumbers': WHATEVER THE INPUT: true; the input reads as it did. -/
def chunkNumbersSpec : ChangeSpec := { name := "chunkNumbers", fn := fun _ => fun
  | [d1, d2] => { results := [.lit (.bool true)], args := [d1, d2] }
  | _ => none }
def chunkNumbersRow : OpenClaim := { program := "ytlbhgoffiigfbaa", sum := "b3a89665cc3af7bbb397d31e3451aae670a6b3dac3d09f3fb4f7ff769cc9e45c", func := "cirrus/cirruslaw05.ChunkNumbers", spec := "chunkNumbers", unfollowed := true, recurses := true, apart := false }
def ChunkNumbersSaid : Prop := chunkNumbersRow.holds Try.pinned (OpenSpec.ofChange chunkNumbersSpec)

/-- ITS FALSE NEIGHBOUR: 'it returns false'. Refute it at one input. -/
def chunkNumbersWrong : ChangeSpec := { name := "chunkNumbers", fn := fun _ => fun
  | [d1, d2] => { results := [.lit (.bool false)], args := [d1, d2] }
  | _ => none }
def ChunkNumbersWrongFalsely : Prop := chunkNumbersRow.holds Try.pinned (OpenSpec.ofChange chunkNumbersWrong)

/-- 'cirruslaw05.ChunkBack': WHATEVER THE INPUT: true; the input reads as it did. -/
def chunkBackSpec : ChangeSpec := { name := "chunkBack", fn := fun _ => fun
  | [d] => { results := [.lit (.bool true)], args := [d] }
  | _ => none }
def chunkBackRow : OpenClaim := { program := "ytlbhgoffiigfbaa", sum := "b3a89665cc3af7bbb397d31e3451aae670a6b3dac3d09f3fb4f7ff769cc9e45c", func := "cirrus/cirruslaw05.ChunkBack", spec := "chunkBack", unfollowed := true, recurses := true, loops := true, apart := false }
def ChunkBackSaid : Prop := chunkBackRow.holds Try.pinned (OpenSpec.ofChange chunkBackSpec)

/-- ITS FALSE NEIGHBOUR: 'it returns false'. Refute it at one input. -/
def chunkBackWrong : ChangeSpec := { name := "chunkBack", fn := fun _ => fun
  | [d] => { results := [.lit (.bool false)], args := [d] }
  | _ => none }
def ChunkBackWrongFalsely : Prop := chunkBackRow.holds Try.pinned (OpenSpec.ofChange chunkBackWrong)

/-- 'cirruslaw05.ChunkOnly': WHATEVER THE INPUT: true; the input reads as it did. -/
def chunkOnlySpec : ChangeSpec := { name := "chunkOnly", fn := fun _ => fun
  | [d1, d2] => { results := [.lit (.bool true)], args := [d1, d2] }
  | _ => none }
def chunkOnlyRow : OpenClaim := { program := "ytlbhgoffiigfbaa", sum := "b3a89665cc3af7bbb397d31e3451aae670a6b3dac3d09f3fb4f7ff769cc9e45c", func := "cirrus/cirruslaw05.ChunkOnly", spec := "chunkOnly", unfollowed := true, recurses := true, apart := false }
def ChunkOnlySaid : Prop := chunkOnlyRow.holds Try.pinned (OpenSpec.ofChange chunkOnlySpec)

/-- ITS FALSE NEIGHBOUR: 'it returns false'. Refute it at one input. -/
def chunkOnlyWrong : ChangeSpec := { name := "chunkOnly", fn := fun _ => fun
  | [d1, d2] => { results := [.lit (.bool false)], args := [d1, d2] }
  | _ => none }
def ChunkOnlyWrongFalsely : Prop := chunkOnlyRow.holds Try.pinned (OpenSpec.ofChange chunkOnlyWrong)

/-- 'cirruslaw05.ChunkBest': WHATEVER THE INPUT: true; the input reads as it did. -/
def chunkBestSpec : ChangeSpec := { name := "chunkBest", fn := fun _ => fun
  | [d] => { results := [.lit (.bool true)], args := [d] }
  | _ => none }
def chunkBestRow : OpenClaim := { program := "ytlbhgoffiigfbaa", sum := "b3a89665cc3af7bbb397d31e3451aae670a6b3dac3d09f3fb4f7ff769cc9e45c", func := "cirrus/cirruslaw05.ChunkBest", spec := "chunkBest", unfollowed := true, recurses := true, loops := true, apart := false }
def ChunkBestSaid : Prop := chunkBestRow.holds Try.pinned (OpenSpec.ofChange chunkBestSpec)

/-- ITS FALSE NEIGHBOUR: 'it returns false'. Refute it at one input. -/
def chunkBestWrong : ChangeSpec := { name := "chunkBest", fn := fun _ => fun
  | [d] => { results := [.lit (.bool false)], args := [d] }
  | _ => none }
def ChunkBestWrongFalsely : Prop := chunkBestRow.holds Try.pinned (OpenSpec.ofChange chunkBestWrong)

/-- 'cirruslaw05.ChunkRuns': WHATEVER THE INPUT: true; the input reads as it did. -/
def chunkRunsSpec : ChangeSpec := { name := "chunkRuns", fn := fun _ => fun
  | [d1, d2] => { results := [.lit (.bool true)], args := [d1, d2] }
  | _ => none }
def chunkRunsRow : OpenClaim := { program := "ytlbhgoffiigfbaa", sum := "b3a89665cc3af7bbb397d31e3451aae670a6b3dac3d09f3fb4f7ff769cc9e45c", func := "cirrus/cirruslaw05.ChunkRuns", spec := "chunkRuns", unfollowed := true, recurses := true, loops := true, apart := false }
def ChunkRunsSaid : Prop := chunkRunsRow.holds Try.pinned (OpenSpec.ofChange chunkRunsSpec)

/-- ITS FALSE NEIGHBOUR: 'it returns false'. Refute it at one input. -/
def chunkRunsWrong : ChangeSpec := { name := "chunkRuns", fn := fun _ => fun
  | [d1, d2] => { results := [.lit (.bool false)], args := [d1, d2] }
  | _ => none }
def ChunkRunsWrongFalsely : Prop := chunkRunsRow.holds Try.pinned (OpenSpec.ofChange chunkRunsWrong)

/-- 'cirruslaw05.ChunkDamaged': WHATEVER THE INPUT: true; the input reads as it did. -/
def chunkDamagedSpec : ChangeSpec := { name := "chunkDamaged", fn := fun _ => fun
  | [d1, d2, d3] => { results := [.lit (.bool true)], args := [d1, d2, d3] }
  | _ => none }
def chunkDamagedRow : OpenClaim := { program := "ytlbhgoffiigfbaa", sum := "b3a89665cc3af7bbb397d31e3451aae670a6b3dac3d09f3fb4f7ff769cc9e45c", func := "cirrus/cirruslaw05.ChunkDamaged", spec := "chunkDamaged", unfollowed := true, recurses := true, apart := false }
def ChunkDamagedSaid : Prop := chunkDamagedRow.holds Try.pinned (OpenSpec.ofChange chunkDamagedSpec)

/-- ITS FALSE NEIGHBOUR: 'it returns false'. Refute it at one input. -/
def chunkDamagedWrong : ChangeSpec := { name := "chunkDamaged", fn := fun _ => fun
  | [d1, d2, d3] => { results := [.lit (.bool false)], args := [d1, d2, d3] }
  | _ => none }
def ChunkDamagedWrongFalsely : Prop := chunkDamagedRow.holds Try.pinned (OpenSpec.ofChange chunkDamagedWrong)

/- THE SECOND FORM. 'bulk': how many values and letters a reading holds, each counted each time it is reached (what is shared counts as often as it is met; a slice's spare places count too). A statement '..UptoSaid' is the law's where the arguments, and the package variables that the reading takes, are together of bulk at most 1048576: NARROWER than '..Said'. Prove '..Said' where nothing that the law and all that it calls make is longer than what came in: it says more and counts as full. Else prove '..UptoSaid'. A law counts once. -/
mutual
def uptoBulk {H : Type} : DataW H → Nat
  | .lit (.string bytes) => bytes.length + 1
  | .lit _ => 1
  | .nil => 1
  | .ptr d => uptoBulk d + 1
  | .slice elems spare => uptoBulkAll elems + uptoBulkAll spare + 1
  | .agg parts => uptoBulkAll parts + 1
  | .iface _ d => uptoBulk d + 1
  | .map entries => uptoBulkEntries entries + 1
  | .held _ => 1
def uptoBulkAll {H : Type} : List (DataW H) → Nat
  | [] => 0
  | d :: r => uptoBulk d + uptoBulkAll r
def uptoBulkEntries {H : Type} : List (Lit × DataW H) → Nat
  | [] => 0
  | x :: r => uptoBulkEntry x + uptoBulkEntries r
def uptoBulkEntry {H : Type} : Lit × DataW H → Nat
  | (.string bytes, d) => bytes.length + uptoBulk d + 1
  | (_, d) => uptoBulk d + 1
 end
def uptoSmall : (H : Type) → List (DataW H) → Bool := fun _ ds => decide (uptoBulkAll ds ≤ 1048576)
def OpenSpec.upto (s : _root_.Go.ChangeSpec) : _root_.Go.OpenSpec := { _root_.Go.OpenSpec.ofChange s with cond := some uptoSmall }

/-- 'cirruslaw05.ChunkNumbers', WHERE WHAT IT READS IS OF BULK AT MOST 1048576: true; the input reads as it did. -/
def chunkNumbersUptoRow : OpenClaim := { program := "ytlbhgoffiigfbaa", sum := "b3a89665cc3af7bbb397d31e3451aae670a6b3dac3d09f3fb4f7ff769cc9e45c", func := "cirrus/cirruslaw05.ChunkNumbers", spec := "chunkNumbers", unfollowed := true, recurses := true, apart := false, narrowed := true }
def ChunkNumbersUptoSaid : Prop := chunkNumbersUptoRow.holds Try.pinned (OpenSpec.upto chunkNumbersSpec)

/-- 'cirruslaw05.ChunkBack', WHERE WHAT IT READS IS OF BULK AT MOST 1048576: true; the input reads as it did. -/
def chunkBackUptoRow : OpenClaim := { program := "ytlbhgoffiigfbaa", sum := "b3a89665cc3af7bbb397d31e3451aae670a6b3dac3d09f3fb4f7ff769cc9e45c", func := "cirrus/cirruslaw05.ChunkBack", spec := "chunkBack", unfollowed := true, recurses := true, loops := true, apart := false, narrowed := true }
def ChunkBackUptoSaid : Prop := chunkBackUptoRow.holds Try.pinned (OpenSpec.upto chunkBackSpec)

/-- 'cirruslaw05.ChunkOnly', WHERE WHAT IT READS IS OF BULK AT MOST 1048576: true; the input reads as it did. -/
def chunkOnlyUptoRow : OpenClaim := { program := "ytlbhgoffiigfbaa", sum := "b3a89665cc3af7bbb397d31e3451aae670a6b3dac3d09f3fb4f7ff769cc9e45c", func := "cirrus/cirruslaw05.ChunkOnly", spec := "chunkOnly", unfollowed := true, recurses := true, apart := false, narrowed := true }
def ChunkOnlyUptoSaid : Prop := chunkOnlyUptoRow.holds Try.pinned (OpenSpec.upto chunkOnlySpec)

/-- 'cirruslaw05.ChunkBest', WHERE WHAT IT READS IS OF BULK AT MOST 1048576: true; the input reads as it did. -/
def chunkBestUptoRow : OpenClaim := { program := "ytlbhgoffiigfbaa", sum := "b3a89665cc3af7bbb397d31e3451aae670a6b3dac3d09f3fb4f7ff769cc9e45c", func := "cirrus/cirruslaw05.ChunkBest", spec := "chunkBest", unfollowed := true, recurses := true, loops := true, apart := false, narrowed := true }
def ChunkBestUptoSaid : Prop := chunkBestUptoRow.holds Try.pinned (OpenSpec.upto chunkBestSpec)

/-- 'cirruslaw05.ChunkRuns', WHERE WHAT IT READS IS OF BULK AT MOST 1048576: true; the input reads as it did. -/
def chunkRunsUptoRow : OpenClaim := { program := "ytlbhgoffiigfbaa", sum := "b3a89665cc3af7bbb397d31e3451aae670a6b3dac3d09f3fb4f7ff769cc9e45c", func := "cirrus/cirruslaw05.ChunkRuns", spec := "chunkRuns", unfollowed := true, recurses := true, loops := true, apart := false, narrowed := true }
def ChunkRunsUptoSaid : Prop := chunkRunsUptoRow.holds Try.pinned (OpenSpec.upto chunkRunsSpec)

/-- 'cirruslaw05.ChunkDamaged', WHERE WHAT IT READS IS OF BULK AT MOST 1048576: true; the input reads as it did. -/
def chunkDamagedUptoRow : OpenClaim := { program := "ytlbhgoffiigfbaa", sum := "b3a89665cc3af7bbb397d31e3451aae670a6b3dac3d09f3fb4f7ff769cc9e45c", func := "cirrus/cirruslaw05.ChunkDamaged", spec := "chunkDamaged", unfollowed := true, recurses := true, apart := false, narrowed := true }
def ChunkDamagedUptoSaid : Prop := chunkDamagedUptoRow.holds Try.pinned (OpenSpec.upto chunkDamagedSpec)

end Rows
end Go.Proofs.Ytlbhgoffiigfbaa
