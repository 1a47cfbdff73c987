/-
  NARROWER THAN 'FOR EVERY INPUT', by the rows' own cells (each row's printed sentence says how): ChunkPacks: loops · ChunkBests: loops.
  DERIVED. THE GIVEN ROWS OF THIS SEAT. 3 by the template 'for every input the law returns true; each argument reads behind the call as it read before'; 0 by the template 'total and deterministic' (their statements: YtlbhgoffiigfbaaGreatTotals.lean).
  GIVEN WITH THE SEED: the statements are not yours to turn. If you find one false, say at which input.
  Laid BY PROGRAM, IN A SANDBOX (cutbox-rows.mjs): the forced cells as the released guide's own fill.sh prints them over the translation a3c9180b020618d0… (all of the seat's roots in one cut). By AI agents, Wed Nov 11 2026. No macro, syntax, notation, axiom, sorry.
-/
import Derived.Test.YtlbhgoffiigfbaaGreatChecked
import GoSem.Claim
import GoSem.ClaimJoined
import GoSem.ClaimMapViews
import Derived.JoinedTies
import Derived.KernelRfl
namespace Go.Proofs.YtlbhgoffiigfbaaGreat
/- THE CELL 'sum', in the pinned program and in every row, IS THE sha256 OF THE DUMP (.gsa) THAT YtlbhgoffiigfbaaGreatProg.lean LOADS. Nothing in Lean hashes anything: it is a label: what it is worth is what the hold of that sum in a sandbox is worth. -/
noncomputable def Tryz.pinned : Pinned := { name := "ytlbhgoffiigfbaagreat", sum := "a3c9180b020618d031ef67e07932e4a92646a432d97881269752c86308fd1ff1", checked := Tryz.checked }
namespace Rows
def none {H : Type} : Left H := { results := [], args := [] }

/-- 'cirruslaw05.ChunkPacks': WHATEVER THE INPUT: true; the input reads as it did. -/
def chunkPacksSpec : ChangeSpec := { name := "chunkPacks", fn := fun _ => fun
  | [d1, d2] => { results := [.lit (.bool true)], args := [d1, d2] }
  | _ => none }
def chunkPacksRow : OpenClaim := { program := "ytlbhgoffiigfbaagreat", sum := "a3c9180b020618d031ef67e07932e4a92646a432d97881269752c86308fd1ff1", func := "cirrus/cirruslaw05.ChunkPacks", spec := "chunkPacks", unfollowed := true, recurses := true, loops := true, apart := false }
def ChunkPacksSaid : Prop := chunkPacksRow.holds Tryz.pinned (OpenSpec.ofChange chunkPacksSpec)

/-- ITS FALSE NEIGHBOUR: 'it returns false'. Refute it at one input. -/
def chunkPacksWrong : ChangeSpec := { name := "chunkPacks", fn := fun _ => fun
  | [d1, d2] => { results := [.lit (.bool false)], args := [d1, d2] }
  | _ => none }
def ChunkPacksWrongFalsely : Prop := chunkPacksRow.holds Tryz.pinned (OpenSpec.ofChange chunkPacksWrong)

/-- 'cirruslaw05.ChunkUnpacks': WHATEVER THE INPUT: true; the input reads as it did. -/
def chunkUnpacksSpec : ChangeSpec := { name := "chunkUnpacks", fn := fun _ => fun
  | [d1, d2] => { results := [.lit (.bool true)], args := [d1, d2] }
  | _ => none }
def chunkUnpacksRow : OpenClaim := { program := "ytlbhgoffiigfbaagreat", sum := "a3c9180b020618d031ef67e07932e4a92646a432d97881269752c86308fd1ff1", func := "cirrus/cirruslaw05.ChunkUnpacks", spec := "chunkUnpacks", unfollowed := true, recurses := true, apart := false }
def ChunkUnpacksSaid : Prop := chunkUnpacksRow.holds Tryz.pinned (OpenSpec.ofChange chunkUnpacksSpec)

/-- ITS FALSE NEIGHBOUR: 'it returns false'. Refute it at one input. -/
def chunkUnpacksWrong : ChangeSpec := { name := "chunkUnpacks", fn := fun _ => fun
  | [d1, d2] => { results := [.lit (.bool false)], args := [d1, d2] }
  | _ => none }
def ChunkUnpacksWrongFalsely : Prop := chunkUnpacksRow.holds Tryz.pinned (OpenSpec.ofChange chunkUnpacksWrong)

/-- 'cirruslaw05.ChunkBests': WHATEVER THE INPUT: true; the input reads as it did. -/
def chunkBestsSpec : ChangeSpec := { name := "chunkBests", fn := fun _ => fun
  | [d] => { results := [.lit (.bool true)], args := [d] }
  | _ => none }
def chunkBestsRow : OpenClaim := { program := "ytlbhgoffiigfbaagreat", sum := "a3c9180b020618d031ef67e07932e4a92646a432d97881269752c86308fd1ff1", func := "cirrus/cirruslaw05.ChunkBests", spec := "chunkBests", unfollowed := true, recurses := true, loops := true, apart := false }
def ChunkBestsSaid : Prop := chunkBestsRow.holds Tryz.pinned (OpenSpec.ofChange chunkBestsSpec)

/-- ITS FALSE NEIGHBOUR: 'it returns false'. Refute it at one input. -/
def chunkBestsWrong : ChangeSpec := { name := "chunkBests", fn := fun _ => fun
  | [d] => { results := [.lit (.bool false)], args := [d] }
  | _ => none }
def ChunkBestsWrongFalsely : Prop := chunkBestsRow.holds Tryz.pinned (OpenSpec.ofChange chunkBestsWrong)

/- THE SECOND FORM. 'bulk': how many values and letters a reading holds, each counted each time it is reached (what is shared counts as often as it is met; a slice's spare places count too). A statement '..UptoSaid' is the law's where the arguments, and the package variables that the reading takes, are together of bulk at most 1048576: NARROWER than '..Said'. Prove '..Said' where nothing that the law and all that it calls make is longer than what came in: it says more and counts as full. Else prove '..UptoSaid'. A law counts once. -/
mutual
def uptoBulk {H : Type} : DataW H → Nat
  | .lit (.string bytes) => bytes.length + 1
  | .lit _ => 1
  | .nil => 1
  | .ptr d => uptoBulk d + 1
  | .slice elems spare => uptoBulkAll elems + uptoBulkAll spare + 1
  | .agg parts => uptoBulkAll parts + 1
  | .iface _ d => uptoBulk d + 1
  | .map entries => uptoBulkEntries entries + 1
  | .held _ => 1
def uptoBulkAll {H : Type} : List (DataW H) → Nat
  | [] => 0
  | d :: r => uptoBulk d + uptoBulkAll r
def uptoBulkEntries {H : Type} : List (Lit × DataW H) → Nat
  | [] => 0
  | x :: r => uptoBulkEntry x + uptoBulkEntries r
def uptoBulkEntry {H : Type} : Lit × DataW H → Nat
  | (.string bytes, d) => bytes.length + uptoBulk d + 1
  | (_, d) => uptoBulk d + 1
 end
def uptoSmall : (H : Type) → List (DataW H) → Bool := fun _ ds => decide (uptoBulkAll ds ≤ 1048576)
def OpenSpec.upto (s : _root_.Go.ChangeSpec) : _root_.Go.OpenSpec := { _root_.Go.OpenSpec.ofChange s with cond := some uptoSmall }

/-- 'cirruslaw05.ChunkPacks', WHERE WHAT IT READS IS OF BULK AT MOST 1048576: true; the input reads as it did. -/
def chunkPacksUptoRow : OpenClaim := { program := "ytlbhgoffiigfbaagreat", sum := "a3c9180b020618d031ef67e07932e4a92646a432d97881269752c86308fd1ff1", func := "cirrus/cirruslaw05.ChunkPacks", spec := "chunkPacks", unfollowed := true, recurses := true, loops := true, apart := false, narrowed := true }
def ChunkPacksUptoSaid : Prop := chunkPacksUptoRow.holds Tryz.pinned (OpenSpec.upto chunkPacksSpec)

/-- 'cirruslaw05.ChunkUnpacks', WHERE WHAT IT READS IS OF BULK AT MOST 1048576: true; the input reads as it did. -/
def chunkUnpacksUptoRow : OpenClaim := { program := "ytlbhgoffiigfbaagreat", sum := "a3c9180b020618d031ef67e07932e4a92646a432d97881269752c86308fd1ff1", func := "cirrus/cirruslaw05.ChunkUnpacks", spec := "chunkUnpacks", unfollowed := true, recurses := true, apart := false, narrowed := true }
def ChunkUnpacksUptoSaid : Prop := chunkUnpacksUptoRow.holds Tryz.pinned (OpenSpec.upto chunkUnpacksSpec)

/-- 'cirruslaw05.ChunkBests', WHERE WHAT IT READS IS OF BULK AT MOST 1048576: true; the input reads as it did. -/
def chunkBestsUptoRow : OpenClaim := { program := "ytlbhgoffiigfbaagreat", sum := "a3c9180b020618d031ef67e07932e4a92646a432d97881269752c86308fd1ff1", func := "cirrus/cirruslaw05.ChunkBests", spec := "chunkBests", unfollowed := true, recurses := true, loops := true, apart := false, narrowed := true }
def ChunkBestsUptoSaid : Prop := chunkBestsUptoRow.holds Tryz.pinned (OpenSpec.upto chunkBestsSpec)

end Rows
end Go.Proofs.YtlbhgoffiigfbaaGreat
