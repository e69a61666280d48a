/-
  NARROWER THAN 'FOR EVERY INPUT', by the rows' own cells (each row's printed sentence says how): MatchSays: loops · PatternsMissing: loops · PatternsRedundant: loops · PatternsSay: loops.
  DERIVED. THE GIVEN ROWS OF THIS SEAT. 12 by the template 'for every input the law returns true; each argument reads behind the call as it read before'; 0 by the template 'total and deterministic' (their statements: YtfheeikjlehikaaTotals.lean).
  GIVEN WITH THE SEED: the statements are not yours to turn. If you find one false, say at which input.
  Laid BY PROGRAM, IN A SANDBOX (cutbox-rows.mjs): the forced cells as the released guide's own fill.sh prints them over the translation 5c8d22c9e12bd8ae… (all of the seat's roots in one cut). By AI agents, Wed Nov 11 2026. No macro, syntax, notation, axiom, sorry.
-/
import Derived.Test.YtfheeikjlehikaaChecked
import GoSem.Claim
import GoSem.ClaimJoined
import GoSem.ClaimMapViews
import Derived.JoinedTies
import Derived.KernelRfl
namespace Go.Proofs.Ytfheeikjlehikaa
/- THE CELL 'sum', in the pinned program and in every row, IS THE sha256 OF THE DUMP (.gsa) THAT YtfheeikjlehikaaProg.lean LOADS. Nothing in Lean hashes anything: it is a label: what it is worth is what the hold of that sum in a sandbox is worth. -/
noncomputable def Try.pinned : Pinned := { name := "ytfheeikjlehikaa", sum := "5c8d22c9e12bd8ae18a09a16c68f8eb4b43e935d29cc3d329c14225223d673b3", checked := Try.checked }
namespace Rows
def none {H : Type} : Left H := { results := [], args := [] }

/-- 'provenancelaw3.MatchSays': WHATEVER THE INPUT: true; the input reads as it did. -/
def matchSaysSpec : ChangeSpec := { name := "matchSays", fn := fun _ => fun
  | [d1, d2, d3] => { results := [.lit (.bool true)], args := [d1, d2, d3] }
  | _ => none }
def matchSaysRow : OpenClaim := { program := "ytfheeikjlehikaa", sum := "5c8d22c9e12bd8ae18a09a16c68f8eb4b43e935d29cc3d329c14225223d673b3", func := "provenance/provenancelaw3.MatchSays", spec := "matchSays", unfollowed := true, recurses := true, loops := true, apart := false }
def MatchSaysSaid : Prop := matchSaysRow.holds Try.pinned (OpenSpec.ofChange matchSaysSpec)

/-- ITS FALSE NEIGHBOUR: 'it returns false'. Refute it at one input. -/
def matchSaysWrong : ChangeSpec := { name := "matchSays", fn := fun _ => fun
  | [d1, d2, d3] => { results := [.lit (.bool false)], args := [d1, d2, d3] }
  | _ => none }
def MatchSaysWrongFalsely : Prop := matchSaysRow.holds Try.pinned (OpenSpec.ofChange matchSaysWrong)

/-- 'provenancelaw4.TileChecks': WHATEVER THE INPUT: true; the input reads as it did. -/
def tileChecksSpec : ChangeSpec := { name := "tileChecks", fn := fun _ => fun
  | [d] => { results := [.lit (.bool true)], args := [d] }
  | _ => none }
def tileChecksRow : OpenClaim := { program := "ytfheeikjlehikaa", sum := "5c8d22c9e12bd8ae18a09a16c68f8eb4b43e935d29cc3d329c14225223d673b3", func := "provenance/provenancelaw4.TileChecks", spec := "tileChecks", unfollowed := true, recurses := true, apart := false }
def TileChecksSaid : Prop := tileChecksRow.holds Try.pinned (OpenSpec.ofChange tileChecksSpec)

/-- ITS FALSE NEIGHBOUR: 'it returns false'. Refute it at one input. -/
def tileChecksWrong : ChangeSpec := { name := "tileChecks", fn := fun _ => fun
  | [d] => { results := [.lit (.bool false)], args := [d] }
  | _ => none }
def TileChecksWrongFalsely : Prop := tileChecksRow.holds Try.pinned (OpenSpec.ofChange tileChecksWrong)

/-- 'provenancelaw4.TileLives': WHATEVER THE INPUT: true; the input reads as it did. -/
def tileLivesSpec : ChangeSpec := { name := "tileLives", fn := fun _ => fun
  | [d] => { results := [.lit (.bool true)], args := [d] }
  | _ => none }
def tileLivesRow : OpenClaim := { program := "ytfheeikjlehikaa", sum := "5c8d22c9e12bd8ae18a09a16c68f8eb4b43e935d29cc3d329c14225223d673b3", func := "provenance/provenancelaw4.TileLives", spec := "tileLives", unfollowed := true, recurses := true, apart := false }
def TileLivesSaid : Prop := tileLivesRow.holds Try.pinned (OpenSpec.ofChange tileLivesSpec)

/-- ITS FALSE NEIGHBOUR: 'it returns false'. Refute it at one input. -/
def tileLivesWrong : ChangeSpec := { name := "tileLives", fn := fun _ => fun
  | [d] => { results := [.lit (.bool false)], args := [d] }
  | _ => none }
def TileLivesWrongFalsely : Prop := tileLivesRow.holds Try.pinned (OpenSpec.ofChange tileLivesWrong)

/-- 'provenancelaw4.PipePlays': WHATEVER THE INPUT: true; the input reads as it did. -/
def pipePlaysSpec : ChangeSpec := { name := "pipePlays", fn := fun _ => fun
  | [d1, d2, d3] => { results := [.lit (.bool true)], args := [d1, d2, d3] }
  | _ => none }
def pipePlaysRow : OpenClaim := { program := "ytfheeikjlehikaa", sum := "5c8d22c9e12bd8ae18a09a16c68f8eb4b43e935d29cc3d329c14225223d673b3", func := "provenance/provenancelaw4.PipePlays", spec := "pipePlays", inPlace := ["slices.overlaps[int]"], unfollowed := true, recurses := true, apart := false }
def PipePlaysSaid : Prop := pipePlaysRow.holds Try.pinned (OpenSpec.ofChange pipePlaysSpec)

/-- ITS FALSE NEIGHBOUR: 'it returns false'. Refute it at one input. -/
def pipePlaysWrong : ChangeSpec := { name := "pipePlays", fn := fun _ => fun
  | [d1, d2, d3] => { results := [.lit (.bool false)], args := [d1, d2, d3] }
  | _ => none }
def PipePlaysWrongFalsely : Prop := pipePlaysRow.holds Try.pinned (OpenSpec.ofChange pipePlaysWrong)

/-- 'provenancelaw4.LinkSays': WHATEVER THE INPUT: true; the input reads as it did. -/
def linkSaysSpec : ChangeSpec := { name := "linkSays", fn := fun _ => fun
  | [d1, d2, d3, d4] => { results := [.lit (.bool true)], args := [d1, d2, d3, d4] }
  | _ => none }
def linkSaysRow : OpenClaim := { program := "ytfheeikjlehikaa", sum := "5c8d22c9e12bd8ae18a09a16c68f8eb4b43e935d29cc3d329c14225223d673b3", func := "provenance/provenancelaw4.LinkSays", spec := "linkSays", unfollowed := true, recurses := true, apart := false }
def LinkSaysSaid : Prop := linkSaysRow.holds Try.pinned (OpenSpec.ofChange linkSaysSpec)

/-- ITS FALSE NEIGHBOUR: 'it returns false'. Refute it at one input. -/
def linkSaysWrong : ChangeSpec := { name := "linkSays", fn := fun _ => fun
  | [d1, d2, d3, d4] => { results := [.lit (.bool false)], args := [d1, d2, d3, d4] }
  | _ => none }
def LinkSaysWrongFalsely : Prop := linkSaysRow.holds Try.pinned (OpenSpec.ofChange linkSaysWrong)

/-- 'provenancelaw3.CfgSplitIs': WHATEVER THE INPUT: true; the input reads as it did. -/
def cfgSplitIsSpec : ChangeSpec := { name := "cfgSplitIs", fn := fun _ => fun
  | [d] => { results := [.lit (.bool true)], args := [d] }
  | _ => none }
def cfgSplitIsRow : OpenClaim := { program := "ytfheeikjlehikaa", sum := "5c8d22c9e12bd8ae18a09a16c68f8eb4b43e935d29cc3d329c14225223d673b3", func := "provenance/provenancelaw3.CfgSplitIs", spec := "cfgSplitIs", unfollowed := true, recurses := true, apart := false }
def CfgSplitIsSaid : Prop := cfgSplitIsRow.holds Try.pinned (OpenSpec.ofChange cfgSplitIsSpec)

/-- ITS FALSE NEIGHBOUR: 'it returns false'. Refute it at one input. -/
def cfgSplitIsWrong : ChangeSpec := { name := "cfgSplitIs", fn := fun _ => fun
  | [d] => { results := [.lit (.bool false)], args := [d] }
  | _ => none }
def CfgSplitIsWrongFalsely : Prop := cfgSplitIsRow.holds Try.pinned (OpenSpec.ofChange cfgSplitIsWrong)

/-- 'provenancelaw3.CfgSwitches': WHATEVER THE INPUT: true; the input reads as it did. -/
def cfgSwitchesSpec : ChangeSpec := { name := "cfgSwitches", fn := fun _ => fun
  | [d1, d2] => { results := [.lit (.bool true)], args := [d1, d2] }
  | _ => none }
def cfgSwitchesRow : OpenClaim := { program := "ytfheeikjlehikaa", sum := "5c8d22c9e12bd8ae18a09a16c68f8eb4b43e935d29cc3d329c14225223d673b3", func := "provenance/provenancelaw3.CfgSwitches", spec := "cfgSwitches", unfollowed := true, recurses := true, apart := false }
def CfgSwitchesSaid : Prop := cfgSwitchesRow.holds Try.pinned (OpenSpec.ofChange cfgSwitchesSpec)

/-- ITS FALSE NEIGHBOUR: 'it returns false'. Refute it at one input. -/
def cfgSwitchesWrong : ChangeSpec := { name := "cfgSwitches", fn := fun _ => fun
  | [d1, d2] => { results := [.lit (.bool false)], args := [d1, d2] }
  | _ => none }
def CfgSwitchesWrongFalsely : Prop := cfgSwitchesRow.holds Try.pinned (OpenSpec.ofChange cfgSwitchesWrong)

/-- 'provenancelaw3.PatternsMissing': WHATEVER THE INPUT: true; the input reads as it did. -/
def patternsMissingSpec : ChangeSpec := { name := "patternsMissing", fn := fun _ => fun
  | [d1, d2, d3] => { results := [.lit (.bool true)], args := [d1, d2, d3] }
  | _ => none }
def patternsMissingRow : OpenClaim := { program := "ytfheeikjlehikaa", sum := "5c8d22c9e12bd8ae18a09a16c68f8eb4b43e935d29cc3d329c14225223d673b3", func := "provenance/provenancelaw3.PatternsMissing", spec := "patternsMissing", unfollowed := true, recurses := true, loops := true, apart := false }
def PatternsMissingSaid : Prop := patternsMissingRow.holds Try.pinned (OpenSpec.ofChange patternsMissingSpec)

/-- ITS FALSE NEIGHBOUR: 'it returns false'. Refute it at one input. -/
def patternsMissingWrong : ChangeSpec := { name := "patternsMissing", fn := fun _ => fun
  | [d1, d2, d3] => { results := [.lit (.bool false)], args := [d1, d2, d3] }
  | _ => none }
def PatternsMissingWrongFalsely : Prop := patternsMissingRow.holds Try.pinned (OpenSpec.ofChange patternsMissingWrong)

/-- 'provenancelaw3.PatternsRedundant': WHATEVER THE INPUT: true; the input reads as it did. -/
def patternsRedundantSpec : ChangeSpec := { name := "patternsRedundant", fn := fun _ => fun
  | [d1, d2] => { results := [.lit (.bool true)], args := [d1, d2] }
  | _ => none }
def patternsRedundantRow : OpenClaim := { program := "ytfheeikjlehikaa", sum := "5c8d22c9e12bd8ae18a09a16c68f8eb4b43e935d29cc3d329c14225223d673b3", func := "provenance/provenancelaw3.PatternsRedundant", spec := "patternsRedundant", unfollowed := true, recurses := true, loops := true, apart := false }
def PatternsRedundantSaid : Prop := patternsRedundantRow.holds Try.pinned (OpenSpec.ofChange patternsRedundantSpec)

/-- ITS FALSE NEIGHBOUR: 'it returns false'. Refute it at one input. -/
def patternsRedundantWrong : ChangeSpec := { name := "patternsRedundant", fn := fun _ => fun
  | [d1, d2] => { results := [.lit (.bool false)], args := [d1, d2] }
  | _ => none }
def PatternsRedundantWrongFalsely : Prop := patternsRedundantRow.holds Try.pinned (OpenSpec.ofChange patternsRedundantWrong)

/-- 'provenancelaw3.PatternsSay': WHATEVER THE INPUT: true; the input reads as it did. -/
def patternsSaySpec : ChangeSpec := { name := "patternsSay", fn := fun _ => fun
  | [d1, d2, d3] => { results := [.lit (.bool true)], args := [d1, d2, d3] }
  | _ => none }
def patternsSayRow : OpenClaim := { program := "ytfheeikjlehikaa", sum := "5c8d22c9e12bd8ae18a09a16c68f8eb4b43e935d29cc3d329c14225223d673b3", func := "provenance/provenancelaw3.PatternsSay", spec := "patternsSay", unfollowed := true, recurses := true, loops := true, apart := false }
def PatternsSaySaid : Prop := patternsSayRow.holds Try.pinned (OpenSpec.ofChange patternsSaySpec)

/-- ITS FALSE NEIGHBOUR: 'it returns false'. Refute it at one input. -/
def patternsSayWrong : ChangeSpec := { name := "patternsSay", fn := fun _ => fun
  | [d1, d2, d3] => { results := [.lit (.bool false)], args := [d1, d2, d3] }
  | _ => none }
def PatternsSayWrongFalsely : Prop := patternsSayRow.holds Try.pinned (OpenSpec.ofChange patternsSayWrong)

/-- 'provenancelaw4.AlloccheckSays': WHATEVER THE INPUT: true; the input reads as it did. -/
def alloccheckSaysSpec : ChangeSpec := { name := "alloccheckSays", fn := fun _ => fun
  | [d1, d2] => { results := [.lit (.bool true)], args := [d1, d2] }
  | _ => none }
def alloccheckSaysRow : OpenClaim := { program := "ytfheeikjlehikaa", sum := "5c8d22c9e12bd8ae18a09a16c68f8eb4b43e935d29cc3d329c14225223d673b3", func := "provenance/provenancelaw4.AlloccheckSays", spec := "alloccheckSays", unfollowed := true, recurses := true, apart := false }
def AlloccheckSaysSaid : Prop := alloccheckSaysRow.holds Try.pinned (OpenSpec.ofChange alloccheckSaysSpec)

/-- ITS FALSE NEIGHBOUR: 'it returns false'. Refute it at one input. -/
def alloccheckSaysWrong : ChangeSpec := { name := "alloccheckSays", fn := fun _ => fun
  | [d1, d2] => { results := [.lit (.bool false)], args := [d1, d2] }
  | _ => none }
def AlloccheckSaysWrongFalsely : Prop := alloccheckSaysRow.holds Try.pinned (OpenSpec.ofChange alloccheckSaysWrong)

/-- 'provenancelaw3.CfgGraph': WHATEVER THE INPUT: true; the input reads as it did. -/
def cfgGraphSpec : ChangeSpec := { name := "cfgGraph", fn := fun _ => fun
  | [d] => { results := [.lit (.bool true)], args := [d] }
  | _ => none }
def cfgGraphRow : OpenClaim := { program := "ytfheeikjlehikaa", sum := "5c8d22c9e12bd8ae18a09a16c68f8eb4b43e935d29cc3d329c14225223d673b3", func := "provenance/provenancelaw3.CfgGraph", spec := "cfgGraph", unfollowed := true, recurses := true, apart := false }
def CfgGraphSaid : Prop := cfgGraphRow.holds Try.pinned (OpenSpec.ofChange cfgGraphSpec)

/-- ITS FALSE NEIGHBOUR: 'it returns false'. Refute it at one input. -/
def cfgGraphWrong : ChangeSpec := { name := "cfgGraph", fn := fun _ => fun
  | [d] => { results := [.lit (.bool false)], args := [d] }
  | _ => none }
def CfgGraphWrongFalsely : Prop := cfgGraphRow.holds Try.pinned (OpenSpec.ofChange cfgGraphWrong)

/- THE SECOND FORM. 'bulk': how many values and letters a reading holds, each counted each time it is reached (what is shared counts as often as it is met; a slice's spare places count too). A statement '..UptoSaid' is the law's where the arguments, and the package variables that the reading takes, are together of bulk at most 1048576: NARROWER than '..Said'. Prove '..Said' where nothing that the law and all that it calls make is longer than what came in: it says more and counts as full. Else prove '..UptoSaid'. A law counts once. -/
mutual
def uptoBulk {H : Type} : DataW H → Nat
  | .lit (.string bytes) => bytes.length + 1
  | .lit _ => 1
  | .nil => 1
  | .ptr d => uptoBulk d + 1
  | .slice elems spare => uptoBulkAll elems + uptoBulkAll spare + 1
  | .agg parts => uptoBulkAll parts + 1
  | .iface _ d => uptoBulk d + 1
  | .map entries => uptoBulkEntries entries + 1
  | .held _ => 1
def uptoBulkAll {H : Type} : List (DataW H) → Nat
  | [] => 0
  | d :: r => uptoBulk d + uptoBulkAll r
def uptoBulkEntries {H : Type} : List (Lit × DataW H) → Nat
  | [] => 0
  | x :: r => uptoBulkEntry x + uptoBulkEntries r
def uptoBulkEntry {H : Type} : Lit × DataW H → Nat
  | (.string bytes, d) => bytes.length + uptoBulk d + 1
  | (_, d) => uptoBulk d + 1
 end
def uptoSmall : (H : Type) → List (DataW H) → Bool := fun _ ds => decide (uptoBulkAll ds ≤ 1048576)
def OpenSpec.upto (s : _root_.Go.ChangeSpec) : _root_.Go.OpenSpec := { _root_.Go.OpenSpec.ofChange s with cond := some uptoSmall }

/-- 'provenancelaw3.MatchSays', WHERE WHAT IT READS IS OF BULK AT MOST 1048576: true; the input reads as it did. -/
def matchSaysUptoRow : OpenClaim := { program := "ytfheeikjlehikaa", sum := "5c8d22c9e12bd8ae18a09a16c68f8eb4b43e935d29cc3d329c14225223d673b3", func := "provenance/provenancelaw3.MatchSays", spec := "matchSays", unfollowed := true, recurses := true, loops := true, apart := false, narrowed := true }
def MatchSaysUptoSaid : Prop := matchSaysUptoRow.holds Try.pinned (OpenSpec.upto matchSaysSpec)

/-- 'provenancelaw4.TileChecks', WHERE WHAT IT READS IS OF BULK AT MOST 1048576: true; the input reads as it did. -/
def tileChecksUptoRow : OpenClaim := { program := "ytfheeikjlehikaa", sum := "5c8d22c9e12bd8ae18a09a16c68f8eb4b43e935d29cc3d329c14225223d673b3", func := "provenance/provenancelaw4.TileChecks", spec := "tileChecks", unfollowed := true, recurses := true, apart := false, narrowed := true }
def TileChecksUptoSaid : Prop := tileChecksUptoRow.holds Try.pinned (OpenSpec.upto tileChecksSpec)

/-- 'provenancelaw4.TileLives', WHERE WHAT IT READS IS OF BULK AT MOST 1048576: true; the input reads as it did. -/
def tileLivesUptoRow : OpenClaim := { program := "ytfheeikjlehikaa", sum := "5c8d22c9e12bd8ae18a09a16c68f8eb4b43e935d29cc3d329c14225223d673b3", func := "provenance/provenancelaw4.TileLives", spec := "tileLives", unfollowed := true, recurses := true, apart := false, narrowed := true }
def TileLivesUptoSaid : Prop := tileLivesUptoRow.holds Try.pinned (OpenSpec.upto tileLivesSpec)

/-- 'provenancelaw4.PipePlays', WHERE WHAT IT READS IS OF BULK AT MOST 1048576: true; the input reads as it did. -/
def pipePlaysUptoRow : OpenClaim := { program := "ytfheeikjlehikaa", sum := "5c8d22c9e12bd8ae18a09a16c68f8eb4b43e935d29cc3d329c14225223d673b3", func := "provenance/provenancelaw4.PipePlays", spec := "pipePlays", inPlace := ["slices.overlaps[int]"], unfollowed := true, recurses := true, apart := false, narrowed := true }
def PipePlaysUptoSaid : Prop := pipePlaysUptoRow.holds Try.pinned (OpenSpec.upto pipePlaysSpec)

/-- 'provenancelaw4.LinkSays', WHERE WHAT IT READS IS OF BULK AT MOST 1048576: true; the input reads as it did. -/
def linkSaysUptoRow : OpenClaim := { program := "ytfheeikjlehikaa", sum := "5c8d22c9e12bd8ae18a09a16c68f8eb4b43e935d29cc3d329c14225223d673b3", func := "provenance/provenancelaw4.LinkSays", spec := "linkSays", unfollowed := true, recurses := true, apart := false, narrowed := true }
def LinkSaysUptoSaid : Prop := linkSaysUptoRow.holds Try.pinned (OpenSpec.upto linkSaysSpec)

/-- 'provenancelaw3.CfgSplitIs', WHERE WHAT IT READS IS OF BULK AT MOST 1048576: true; the input reads as it did. -/
def cfgSplitIsUptoRow : OpenClaim := { program := "ytfheeikjlehikaa", sum := "5c8d22c9e12bd8ae18a09a16c68f8eb4b43e935d29cc3d329c14225223d673b3", func := "provenance/provenancelaw3.CfgSplitIs", spec := "cfgSplitIs", unfollowed := true, recurses := true, apart := false, narrowed := true }
def CfgSplitIsUptoSaid : Prop := cfgSplitIsUptoRow.holds Try.pinned (OpenSpec.upto cfgSplitIsSpec)

/-- 'provenancelaw3.CfgSwitches', WHERE WHAT IT READS IS OF BULK AT MOST 1048576: true; the input reads as it did. -/
def cfgSwitchesUptoRow : OpenClaim := { program := "ytfheeikjlehikaa", sum := "5c8d22c9e12bd8ae18a09a16c68f8eb4b43e935d29cc3d329c14225223d673b3", func := "provenance/provenancelaw3.CfgSwitches", spec := "cfgSwitches", unfollowed := true, recurses := true, apart := false, narrowed := true }
def CfgSwitchesUptoSaid : Prop := cfgSwitchesUptoRow.holds Try.pinned (OpenSpec.upto cfgSwitchesSpec)

/-- 'provenancelaw3.PatternsMissing', WHERE WHAT IT READS IS OF BULK AT MOST 1048576: true; the input reads as it did. -/
def patternsMissingUptoRow : OpenClaim := { program := "ytfheeikjlehikaa", sum := "5c8d22c9e12bd8ae18a09a16c68f8eb4b43e935d29cc3d329c14225223d673b3", func := "provenance/provenancelaw3.PatternsMissing", spec := "patternsMissing", unfollowed := true, recurses := true, loops := true, apart := false, narrowed := true }
def PatternsMissingUptoSaid : Prop := patternsMissingUptoRow.holds Try.pinned (OpenSpec.upto patternsMissingSpec)

/-- 'provenancelaw3.PatternsRedundant', WHERE WHAT IT READS IS OF BULK AT MOST 1048576: true; the input reads as it did. -/
def patternsRedundantUptoRow : OpenClaim := { program := "ytfheeikjlehikaa", sum := "5c8d22c9e12bd8ae18a09a16c68f8eb4b43e935d29cc3d329c14225223d673b3", func := "provenance/provenancelaw3.PatternsRedundant", spec := "patternsRedundant", unfollowed := true, recurses := true, loops := true, apart := false, narrowed := true }
def PatternsRedundantUptoSaid : Prop := patternsRedundantUptoRow.holds Try.pinned (OpenSpec.upto patternsRedundantSpec)

/-- 'provenancelaw3.PatternsSay', WHERE WHAT IT READS IS OF BULK AT MOST 1048576: true; the input reads as it did. -/
def patternsSayUptoRow : OpenClaim := { program := "ytfheeikjlehikaa", sum := "5c8d22c9e12bd8ae18a09a16c68f8eb4b43e935d29cc3d329c14225223d673b3", func := "provenance/provenancelaw3.PatternsSay", spec := "patternsSay", unfollowed := true, recurses := true, loops := true, apart := false, narrowed := true }
def PatternsSayUptoSaid : Prop := patternsSayUptoRow.holds Try.pinned (OpenSpec.upto patternsSaySpec)

/-- 'provenancelaw4.AlloccheckSays', WHERE WHAT IT READS IS OF BULK AT MOST 1048576: true; the input reads as it did. -/
def alloccheckSaysUptoRow : OpenClaim := { program := "ytfheeikjlehikaa", sum := "5c8d22c9e12bd8ae18a09a16c68f8eb4b43e935d29cc3d329c14225223d673b3", func := "provenance/provenancelaw4.AlloccheckSays", spec := "alloccheckSays", unfollowed := true, recurses := true, apart := false, narrowed := true }
def AlloccheckSaysUptoSaid : Prop := alloccheckSaysUptoRow.holds Try.pinned (OpenSpec.upto alloccheckSaysSpec)

/-- 'provenancelaw3.CfgGraph', WHERE WHAT IT READS IS OF BULK AT MOST 1048576: true; the input reads as it did. -/
def cfgGraphUptoRow : OpenClaim := { program := "ytfheeikjlehikaa", sum := "5c8d22c9e12bd8ae18a09a16c68f8eb4b43e935d29cc3d329c14225223d673b3", func := "provenance/provenancelaw3.CfgGraph", spec := "cfgGraph", unfollowed := true, recurses := true, apart := false, narrowed := true }
def CfgGraphUptoSaid : Prop := cfgGraphUptoRow.holds Try.pinned (OpenSpec.upto cfgGraphSpec)

end Rows
end Go.Proofs.Ytfheeikjlehikaa
