/-
  NARROWER THAN 'FOR EVERY INPUT', by the rows' own cells (each row's printed sentence says how): TreeRoots: laid · TreeBinds: laid · TreePaths: laid · TreeChecks: laid · TreeExtends: laid · TreeGrows: laid · TreeBent: laid · TreeLarge: laid · TreeTwice: laid · TreeKeeps: laid.
  DERIVED. THE GIVEN ROWS OF THIS SEAT. 10 by the template 'for every input the law returns true; each argument reads behind the call as it read before'; 0 by the template 'total and deterministic' (their statements: YtjedhmoehepbnaaDoorTotals.lean).
  GIVEN WITH THE SEED: the statements are not yours to turn. If you find one false, say at which input.
  Laid BY PROGRAM, IN A SANDBOX (cutbox-rows.mjs): the forced cells as the released guide's own fill.sh prints them over the translation 48b1291c5318436d… (all of the seat's roots in one cut). By AI agents, Wed Nov 11 2026. No macro, syntax, notation, axiom, sorry.
-/
import Derived.Test.YtjedhmoehepbnaaDoorChecked
import GoSem.Claim
import GoSem.ClaimJoined
import GoSem.ClaimMapViews
import Derived.JoinedTies
import Derived.KernelRfl
namespace Go.Proofs.YtjedhmoehepbnaaDoor
/- THE CELL 'sum', in the pinned program and in every row, IS THE sha256 OF THE DUMP (.gsa) THAT YtjedhmoehepbnaaDoorProg.lean LOADS. Nothing in Lean hashes anything: it is a label: what it is worth is what the hold of that sum in a sandbox is worth. -/
noncomputable def Tryd.pinned : Pinned := { name := "ytjedhmoehepbnaadoor", sum := "48b1291c5318436d66da48c82a3012fa8bb6e068a43ad9ee0e07f7e7cd8ee940", checked := Tryd.checked }
namespace Rows
def none {H : Type} : Left H := { results := [], args := [] }

/- WHAT THE LISTED PACKAGE-LEVEL VARIABLES READ AS WHEN THE CALL BEGINS. Each datum BY PROGRAM (the guide's laid-datum.mjs) off the statement by which the dump's own 'gosem.cut.vars' lays the variable. In a bare row this is a premise. The card (YtjedhmoehepbnaaDoorCards.lean) ties it to the program's text. -/
def laid_sortes_digest_first {H : Type} : DataW H := .agg [.lit (.int .u32 1779033703), .lit (.int .u32 3144134277), .lit (.int .u32 1013904242), .lit (.int .u32 2773480762), .lit (.int .u32 1359893119), .lit (.int .u32 2600822924), .lit (.int .u32 528734635), .lit (.int .u32 1541459225)]
def laid_sortes_digest_constants {H : Type} : DataW H := .agg [.lit (.int .u32 1116352408), .lit (.int .u32 1899447441), .lit (.int .u32 3049323471), .lit (.int .u32 3921009573), .lit (.int .u32 961987163), .lit (.int .u32 1508970993), .lit (.int .u32 2453635748), .lit (.int .u32 2870763221), .lit (.int .u32 3624381080), .lit (.int .u32 310598401), .lit (.int .u32 607225278), .lit (.int .u32 1426881987), .lit (.int .u32 1925078388), .lit (.int .u32 2162078206), .lit (.int .u32 2614888103), .lit (.int .u32 3248222580), .lit (.int .u32 3835390401), .lit (.int .u32 4022224774), .lit (.int .u32 264347078), .lit (.int .u32 604807628), .lit (.int .u32 770255983), .lit (.int .u32 1249150122), .lit (.int .u32 1555081692), .lit (.int .u32 1996064986), .lit (.int .u32 2554220882), .lit (.int .u32 2821834349), .lit (.int .u32 2952996808), .lit (.int .u32 3210313671), .lit (.int .u32 3336571891), .lit (.int .u32 3584528711), .lit (.int .u32 113926993), .lit (.int .u32 338241895), .lit (.int .u32 666307205), .lit (.int .u32 773529912), .lit (.int .u32 1294757372), .lit (.int .u32 1396182291), .lit (.int .u32 1695183700), .lit (.int .u32 1986661051), .lit (.int .u32 2177026350), .lit (.int .u32 2456956037), .lit (.int .u32 2730485921), .lit (.int .u32 2820302411), .lit (.int .u32 3259730800), .lit (.int .u32 3345764771), .lit (.int .u32 3516065817), .lit (.int .u32 3600352804), .lit (.int .u32 4094571909), .lit (.int .u32 275423344), .lit (.int .u32 430227734), .lit (.int .u32 506948616), .lit (.int .u32 659060556), .lit (.int .u32 883997877), .lit (.int .u32 958139571), .lit (.int .u32 1322822218), .lit (.int .u32 1537002063), .lit (.int .u32 1747873779), .lit (.int .u32 1955562222), .lit (.int .u32 2024104815), .lit (.int .u32 2227730452), .lit (.int .u32 2361852424), .lit (.int .u32 2428436474), .lit (.int .u32 2756734187), .lit (.int .u32 3204031479), .lit (.int .u32 3329325298)]

/-- 'sorteslaw12.TreeRoots': WHATEVER THE INPUT: true; the input reads as it did. -/
def treeRootsSpec : ChangeSpec := { name := "treeRoots", fn := fun _ => fun
  | [d1, d2, d3] => { results := [.lit (.bool true)], args := [d1, d2, d3] }
  | _ => none }
def treeRootsRow : OpenClaim := { program := "ytjedhmoehepbnaadoor", sum := "48b1291c5318436d66da48c82a3012fa8bb6e068a43ad9ee0e07f7e7cd8ee940", func := "sortes/sorteslaw12.TreeRoots", spec := "treeRoots", inPlace := ["internal/abi.NoEscape", "internal/bytealg.MakeNoZero"], unfollowed := true, recurses := true, named := ["sortes/digest.first", "sortes/digest.constants"], apart := false, laid := [("sortes/digest.first", laid_sortes_digest_first), ("sortes/digest.constants", laid_sortes_digest_constants)] }
def TreeRootsSaid : Prop := treeRootsRow.holds Tryd.pinned (OpenSpec.ofChange treeRootsSpec)

/-- ITS FALSE NEIGHBOUR: 'it returns false'. Refute it at one input. -/
def treeRootsWrong : ChangeSpec := { name := "treeRoots", fn := fun _ => fun
  | [d1, d2, d3] => { results := [.lit (.bool false)], args := [d1, d2, d3] }
  | _ => none }
def TreeRootsWrongFalsely : Prop := treeRootsRow.holds Tryd.pinned (OpenSpec.ofChange treeRootsWrong)

/-- 'sorteslaw12.TreeBinds': WHATEVER THE INPUT: true; the input reads as it did. -/
def treeBindsSpec : ChangeSpec := { name := "treeBinds", fn := fun _ => fun
  | [d1, d2, d3] => { results := [.lit (.bool true)], args := [d1, d2, d3] }
  | _ => none }
def treeBindsRow : OpenClaim := { program := "ytjedhmoehepbnaadoor", sum := "48b1291c5318436d66da48c82a3012fa8bb6e068a43ad9ee0e07f7e7cd8ee940", func := "sortes/sorteslaw12.TreeBinds", spec := "treeBinds", inPlace := ["internal/abi.NoEscape", "internal/bytealg.MakeNoZero"], unfollowed := true, recurses := true, named := ["sortes/digest.first", "sortes/digest.constants"], apart := false, laid := [("sortes/digest.first", laid_sortes_digest_first), ("sortes/digest.constants", laid_sortes_digest_constants)] }
def TreeBindsSaid : Prop := treeBindsRow.holds Tryd.pinned (OpenSpec.ofChange treeBindsSpec)

/-- ITS FALSE NEIGHBOUR: 'it returns false'. Refute it at one input. -/
def treeBindsWrong : ChangeSpec := { name := "treeBinds", fn := fun _ => fun
  | [d1, d2, d3] => { results := [.lit (.bool false)], args := [d1, d2, d3] }
  | _ => none }
def TreeBindsWrongFalsely : Prop := treeBindsRow.holds Tryd.pinned (OpenSpec.ofChange treeBindsWrong)

/-- 'sorteslaw12.TreePaths': WHATEVER THE INPUT: true; the input reads as it did. -/
def treePathsSpec : ChangeSpec := { name := "treePaths", fn := fun _ => fun
  | [d1, d2] => { results := [.lit (.bool true)], args := [d1, d2] }
  | _ => none }
def treePathsRow : OpenClaim := { program := "ytjedhmoehepbnaadoor", sum := "48b1291c5318436d66da48c82a3012fa8bb6e068a43ad9ee0e07f7e7cd8ee940", func := "sortes/sorteslaw12.TreePaths", spec := "treePaths", inPlace := ["internal/abi.NoEscape", "internal/bytealg.MakeNoZero"], unfollowed := true, recurses := true, named := ["sortes/digest.first", "sortes/digest.constants"], apart := false, laid := [("sortes/digest.first", laid_sortes_digest_first), ("sortes/digest.constants", laid_sortes_digest_constants)] }
def TreePathsSaid : Prop := treePathsRow.holds Tryd.pinned (OpenSpec.ofChange treePathsSpec)

/-- ITS FALSE NEIGHBOUR: 'it returns false'. Refute it at one input. -/
def treePathsWrong : ChangeSpec := { name := "treePaths", fn := fun _ => fun
  | [d1, d2] => { results := [.lit (.bool false)], args := [d1, d2] }
  | _ => none }
def TreePathsWrongFalsely : Prop := treePathsRow.holds Tryd.pinned (OpenSpec.ofChange treePathsWrong)

/-- 'sorteslaw12.TreeChecks': WHATEVER THE INPUT: true; the input reads as it did. -/
def treeChecksSpec : ChangeSpec := { name := "treeChecks", fn := fun _ => fun
  | [d1, d2, d3] => { results := [.lit (.bool true)], args := [d1, d2, d3] }
  | _ => none }
def treeChecksRow : OpenClaim := { program := "ytjedhmoehepbnaadoor", sum := "48b1291c5318436d66da48c82a3012fa8bb6e068a43ad9ee0e07f7e7cd8ee940", func := "sortes/sorteslaw12.TreeChecks", spec := "treeChecks", inPlace := ["internal/abi.NoEscape", "internal/bytealg.MakeNoZero"], unfollowed := true, recurses := true, named := ["sortes/digest.first", "sortes/digest.constants"], apart := false, laid := [("sortes/digest.first", laid_sortes_digest_first), ("sortes/digest.constants", laid_sortes_digest_constants)] }
def TreeChecksSaid : Prop := treeChecksRow.holds Tryd.pinned (OpenSpec.ofChange treeChecksSpec)

/-- ITS FALSE NEIGHBOUR: 'it returns false'. Refute it at one input. -/
def treeChecksWrong : ChangeSpec := { name := "treeChecks", fn := fun _ => fun
  | [d1, d2, d3] => { results := [.lit (.bool false)], args := [d1, d2, d3] }
  | _ => none }
def TreeChecksWrongFalsely : Prop := treeChecksRow.holds Tryd.pinned (OpenSpec.ofChange treeChecksWrong)

/-- 'sorteslaw12.TreeExtends': WHATEVER THE INPUT: true; the input reads as it did. -/
def treeExtendsSpec : ChangeSpec := { name := "treeExtends", fn := fun _ => fun
  | [d1, d2, d3] => { results := [.lit (.bool true)], args := [d1, d2, d3] }
  | _ => none }
def treeExtendsRow : OpenClaim := { program := "ytjedhmoehepbnaadoor", sum := "48b1291c5318436d66da48c82a3012fa8bb6e068a43ad9ee0e07f7e7cd8ee940", func := "sortes/sorteslaw12.TreeExtends", spec := "treeExtends", inPlace := ["internal/abi.NoEscape", "internal/bytealg.MakeNoZero"], unfollowed := true, recurses := true, named := ["sortes/digest.first", "sortes/digest.constants"], apart := false, laid := [("sortes/digest.first", laid_sortes_digest_first), ("sortes/digest.constants", laid_sortes_digest_constants)] }
def TreeExtendsSaid : Prop := treeExtendsRow.holds Tryd.pinned (OpenSpec.ofChange treeExtendsSpec)

/-- ITS FALSE NEIGHBOUR: 'it returns false'. Refute it at one input. -/
def treeExtendsWrong : ChangeSpec := { name := "treeExtends", fn := fun _ => fun
  | [d1, d2, d3] => { results := [.lit (.bool false)], args := [d1, d2, d3] }
  | _ => none }
def TreeExtendsWrongFalsely : Prop := treeExtendsRow.holds Tryd.pinned (OpenSpec.ofChange treeExtendsWrong)

/-- 'sorteslaw12.TreeGrows': WHATEVER THE INPUT: true; the input reads as it did. -/
def treeGrowsSpec : ChangeSpec := { name := "treeGrows", fn := fun _ => fun
  | [d1, d2] => { results := [.lit (.bool true)], args := [d1, d2] }
  | _ => none }
def treeGrowsRow : OpenClaim := { program := "ytjedhmoehepbnaadoor", sum := "48b1291c5318436d66da48c82a3012fa8bb6e068a43ad9ee0e07f7e7cd8ee940", func := "sortes/sorteslaw12.TreeGrows", spec := "treeGrows", inPlace := ["internal/abi.NoEscape", "internal/bytealg.MakeNoZero"], unfollowed := true, recurses := true, named := ["sortes/digest.first", "sortes/digest.constants"], apart := false, laid := [("sortes/digest.first", laid_sortes_digest_first), ("sortes/digest.constants", laid_sortes_digest_constants)] }
def TreeGrowsSaid : Prop := treeGrowsRow.holds Tryd.pinned (OpenSpec.ofChange treeGrowsSpec)

/-- ITS FALSE NEIGHBOUR: 'it returns false'. Refute it at one input. -/
def treeGrowsWrong : ChangeSpec := { name := "treeGrows", fn := fun _ => fun
  | [d1, d2] => { results := [.lit (.bool false)], args := [d1, d2] }
  | _ => none }
def TreeGrowsWrongFalsely : Prop := treeGrowsRow.holds Tryd.pinned (OpenSpec.ofChange treeGrowsWrong)

/-- 'sorteslaw12.TreeBent': WHATEVER THE INPUT: true; the input reads as it did. -/
def treeBentSpec : ChangeSpec := { name := "treeBent", fn := fun _ => fun
  | [d1, d2, d3] => { results := [.lit (.bool true)], args := [d1, d2, d3] }
  | _ => none }
def treeBentRow : OpenClaim := { program := "ytjedhmoehepbnaadoor", sum := "48b1291c5318436d66da48c82a3012fa8bb6e068a43ad9ee0e07f7e7cd8ee940", func := "sortes/sorteslaw12.TreeBent", spec := "treeBent", inPlace := ["internal/abi.NoEscape", "internal/bytealg.MakeNoZero"], unfollowed := true, recurses := true, named := ["sortes/digest.first", "sortes/digest.constants"], apart := false, laid := [("sortes/digest.first", laid_sortes_digest_first), ("sortes/digest.constants", laid_sortes_digest_constants)] }
def TreeBentSaid : Prop := treeBentRow.holds Tryd.pinned (OpenSpec.ofChange treeBentSpec)

/-- ITS FALSE NEIGHBOUR: 'it returns false'. Refute it at one input. -/
def treeBentWrong : ChangeSpec := { name := "treeBent", fn := fun _ => fun
  | [d1, d2, d3] => { results := [.lit (.bool false)], args := [d1, d2, d3] }
  | _ => none }
def TreeBentWrongFalsely : Prop := treeBentRow.holds Tryd.pinned (OpenSpec.ofChange treeBentWrong)

/-- 'sorteslaw12.TreeLarge': WHATEVER THE INPUT: true; the input reads as it did. -/
def treeLargeSpec : ChangeSpec := { name := "treeLarge", fn := fun _ => fun
  | [d1, d2, d3] => { results := [.lit (.bool true)], args := [d1, d2, d3] }
  | _ => none }
def treeLargeRow : OpenClaim := { program := "ytjedhmoehepbnaadoor", sum := "48b1291c5318436d66da48c82a3012fa8bb6e068a43ad9ee0e07f7e7cd8ee940", func := "sortes/sorteslaw12.TreeLarge", spec := "treeLarge", inPlace := ["internal/abi.NoEscape", "internal/bytealg.MakeNoZero"], unfollowed := true, recurses := true, named := ["sortes/digest.first", "sortes/digest.constants"], apart := false, laid := [("sortes/digest.first", laid_sortes_digest_first), ("sortes/digest.constants", laid_sortes_digest_constants)] }
def TreeLargeSaid : Prop := treeLargeRow.holds Tryd.pinned (OpenSpec.ofChange treeLargeSpec)

/-- ITS FALSE NEIGHBOUR: 'it returns false'. Refute it at one input. -/
def treeLargeWrong : ChangeSpec := { name := "treeLarge", fn := fun _ => fun
  | [d1, d2, d3] => { results := [.lit (.bool false)], args := [d1, d2, d3] }
  | _ => none }
def TreeLargeWrongFalsely : Prop := treeLargeRow.holds Tryd.pinned (OpenSpec.ofChange treeLargeWrong)

/-- 'sorteslaw12.TreeTwice': WHATEVER THE INPUT: true; the input reads as it did. -/
def treeTwiceSpec : ChangeSpec := { name := "treeTwice", fn := fun _ => fun
  | [d1, d2, d3] => { results := [.lit (.bool true)], args := [d1, d2, d3] }
  | _ => none }
def treeTwiceRow : OpenClaim := { program := "ytjedhmoehepbnaadoor", sum := "48b1291c5318436d66da48c82a3012fa8bb6e068a43ad9ee0e07f7e7cd8ee940", func := "sortes/sorteslaw12.TreeTwice", spec := "treeTwice", inPlace := ["internal/abi.NoEscape", "internal/bytealg.MakeNoZero"], unfollowed := true, recurses := true, named := ["sortes/digest.first", "sortes/digest.constants"], apart := false, laid := [("sortes/digest.first", laid_sortes_digest_first), ("sortes/digest.constants", laid_sortes_digest_constants)] }
def TreeTwiceSaid : Prop := treeTwiceRow.holds Tryd.pinned (OpenSpec.ofChange treeTwiceSpec)

/-- ITS FALSE NEIGHBOUR: 'it returns false'. Refute it at one input. -/
def treeTwiceWrong : ChangeSpec := { name := "treeTwice", fn := fun _ => fun
  | [d1, d2, d3] => { results := [.lit (.bool false)], args := [d1, d2, d3] }
  | _ => none }
def TreeTwiceWrongFalsely : Prop := treeTwiceRow.holds Tryd.pinned (OpenSpec.ofChange treeTwiceWrong)

/-- 'sorteslaw12.TreeKeeps': WHATEVER THE INPUT: true; the input reads as it did. -/
def treeKeepsSpec : ChangeSpec := { name := "treeKeeps", fn := fun _ => fun
  | [d1, d2] => { results := [.lit (.bool true)], args := [d1, d2] }
  | _ => none }
def treeKeepsRow : OpenClaim := { program := "ytjedhmoehepbnaadoor", sum := "48b1291c5318436d66da48c82a3012fa8bb6e068a43ad9ee0e07f7e7cd8ee940", func := "sortes/sorteslaw12.TreeKeeps", spec := "treeKeeps", inPlace := ["internal/abi.NoEscape", "internal/bytealg.MakeNoZero"], unfollowed := true, recurses := true, named := ["sortes/digest.first", "sortes/digest.constants"], apart := false, laid := [("sortes/digest.first", laid_sortes_digest_first), ("sortes/digest.constants", laid_sortes_digest_constants)] }
def TreeKeepsSaid : Prop := treeKeepsRow.holds Tryd.pinned (OpenSpec.ofChange treeKeepsSpec)

/-- ITS FALSE NEIGHBOUR: 'it returns false'. Refute it at one input. -/
def treeKeepsWrong : ChangeSpec := { name := "treeKeeps", fn := fun _ => fun
  | [d1, d2] => { results := [.lit (.bool false)], args := [d1, d2] }
  | _ => none }
def TreeKeepsWrongFalsely : Prop := treeKeepsRow.holds Tryd.pinned (OpenSpec.ofChange treeKeepsWrong)

/- THE SECOND FORM. 'bulk': how many values and letters a reading holds, each counted each time it is reached (what is shared counts as often as it is met; a slice's spare places count too). A statement '..UptoSaid' is the law's where the arguments, and the package variables that the reading takes, are together of bulk at most 1048576: NARROWER than '..Said'. Prove '..Said' where nothing that the law and all that it calls make is longer than what came in: it says more and counts as full. Else prove '..UptoSaid'. A law counts once. -/
mutual
def uptoBulk {H : Type} : DataW H → Nat
  | .lit (.string bytes) => bytes.length + 1
  | .lit _ => 1
  | .nil => 1
  | .ptr d => uptoBulk d + 1
  | .slice elems spare => uptoBulkAll elems + uptoBulkAll spare + 1
  | .agg parts => uptoBulkAll parts + 1
  | .iface _ d => uptoBulk d + 1
  | .map entries => uptoBulkEntries entries + 1
  | .held _ => 1
def uptoBulkAll {H : Type} : List (DataW H) → Nat
  | [] => 0
  | d :: r => uptoBulk d + uptoBulkAll r
def uptoBulkEntries {H : Type} : List (Lit × DataW H) → Nat
  | [] => 0
  | x :: r => uptoBulkEntry x + uptoBulkEntries r
def uptoBulkEntry {H : Type} : Lit × DataW H → Nat
  | (.string bytes, d) => bytes.length + uptoBulk d + 1
  | (_, d) => uptoBulk d + 1
 end
def uptoSmall : (H : Type) → List (DataW H) → Bool := fun _ ds => decide (uptoBulkAll ds ≤ 1048576)
def OpenSpec.upto (s : _root_.Go.ChangeSpec) : _root_.Go.OpenSpec := { _root_.Go.OpenSpec.ofChange s with cond := some uptoSmall }

/-- 'sorteslaw12.TreeRoots', WHERE WHAT IT READS IS OF BULK AT MOST 1048576: true; the input reads as it did. -/
def treeRootsUptoRow : OpenClaim := { program := "ytjedhmoehepbnaadoor", sum := "48b1291c5318436d66da48c82a3012fa8bb6e068a43ad9ee0e07f7e7cd8ee940", func := "sortes/sorteslaw12.TreeRoots", spec := "treeRoots", inPlace := ["internal/abi.NoEscape", "internal/bytealg.MakeNoZero"], unfollowed := true, recurses := true, named := ["sortes/digest.first", "sortes/digest.constants"], apart := false, laid := [("sortes/digest.first", laid_sortes_digest_first), ("sortes/digest.constants", laid_sortes_digest_constants)], narrowed := true }
def TreeRootsUptoSaid : Prop := treeRootsUptoRow.holds Tryd.pinned (OpenSpec.upto treeRootsSpec)

/-- 'sorteslaw12.TreeBinds', WHERE WHAT IT READS IS OF BULK AT MOST 1048576: true; the input reads as it did. -/
def treeBindsUptoRow : OpenClaim := { program := "ytjedhmoehepbnaadoor", sum := "48b1291c5318436d66da48c82a3012fa8bb6e068a43ad9ee0e07f7e7cd8ee940", func := "sortes/sorteslaw12.TreeBinds", spec := "treeBinds", inPlace := ["internal/abi.NoEscape", "internal/bytealg.MakeNoZero"], unfollowed := true, recurses := true, named := ["sortes/digest.first", "sortes/digest.constants"], apart := false, laid := [("sortes/digest.first", laid_sortes_digest_first), ("sortes/digest.constants", laid_sortes_digest_constants)], narrowed := true }
def TreeBindsUptoSaid : Prop := treeBindsUptoRow.holds Tryd.pinned (OpenSpec.upto treeBindsSpec)

/-- 'sorteslaw12.TreePaths', WHERE WHAT IT READS IS OF BULK AT MOST 1048576: true; the input reads as it did. -/
def treePathsUptoRow : OpenClaim := { program := "ytjedhmoehepbnaadoor", sum := "48b1291c5318436d66da48c82a3012fa8bb6e068a43ad9ee0e07f7e7cd8ee940", func := "sortes/sorteslaw12.TreePaths", spec := "treePaths", inPlace := ["internal/abi.NoEscape", "internal/bytealg.MakeNoZero"], unfollowed := true, recurses := true, named := ["sortes/digest.first", "sortes/digest.constants"], apart := false, laid := [("sortes/digest.first", laid_sortes_digest_first), ("sortes/digest.constants", laid_sortes_digest_constants)], narrowed := true }
def TreePathsUptoSaid : Prop := treePathsUptoRow.holds Tryd.pinned (OpenSpec.upto treePathsSpec)

/-- 'sorteslaw12.TreeChecks', WHERE WHAT IT READS IS OF BULK AT MOST 1048576: true; the input reads as it did. -/
def treeChecksUptoRow : OpenClaim := { program := "ytjedhmoehepbnaadoor", sum := "48b1291c5318436d66da48c82a3012fa8bb6e068a43ad9ee0e07f7e7cd8ee940", func := "sortes/sorteslaw12.TreeChecks", spec := "treeChecks", inPlace := ["internal/abi.NoEscape", "internal/bytealg.MakeNoZero"], unfollowed := true, recurses := true, named := ["sortes/digest.first", "sortes/digest.constants"], apart := false, laid := [("sortes/digest.first", laid_sortes_digest_first), ("sortes/digest.constants", laid_sortes_digest_constants)], narrowed := true }
def TreeChecksUptoSaid : Prop := treeChecksUptoRow.holds Tryd.pinned (OpenSpec.upto treeChecksSpec)

/-- 'sorteslaw12.TreeExtends', WHERE WHAT IT READS IS OF BULK AT MOST 1048576: true; the input reads as it did. -/
def treeExtendsUptoRow : OpenClaim := { program := "ytjedhmoehepbnaadoor", sum := "48b1291c5318436d66da48c82a3012fa8bb6e068a43ad9ee0e07f7e7cd8ee940", func := "sortes/sorteslaw12.TreeExtends", spec := "treeExtends", inPlace := ["internal/abi.NoEscape", "internal/bytealg.MakeNoZero"], unfollowed := true, recurses := true, named := ["sortes/digest.first", "sortes/digest.constants"], apart := false, laid := [("sortes/digest.first", laid_sortes_digest_first), ("sortes/digest.constants", laid_sortes_digest_constants)], narrowed := true }
def TreeExtendsUptoSaid : Prop := treeExtendsUptoRow.holds Tryd.pinned (OpenSpec.upto treeExtendsSpec)

/-- 'sorteslaw12.TreeGrows', WHERE WHAT IT READS IS OF BULK AT MOST 1048576: true; the input reads as it did. -/
def treeGrowsUptoRow : OpenClaim := { program := "ytjedhmoehepbnaadoor", sum := "48b1291c5318436d66da48c82a3012fa8bb6e068a43ad9ee0e07f7e7cd8ee940", func := "sortes/sorteslaw12.TreeGrows", spec := "treeGrows", inPlace := ["internal/abi.NoEscape", "internal/bytealg.MakeNoZero"], unfollowed := true, recurses := true, named := ["sortes/digest.first", "sortes/digest.constants"], apart := false, laid := [("sortes/digest.first", laid_sortes_digest_first), ("sortes/digest.constants", laid_sortes_digest_constants)], narrowed := true }
def TreeGrowsUptoSaid : Prop := treeGrowsUptoRow.holds Tryd.pinned (OpenSpec.upto treeGrowsSpec)

/-- 'sorteslaw12.TreeBent', WHERE WHAT IT READS IS OF BULK AT MOST 1048576: true; the input reads as it did. -/
def treeBentUptoRow : OpenClaim := { program := "ytjedhmoehepbnaadoor", sum := "48b1291c5318436d66da48c82a3012fa8bb6e068a43ad9ee0e07f7e7cd8ee940", func := "sortes/sorteslaw12.TreeBent", spec := "treeBent", inPlace := ["internal/abi.NoEscape", "internal/bytealg.MakeNoZero"], unfollowed := true, recurses := true, named := ["sortes/digest.first", "sortes/digest.constants"], apart := false, laid := [("sortes/digest.first", laid_sortes_digest_first), ("sortes/digest.constants", laid_sortes_digest_constants)], narrowed := true }
def TreeBentUptoSaid : Prop := treeBentUptoRow.holds Tryd.pinned (OpenSpec.upto treeBentSpec)

/-- 'sorteslaw12.TreeLarge', WHERE WHAT IT READS IS OF BULK AT MOST 1048576: true; the input reads as it did. -/
def treeLargeUptoRow : OpenClaim := { program := "ytjedhmoehepbnaadoor", sum := "48b1291c5318436d66da48c82a3012fa8bb6e068a43ad9ee0e07f7e7cd8ee940", func := "sortes/sorteslaw12.TreeLarge", spec := "treeLarge", inPlace := ["internal/abi.NoEscape", "internal/bytealg.MakeNoZero"], unfollowed := true, recurses := true, named := ["sortes/digest.first", "sortes/digest.constants"], apart := false, laid := [("sortes/digest.first", laid_sortes_digest_first), ("sortes/digest.constants", laid_sortes_digest_constants)], narrowed := true }
def TreeLargeUptoSaid : Prop := treeLargeUptoRow.holds Tryd.pinned (OpenSpec.upto treeLargeSpec)

/-- 'sorteslaw12.TreeTwice', WHERE WHAT IT READS IS OF BULK AT MOST 1048576: true; the input reads as it did. -/
def treeTwiceUptoRow : OpenClaim := { program := "ytjedhmoehepbnaadoor", sum := "48b1291c5318436d66da48c82a3012fa8bb6e068a43ad9ee0e07f7e7cd8ee940", func := "sortes/sorteslaw12.TreeTwice", spec := "treeTwice", inPlace := ["internal/abi.NoEscape", "internal/bytealg.MakeNoZero"], unfollowed := true, recurses := true, named := ["sortes/digest.first", "sortes/digest.constants"], apart := false, laid := [("sortes/digest.first", laid_sortes_digest_first), ("sortes/digest.constants", laid_sortes_digest_constants)], narrowed := true }
def TreeTwiceUptoSaid : Prop := treeTwiceUptoRow.holds Tryd.pinned (OpenSpec.upto treeTwiceSpec)

/-- 'sorteslaw12.TreeKeeps', WHERE WHAT IT READS IS OF BULK AT MOST 1048576: true; the input reads as it did. -/
def treeKeepsUptoRow : OpenClaim := { program := "ytjedhmoehepbnaadoor", sum := "48b1291c5318436d66da48c82a3012fa8bb6e068a43ad9ee0e07f7e7cd8ee940", func := "sortes/sorteslaw12.TreeKeeps", spec := "treeKeeps", inPlace := ["internal/abi.NoEscape", "internal/bytealg.MakeNoZero"], unfollowed := true, recurses := true, named := ["sortes/digest.first", "sortes/digest.constants"], apart := false, laid := [("sortes/digest.first", laid_sortes_digest_first), ("sortes/digest.constants", laid_sortes_digest_constants)], narrowed := true }
def TreeKeepsUptoSaid : Prop := treeKeepsUptoRow.holds Tryd.pinned (OpenSpec.upto treeKeepsSpec)

end Rows
end Go.Proofs.YtjedhmoehepbnaaDoor
