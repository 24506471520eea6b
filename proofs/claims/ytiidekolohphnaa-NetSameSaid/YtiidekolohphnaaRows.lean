/-
  No cell of these rows narrows 'for every input' (looked for: loops, veiled, ifaces, maps, wideKeys, modest, calm, conditions, laid).
  DERIVED. THE GIVEN ROWS OF THIS SEAT. 17 by the template 'for every input the law returns true; each argument reads behind the call as it read before'; 0 by the template 'total and deterministic' (their statements: YtiidekolohphnaaTotals.lean).
  GIVEN WITH THE SEED: the statements are not yours to turn. If you find one false, say at which input.
  Laid BY PROGRAM, IN A SANDBOX (cutbox-rows.mjs): the forced cells as the released guide's own fill.sh prints them over the translation 9b2cb219e43ff275… (all of the seat's roots in one cut). By AI agents, Wed Nov 11 2026. No macro, syntax, notation, axiom, sorry.
-/
import Derived.Test.YtiidekolohphnaaChecked
import GoSem.Claim
import GoSem.ClaimJoined
import GoSem.ClaimMapViews
import Derived.JoinedTies
import Derived.KernelRfl
namespace Go.Proofs.Ytiidekolohphnaa
/- THE CELL 'sum', in the pinned program and in every row, IS THE sha256 OF THE DUMP (.gsa) THAT YtiidekolohphnaaProg.lean LOADS. Nothing in Lean hashes anything: it is a label: what it is worth is what the hold of that sum in a sandbox is worth. -/
noncomputable def Try.pinned : Pinned := { name := "ytiidekolohphnaa", sum := "9b2cb219e43ff2758d761d9ba264c359e8ce57be5d285b04b59896382a2478a6", checked := Try.checked }
namespace Rows
def none {H : Type} : Left H := { results := [], args := [] }

/-- 'demurragelaw.PenaltyTells': WHATEVER THE INPUT: true; the input reads as it did. -/
def penaltyTellsSpec : ChangeSpec := { name := "penaltyTells", fn := fun _ => fun
  | [d1, d2, d3, d4, d5, d6, d7, d8] => { results := [.lit (.bool true)], args := [d1, d2, d3, d4, d5, d6, d7, d8] }
  | _ => none }
def penaltyTellsRow : OpenClaim := { program := "ytiidekolohphnaa", sum := "9b2cb219e43ff2758d761d9ba264c359e8ce57be5d285b04b59896382a2478a6", func := "demurrage/demurragelaw.PenaltyTells", spec := "penaltyTells", unfollowed := true, recurses := true, named := ["math/bits.divideError", "math/bits.overflowError"], plainKeys := false, apart := false }
def PenaltyTellsSaid : Prop := penaltyTellsRow.holds Try.pinned (OpenSpec.ofChange penaltyTellsSpec)

/-- ITS FALSE NEIGHBOUR: 'it returns false'. Refute it at one input. -/
def penaltyTellsWrong : ChangeSpec := { name := "penaltyTells", fn := fun _ => fun
  | [d1, d2, d3, d4, d5, d6, d7, d8] => { results := [.lit (.bool false)], args := [d1, d2, d3, d4, d5, d6, d7, d8] }
  | _ => none }
def PenaltyTellsWrongFalsely : Prop := penaltyTellsRow.holds Try.pinned (OpenSpec.ofChange penaltyTellsWrong)

/-- 'demurragelaw.PenaltyRises': WHATEVER THE INPUT: true; the input reads as it did. -/
def penaltyRisesSpec : ChangeSpec := { name := "penaltyRises", fn := fun _ => fun
  | [d1, d2, d3, d4] => { results := [.lit (.bool true)], args := [d1, d2, d3, d4] }
  | _ => none }
def penaltyRisesRow : OpenClaim := { program := "ytiidekolohphnaa", sum := "9b2cb219e43ff2758d761d9ba264c359e8ce57be5d285b04b59896382a2478a6", func := "demurrage/demurragelaw.PenaltyRises", spec := "penaltyRises", unfollowed := true, recurses := true, named := ["math/bits.divideError", "math/bits.overflowError"], plainKeys := false, apart := false }
def PenaltyRisesSaid : Prop := penaltyRisesRow.holds Try.pinned (OpenSpec.ofChange penaltyRisesSpec)

/-- ITS FALSE NEIGHBOUR: 'it returns false'. Refute it at one input. -/
def penaltyRisesWrong : ChangeSpec := { name := "penaltyRises", fn := fun _ => fun
  | [d1, d2, d3, d4] => { results := [.lit (.bool false)], args := [d1, d2, d3, d4] }
  | _ => none }
def PenaltyRisesWrongFalsely : Prop := penaltyRisesRow.holds Try.pinned (OpenSpec.ofChange penaltyRisesWrong)

/-- 'demurragelaw.PenaltyEach': WHATEVER THE INPUT: true; the input reads as it did. -/
def penaltyEachSpec : ChangeSpec := { name := "penaltyEach", fn := fun _ => fun
  | [d1, d2, d3, d4, d5, d6] => { results := [.lit (.bool true)], args := [d1, d2, d3, d4, d5, d6] }
  | _ => none }
def penaltyEachRow : OpenClaim := { program := "ytiidekolohphnaa", sum := "9b2cb219e43ff2758d761d9ba264c359e8ce57be5d285b04b59896382a2478a6", func := "demurrage/demurragelaw.PenaltyEach", spec := "penaltyEach", unfollowed := true, recurses := true, named := ["math/bits.divideError", "math/bits.overflowError"], plainKeys := false, apart := false }
def PenaltyEachSaid : Prop := penaltyEachRow.holds Try.pinned (OpenSpec.ofChange penaltyEachSpec)

/-- ITS FALSE NEIGHBOUR: 'it returns false'. Refute it at one input. -/
def penaltyEachWrong : ChangeSpec := { name := "penaltyEach", fn := fun _ => fun
  | [d1, d2, d3, d4, d5, d6] => { results := [.lit (.bool false)], args := [d1, d2, d3, d4, d5, d6] }
  | _ => none }
def PenaltyEachWrongFalsely : Prop := penaltyEachRow.holds Try.pinned (OpenSpec.ofChange penaltyEachWrong)

/-- 'demurragelaw.NetTells': WHATEVER THE INPUT: true; the input reads as it did. -/
def netTellsSpec : ChangeSpec := { name := "netTells", fn := fun _ => fun
  | [d1, d2] => { results := [.lit (.bool true)], args := [d1, d2] }
  | _ => none }
def netTellsRow : OpenClaim := { program := "ytiidekolohphnaa", sum := "9b2cb219e43ff2758d761d9ba264c359e8ce57be5d285b04b59896382a2478a6", func := "demurrage/demurragelaw.NetTells", spec := "netTells", unfollowed := true, recurses := true, plainKeys := false, apart := false }
def NetTellsSaid : Prop := netTellsRow.holds Try.pinned (OpenSpec.ofChange netTellsSpec)

/-- ITS FALSE NEIGHBOUR: 'it returns false'. Refute it at one input. -/
def netTellsWrong : ChangeSpec := { name := "netTells", fn := fun _ => fun
  | [d1, d2] => { results := [.lit (.bool false)], args := [d1, d2] }
  | _ => none }
def NetTellsWrongFalsely : Prop := netTellsRow.holds Try.pinned (OpenSpec.ofChange netTellsWrong)

/-- 'demurragelaw.NetNothing': WHATEVER THE INPUT: true; the input reads as it did. -/
def netNothingSpec : ChangeSpec := { name := "netNothing", fn := fun _ => fun
  | [d] => { results := [.lit (.bool true)], args := [d] }
  | _ => none }
def netNothingRow : OpenClaim := { program := "ytiidekolohphnaa", sum := "9b2cb219e43ff2758d761d9ba264c359e8ce57be5d285b04b59896382a2478a6", func := "demurrage/demurragelaw.NetNothing", spec := "netNothing", unfollowed := true, recurses := true, plainKeys := false, apart := false }
def NetNothingSaid : Prop := netNothingRow.holds Try.pinned (OpenSpec.ofChange netNothingSpec)

/-- ITS FALSE NEIGHBOUR: 'it returns false'. Refute it at one input. -/
def netNothingWrong : ChangeSpec := { name := "netNothing", fn := fun _ => fun
  | [d] => { results := [.lit (.bool false)], args := [d] }
  | _ => none }
def NetNothingWrongFalsely : Prop := netNothingRow.holds Try.pinned (OpenSpec.ofChange netNothingWrong)

/-- 'demurragelaw.NetPairs': WHATEVER THE INPUT: true; the input reads as it did. -/
def netPairsSpec : ChangeSpec := { name := "netPairs", fn := fun _ => fun
  | [d] => { results := [.lit (.bool true)], args := [d] }
  | _ => none }
def netPairsRow : OpenClaim := { program := "ytiidekolohphnaa", sum := "9b2cb219e43ff2758d761d9ba264c359e8ce57be5d285b04b59896382a2478a6", func := "demurrage/demurragelaw.NetPairs", spec := "netPairs", unfollowed := true, recurses := true, plainKeys := false, apart := false }
def NetPairsSaid : Prop := netPairsRow.holds Try.pinned (OpenSpec.ofChange netPairsSpec)

/-- ITS FALSE NEIGHBOUR: 'it returns false'. Refute it at one input. -/
def netPairsWrong : ChangeSpec := { name := "netPairs", fn := fun _ => fun
  | [d] => { results := [.lit (.bool false)], args := [d] }
  | _ => none }
def NetPairsWrongFalsely : Prop := netPairsRow.holds Try.pinned (OpenSpec.ofChange netPairsWrong)

/-- 'demurragelaw.NetSettle': WHATEVER THE INPUT: true; the input reads as it did. -/
def netSettleSpec : ChangeSpec := { name := "netSettle", fn := fun _ => fun
  | [d] => { results := [.lit (.bool true)], args := [d] }
  | _ => none }
def netSettleRow : OpenClaim := { program := "ytiidekolohphnaa", sum := "9b2cb219e43ff2758d761d9ba264c359e8ce57be5d285b04b59896382a2478a6", func := "demurrage/demurragelaw.NetSettle", spec := "netSettle", unfollowed := true, recurses := true, plainKeys := false, apart := false }
def NetSettleSaid : Prop := netSettleRow.holds Try.pinned (OpenSpec.ofChange netSettleSpec)

/-- ITS FALSE NEIGHBOUR: 'it returns false'. Refute it at one input. -/
def netSettleWrong : ChangeSpec := { name := "netSettle", fn := fun _ => fun
  | [d] => { results := [.lit (.bool false)], args := [d] }
  | _ => none }
def NetSettleWrongFalsely : Prop := netSettleRow.holds Try.pinned (OpenSpec.ofChange netSettleWrong)

/-- 'demurragelaw.NetSame': WHATEVER THE INPUT: true; the input reads as it did. -/
def netSameSpec : ChangeSpec := { name := "netSame", fn := fun _ => fun
  | [d] => { results := [.lit (.bool true)], args := [d] }
  | _ => none }
def netSameRow : OpenClaim := { program := "ytiidekolohphnaa", sum := "9b2cb219e43ff2758d761d9ba264c359e8ce57be5d285b04b59896382a2478a6", func := "demurrage/demurragelaw.NetSame", spec := "netSame", unfollowed := true, recurses := true, plainKeys := false, apart := false }
def NetSameSaid : Prop := netSameRow.holds Try.pinned (OpenSpec.ofChange netSameSpec)

/-- ITS FALSE NEIGHBOUR: 'it returns false'. Refute it at one input. -/
def netSameWrong : ChangeSpec := { name := "netSame", fn := fun _ => fun
  | [d] => { results := [.lit (.bool false)], args := [d] }
  | _ => none }
def NetSameWrongFalsely : Prop := netSameRow.holds Try.pinned (OpenSpec.ofChange netSameWrong)

/-- 'demurragelaw.NetAdd': WHATEVER THE INPUT: true; the input reads as it did. -/
def netAddSpec : ChangeSpec := { name := "netAdd", fn := fun _ => fun
  | [d1, d2] => { results := [.lit (.bool true)], args := [d1, d2] }
  | _ => none }
def netAddRow : OpenClaim := { program := "ytiidekolohphnaa", sum := "9b2cb219e43ff2758d761d9ba264c359e8ce57be5d285b04b59896382a2478a6", func := "demurrage/demurragelaw.NetAdd", spec := "netAdd", unfollowed := true, recurses := true, plainKeys := false, apart := false }
def NetAddSaid : Prop := netAddRow.holds Try.pinned (OpenSpec.ofChange netAddSpec)

/-- ITS FALSE NEIGHBOUR: 'it returns false'. Refute it at one input. -/
def netAddWrong : ChangeSpec := { name := "netAdd", fn := fun _ => fun
  | [d1, d2] => { results := [.lit (.bool false)], args := [d1, d2] }
  | _ => none }
def NetAddWrongFalsely : Prop := netAddRow.holds Try.pinned (OpenSpec.ofChange netAddWrong)

/-- 'demurragelaw.PenaltyOnly': WHATEVER THE INPUT: true; the input reads as it did. -/
def penaltyOnlySpec : ChangeSpec := { name := "penaltyOnly", fn := fun _ => fun
  | [d1, d2, d3, d4, d5] => { results := [.lit (.bool true)], args := [d1, d2, d3, d4, d5] }
  | _ => none }
def penaltyOnlyRow : OpenClaim := { program := "ytiidekolohphnaa", sum := "9b2cb219e43ff2758d761d9ba264c359e8ce57be5d285b04b59896382a2478a6", func := "demurrage/demurragelaw.PenaltyOnly", spec := "penaltyOnly", unfollowed := true, recurses := true, named := ["math/bits.divideError", "math/bits.overflowError"], plainKeys := false, apart := false }
def PenaltyOnlySaid : Prop := penaltyOnlyRow.holds Try.pinned (OpenSpec.ofChange penaltyOnlySpec)

/-- ITS FALSE NEIGHBOUR: 'it returns false'. Refute it at one input. -/
def penaltyOnlyWrong : ChangeSpec := { name := "penaltyOnly", fn := fun _ => fun
  | [d1, d2, d3, d4, d5] => { results := [.lit (.bool false)], args := [d1, d2, d3, d4, d5] }
  | _ => none }
def PenaltyOnlyWrongFalsely : Prop := penaltyOnlyRow.holds Try.pinned (OpenSpec.ofChange penaltyOnlyWrong)

/-- 'demurragelaw.PenaltyLess': WHATEVER THE INPUT: true; the input reads as it did. -/
def penaltyLessSpec : ChangeSpec := { name := "penaltyLess", fn := fun _ => fun
  | [d1, d2, d3, d4, d5, d6] => { results := [.lit (.bool true)], args := [d1, d2, d3, d4, d5, d6] }
  | _ => none }
def penaltyLessRow : OpenClaim := { program := "ytiidekolohphnaa", sum := "9b2cb219e43ff2758d761d9ba264c359e8ce57be5d285b04b59896382a2478a6", func := "demurrage/demurragelaw.PenaltyLess", spec := "penaltyLess", unfollowed := true, recurses := true, named := ["math/bits.divideError", "math/bits.overflowError"], plainKeys := false, apart := false }
def PenaltyLessSaid : Prop := penaltyLessRow.holds Try.pinned (OpenSpec.ofChange penaltyLessSpec)

/-- ITS FALSE NEIGHBOUR: 'it returns false'. Refute it at one input. -/
def penaltyLessWrong : ChangeSpec := { name := "penaltyLess", fn := fun _ => fun
  | [d1, d2, d3, d4, d5, d6] => { results := [.lit (.bool false)], args := [d1, d2, d3, d4, d5, d6] }
  | _ => none }
def PenaltyLessWrongFalsely : Prop := penaltyLessRow.holds Try.pinned (OpenSpec.ofChange penaltyLessWrong)

/-- 'demurragelaw.ReportTells': WHATEVER THE INPUT: true; the input reads as it did. -/
def reportTellsSpec : ChangeSpec := { name := "reportTells", fn := fun _ => fun
  | [d1, d2, d3, d4, d5, d6] => { results := [.lit (.bool true)], args := [d1, d2, d3, d4, d5, d6] }
  | _ => none }
def reportTellsRow : OpenClaim := { program := "ytiidekolohphnaa", sum := "9b2cb219e43ff2758d761d9ba264c359e8ce57be5d285b04b59896382a2478a6", func := "demurrage/demurragelaw.ReportTells", spec := "reportTells", unfollowed := true, recurses := true, named := ["math/bits.divideError", "math/bits.overflowError"], plainKeys := false, apart := false }
def ReportTellsSaid : Prop := reportTellsRow.holds Try.pinned (OpenSpec.ofChange reportTellsSpec)

/-- ITS FALSE NEIGHBOUR: 'it returns false'. Refute it at one input. -/
def reportTellsWrong : ChangeSpec := { name := "reportTells", fn := fun _ => fun
  | [d1, d2, d3, d4, d5, d6] => { results := [.lit (.bool false)], args := [d1, d2, d3, d4, d5, d6] }
  | _ => none }
def ReportTellsWrongFalsely : Prop := reportTellsRow.holds Try.pinned (OpenSpec.ofChange reportTellsWrong)

/-- 'demurragelaw.ReportFiner': WHATEVER THE INPUT: true; the input reads as it did. -/
def reportFinerSpec : ChangeSpec := { name := "reportFiner", fn := fun _ => fun
  | [d1, d2, d3, d4, d5] => { results := [.lit (.bool true)], args := [d1, d2, d3, d4, d5] }
  | _ => none }
def reportFinerRow : OpenClaim := { program := "ytiidekolohphnaa", sum := "9b2cb219e43ff2758d761d9ba264c359e8ce57be5d285b04b59896382a2478a6", func := "demurrage/demurragelaw.ReportFiner", spec := "reportFiner", unfollowed := true, recurses := true, named := ["math/bits.divideError", "math/bits.overflowError"], plainKeys := false, apart := false }
def ReportFinerSaid : Prop := reportFinerRow.holds Try.pinned (OpenSpec.ofChange reportFinerSpec)

/-- ITS FALSE NEIGHBOUR: 'it returns false'. Refute it at one input. -/
def reportFinerWrong : ChangeSpec := { name := "reportFiner", fn := fun _ => fun
  | [d1, d2, d3, d4, d5] => { results := [.lit (.bool false)], args := [d1, d2, d3, d4, d5] }
  | _ => none }
def ReportFinerWrongFalsely : Prop := reportFinerRow.holds Try.pinned (OpenSpec.ofChange reportFinerWrong)

/-- 'demurragelaw.ReportTop': WHATEVER THE INPUT: true; the input reads as it did. -/
def reportTopSpec : ChangeSpec := { name := "reportTop", fn := fun _ => fun
  | [d1, d2, d3, d4] => { results := [.lit (.bool true)], args := [d1, d2, d3, d4] }
  | _ => none }
def reportTopRow : OpenClaim := { program := "ytiidekolohphnaa", sum := "9b2cb219e43ff2758d761d9ba264c359e8ce57be5d285b04b59896382a2478a6", func := "demurrage/demurragelaw.ReportTop", spec := "reportTop", unfollowed := true, recurses := true, named := ["math/bits.divideError", "math/bits.overflowError"], plainKeys := false, apart := false }
def ReportTopSaid : Prop := reportTopRow.holds Try.pinned (OpenSpec.ofChange reportTopSpec)

/-- ITS FALSE NEIGHBOUR: 'it returns false'. Refute it at one input. -/
def reportTopWrong : ChangeSpec := { name := "reportTop", fn := fun _ => fun
  | [d1, d2, d3, d4] => { results := [.lit (.bool false)], args := [d1, d2, d3, d4] }
  | _ => none }
def ReportTopWrongFalsely : Prop := reportTopRow.holds Try.pinned (OpenSpec.ofChange reportTopWrong)

/-- 'demurragelaw.ReportAll': WHATEVER THE INPUT: true; the input reads as it did. -/
def reportAllSpec : ChangeSpec := { name := "reportAll", fn := fun _ => fun
  | [d1, d2, d3, d4] => { results := [.lit (.bool true)], args := [d1, d2, d3, d4] }
  | _ => none }
def reportAllRow : OpenClaim := { program := "ytiidekolohphnaa", sum := "9b2cb219e43ff2758d761d9ba264c359e8ce57be5d285b04b59896382a2478a6", func := "demurrage/demurragelaw.ReportAll", spec := "reportAll", unfollowed := true, recurses := true, named := ["math/bits.divideError", "math/bits.overflowError"], plainKeys := false, apart := false }
def ReportAllSaid : Prop := reportAllRow.holds Try.pinned (OpenSpec.ofChange reportAllSpec)

/-- ITS FALSE NEIGHBOUR: 'it returns false'. Refute it at one input. -/
def reportAllWrong : ChangeSpec := { name := "reportAll", fn := fun _ => fun
  | [d1, d2, d3, d4] => { results := [.lit (.bool false)], args := [d1, d2, d3, d4] }
  | _ => none }
def ReportAllWrongFalsely : Prop := reportAllRow.holds Try.pinned (OpenSpec.ofChange reportAllWrong)

/-- 'demurragelaw.ReportRate': WHATEVER THE INPUT: true; the input reads as it did. -/
def reportRateSpec : ChangeSpec := { name := "reportRate", fn := fun _ => fun
  | [d1, d2, d3] => { results := [.lit (.bool true)], args := [d1, d2, d3] }
  | _ => none }
def reportRateRow : OpenClaim := { program := "ytiidekolohphnaa", sum := "9b2cb219e43ff2758d761d9ba264c359e8ce57be5d285b04b59896382a2478a6", func := "demurrage/demurragelaw.ReportRate", spec := "reportRate", unfollowed := true, recurses := true, named := ["math/bits.divideError", "math/bits.overflowError"], plainKeys := false, apart := false }
def ReportRateSaid : Prop := reportRateRow.holds Try.pinned (OpenSpec.ofChange reportRateSpec)

/-- ITS FALSE NEIGHBOUR: 'it returns false'. Refute it at one input. -/
def reportRateWrong : ChangeSpec := { name := "reportRate", fn := fun _ => fun
  | [d1, d2, d3] => { results := [.lit (.bool false)], args := [d1, d2, d3] }
  | _ => none }
def ReportRateWrongFalsely : Prop := reportRateRow.holds Try.pinned (OpenSpec.ofChange reportRateWrong)

/-- 'demurragelaw.PenaltySums': WHATEVER THE INPUT: true; the input reads as it did. -/
def penaltySumsSpec : ChangeSpec := { name := "penaltySums", fn := fun _ => fun
  | [d] => { results := [.lit (.bool true)], args := [d] }
  | _ => none }
def penaltySumsRow : OpenClaim := { program := "ytiidekolohphnaa", sum := "9b2cb219e43ff2758d761d9ba264c359e8ce57be5d285b04b59896382a2478a6", func := "demurrage/demurragelaw.PenaltySums", spec := "penaltySums", unfollowed := true, recurses := true, named := ["math/bits.divideError", "math/bits.overflowError"], plainKeys := false, apart := false }
def PenaltySumsSaid : Prop := penaltySumsRow.holds Try.pinned (OpenSpec.ofChange penaltySumsSpec)

/-- ITS FALSE NEIGHBOUR: 'it returns false'. Refute it at one input. -/
def penaltySumsWrong : ChangeSpec := { name := "penaltySums", fn := fun _ => fun
  | [d] => { results := [.lit (.bool false)], args := [d] }
  | _ => none }
def PenaltySumsWrongFalsely : Prop := penaltySumsRow.holds Try.pinned (OpenSpec.ofChange penaltySumsWrong)

/- THE SECOND FORM. 'bulk': how many values and letters a reading holds, each counted each time it is reached (what is shared counts as often as it is met; a slice's spare places count too). A statement '..UptoSaid' is the law's where the arguments, and the package variables that the reading takes, are together of bulk at most 1048576: NARROWER than '..Said'. Prove '..Said' where nothing that the law and all that it calls make is longer than what came in: it says more and counts as full. Else prove '..UptoSaid'. A law counts once. -/
mutual
def uptoBulk {H : Type} : DataW H → Nat
  | .lit (.string bytes) => bytes.length + 1
  | .lit _ => 1
  | .nil => 1
  | .ptr d => uptoBulk d + 1
  | .slice elems spare => uptoBulkAll elems + uptoBulkAll spare + 1
  | .agg parts => uptoBulkAll parts + 1
  | .iface _ d => uptoBulk d + 1
  | .map entries => uptoBulkEntries entries + 1
  | .held _ => 1
def uptoBulkAll {H : Type} : List (DataW H) → Nat
  | [] => 0
  | d :: r => uptoBulk d + uptoBulkAll r
def uptoBulkEntries {H : Type} : List (Lit × DataW H) → Nat
  | [] => 0
  | x :: r => uptoBulkEntry x + uptoBulkEntries r
def uptoBulkEntry {H : Type} : Lit × DataW H → Nat
  | (.string bytes, d) => bytes.length + uptoBulk d + 1
  | (_, d) => uptoBulk d + 1
 end
def uptoSmall : (H : Type) → List (DataW H) → Bool := fun _ ds => decide (uptoBulkAll ds ≤ 1048576)
def OpenSpec.upto (s : _root_.Go.ChangeSpec) : _root_.Go.OpenSpec := { _root_.Go.OpenSpec.ofChange s with cond := some uptoSmall }

/-- 'demurragelaw.PenaltyTells', WHERE WHAT IT READS IS OF BULK AT MOST 1048576: true; the input reads as it did. -/
def penaltyTellsUptoRow : OpenClaim := { program := "ytiidekolohphnaa", sum := "9b2cb219e43ff2758d761d9ba264c359e8ce57be5d285b04b59896382a2478a6", func := "demurrage/demurragelaw.PenaltyTells", spec := "penaltyTells", unfollowed := true, recurses := true, named := ["math/bits.divideError", "math/bits.overflowError"], plainKeys := false, apart := false, narrowed := true }
def PenaltyTellsUptoSaid : Prop := penaltyTellsUptoRow.holds Try.pinned (OpenSpec.upto penaltyTellsSpec)

/-- 'demurragelaw.PenaltyRises', WHERE WHAT IT READS IS OF BULK AT MOST 1048576: true; the input reads as it did. -/
def penaltyRisesUptoRow : OpenClaim := { program := "ytiidekolohphnaa", sum := "9b2cb219e43ff2758d761d9ba264c359e8ce57be5d285b04b59896382a2478a6", func := "demurrage/demurragelaw.PenaltyRises", spec := "penaltyRises", unfollowed := true, recurses := true, named := ["math/bits.divideError", "math/bits.overflowError"], plainKeys := false, apart := false, narrowed := true }
def PenaltyRisesUptoSaid : Prop := penaltyRisesUptoRow.holds Try.pinned (OpenSpec.upto penaltyRisesSpec)

/-- 'demurragelaw.PenaltyEach', WHERE WHAT IT READS IS OF BULK AT MOST 1048576: true; the input reads as it did. -/
def penaltyEachUptoRow : OpenClaim := { program := "ytiidekolohphnaa", sum := "9b2cb219e43ff2758d761d9ba264c359e8ce57be5d285b04b59896382a2478a6", func := "demurrage/demurragelaw.PenaltyEach", spec := "penaltyEach", unfollowed := true, recurses := true, named := ["math/bits.divideError", "math/bits.overflowError"], plainKeys := false, apart := false, narrowed := true }
def PenaltyEachUptoSaid : Prop := penaltyEachUptoRow.holds Try.pinned (OpenSpec.upto penaltyEachSpec)

/-- 'demurragelaw.NetTells', WHERE WHAT IT READS IS OF BULK AT MOST 1048576: true; the input reads as it did. -/
def netTellsUptoRow : OpenClaim := { program := "ytiidekolohphnaa", sum := "9b2cb219e43ff2758d761d9ba264c359e8ce57be5d285b04b59896382a2478a6", func := "demurrage/demurragelaw.NetTells", spec := "netTells", unfollowed := true, recurses := true, plainKeys := false, apart := false, narrowed := true }
def NetTellsUptoSaid : Prop := netTellsUptoRow.holds Try.pinned (OpenSpec.upto netTellsSpec)

/-- 'demurragelaw.NetNothing', WHERE WHAT IT READS IS OF BULK AT MOST 1048576: true; the input reads as it did. -/
def netNothingUptoRow : OpenClaim := { program := "ytiidekolohphnaa", sum := "9b2cb219e43ff2758d761d9ba264c359e8ce57be5d285b04b59896382a2478a6", func := "demurrage/demurragelaw.NetNothing", spec := "netNothing", unfollowed := true, recurses := true, plainKeys := false, apart := false, narrowed := true }
def NetNothingUptoSaid : Prop := netNothingUptoRow.holds Try.pinned (OpenSpec.upto netNothingSpec)

/-- 'demurragelaw.NetPairs', WHERE WHAT IT READS IS OF BULK AT MOST 1048576: true; the input reads as it did. -/
def netPairsUptoRow : OpenClaim := { program := "ytiidekolohphnaa", sum := "9b2cb219e43ff2758d761d9ba264c359e8ce57be5d285b04b59896382a2478a6", func := "demurrage/demurragelaw.NetPairs", spec := "netPairs", unfollowed := true, recurses := true, plainKeys := false, apart := false, narrowed := true }
def NetPairsUptoSaid : Prop := netPairsUptoRow.holds Try.pinned (OpenSpec.upto netPairsSpec)

/-- 'demurragelaw.NetSettle', WHERE WHAT IT READS IS OF BULK AT MOST 1048576: true; the input reads as it did. -/
def netSettleUptoRow : OpenClaim := { program := "ytiidekolohphnaa", sum := "9b2cb219e43ff2758d761d9ba264c359e8ce57be5d285b04b59896382a2478a6", func := "demurrage/demurragelaw.NetSettle", spec := "netSettle", unfollowed := true, recurses := true, plainKeys := false, apart := false, narrowed := true }
def NetSettleUptoSaid : Prop := netSettleUptoRow.holds Try.pinned (OpenSpec.upto netSettleSpec)

/-- 'demurragelaw.NetSame', WHERE WHAT IT READS IS OF BULK AT MOST 1048576: true; the input reads as it did. -/
def netSameUptoRow : OpenClaim := { program := "ytiidekolohphnaa", sum := "9b2cb219e43ff2758d761d9ba264c359e8ce57be5d285b04b59896382a2478a6", func := "demurrage/demurragelaw.NetSame", spec := "netSame", unfollowed := true, recurses := true, plainKeys := false, apart := false, narrowed := true }
def NetSameUptoSaid : Prop := netSameUptoRow.holds Try.pinned (OpenSpec.upto netSameSpec)

/-- 'demurragelaw.NetAdd', WHERE WHAT IT READS IS OF BULK AT MOST 1048576: true; the input reads as it did. -/
def netAddUptoRow : OpenClaim := { program := "ytiidekolohphnaa", sum := "9b2cb219e43ff2758d761d9ba264c359e8ce57be5d285b04b59896382a2478a6", func := "demurrage/demurragelaw.NetAdd", spec := "netAdd", unfollowed := true, recurses := true, plainKeys := false, apart := false, narrowed := true }
def NetAddUptoSaid : Prop := netAddUptoRow.holds Try.pinned (OpenSpec.upto netAddSpec)

/-- 'demurragelaw.PenaltyOnly', WHERE WHAT IT READS IS OF BULK AT MOST 1048576: true; the input reads as it did. -/
def penaltyOnlyUptoRow : OpenClaim := { program := "ytiidekolohphnaa", sum := "9b2cb219e43ff2758d761d9ba264c359e8ce57be5d285b04b59896382a2478a6", func := "demurrage/demurragelaw.PenaltyOnly", spec := "penaltyOnly", unfollowed := true, recurses := true, named := ["math/bits.divideError", "math/bits.overflowError"], plainKeys := false, apart := false, narrowed := true }
def PenaltyOnlyUptoSaid : Prop := penaltyOnlyUptoRow.holds Try.pinned (OpenSpec.upto penaltyOnlySpec)

/-- 'demurragelaw.PenaltyLess', WHERE WHAT IT READS IS OF BULK AT MOST 1048576: true; the input reads as it did. -/
def penaltyLessUptoRow : OpenClaim := { program := "ytiidekolohphnaa", sum := "9b2cb219e43ff2758d761d9ba264c359e8ce57be5d285b04b59896382a2478a6", func := "demurrage/demurragelaw.PenaltyLess", spec := "penaltyLess", unfollowed := true, recurses := true, named := ["math/bits.divideError", "math/bits.overflowError"], plainKeys := false, apart := false, narrowed := true }
def PenaltyLessUptoSaid : Prop := penaltyLessUptoRow.holds Try.pinned (OpenSpec.upto penaltyLessSpec)

/-- 'demurragelaw.ReportTells', WHERE WHAT IT READS IS OF BULK AT MOST 1048576: true; the input reads as it did. -/
def reportTellsUptoRow : OpenClaim := { program := "ytiidekolohphnaa", sum := "9b2cb219e43ff2758d761d9ba264c359e8ce57be5d285b04b59896382a2478a6", func := "demurrage/demurragelaw.ReportTells", spec := "reportTells", unfollowed := true, recurses := true, named := ["math/bits.divideError", "math/bits.overflowError"], plainKeys := false, apart := false, narrowed := true }
def ReportTellsUptoSaid : Prop := reportTellsUptoRow.holds Try.pinned (OpenSpec.upto reportTellsSpec)

/-- 'demurragelaw.ReportFiner', WHERE WHAT IT READS IS OF BULK AT MOST 1048576: true; the input reads as it did. -/
def reportFinerUptoRow : OpenClaim := { program := "ytiidekolohphnaa", sum := "9b2cb219e43ff2758d761d9ba264c359e8ce57be5d285b04b59896382a2478a6", func := "demurrage/demurragelaw.ReportFiner", spec := "reportFiner", unfollowed := true, recurses := true, named := ["math/bits.divideError", "math/bits.overflowError"], plainKeys := false, apart := false, narrowed := true }
def ReportFinerUptoSaid : Prop := reportFinerUptoRow.holds Try.pinned (OpenSpec.upto reportFinerSpec)

/-- 'demurragelaw.ReportTop', WHERE WHAT IT READS IS OF BULK AT MOST 1048576: true; the input reads as it did. -/
def reportTopUptoRow : OpenClaim := { program := "ytiidekolohphnaa", sum := "9b2cb219e43ff2758d761d9ba264c359e8ce57be5d285b04b59896382a2478a6", func := "demurrage/demurragelaw.ReportTop", spec := "reportTop", unfollowed := true, recurses := true, named := ["math/bits.divideError", "math/bits.overflowError"], plainKeys := false, apart := false, narrowed := true }
def ReportTopUptoSaid : Prop := reportTopUptoRow.holds Try.pinned (OpenSpec.upto reportTopSpec)

/-- 'demurragelaw.ReportAll', WHERE WHAT IT READS IS OF BULK AT MOST 1048576: true; the input reads as it did. -/
def reportAllUptoRow : OpenClaim := { program := "ytiidekolohphnaa", sum := "9b2cb219e43ff2758d761d9ba264c359e8ce57be5d285b04b59896382a2478a6", func := "demurrage/demurragelaw.ReportAll", spec := "reportAll", unfollowed := true, recurses := true, named := ["math/bits.divideError", "math/bits.overflowError"], plainKeys := false, apart := false, narrowed := true }
def ReportAllUptoSaid : Prop := reportAllUptoRow.holds Try.pinned (OpenSpec.upto reportAllSpec)

/-- 'demurragelaw.ReportRate', WHERE WHAT IT READS IS OF BULK AT MOST 1048576: true; the input reads as it did. -/
def reportRateUptoRow : OpenClaim := { program := "ytiidekolohphnaa", sum := "9b2cb219e43ff2758d761d9ba264c359e8ce57be5d285b04b59896382a2478a6", func := "demurrage/demurragelaw.ReportRate", spec := "reportRate", unfollowed := true, recurses := true, named := ["math/bits.divideError", "math/bits.overflowError"], plainKeys := false, apart := false, narrowed := true }
def ReportRateUptoSaid : Prop := reportRateUptoRow.holds Try.pinned (OpenSpec.upto reportRateSpec)

/-- 'demurragelaw.PenaltySums', WHERE WHAT IT READS IS OF BULK AT MOST 1048576: true; the input reads as it did. -/
def penaltySumsUptoRow : OpenClaim := { program := "ytiidekolohphnaa", sum := "9b2cb219e43ff2758d761d9ba264c359e8ce57be5d285b04b59896382a2478a6", func := "demurrage/demurragelaw.PenaltySums", spec := "penaltySums", unfollowed := true, recurses := true, named := ["math/bits.divideError", "math/bits.overflowError"], plainKeys := false, apart := false, narrowed := true }
def PenaltySumsUptoSaid : Prop := penaltySumsUptoRow.holds Try.pinned (OpenSpec.upto penaltySumsSpec)

end Rows
end Go.Proofs.Ytiidekolohphnaa
