/-
  No cell of these rows narrows 'for every input' (looked for: loops, veiled, ifaces, maps, wideKeys, modest, calm, conditions, laid).
  DERIVED. THE GIVEN ROWS OF THIS SEAT. 8 by the template 'for every input the law returns true; each argument reads behind the call as it read before'; 0 by the template 'total and deterministic' (their statements: YtdajchppblifgaaTotals.lean).
  GIVEN WITH THE SEED: the statements are not yours to turn. If you find one false, say at which input.
  Laid BY PROGRAM, IN A SANDBOX (cutbox-rows.mjs): the forced cells as the released guide's own fill.sh prints them over the translation 5e1af6a023fcccf6… (all of the seat's roots in one cut). By AI agents, Wed Nov 11 2026. No macro, syntax, notation, axiom, sorry.
-/
import Derived.Test.YtdajchppblifgaaChecked
import GoSem.Claim
import GoSem.ClaimJoined
import GoSem.ClaimMapViews
import Derived.JoinedTies
import Derived.KernelRfl
namespace Go.Proofs.Ytdajchppblifgaa
/- THE CELL 'sum', in the pinned program and in every row, IS THE sha256 OF THE DUMP (.gsa) THAT YtdajchppblifgaaProg.lean LOADS. Nothing in Lean hashes anything: it is a label: what it is worth is what the hold of that sum in a sandbox is worth. -/
noncomputable def Try.pinned : Pinned := { name := "ytdajchppblifgaa", sum := "5e1af6a023fcccf609e76f985c3cafac664967f22ee86081e18b677641e8de14", checked := Try.checked }
namespace Rows
def none {H : Type} : Left H := { results := [], args := [] }

/-- 'cupellaw02.WireLowest': WHATEVER THE INPUT: true; the input reads as it did. -/
def wireLowestSpec : ChangeSpec := { name := "wireLowest", fn := fun _ => fun
  | [d1, d2] => { results := [.lit (.bool true)], args := [d1, d2] }
  | _ => none }
def wireLowestRow : OpenClaim := { program := "ytdajchppblifgaa", sum := "5e1af6a023fcccf609e76f985c3cafac664967f22ee86081e18b677641e8de14", func := "cupel/cupellaw02.WireLowest", spec := "wireLowest", apart := false }
def WireLowestSaid : Prop := wireLowestRow.holds Try.pinned (OpenSpec.ofChange wireLowestSpec)

/-- ITS FALSE NEIGHBOUR: 'it returns false'. Refute it at one input. -/
def wireLowestWrong : ChangeSpec := { name := "wireLowest", fn := fun _ => fun
  | [d1, d2] => { results := [.lit (.bool false)], args := [d1, d2] }
  | _ => none }
def WireLowestWrongFalsely : Prop := wireLowestRow.holds Try.pinned (OpenSpec.ofChange wireLowestWrong)

/-- 'cupellaw02.WireAdlers': WHATEVER THE INPUT: true; the input reads as it did. -/
def wireAdlersSpec : ChangeSpec := { name := "wireAdlers", fn := fun _ => fun
  | [d1, d2, d3] => { results := [.lit (.bool true)], args := [d1, d2, d3] }
  | _ => none }
def wireAdlersRow : OpenClaim := { program := "ytdajchppblifgaa", sum := "5e1af6a023fcccf609e76f985c3cafac664967f22ee86081e18b677641e8de14", func := "cupel/cupellaw02.WireAdlers", spec := "wireAdlers", apart := false }
def WireAdlersSaid : Prop := wireAdlersRow.holds Try.pinned (OpenSpec.ofChange wireAdlersSpec)

/-- ITS FALSE NEIGHBOUR: 'it returns false'. Refute it at one input. -/
def wireAdlersWrong : ChangeSpec := { name := "wireAdlers", fn := fun _ => fun
  | [d1, d2, d3] => { results := [.lit (.bool false)], args := [d1, d2, d3] }
  | _ => none }
def WireAdlersWrongFalsely : Prop := wireAdlersRow.holds Try.pinned (OpenSpec.ofChange wireAdlersWrong)

/-- 'cupellaw02.WireTakes': WHATEVER THE INPUT: true; the input reads as it did. -/
def wireTakesSpec : ChangeSpec := { name := "wireTakes", fn := fun _ => fun
  | [d1, d2] => { results := [.lit (.bool true)], args := [d1, d2] }
  | _ => none }
def wireTakesRow : OpenClaim := { program := "ytdajchppblifgaa", sum := "5e1af6a023fcccf609e76f985c3cafac664967f22ee86081e18b677641e8de14", func := "cupel/cupellaw02.WireTakes", spec := "wireTakes", apart := false }
def WireTakesSaid : Prop := wireTakesRow.holds Try.pinned (OpenSpec.ofChange wireTakesSpec)

/-- ITS FALSE NEIGHBOUR: 'it returns false'. Refute it at one input. -/
def wireTakesWrong : ChangeSpec := { name := "wireTakes", fn := fun _ => fun
  | [d1, d2] => { results := [.lit (.bool false)], args := [d1, d2] }
  | _ => none }
def WireTakesWrongFalsely : Prop := wireTakesRow.holds Try.pinned (OpenSpec.ofChange wireTakesWrong)

/-- 'cupellaw02.WirePuts': WHATEVER THE INPUT: true; the input reads as it did. -/
def wirePutsSpec : ChangeSpec := { name := "wirePuts", fn := fun _ => fun
  | [d] => { results := [.lit (.bool true)], args := [d] }
  | _ => none }
def wirePutsRow : OpenClaim := { program := "ytdajchppblifgaa", sum := "5e1af6a023fcccf609e76f985c3cafac664967f22ee86081e18b677641e8de14", func := "cupel/cupellaw02.WirePuts", spec := "wirePuts", apart := false }
def WirePutsSaid : Prop := wirePutsRow.holds Try.pinned (OpenSpec.ofChange wirePutsSpec)

/-- ITS FALSE NEIGHBOUR: 'it returns false'. Refute it at one input. -/
def wirePutsWrong : ChangeSpec := { name := "wirePuts", fn := fun _ => fun
  | [d] => { results := [.lit (.bool false)], args := [d] }
  | _ => none }
def WirePutsWrongFalsely : Prop := wirePutsRow.holds Try.pinned (OpenSpec.ofChange wirePutsWrong)

/-- 'cupellaw02.WireNone': WHATEVER THE INPUT: true; the input reads as it did. -/
def wireNoneSpec : ChangeSpec := { name := "wireNone", fn := fun _ => fun
  | [d1, d2] => { results := [.lit (.bool true)], args := [d1, d2] }
  | _ => none }
def wireNoneRow : OpenClaim := { program := "ytdajchppblifgaa", sum := "5e1af6a023fcccf609e76f985c3cafac664967f22ee86081e18b677641e8de14", func := "cupel/cupellaw02.WireNone", spec := "wireNone", apart := false }
def WireNoneSaid : Prop := wireNoneRow.holds Try.pinned (OpenSpec.ofChange wireNoneSpec)

/-- ITS FALSE NEIGHBOUR: 'it returns false'. Refute it at one input. -/
def wireNoneWrong : ChangeSpec := { name := "wireNone", fn := fun _ => fun
  | [d1, d2] => { results := [.lit (.bool false)], args := [d1, d2] }
  | _ => none }
def WireNoneWrongFalsely : Prop := wireNoneRow.holds Try.pinned (OpenSpec.ofChange wireNoneWrong)

/-- 'cupellaw02.WireFramed': WHATEVER THE INPUT: true; the input reads as it did. -/
def wireFramedSpec : ChangeSpec := { name := "wireFramed", fn := fun _ => fun
  | [d1, d2, d3] => { results := [.lit (.bool true)], args := [d1, d2, d3] }
  | _ => none }
def wireFramedRow : OpenClaim := { program := "ytdajchppblifgaa", sum := "5e1af6a023fcccf609e76f985c3cafac664967f22ee86081e18b677641e8de14", func := "cupel/cupellaw02.WireFramed", spec := "wireFramed", apart := false }
def WireFramedSaid : Prop := wireFramedRow.holds Try.pinned (OpenSpec.ofChange wireFramedSpec)

/-- ITS FALSE NEIGHBOUR: 'it returns false'. Refute it at one input. -/
def wireFramedWrong : ChangeSpec := { name := "wireFramed", fn := fun _ => fun
  | [d1, d2, d3] => { results := [.lit (.bool false)], args := [d1, d2, d3] }
  | _ => none }
def WireFramedWrongFalsely : Prop := wireFramedRow.holds Try.pinned (OpenSpec.ofChange wireFramedWrong)

/-- 'cupellaw05.PageLimits': WHATEVER THE INPUT: true; the input reads as it did. -/
def pageLimitsSpec : ChangeSpec := { name := "pageLimits", fn := fun _ => fun
  | [d1, d2, d3] => { results := [.lit (.bool true)], args := [d1, d2, d3] }
  | _ => none }
def pageLimitsRow : OpenClaim := { program := "ytdajchppblifgaa", sum := "5e1af6a023fcccf609e76f985c3cafac664967f22ee86081e18b677641e8de14", func := "cupel/cupellaw05.PageLimits", spec := "pageLimits", unfollowed := true, recurses := true, apart := false }
def PageLimitsSaid : Prop := pageLimitsRow.holds Try.pinned (OpenSpec.ofChange pageLimitsSpec)

/-- ITS FALSE NEIGHBOUR: 'it returns false'. Refute it at one input. -/
def pageLimitsWrong : ChangeSpec := { name := "pageLimits", fn := fun _ => fun
  | [d1, d2, d3] => { results := [.lit (.bool false)], args := [d1, d2, d3] }
  | _ => none }
def PageLimitsWrongFalsely : Prop := pageLimitsRow.holds Try.pinned (OpenSpec.ofChange pageLimitsWrong)

/-- 'cupellaw05.PageBytes': WHATEVER THE INPUT: true; the input reads as it did. -/
def pageBytesSpec : ChangeSpec := { name := "pageBytes", fn := fun _ => fun
  | [d] => { results := [.lit (.bool true)], args := [d] }
  | _ => none }
def pageBytesRow : OpenClaim := { program := "ytdajchppblifgaa", sum := "5e1af6a023fcccf609e76f985c3cafac664967f22ee86081e18b677641e8de14", func := "cupel/cupellaw05.PageBytes", spec := "pageBytes", unfollowed := true, recurses := true, apart := false }
def PageBytesSaid : Prop := pageBytesRow.holds Try.pinned (OpenSpec.ofChange pageBytesSpec)

/-- ITS FALSE NEIGHBOUR: 'it returns false'. Refute it at one input. -/
def pageBytesWrong : ChangeSpec := { name := "pageBytes", fn := fun _ => fun
  | [d] => { results := [.lit (.bool false)], args := [d] }
  | _ => none }
def PageBytesWrongFalsely : Prop := pageBytesRow.holds Try.pinned (OpenSpec.ofChange pageBytesWrong)

/- THE SECOND FORM. 'bulk': how many values and letters a reading holds, each counted each time it is reached (what is shared counts as often as it is met; a slice's spare places count too). A statement '..UptoSaid' is the law's where the arguments, and the package variables that the reading takes, are together of bulk at most 1048576: NARROWER than '..Said'. Prove '..Said' where nothing that the law and all that it calls make is longer than what came in: it says more and counts as full. Else prove '..UptoSaid'. A law counts once. -/
mutual
def uptoBulk {H : Type} : DataW H → Nat
  | .lit (.string bytes) => bytes.length + 1
  | .lit _ => 1
  | .nil => 1
  | .ptr d => uptoBulk d + 1
  | .slice elems spare => uptoBulkAll elems + uptoBulkAll spare + 1
  | .agg parts => uptoBulkAll parts + 1
  | .iface _ d => uptoBulk d + 1
  | .map entries => uptoBulkEntries entries + 1
  | .held _ => 1
def uptoBulkAll {H : Type} : List (DataW H) → Nat
  | [] => 0
  | d :: r => uptoBulk d + uptoBulkAll r
def uptoBulkEntries {H : Type} : List (Lit × DataW H) → Nat
  | [] => 0
  | x :: r => uptoBulkEntry x + uptoBulkEntries r
def uptoBulkEntry {H : Type} : Lit × DataW H → Nat
  | (.string bytes, d) => bytes.length + uptoBulk d + 1
  | (_, d) => uptoBulk d + 1
 end
def uptoSmall : (H : Type) → List (DataW H) → Bool := fun _ ds => decide (uptoBulkAll ds ≤ 1048576)
def OpenSpec.upto (s : _root_.Go.ChangeSpec) : _root_.Go.OpenSpec := { _root_.Go.OpenSpec.ofChange s with cond := some uptoSmall }

/-- 'cupellaw02.WireLowest', WHERE WHAT IT READS IS OF BULK AT MOST 1048576: true; the input reads as it did. -/
def wireLowestUptoRow : OpenClaim := { program := "ytdajchppblifgaa", sum := "5e1af6a023fcccf609e76f985c3cafac664967f22ee86081e18b677641e8de14", func := "cupel/cupellaw02.WireLowest", spec := "wireLowest", apart := false, narrowed := true }
def WireLowestUptoSaid : Prop := wireLowestUptoRow.holds Try.pinned (OpenSpec.upto wireLowestSpec)

/-- 'cupellaw02.WireAdlers', WHERE WHAT IT READS IS OF BULK AT MOST 1048576: true; the input reads as it did. -/
def wireAdlersUptoRow : OpenClaim := { program := "ytdajchppblifgaa", sum := "5e1af6a023fcccf609e76f985c3cafac664967f22ee86081e18b677641e8de14", func := "cupel/cupellaw02.WireAdlers", spec := "wireAdlers", apart := false, narrowed := true }
def WireAdlersUptoSaid : Prop := wireAdlersUptoRow.holds Try.pinned (OpenSpec.upto wireAdlersSpec)

/-- 'cupellaw02.WireTakes', WHERE WHAT IT READS IS OF BULK AT MOST 1048576: true; the input reads as it did. -/
def wireTakesUptoRow : OpenClaim := { program := "ytdajchppblifgaa", sum := "5e1af6a023fcccf609e76f985c3cafac664967f22ee86081e18b677641e8de14", func := "cupel/cupellaw02.WireTakes", spec := "wireTakes", apart := false, narrowed := true }
def WireTakesUptoSaid : Prop := wireTakesUptoRow.holds Try.pinned (OpenSpec.upto wireTakesSpec)

/-- 'cupellaw02.WirePuts', WHERE WHAT IT READS IS OF BULK AT MOST 1048576: true; the input reads as it did. -/
def wirePutsUptoRow : OpenClaim := { program := "ytdajchppblifgaa", sum := "5e1af6a023fcccf609e76f985c3cafac664967f22ee86081e18b677641e8de14", func := "cupel/cupellaw02.WirePuts", spec := "wirePuts", apart := false, narrowed := true }
def WirePutsUptoSaid : Prop := wirePutsUptoRow.holds Try.pinned (OpenSpec.upto wirePutsSpec)

/-- 'cupellaw02.WireNone', WHERE WHAT IT READS IS OF BULK AT MOST 1048576: true; the input reads as it did. -/
def wireNoneUptoRow : OpenClaim := { program := "ytdajchppblifgaa", sum := "5e1af6a023fcccf609e76f985c3cafac664967f22ee86081e18b677641e8de14", func := "cupel/cupellaw02.WireNone", spec := "wireNone", apart := false, narrowed := true }
def WireNoneUptoSaid : Prop := wireNoneUptoRow.holds Try.pinned (OpenSpec.upto wireNoneSpec)

/-- 'cupellaw02.WireFramed', WHERE WHAT IT READS IS OF BULK AT MOST 1048576: true; the input reads as it did. -/
def wireFramedUptoRow : OpenClaim := { program := "ytdajchppblifgaa", sum := "5e1af6a023fcccf609e76f985c3cafac664967f22ee86081e18b677641e8de14", func := "cupel/cupellaw02.WireFramed", spec := "wireFramed", apart := false, narrowed := true }
def WireFramedUptoSaid : Prop := wireFramedUptoRow.holds Try.pinned (OpenSpec.upto wireFramedSpec)

/-- 'cupellaw05.PageLimits', WHERE WHAT IT READS IS OF BULK AT MOST 1048576: true; the input reads as it did. -/
def pageLimitsUptoRow : OpenClaim := { program := "ytdajchppblifgaa", sum := "5e1af6a023fcccf609e76f985c3cafac664967f22ee86081e18b677641e8de14", func := "cupel/cupellaw05.PageLimits", spec := "pageLimits", unfollowed := true, recurses := true, apart := false, narrowed := true }
def PageLimitsUptoSaid : Prop := pageLimitsUptoRow.holds Try.pinned (OpenSpec.upto pageLimitsSpec)

/-- 'cupellaw05.PageBytes', WHERE WHAT IT READS IS OF BULK AT MOST 1048576: true; the input reads as it did. -/
def pageBytesUptoRow : OpenClaim := { program := "ytdajchppblifgaa", sum := "5e1af6a023fcccf609e76f985c3cafac664967f22ee86081e18b677641e8de14", func := "cupel/cupellaw05.PageBytes", spec := "pageBytes", unfollowed := true, recurses := true, apart := false, narrowed := true }
def PageBytesUptoSaid : Prop := pageBytesUptoRow.holds Try.pinned (OpenSpec.upto pageBytesSpec)

end Rows
end Go.Proofs.Ytdajchppblifgaa
