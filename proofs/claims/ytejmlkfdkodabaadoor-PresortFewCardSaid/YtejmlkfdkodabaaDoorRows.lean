/-
  NARROWER THAN 'FOR EVERY INPUT', by the rows' own cells (each row's printed sentence says how): PresortLeast: laid · PresortMeets: laid · PresortBeats: laid · PresortGrows: laid · PresortSame: laid · PresortFew: laid · PresortWrong: laid.
  DERIVED. THE GIVEN ROWS OF THIS SEAT. 7 by the template 'for every input the law returns true; each argument reads behind the call as it read before'; 0 by the template 'total and deterministic' (their statements: YtejmlkfdkodabaaDoorTotals.lean).
  GIVEN WITH THE SEED: the statements are not yours to turn. If you find one false, say at which input.
  Laid BY PROGRAM, IN A SANDBOX (cutbox-rows.mjs): the forced cells as the released guide's own fill.sh prints them over the translation 54938312ff736182… (all of the seat's roots in one cut). By AI agents, Wed Nov 11 2026. No macro, syntax, notation, axiom, sorry.
-/
import Derived.Test.YtejmlkfdkodabaaDoorChecked
import GoSem.PinnedTables
import GoSem.Claim
import GoSem.ClaimJoined
import GoSem.ClaimMapViews
import Derived.JoinedTies
import Derived.KernelRfl
namespace Go.Proofs.YtejmlkfdkodabaaDoor
/- THE CELL 'sum', in the pinned program and in every row, IS THE sha256 OF THE DUMP (.gsa) THAT YtejmlkfdkodabaaDoorProg.lean LOADS. Nothing in Lean hashes anything: it is a label: what it is worth is what the hold of that sum in a sandbox is worth. -/
noncomputable def Tryd.pinned : Pinned := { name := "ytejmlkfdkodabaadoor", sum := "54938312ff73618299382ee6307305f45d23870dc6b3a2b697ccb8f4c4baeb6d", checked := Tryd.checked }
namespace Rows
def none {H : Type} : Left H := { results := [], args := [] }

/- WHAT THE LISTED PACKAGE-LEVEL VARIABLES READ AS WHEN THE CALL BEGINS. Each datum BY PROGRAM (the guide's laid-datum.mjs) off the statement by which the dump's own 'gosem.cut.vars' lays the variable. In a bare row this is a premise. The card (YtejmlkfdkodabaaDoorCards.lean) ties it to the program's text. -/
def laid_unicode_utf8_acceptRanges {H : Type} : DataW H := .agg [.agg [.lit (.int .u8 128), .lit (.int .u8 191)], .agg [.lit (.int .u8 160), .lit (.int .u8 191)], .agg [.lit (.int .u8 128), .lit (.int .u8 159)], .agg [.lit (.int .u8 144), .lit (.int .u8 191)], .agg [.lit (.int .u8 128), .lit (.int .u8 143)], .agg [.lit (.int .u8 0), .lit (.int .u8 0)], .agg [.lit (.int .u8 0), .lit (.int .u8 0)], .agg [.lit (.int .u8 0), .lit (.int .u8 0)], .agg [.lit (.int .u8 0), .lit (.int .u8 0)], .agg [.lit (.int .u8 0), .lit (.int .u8 0)], .agg [.lit (.int .u8 0), .lit (.int .u8 0)], .agg [.lit (.int .u8 0), .lit (.int .u8 0)], .agg [.lit (.int .u8 0), .lit (.int .u8 0)], .agg [.lit (.int .u8 0), .lit (.int .u8 0)], .agg [.lit (.int .u8 0), .lit (.int .u8 0)], .agg [.lit (.int .u8 0), .lit (.int .u8 0)]]
/-- One of Go's own tables, pinned by name: the form's constant. -/
def laid_unicode_utf8_first : DataW Unit := Go.Pinned.utf8First

/-- 'letterbaglaw25.PresortLeast': WHATEVER THE INPUT: true; the input reads as it did. -/
def presortLeastSpec : ChangeSpec := { name := "presortLeast", fn := fun _ => fun
  | [d1, d2, d3, d4] => { results := [.lit (.bool true)], args := [d1, d2, d3, d4] }
  | _ => none }
def presortLeastRow : OpenClaim := { program := "ytejmlkfdkodabaadoor", sum := "54938312ff73618299382ee6307305f45d23870dc6b3a2b697ccb8f4c4baeb6d", func := "letterbag/letterbaglaw25.PresortLeast", spec := "presortLeast", inPlace := ["internal/bytealg.IndexByteString", "internal/bytealg.IndexString"], unfollowed := true, recurses := true, named := ["unicode/utf8.first", "unicode/utf8.acceptRanges", "internal/bytealg.MaxLen"], apart := false, laid := [("unicode/utf8.acceptRanges", laid_unicode_utf8_acceptRanges), ("unicode/utf8.first", laid_unicode_utf8_first)] }
def PresortLeastSaid : Prop := presortLeastRow.holds Tryd.pinned (OpenSpec.ofChange presortLeastSpec)

/-- ITS FALSE NEIGHBOUR: 'it returns false'. Refute it at one input. -/
def presortLeastWrong : ChangeSpec := { name := "presortLeast", fn := fun _ => fun
  | [d1, d2, d3, d4] => { results := [.lit (.bool false)], args := [d1, d2, d3, d4] }
  | _ => none }
def PresortLeastWrongFalsely : Prop := presortLeastRow.holds Tryd.pinned (OpenSpec.ofChange presortLeastWrong)

/-- 'letterbaglaw25.PresortMeets': WHATEVER THE INPUT: true; the input reads as it did. -/
def presortMeetsSpec : ChangeSpec := { name := "presortMeets", fn := fun _ => fun
  | [d1, d2, d3, d4] => { results := [.lit (.bool true)], args := [d1, d2, d3, d4] }
  | _ => none }
def presortMeetsRow : OpenClaim := { program := "ytejmlkfdkodabaadoor", sum := "54938312ff73618299382ee6307305f45d23870dc6b3a2b697ccb8f4c4baeb6d", func := "letterbag/letterbaglaw25.PresortMeets", spec := "presortMeets", inPlace := ["internal/bytealg.IndexByteString", "internal/bytealg.IndexString"], unfollowed := true, recurses := true, named := ["unicode/utf8.first", "unicode/utf8.acceptRanges", "internal/bytealg.MaxLen"], apart := false, laid := [("unicode/utf8.acceptRanges", laid_unicode_utf8_acceptRanges), ("unicode/utf8.first", laid_unicode_utf8_first)] }
def PresortMeetsSaid : Prop := presortMeetsRow.holds Tryd.pinned (OpenSpec.ofChange presortMeetsSpec)

/-- ITS FALSE NEIGHBOUR: 'it returns false'. Refute it at one input. -/
def presortMeetsWrong : ChangeSpec := { name := "presortMeets", fn := fun _ => fun
  | [d1, d2, d3, d4] => { results := [.lit (.bool false)], args := [d1, d2, d3, d4] }
  | _ => none }
def PresortMeetsWrongFalsely : Prop := presortMeetsRow.holds Tryd.pinned (OpenSpec.ofChange presortMeetsWrong)

/-- 'letterbaglaw25.PresortBeats': WHATEVER THE INPUT: true; the input reads as it did. -/
def presortBeatsSpec : ChangeSpec := { name := "presortBeats", fn := fun _ => fun
  | [d1, d2, d3, d4] => { results := [.lit (.bool true)], args := [d1, d2, d3, d4] }
  | _ => none }
def presortBeatsRow : OpenClaim := { program := "ytejmlkfdkodabaadoor", sum := "54938312ff73618299382ee6307305f45d23870dc6b3a2b697ccb8f4c4baeb6d", func := "letterbag/letterbaglaw25.PresortBeats", spec := "presortBeats", inPlace := ["internal/bytealg.IndexByteString", "internal/bytealg.IndexString"], unfollowed := true, recurses := true, named := ["unicode/utf8.first", "unicode/utf8.acceptRanges", "internal/bytealg.MaxLen"], apart := false, laid := [("unicode/utf8.acceptRanges", laid_unicode_utf8_acceptRanges), ("unicode/utf8.first", laid_unicode_utf8_first)] }
def PresortBeatsSaid : Prop := presortBeatsRow.holds Tryd.pinned (OpenSpec.ofChange presortBeatsSpec)

/-- ITS FALSE NEIGHBOUR: 'it returns false'. Refute it at one input. -/
def presortBeatsWrong : ChangeSpec := { name := "presortBeats", fn := fun _ => fun
  | [d1, d2, d3, d4] => { results := [.lit (.bool false)], args := [d1, d2, d3, d4] }
  | _ => none }
def PresortBeatsWrongFalsely : Prop := presortBeatsRow.holds Tryd.pinned (OpenSpec.ofChange presortBeatsWrong)

/-- 'letterbaglaw25.PresortGrows': WHATEVER THE INPUT: true; the input reads as it did. -/
def presortGrowsSpec : ChangeSpec := { name := "presortGrows", fn := fun _ => fun
  | [d1, d2, d3, d4, d5] => { results := [.lit (.bool true)], args := [d1, d2, d3, d4, d5] }
  | _ => none }
def presortGrowsRow : OpenClaim := { program := "ytejmlkfdkodabaadoor", sum := "54938312ff73618299382ee6307305f45d23870dc6b3a2b697ccb8f4c4baeb6d", func := "letterbag/letterbaglaw25.PresortGrows", spec := "presortGrows", inPlace := ["internal/bytealg.IndexByteString", "internal/bytealg.IndexString"], unfollowed := true, recurses := true, named := ["unicode/utf8.first", "unicode/utf8.acceptRanges", "internal/bytealg.MaxLen"], apart := false, laid := [("unicode/utf8.acceptRanges", laid_unicode_utf8_acceptRanges), ("unicode/utf8.first", laid_unicode_utf8_first)] }
def PresortGrowsSaid : Prop := presortGrowsRow.holds Tryd.pinned (OpenSpec.ofChange presortGrowsSpec)

/-- ITS FALSE NEIGHBOUR: 'it returns false'. Refute it at one input. -/
def presortGrowsWrong : ChangeSpec := { name := "presortGrows", fn := fun _ => fun
  | [d1, d2, d3, d4, d5] => { results := [.lit (.bool false)], args := [d1, d2, d3, d4, d5] }
  | _ => none }
def PresortGrowsWrongFalsely : Prop := presortGrowsRow.holds Tryd.pinned (OpenSpec.ofChange presortGrowsWrong)

/-- 'letterbaglaw25.PresortSame': WHATEVER THE INPUT: true; the input reads as it did. -/
def presortSameSpec : ChangeSpec := { name := "presortSame", fn := fun _ => fun
  | [d1, d2, d3, d4, d5] => { results := [.lit (.bool true)], args := [d1, d2, d3, d4, d5] }
  | _ => none }
def presortSameRow : OpenClaim := { program := "ytejmlkfdkodabaadoor", sum := "54938312ff73618299382ee6307305f45d23870dc6b3a2b697ccb8f4c4baeb6d", func := "letterbag/letterbaglaw25.PresortSame", spec := "presortSame", inPlace := ["internal/bytealg.IndexByteString", "internal/bytealg.IndexString"], unfollowed := true, recurses := true, named := ["unicode/utf8.first", "unicode/utf8.acceptRanges", "internal/bytealg.MaxLen"], apart := false, laid := [("unicode/utf8.acceptRanges", laid_unicode_utf8_acceptRanges), ("unicode/utf8.first", laid_unicode_utf8_first)] }
def PresortSameSaid : Prop := presortSameRow.holds Tryd.pinned (OpenSpec.ofChange presortSameSpec)

/-- ITS FALSE NEIGHBOUR: 'it returns false'. Refute it at one input. -/
def presortSameWrong : ChangeSpec := { name := "presortSame", fn := fun _ => fun
  | [d1, d2, d3, d4, d5] => { results := [.lit (.bool false)], args := [d1, d2, d3, d4, d5] }
  | _ => none }
def PresortSameWrongFalsely : Prop := presortSameRow.holds Tryd.pinned (OpenSpec.ofChange presortSameWrong)

/-- 'letterbaglaw25.PresortFew': WHATEVER THE INPUT: true; the input reads as it did. -/
def presortFewSpec : ChangeSpec := { name := "presortFew", fn := fun _ => fun
  | [d1, d2, d3, d4, d5] => { results := [.lit (.bool true)], args := [d1, d2, d3, d4, d5] }
  | _ => none }
def presortFewRow : OpenClaim := { program := "ytejmlkfdkodabaadoor", sum := "54938312ff73618299382ee6307305f45d23870dc6b3a2b697ccb8f4c4baeb6d", func := "letterbag/letterbaglaw25.PresortFew", spec := "presortFew", inPlace := ["internal/bytealg.IndexByteString", "internal/bytealg.IndexString"], unfollowed := true, recurses := true, named := ["unicode/utf8.first", "unicode/utf8.acceptRanges", "internal/bytealg.MaxLen"], apart := false, laid := [("unicode/utf8.acceptRanges", laid_unicode_utf8_acceptRanges), ("unicode/utf8.first", laid_unicode_utf8_first)] }
def PresortFewSaid : Prop := presortFewRow.holds Tryd.pinned (OpenSpec.ofChange presortFewSpec)

/-- ITS FALSE NEIGHBOUR: 'it returns false'. Refute it at one input. -/
def presortFewWrong : ChangeSpec := { name := "presortFew", fn := fun _ => fun
  | [d1, d2, d3, d4, d5] => { results := [.lit (.bool false)], args := [d1, d2, d3, d4, d5] }
  | _ => none }
def PresortFewWrongFalsely : Prop := presortFewRow.holds Tryd.pinned (OpenSpec.ofChange presortFewWrong)

/-- 'letterbaglaw25.PresortWrong': WHATEVER THE INPUT: true; the input reads as it did. -/
def presortWrongSpec : ChangeSpec := { name := "presortWrong", fn := fun _ => fun
  | [d1, d2, d3] => { results := [.lit (.bool true)], args := [d1, d2, d3] }
  | _ => none }
def presortWrongRow : OpenClaim := { program := "ytejmlkfdkodabaadoor", sum := "54938312ff73618299382ee6307305f45d23870dc6b3a2b697ccb8f4c4baeb6d", func := "letterbag/letterbaglaw25.PresortWrong", spec := "presortWrong", inPlace := ["internal/bytealg.IndexByteString", "internal/bytealg.IndexString"], unfollowed := true, recurses := true, named := ["unicode/utf8.first", "unicode/utf8.acceptRanges", "internal/bytealg.MaxLen"], apart := false, laid := [("unicode/utf8.acceptRanges", laid_unicode_utf8_acceptRanges), ("unicode/utf8.first", laid_unicode_utf8_first)] }
def PresortWrongSaid : Prop := presortWrongRow.holds Tryd.pinned (OpenSpec.ofChange presortWrongSpec)

/-- ITS FALSE NEIGHBOUR: 'it returns false'. Refute it at one input. -/
def presortWrongWrong : ChangeSpec := { name := "presortWrong", fn := fun _ => fun
  | [d1, d2, d3] => { results := [.lit (.bool false)], args := [d1, d2, d3] }
  | _ => none }
def PresortWrongWrongFalsely : Prop := presortWrongRow.holds Tryd.pinned (OpenSpec.ofChange presortWrongWrong)

/- THE SECOND FORM. 'bulk': how many values and letters a reading holds, each counted each time it is reached (what is shared counts as often as it is met; a slice's spare places count too). A statement '..UptoSaid' is the law's where the arguments, and the package variables that the reading takes, are together of bulk at most 1048576: NARROWER than '..Said'. Prove '..Said' where nothing that the law and all that it calls make is longer than what came in: it says more and counts as full. Else prove '..UptoSaid'. A law counts once. -/
mutual
def uptoBulk {H : Type} : DataW H → Nat
  | .lit (.string bytes) => bytes.length + 1
  | .lit _ => 1
  | .nil => 1
  | .ptr d => uptoBulk d + 1
  | .slice elems spare => uptoBulkAll elems + uptoBulkAll spare + 1
  | .agg parts => uptoBulkAll parts + 1
  | .iface _ d => uptoBulk d + 1
  | .map entries => uptoBulkEntries entries + 1
  | .held _ => 1
def uptoBulkAll {H : Type} : List (DataW H) → Nat
  | [] => 0
  | d :: r => uptoBulk d + uptoBulkAll r
def uptoBulkEntries {H : Type} : List (Lit × DataW H) → Nat
  | [] => 0
  | x :: r => uptoBulkEntry x + uptoBulkEntries r
def uptoBulkEntry {H : Type} : Lit × DataW H → Nat
  | (.string bytes, d) => bytes.length + uptoBulk d + 1
  | (_, d) => uptoBulk d + 1
 end
def uptoSmall : (H : Type) → List (DataW H) → Bool := fun _ ds => decide (uptoBulkAll ds ≤ 1048576)
def OpenSpec.upto (s : _root_.Go.ChangeSpec) : _root_.Go.OpenSpec := { _root_.Go.OpenSpec.ofChange s with cond := some uptoSmall }

/-- 'letterbaglaw25.PresortLeast', WHERE WHAT IT READS IS OF BULK AT MOST 1048576: true; the input reads as it did. -/
def presortLeastUptoRow : OpenClaim := { program := "ytejmlkfdkodabaadoor", sum := "54938312ff73618299382ee6307305f45d23870dc6b3a2b697ccb8f4c4baeb6d", func := "letterbag/letterbaglaw25.PresortLeast", spec := "presortLeast", inPlace := ["internal/bytealg.IndexByteString", "internal/bytealg.IndexString"], unfollowed := true, recurses := true, named := ["unicode/utf8.first", "unicode/utf8.acceptRanges", "internal/bytealg.MaxLen"], apart := false, laid := [("unicode/utf8.acceptRanges", laid_unicode_utf8_acceptRanges), ("unicode/utf8.first", laid_unicode_utf8_first)], narrowed := true }
def PresortLeastUptoSaid : Prop := presortLeastUptoRow.holds Tryd.pinned (OpenSpec.upto presortLeastSpec)

/-- 'letterbaglaw25.PresortMeets', WHERE WHAT IT READS IS OF BULK AT MOST 1048576: true; the input reads as it did. -/
def presortMeetsUptoRow : OpenClaim := { program := "ytejmlkfdkodabaadoor", sum := "54938312ff73618299382ee6307305f45d23870dc6b3a2b697ccb8f4c4baeb6d", func := "letterbag/letterbaglaw25.PresortMeets", spec := "presortMeets", inPlace := ["internal/bytealg.IndexByteString", "internal/bytealg.IndexString"], unfollowed := true, recurses := true, named := ["unicode/utf8.first", "unicode/utf8.acceptRanges", "internal/bytealg.MaxLen"], apart := false, laid := [("unicode/utf8.acceptRanges", laid_unicode_utf8_acceptRanges), ("unicode/utf8.first", laid_unicode_utf8_first)], narrowed := true }
def PresortMeetsUptoSaid : Prop := presortMeetsUptoRow.holds Tryd.pinned (OpenSpec.upto presortMeetsSpec)

/-- 'letterbaglaw25.PresortBeats', WHERE WHAT IT READS IS OF BULK AT MOST 1048576: true; the input reads as it did. -/
def presortBeatsUptoRow : OpenClaim := { program := "ytejmlkfdkodabaadoor", sum := "54938312ff73618299382ee6307305f45d23870dc6b3a2b697ccb8f4c4baeb6d", func := "letterbag/letterbaglaw25.PresortBeats", spec := "presortBeats", inPlace := ["internal/bytealg.IndexByteString", "internal/bytealg.IndexString"], unfollowed := true, recurses := true, named := ["unicode/utf8.first", "unicode/utf8.acceptRanges", "internal/bytealg.MaxLen"], apart := false, laid := [("unicode/utf8.acceptRanges", laid_unicode_utf8_acceptRanges), ("unicode/utf8.first", laid_unicode_utf8_first)], narrowed := true }
def PresortBeatsUptoSaid : Prop := presortBeatsUptoRow.holds Tryd.pinned (OpenSpec.upto presortBeatsSpec)

/-- 'letterbaglaw25.PresortGrows', WHERE WHAT IT READS IS OF BULK AT MOST 1048576: true; the input reads as it did. -/
def presortGrowsUptoRow : OpenClaim := { program := "ytejmlkfdkodabaadoor", sum := "54938312ff73618299382ee6307305f45d23870dc6b3a2b697ccb8f4c4baeb6d", func := "letterbag/letterbaglaw25.PresortGrows", spec := "presortGrows", inPlace := ["internal/bytealg.IndexByteString", "internal/bytealg.IndexString"], unfollowed := true, recurses := true, named := ["unicode/utf8.first", "unicode/utf8.acceptRanges", "internal/bytealg.MaxLen"], apart := false, laid := [("unicode/utf8.acceptRanges", laid_unicode_utf8_acceptRanges), ("unicode/utf8.first", laid_unicode_utf8_first)], narrowed := true }
def PresortGrowsUptoSaid : Prop := presortGrowsUptoRow.holds Tryd.pinned (OpenSpec.upto presortGrowsSpec)

/-- 'letterbaglaw25.PresortSame', WHERE WHAT IT READS IS OF BULK AT MOST 1048576: true; the input reads as it did. -/
def presortSameUptoRow : OpenClaim := { program := "ytejmlkfdkodabaadoor", sum := "54938312ff73618299382ee6307305f45d23870dc6b3a2b697ccb8f4c4baeb6d", func := "letterbag/letterbaglaw25.PresortSame", spec := "presortSame", inPlace := ["internal/bytealg.IndexByteString", "internal/bytealg.IndexString"], unfollowed := true, recurses := true, named := ["unicode/utf8.first", "unicode/utf8.acceptRanges", "internal/bytealg.MaxLen"], apart := false, laid := [("unicode/utf8.acceptRanges", laid_unicode_utf8_acceptRanges), ("unicode/utf8.first", laid_unicode_utf8_first)], narrowed := true }
def PresortSameUptoSaid : Prop := presortSameUptoRow.holds Tryd.pinned (OpenSpec.upto presortSameSpec)

/-- 'letterbaglaw25.PresortFew', WHERE WHAT IT READS IS OF BULK AT MOST 1048576: true; the input reads as it did. -/
def presortFewUptoRow : OpenClaim := { program := "ytejmlkfdkodabaadoor", sum := "54938312ff73618299382ee6307305f45d23870dc6b3a2b697ccb8f4c4baeb6d", func := "letterbag/letterbaglaw25.PresortFew", spec := "presortFew", inPlace := ["internal/bytealg.IndexByteString", "internal/bytealg.IndexString"], unfollowed := true, recurses := true, named := ["unicode/utf8.first", "unicode/utf8.acceptRanges", "internal/bytealg.MaxLen"], apart := false, laid := [("unicode/utf8.acceptRanges", laid_unicode_utf8_acceptRanges), ("unicode/utf8.first", laid_unicode_utf8_first)], narrowed := true }
def PresortFewUptoSaid : Prop := presortFewUptoRow.holds Tryd.pinned (OpenSpec.upto presortFewSpec)

/-- 'letterbaglaw25.PresortWrong', WHERE WHAT IT READS IS OF BULK AT MOST 1048576: true; the input reads as it did. -/
def presortWrongUptoRow : OpenClaim := { program := "ytejmlkfdkodabaadoor", sum := "54938312ff73618299382ee6307305f45d23870dc6b3a2b697ccb8f4c4baeb6d", func := "letterbag/letterbaglaw25.PresortWrong", spec := "presortWrong", inPlace := ["internal/bytealg.IndexByteString", "internal/bytealg.IndexString"], unfollowed := true, recurses := true, named := ["unicode/utf8.first", "unicode/utf8.acceptRanges", "internal/bytealg.MaxLen"], apart := false, laid := [("unicode/utf8.acceptRanges", laid_unicode_utf8_acceptRanges), ("unicode/utf8.first", laid_unicode_utf8_first)], narrowed := true }
def PresortWrongUptoSaid : Prop := presortWrongUptoRow.holds Tryd.pinned (OpenSpec.upto presortWrongSpec)

end Rows
end Go.Proofs.YtejmlkfdkodabaaDoor
