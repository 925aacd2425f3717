/-
  No cell of these rows narrows 'for every input' (looked for: loops, veiled, ifaces, maps, wideKeys, modest, calm, conditions, laid).
  DERIVED. THE GIVEN ROWS OF THIS SEAT. 5 by the template 'for every input the law returns true; each argument reads behind the call as it read before'; 0 by the template 'total and deterministic' (their statements: YtlgpalokjckdcaaTotals.lean).
  GIVEN WITH THE SEED: the statements are not yours to turn. If you find one false, say at which input.
  Laid BY PROGRAM, IN A SANDBOX (cutbox-rows.mjs): the forced cells as the released guide's own fill.sh prints them over the translation acdc43deb9a5bef2… (all of the seat's roots in one cut). By AI agents, Wed Nov 11 2026. No macro, syntax, notation, axiom, sorry.
-/
import Derived.Test.YtlgpalokjckdcaaChecked
import GoSem.Claim
import GoSem.ClaimJoined
import GoSem.ClaimMapViews
import Derived.JoinedTies
import Derived.KernelRfl
namespace Go.Proofs.Ytlgpalokjckdcaa
/- THE CELL 'sum', in the pinned program and in every row, IS THE sha256 OF THE DUMP (.gsa) THAT YtlgpalokjckdcaaProg.lean LOADS. Nothing in Lean hashes anything: it is a label: what it is worth is what the hold of that sum in a sandbox is worth. -/
noncomputable def Try.pinned : Pinned := { name := "ytlgpalokjckdcaa", sum := "acdc43deb9a5bef231bca9d0526d31f58dfc3802e38baa06f66157c29c4b48cf", checked := Try.checked }
namespace Rows
def none {H : Type} : Left H := { results := [], args := [] }

/-- 'perigeelaw11.ChannelsDemux': WHATEVER THE INPUT: true; the input reads as it did. -/
def channelsDemuxSpec : ChangeSpec := { name := "channelsDemux", fn := fun _ => fun
  | [d1, d2, d3] => { results := [.lit (.bool true)], args := [d1, d2, d3] }
  | _ => none }
def channelsDemuxRow : OpenClaim := { program := "ytlgpalokjckdcaa", sum := "acdc43deb9a5bef231bca9d0526d31f58dfc3802e38baa06f66157c29c4b48cf", func := "perigee/perigeelaw11.ChannelsDemux", spec := "channelsDemux", inPlace := ["internal/abi.NoEscape", "internal/bytealg.MakeNoZero"], unfollowed := true, recurses := true, apart := false }
def ChannelsDemuxSaid : Prop := channelsDemuxRow.holds Try.pinned (OpenSpec.ofChange channelsDemuxSpec)

/-- ITS FALSE NEIGHBOUR: 'it returns false'. Refute it at one input. -/
def channelsDemuxWrong : ChangeSpec := { name := "channelsDemux", fn := fun _ => fun
  | [d1, d2, d3] => { results := [.lit (.bool false)], args := [d1, d2, d3] }
  | _ => none }
def ChannelsDemuxWrongFalsely : Prop := channelsDemuxRow.holds Try.pinned (OpenSpec.ofChange channelsDemuxWrong)

/-- 'perigeelaw11.ChannelsWhole': WHATEVER THE INPUT: true; the input reads as it did. -/
def channelsWholeSpec : ChangeSpec := { name := "channelsWhole", fn := fun _ => fun
  | [d1, d2, d3] => { results := [.lit (.bool true)], args := [d1, d2, d3] }
  | _ => none }
def channelsWholeRow : OpenClaim := { program := "ytlgpalokjckdcaa", sum := "acdc43deb9a5bef231bca9d0526d31f58dfc3802e38baa06f66157c29c4b48cf", func := "perigee/perigeelaw11.ChannelsWhole", spec := "channelsWhole", inPlace := ["internal/abi.NoEscape", "internal/bytealg.MakeNoZero"], unfollowed := true, recurses := true, apart := false }
def ChannelsWholeSaid : Prop := channelsWholeRow.holds Try.pinned (OpenSpec.ofChange channelsWholeSpec)

/-- ITS FALSE NEIGHBOUR: 'it returns false'. Refute it at one input. -/
def channelsWholeWrong : ChangeSpec := { name := "channelsWhole", fn := fun _ => fun
  | [d1, d2, d3] => { results := [.lit (.bool false)], args := [d1, d2, d3] }
  | _ => none }
def ChannelsWholeWrongFalsely : Prop := channelsWholeRow.holds Try.pinned (OpenSpec.ofChange channelsWholeWrong)

/-- 'perigeelaw11.ChannelsShares': WHATEVER THE INPUT: true; the input reads as it did. -/
def channelsSharesSpec : ChangeSpec := { name := "channelsShares", fn := fun _ => fun
  | [d1, d2] => { results := [.lit (.bool true)], args := [d1, d2] }
  | _ => none }
def channelsSharesRow : OpenClaim := { program := "ytlgpalokjckdcaa", sum := "acdc43deb9a5bef231bca9d0526d31f58dfc3802e38baa06f66157c29c4b48cf", func := "perigee/perigeelaw11.ChannelsShares", spec := "channelsShares", inPlace := ["internal/abi.NoEscape", "internal/bytealg.MakeNoZero"], unfollowed := true, recurses := true, apart := false }
def ChannelsSharesSaid : Prop := channelsSharesRow.holds Try.pinned (OpenSpec.ofChange channelsSharesSpec)

/-- ITS FALSE NEIGHBOUR: 'it returns false'. Refute it at one input. -/
def channelsSharesWrong : ChangeSpec := { name := "channelsShares", fn := fun _ => fun
  | [d1, d2] => { results := [.lit (.bool false)], args := [d1, d2] }
  | _ => none }
def ChannelsSharesWrongFalsely : Prop := channelsSharesRow.holds Try.pinned (OpenSpec.ofChange channelsSharesWrong)

/-- 'perigeelaw11.ChannelsMux': WHATEVER THE INPUT: true; the input reads as it did. -/
def channelsMuxSpec : ChangeSpec := { name := "channelsMux", fn := fun _ => fun
  | [d1, d2] => { results := [.lit (.bool true)], args := [d1, d2] }
  | _ => none }
def channelsMuxRow : OpenClaim := { program := "ytlgpalokjckdcaa", sum := "acdc43deb9a5bef231bca9d0526d31f58dfc3802e38baa06f66157c29c4b48cf", func := "perigee/perigeelaw11.ChannelsMux", spec := "channelsMux", inPlace := ["internal/abi.NoEscape", "internal/bytealg.MakeNoZero"], unfollowed := true, recurses := true, apart := false }
def ChannelsMuxSaid : Prop := channelsMuxRow.holds Try.pinned (OpenSpec.ofChange channelsMuxSpec)

/-- ITS FALSE NEIGHBOUR: 'it returns false'. Refute it at one input. -/
def channelsMuxWrong : ChangeSpec := { name := "channelsMux", fn := fun _ => fun
  | [d1, d2] => { results := [.lit (.bool false)], args := [d1, d2] }
  | _ => none }
def ChannelsMuxWrongFalsely : Prop := channelsMuxRow.holds Try.pinned (OpenSpec.ofChange channelsMuxWrong)

/-- 'perigeelaw11.ChannelsNone': WHATEVER THE INPUT: true; the input reads as it did. -/
def channelsNoneSpec : ChangeSpec := { name := "channelsNone", fn := fun _ => fun
  | [d1, d2, d3] => { results := [.lit (.bool true)], args := [d1, d2, d3] }
  | _ => none }
def channelsNoneRow : OpenClaim := { program := "ytlgpalokjckdcaa", sum := "acdc43deb9a5bef231bca9d0526d31f58dfc3802e38baa06f66157c29c4b48cf", func := "perigee/perigeelaw11.ChannelsNone", spec := "channelsNone", inPlace := ["internal/abi.NoEscape", "internal/bytealg.MakeNoZero"], unfollowed := true, recurses := true, apart := false }
def ChannelsNoneSaid : Prop := channelsNoneRow.holds Try.pinned (OpenSpec.ofChange channelsNoneSpec)

/-- ITS FALSE NEIGHBOUR: 'it returns false'. Refute it at one input. -/
def channelsNoneWrong : ChangeSpec := { name := "channelsNone", fn := fun _ => fun
  | [d1, d2, d3] => { results := [.lit (.bool false)], args := [d1, d2, d3] }
  | _ => none }
def ChannelsNoneWrongFalsely : Prop := channelsNoneRow.holds Try.pinned (OpenSpec.ofChange channelsNoneWrong)

/- THE SECOND FORM. 'bulk': how many values and letters a reading holds, each counted each time it is reached (what is shared counts as often as it is met; a slice's spare places count too). A statement '..UptoSaid' is the law's where the arguments, and the package variables that the reading takes, are together of bulk at most 1048576: NARROWER than '..Said'. Prove '..Said' where nothing that the law and all that it calls make is longer than what came in: it says more and counts as full. Else prove '..UptoSaid'. A law counts once. -/
mutual
def uptoBulk {H : Type} : DataW H → Nat
  | .lit (.string bytes) => bytes.length + 1
  | .lit _ => 1
  | .nil => 1
  | .ptr d => uptoBulk d + 1
  | .slice elems spare => uptoBulkAll elems + uptoBulkAll spare + 1
  | .agg parts => uptoBulkAll parts + 1
  | .iface _ d => uptoBulk d + 1
  | .map entries => uptoBulkEntries entries + 1
  | .held _ => 1
def uptoBulkAll {H : Type} : List (DataW H) → Nat
  | [] => 0
  | d :: r => uptoBulk d + uptoBulkAll r
def uptoBulkEntries {H : Type} : List (Lit × DataW H) → Nat
  | [] => 0
  | x :: r => uptoBulkEntry x + uptoBulkEntries r
def uptoBulkEntry {H : Type} : Lit × DataW H → Nat
  | (.string bytes, d) => bytes.length + uptoBulk d + 1
  | (_, d) => uptoBulk d + 1
 end
def uptoSmall : (H : Type) → List (DataW H) → Bool := fun _ ds => decide (uptoBulkAll ds ≤ 1048576)
def OpenSpec.upto (s : _root_.Go.ChangeSpec) : _root_.Go.OpenSpec := { _root_.Go.OpenSpec.ofChange s with cond := some uptoSmall }

/-- 'perigeelaw11.ChannelsDemux', WHERE WHAT IT READS IS OF BULK AT MOST 1048576: true; the input reads as it did. -/
def channelsDemuxUptoRow : OpenClaim := { program := "ytlgpalokjckdcaa", sum := "acdc43deb9a5bef231bca9d0526d31f58dfc3802e38baa06f66157c29c4b48cf", func := "perigee/perigeelaw11.ChannelsDemux", spec := "channelsDemux", inPlace := ["internal/abi.NoEscape", "internal/bytealg.MakeNoZero"], unfollowed := true, recurses := true, apart := false, narrowed := true }
def ChannelsDemuxUptoSaid : Prop := channelsDemuxUptoRow.holds Try.pinned (OpenSpec.upto channelsDemuxSpec)

/-- 'perigeelaw11.ChannelsWhole', WHERE WHAT IT READS IS OF BULK AT MOST 1048576: true; the input reads as it did. -/
def channelsWholeUptoRow : OpenClaim := { program := "ytlgpalokjckdcaa", sum := "acdc43deb9a5bef231bca9d0526d31f58dfc3802e38baa06f66157c29c4b48cf", func := "perigee/perigeelaw11.ChannelsWhole", spec := "channelsWhole", inPlace := ["internal/abi.NoEscape", "internal/bytealg.MakeNoZero"], unfollowed := true, recurses := true, apart := false, narrowed := true }
def ChannelsWholeUptoSaid : Prop := channelsWholeUptoRow.holds Try.pinned (OpenSpec.upto channelsWholeSpec)

/-- 'perigeelaw11.ChannelsShares', WHERE WHAT IT READS IS OF BULK AT MOST 1048576: true; the input reads as it did. -/
def channelsSharesUptoRow : OpenClaim := { program := "ytlgpalokjckdcaa", sum := "acdc43deb9a5bef231bca9d0526d31f58dfc3802e38baa06f66157c29c4b48cf", func := "perigee/perigeelaw11.ChannelsShares", spec := "channelsShares", inPlace := ["internal/abi.NoEscape", "internal/bytealg.MakeNoZero"], unfollowed := true, recurses := true, apart := false, narrowed := true }
def ChannelsSharesUptoSaid : Prop := channelsSharesUptoRow.holds Try.pinned (OpenSpec.upto channelsSharesSpec)

/-- 'perigeelaw11.ChannelsMux', WHERE WHAT IT READS IS OF BULK AT MOST 1048576: true; the input reads as it did. -/
def channelsMuxUptoRow : OpenClaim := { program := "ytlgpalokjckdcaa", sum := "acdc43deb9a5bef231bca9d0526d31f58dfc3802e38baa06f66157c29c4b48cf", func := "perigee/perigeelaw11.ChannelsMux", spec := "channelsMux", inPlace := ["internal/abi.NoEscape", "internal/bytealg.MakeNoZero"], unfollowed := true, recurses := true, apart := false, narrowed := true }
def ChannelsMuxUptoSaid : Prop := channelsMuxUptoRow.holds Try.pinned (OpenSpec.upto channelsMuxSpec)

/-- 'perigeelaw11.ChannelsNone', WHERE WHAT IT READS IS OF BULK AT MOST 1048576: true; the input reads as it did. -/
def channelsNoneUptoRow : OpenClaim := { program := "ytlgpalokjckdcaa", sum := "acdc43deb9a5bef231bca9d0526d31f58dfc3802e38baa06f66157c29c4b48cf", func := "perigee/perigeelaw11.ChannelsNone", spec := "channelsNone", inPlace := ["internal/abi.NoEscape", "internal/bytealg.MakeNoZero"], unfollowed := true, recurses := true, apart := false, narrowed := true }
def ChannelsNoneUptoSaid : Prop := channelsNoneUptoRow.holds Try.pinned (OpenSpec.upto channelsNoneSpec)

end Rows
end Go.Proofs.Ytlgpalokjckdcaa
