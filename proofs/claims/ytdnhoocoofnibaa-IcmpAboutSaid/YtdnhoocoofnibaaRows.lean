/-
  No cell of these rows narrows 'for every input' (looked for: loops, veiled, ifaces, maps, wideKeys, modest, calm, conditions, laid).
  DERIVED. THE GIVEN ROWS OF THIS SEAT. 11 by the template 'for every input the law returns true; each argument reads behind the call as it read before'; 0 by the template 'total and deterministic' (their statements: YtdnhoocoofnibaaTotals.lean).
  GIVEN WITH THE SEED: the statements are not yours to turn. If you find one false, say at which input.
  Laid BY PROGRAM, IN A SANDBOX (cutbox-rows.mjs): the forced cells as the released guide's own fill.sh prints them over the translation d6d88f1b356c3981… (all of the seat's roots in one cut). By AI agents, Wed Nov 11 2026. No macro, syntax, notation, axiom, sorry.
-/
import Derived.Test.YtdnhoocoofnibaaChecked
import GoSem.Claim
import GoSem.ClaimJoined
import GoSem.ClaimMapViews
import Derived.JoinedTies
import Derived.KernelRfl
namespace Go.Proofs.Ytdnhoocoofnibaa
/- THE CELL 'sum', in the pinned program and in every row, IS THE sha256 OF THE DUMP (.gsa) THAT YtdnhoocoofnibaaProg.lean LOADS. Nothing in Lean hashes anything: it is a label: what it is worth is what the hold of that sum in a sandbox is worth. -/
noncomputable def Try.pinned : Pinned := { name := "ytdnhoocoofnibaa", sum := "d6d88f1b356c39816bbd42d29527caf6b2998224d35f19d19679920e2d925ec9", checked := Try.checked }
namespace Rows
def none {H : Type} : Left H := { results := [], args := [] }

/-- 'cloakroomlaw08.UdpTells': WHATEVER THE INPUT: true; the input reads as it did. -/
def udpTellsSpec : ChangeSpec := { name := "udpTells", fn := fun _ => fun
  | [d1, d2, d3, d4, d5] => { results := [.lit (.bool true)], args := [d1, d2, d3, d4, d5] }
  | _ => none }
def udpTellsRow : OpenClaim := { program := "ytdnhoocoofnibaa", sum := "d6d88f1b356c39816bbd42d29527caf6b2998224d35f19d19679920e2d925ec9", func := "cloakroom/cloakroomlaw08.UdpTells", spec := "udpTells", inPlace := ["internal/abi.NoEscape"], unfollowed := true, recurses := true, apart := false }
def UdpTellsSaid : Prop := udpTellsRow.holds Try.pinned (OpenSpec.ofChange udpTellsSpec)

/-- ITS FALSE NEIGHBOUR: 'it returns false'. Refute it at one input. -/
def udpTellsWrong : ChangeSpec := { name := "udpTells", fn := fun _ => fun
  | [d1, d2, d3, d4, d5] => { results := [.lit (.bool false)], args := [d1, d2, d3, d4, d5] }
  | _ => none }
def UdpTellsWrongFalsely : Prop := udpTellsRow.holds Try.pinned (OpenSpec.ofChange udpTellsWrong)

/-- 'cloakroomlaw08.UdpBack': WHATEVER THE INPUT: true; the input reads as it did. -/
def udpBackSpec : ChangeSpec := { name := "udpBack", fn := fun _ => fun
  | [d1, d2, d3, d4, d5, d6] => { results := [.lit (.bool true)], args := [d1, d2, d3, d4, d5, d6] }
  | _ => none }
def udpBackRow : OpenClaim := { program := "ytdnhoocoofnibaa", sum := "d6d88f1b356c39816bbd42d29527caf6b2998224d35f19d19679920e2d925ec9", func := "cloakroom/cloakroomlaw08.UdpBack", spec := "udpBack", inPlace := ["internal/abi.NoEscape"], unfollowed := true, recurses := true, apart := false }
def UdpBackSaid : Prop := udpBackRow.holds Try.pinned (OpenSpec.ofChange udpBackSpec)

/-- ITS FALSE NEIGHBOUR: 'it returns false'. Refute it at one input. -/
def udpBackWrong : ChangeSpec := { name := "udpBack", fn := fun _ => fun
  | [d1, d2, d3, d4, d5, d6] => { results := [.lit (.bool false)], args := [d1, d2, d3, d4, d5, d6] }
  | _ => none }
def UdpBackWrongFalsely : Prop := udpBackRow.holds Try.pinned (OpenSpec.ofChange udpBackWrong)

/-- 'cloakroomlaw05.IpfourTells': WHATEVER THE INPUT: true; the input reads as it did. -/
def ipfourTellsSpec : ChangeSpec := { name := "ipfourTells", fn := fun _ => fun
  | [d1, d2, d3, d4] => { results := [.lit (.bool true)], args := [d1, d2, d3, d4] }
  | _ => none }
def ipfourTellsRow : OpenClaim := { program := "ytdnhoocoofnibaa", sum := "d6d88f1b356c39816bbd42d29527caf6b2998224d35f19d19679920e2d925ec9", func := "cloakroom/cloakroomlaw05.IpfourTells", spec := "ipfourTells", inPlace := ["internal/abi.NoEscape"], unfollowed := true, recurses := true, apart := false }
def IpfourTellsSaid : Prop := ipfourTellsRow.holds Try.pinned (OpenSpec.ofChange ipfourTellsSpec)

/-- ITS FALSE NEIGHBOUR: 'it returns false'. Refute it at one input. -/
def ipfourTellsWrong : ChangeSpec := { name := "ipfourTells", fn := fun _ => fun
  | [d1, d2, d3, d4] => { results := [.lit (.bool false)], args := [d1, d2, d3, d4] }
  | _ => none }
def IpfourTellsWrongFalsely : Prop := ipfourTellsRow.holds Try.pinned (OpenSpec.ofChange ipfourTellsWrong)

/-- 'cloakroomlaw05.IpfourBack': WHATEVER THE INPUT: true; the input reads as it did. -/
def ipfourBackSpec : ChangeSpec := { name := "ipfourBack", fn := fun _ => fun
  | [d1, d2, d3, d4, d5] => { results := [.lit (.bool true)], args := [d1, d2, d3, d4, d5] }
  | _ => none }
def ipfourBackRow : OpenClaim := { program := "ytdnhoocoofnibaa", sum := "d6d88f1b356c39816bbd42d29527caf6b2998224d35f19d19679920e2d925ec9", func := "cloakroom/cloakroomlaw05.IpfourBack", spec := "ipfourBack", inPlace := ["internal/abi.NoEscape"], unfollowed := true, recurses := true, apart := false }
def IpfourBackSaid : Prop := ipfourBackRow.holds Try.pinned (OpenSpec.ofChange ipfourBackSpec)

/-- ITS FALSE NEIGHBOUR: 'it returns false'. Refute it at one input. -/
def ipfourBackWrong : ChangeSpec := { name := "ipfourBack", fn := fun _ => fun
  | [d1, d2, d3, d4, d5] => { results := [.lit (.bool false)], args := [d1, d2, d3, d4, d5] }
  | _ => none }
def IpfourBackWrongFalsely : Prop := ipfourBackRow.holds Try.pinned (OpenSpec.ofChange ipfourBackWrong)

/-- 'cloakroomlaw53.IcmpTells': WHATEVER THE INPUT: true; the input reads as it did. -/
def icmpTellsSpec : ChangeSpec := { name := "icmpTells", fn := fun _ => fun
  | [d1, d2, d3, d4] => { results := [.lit (.bool true)], args := [d1, d2, d3, d4] }
  | _ => none }
def icmpTellsRow : OpenClaim := { program := "ytdnhoocoofnibaa", sum := "d6d88f1b356c39816bbd42d29527caf6b2998224d35f19d19679920e2d925ec9", func := "cloakroom/cloakroomlaw53.IcmpTells", spec := "icmpTells", inPlace := ["internal/abi.NoEscape"], unfollowed := true, recurses := true, apart := false }
def IcmpTellsSaid : Prop := icmpTellsRow.holds Try.pinned (OpenSpec.ofChange icmpTellsSpec)

/-- ITS FALSE NEIGHBOUR: 'it returns false'. Refute it at one input. -/
def icmpTellsWrong : ChangeSpec := { name := "icmpTells", fn := fun _ => fun
  | [d1, d2, d3, d4] => { results := [.lit (.bool false)], args := [d1, d2, d3, d4] }
  | _ => none }
def IcmpTellsWrongFalsely : Prop := icmpTellsRow.holds Try.pinned (OpenSpec.ofChange icmpTellsWrong)

/-- 'cloakroomlaw53.IcmpBack': WHATEVER THE INPUT: true; the input reads as it did. -/
def icmpBackSpec : ChangeSpec := { name := "icmpBack", fn := fun _ => fun
  | [d1, d2, d3, d4] => { results := [.lit (.bool true)], args := [d1, d2, d3, d4] }
  | _ => none }
def icmpBackRow : OpenClaim := { program := "ytdnhoocoofnibaa", sum := "d6d88f1b356c39816bbd42d29527caf6b2998224d35f19d19679920e2d925ec9", func := "cloakroom/cloakroomlaw53.IcmpBack", spec := "icmpBack", inPlace := ["internal/abi.NoEscape"], unfollowed := true, recurses := true, apart := false }
def IcmpBackSaid : Prop := icmpBackRow.holds Try.pinned (OpenSpec.ofChange icmpBackSpec)

/-- ITS FALSE NEIGHBOUR: 'it returns false'. Refute it at one input. -/
def icmpBackWrong : ChangeSpec := { name := "icmpBack", fn := fun _ => fun
  | [d1, d2, d3, d4] => { results := [.lit (.bool false)], args := [d1, d2, d3, d4] }
  | _ => none }
def IcmpBackWrongFalsely : Prop := icmpBackRow.holds Try.pinned (OpenSpec.ofChange icmpBackWrong)

/-- 'cloakroomlaw53.IcmpQuotes': WHATEVER THE INPUT: true; the input reads as it did. -/
def icmpQuotesSpec : ChangeSpec := { name := "icmpQuotes", fn := fun _ => fun
  | [d] => { results := [.lit (.bool true)], args := [d] }
  | _ => none }
def icmpQuotesRow : OpenClaim := { program := "ytdnhoocoofnibaa", sum := "d6d88f1b356c39816bbd42d29527caf6b2998224d35f19d19679920e2d925ec9", func := "cloakroom/cloakroomlaw53.IcmpQuotes", spec := "icmpQuotes", inPlace := ["internal/abi.NoEscape"], unfollowed := true, recurses := true, apart := false }
def IcmpQuotesSaid : Prop := icmpQuotesRow.holds Try.pinned (OpenSpec.ofChange icmpQuotesSpec)

/-- ITS FALSE NEIGHBOUR: 'it returns false'. Refute it at one input. -/
def icmpQuotesWrong : ChangeSpec := { name := "icmpQuotes", fn := fun _ => fun
  | [d] => { results := [.lit (.bool false)], args := [d] }
  | _ => none }
def IcmpQuotesWrongFalsely : Prop := icmpQuotesRow.holds Try.pinned (OpenSpec.ofChange icmpQuotesWrong)

/-- 'cloakroomlaw53.IcmpAbout': WHATEVER THE INPUT: true; the input reads as it did. -/
def icmpAboutSpec : ChangeSpec := { name := "icmpAbout", fn := fun _ => fun
  | [d1, d2, d3, d4] => { results := [.lit (.bool true)], args := [d1, d2, d3, d4] }
  | _ => none }
def icmpAboutRow : OpenClaim := { program := "ytdnhoocoofnibaa", sum := "d6d88f1b356c39816bbd42d29527caf6b2998224d35f19d19679920e2d925ec9", func := "cloakroom/cloakroomlaw53.IcmpAbout", spec := "icmpAbout", inPlace := ["internal/abi.NoEscape"], unfollowed := true, recurses := true, apart := false }
def IcmpAboutSaid : Prop := icmpAboutRow.holds Try.pinned (OpenSpec.ofChange icmpAboutSpec)

/-- ITS FALSE NEIGHBOUR: 'it returns false'. Refute it at one input. -/
def icmpAboutWrong : ChangeSpec := { name := "icmpAbout", fn := fun _ => fun
  | [d1, d2, d3, d4] => { results := [.lit (.bool false)], args := [d1, d2, d3, d4] }
  | _ => none }
def IcmpAboutWrongFalsely : Prop := icmpAboutRow.holds Try.pinned (OpenSpec.ofChange icmpAboutWrong)

/-- 'cloakroomlaw07.TcpTells': WHATEVER THE INPUT: true; the input reads as it did. -/
def tcpTellsSpec : ChangeSpec := { name := "tcpTells", fn := fun _ => fun
  | [d1, d2, d3, d4, d5] => { results := [.lit (.bool true)], args := [d1, d2, d3, d4, d5] }
  | _ => none }
def tcpTellsRow : OpenClaim := { program := "ytdnhoocoofnibaa", sum := "d6d88f1b356c39816bbd42d29527caf6b2998224d35f19d19679920e2d925ec9", func := "cloakroom/cloakroomlaw07.TcpTells", spec := "tcpTells", inPlace := ["internal/abi.NoEscape"], unfollowed := true, recurses := true, apart := false }
def TcpTellsSaid : Prop := tcpTellsRow.holds Try.pinned (OpenSpec.ofChange tcpTellsSpec)

/-- ITS FALSE NEIGHBOUR: 'it returns false'. Refute it at one input. -/
def tcpTellsWrong : ChangeSpec := { name := "tcpTells", fn := fun _ => fun
  | [d1, d2, d3, d4, d5] => { results := [.lit (.bool false)], args := [d1, d2, d3, d4, d5] }
  | _ => none }
def TcpTellsWrongFalsely : Prop := tcpTellsRow.holds Try.pinned (OpenSpec.ofChange tcpTellsWrong)

/-- 'cloakroomlaw07.TcpOptions': WHATEVER THE INPUT: true; the input reads as it did. -/
def tcpOptionsSpec : ChangeSpec := { name := "tcpOptions", fn := fun _ => fun
  | [d1, d2, d3] => { results := [.lit (.bool true)], args := [d1, d2, d3] }
  | _ => none }
def tcpOptionsRow : OpenClaim := { program := "ytdnhoocoofnibaa", sum := "d6d88f1b356c39816bbd42d29527caf6b2998224d35f19d19679920e2d925ec9", func := "cloakroom/cloakroomlaw07.TcpOptions", spec := "tcpOptions", inPlace := ["internal/abi.NoEscape"], unfollowed := true, recurses := true, apart := false }
def TcpOptionsSaid : Prop := tcpOptionsRow.holds Try.pinned (OpenSpec.ofChange tcpOptionsSpec)

/-- ITS FALSE NEIGHBOUR: 'it returns false'. Refute it at one input. -/
def tcpOptionsWrong : ChangeSpec := { name := "tcpOptions", fn := fun _ => fun
  | [d1, d2, d3] => { results := [.lit (.bool false)], args := [d1, d2, d3] }
  | _ => none }
def TcpOptionsWrongFalsely : Prop := tcpOptionsRow.holds Try.pinned (OpenSpec.ofChange tcpOptionsWrong)

/-- 'cloakroomlaw07.TcpBack': WHATEVER THE INPUT: true; the input reads as it did. -/
def tcpBackSpec : ChangeSpec := { name := "tcpBack", fn := fun _ => fun
  | [d1, d2, d3, d4, d5, d6] => { results := [.lit (.bool true)], args := [d1, d2, d3, d4, d5, d6] }
  | _ => none }
def tcpBackRow : OpenClaim := { program := "ytdnhoocoofnibaa", sum := "d6d88f1b356c39816bbd42d29527caf6b2998224d35f19d19679920e2d925ec9", func := "cloakroom/cloakroomlaw07.TcpBack", spec := "tcpBack", inPlace := ["internal/abi.NoEscape"], unfollowed := true, recurses := true, apart := false }
def TcpBackSaid : Prop := tcpBackRow.holds Try.pinned (OpenSpec.ofChange tcpBackSpec)

/-- ITS FALSE NEIGHBOUR: 'it returns false'. Refute it at one input. -/
def tcpBackWrong : ChangeSpec := { name := "tcpBack", fn := fun _ => fun
  | [d1, d2, d3, d4, d5, d6] => { results := [.lit (.bool false)], args := [d1, d2, d3, d4, d5, d6] }
  | _ => none }
def TcpBackWrongFalsely : Prop := tcpBackRow.holds Try.pinned (OpenSpec.ofChange tcpBackWrong)

/- THE SECOND FORM. 'bulk': how many values and letters a reading holds, each counted each time it is reached (what is shared counts as often as it is met; a slice's spare places count too). A statement '..UptoSaid' is the law's where the arguments, and the package variables that the reading takes, are together of bulk at most 1048576: NARROWER than '..Said'. Prove '..Said' where nothing that the law and all that it calls make is longer than what came in: it says more and counts as full. Else prove '..UptoSaid'. A law counts once. -/
mutual
def uptoBulk {H : Type} : DataW H → Nat
  | .lit (.string bytes) => bytes.length + 1
  | .lit _ => 1
  | .nil => 1
  | .ptr d => uptoBulk d + 1
  | .slice elems spare => uptoBulkAll elems + uptoBulkAll spare + 1
  | .agg parts => uptoBulkAll parts + 1
  | .iface _ d => uptoBulk d + 1
  | .map entries => uptoBulkEntries entries + 1
  | .held _ => 1
def uptoBulkAll {H : Type} : List (DataW H) → Nat
  | [] => 0
  | d :: r => uptoBulk d + uptoBulkAll r
def uptoBulkEntries {H : Type} : List (Lit × DataW H) → Nat
  | [] => 0
  | x :: r => uptoBulkEntry x + uptoBulkEntries r
def uptoBulkEntry {H : Type} : Lit × DataW H → Nat
  | (.string bytes, d) => bytes.length + uptoBulk d + 1
  | (_, d) => uptoBulk d + 1
 end
def uptoSmall : (H : Type) → List (DataW H) → Bool := fun _ ds => decide (uptoBulkAll ds ≤ 1048576)
def OpenSpec.upto (s : _root_.Go.ChangeSpec) : _root_.Go.OpenSpec := { _root_.Go.OpenSpec.ofChange s with cond := some uptoSmall }

/-- 'cloakroomlaw08.UdpTells', WHERE WHAT IT READS IS OF BULK AT MOST 1048576: true; the input reads as it did. -/
def udpTellsUptoRow : OpenClaim := { program := "ytdnhoocoofnibaa", sum := "d6d88f1b356c39816bbd42d29527caf6b2998224d35f19d19679920e2d925ec9", func := "cloakroom/cloakroomlaw08.UdpTells", spec := "udpTells", inPlace := ["internal/abi.NoEscape"], unfollowed := true, recurses := true, apart := false, narrowed := true }
def UdpTellsUptoSaid : Prop := udpTellsUptoRow.holds Try.pinned (OpenSpec.upto udpTellsSpec)

/-- 'cloakroomlaw08.UdpBack', WHERE WHAT IT READS IS OF BULK AT MOST 1048576: true; the input reads as it did. -/
def udpBackUptoRow : OpenClaim := { program := "ytdnhoocoofnibaa", sum := "d6d88f1b356c39816bbd42d29527caf6b2998224d35f19d19679920e2d925ec9", func := "cloakroom/cloakroomlaw08.UdpBack", spec := "udpBack", inPlace := ["internal/abi.NoEscape"], unfollowed := true, recurses := true, apart := false, narrowed := true }
def UdpBackUptoSaid : Prop := udpBackUptoRow.holds Try.pinned (OpenSpec.upto udpBackSpec)

/-- 'cloakroomlaw05.IpfourTells', WHERE WHAT IT READS IS OF BULK AT MOST 1048576: true; the input reads as it did. -/
def ipfourTellsUptoRow : OpenClaim := { program := "ytdnhoocoofnibaa", sum := "d6d88f1b356c39816bbd42d29527caf6b2998224d35f19d19679920e2d925ec9", func := "cloakroom/cloakroomlaw05.IpfourTells", spec := "ipfourTells", inPlace := ["internal/abi.NoEscape"], unfollowed := true, recurses := true, apart := false, narrowed := true }
def IpfourTellsUptoSaid : Prop := ipfourTellsUptoRow.holds Try.pinned (OpenSpec.upto ipfourTellsSpec)

/-- 'cloakroomlaw05.IpfourBack', WHERE WHAT IT READS IS OF BULK AT MOST 1048576: true; the input reads as it did. -/
def ipfourBackUptoRow : OpenClaim := { program := "ytdnhoocoofnibaa", sum := "d6d88f1b356c39816bbd42d29527caf6b2998224d35f19d19679920e2d925ec9", func := "cloakroom/cloakroomlaw05.IpfourBack", spec := "ipfourBack", inPlace := ["internal/abi.NoEscape"], unfollowed := true, recurses := true, apart := false, narrowed := true }
def IpfourBackUptoSaid : Prop := ipfourBackUptoRow.holds Try.pinned (OpenSpec.upto ipfourBackSpec)

/-- 'cloakroomlaw53.IcmpTells', WHERE WHAT IT READS IS OF BULK AT MOST 1048576: true; the input reads as it did. -/
def icmpTellsUptoRow : OpenClaim := { program := "ytdnhoocoofnibaa", sum := "d6d88f1b356c39816bbd42d29527caf6b2998224d35f19d19679920e2d925ec9", func := "cloakroom/cloakroomlaw53.IcmpTells", spec := "icmpTells", inPlace := ["internal/abi.NoEscape"], unfollowed := true, recurses := true, apart := false, narrowed := true }
def IcmpTellsUptoSaid : Prop := icmpTellsUptoRow.holds Try.pinned (OpenSpec.upto icmpTellsSpec)

/-- 'cloakroomlaw53.IcmpBack', WHERE WHAT IT READS IS OF BULK AT MOST 1048576: true; the input reads as it did. -/
def icmpBackUptoRow : OpenClaim := { program := "ytdnhoocoofnibaa", sum := "d6d88f1b356c39816bbd42d29527caf6b2998224d35f19d19679920e2d925ec9", func := "cloakroom/cloakroomlaw53.IcmpBack", spec := "icmpBack", inPlace := ["internal/abi.NoEscape"], unfollowed := true, recurses := true, apart := false, narrowed := true }
def IcmpBackUptoSaid : Prop := icmpBackUptoRow.holds Try.pinned (OpenSpec.upto icmpBackSpec)

/-- 'cloakroomlaw53.IcmpQuotes', WHERE WHAT IT READS IS OF BULK AT MOST 1048576: true; the input reads as it did. -/
def icmpQuotesUptoRow : OpenClaim := { program := "ytdnhoocoofnibaa", sum := "d6d88f1b356c39816bbd42d29527caf6b2998224d35f19d19679920e2d925ec9", func := "cloakroom/cloakroomlaw53.IcmpQuotes", spec := "icmpQuotes", inPlace := ["internal/abi.NoEscape"], unfollowed := true, recurses := true, apart := false, narrowed := true }
def IcmpQuotesUptoSaid : Prop := icmpQuotesUptoRow.holds Try.pinned (OpenSpec.upto icmpQuotesSpec)

/-- 'cloakroomlaw53.IcmpAbout', WHERE WHAT IT READS IS OF BULK AT MOST 1048576: true; the input reads as it did. -/
def icmpAboutUptoRow : OpenClaim := { program := "ytdnhoocoofnibaa", sum := "d6d88f1b356c39816bbd42d29527caf6b2998224d35f19d19679920e2d925ec9", func := "cloakroom/cloakroomlaw53.IcmpAbout", spec := "icmpAbout", inPlace := ["internal/abi.NoEscape"], unfollowed := true, recurses := true, apart := false, narrowed := true }
def IcmpAboutUptoSaid : Prop := icmpAboutUptoRow.holds Try.pinned (OpenSpec.upto icmpAboutSpec)

/-- 'cloakroomlaw07.TcpTells', WHERE WHAT IT READS IS OF BULK AT MOST 1048576: true; the input reads as it did. -/
def tcpTellsUptoRow : OpenClaim := { program := "ytdnhoocoofnibaa", sum := "d6d88f1b356c39816bbd42d29527caf6b2998224d35f19d19679920e2d925ec9", func := "cloakroom/cloakroomlaw07.TcpTells", spec := "tcpTells", inPlace := ["internal/abi.NoEscape"], unfollowed := true, recurses := true, apart := false, narrowed := true }
def TcpTellsUptoSaid : Prop := tcpTellsUptoRow.holds Try.pinned (OpenSpec.upto tcpTellsSpec)

/-- 'cloakroomlaw07.TcpOptions', WHERE WHAT IT READS IS OF BULK AT MOST 1048576: true; the input reads as it did. -/
def tcpOptionsUptoRow : OpenClaim := { program := "ytdnhoocoofnibaa", sum := "d6d88f1b356c39816bbd42d29527caf6b2998224d35f19d19679920e2d925ec9", func := "cloakroom/cloakroomlaw07.TcpOptions", spec := "tcpOptions", inPlace := ["internal/abi.NoEscape"], unfollowed := true, recurses := true, apart := false, narrowed := true }
def TcpOptionsUptoSaid : Prop := tcpOptionsUptoRow.holds Try.pinned (OpenSpec.upto tcpOptionsSpec)

/-- 'cloakroomlaw07.TcpBack', WHERE WHAT IT READS IS OF BULK AT MOST 1048576: true; the input reads as it did. -/
def tcpBackUptoRow : OpenClaim := { program := "ytdnhoocoofnibaa", sum := "d6d88f1b356c39816bbd42d29527caf6b2998224d35f19d19679920e2d925ec9", func := "cloakroom/cloakroomlaw07.TcpBack", spec := "tcpBack", inPlace := ["internal/abi.NoEscape"], unfollowed := true, recurses := true, apart := false, narrowed := true }
def TcpBackUptoSaid : Prop := tcpBackUptoRow.holds Try.pinned (OpenSpec.upto tcpBackSpec)

end Rows
end Go.Proofs.Ytdnhoocoofnibaa
