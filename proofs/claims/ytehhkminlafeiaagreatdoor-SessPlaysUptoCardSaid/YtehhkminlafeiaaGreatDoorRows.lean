/-
  NARROWER THAN 'FOR EVERY INPUT', by the rows' own cells (each row's printed sentence says how): SessOnce: laid · SessTurns: laid · SessEnds: laid · SessMakes: laid · SessPlays: laid · SessReplies: laid.
  DERIVED. THE GIVEN ROWS OF THIS SEAT. 6 by the template 'for every input the law returns true; each argument reads behind the call as it read before'; 0 by the template 'total and deterministic' (their statements: YtehhkminlafeiaaGreatDoorTotals.lean).
  GIVEN WITH THE SEED: the statements are not yours to turn. If you find one false, say at which input.
  Laid BY PROGRAM, IN A SANDBOX (cutbox-rows.mjs): the forced cells as the released guide's own fill.sh prints them over the translation 750b7bb25cdab9f7… (all of the seat's roots in one cut). By AI agents, Wed Nov 11 2026. No macro, syntax, notation, axiom, sorry.
-/
import Derived.Test.YtehhkminlafeiaaGreatDoorChecked
import GoSem.PinnedTables
import GoSem.Claim
import GoSem.ClaimJoined
import GoSem.ClaimMapViews
import Derived.JoinedTies
import Derived.KernelRfl
namespace Go.Proofs.YtehhkminlafeiaaGreatDoor
/- THE CELL 'sum', in the pinned program and in every row, IS THE sha256 OF THE DUMP (.gsa) THAT YtehhkminlafeiaaGreatDoorProg.lean LOADS. Nothing in Lean hashes anything: it is a label: what it is worth is what the hold of that sum in a sandbox is worth. -/
noncomputable def Tryz.pinned : Pinned := { name := "ytehhkminlafeiaagreatdoor", sum := "750b7bb25cdab9f716fd8eec2310ded458b6ad7fa0c395d499601ede5e098132", checked := Tryz.checked }
namespace Rows
def none {H : Type} : Left H := { results := [], args := [] }

/- WHAT THE LISTED PACKAGE-LEVEL VARIABLES READ AS WHEN THE CALL BEGINS. Each datum BY PROGRAM (the guide's laid-datum.mjs) off the statement by which the dump's own 'gosem.cut.vars' lays the variable. In a bare row this is a premise. The card (YtehhkminlafeiaaGreatDoorCards.lean) ties it to the program's text. -/
def laid_capstan_sha_rounds {H : Type} : DataW H := .agg [.lit (.int .u32 1116352408), .lit (.int .u32 1899447441), .lit (.int .u32 3049323471), .lit (.int .u32 3921009573), .lit (.int .u32 961987163), .lit (.int .u32 1508970993), .lit (.int .u32 2453635748), .lit (.int .u32 2870763221), .lit (.int .u32 3624381080), .lit (.int .u32 310598401), .lit (.int .u32 607225278), .lit (.int .u32 1426881987), .lit (.int .u32 1925078388), .lit (.int .u32 2162078206), .lit (.int .u32 2614888103), .lit (.int .u32 3248222580), .lit (.int .u32 3835390401), .lit (.int .u32 4022224774), .lit (.int .u32 264347078), .lit (.int .u32 604807628), .lit (.int .u32 770255983), .lit (.int .u32 1249150122), .lit (.int .u32 1555081692), .lit (.int .u32 1996064986), .lit (.int .u32 2554220882), .lit (.int .u32 2821834349), .lit (.int .u32 2952996808), .lit (.int .u32 3210313671), .lit (.int .u32 3336571891), .lit (.int .u32 3584528711), .lit (.int .u32 113926993), .lit (.int .u32 338241895), .lit (.int .u32 666307205), .lit (.int .u32 773529912), .lit (.int .u32 1294757372), .lit (.int .u32 1396182291), .lit (.int .u32 1695183700), .lit (.int .u32 1986661051), .lit (.int .u32 2177026350), .lit (.int .u32 2456956037), .lit (.int .u32 2730485921), .lit (.int .u32 2820302411), .lit (.int .u32 3259730800), .lit (.int .u32 3345764771), .lit (.int .u32 3516065817), .lit (.int .u32 3600352804), .lit (.int .u32 4094571909), .lit (.int .u32 275423344), .lit (.int .u32 430227734), .lit (.int .u32 506948616), .lit (.int .u32 659060556), .lit (.int .u32 883997877), .lit (.int .u32 958139571), .lit (.int .u32 1322822218), .lit (.int .u32 1537002063), .lit (.int .u32 1747873779), .lit (.int .u32 1955562222), .lit (.int .u32 2024104815), .lit (.int .u32 2227730452), .lit (.int .u32 2361852424), .lit (.int .u32 2428436474), .lit (.int .u32 2756734187), .lit (.int .u32 3204031479), .lit (.int .u32 3329325298)]
def laid_capstan_sha_first {H : Type} : DataW H := .agg [.lit (.int .u32 1779033703), .lit (.int .u32 3144134277), .lit (.int .u32 1013904242), .lit (.int .u32 2773480762), .lit (.int .u32 1359893119), .lit (.int .u32 2600822924), .lit (.int .u32 528734635), .lit (.int .u32 1541459225)]
def laid_unicode_utf8_acceptRanges {H : Type} : DataW H := .agg [.agg [.lit (.int .u8 128), .lit (.int .u8 191)], .agg [.lit (.int .u8 160), .lit (.int .u8 191)], .agg [.lit (.int .u8 128), .lit (.int .u8 159)], .agg [.lit (.int .u8 144), .lit (.int .u8 191)], .agg [.lit (.int .u8 128), .lit (.int .u8 143)], .agg [.lit (.int .u8 0), .lit (.int .u8 0)], .agg [.lit (.int .u8 0), .lit (.int .u8 0)], .agg [.lit (.int .u8 0), .lit (.int .u8 0)], .agg [.lit (.int .u8 0), .lit (.int .u8 0)], .agg [.lit (.int .u8 0), .lit (.int .u8 0)], .agg [.lit (.int .u8 0), .lit (.int .u8 0)], .agg [.lit (.int .u8 0), .lit (.int .u8 0)], .agg [.lit (.int .u8 0), .lit (.int .u8 0)], .agg [.lit (.int .u8 0), .lit (.int .u8 0)], .agg [.lit (.int .u8 0), .lit (.int .u8 0)], .agg [.lit (.int .u8 0), .lit (.int .u8 0)]]
def laid_errors_errorType {H : Type} : DataW H := .iface "internal/reflectlite.rtype" (.agg [.ptr (.lit (.string [101, 114, 114, 111, 114]))])
/-- One of Go's own tables, pinned by name: the form's constant. -/
def laid_unicode_utf8_first : DataW Unit := Go.Pinned.utf8First

/-- 'capstanlaw25.SessOnce': WHATEVER THE INPUT: true; the input reads as it did. -/
def sessOnceSpec : ChangeSpec := { name := "sessOnce", fn := fun _ => fun
  | [d1, d2] => { results := [.lit (.bool true)], args := [d1, d2] }
  | _ => none }
def sessOnceRow : OpenClaim := { program := "ytehhkminlafeiaagreatdoor", sum := "750b7bb25cdab9f716fd8eec2310ded458b6ad7fa0c395d499601ede5e098132", func := "capstan/capstanlaw25.SessOnce", spec := "sessOnce", inPlace := ["internal/bytealg.IndexByteString", "internal/bytealg.IndexString", "internal/reflectlite.ValueOf", "(internal/reflectlite.Value).Type", "(internal/reflectlite.Value).IsNil", "internal/reflectlite.TypeOf", "(internal/reflectlite.Value).Elem", "(internal/reflectlite.Value).Set"], unfollowed := true, recurses := true, named := ["unicode/utf8.first", "unicode/utf8.acceptRanges", "capstan/sha.first", "capstan/sha.rounds", "errors.errorType", "internal/bytealg.MaxLen"], apart := false, laid := [("capstan/sha.rounds", laid_capstan_sha_rounds), ("capstan/sha.first", laid_capstan_sha_first), ("unicode/utf8.acceptRanges", laid_unicode_utf8_acceptRanges), ("errors.errorType", laid_errors_errorType), ("unicode/utf8.first", laid_unicode_utf8_first)] }
def SessOnceSaid : Prop := sessOnceRow.holds Tryz.pinned (OpenSpec.ofChange sessOnceSpec)

/-- ITS FALSE NEIGHBOUR: 'it returns false'. Refute it at one input. -/
def sessOnceWrong : ChangeSpec := { name := "sessOnce", fn := fun _ => fun
  | [d1, d2] => { results := [.lit (.bool false)], args := [d1, d2] }
  | _ => none }
def SessOnceWrongFalsely : Prop := sessOnceRow.holds Tryz.pinned (OpenSpec.ofChange sessOnceWrong)

/-- 'capstanlaw25.SessTurns': WHATEVER THE INPUT: true; the input reads as it did. -/
def sessTurnsSpec : ChangeSpec := { name := "sessTurns", fn := fun _ => fun
  | [d1, d2, d3] => { results := [.lit (.bool true)], args := [d1, d2, d3] }
  | _ => none }
def sessTurnsRow : OpenClaim := { program := "ytehhkminlafeiaagreatdoor", sum := "750b7bb25cdab9f716fd8eec2310ded458b6ad7fa0c395d499601ede5e098132", func := "capstan/capstanlaw25.SessTurns", spec := "sessTurns", inPlace := ["internal/bytealg.IndexByteString", "internal/bytealg.IndexString", "internal/reflectlite.ValueOf", "(internal/reflectlite.Value).Type", "(internal/reflectlite.Value).IsNil", "internal/reflectlite.TypeOf", "(internal/reflectlite.Value).Elem", "(internal/reflectlite.Value).Set"], unfollowed := true, recurses := true, named := ["unicode/utf8.first", "unicode/utf8.acceptRanges", "capstan/sha.first", "capstan/sha.rounds", "errors.errorType", "internal/bytealg.MaxLen"], apart := false, laid := [("capstan/sha.rounds", laid_capstan_sha_rounds), ("capstan/sha.first", laid_capstan_sha_first), ("unicode/utf8.acceptRanges", laid_unicode_utf8_acceptRanges), ("errors.errorType", laid_errors_errorType), ("unicode/utf8.first", laid_unicode_utf8_first)] }
def SessTurnsSaid : Prop := sessTurnsRow.holds Tryz.pinned (OpenSpec.ofChange sessTurnsSpec)

/-- ITS FALSE NEIGHBOUR: 'it returns false'. Refute it at one input. -/
def sessTurnsWrong : ChangeSpec := { name := "sessTurns", fn := fun _ => fun
  | [d1, d2, d3] => { results := [.lit (.bool false)], args := [d1, d2, d3] }
  | _ => none }
def SessTurnsWrongFalsely : Prop := sessTurnsRow.holds Tryz.pinned (OpenSpec.ofChange sessTurnsWrong)

/-- 'capstanlaw25.SessEnds': WHATEVER THE INPUT: true; the input reads as it did. -/
def sessEndsSpec : ChangeSpec := { name := "sessEnds", fn := fun _ => fun
  | [d1, d2] => { results := [.lit (.bool true)], args := [d1, d2] }
  | _ => none }
def sessEndsRow : OpenClaim := { program := "ytehhkminlafeiaagreatdoor", sum := "750b7bb25cdab9f716fd8eec2310ded458b6ad7fa0c395d499601ede5e098132", func := "capstan/capstanlaw25.SessEnds", spec := "sessEnds", inPlace := ["internal/bytealg.IndexByteString", "internal/bytealg.IndexString", "internal/reflectlite.ValueOf", "(internal/reflectlite.Value).Type", "(internal/reflectlite.Value).IsNil", "internal/reflectlite.TypeOf", "(internal/reflectlite.Value).Elem", "(internal/reflectlite.Value).Set"], unfollowed := true, recurses := true, named := ["unicode/utf8.first", "unicode/utf8.acceptRanges", "capstan/sha.first", "capstan/sha.rounds", "errors.errorType", "internal/bytealg.MaxLen"], apart := false, laid := [("capstan/sha.rounds", laid_capstan_sha_rounds), ("capstan/sha.first", laid_capstan_sha_first), ("unicode/utf8.acceptRanges", laid_unicode_utf8_acceptRanges), ("errors.errorType", laid_errors_errorType), ("unicode/utf8.first", laid_unicode_utf8_first)] }
def SessEndsSaid : Prop := sessEndsRow.holds Tryz.pinned (OpenSpec.ofChange sessEndsSpec)

/-- ITS FALSE NEIGHBOUR: 'it returns false'. Refute it at one input. -/
def sessEndsWrong : ChangeSpec := { name := "sessEnds", fn := fun _ => fun
  | [d1, d2] => { results := [.lit (.bool false)], args := [d1, d2] }
  | _ => none }
def SessEndsWrongFalsely : Prop := sessEndsRow.holds Tryz.pinned (OpenSpec.ofChange sessEndsWrong)

/-- 'capstanlaw25.SessMakes': WHATEVER THE INPUT: true; the input reads as it did. -/
def sessMakesSpec : ChangeSpec := { name := "sessMakes", fn := fun _ => fun
  | [d1, d2, d3] => { results := [.lit (.bool true)], args := [d1, d2, d3] }
  | _ => none }
def sessMakesRow : OpenClaim := { program := "ytehhkminlafeiaagreatdoor", sum := "750b7bb25cdab9f716fd8eec2310ded458b6ad7fa0c395d499601ede5e098132", func := "capstan/capstanlaw25.SessMakes", spec := "sessMakes", inPlace := ["internal/reflectlite.ValueOf", "(internal/reflectlite.Value).Type", "(internal/reflectlite.Value).IsNil", "internal/reflectlite.TypeOf", "(internal/reflectlite.Value).Elem", "(internal/reflectlite.Value).Set", "internal/bytealg.IndexByteString", "internal/bytealg.IndexString"], unfollowed := true, recurses := true, named := ["capstan/sha.first", "capstan/sha.rounds", "errors.errorType", "unicode/utf8.first", "unicode/utf8.acceptRanges", "internal/bytealg.MaxLen"], apart := false, laid := [("capstan/sha.rounds", laid_capstan_sha_rounds), ("capstan/sha.first", laid_capstan_sha_first), ("unicode/utf8.acceptRanges", laid_unicode_utf8_acceptRanges), ("errors.errorType", laid_errors_errorType), ("unicode/utf8.first", laid_unicode_utf8_first)] }
def SessMakesSaid : Prop := sessMakesRow.holds Tryz.pinned (OpenSpec.ofChange sessMakesSpec)

/-- ITS FALSE NEIGHBOUR: 'it returns false'. Refute it at one input. -/
def sessMakesWrong : ChangeSpec := { name := "sessMakes", fn := fun _ => fun
  | [d1, d2, d3] => { results := [.lit (.bool false)], args := [d1, d2, d3] }
  | _ => none }
def SessMakesWrongFalsely : Prop := sessMakesRow.holds Tryz.pinned (OpenSpec.ofChange sessMakesWrong)

/-- 'capstanlaw25.SessPlays': WHATEVER THE INPUT: true; the input reads as it did. -/
def sessPlaysSpec : ChangeSpec := { name := "sessPlays", fn := fun _ => fun
  | [d1, d2] => { results := [.lit (.bool true)], args := [d1, d2] }
  | _ => none }
def sessPlaysRow : OpenClaim := { program := "ytehhkminlafeiaagreatdoor", sum := "750b7bb25cdab9f716fd8eec2310ded458b6ad7fa0c395d499601ede5e098132", func := "capstan/capstanlaw25.SessPlays", spec := "sessPlays", inPlace := ["internal/bytealg.IndexByteString", "internal/bytealg.IndexString", "internal/reflectlite.ValueOf", "(internal/reflectlite.Value).Type", "(internal/reflectlite.Value).IsNil", "internal/reflectlite.TypeOf", "(internal/reflectlite.Value).Elem", "(internal/reflectlite.Value).Set"], unfollowed := true, recurses := true, named := ["unicode/utf8.first", "unicode/utf8.acceptRanges", "capstan/sha.first", "capstan/sha.rounds", "errors.errorType", "internal/bytealg.MaxLen"], apart := false, laid := [("capstan/sha.rounds", laid_capstan_sha_rounds), ("capstan/sha.first", laid_capstan_sha_first), ("unicode/utf8.acceptRanges", laid_unicode_utf8_acceptRanges), ("errors.errorType", laid_errors_errorType), ("unicode/utf8.first", laid_unicode_utf8_first)] }
def SessPlaysSaid : Prop := sessPlaysRow.holds Tryz.pinned (OpenSpec.ofChange sessPlaysSpec)

/-- ITS FALSE NEIGHBOUR: 'it returns false'. Refute it at one input. -/
def sessPlaysWrong : ChangeSpec := { name := "sessPlays", fn := fun _ => fun
  | [d1, d2] => { results := [.lit (.bool false)], args := [d1, d2] }
  | _ => none }
def SessPlaysWrongFalsely : Prop := sessPlaysRow.holds Tryz.pinned (OpenSpec.ofChange sessPlaysWrong)

/-- 'capstanlaw25.SessReplies': WHATEVER THE INPUT: true; the input reads as it did. -/
def sessRepliesSpec : ChangeSpec := { name := "sessReplies", fn := fun _ => fun
  | [d1, d2] => { results := [.lit (.bool true)], args := [d1, d2] }
  | _ => none }
def sessRepliesRow : OpenClaim := { program := "ytehhkminlafeiaagreatdoor", sum := "750b7bb25cdab9f716fd8eec2310ded458b6ad7fa0c395d499601ede5e098132", func := "capstan/capstanlaw25.SessReplies", spec := "sessReplies", inPlace := ["internal/bytealg.IndexByteString", "internal/bytealg.IndexString", "internal/reflectlite.ValueOf", "(internal/reflectlite.Value).Type", "(internal/reflectlite.Value).IsNil", "internal/reflectlite.TypeOf", "(internal/reflectlite.Value).Elem", "(internal/reflectlite.Value).Set"], unfollowed := true, recurses := true, named := ["unicode/utf8.first", "unicode/utf8.acceptRanges", "capstan/sha.first", "capstan/sha.rounds", "errors.errorType", "internal/bytealg.MaxLen"], apart := false, laid := [("capstan/sha.rounds", laid_capstan_sha_rounds), ("capstan/sha.first", laid_capstan_sha_first), ("unicode/utf8.acceptRanges", laid_unicode_utf8_acceptRanges), ("errors.errorType", laid_errors_errorType), ("unicode/utf8.first", laid_unicode_utf8_first)] }
def SessRepliesSaid : Prop := sessRepliesRow.holds Tryz.pinned (OpenSpec.ofChange sessRepliesSpec)

/-- ITS FALSE NEIGHBOUR: 'it returns false'. Refute it at one input. -/
def sessRepliesWrong : ChangeSpec := { name := "sessReplies", fn := fun _ => fun
  | [d1, d2] => { results := [.lit (.bool false)], args := [d1, d2] }
  | _ => none }
def SessRepliesWrongFalsely : Prop := sessRepliesRow.holds Tryz.pinned (OpenSpec.ofChange sessRepliesWrong)

/- THE SECOND FORM. 'bulk': how many values and letters a reading holds, each counted each time it is reached (what is shared counts as often as it is met; a slice's spare places count too). A statement '..UptoSaid' is the law's where the arguments, and the package variables that the reading takes, are together of bulk at most 1048576: NARROWER than '..Said'. Prove '..Said' where nothing that the law and all that it calls make is longer than what came in: it says more and counts as full. Else prove '..UptoSaid'. A law counts once. -/
mutual
def uptoBulk {H : Type} : DataW H → Nat
  | .lit (.string bytes) => bytes.length + 1
  | .lit _ => 1
  | .nil => 1
  | .ptr d => uptoBulk d + 1
  | .slice elems spare => uptoBulkAll elems + uptoBulkAll spare + 1
  | .agg parts => uptoBulkAll parts + 1
  | .iface _ d => uptoBulk d + 1
  | .map entries => uptoBulkEntries entries + 1
  | .held _ => 1
def uptoBulkAll {H : Type} : List (DataW H) → Nat
  | [] => 0
  | d :: r => uptoBulk d + uptoBulkAll r
def uptoBulkEntries {H : Type} : List (Lit × DataW H) → Nat
  | [] => 0
  | x :: r => uptoBulkEntry x + uptoBulkEntries r
def uptoBulkEntry {H : Type} : Lit × DataW H → Nat
  | (.string bytes, d) => bytes.length + uptoBulk d + 1
  | (_, d) => uptoBulk d + 1
 end
def uptoSmall : (H : Type) → List (DataW H) → Bool := fun _ ds => decide (uptoBulkAll ds ≤ 1048576)
def OpenSpec.upto (s : _root_.Go.ChangeSpec) : _root_.Go.OpenSpec := { _root_.Go.OpenSpec.ofChange s with cond := some uptoSmall }

/-- 'capstanlaw25.SessOnce', WHERE WHAT IT READS IS OF BULK AT MOST 1048576: true; the input reads as it did. -/
def sessOnceUptoRow : OpenClaim := { program := "ytehhkminlafeiaagreatdoor", sum := "750b7bb25cdab9f716fd8eec2310ded458b6ad7fa0c395d499601ede5e098132", func := "capstan/capstanlaw25.SessOnce", spec := "sessOnce", inPlace := ["internal/bytealg.IndexByteString", "internal/bytealg.IndexString", "internal/reflectlite.ValueOf", "(internal/reflectlite.Value).Type", "(internal/reflectlite.Value).IsNil", "internal/reflectlite.TypeOf", "(internal/reflectlite.Value).Elem", "(internal/reflectlite.Value).Set"], unfollowed := true, recurses := true, named := ["unicode/utf8.first", "unicode/utf8.acceptRanges", "capstan/sha.first", "capstan/sha.rounds", "errors.errorType", "internal/bytealg.MaxLen"], apart := false, laid := [("capstan/sha.rounds", laid_capstan_sha_rounds), ("capstan/sha.first", laid_capstan_sha_first), ("unicode/utf8.acceptRanges", laid_unicode_utf8_acceptRanges), ("errors.errorType", laid_errors_errorType), ("unicode/utf8.first", laid_unicode_utf8_first)], narrowed := true }
def SessOnceUptoSaid : Prop := sessOnceUptoRow.holds Tryz.pinned (OpenSpec.upto sessOnceSpec)

/-- 'capstanlaw25.SessTurns', WHERE WHAT IT READS IS OF BULK AT MOST 1048576: true; the input reads as it did. -/
def sessTurnsUptoRow : OpenClaim := { program := "ytehhkminlafeiaagreatdoor", sum := "750b7bb25cdab9f716fd8eec2310ded458b6ad7fa0c395d499601ede5e098132", func := "capstan/capstanlaw25.SessTurns", spec := "sessTurns", inPlace := ["internal/bytealg.IndexByteString", "internal/bytealg.IndexString", "internal/reflectlite.ValueOf", "(internal/reflectlite.Value).Type", "(internal/reflectlite.Value).IsNil", "internal/reflectlite.TypeOf", "(internal/reflectlite.Value).Elem", "(internal/reflectlite.Value).Set"], unfollowed := true, recurses := true, named := ["unicode/utf8.first", "unicode/utf8.acceptRanges", "capstan/sha.first", "capstan/sha.rounds", "errors.errorType", "internal/bytealg.MaxLen"], apart := false, laid := [("capstan/sha.rounds", laid_capstan_sha_rounds), ("capstan/sha.first", laid_capstan_sha_first), ("unicode/utf8.acceptRanges", laid_unicode_utf8_acceptRanges), ("errors.errorType", laid_errors_errorType), ("unicode/utf8.first", laid_unicode_utf8_first)], narrowed := true }
def SessTurnsUptoSaid : Prop := sessTurnsUptoRow.holds Tryz.pinned (OpenSpec.upto sessTurnsSpec)

/-- 'capstanlaw25.SessEnds', WHERE WHAT IT READS IS OF BULK AT MOST 1048576: true; the input reads as it did. -/
def sessEndsUptoRow : OpenClaim := { program := "ytehhkminlafeiaagreatdoor", sum := "750b7bb25cdab9f716fd8eec2310ded458b6ad7fa0c395d499601ede5e098132", func := "capstan/capstanlaw25.SessEnds", spec := "sessEnds", inPlace := ["internal/bytealg.IndexByteString", "internal/bytealg.IndexString", "internal/reflectlite.ValueOf", "(internal/reflectlite.Value).Type", "(internal/reflectlite.Value).IsNil", "internal/reflectlite.TypeOf", "(internal/reflectlite.Value).Elem", "(internal/reflectlite.Value).Set"], unfollowed := true, recurses := true, named := ["unicode/utf8.first", "unicode/utf8.acceptRanges", "capstan/sha.first", "capstan/sha.rounds", "errors.errorType", "internal/bytealg.MaxLen"], apart := false, laid := [("capstan/sha.rounds", laid_capstan_sha_rounds), ("capstan/sha.first", laid_capstan_sha_first), ("unicode/utf8.acceptRanges", laid_unicode_utf8_acceptRanges), ("errors.errorType", laid_errors_errorType), ("unicode/utf8.first", laid_unicode_utf8_first)], narrowed := true }
def SessEndsUptoSaid : Prop := sessEndsUptoRow.holds Tryz.pinned (OpenSpec.upto sessEndsSpec)

/-- 'capstanlaw25.SessMakes', WHERE WHAT IT READS IS OF BULK AT MOST 1048576: true; the input reads as it did. -/
def sessMakesUptoRow : OpenClaim := { program := "ytehhkminlafeiaagreatdoor", sum := "750b7bb25cdab9f716fd8eec2310ded458b6ad7fa0c395d499601ede5e098132", func := "capstan/capstanlaw25.SessMakes", spec := "sessMakes", inPlace := ["internal/reflectlite.ValueOf", "(internal/reflectlite.Value).Type", "(internal/reflectlite.Value).IsNil", "internal/reflectlite.TypeOf", "(internal/reflectlite.Value).Elem", "(internal/reflectlite.Value).Set", "internal/bytealg.IndexByteString", "internal/bytealg.IndexString"], unfollowed := true, recurses := true, named := ["capstan/sha.first", "capstan/sha.rounds", "errors.errorType", "unicode/utf8.first", "unicode/utf8.acceptRanges", "internal/bytealg.MaxLen"], apart := false, laid := [("capstan/sha.rounds", laid_capstan_sha_rounds), ("capstan/sha.first", laid_capstan_sha_first), ("unicode/utf8.acceptRanges", laid_unicode_utf8_acceptRanges), ("errors.errorType", laid_errors_errorType), ("unicode/utf8.first", laid_unicode_utf8_first)], narrowed := true }
def SessMakesUptoSaid : Prop := sessMakesUptoRow.holds Tryz.pinned (OpenSpec.upto sessMakesSpec)

/-- 'capstanlaw25.SessPlays', WHERE WHAT IT READS IS OF BULK AT MOST 1048576: true; the input reads as it did. -/
def sessPlaysUptoRow : OpenClaim := { program := "ytehhkminlafeiaagreatdoor", sum := "750b7bb25cdab9f716fd8eec2310ded458b6ad7fa0c395d499601ede5e098132", func := "capstan/capstanlaw25.SessPlays", spec := "sessPlays", inPlace := ["internal/bytealg.IndexByteString", "internal/bytealg.IndexString", "internal/reflectlite.ValueOf", "(internal/reflectlite.Value).Type", "(internal/reflectlite.Value).IsNil", "internal/reflectlite.TypeOf", "(internal/reflectlite.Value).Elem", "(internal/reflectlite.Value).Set"], unfollowed := true, recurses := true, named := ["unicode/utf8.first", "unicode/utf8.acceptRanges", "capstan/sha.first", "capstan/sha.rounds", "errors.errorType", "internal/bytealg.MaxLen"], apart := false, laid := [("capstan/sha.rounds", laid_capstan_sha_rounds), ("capstan/sha.first", laid_capstan_sha_first), ("unicode/utf8.acceptRanges", laid_unicode_utf8_acceptRanges), ("errors.errorType", laid_errors_errorType), ("unicode/utf8.first", laid_unicode_utf8_first)], narrowed := true }
def SessPlaysUptoSaid : Prop := sessPlaysUptoRow.holds Tryz.pinned (OpenSpec.upto sessPlaysSpec)

/-- 'capstanlaw25.SessReplies', WHERE WHAT IT READS IS OF BULK AT MOST 1048576: true; the input reads as it did. -/
def sessRepliesUptoRow : OpenClaim := { program := "ytehhkminlafeiaagreatdoor", sum := "750b7bb25cdab9f716fd8eec2310ded458b6ad7fa0c395d499601ede5e098132", func := "capstan/capstanlaw25.SessReplies", spec := "sessReplies", inPlace := ["internal/bytealg.IndexByteString", "internal/bytealg.IndexString", "internal/reflectlite.ValueOf", "(internal/reflectlite.Value).Type", "(internal/reflectlite.Value).IsNil", "internal/reflectlite.TypeOf", "(internal/reflectlite.Value).Elem", "(internal/reflectlite.Value).Set"], unfollowed := true, recurses := true, named := ["unicode/utf8.first", "unicode/utf8.acceptRanges", "capstan/sha.first", "capstan/sha.rounds", "errors.errorType", "internal/bytealg.MaxLen"], apart := false, laid := [("capstan/sha.rounds", laid_capstan_sha_rounds), ("capstan/sha.first", laid_capstan_sha_first), ("unicode/utf8.acceptRanges", laid_unicode_utf8_acceptRanges), ("errors.errorType", laid_errors_errorType), ("unicode/utf8.first", laid_unicode_utf8_first)], narrowed := true }
def SessRepliesUptoSaid : Prop := sessRepliesUptoRow.holds Tryz.pinned (OpenSpec.upto sessRepliesSpec)

end Rows
end Go.Proofs.YtehhkminlafeiaaGreatDoor
