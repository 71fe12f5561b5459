/-
  NARROWER THAN 'FOR EVERY INPUT', by the rows' own cells (each row's printed sentence says how): ShaSums: laid · ShaLong: laid · ShaPieces: laid · ShaBytes: laid · MacKeys: laid · MacTags: laid · MacSeals: laid · MacBack: laid · MacTurns: laid.
  DERIVED. THE GIVEN ROWS OF THIS SEAT. 9 by the template 'for every input the law returns true; each argument reads behind the call as it read before'; 0 by the template 'total and deterministic' (their statements: YtjicmjniddbllaaDoorTotals.lean).
  GIVEN WITH THE SEED: the statements are not yours to turn. If you find one false, say at which input.
  Laid BY PROGRAM, IN A SANDBOX (cutbox-rows.mjs): the forced cells as the released guide's own fill.sh prints them over the translation 6d45d750a7689c29… (all of the seat's roots in one cut). By AI agents, Wed Nov 11 2026. No macro, syntax, notation, axiom, sorry.
-/
import Derived.Test.YtjicmjniddbllaaDoorChecked
import GoSem.Claim
import GoSem.ClaimJoined
import GoSem.ClaimMapViews
import Derived.JoinedTies
import Derived.KernelRfl
namespace Go.Proofs.YtjicmjniddbllaaDoor
/- THE CELL 'sum', in the pinned program and in every row, IS THE sha256 OF THE DUMP (.gsa) THAT YtjicmjniddbllaaDoorProg.lean LOADS. Nothing in Lean hashes anything: it is a label: what it is worth is what the hold of that sum in a sandbox is worth. -/
noncomputable def Tryd.pinned : Pinned := { name := "ytjicmjniddbllaadoor", sum := "6d45d750a7689c29cfd4a488e2eb5b7cf94dce92e7278909ff3569af1712901c", checked := Tryd.checked }
namespace Rows
def none {H : Type} : Left H := { results := [], args := [] }

/- WHAT THE LISTED PACKAGE-LEVEL VARIABLES READ AS WHEN THE CALL BEGINS. Each datum BY PROGRAM (the guide's laid-datum.mjs) off the statement by which the dump's own 'gosem.cut.vars' lays the variable. In a bare row this is a premise. The card (YtjicmjniddbllaaDoorCards.lean) ties it to the program's text. -/
def laid_capstan_sha_rounds {H : Type} : DataW H := .agg [.lit (.int .u32 1116352408), .lit (.int .u32 1899447441), .lit (.int .u32 3049323471), .lit (.int .u32 3921009573), .lit (.int .u32 961987163), .lit (.int .u32 1508970993), .lit (.int .u32 2453635748), .lit (.int .u32 2870763221), .lit (.int .u32 3624381080), .lit (.int .u32 310598401), .lit (.int .u32 607225278), .lit (.int .u32 1426881987), .lit (.int .u32 1925078388), .lit (.int .u32 2162078206), .lit (.int .u32 2614888103), .lit (.int .u32 3248222580), .lit (.int .u32 3835390401), .lit (.int .u32 4022224774), .lit (.int .u32 264347078), .lit (.int .u32 604807628), .lit (.int .u32 770255983), .lit (.int .u32 1249150122), .lit (.int .u32 1555081692), .lit (.int .u32 1996064986), .lit (.int .u32 2554220882), .lit (.int .u32 2821834349), .lit (.int .u32 2952996808), .lit (.int .u32 3210313671), .lit (.int .u32 3336571891), .lit (.int .u32 3584528711), .lit (.int .u32 113926993), .lit (.int .u32 338241895), .lit (.int .u32 666307205), .lit (.int .u32 773529912), .lit (.int .u32 1294757372), .lit (.int .u32 1396182291), .lit (.int .u32 1695183700), .lit (.int .u32 1986661051), .lit (.int .u32 2177026350), .lit (.int .u32 2456956037), .lit (.int .u32 2730485921), .lit (.int .u32 2820302411), .lit (.int .u32 3259730800), .lit (.int .u32 3345764771), .lit (.int .u32 3516065817), .lit (.int .u32 3600352804), .lit (.int .u32 4094571909), .lit (.int .u32 275423344), .lit (.int .u32 430227734), .lit (.int .u32 506948616), .lit (.int .u32 659060556), .lit (.int .u32 883997877), .lit (.int .u32 958139571), .lit (.int .u32 1322822218), .lit (.int .u32 1537002063), .lit (.int .u32 1747873779), .lit (.int .u32 1955562222), .lit (.int .u32 2024104815), .lit (.int .u32 2227730452), .lit (.int .u32 2361852424), .lit (.int .u32 2428436474), .lit (.int .u32 2756734187), .lit (.int .u32 3204031479), .lit (.int .u32 3329325298)]
def laid_capstan_sha_first {H : Type} : DataW H := .agg [.lit (.int .u32 1779033703), .lit (.int .u32 3144134277), .lit (.int .u32 1013904242), .lit (.int .u32 2773480762), .lit (.int .u32 1359893119), .lit (.int .u32 2600822924), .lit (.int .u32 528734635), .lit (.int .u32 1541459225)]

/-- 'capstanlaw01.ShaSums': WHATEVER THE INPUT: true; the input reads as it did. -/
def shaSumsSpec : ChangeSpec := { name := "shaSums", fn := fun _ => fun
  | [d] => { results := [.lit (.bool true)], args := [d] }
  | _ => none }
def shaSumsRow : OpenClaim := { program := "ytjicmjniddbllaadoor", sum := "6d45d750a7689c29cfd4a488e2eb5b7cf94dce92e7278909ff3569af1712901c", func := "capstan/capstanlaw01.ShaSums", spec := "shaSums", named := ["capstan/sha.first", "capstan/sha.rounds"], apart := false, laid := [("capstan/sha.rounds", laid_capstan_sha_rounds), ("capstan/sha.first", laid_capstan_sha_first)] }
def ShaSumsSaid : Prop := shaSumsRow.holds Tryd.pinned (OpenSpec.ofChange shaSumsSpec)

/-- ITS FALSE NEIGHBOUR: 'it returns false'. Refute it at one input. -/
def shaSumsWrong : ChangeSpec := { name := "shaSums", fn := fun _ => fun
  | [d] => { results := [.lit (.bool false)], args := [d] }
  | _ => none }
def ShaSumsWrongFalsely : Prop := shaSumsRow.holds Tryd.pinned (OpenSpec.ofChange shaSumsWrong)

/-- 'capstanlaw01.ShaLong': WHATEVER THE INPUT: true; the input reads as it did. -/
def shaLongSpec : ChangeSpec := { name := "shaLong", fn := fun _ => fun
  | [d] => { results := [.lit (.bool true)], args := [d] }
  | _ => none }
def shaLongRow : OpenClaim := { program := "ytjicmjniddbllaadoor", sum := "6d45d750a7689c29cfd4a488e2eb5b7cf94dce92e7278909ff3569af1712901c", func := "capstan/capstanlaw01.ShaLong", spec := "shaLong", named := ["capstan/sha.first", "capstan/sha.rounds"], apart := false, laid := [("capstan/sha.rounds", laid_capstan_sha_rounds), ("capstan/sha.first", laid_capstan_sha_first)] }
def ShaLongSaid : Prop := shaLongRow.holds Tryd.pinned (OpenSpec.ofChange shaLongSpec)

/-- ITS FALSE NEIGHBOUR: 'it returns false'. Refute it at one input. -/
def shaLongWrong : ChangeSpec := { name := "shaLong", fn := fun _ => fun
  | [d] => { results := [.lit (.bool false)], args := [d] }
  | _ => none }
def ShaLongWrongFalsely : Prop := shaLongRow.holds Tryd.pinned (OpenSpec.ofChange shaLongWrong)

/-- 'capstanlaw01.ShaPieces': WHATEVER THE INPUT: true; the input reads as it did. -/
def shaPiecesSpec : ChangeSpec := { name := "shaPieces", fn := fun _ => fun
  | [d1, d2] => { results := [.lit (.bool true)], args := [d1, d2] }
  | _ => none }
def shaPiecesRow : OpenClaim := { program := "ytjicmjniddbllaadoor", sum := "6d45d750a7689c29cfd4a488e2eb5b7cf94dce92e7278909ff3569af1712901c", func := "capstan/capstanlaw01.ShaPieces", spec := "shaPieces", named := ["capstan/sha.first", "capstan/sha.rounds"], apart := false, laid := [("capstan/sha.rounds", laid_capstan_sha_rounds), ("capstan/sha.first", laid_capstan_sha_first)] }
def ShaPiecesSaid : Prop := shaPiecesRow.holds Tryd.pinned (OpenSpec.ofChange shaPiecesSpec)

/-- ITS FALSE NEIGHBOUR: 'it returns false'. Refute it at one input. -/
def shaPiecesWrong : ChangeSpec := { name := "shaPieces", fn := fun _ => fun
  | [d1, d2] => { results := [.lit (.bool false)], args := [d1, d2] }
  | _ => none }
def ShaPiecesWrongFalsely : Prop := shaPiecesRow.holds Tryd.pinned (OpenSpec.ofChange shaPiecesWrong)

/-- 'capstanlaw01.ShaBytes': WHATEVER THE INPUT: true; the input reads as it did. -/
def shaBytesSpec : ChangeSpec := { name := "shaBytes", fn := fun _ => fun
  | [d1, d2] => { results := [.lit (.bool true)], args := [d1, d2] }
  | _ => none }
def shaBytesRow : OpenClaim := { program := "ytjicmjniddbllaadoor", sum := "6d45d750a7689c29cfd4a488e2eb5b7cf94dce92e7278909ff3569af1712901c", func := "capstan/capstanlaw01.ShaBytes", spec := "shaBytes", named := ["capstan/sha.first", "capstan/sha.rounds"], apart := false, laid := [("capstan/sha.rounds", laid_capstan_sha_rounds), ("capstan/sha.first", laid_capstan_sha_first)] }
def ShaBytesSaid : Prop := shaBytesRow.holds Tryd.pinned (OpenSpec.ofChange shaBytesSpec)

/-- ITS FALSE NEIGHBOUR: 'it returns false'. Refute it at one input. -/
def shaBytesWrong : ChangeSpec := { name := "shaBytes", fn := fun _ => fun
  | [d1, d2] => { results := [.lit (.bool false)], args := [d1, d2] }
  | _ => none }
def ShaBytesWrongFalsely : Prop := shaBytesRow.holds Tryd.pinned (OpenSpec.ofChange shaBytesWrong)

/-- 'capstanlaw02.MacKeys': WHATEVER THE INPUT: true; the input reads as it did. -/
def macKeysSpec : ChangeSpec := { name := "macKeys", fn := fun _ => fun
  | [d1, d2, d3] => { results := [.lit (.bool true)], args := [d1, d2, d3] }
  | _ => none }
def macKeysRow : OpenClaim := { program := "ytjicmjniddbllaadoor", sum := "6d45d750a7689c29cfd4a488e2eb5b7cf94dce92e7278909ff3569af1712901c", func := "capstan/capstanlaw02.MacKeys", spec := "macKeys", unfollowed := true, recurses := true, named := ["capstan/sha.first", "capstan/sha.rounds"], apart := false, laid := [("capstan/sha.rounds", laid_capstan_sha_rounds), ("capstan/sha.first", laid_capstan_sha_first)] }
def MacKeysSaid : Prop := macKeysRow.holds Tryd.pinned (OpenSpec.ofChange macKeysSpec)

/-- ITS FALSE NEIGHBOUR: 'it returns false'. Refute it at one input. -/
def macKeysWrong : ChangeSpec := { name := "macKeys", fn := fun _ => fun
  | [d1, d2, d3] => { results := [.lit (.bool false)], args := [d1, d2, d3] }
  | _ => none }
def MacKeysWrongFalsely : Prop := macKeysRow.holds Tryd.pinned (OpenSpec.ofChange macKeysWrong)

/-- 'capstanlaw02.MacTags': WHATEVER THE INPUT: true; the input reads as it did. -/
def macTagsSpec : ChangeSpec := { name := "macTags", fn := fun _ => fun
  | [d1, d2, d3] => { results := [.lit (.bool true)], args := [d1, d2, d3] }
  | _ => none }
def macTagsRow : OpenClaim := { program := "ytjicmjniddbllaadoor", sum := "6d45d750a7689c29cfd4a488e2eb5b7cf94dce92e7278909ff3569af1712901c", func := "capstan/capstanlaw02.MacTags", spec := "macTags", unfollowed := true, recurses := true, named := ["capstan/sha.first", "capstan/sha.rounds"], apart := false, laid := [("capstan/sha.rounds", laid_capstan_sha_rounds), ("capstan/sha.first", laid_capstan_sha_first)] }
def MacTagsSaid : Prop := macTagsRow.holds Tryd.pinned (OpenSpec.ofChange macTagsSpec)

/-- ITS FALSE NEIGHBOUR: 'it returns false'. Refute it at one input. -/
def macTagsWrong : ChangeSpec := { name := "macTags", fn := fun _ => fun
  | [d1, d2, d3] => { results := [.lit (.bool false)], args := [d1, d2, d3] }
  | _ => none }
def MacTagsWrongFalsely : Prop := macTagsRow.holds Tryd.pinned (OpenSpec.ofChange macTagsWrong)

/-- 'capstanlaw02.MacSeals': WHATEVER THE INPUT: true; the input reads as it did. -/
def macSealsSpec : ChangeSpec := { name := "macSeals", fn := fun _ => fun
  | [d1, d2, d3] => { results := [.lit (.bool true)], args := [d1, d2, d3] }
  | _ => none }
def macSealsRow : OpenClaim := { program := "ytjicmjniddbllaadoor", sum := "6d45d750a7689c29cfd4a488e2eb5b7cf94dce92e7278909ff3569af1712901c", func := "capstan/capstanlaw02.MacSeals", spec := "macSeals", unfollowed := true, recurses := true, named := ["capstan/sha.first", "capstan/sha.rounds"], apart := false, laid := [("capstan/sha.rounds", laid_capstan_sha_rounds), ("capstan/sha.first", laid_capstan_sha_first)] }
def MacSealsSaid : Prop := macSealsRow.holds Tryd.pinned (OpenSpec.ofChange macSealsSpec)

/-- ITS FALSE NEIGHBOUR: 'it returns false'. Refute it at one input. -/
def macSealsWrong : ChangeSpec := { name := "macSeals", fn := fun _ => fun
  | [d1, d2, d3] => { results := [.lit (.bool false)], args := [d1, d2, d3] }
  | _ => none }
def MacSealsWrongFalsely : Prop := macSealsRow.holds Tryd.pinned (OpenSpec.ofChange macSealsWrong)

/-- 'capstanlaw02.MacBack': WHATEVER THE INPUT: true; the input reads as it did. -/
def macBackSpec : ChangeSpec := { name := "macBack", fn := fun _ => fun
  | [d1, d2, d3] => { results := [.lit (.bool true)], args := [d1, d2, d3] }
  | _ => none }
def macBackRow : OpenClaim := { program := "ytjicmjniddbllaadoor", sum := "6d45d750a7689c29cfd4a488e2eb5b7cf94dce92e7278909ff3569af1712901c", func := "capstan/capstanlaw02.MacBack", spec := "macBack", unfollowed := true, recurses := true, named := ["capstan/sha.first", "capstan/sha.rounds"], apart := false, laid := [("capstan/sha.rounds", laid_capstan_sha_rounds), ("capstan/sha.first", laid_capstan_sha_first)] }
def MacBackSaid : Prop := macBackRow.holds Tryd.pinned (OpenSpec.ofChange macBackSpec)

/-- ITS FALSE NEIGHBOUR: 'it returns false'. Refute it at one input. -/
def macBackWrong : ChangeSpec := { name := "macBack", fn := fun _ => fun
  | [d1, d2, d3] => { results := [.lit (.bool false)], args := [d1, d2, d3] }
  | _ => none }
def MacBackWrongFalsely : Prop := macBackRow.holds Tryd.pinned (OpenSpec.ofChange macBackWrong)

/-- 'capstanlaw02.MacTurns': WHATEVER THE INPUT: true; the input reads as it did. -/
def macTurnsSpec : ChangeSpec := { name := "macTurns", fn := fun _ => fun
  | [d1, d2, d3] => { results := [.lit (.bool true)], args := [d1, d2, d3] }
  | _ => none }
def macTurnsRow : OpenClaim := { program := "ytjicmjniddbllaadoor", sum := "6d45d750a7689c29cfd4a488e2eb5b7cf94dce92e7278909ff3569af1712901c", func := "capstan/capstanlaw02.MacTurns", spec := "macTurns", unfollowed := true, recurses := true, named := ["capstan/sha.first", "capstan/sha.rounds"], apart := false, laid := [("capstan/sha.rounds", laid_capstan_sha_rounds), ("capstan/sha.first", laid_capstan_sha_first)] }
def MacTurnsSaid : Prop := macTurnsRow.holds Tryd.pinned (OpenSpec.ofChange macTurnsSpec)

/-- ITS FALSE NEIGHBOUR: 'it returns false'. Refute it at one input. -/
def macTurnsWrong : ChangeSpec := { name := "macTurns", fn := fun _ => fun
  | [d1, d2, d3] => { results := [.lit (.bool false)], args := [d1, d2, d3] }
  | _ => none }
def MacTurnsWrongFalsely : Prop := macTurnsRow.holds Tryd.pinned (OpenSpec.ofChange macTurnsWrong)

/- THE SECOND FORM. 'bulk': how many values and letters a reading holds, each counted each time it is reached (what is shared counts as often as it is met; a slice's spare places count too). A statement '..UptoSaid' is the law's where the arguments, and the package variables that the reading takes, are together of bulk at most 1048576: NARROWER than '..Said'. Prove '..Said' where nothing that the law and all that it calls make is longer than what came in: it says more and counts as full. Else prove '..UptoSaid'. A law counts once. -/
mutual
def uptoBulk {H : Type} : DataW H → Nat
  | .lit (.string bytes) => bytes.length + 1
  | .lit _ => 1
  | .nil => 1
  | .ptr d => uptoBulk d + 1
  | .slice elems spare => uptoBulkAll elems + uptoBulkAll spare + 1
  | .agg parts => uptoBulkAll parts + 1
  | .iface _ d => uptoBulk d + 1
  | .map entries => uptoBulkEntries entries + 1
  | .held _ => 1
def uptoBulkAll {H : Type} : List (DataW H) → Nat
  | [] => 0
  | d :: r => uptoBulk d + uptoBulkAll r
def uptoBulkEntries {H : Type} : List (Lit × DataW H) → Nat
  | [] => 0
  | x :: r => uptoBulkEntry x + uptoBulkEntries r
def uptoBulkEntry {H : Type} : Lit × DataW H → Nat
  | (.string bytes, d) => bytes.length + uptoBulk d + 1
  | (_, d) => uptoBulk d + 1
 end
def uptoSmall : (H : Type) → List (DataW H) → Bool := fun _ ds => decide (uptoBulkAll ds ≤ 1048576)
def OpenSpec.upto (s : _root_.Go.ChangeSpec) : _root_.Go.OpenSpec := { _root_.Go.OpenSpec.ofChange s with cond := some uptoSmall }

/-- 'capstanlaw01.ShaSums', WHERE WHAT IT READS IS OF BULK AT MOST 1048576: true; the input reads as it did. -/
def shaSumsUptoRow : OpenClaim := { program := "ytjicmjniddbllaadoor", sum := "6d45d750a7689c29cfd4a488e2eb5b7cf94dce92e7278909ff3569af1712901c", func := "capstan/capstanlaw01.ShaSums", spec := "shaSums", named := ["capstan/sha.first", "capstan/sha.rounds"], apart := false, laid := [("capstan/sha.rounds", laid_capstan_sha_rounds), ("capstan/sha.first", laid_capstan_sha_first)], narrowed := true }
def ShaSumsUptoSaid : Prop := shaSumsUptoRow.holds Tryd.pinned (OpenSpec.upto shaSumsSpec)

/-- 'capstanlaw01.ShaLong', WHERE WHAT IT READS IS OF BULK AT MOST 1048576: true; the input reads as it did. -/
def shaLongUptoRow : OpenClaim := { program := "ytjicmjniddbllaadoor", sum := "6d45d750a7689c29cfd4a488e2eb5b7cf94dce92e7278909ff3569af1712901c", func := "capstan/capstanlaw01.ShaLong", spec := "shaLong", named := ["capstan/sha.first", "capstan/sha.rounds"], apart := false, laid := [("capstan/sha.rounds", laid_capstan_sha_rounds), ("capstan/sha.first", laid_capstan_sha_first)], narrowed := true }
def ShaLongUptoSaid : Prop := shaLongUptoRow.holds Tryd.pinned (OpenSpec.upto shaLongSpec)

/-- 'capstanlaw01.ShaPieces', WHERE WHAT IT READS IS OF BULK AT MOST 1048576: true; the input reads as it did. -/
def shaPiecesUptoRow : OpenClaim := { program := "ytjicmjniddbllaadoor", sum := "6d45d750a7689c29cfd4a488e2eb5b7cf94dce92e7278909ff3569af1712901c", func := "capstan/capstanlaw01.ShaPieces", spec := "shaPieces", named := ["capstan/sha.first", "capstan/sha.rounds"], apart := false, laid := [("capstan/sha.rounds", laid_capstan_sha_rounds), ("capstan/sha.first", laid_capstan_sha_first)], narrowed := true }
def ShaPiecesUptoSaid : Prop := shaPiecesUptoRow.holds Tryd.pinned (OpenSpec.upto shaPiecesSpec)

/-- 'capstanlaw01.ShaBytes', WHERE WHAT IT READS IS OF BULK AT MOST 1048576: true; the input reads as it did. -/
def shaBytesUptoRow : OpenClaim := { program := "ytjicmjniddbllaadoor", sum := "6d45d750a7689c29cfd4a488e2eb5b7cf94dce92e7278909ff3569af1712901c", func := "capstan/capstanlaw01.ShaBytes", spec := "shaBytes", named := ["capstan/sha.first", "capstan/sha.rounds"], apart := false, laid := [("capstan/sha.rounds", laid_capstan_sha_rounds), ("capstan/sha.first", laid_capstan_sha_first)], narrowed := true }
def ShaBytesUptoSaid : Prop := shaBytesUptoRow.holds Tryd.pinned (OpenSpec.upto shaBytesSpec)

/-- 'capstanlaw02.MacKeys', WHERE WHAT IT READS IS OF BULK AT MOST 1048576: true; the input reads as it did. -/
def macKeysUptoRow : OpenClaim := { program := "ytjicmjniddbllaadoor", sum := "6d45d750a7689c29cfd4a488e2eb5b7cf94dce92e7278909ff3569af1712901c", func := "capstan/capstanlaw02.MacKeys", spec := "macKeys", unfollowed := true, recurses := true, named := ["capstan/sha.first", "capstan/sha.rounds"], apart := false, laid := [("capstan/sha.rounds", laid_capstan_sha_rounds), ("capstan/sha.first", laid_capstan_sha_first)], narrowed := true }
def MacKeysUptoSaid : Prop := macKeysUptoRow.holds Tryd.pinned (OpenSpec.upto macKeysSpec)

/-- 'capstanlaw02.MacTags', WHERE WHAT IT READS IS OF BULK AT MOST 1048576: true; the input reads as it did. -/
def macTagsUptoRow : OpenClaim := { program := "ytjicmjniddbllaadoor", sum := "6d45d750a7689c29cfd4a488e2eb5b7cf94dce92e7278909ff3569af1712901c", func := "capstan/capstanlaw02.MacTags", spec := "macTags", unfollowed := true, recurses := true, named := ["capstan/sha.first", "capstan/sha.rounds"], apart := false, laid := [("capstan/sha.rounds", laid_capstan_sha_rounds), ("capstan/sha.first", laid_capstan_sha_first)], narrowed := true }
def MacTagsUptoSaid : Prop := macTagsUptoRow.holds Tryd.pinned (OpenSpec.upto macTagsSpec)

/-- 'capstanlaw02.MacSeals', WHERE WHAT IT READS IS OF BULK AT MOST 1048576: true; the input reads as it did. -/
def macSealsUptoRow : OpenClaim := { program := "ytjicmjniddbllaadoor", sum := "6d45d750a7689c29cfd4a488e2eb5b7cf94dce92e7278909ff3569af1712901c", func := "capstan/capstanlaw02.MacSeals", spec := "macSeals", unfollowed := true, recurses := true, named := ["capstan/sha.first", "capstan/sha.rounds"], apart := false, laid := [("capstan/sha.rounds", laid_capstan_sha_rounds), ("capstan/sha.first", laid_capstan_sha_first)], narrowed := true }
def MacSealsUptoSaid : Prop := macSealsUptoRow.holds Tryd.pinned (OpenSpec.upto macSealsSpec)

/-- 'capstanlaw02.MacBack', WHERE WHAT IT READS IS OF BULK AT MOST 1048576: true; the input reads as it did. -/
def macBackUptoRow : OpenClaim := { program := "ytjicmjniddbllaadoor", sum := "6d45d750a7689c29cfd4a488e2eb5b7cf94dce92e7278909ff3569af1712901c", func := "capstan/capstanlaw02.MacBack", spec := "macBack", unfollowed := true, recurses := true, named := ["capstan/sha.first", "capstan/sha.rounds"], apart := false, laid := [("capstan/sha.rounds", laid_capstan_sha_rounds), ("capstan/sha.first", laid_capstan_sha_first)], narrowed := true }
def MacBackUptoSaid : Prop := macBackUptoRow.holds Tryd.pinned (OpenSpec.upto macBackSpec)

/-- 'capstanlaw02.MacTurns', WHERE WHAT IT READS IS OF BULK AT MOST 1048576: true; the input reads as it did. -/
def macTurnsUptoRow : OpenClaim := { program := "ytjicmjniddbllaadoor", sum := "6d45d750a7689c29cfd4a488e2eb5b7cf94dce92e7278909ff3569af1712901c", func := "capstan/capstanlaw02.MacTurns", spec := "macTurns", unfollowed := true, recurses := true, named := ["capstan/sha.first", "capstan/sha.rounds"], apart := false, laid := [("capstan/sha.rounds", laid_capstan_sha_rounds), ("capstan/sha.first", laid_capstan_sha_first)], narrowed := true }
def MacTurnsUptoSaid : Prop := macTurnsUptoRow.holds Tryd.pinned (OpenSpec.upto macTurnsSpec)

end Rows
end Go.Proofs.YtjicmjniddbllaaDoor
