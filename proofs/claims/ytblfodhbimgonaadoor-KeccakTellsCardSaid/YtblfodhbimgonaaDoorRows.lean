/-
  NARROWER THAN 'FOR EVERY INPUT', by the rows' own cells (each row's printed sentence says how): KeccakTells: laid · KeccakBlocks: laid · KeccakPads: laid · KeccakUnlike: laid · KeccakLong: laid · KeccakOne: laid · KeccakApart: laid.
  DERIVED. THE GIVEN ROWS OF THIS SEAT. 7 by the template 'for every input the law returns true; each argument reads behind the call as it read before'; 0 by the template 'total and deterministic' (their statements: YtblfodhbimgonaaDoorTotals.lean).
  GIVEN WITH THE SEED: the statements are not yours to turn. If you find one false, say at which input.
  Laid BY PROGRAM, IN A SANDBOX (cutbox-rows.mjs): the forced cells as the released guide's own fill.sh prints them over the translation dc2568c001ce1bac… (all of the seat's roots in one cut). By AI agents, Wed Nov 11 2026. No macro, syntax, notation, axiom, sorry.
-/
import Derived.Test.YtblfodhbimgonaaDoorChecked
import GoSem.Claim
import GoSem.ClaimJoined
import GoSem.ClaimMapViews
import Derived.JoinedTies
import Derived.KernelRfl
namespace Go.Proofs.YtblfodhbimgonaaDoor
/- THE CELL 'sum', in the pinned program and in every row, IS THE sha256 OF THE DUMP (.gsa) THAT YtblfodhbimgonaaDoorProg.lean LOADS. Nothing in Lean hashes anything: it is a label: what it is worth is what the hold of that sum in a sandbox is worth. -/
noncomputable def Tryd.pinned : Pinned := { name := "ytblfodhbimgonaadoor", sum := "dc2568c001ce1bac976a031ba5a5b541f91a70835e460b088d57cd6086501039", checked := Tryd.checked }
namespace Rows
def none {H : Type} : Left H := { results := [], args := [] }

/- WHAT THE LISTED PACKAGE-LEVEL VARIABLES READ AS WHEN THE CALL BEGINS. Each datum BY PROGRAM (the guide's laid-datum.mjs) off the statement by which the dump's own 'gosem.cut.vars' lays the variable. In a bare row this is a premise. The card (YtblfodhbimgonaaDoorCards.lean) ties it to the program's text. -/
def laid_railhead_keccak_constants {H : Type} : DataW H := .agg [.lit (.int .u64 1), .lit (.int .u64 32898), .lit (.int .u64 9223372036854808714), .lit (.int .u64 9223372039002292224), .lit (.int .u64 32907), .lit (.int .u64 2147483649), .lit (.int .u64 9223372039002292353), .lit (.int .u64 9223372036854808585), .lit (.int .u64 138), .lit (.int .u64 136), .lit (.int .u64 2147516425), .lit (.int .u64 2147483658), .lit (.int .u64 2147516555), .lit (.int .u64 9223372036854775947), .lit (.int .u64 9223372036854808713), .lit (.int .u64 9223372036854808579), .lit (.int .u64 9223372036854808578), .lit (.int .u64 9223372036854775936), .lit (.int .u64 32778), .lit (.int .u64 9223372039002259466), .lit (.int .u64 9223372039002292353), .lit (.int .u64 9223372036854808704), .lit (.int .u64 2147483649), .lit (.int .u64 9223372039002292232)]

/-- 'railheadlaw04.KeccakTells': WHATEVER THE INPUT: true; the input reads as it did. -/
def keccakTellsSpec : ChangeSpec := { name := "keccakTells", fn := fun _ => fun
  | [d1, d2, d3] => { results := [.lit (.bool true)], args := [d1, d2, d3] }
  | _ => none }
def keccakTellsRow : OpenClaim := { program := "ytblfodhbimgonaadoor", sum := "dc2568c001ce1bac976a031ba5a5b541f91a70835e460b088d57cd6086501039", func := "railhead/railheadlaw04.KeccakTells", spec := "keccakTells", unfollowed := true, recurses := true, named := ["railhead/keccak.constants"], apart := false, laid := [("railhead/keccak.constants", laid_railhead_keccak_constants)] }
def KeccakTellsSaid : Prop := keccakTellsRow.holds Tryd.pinned (OpenSpec.ofChange keccakTellsSpec)

/-- ITS FALSE NEIGHBOUR: 'it returns false'. Refute it at one input. -/
def keccakTellsWrong : ChangeSpec := { name := "keccakTells", fn := fun _ => fun
  | [d1, d2, d3] => { results := [.lit (.bool false)], args := [d1, d2, d3] }
  | _ => none }
def KeccakTellsWrongFalsely : Prop := keccakTellsRow.holds Tryd.pinned (OpenSpec.ofChange keccakTellsWrong)

/-- 'railheadlaw04.KeccakBlocks': WHATEVER THE INPUT: true; the input reads as it did. -/
def keccakBlocksSpec : ChangeSpec := { name := "keccakBlocks", fn := fun _ => fun
  | [d] => { results := [.lit (.bool true)], args := [d] }
  | _ => none }
def keccakBlocksRow : OpenClaim := { program := "ytblfodhbimgonaadoor", sum := "dc2568c001ce1bac976a031ba5a5b541f91a70835e460b088d57cd6086501039", func := "railhead/railheadlaw04.KeccakBlocks", spec := "keccakBlocks", unfollowed := true, recurses := true, named := ["railhead/keccak.constants"], apart := false, laid := [("railhead/keccak.constants", laid_railhead_keccak_constants)] }
def KeccakBlocksSaid : Prop := keccakBlocksRow.holds Tryd.pinned (OpenSpec.ofChange keccakBlocksSpec)

/-- ITS FALSE NEIGHBOUR: 'it returns false'. Refute it at one input. -/
def keccakBlocksWrong : ChangeSpec := { name := "keccakBlocks", fn := fun _ => fun
  | [d] => { results := [.lit (.bool false)], args := [d] }
  | _ => none }
def KeccakBlocksWrongFalsely : Prop := keccakBlocksRow.holds Tryd.pinned (OpenSpec.ofChange keccakBlocksWrong)

/-- 'railheadlaw04.KeccakPads': WHATEVER THE INPUT: true; the input reads as it did. -/
def keccakPadsSpec : ChangeSpec := { name := "keccakPads", fn := fun _ => fun
  | [d1, d2] => { results := [.lit (.bool true)], args := [d1, d2] }
  | _ => none }
def keccakPadsRow : OpenClaim := { program := "ytblfodhbimgonaadoor", sum := "dc2568c001ce1bac976a031ba5a5b541f91a70835e460b088d57cd6086501039", func := "railhead/railheadlaw04.KeccakPads", spec := "keccakPads", unfollowed := true, recurses := true, named := ["railhead/keccak.constants"], apart := false, laid := [("railhead/keccak.constants", laid_railhead_keccak_constants)] }
def KeccakPadsSaid : Prop := keccakPadsRow.holds Tryd.pinned (OpenSpec.ofChange keccakPadsSpec)

/-- ITS FALSE NEIGHBOUR: 'it returns false'. Refute it at one input. -/
def keccakPadsWrong : ChangeSpec := { name := "keccakPads", fn := fun _ => fun
  | [d1, d2] => { results := [.lit (.bool false)], args := [d1, d2] }
  | _ => none }
def KeccakPadsWrongFalsely : Prop := keccakPadsRow.holds Tryd.pinned (OpenSpec.ofChange keccakPadsWrong)

/-- 'railheadlaw04.KeccakUnlike': WHATEVER THE INPUT: true; the input reads as it did. -/
def keccakUnlikeSpec : ChangeSpec := { name := "keccakUnlike", fn := fun _ => fun
  | [d1, d2] => { results := [.lit (.bool true)], args := [d1, d2] }
  | _ => none }
def keccakUnlikeRow : OpenClaim := { program := "ytblfodhbimgonaadoor", sum := "dc2568c001ce1bac976a031ba5a5b541f91a70835e460b088d57cd6086501039", func := "railhead/railheadlaw04.KeccakUnlike", spec := "keccakUnlike", unfollowed := true, recurses := true, named := ["railhead/keccak.constants"], apart := false, laid := [("railhead/keccak.constants", laid_railhead_keccak_constants)] }
def KeccakUnlikeSaid : Prop := keccakUnlikeRow.holds Tryd.pinned (OpenSpec.ofChange keccakUnlikeSpec)

/-- ITS FALSE NEIGHBOUR: 'it returns false'. Refute it at one input. -/
def keccakUnlikeWrong : ChangeSpec := { name := "keccakUnlike", fn := fun _ => fun
  | [d1, d2] => { results := [.lit (.bool false)], args := [d1, d2] }
  | _ => none }
def KeccakUnlikeWrongFalsely : Prop := keccakUnlikeRow.holds Tryd.pinned (OpenSpec.ofChange keccakUnlikeWrong)

/-- 'railheadlaw04.KeccakLong': WHATEVER THE INPUT: true; the input reads as it did. -/
def keccakLongSpec : ChangeSpec := { name := "keccakLong", fn := fun _ => fun
  | [d] => { results := [.lit (.bool true)], args := [d] }
  | _ => none }
def keccakLongRow : OpenClaim := { program := "ytblfodhbimgonaadoor", sum := "dc2568c001ce1bac976a031ba5a5b541f91a70835e460b088d57cd6086501039", func := "railhead/railheadlaw04.KeccakLong", spec := "keccakLong", unfollowed := true, recurses := true, named := ["railhead/keccak.constants"], apart := false, laid := [("railhead/keccak.constants", laid_railhead_keccak_constants)] }
def KeccakLongSaid : Prop := keccakLongRow.holds Tryd.pinned (OpenSpec.ofChange keccakLongSpec)

/-- ITS FALSE NEIGHBOUR: 'it returns false'. Refute it at one input. -/
def keccakLongWrong : ChangeSpec := { name := "keccakLong", fn := fun _ => fun
  | [d] => { results := [.lit (.bool false)], args := [d] }
  | _ => none }
def KeccakLongWrongFalsely : Prop := keccakLongRow.holds Tryd.pinned (OpenSpec.ofChange keccakLongWrong)

/-- 'railheadlaw04.KeccakOne': WHATEVER THE INPUT: true; the input reads as it did. -/
def keccakOneSpec : ChangeSpec := { name := "keccakOne", fn := fun _ => fun
  | [d] => { results := [.lit (.bool true)], args := [d] }
  | _ => none }
def keccakOneRow : OpenClaim := { program := "ytblfodhbimgonaadoor", sum := "dc2568c001ce1bac976a031ba5a5b541f91a70835e460b088d57cd6086501039", func := "railhead/railheadlaw04.KeccakOne", spec := "keccakOne", unfollowed := true, recurses := true, named := ["railhead/keccak.constants"], apart := false, laid := [("railhead/keccak.constants", laid_railhead_keccak_constants)] }
def KeccakOneSaid : Prop := keccakOneRow.holds Tryd.pinned (OpenSpec.ofChange keccakOneSpec)

/-- ITS FALSE NEIGHBOUR: 'it returns false'. Refute it at one input. -/
def keccakOneWrong : ChangeSpec := { name := "keccakOne", fn := fun _ => fun
  | [d] => { results := [.lit (.bool false)], args := [d] }
  | _ => none }
def KeccakOneWrongFalsely : Prop := keccakOneRow.holds Tryd.pinned (OpenSpec.ofChange keccakOneWrong)

/-- 'railheadlaw04.KeccakApart': WHATEVER THE INPUT: true; the input reads as it did. -/
def keccakApartSpec : ChangeSpec := { name := "keccakApart", fn := fun _ => fun
  | [d1, d2] => { results := [.lit (.bool true)], args := [d1, d2] }
  | _ => none }
def keccakApartRow : OpenClaim := { program := "ytblfodhbimgonaadoor", sum := "dc2568c001ce1bac976a031ba5a5b541f91a70835e460b088d57cd6086501039", func := "railhead/railheadlaw04.KeccakApart", spec := "keccakApart", unfollowed := true, recurses := true, named := ["railhead/keccak.constants"], apart := false, laid := [("railhead/keccak.constants", laid_railhead_keccak_constants)] }
def KeccakApartSaid : Prop := keccakApartRow.holds Tryd.pinned (OpenSpec.ofChange keccakApartSpec)

/-- ITS FALSE NEIGHBOUR: 'it returns false'. Refute it at one input. -/
def keccakApartWrong : ChangeSpec := { name := "keccakApart", fn := fun _ => fun
  | [d1, d2] => { results := [.lit (.bool false)], args := [d1, d2] }
  | _ => none }
def KeccakApartWrongFalsely : Prop := keccakApartRow.holds Tryd.pinned (OpenSpec.ofChange keccakApartWrong)

/- THE SECOND FORM. 'bulk': how many values and letters a reading holds, each counted each time it is reached (what is shared counts as often as it is met; a slice's spare places count too). A statement '..UptoSaid' is the law's where the arguments, and the package variables that the reading takes, are together of bulk at most 1048576: NARROWER than '..Said'. Prove '..Said' where nothing that the law and all that it calls make is longer than what came in: it says more and counts as full. Else prove '..UptoSaid'. A law counts once. -/
mutual
def uptoBulk {H : Type} : DataW H → Nat
  | .lit (.string bytes) => bytes.length + 1
  | .lit _ => 1
  | .nil => 1
  | .ptr d => uptoBulk d + 1
  | .slice elems spare => uptoBulkAll elems + uptoBulkAll spare + 1
  | .agg parts => uptoBulkAll parts + 1
  | .iface _ d => uptoBulk d + 1
  | .map entries => uptoBulkEntries entries + 1
  | .held _ => 1
def uptoBulkAll {H : Type} : List (DataW H) → Nat
  | [] => 0
  | d :: r => uptoBulk d + uptoBulkAll r
def uptoBulkEntries {H : Type} : List (Lit × DataW H) → Nat
  | [] => 0
  | x :: r => uptoBulkEntry x + uptoBulkEntries r
def uptoBulkEntry {H : Type} : Lit × DataW H → Nat
  | (.string bytes, d) => bytes.length + uptoBulk d + 1
  | (_, d) => uptoBulk d + 1
 end
def uptoSmall : (H : Type) → List (DataW H) → Bool := fun _ ds => decide (uptoBulkAll ds ≤ 1048576)
def OpenSpec.upto (s : _root_.Go.ChangeSpec) : _root_.Go.OpenSpec := { _root_.Go.OpenSpec.ofChange s with cond := some uptoSmall }

/-- 'railheadlaw04.KeccakTells', WHERE WHAT IT READS IS OF BULK AT MOST 1048576: true; the input reads as it did. -/
def keccakTellsUptoRow : OpenClaim := { program := "ytblfodhbimgonaadoor", sum := "dc2568c001ce1bac976a031ba5a5b541f91a70835e460b088d57cd6086501039", func := "railhead/railheadlaw04.KeccakTells", spec := "keccakTells", unfollowed := true, recurses := true, named := ["railhead/keccak.constants"], apart := false, laid := [("railhead/keccak.constants", laid_railhead_keccak_constants)], narrowed := true }
def KeccakTellsUptoSaid : Prop := keccakTellsUptoRow.holds Tryd.pinned (OpenSpec.upto keccakTellsSpec)

/-- 'railheadlaw04.KeccakBlocks', WHERE WHAT IT READS IS OF BULK AT MOST 1048576: true; the input reads as it did. -/
def keccakBlocksUptoRow : OpenClaim := { program := "ytblfodhbimgonaadoor", sum := "dc2568c001ce1bac976a031ba5a5b541f91a70835e460b088d57cd6086501039", func := "railhead/railheadlaw04.KeccakBlocks", spec := "keccakBlocks", unfollowed := true, recurses := true, named := ["railhead/keccak.constants"], apart := false, laid := [("railhead/keccak.constants", laid_railhead_keccak_constants)], narrowed := true }
def KeccakBlocksUptoSaid : Prop := keccakBlocksUptoRow.holds Tryd.pinned (OpenSpec.upto keccakBlocksSpec)

/-- 'railheadlaw04.KeccakPads', WHERE WHAT IT READS IS OF BULK AT MOST 1048576: true; the input reads as it did. -/
def keccakPadsUptoRow : OpenClaim := { program := "ytblfodhbimgonaadoor", sum := "dc2568c001ce1bac976a031ba5a5b541f91a70835e460b088d57cd6086501039", func := "railhead/railheadlaw04.KeccakPads", spec := "keccakPads", unfollowed := true, recurses := true, named := ["railhead/keccak.constants"], apart := false, laid := [("railhead/keccak.constants", laid_railhead_keccak_constants)], narrowed := true }
def KeccakPadsUptoSaid : Prop := keccakPadsUptoRow.holds Tryd.pinned (OpenSpec.upto keccakPadsSpec)

/-- 'railheadlaw04.KeccakUnlike', WHERE WHAT IT READS IS OF BULK AT MOST 1048576: true; the input reads as it did. -/
def keccakUnlikeUptoRow : OpenClaim := { program := "ytblfodhbimgonaadoor", sum := "dc2568c001ce1bac976a031ba5a5b541f91a70835e460b088d57cd6086501039", func := "railhead/railheadlaw04.KeccakUnlike", spec := "keccakUnlike", unfollowed := true, recurses := true, named := ["railhead/keccak.constants"], apart := false, laid := [("railhead/keccak.constants", laid_railhead_keccak_constants)], narrowed := true }
def KeccakUnlikeUptoSaid : Prop := keccakUnlikeUptoRow.holds Tryd.pinned (OpenSpec.upto keccakUnlikeSpec)

/-- 'railheadlaw04.KeccakLong', WHERE WHAT IT READS IS OF BULK AT MOST 1048576: true; the input reads as it did. -/
def keccakLongUptoRow : OpenClaim := { program := "ytblfodhbimgonaadoor", sum := "dc2568c001ce1bac976a031ba5a5b541f91a70835e460b088d57cd6086501039", func := "railhead/railheadlaw04.KeccakLong", spec := "keccakLong", unfollowed := true, recurses := true, named := ["railhead/keccak.constants"], apart := false, laid := [("railhead/keccak.constants", laid_railhead_keccak_constants)], narrowed := true }
def KeccakLongUptoSaid : Prop := keccakLongUptoRow.holds Tryd.pinned (OpenSpec.upto keccakLongSpec)

/-- 'railheadlaw04.KeccakOne', WHERE WHAT IT READS IS OF BULK AT MOST 1048576: true; the input reads as it did. -/
def keccakOneUptoRow : OpenClaim := { program := "ytblfodhbimgonaadoor", sum := "dc2568c001ce1bac976a031ba5a5b541f91a70835e460b088d57cd6086501039", func := "railhead/railheadlaw04.KeccakOne", spec := "keccakOne", unfollowed := true, recurses := true, named := ["railhead/keccak.constants"], apart := false, laid := [("railhead/keccak.constants", laid_railhead_keccak_constants)], narrowed := true }
def KeccakOneUptoSaid : Prop := keccakOneUptoRow.holds Tryd.pinned (OpenSpec.upto keccakOneSpec)

/-- 'railheadlaw04.KeccakApart', WHERE WHAT IT READS IS OF BULK AT MOST 1048576: true; the input reads as it did. -/
def keccakApartUptoRow : OpenClaim := { program := "ytblfodhbimgonaadoor", sum := "dc2568c001ce1bac976a031ba5a5b541f91a70835e460b088d57cd6086501039", func := "railhead/railheadlaw04.KeccakApart", spec := "keccakApart", unfollowed := true, recurses := true, named := ["railhead/keccak.constants"], apart := false, laid := [("railhead/keccak.constants", laid_railhead_keccak_constants)], narrowed := true }
def KeccakApartUptoSaid : Prop := keccakApartUptoRow.holds Tryd.pinned (OpenSpec.upto keccakApartSpec)

end Rows
end Go.Proofs.YtblfodhbimgonaaDoor
