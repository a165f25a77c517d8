/-
  No cell of these rows narrows 'for every input' (looked for: loops, veiled, ifaces, maps, wideKeys, modest, calm, conditions, laid).
  DERIVED. THE GIVEN ROWS OF THIS SEAT. 6 by the template 'for every input the law returns true; each argument reads behind the call as it read before'; 0 by the template 'total and deterministic' (their statements: YtoigddekipjkcaaTotals.lean).
  GIVEN WITH THE SEED: the statements are not yours to turn. If you find one false, say at which input.
  Laid BY PROGRAM, IN A SANDBOX (cutbox-rows.mjs): the forced cells as the released guide's own fill.sh prints them over the translation 575687b761c5dbc8… (all of the seat's roots in one cut). By AI agents, Wed Nov 11 2026. No macro, syntax, notation, axiom, sorry.
-/
import Derived.Test.YtoigddekipjkcaaChecked
import GoSem.Claim
import GoSem.ClaimJoined
import GoSem.ClaimMapViews
import Derived.JoinedTies
import Derived.KernelRfl
namespace Go.Proofs.Ytoigddekipjkcaa
/- THE CELL 'sum', in the pinned program and in every row, IS THE sha256 OF THE DUMP (.gsa) THAT YtoigddekipjkcaaProg.lean LOADS. Nothing in Lean hashes anything: it is a label: what it is worth is what the hold of that sum in a sandbox is worth. -/
noncomputable def Try.pinned : Pinned := { name := "ytoigddekipjkcaa", sum := "575687b761c5dbc8efe4521c2e595a479a4dc51628fda84785037ca55e3037ff", checked := Try.checked }
namespace Rows
def none {H : Type} : Left H := { results := [], args := [] }

/-- 'massiflaw22.FindPlays': WHATEVER THE INPUT: true; the input reads as it did. -/
def findPlaysSpec : ChangeSpec := { name := "findPlays", fn := fun _ => fun
  | [d] => { results := [.lit (.bool true)], args := [d] }
  | _ => none }
def findPlaysRow : OpenClaim := { program := "ytoigddekipjkcaa", sum := "575687b761c5dbc8efe4521c2e595a479a4dc51628fda84785037ca55e3037ff", func := "massif/massiflaw22.FindPlays", spec := "findPlays", unfollowed := true, recurses := true, plainKeys := false, apart := false }
def FindPlaysSaid : Prop := findPlaysRow.holds Try.pinned (OpenSpec.ofChange findPlaysSpec)

/-- ITS FALSE NEIGHBOUR: 'it returns false'. Refute it at one input. -/
def findPlaysWrong : ChangeSpec := { name := "findPlays", fn := fun _ => fun
  | [d] => { results := [.lit (.bool false)], args := [d] }
  | _ => none }
def FindPlaysWrongFalsely : Prop := findPlaysRow.holds Try.pinned (OpenSpec.ofChange findPlaysWrong)

/-- 'massiflaw22.FindParts': WHATEVER THE INPUT: true; the input reads as it did. -/
def findPartsSpec : ChangeSpec := { name := "findParts", fn := fun _ => fun
  | [d1, d2] => { results := [.lit (.bool true)], args := [d1, d2] }
  | _ => none }
def findPartsRow : OpenClaim := { program := "ytoigddekipjkcaa", sum := "575687b761c5dbc8efe4521c2e595a479a4dc51628fda84785037ca55e3037ff", func := "massif/massiflaw22.FindParts", spec := "findParts", unfollowed := true, recurses := true, plainKeys := false, apart := false }
def FindPartsSaid : Prop := findPartsRow.holds Try.pinned (OpenSpec.ofChange findPartsSpec)

/-- ITS FALSE NEIGHBOUR: 'it returns false'. Refute it at one input. -/
def findPartsWrong : ChangeSpec := { name := "findParts", fn := fun _ => fun
  | [d1, d2] => { results := [.lit (.bool false)], args := [d1, d2] }
  | _ => none }
def FindPartsWrongFalsely : Prop := findPartsRow.holds Try.pinned (OpenSpec.ofChange findPartsWrong)

/-- 'massiflaw5.StoreSweeps': WHATEVER THE INPUT: true; the input reads as it did. -/
def storeSweepsSpec : ChangeSpec := { name := "storeSweeps", fn := fun _ => fun
  | [d1, d2, d3, d4] => { results := [.lit (.bool true)], args := [d1, d2, d3, d4] }
  | _ => none }
def storeSweepsRow : OpenClaim := { program := "ytoigddekipjkcaa", sum := "575687b761c5dbc8efe4521c2e595a479a4dc51628fda84785037ca55e3037ff", func := "massif/massiflaw5.StoreSweeps", spec := "storeSweeps", unfollowed := true, recurses := true, plainKeys := false, apart := false }
def StoreSweepsSaid : Prop := storeSweepsRow.holds Try.pinned (OpenSpec.ofChange storeSweepsSpec)

/-- ITS FALSE NEIGHBOUR: 'it returns false'. Refute it at one input. -/
def storeSweepsWrong : ChangeSpec := { name := "storeSweeps", fn := fun _ => fun
  | [d1, d2, d3, d4] => { results := [.lit (.bool false)], args := [d1, d2, d3, d4] }
  | _ => none }
def StoreSweepsWrongFalsely : Prop := storeSweepsRow.holds Try.pinned (OpenSpec.ofChange storeSweepsWrong)

/-- 'massiflaw5.StoreCuts': WHATEVER THE INPUT: true; the input reads as it did. -/
def storeCutsSpec : ChangeSpec := { name := "storeCuts", fn := fun _ => fun
  | [d1, d2, d3, d4] => { results := [.lit (.bool true)], args := [d1, d2, d3, d4] }
  | _ => none }
def storeCutsRow : OpenClaim := { program := "ytoigddekipjkcaa", sum := "575687b761c5dbc8efe4521c2e595a479a4dc51628fda84785037ca55e3037ff", func := "massif/massiflaw5.StoreCuts", spec := "storeCuts", unfollowed := true, recurses := true, plainKeys := false, apart := false }
def StoreCutsSaid : Prop := storeCutsRow.holds Try.pinned (OpenSpec.ofChange storeCutsSpec)

/-- ITS FALSE NEIGHBOUR: 'it returns false'. Refute it at one input. -/
def storeCutsWrong : ChangeSpec := { name := "storeCuts", fn := fun _ => fun
  | [d1, d2, d3, d4] => { results := [.lit (.bool false)], args := [d1, d2, d3, d4] }
  | _ => none }
def StoreCutsWrongFalsely : Prop := storeCutsRow.holds Try.pinned (OpenSpec.ofChange storeCutsWrong)

/-- 'massiflaw5.StorePlays': WHATEVER THE INPUT: true; the input reads as it did. -/
def storePlaysSpec : ChangeSpec := { name := "storePlays", fn := fun _ => fun
  | [d1, d2] => { results := [.lit (.bool true)], args := [d1, d2] }
  | _ => none }
def storePlaysRow : OpenClaim := { program := "ytoigddekipjkcaa", sum := "575687b761c5dbc8efe4521c2e595a479a4dc51628fda84785037ca55e3037ff", func := "massif/massiflaw5.StorePlays", spec := "storePlays", unfollowed := true, recurses := true, plainKeys := false, apart := false }
def StorePlaysSaid : Prop := storePlaysRow.holds Try.pinned (OpenSpec.ofChange storePlaysSpec)

/-- ITS FALSE NEIGHBOUR: 'it returns false'. Refute it at one input. -/
def storePlaysWrong : ChangeSpec := { name := "storePlays", fn := fun _ => fun
  | [d1, d2] => { results := [.lit (.bool false)], args := [d1, d2] }
  | _ => none }
def StorePlaysWrongFalsely : Prop := storePlaysRow.holds Try.pinned (OpenSpec.ofChange storePlaysWrong)

/-- 'massiflaw5.StoreApart': WHATEVER THE INPUT: true; the input reads as it did. -/
def storeApartSpec : ChangeSpec := { name := "storeApart", fn := fun _ => fun
  | [d1, d2, d3, d4] => { results := [.lit (.bool true)], args := [d1, d2, d3, d4] }
  | _ => none }
def storeApartRow : OpenClaim := { program := "ytoigddekipjkcaa", sum := "575687b761c5dbc8efe4521c2e595a479a4dc51628fda84785037ca55e3037ff", func := "massif/massiflaw5.StoreApart", spec := "storeApart", unfollowed := true, recurses := true, plainKeys := false, apart := false }
def StoreApartSaid : Prop := storeApartRow.holds Try.pinned (OpenSpec.ofChange storeApartSpec)

/-- ITS FALSE NEIGHBOUR: 'it returns false'. Refute it at one input. -/
def storeApartWrong : ChangeSpec := { name := "storeApart", fn := fun _ => fun
  | [d1, d2, d3, d4] => { results := [.lit (.bool false)], args := [d1, d2, d3, d4] }
  | _ => none }
def StoreApartWrongFalsely : Prop := storeApartRow.holds Try.pinned (OpenSpec.ofChange storeApartWrong)

/- THE SECOND FORM. 'bulk': how many values and letters a reading holds, each counted each time it is reached (what is shared counts as often as it is met; a slice's spare places count too). A statement '..UptoSaid' is the law's where the arguments, and the package variables that the reading takes, are together of bulk at most 1048576: NARROWER than '..Said'. Prove '..Said' where nothing that the law and all that it calls make is longer than what came in: it says more and counts as full. Else prove '..UptoSaid'. A law counts once. -/
mutual
def uptoBulk {H : Type} : DataW H → Nat
  | .lit (.string bytes) => bytes.length + 1
  | .lit _ => 1
  | .nil => 1
  | .ptr d => uptoBulk d + 1
  | .slice elems spare => uptoBulkAll elems + uptoBulkAll spare + 1
  | .agg parts => uptoBulkAll parts + 1
  | .iface _ d => uptoBulk d + 1
  | .map entries => uptoBulkEntries entries + 1
  | .held _ => 1
def uptoBulkAll {H : Type} : List (DataW H) → Nat
  | [] => 0
  | d :: r => uptoBulk d + uptoBulkAll r
def uptoBulkEntries {H : Type} : List (Lit × DataW H) → Nat
  | [] => 0
  | x :: r => uptoBulkEntry x + uptoBulkEntries r
def uptoBulkEntry {H : Type} : Lit × DataW H → Nat
  | (.string bytes, d) => bytes.length + uptoBulk d + 1
  | (_, d) => uptoBulk d + 1
 end
def uptoSmall : (H : Type) → List (DataW H) → Bool := fun _ ds => decide (uptoBulkAll ds ≤ 1048576)
def OpenSpec.upto (s : _root_.Go.ChangeSpec) : _root_.Go.OpenSpec := { _root_.Go.OpenSpec.ofChange s with cond := some uptoSmall }

/-- 'massiflaw22.FindPlays', WHERE WHAT IT READS IS OF BULK AT MOST 1048576: true; the input reads as it did. -/
def findPlaysUptoRow : OpenClaim := { program := "ytoigddekipjkcaa", sum := "575687b761c5dbc8efe4521c2e595a479a4dc51628fda84785037ca55e3037ff", func := "massif/massiflaw22.FindPlays", spec := "findPlays", unfollowed := true, recurses := true, plainKeys := false, apart := false, narrowed := true }
def FindPlaysUptoSaid : Prop := findPlaysUptoRow.holds Try.pinned (OpenSpec.upto findPlaysSpec)

/-- 'massiflaw22.FindParts', WHERE WHAT IT READS IS OF BULK AT MOST 1048576: true; the input reads as it did. -/
def findPartsUptoRow : OpenClaim := { program := "ytoigddekipjkcaa", sum := "575687b761c5dbc8efe4521c2e595a479a4dc51628fda84785037ca55e3037ff", func := "massif/massiflaw22.FindParts", spec := "findParts", unfollowed := true, recurses := true, plainKeys := false, apart := false, narrowed := true }
def FindPartsUptoSaid : Prop := findPartsUptoRow.holds Try.pinned (OpenSpec.upto findPartsSpec)

/-- 'massiflaw5.StoreSweeps', WHERE WHAT IT READS IS OF BULK AT MOST 1048576: true; the input reads as it did. -/
def storeSweepsUptoRow : OpenClaim := { program := "ytoigddekipjkcaa", sum := "575687b761c5dbc8efe4521c2e595a479a4dc51628fda84785037ca55e3037ff", func := "massif/massiflaw5.StoreSweeps", spec := "storeSweeps", unfollowed := true, recurses := true, plainKeys := false, apart := false, narrowed := true }
def StoreSweepsUptoSaid : Prop := storeSweepsUptoRow.holds Try.pinned (OpenSpec.upto storeSweepsSpec)

/-- 'massiflaw5.StoreCuts', WHERE WHAT IT READS IS OF BULK AT MOST 1048576: true; the input reads as it did. -/
def storeCutsUptoRow : OpenClaim := { program := "ytoigddekipjkcaa", sum := "575687b761c5dbc8efe4521c2e595a479a4dc51628fda84785037ca55e3037ff", func := "massif/massiflaw5.StoreCuts", spec := "storeCuts", unfollowed := true, recurses := true, plainKeys := false, apart := false, narrowed := true }
def StoreCutsUptoSaid : Prop := storeCutsUptoRow.holds Try.pinned (OpenSpec.upto storeCutsSpec)

/-- 'massiflaw5.StorePlays', WHERE WHAT IT READS IS OF BULK AT MOST 1048576: true; the input reads as it did. -/
def storePlaysUptoRow : OpenClaim := { program := "ytoigddekipjkcaa", sum := "575687b761c5dbc8efe4521c2e595a479a4dc51628fda84785037ca55e3037ff", func := "massif/massiflaw5.StorePlays", spec := "storePlays", unfollowed := true, recurses := true, plainKeys := false, apart := false, narrowed := true }
def StorePlaysUptoSaid : Prop := storePlaysUptoRow.holds Try.pinned (OpenSpec.upto storePlaysSpec)

/-- 'massiflaw5.StoreApart', WHERE WHAT IT READS IS OF BULK AT MOST 1048576: true; the input reads as it did. -/
def storeApartUptoRow : OpenClaim := { program := "ytoigddekipjkcaa", sum := "575687b761c5dbc8efe4521c2e595a479a4dc51628fda84785037ca55e3037ff", func := "massif/massiflaw5.StoreApart", spec := "storeApart", unfollowed := true, recurses := true, plainKeys := false, apart := false, narrowed := true }
def StoreApartUptoSaid : Prop := storeApartUptoRow.holds Try.pinned (OpenSpec.upto storeApartSpec)

end Rows
end Go.Proofs.Ytoigddekipjkcaa
