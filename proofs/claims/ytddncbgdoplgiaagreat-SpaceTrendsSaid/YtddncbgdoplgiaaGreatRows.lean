/-
  No cell of these rows narrows 'for every input' (looked for: loops, veiled, ifaces, maps, wideKeys, modest, calm, conditions, laid).
  DERIVED. THE GIVEN ROWS OF THIS SEAT. 21 by the template 'for every input the law returns true; each argument reads behind the call as it read before'; 0 by the template 'total and deterministic' (their statements: YtddncbgdoplgiaaGreatTotals.lean).
  GIVEN WITH THE SEED: the statements are not yours to turn. If you find one false, say at which input.
  Laid BY PROGRAM, IN A SANDBOX (cutbox-rows.mjs): the forced cells as the released guide's own fill.sh prints them over the translation bf0249677e472516… (all of the seat's roots in one cut). By AI agents, Wed Nov 11 2026. No macro, syntax, notation, axiom, sorry.
-/
import Derived.Test.YtddncbgdoplgiaaGreatChecked
import GoSem.Claim
import GoSem.ClaimJoined
import GoSem.ClaimMapViews
import Derived.JoinedTies
import Derived.KernelRfl
namespace Go.Proofs.YtddncbgdoplgiaaGreat
/- THE CELL 'sum', in the pinned program and in every row, IS THE sha256 OF THE DUMP (.gsa) THAT YtddncbgdoplgiaaGreatProg.lean LOADS. Nothing in Lean hashes anything: it is a label: what it is worth is what the hold of that sum in a sandbox is worth. -/
noncomputable def Tryz.pinned : Pinned := { name := "ytddncbgdoplgiaagreat", sum := "bf0249677e472516dc5bd5e74a8c7000bcb2ffdc30982515acd74387a7ef427f", checked := Tryz.checked }
namespace Rows
def none {H : Type} : Left H := { results := [], args := [] }

/-- 'dormouselaw28.KeepFull': WHATEVER THE INPUT: true; the input reads as it did. -/
def keepFullSpec : ChangeSpec := { name := "keepFull", fn := fun _ => fun
  | [d1, d2] => { results := [.lit (.bool true)], args := [d1, d2] }
  | _ => none }
def keepFullRow : OpenClaim := { program := "ytddncbgdoplgiaagreat", sum := "bf0249677e472516dc5bd5e74a8c7000bcb2ffdc30982515acd74387a7ef427f", func := "dormouse/dormouselaw28.KeepFull", spec := "keepFull", inPlace := ["slices.overlaps[dormouse/api.Pair]"], unfollowed := true, recurses := true, plainKeys := false, apart := false }
def KeepFullSaid : Prop := keepFullRow.holds Tryz.pinned (OpenSpec.ofChange keepFullSpec)

/-- ITS FALSE NEIGHBOUR: 'it returns false'. Refute it at one input. -/
def keepFullWrong : ChangeSpec := { name := "keepFull", fn := fun _ => fun
  | [d1, d2] => { results := [.lit (.bool false)], args := [d1, d2] }
  | _ => none }
def KeepFullWrongFalsely : Prop := keepFullRow.holds Tryz.pinned (OpenSpec.ofChange keepFullWrong)

/-- 'dormouselaw28.KeepNone': WHATEVER THE INPUT: true; the input reads as it did. -/
def keepNoneSpec : ChangeSpec := { name := "keepNone", fn := fun _ => fun
  | [d1, d2] => { results := [.lit (.bool true)], args := [d1, d2] }
  | _ => none }
def keepNoneRow : OpenClaim := { program := "ytddncbgdoplgiaagreat", sum := "bf0249677e472516dc5bd5e74a8c7000bcb2ffdc30982515acd74387a7ef427f", func := "dormouse/dormouselaw28.KeepNone", spec := "keepNone", inPlace := ["slices.overlaps[dormouse/api.Pair]"], unfollowed := true, recurses := true, plainKeys := false, apart := false }
def KeepNoneSaid : Prop := keepNoneRow.holds Tryz.pinned (OpenSpec.ofChange keepNoneSpec)

/-- ITS FALSE NEIGHBOUR: 'it returns false'. Refute it at one input. -/
def keepNoneWrong : ChangeSpec := { name := "keepNone", fn := fun _ => fun
  | [d1, d2] => { results := [.lit (.bool false)], args := [d1, d2] }
  | _ => none }
def KeepNoneWrongFalsely : Prop := keepNoneRow.holds Tryz.pinned (OpenSpec.ofChange keepNoneWrong)

/-- 'dormouselaw29.SpaceMakes': WHATEVER THE INPUT: true; the input reads as it did. -/
def spaceMakesSpec : ChangeSpec := { name := "spaceMakes", fn := fun _ => fun
  | [d1, d2, d3] => { results := [.lit (.bool true)], args := [d1, d2, d3] }
  | _ => none }
def spaceMakesRow : OpenClaim := { program := "ytddncbgdoplgiaagreat", sum := "bf0249677e472516dc5bd5e74a8c7000bcb2ffdc30982515acd74387a7ef427f", func := "dormouse/dormouselaw29.SpaceMakes", spec := "spaceMakes", inPlace := ["slices.overlaps[dormouse/api.Pair]", "math.Float64bits", "math.Float64frombits"], unfollowed := true, recurses := true, plainKeys := false, apart := false }
def SpaceMakesSaid : Prop := spaceMakesRow.holds Tryz.pinned (OpenSpec.ofChange spaceMakesSpec)

/-- ITS FALSE NEIGHBOUR: 'it returns false'. Refute it at one input. -/
def spaceMakesWrong : ChangeSpec := { name := "spaceMakes", fn := fun _ => fun
  | [d1, d2, d3] => { results := [.lit (.bool false)], args := [d1, d2, d3] }
  | _ => none }
def SpaceMakesWrongFalsely : Prop := spaceMakesRow.holds Tryz.pinned (OpenSpec.ofChange spaceMakesWrong)

/-- 'dormouselaw29.SpaceTrends': WHATEVER THE INPUT: true; the input reads as it did. -/
def spaceTrendsSpec : ChangeSpec := { name := "spaceTrends", fn := fun _ => fun
  | [d1, d2, d3] => { results := [.lit (.bool true)], args := [d1, d2, d3] }
  | _ => none }
def spaceTrendsRow : OpenClaim := { program := "ytddncbgdoplgiaagreat", sum := "bf0249677e472516dc5bd5e74a8c7000bcb2ffdc30982515acd74387a7ef427f", func := "dormouse/dormouselaw29.SpaceTrends", spec := "spaceTrends", inPlace := ["math.Float64bits", "slices.overlaps[dormouse/api.Pair]", "math.Float64frombits"], unfollowed := true, recurses := true, plainKeys := false, apart := false }
def SpaceTrendsSaid : Prop := spaceTrendsRow.holds Tryz.pinned (OpenSpec.ofChange spaceTrendsSpec)

/-- ITS FALSE NEIGHBOUR: 'it returns false'. Refute it at one input. -/
def spaceTrendsWrong : ChangeSpec := { name := "spaceTrends", fn := fun _ => fun
  | [d1, d2, d3] => { results := [.lit (.bool false)], args := [d1, d2, d3] }
  | _ => none }
def SpaceTrendsWrongFalsely : Prop := spaceTrendsRow.holds Tryz.pinned (OpenSpec.ofChange spaceTrendsWrong)

/-- 'dormouselaw28.KeepDoes': WHATEVER THE INPUT: true; the input reads as it did. -/
def keepDoesSpec : ChangeSpec := { name := "keepDoes", fn := fun _ => fun
  | [d1, d2, d3] => { results := [.lit (.bool true)], args := [d1, d2, d3] }
  | _ => none }
def keepDoesRow : OpenClaim := { program := "ytddncbgdoplgiaagreat", sum := "bf0249677e472516dc5bd5e74a8c7000bcb2ffdc30982515acd74387a7ef427f", func := "dormouse/dormouselaw28.KeepDoes", spec := "keepDoes", inPlace := ["slices.overlaps[dormouse/api.Pair]"], unfollowed := true, recurses := true, plainKeys := false, apart := false }
def KeepDoesSaid : Prop := keepDoesRow.holds Tryz.pinned (OpenSpec.ofChange keepDoesSpec)

/-- ITS FALSE NEIGHBOUR: 'it returns false'. Refute it at one input. -/
def keepDoesWrong : ChangeSpec := { name := "keepDoes", fn := fun _ => fun
  | [d1, d2, d3] => { results := [.lit (.bool false)], args := [d1, d2, d3] }
  | _ => none }
def KeepDoesWrongFalsely : Prop := keepDoesRow.holds Tryz.pinned (OpenSpec.ofChange keepDoesWrong)

/-- 'dormouselaw32.StateRoots': WHATEVER THE INPUT: true; the input reads as it did. -/
def stateRootsSpec : ChangeSpec := { name := "stateRoots", fn := fun _ => fun
  | [d] => { results := [.lit (.bool true)], args := [d] }
  | _ => none }
def stateRootsRow : OpenClaim := { program := "ytddncbgdoplgiaagreat", sum := "bf0249677e472516dc5bd5e74a8c7000bcb2ffdc30982515acd74387a7ef427f", func := "dormouse/dormouselaw32.StateRoots", spec := "stateRoots", unfollowed := true, recurses := true, plainKeys := false, apart := false }
def StateRootsSaid : Prop := stateRootsRow.holds Tryz.pinned (OpenSpec.ofChange stateRootsSpec)

/-- ITS FALSE NEIGHBOUR: 'it returns false'. Refute it at one input. -/
def stateRootsWrong : ChangeSpec := { name := "stateRoots", fn := fun _ => fun
  | [d] => { results := [.lit (.bool false)], args := [d] }
  | _ => none }
def StateRootsWrongFalsely : Prop := stateRootsRow.holds Tryz.pinned (OpenSpec.ofChange stateRootsWrong)

/-- 'dormouselaw29.SpaceFits': WHATEVER THE INPUT: true; the input reads as it did. -/
def spaceFitsSpec : ChangeSpec := { name := "spaceFits", fn := fun _ => fun
  | [d1, d2] => { results := [.lit (.bool true)], args := [d1, d2] }
  | _ => none }
def spaceFitsRow : OpenClaim := { program := "ytddncbgdoplgiaagreat", sum := "bf0249677e472516dc5bd5e74a8c7000bcb2ffdc30982515acd74387a7ef427f", func := "dormouse/dormouselaw29.SpaceFits", spec := "spaceFits", inPlace := ["slices.overlaps[dormouse/api.Pair]", "math.Float64bits", "math.Float64frombits"], unfollowed := true, recurses := true, plainKeys := false, apart := false }
def SpaceFitsSaid : Prop := spaceFitsRow.holds Tryz.pinned (OpenSpec.ofChange spaceFitsSpec)

/-- ITS FALSE NEIGHBOUR: 'it returns false'. Refute it at one input. -/
def spaceFitsWrong : ChangeSpec := { name := "spaceFits", fn := fun _ => fun
  | [d1, d2] => { results := [.lit (.bool false)], args := [d1, d2] }
  | _ => none }
def SpaceFitsWrongFalsely : Prop := spaceFitsRow.holds Tryz.pinned (OpenSpec.ofChange spaceFitsWrong)

/-- 'dormouselaw42.AuditLooks': WHATEVER THE INPUT: true; the input reads as it did. -/
def auditLooksSpec : ChangeSpec := { name := "auditLooks", fn := fun _ => fun
  | [d1, d2, d3] => { results := [.lit (.bool true)], args := [d1, d2, d3] }
  | _ => none }
def auditLooksRow : OpenClaim := { program := "ytddncbgdoplgiaagreat", sum := "bf0249677e472516dc5bd5e74a8c7000bcb2ffdc30982515acd74387a7ef427f", func := "dormouse/dormouselaw42.AuditLooks", spec := "auditLooks", inPlace := ["slices.overlaps[dormouse/api.Pair]"], unfollowed := true, recurses := true, plainKeys := false, apart := false }
def AuditLooksSaid : Prop := auditLooksRow.holds Tryz.pinned (OpenSpec.ofChange auditLooksSpec)

/-- ITS FALSE NEIGHBOUR: 'it returns false'. Refute it at one input. -/
def auditLooksWrong : ChangeSpec := { name := "auditLooks", fn := fun _ => fun
  | [d1, d2, d3] => { results := [.lit (.bool false)], args := [d1, d2, d3] }
  | _ => none }
def AuditLooksWrongFalsely : Prop := auditLooksRow.holds Tryz.pinned (OpenSpec.ofChange auditLooksWrong)

/-- 'dormouselaw42.AuditWell': WHATEVER THE INPUT: true; the input reads as it did. -/
def auditWellSpec : ChangeSpec := { name := "auditWell", fn := fun _ => fun
  | [d1, d2, d3] => { results := [.lit (.bool true)], args := [d1, d2, d3] }
  | _ => none }
def auditWellRow : OpenClaim := { program := "ytddncbgdoplgiaagreat", sum := "bf0249677e472516dc5bd5e74a8c7000bcb2ffdc30982515acd74387a7ef427f", func := "dormouse/dormouselaw42.AuditWell", spec := "auditWell", inPlace := ["slices.overlaps[dormouse/api.Pair]"], unfollowed := true, recurses := true, plainKeys := false, apart := false }
def AuditWellSaid : Prop := auditWellRow.holds Tryz.pinned (OpenSpec.ofChange auditWellSpec)

/-- ITS FALSE NEIGHBOUR: 'it returns false'. Refute it at one input. -/
def auditWellWrong : ChangeSpec := { name := "auditWell", fn := fun _ => fun
  | [d1, d2, d3] => { results := [.lit (.bool false)], args := [d1, d2, d3] }
  | _ => none }
def AuditWellWrongFalsely : Prop := auditWellRow.holds Tryz.pinned (OpenSpec.ofChange auditWellWrong)

/-- 'dormouselaw18.ChainLast': WHATEVER THE INPUT: true; the input reads as it did. -/
def chainLastSpec : ChangeSpec := { name := "chainLast", fn := fun _ => fun
  | [d1, d2] => { results := [.lit (.bool true)], args := [d1, d2] }
  | _ => none }
def chainLastRow : OpenClaim := { program := "ytddncbgdoplgiaagreat", sum := "bf0249677e472516dc5bd5e74a8c7000bcb2ffdc30982515acd74387a7ef427f", func := "dormouse/dormouselaw18.ChainLast", spec := "chainLast", unfollowed := true, recurses := true, plainKeys := false, apart := false }
def ChainLastSaid : Prop := chainLastRow.holds Tryz.pinned (OpenSpec.ofChange chainLastSpec)

/-- ITS FALSE NEIGHBOUR: 'it returns false'. Refute it at one input. -/
def chainLastWrong : ChangeSpec := { name := "chainLast", fn := fun _ => fun
  | [d1, d2] => { results := [.lit (.bool false)], args := [d1, d2] }
  | _ => none }
def ChainLastWrongFalsely : Prop := chainLastRow.holds Tryz.pinned (OpenSpec.ofChange chainLastWrong)

/-- 'dormouselaw18.ChainWitness': WHATEVER THE INPUT: true; the input reads as it did. -/
def chainWitnessSpec : ChangeSpec := { name := "chainWitness", fn := fun _ => fun
  | [d1, d2, d3] => { results := [.lit (.bool true)], args := [d1, d2, d3] }
  | _ => none }
def chainWitnessRow : OpenClaim := { program := "ytddncbgdoplgiaagreat", sum := "bf0249677e472516dc5bd5e74a8c7000bcb2ffdc30982515acd74387a7ef427f", func := "dormouse/dormouselaw18.ChainWitness", spec := "chainWitness", unfollowed := true, recurses := true, plainKeys := false, apart := false }
def ChainWitnessSaid : Prop := chainWitnessRow.holds Tryz.pinned (OpenSpec.ofChange chainWitnessSpec)

/-- ITS FALSE NEIGHBOUR: 'it returns false'. Refute it at one input. -/
def chainWitnessWrong : ChangeSpec := { name := "chainWitness", fn := fun _ => fun
  | [d1, d2, d3] => { results := [.lit (.bool false)], args := [d1, d2, d3] }
  | _ => none }
def ChainWitnessWrongFalsely : Prop := chainWitnessRow.holds Tryz.pinned (OpenSpec.ofChange chainWitnessWrong)

/-- 'dormouselaw18.ChainKeys': WHATEVER THE INPUT: true; the input reads as it did. -/
def chainKeysSpec : ChangeSpec := { name := "chainKeys", fn := fun _ => fun
  | [d] => { results := [.lit (.bool true)], args := [d] }
  | _ => none }
def chainKeysRow : OpenClaim := { program := "ytddncbgdoplgiaagreat", sum := "bf0249677e472516dc5bd5e74a8c7000bcb2ffdc30982515acd74387a7ef427f", func := "dormouse/dormouselaw18.ChainKeys", spec := "chainKeys", unfollowed := true, recurses := true, plainKeys := false, apart := false }
def ChainKeysSaid : Prop := chainKeysRow.holds Tryz.pinned (OpenSpec.ofChange chainKeysSpec)

/-- ITS FALSE NEIGHBOUR: 'it returns false'. Refute it at one input. -/
def chainKeysWrong : ChangeSpec := { name := "chainKeys", fn := fun _ => fun
  | [d] => { results := [.lit (.bool false)], args := [d] }
  | _ => none }
def ChainKeysWrongFalsely : Prop := chainKeysRow.holds Tryz.pinned (OpenSpec.ofChange chainKeysWrong)

/-- 'dormouselaw18.ChainDropped': WHATEVER THE INPUT: true; the input reads as it did. -/
def chainDroppedSpec : ChangeSpec := { name := "chainDropped", fn := fun _ => fun
  | [d1, d2, d3] => { results := [.lit (.bool true)], args := [d1, d2, d3] }
  | _ => none }
def chainDroppedRow : OpenClaim := { program := "ytddncbgdoplgiaagreat", sum := "bf0249677e472516dc5bd5e74a8c7000bcb2ffdc30982515acd74387a7ef427f", func := "dormouse/dormouselaw18.ChainDropped", spec := "chainDropped", unfollowed := true, recurses := true, plainKeys := false, apart := false }
def ChainDroppedSaid : Prop := chainDroppedRow.holds Tryz.pinned (OpenSpec.ofChange chainDroppedSpec)

/-- ITS FALSE NEIGHBOUR: 'it returns false'. Refute it at one input. -/
def chainDroppedWrong : ChangeSpec := { name := "chainDropped", fn := fun _ => fun
  | [d1, d2, d3] => { results := [.lit (.bool false)], args := [d1, d2, d3] }
  | _ => none }
def ChainDroppedWrongFalsely : Prop := chainDroppedRow.holds Tryz.pinned (OpenSpec.ofChange chainDroppedWrong)

/-- 'dormouselaw32.StateDoes': WHATEVER THE INPUT: true; the input reads as it did. -/
def stateDoesSpec : ChangeSpec := { name := "stateDoes", fn := fun _ => fun
  | [d1, d2] => { results := [.lit (.bool true)], args := [d1, d2] }
  | _ => none }
def stateDoesRow : OpenClaim := { program := "ytddncbgdoplgiaagreat", sum := "bf0249677e472516dc5bd5e74a8c7000bcb2ffdc30982515acd74387a7ef427f", func := "dormouse/dormouselaw32.StateDoes", spec := "stateDoes", inPlace := ["slices.overlaps[dormouse/api.Pair]"], unfollowed := true, recurses := true, plainKeys := false, apart := false }
def StateDoesSaid : Prop := stateDoesRow.holds Tryz.pinned (OpenSpec.ofChange stateDoesSpec)

/-- ITS FALSE NEIGHBOUR: 'it returns false'. Refute it at one input. -/
def stateDoesWrong : ChangeSpec := { name := "stateDoes", fn := fun _ => fun
  | [d1, d2] => { results := [.lit (.bool false)], args := [d1, d2] }
  | _ => none }
def StateDoesWrongFalsely : Prop := stateDoesRow.holds Tryz.pinned (OpenSpec.ofChange stateDoesWrong)

/-- 'dormouselaw33.ArchiveDoes': WHATEVER THE INPUT: true; the input reads as it did. -/
def archiveDoesSpec : ChangeSpec := { name := "archiveDoes", fn := fun _ => fun
  | [d1, d2, d3] => { results := [.lit (.bool true)], args := [d1, d2, d3] }
  | _ => none }
def archiveDoesRow : OpenClaim := { program := "ytddncbgdoplgiaagreat", sum := "bf0249677e472516dc5bd5e74a8c7000bcb2ffdc30982515acd74387a7ef427f", func := "dormouse/dormouselaw33.ArchiveDoes", spec := "archiveDoes", unfollowed := true, recurses := true, plainKeys := false, apart := false }
def ArchiveDoesSaid : Prop := archiveDoesRow.holds Tryz.pinned (OpenSpec.ofChange archiveDoesSpec)

/-- ITS FALSE NEIGHBOUR: 'it returns false'. Refute it at one input. -/
def archiveDoesWrong : ChangeSpec := { name := "archiveDoes", fn := fun _ => fun
  | [d1, d2, d3] => { results := [.lit (.bool false)], args := [d1, d2, d3] }
  | _ => none }
def ArchiveDoesWrongFalsely : Prop := archiveDoesRow.holds Tryz.pinned (OpenSpec.ofChange archiveDoesWrong)

/-- 'dormouselaw33.ArchiveBodies': WHATEVER THE INPUT: true; the input reads as it did. -/
def archiveBodiesSpec : ChangeSpec := { name := "archiveBodies", fn := fun _ => fun
  | [d] => { results := [.lit (.bool true)], args := [d] }
  | _ => none }
def archiveBodiesRow : OpenClaim := { program := "ytddncbgdoplgiaagreat", sum := "bf0249677e472516dc5bd5e74a8c7000bcb2ffdc30982515acd74387a7ef427f", func := "dormouse/dormouselaw33.ArchiveBodies", spec := "archiveBodies", unfollowed := true, recurses := true, plainKeys := false, apart := false }
def ArchiveBodiesSaid : Prop := archiveBodiesRow.holds Tryz.pinned (OpenSpec.ofChange archiveBodiesSpec)

/-- ITS FALSE NEIGHBOUR: 'it returns false'. Refute it at one input. -/
def archiveBodiesWrong : ChangeSpec := { name := "archiveBodies", fn := fun _ => fun
  | [d] => { results := [.lit (.bool false)], args := [d] }
  | _ => none }
def ArchiveBodiesWrongFalsely : Prop := archiveBodiesRow.holds Tryz.pinned (OpenSpec.ofChange archiveBodiesWrong)

/-- 'dormouselaw36.IdealState': WHATEVER THE INPUT: true; the input reads as it did. -/
def idealStateSpec : ChangeSpec := { name := "idealState", fn := fun _ => fun
  | [d1, d2] => { results := [.lit (.bool true)], args := [d1, d2] }
  | _ => none }
def idealStateRow : OpenClaim := { program := "ytddncbgdoplgiaagreat", sum := "bf0249677e472516dc5bd5e74a8c7000bcb2ffdc30982515acd74387a7ef427f", func := "dormouse/dormouselaw36.IdealState", spec := "idealState", inPlace := ["maps.clone"], unfollowed := true, recurses := true, plainKeys := false, apart := false }
def IdealStateSaid : Prop := idealStateRow.holds Tryz.pinned (OpenSpec.ofChange idealStateSpec)

/-- ITS FALSE NEIGHBOUR: 'it returns false'. Refute it at one input. -/
def idealStateWrong : ChangeSpec := { name := "idealState", fn := fun _ => fun
  | [d1, d2] => { results := [.lit (.bool false)], args := [d1, d2] }
  | _ => none }
def IdealStateWrongFalsely : Prop := idealStateRow.holds Tryz.pinned (OpenSpec.ofChange idealStateWrong)

/-- 'dormouselaw33.ArchiveServes': WHATEVER THE INPUT: true; the input reads as it did. -/
def archiveServesSpec : ChangeSpec := { name := "archiveServes", fn := fun _ => fun
  | [d1, d2] => { results := [.lit (.bool true)], args := [d1, d2] }
  | _ => none }
def archiveServesRow : OpenClaim := { program := "ytddncbgdoplgiaagreat", sum := "bf0249677e472516dc5bd5e74a8c7000bcb2ffdc30982515acd74387a7ef427f", func := "dormouse/dormouselaw33.ArchiveServes", spec := "archiveServes", inPlace := ["slices.overlaps[dormouse/api.Pair]"], unfollowed := true, recurses := true, plainKeys := false, apart := false }
def ArchiveServesSaid : Prop := archiveServesRow.holds Tryz.pinned (OpenSpec.ofChange archiveServesSpec)

/-- ITS FALSE NEIGHBOUR: 'it returns false'. Refute it at one input. -/
def archiveServesWrong : ChangeSpec := { name := "archiveServes", fn := fun _ => fun
  | [d1, d2] => { results := [.lit (.bool false)], args := [d1, d2] }
  | _ => none }
def ArchiveServesWrongFalsely : Prop := archiveServesRow.holds Tryz.pinned (OpenSpec.ofChange archiveServesWrong)

/-- 'dormouselaw34.StoreFull': WHATEVER THE INPUT: true; the input reads as it did. -/
def storeFullSpec : ChangeSpec := { name := "storeFull", fn := fun _ => fun
  | [d] => { results := [.lit (.bool true)], args := [d] }
  | _ => none }
def storeFullRow : OpenClaim := { program := "ytddncbgdoplgiaagreat", sum := "bf0249677e472516dc5bd5e74a8c7000bcb2ffdc30982515acd74387a7ef427f", func := "dormouse/dormouselaw34.StoreFull", spec := "storeFull", inPlace := ["slices.overlaps[dormouse/api.Pair]", "math.Float64bits", "math.Float64frombits"], unfollowed := true, recurses := true, plainKeys := false, apart := false }
def StoreFullSaid : Prop := storeFullRow.holds Tryz.pinned (OpenSpec.ofChange storeFullSpec)

/-- ITS FALSE NEIGHBOUR: 'it returns false'. Refute it at one input. -/
def storeFullWrong : ChangeSpec := { name := "storeFull", fn := fun _ => fun
  | [d] => { results := [.lit (.bool false)], args := [d] }
  | _ => none }
def StoreFullWrongFalsely : Prop := storeFullRow.holds Tryz.pinned (OpenSpec.ofChange storeFullWrong)

/-- 'dormouselaw34.StoreDown': WHATEVER THE INPUT: true; the input reads as it did. -/
def storeDownSpec : ChangeSpec := { name := "storeDown", fn := fun _ => fun
  | [d] => { results := [.lit (.bool true)], args := [d] }
  | _ => none }
def storeDownRow : OpenClaim := { program := "ytddncbgdoplgiaagreat", sum := "bf0249677e472516dc5bd5e74a8c7000bcb2ffdc30982515acd74387a7ef427f", func := "dormouse/dormouselaw34.StoreDown", spec := "storeDown", inPlace := ["slices.overlaps[dormouse/api.Pair]", "math.Float64bits", "math.Float64frombits"], unfollowed := true, recurses := true, plainKeys := false, apart := false }
def StoreDownSaid : Prop := storeDownRow.holds Tryz.pinned (OpenSpec.ofChange storeDownSpec)

/-- ITS FALSE NEIGHBOUR: 'it returns false'. Refute it at one input. -/
def storeDownWrong : ChangeSpec := { name := "storeDown", fn := fun _ => fun
  | [d] => { results := [.lit (.bool false)], args := [d] }
  | _ => none }
def StoreDownWrongFalsely : Prop := storeDownRow.holds Tryz.pinned (OpenSpec.ofChange storeDownWrong)

/-- 'dormouselaw34.StoreDoes': WHATEVER THE INPUT: true; the input reads as it did. -/
def storeDoesSpec : ChangeSpec := { name := "storeDoes", fn := fun _ => fun
  | [d1, d2, d3] => { results := [.lit (.bool true)], args := [d1, d2, d3] }
  | _ => none }
def storeDoesRow : OpenClaim := { program := "ytddncbgdoplgiaagreat", sum := "bf0249677e472516dc5bd5e74a8c7000bcb2ffdc30982515acd74387a7ef427f", func := "dormouse/dormouselaw34.StoreDoes", spec := "storeDoes", inPlace := ["slices.overlaps[dormouse/api.Pair]", "math.Float64bits", "math.Float64frombits"], unfollowed := true, recurses := true, plainKeys := false, apart := false }
def StoreDoesSaid : Prop := storeDoesRow.holds Tryz.pinned (OpenSpec.ofChange storeDoesSpec)

/-- ITS FALSE NEIGHBOUR: 'it returns false'. Refute it at one input. -/
def storeDoesWrong : ChangeSpec := { name := "storeDoes", fn := fun _ => fun
  | [d1, d2, d3] => { results := [.lit (.bool false)], args := [d1, d2, d3] }
  | _ => none }
def StoreDoesWrongFalsely : Prop := storeDoesRow.holds Tryz.pinned (OpenSpec.ofChange storeDoesWrong)

/- THE SECOND FORM. 'bulk': how many values and letters a reading holds, each counted each time it is reached (what is shared counts as often as it is met; a slice's spare places count too). A statement '..UptoSaid' is the law's where the arguments, and the package variables that the reading takes, are together of bulk at most 1048576: NARROWER than '..Said'. Prove '..Said' where nothing that the law and all that it calls make is longer than what came in: it says more and counts as full. Else prove '..UptoSaid'. A law counts once. -/
mutual
def uptoBulk {H : Type} : DataW H → Nat
  | .lit (.string bytes) => bytes.length + 1
  | .lit _ => 1
  | .nil => 1
  | .ptr d => uptoBulk d + 1
  | .slice elems spare => uptoBulkAll elems + uptoBulkAll spare + 1
  | .agg parts => uptoBulkAll parts + 1
  | .iface _ d => uptoBulk d + 1
  | .map entries => uptoBulkEntries entries + 1
  | .held _ => 1
def uptoBulkAll {H : Type} : List (DataW H) → Nat
  | [] => 0
  | d :: r => uptoBulk d + uptoBulkAll r
def uptoBulkEntries {H : Type} : List (Lit × DataW H) → Nat
  | [] => 0
  | x :: r => uptoBulkEntry x + uptoBulkEntries r
def uptoBulkEntry {H : Type} : Lit × DataW H → Nat
  | (.string bytes, d) => bytes.length + uptoBulk d + 1
  | (_, d) => uptoBulk d + 1
 end
def uptoSmall : (H : Type) → List (DataW H) → Bool := fun _ ds => decide (uptoBulkAll ds ≤ 1048576)
def OpenSpec.upto (s : _root_.Go.ChangeSpec) : _root_.Go.OpenSpec := { _root_.Go.OpenSpec.ofChange s with cond := some uptoSmall }

/-- 'dormouselaw28.KeepFull', WHERE WHAT IT READS IS OF BULK AT MOST 1048576: true; the input reads as it did. -/
def keepFullUptoRow : OpenClaim := { program := "ytddncbgdoplgiaagreat", sum := "bf0249677e472516dc5bd5e74a8c7000bcb2ffdc30982515acd74387a7ef427f", func := "dormouse/dormouselaw28.KeepFull", spec := "keepFull", inPlace := ["slices.overlaps[dormouse/api.Pair]"], unfollowed := true, recurses := true, plainKeys := false, apart := false, narrowed := true }
def KeepFullUptoSaid : Prop := keepFullUptoRow.holds Tryz.pinned (OpenSpec.upto keepFullSpec)

/-- 'dormouselaw28.KeepNone', WHERE WHAT IT READS IS OF BULK AT MOST 1048576: true; the input reads as it did. -/
def keepNoneUptoRow : OpenClaim := { program := "ytddncbgdoplgiaagreat", sum := "bf0249677e472516dc5bd5e74a8c7000bcb2ffdc30982515acd74387a7ef427f", func := "dormouse/dormouselaw28.KeepNone", spec := "keepNone", inPlace := ["slices.overlaps[dormouse/api.Pair]"], unfollowed := true, recurses := true, plainKeys := false, apart := false, narrowed := true }
def KeepNoneUptoSaid : Prop := keepNoneUptoRow.holds Tryz.pinned (OpenSpec.upto keepNoneSpec)

/-- 'dormouselaw29.SpaceMakes', WHERE WHAT IT READS IS OF BULK AT MOST 1048576: true; the input reads as it did. -/
def spaceMakesUptoRow : OpenClaim := { program := "ytddncbgdoplgiaagreat", sum := "bf0249677e472516dc5bd5e74a8c7000bcb2ffdc30982515acd74387a7ef427f", func := "dormouse/dormouselaw29.SpaceMakes", spec := "spaceMakes", inPlace := ["slices.overlaps[dormouse/api.Pair]", "math.Float64bits", "math.Float64frombits"], unfollowed := true, recurses := true, plainKeys := false, apart := false, narrowed := true }
def SpaceMakesUptoSaid : Prop := spaceMakesUptoRow.holds Tryz.pinned (OpenSpec.upto spaceMakesSpec)

/-- 'dormouselaw29.SpaceTrends', WHERE WHAT IT READS IS OF BULK AT MOST 1048576: true; the input reads as it did. -/
def spaceTrendsUptoRow : OpenClaim := { program := "ytddncbgdoplgiaagreat", sum := "bf0249677e472516dc5bd5e74a8c7000bcb2ffdc30982515acd74387a7ef427f", func := "dormouse/dormouselaw29.SpaceTrends", spec := "spaceTrends", inPlace := ["math.Float64bits", "slices.overlaps[dormouse/api.Pair]", "math.Float64frombits"], unfollowed := true, recurses := true, plainKeys := false, apart := false, narrowed := true }
def SpaceTrendsUptoSaid : Prop := spaceTrendsUptoRow.holds Tryz.pinned (OpenSpec.upto spaceTrendsSpec)

/-- 'dormouselaw28.KeepDoes', WHERE WHAT IT READS IS OF BULK AT MOST 1048576: true; the input reads as it did. -/
def keepDoesUptoRow : OpenClaim := { program := "ytddncbgdoplgiaagreat", sum := "bf0249677e472516dc5bd5e74a8c7000bcb2ffdc30982515acd74387a7ef427f", func := "dormouse/dormouselaw28.KeepDoes", spec := "keepDoes", inPlace := ["slices.overlaps[dormouse/api.Pair]"], unfollowed := true, recurses := true, plainKeys := false, apart := false, narrowed := true }
def KeepDoesUptoSaid : Prop := keepDoesUptoRow.holds Tryz.pinned (OpenSpec.upto keepDoesSpec)

/-- 'dormouselaw32.StateRoots', WHERE WHAT IT READS IS OF BULK AT MOST 1048576: true; the input reads as it did. -/
def stateRootsUptoRow : OpenClaim := { program := "ytddncbgdoplgiaagreat", sum := "bf0249677e472516dc5bd5e74a8c7000bcb2ffdc30982515acd74387a7ef427f", func := "dormouse/dormouselaw32.StateRoots", spec := "stateRoots", unfollowed := true, recurses := true, plainKeys := false, apart := false, narrowed := true }
def StateRootsUptoSaid : Prop := stateRootsUptoRow.holds Tryz.pinned (OpenSpec.upto stateRootsSpec)

/-- 'dormouselaw29.SpaceFits', WHERE WHAT IT READS IS OF BULK AT MOST 1048576: true; the input reads as it did. -/
def spaceFitsUptoRow : OpenClaim := { program := "ytddncbgdoplgiaagreat", sum := "bf0249677e472516dc5bd5e74a8c7000bcb2ffdc30982515acd74387a7ef427f", func := "dormouse/dormouselaw29.SpaceFits", spec := "spaceFits", inPlace := ["slices.overlaps[dormouse/api.Pair]", "math.Float64bits", "math.Float64frombits"], unfollowed := true, recurses := true, plainKeys := false, apart := false, narrowed := true }
def SpaceFitsUptoSaid : Prop := spaceFitsUptoRow.holds Tryz.pinned (OpenSpec.upto spaceFitsSpec)

/-- 'dormouselaw42.AuditLooks', WHERE WHAT IT READS IS OF BULK AT MOST 1048576: true; the input reads as it did. -/
def auditLooksUptoRow : OpenClaim := { program := "ytddncbgdoplgiaagreat", sum := "bf0249677e472516dc5bd5e74a8c7000bcb2ffdc30982515acd74387a7ef427f", func := "dormouse/dormouselaw42.AuditLooks", spec := "auditLooks", inPlace := ["slices.overlaps[dormouse/api.Pair]"], unfollowed := true, recurses := true, plainKeys := false, apart := false, narrowed := true }
def AuditLooksUptoSaid : Prop := auditLooksUptoRow.holds Tryz.pinned (OpenSpec.upto auditLooksSpec)

/-- 'dormouselaw42.AuditWell', WHERE WHAT IT READS IS OF BULK AT MOST 1048576: true; the input reads as it did. -/
def auditWellUptoRow : OpenClaim := { program := "ytddncbgdoplgiaagreat", sum := "bf0249677e472516dc5bd5e74a8c7000bcb2ffdc30982515acd74387a7ef427f", func := "dormouse/dormouselaw42.AuditWell", spec := "auditWell", inPlace := ["slices.overlaps[dormouse/api.Pair]"], unfollowed := true, recurses := true, plainKeys := false, apart := false, narrowed := true }
def AuditWellUptoSaid : Prop := auditWellUptoRow.holds Tryz.pinned (OpenSpec.upto auditWellSpec)

/-- 'dormouselaw18.ChainLast', WHERE WHAT IT READS IS OF BULK AT MOST 1048576: true; the input reads as it did. -/
def chainLastUptoRow : OpenClaim := { program := "ytddncbgdoplgiaagreat", sum := "bf0249677e472516dc5bd5e74a8c7000bcb2ffdc30982515acd74387a7ef427f", func := "dormouse/dormouselaw18.ChainLast", spec := "chainLast", unfollowed := true, recurses := true, plainKeys := false, apart := false, narrowed := true }
def ChainLastUptoSaid : Prop := chainLastUptoRow.holds Tryz.pinned (OpenSpec.upto chainLastSpec)

/-- 'dormouselaw18.ChainWitness', WHERE WHAT IT READS IS OF BULK AT MOST 1048576: true; the input reads as it did. -/
def chainWitnessUptoRow : OpenClaim := { program := "ytddncbgdoplgiaagreat", sum := "bf0249677e472516dc5bd5e74a8c7000bcb2ffdc30982515acd74387a7ef427f", func := "dormouse/dormouselaw18.ChainWitness", spec := "chainWitness", unfollowed := true, recurses := true, plainKeys := false, apart := false, narrowed := true }
def ChainWitnessUptoSaid : Prop := chainWitnessUptoRow.holds Tryz.pinned (OpenSpec.upto chainWitnessSpec)

/-- 'dormouselaw18.ChainKeys', WHERE WHAT IT READS IS OF BULK AT MOST 1048576: true; the input reads as it did. -/
def chainKeysUptoRow : OpenClaim := { program := "ytddncbgdoplgiaagreat", sum := "bf0249677e472516dc5bd5e74a8c7000bcb2ffdc30982515acd74387a7ef427f", func := "dormouse/dormouselaw18.ChainKeys", spec := "chainKeys", unfollowed := true, recurses := true, plainKeys := false, apart := false, narrowed := true }
def ChainKeysUptoSaid : Prop := chainKeysUptoRow.holds Tryz.pinned (OpenSpec.upto chainKeysSpec)

/-- 'dormouselaw18.ChainDropped', WHERE WHAT IT READS IS OF BULK AT MOST 1048576: true; the input reads as it did. -/
def chainDroppedUptoRow : OpenClaim := { program := "ytddncbgdoplgiaagreat", sum := "bf0249677e472516dc5bd5e74a8c7000bcb2ffdc30982515acd74387a7ef427f", func := "dormouse/dormouselaw18.ChainDropped", spec := "chainDropped", unfollowed := true, recurses := true, plainKeys := false, apart := false, narrowed := true }
def ChainDroppedUptoSaid : Prop := chainDroppedUptoRow.holds Tryz.pinned (OpenSpec.upto chainDroppedSpec)

/-- 'dormouselaw32.StateDoes', WHERE WHAT IT READS IS OF BULK AT MOST 1048576: true; the input reads as it did. -/
def stateDoesUptoRow : OpenClaim := { program := "ytddncbgdoplgiaagreat", sum := "bf0249677e472516dc5bd5e74a8c7000bcb2ffdc30982515acd74387a7ef427f", func := "dormouse/dormouselaw32.StateDoes", spec := "stateDoes", inPlace := ["slices.overlaps[dormouse/api.Pair]"], unfollowed := true, recurses := true, plainKeys := false, apart := false, narrowed := true }
def StateDoesUptoSaid : Prop := stateDoesUptoRow.holds Tryz.pinned (OpenSpec.upto stateDoesSpec)

/-- 'dormouselaw33.ArchiveDoes', WHERE WHAT IT READS IS OF BULK AT MOST 1048576: true; the input reads as it did. -/
def archiveDoesUptoRow : OpenClaim := { program := "ytddncbgdoplgiaagreat", sum := "bf0249677e472516dc5bd5e74a8c7000bcb2ffdc30982515acd74387a7ef427f", func := "dormouse/dormouselaw33.ArchiveDoes", spec := "archiveDoes", unfollowed := true, recurses := true, plainKeys := false, apart := false, narrowed := true }
def ArchiveDoesUptoSaid : Prop := archiveDoesUptoRow.holds Tryz.pinned (OpenSpec.upto archiveDoesSpec)

/-- 'dormouselaw33.ArchiveBodies', WHERE WHAT IT READS IS OF BULK AT MOST 1048576: true; the input reads as it did. -/
def archiveBodiesUptoRow : OpenClaim := { program := "ytddncbgdoplgiaagreat", sum := "bf0249677e472516dc5bd5e74a8c7000bcb2ffdc30982515acd74387a7ef427f", func := "dormouse/dormouselaw33.ArchiveBodies", spec := "archiveBodies", unfollowed := true, recurses := true, plainKeys := false, apart := false, narrowed := true }
def ArchiveBodiesUptoSaid : Prop := archiveBodiesUptoRow.holds Tryz.pinned (OpenSpec.upto archiveBodiesSpec)

/-- 'dormouselaw36.IdealState', WHERE WHAT IT READS IS OF BULK AT MOST 1048576: true; the input reads as it did. -/
def idealStateUptoRow : OpenClaim := { program := "ytddncbgdoplgiaagreat", sum := "bf0249677e472516dc5bd5e74a8c7000bcb2ffdc30982515acd74387a7ef427f", func := "dormouse/dormouselaw36.IdealState", spec := "idealState", inPlace := ["maps.clone"], unfollowed := true, recurses := true, plainKeys := false, apart := false, narrowed := true }
def IdealStateUptoSaid : Prop := idealStateUptoRow.holds Tryz.pinned (OpenSpec.upto idealStateSpec)

/-- 'dormouselaw33.ArchiveServes', WHERE WHAT IT READS IS OF BULK AT MOST 1048576: true; the input reads as it did. -/
def archiveServesUptoRow : OpenClaim := { program := "ytddncbgdoplgiaagreat", sum := "bf0249677e472516dc5bd5e74a8c7000bcb2ffdc30982515acd74387a7ef427f", func := "dormouse/dormouselaw33.ArchiveServes", spec := "archiveServes", inPlace := ["slices.overlaps[dormouse/api.Pair]"], unfollowed := true, recurses := true, plainKeys := false, apart := false, narrowed := true }
def ArchiveServesUptoSaid : Prop := archiveServesUptoRow.holds Tryz.pinned (OpenSpec.upto archiveServesSpec)

/-- 'dormouselaw34.StoreFull', WHERE WHAT IT READS IS OF BULK AT MOST 1048576: true; the input reads as it did. -/
def storeFullUptoRow : OpenClaim := { program := "ytddncbgdoplgiaagreat", sum := "bf0249677e472516dc5bd5e74a8c7000bcb2ffdc30982515acd74387a7ef427f", func := "dormouse/dormouselaw34.StoreFull", spec := "storeFull", inPlace := ["slices.overlaps[dormouse/api.Pair]", "math.Float64bits", "math.Float64frombits"], unfollowed := true, recurses := true, plainKeys := false, apart := false, narrowed := true }
def StoreFullUptoSaid : Prop := storeFullUptoRow.holds Tryz.pinned (OpenSpec.upto storeFullSpec)

/-- 'dormouselaw34.StoreDown', WHERE WHAT IT READS IS OF BULK AT MOST 1048576: true; the input reads as it did. -/
def storeDownUptoRow : OpenClaim := { program := "ytddncbgdoplgiaagreat", sum := "bf0249677e472516dc5bd5e74a8c7000bcb2ffdc30982515acd74387a7ef427f", func := "dormouse/dormouselaw34.StoreDown", spec := "storeDown", inPlace := ["slices.overlaps[dormouse/api.Pair]", "math.Float64bits", "math.Float64frombits"], unfollowed := true, recurses := true, plainKeys := false, apart := false, narrowed := true }
def StoreDownUptoSaid : Prop := storeDownUptoRow.holds Tryz.pinned (OpenSpec.upto storeDownSpec)

/-- 'dormouselaw34.StoreDoes', WHERE WHAT IT READS IS OF BULK AT MOST 1048576: true; the input reads as it did. -/
def storeDoesUptoRow : OpenClaim := { program := "ytddncbgdoplgiaagreat", sum := "bf0249677e472516dc5bd5e74a8c7000bcb2ffdc30982515acd74387a7ef427f", func := "dormouse/dormouselaw34.StoreDoes", spec := "storeDoes", inPlace := ["slices.overlaps[dormouse/api.Pair]", "math.Float64bits", "math.Float64frombits"], unfollowed := true, recurses := true, plainKeys := false, apart := false, narrowed := true }
def StoreDoesUptoSaid : Prop := storeDoesUptoRow.holds Tryz.pinned (OpenSpec.upto storeDoesSpec)

end Rows
end Go.Proofs.YtddncbgdoplgiaaGreat
