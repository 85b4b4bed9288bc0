import Derived.Test.YtddncbgdoplgiaaGreatFaP
namespace Go.Proofs.YtddncbgdoplgiaaGreat
open Go
set_option maxRecDepth 100000
theorem fST0 : Rows.spaceTrendsRow.wf (OpenSpec.ofChange Rows.spaceTrendsSpec) = true := by kernel_rfl
theorem fST3 : Tryz.f6.params.all (Tryz.checked.prog.readableRec ·) = true := by kernel_rfl
theorem fST4 : namedTie Tryz.checked.prog Rows.spaceTrendsRow.named Rows.spaceTrendsSpec.vars = true := by kernel_rfl
theorem fST5 : (Rows.spaceTrendsRow.stops == []) = true := by kernel_rfl
theorem fST7 : (Rows.spaceTrendsRow.knobs == []) = true := by kernel_rfl
theorem fST13 : (Rows.spaceTrendsRow.maps == (Tryz.f6.params.toList ++ Rows.spaceTrendsSpec.plain.varTypes Tryz.checked.prog).any (Tryz.checked.prog.mapsRec ·)) = true := by kernel_rfl
theorem fST14 : (Rows.spaceTrendsRow.ifaces == (Tryz.f6.params.toList ++ Rows.spaceTrendsSpec.plain.varTypes Tryz.checked.prog).any (Tryz.checked.prog.ifacesRec ·)) = true := by kernel_rfl
theorem fST15 : (Rows.spaceTrendsRow.mapsOut == Tryz.checked.prog.mapsAmong Tryz.f6.resultTypes.toList) = true := by kernel_rfl
theorem fST16 : (Rows.spaceTrendsRow.loops == (Tryz.f6.params.toList ++ Rows.spaceTrendsSpec.plain.varTypes Tryz.checked.prog).any (Tryz.checked.prog.loopsFrom ·)) = true := by kernel_rfl
theorem fST17 : (Rows.spaceTrendsRow.wideKeys == (Tryz.f6.params.toList ++ Rows.spaceTrendsSpec.plain.varTypes Tryz.checked.prog ++ Tryz.f6.resultTypes.toList).any (Tryz.checked.prog.wideKeysFrom ·)) = true := by kernel_rfl
theorem fST18 : Rows.spaceTrendsSpec.vars.all (Tryz.checked.prog.varReadable ·) = true := by kernel_rfl
theorem fST19 : Tryz.f6.resultTypes.all (fun t => Tryz.checked.prog.readableRec t && decide (t < Tryz.checked.prog.types.size)) = true := by kernel_rfl
theorem fST20 : (Rows.spaceTrendsRow.ifacesOut == Tryz.f6.resultTypes.toList.any (Tryz.checked.prog.ifacesRec ·)) = true := by kernel_rfl
theorem fST21 : (Rows.spaceTrendsRow.loopsOut == Tryz.f6.resultTypes.toList.any (Tryz.checked.prog.loopsFrom ·)) = true := by kernel_rfl
theorem fST22 : (Rows.spaceTrendsRow.plainKeys == Tryz.checked.prog.plainKeys) = true := by kernel_rfl
theorem fST23 : Rows.spaceTrendsRow.shortTexts.isNone = true := by kernel_rfl
theorem fST26 : (Rows.spaceTrendsRow.lifted == Tryz.checked.prog.liftsFinal) = true := by
  rw [hw9]; kernel_rfl
theorem fST27 : (Tryz.checked.prog.make == some Rows.spaceTrendsRow.make) = true := by
  rw [hw7]; kernel_rfl
theorem fST28 : (Rows.spaceTrendsRow.kinds == (if Rows.spaceTrendsRow.domain.isEmpty then [] else Tryz.f6.params.toList.map fun t => match Tryz.checked.prog.underlying t with | some (.int k) => some k | _ => none)) = true := by kernel_rfl
theorem fST29 : (Rows.spaceTrendsRow.pinned == Rows.spaceTrendsRow.pinnedBy) = true := by kernel_rfl
theorem fST30 : (Rows.spaceTrendsRow.veiled == (Tryz.f6.params.toList ++ Rows.spaceTrendsSpec.plain.varTypes Tryz.checked.prog ++ Tryz.f6.resultTypes.toList).any (Tryz.checked.prog.veiledRec ·)) = true := by kernel_rfl
theorem fST31 : Rows.spaceTrendsRow.veiledFits Tryz.checked.prog Tryz.f6.params.toList (Tryz.f6.params.toList ++ Rows.spaceTrendsSpec.plain.varTypes Tryz.checked.prog ++ Tryz.f6.resultTypes.toList) = true := by kernel_rfl
theorem fSTw : Tryz.f6.isWrapper Tryz.checked.prog Rows.spaceTrendsRow.wrapper Rows.spaceTrendsRow.mainSum := by
  unfold Func.isWrapper; first | (rw [if_pos (by decide +kernel)]; kernel_rfl) | (rw [if_neg (by decide +kernel)]; exact ⟨rfl, rfl⟩)
theorem fSTi : Tryz.f6.isInstance Tryz.checked.prog Rows.spaceTrendsRow.origin Rows.spaceTrendsRow.targs := of_decide_eq_true (by kernel_rfl)
end Go.Proofs.YtddncbgdoplgiaaGreat
