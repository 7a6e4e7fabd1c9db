import Derived.Test.YtbcegholicnflaaGreatRows
import Derived.JoinedOf
import Derived.KernelRfl
set_option maxRecDepth 100000
namespace Go.Proofs.YtbcegholicnflaaGreat
theorem jf_solidCasts_0 : (Rows.solidCastsRow.wf (OpenSpec.ofChange Rows.solidCastsSpec)) = true := by kernel_rfl
theorem jf_solidCasts_1 : (laidOutB Tryz.prog) = true := by kernel_rfl
theorem jf_solidCasts_2 : (mapsRowed Tryz.prog) = true := by kernel_rfl
theorem jf_solidCasts_3 : (Tryz.f5.params.all (Tryz.prog.readableRec ·)) = true := by kernel_rfl
theorem jf_solidCasts_4 : (namedTie Tryz.prog Rows.solidCastsRow.named Rows.solidCastsSpec.vars) = true := by kernel_rfl
theorem jf_solidCasts_5 : ((Rows.solidCastsRow.stops == [])) = true := by kernel_rfl
theorem jf_solidCasts_6 : ((Tryz.prog.stops == [])) = true := by kernel_rfl
theorem jf_solidCasts_7 : ((Rows.solidCastsRow.knobs == [])) = true := by kernel_rfl
theorem jf_solidCasts_8 : ((Tryz.prog.stopKnobs == [])) = true := by kernel_rfl
theorem jf_solidCasts_9 : ((Rows.solidCastsRow.inPlace == Tryz.prog.inPlace 5)) = true := by kernel_rfl
theorem jf_solidCasts_10 : ((Rows.solidCastsRow.unfollowed == Tryz.prog.unfollowed 5)) = true := by kernel_rfl
theorem jf_solidCasts_11 : ((Rows.solidCastsRow.recurses == Tryz.prog.recurses 5)) = true := by kernel_rfl
theorem jf_solidCasts_12 : ((Rows.solidCastsRow.named == Tryz.prog.varsNamed 5)) = true := by kernel_rfl
theorem jf_solidCasts_13 : ((Rows.solidCastsRow.maps == (Tryz.f5.params.toList ++ Rows.solidCastsSpec.plain.varTypes Tryz.prog).any (Tryz.prog.mapsRec ·))) = true := by kernel_rfl
theorem jf_solidCasts_14 : ((Rows.solidCastsRow.ifaces == (Tryz.f5.params.toList ++ Rows.solidCastsSpec.plain.varTypes Tryz.prog).any (Tryz.prog.ifacesRec ·))) = true := by kernel_rfl
theorem jf_solidCasts_15 : ((Rows.solidCastsRow.mapsOut == Tryz.prog.mapsAmong Tryz.f5.resultTypes.toList)) = true := by kernel_rfl
theorem jf_solidCasts_16 : ((Rows.solidCastsRow.loops == (Tryz.f5.params.toList ++ Rows.solidCastsSpec.plain.varTypes Tryz.prog).any (Tryz.prog.loopsFrom ·))) = true := by kernel_rfl
theorem jf_solidCasts_17 : ((Rows.solidCastsRow.wideKeys == (Tryz.f5.params.toList ++ Rows.solidCastsSpec.plain.varTypes Tryz.prog ++ Tryz.f5.resultTypes.toList).any (Tryz.prog.wideKeysFrom ·))) = true := by kernel_rfl
theorem jf_solidCasts_18 : (Rows.solidCastsSpec.vars.all (Tryz.prog.varReadable ·)) = true := by kernel_rfl
theorem jf_solidCasts_19 : (Tryz.f5.resultTypes.all (fun t => Tryz.prog.readableRec t && decide (t < Tryz.prog.types.size))) = true := by kernel_rfl
theorem jf_solidCasts_20 : ((Rows.solidCastsRow.ifacesOut == Tryz.f5.resultTypes.toList.any (Tryz.prog.ifacesRec ·))) = true := by kernel_rfl
theorem jf_solidCasts_21 : ((Rows.solidCastsRow.loopsOut == Tryz.f5.resultTypes.toList.any (Tryz.prog.loopsFrom ·))) = true := by kernel_rfl
theorem jf_solidCasts_22 : ((Rows.solidCastsRow.plainKeys == Tryz.prog.plainKeys)) = true := by kernel_rfl
theorem jf_solidCasts_23 : (Rows.solidCastsRow.shortTexts.isNone) = true := by kernel_rfl
theorem jf_solidCasts_24 : (Tryz.prog.stopsHeard) = true := by kernel_rfl
theorem jf_solidCasts_25 : (Tryz.prog.mayEnter) = true := by kernel_rfl
theorem jf_solidCasts_26 : ((Rows.solidCastsRow.lifted == Tryz.prog.liftsFinal)) = true := by kernel_rfl
theorem jf_solidCasts_27 : ((Tryz.prog.make == some Rows.solidCastsRow.make)) = true := by kernel_rfl
theorem jf_solidCasts_28 : ((Rows.solidCastsRow.kinds == (if Rows.solidCastsRow.domain.isEmpty then [] else Tryz.f5.params.toList.map fun t => match Tryz.prog.underlying t with | some (.int k) => some k | _ => none))) = true := by kernel_rfl
theorem jf_solidCasts_29 : ((Rows.solidCastsRow.pinned == Rows.solidCastsRow.pinnedBy)) = true := by kernel_rfl
theorem jf_solidCasts_30 : ((Rows.solidCastsRow.veiled == (Tryz.f5.params.toList ++ Rows.solidCastsSpec.plain.varTypes Tryz.prog ++ Tryz.f5.resultTypes.toList).any (Tryz.prog.veiledRec ·))) = true := by kernel_rfl
theorem jf_solidCasts_31 : (Rows.solidCastsRow.veiledFits Tryz.prog Tryz.f5.params.toList (Tryz.f5.params.toList ++ Rows.solidCastsSpec.plain.varTypes Tryz.prog ++ Tryz.f5.resultTypes.toList)) = true := by kernel_rfl
theorem and_t {a b : Bool} (h : a = true) (k : b = true) : (a && b) = true := by subst h; subst k; rfl
theorem jf_solidCasts : joinedFacts Tryz.pinned.checked.prog 5 Tryz.f5 Rows.solidCastsSpec Rows.solidCastsRow = true := and_t (and_t (and_t (and_t (and_t (and_t (and_t (and_t (and_t (and_t (and_t (and_t (and_t (and_t (and_t (and_t (and_t (and_t (and_t (and_t (and_t (and_t (and_t (and_t (and_t (and_t (and_t (and_t (and_t (and_t (and_t (jf_solidCasts_0) jf_solidCasts_1) jf_solidCasts_2) jf_solidCasts_3) jf_solidCasts_4) jf_solidCasts_5) jf_solidCasts_6) jf_solidCasts_7) jf_solidCasts_8) jf_solidCasts_9) jf_solidCasts_10) jf_solidCasts_11) jf_solidCasts_12) jf_solidCasts_13) jf_solidCasts_14) jf_solidCasts_15) jf_solidCasts_16) jf_solidCasts_17) jf_solidCasts_18) jf_solidCasts_19) jf_solidCasts_20) jf_solidCasts_21) jf_solidCasts_22) jf_solidCasts_23) jf_solidCasts_24) jf_solidCasts_25) jf_solidCasts_26) jf_solidCasts_27) jf_solidCasts_28) jf_solidCasts_29) jf_solidCasts_30) jf_solidCasts_31
theorem jw_solidCasts : Tryz.f5.isWrapper Tryz.pinned.checked.prog Rows.solidCastsRow.wrapper Rows.solidCastsRow.mainSum := by unfold Func.isWrapper; first | (rw [if_pos (by decide +kernel)]; kernel_rfl) | (rw [if_neg (by decide +kernel)]; exact ⟨rfl, rfl⟩)
theorem ji_solidCasts : Tryz.f5.isInstance Tryz.pinned.checked.prog Rows.solidCastsRow.origin Rows.solidCastsRow.targs := of_decide_eq_true (by kernel_rfl)
theorem jn_solidCasts : Tryz.pinned.checked.prog.funcNamed Rows.solidCastsRow.func = some 5 := by kernel_rfl
end Go.Proofs.YtbcegholicnflaaGreat
