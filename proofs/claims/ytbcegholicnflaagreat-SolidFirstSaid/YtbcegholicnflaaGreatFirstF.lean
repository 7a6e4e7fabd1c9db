import Derived.Test.YtbcegholicnflaaGreatRows
import Derived.JoinedOf
import Derived.KernelRfl
set_option maxRecDepth 100000
namespace Go.Proofs.YtbcegholicnflaaGreat
theorem OO : (Rows.solidFirstRow.wf (OpenSpec.ofChange Rows.solidFirstSpec)) = true := by kernel_rfl
theorem E8 : (laidOutB Tryz.prog) = true := by kernel_rfl
theorem OQ : (mapsRowed Tryz.prog) = true := by kernel_rfl
theorem OT : (Tryz.f7.params.all (Tryz.prog.readableRec ·)) = true := by kernel_rfl
theorem OU : (namedTie Tryz.prog Rows.solidFirstRow.named Rows.solidFirstSpec.vars) = true := by kernel_rfl
theorem OV : ((Rows.solidFirstRow.stops == [])) = true := by kernel_rfl
theorem OW : ((Tryz.prog.stops == [])) = true := by kernel_rfl
theorem OX : ((Rows.solidFirstRow.knobs == [])) = true := by kernel_rfl
theorem OY : ((Tryz.prog.stopKnobs == [])) = true := by kernel_rfl
theorem OZ : ((Rows.solidFirstRow.inPlace == Tryz.prog.inPlace 7)) = true := by kernel_rfl
theorem Lu : ((Rows.solidFirstRow.unfollowed == Tryz.prog.unfollowed 7)) = true := by kernel_rfl
theorem LC : ((Rows.solidFirstRow.recurses == Tryz.prog.recurses 7)) = true := by kernel_rfl
theorem LD : ((Rows.solidFirstRow.named == Tryz.prog.varsNamed 7)) = true := by kernel_rfl
theorem LG : ((Rows.solidFirstRow.maps == (Tryz.f7.params.toList ++ Rows.solidFirstSpec.plain.varTypes Tryz.prog).any (Tryz.prog.mapsRec ·))) = true := by kernel_rfl
theorem LH : ((Rows.solidFirstRow.ifaces == (Tryz.f7.params.toList ++ Rows.solidFirstSpec.plain.varTypes Tryz.prog).any (Tryz.prog.ifacesRec ·))) = true := by kernel_rfl
theorem LJ : ((Rows.solidFirstRow.mapsOut == Tryz.prog.mapsAmong Tryz.f7.resultTypes.toList)) = true := by kernel_rfl
theorem LK : ((Rows.solidFirstRow.loops == (Tryz.f7.params.toList ++ Rows.solidFirstSpec.plain.varTypes Tryz.prog).any (Tryz.prog.loopsFrom ·))) = true := by kernel_rfl
theorem LM : ((Rows.solidFirstRow.wideKeys == (Tryz.f7.params.toList ++ Rows.solidFirstSpec.plain.varTypes Tryz.prog ++ Tryz.f7.resultTypes.toList).any (Tryz.prog.wideKeysFrom ·))) = true := by kernel_rfl
theorem LP : (Rows.solidFirstSpec.vars.all (Tryz.prog.varReadable ·)) = true := by kernel_rfl
theorem LQ : (Tryz.f7.resultTypes.all (fun t => Tryz.prog.readableRec t && decide (t < Tryz.prog.types.size))) = true := by kernel_rfl
theorem LU : ((Rows.solidFirstRow.ifacesOut == Tryz.f7.resultTypes.toList.any (Tryz.prog.ifacesRec ·))) = true := by kernel_rfl
theorem LV : ((Rows.solidFirstRow.loopsOut == Tryz.f7.resultTypes.toList.any (Tryz.prog.loopsFrom ·))) = true := by kernel_rfl
theorem LW : ((Rows.solidFirstRow.plainKeys == Tryz.prog.plainKeys)) = true := by kernel_rfl
theorem LX : (Rows.solidFirstRow.shortTexts.isNone) = true := by kernel_rfl
theorem LY : (Tryz.prog.stopsHeard) = true := by kernel_rfl
theorem LZ : (Tryz.prog.mayEnter) = true := by kernel_rfl
theorem L6 : ((Rows.solidFirstRow.lifted == Tryz.prog.liftsFinal)) = true := by kernel_rfl
theorem L8 : ((Tryz.prog.make == some Rows.solidFirstRow.make)) = true := by kernel_rfl
theorem L9 : ((Rows.solidFirstRow.kinds == (if Rows.solidFirstRow.domain.isEmpty then [] else Tryz.f7.params.toList.map fun t => match Tryz.prog.underlying t with | some (.int k) => some k | _ => none))) = true := by kernel_rfl
theorem Mc : ((Rows.solidFirstRow.pinned == Rows.solidFirstRow.pinnedBy)) = true := by kernel_rfl
theorem Md : ((Rows.solidFirstRow.veiled == (Tryz.f7.params.toList ++ Rows.solidFirstSpec.plain.varTypes Tryz.prog ++ Tryz.f7.resultTypes.toList).any (Tryz.prog.veiledRec ·))) = true := by kernel_rfl
theorem Me : (Rows.solidFirstRow.veiledFits Tryz.prog Tryz.f7.params.toList (Tryz.f7.params.toList ++ Rows.solidFirstSpec.plain.varTypes Tryz.prog ++ Tryz.f7.resultTypes.toList)) = true := by kernel_rfl
theorem kH {a b : Bool} (h : a = true) (k : b = true) : (a && b) = true := by subst h; subst k; rfl
theorem TG : joinedFacts Tryz.pinned.checked.prog 7 Tryz.f7 Rows.solidFirstSpec Rows.solidFirstRow = true := kH (kH (kH (kH (kH (kH (kH (kH (kH (kH (kH (kH (kH (kH (kH (kH (kH (kH (kH (kH (kH (kH (kH (kH (kH (kH (kH (kH (kH (kH (kH (OO) E8) OQ) OT) OU) OV) OW) OX) OY) OZ) Lu) LC) LD) LG) LH) LJ) LK) LM) LP) LQ) LU) LV) LW) LX) LY) LZ) L6) L8) L9) Mc) Md) Me
theorem TJ : Tryz.f7.isWrapper Tryz.pinned.checked.prog Rows.solidFirstRow.wrapper Rows.solidFirstRow.mainSum := by unfold Func.isWrapper; first | (rw [if_pos (by decide +kernel)]; kernel_rfl) | (rw [if_neg (by decide +kernel)]; exact ⟨rfl, rfl⟩)
theorem TK : Tryz.f7.isInstance Tryz.pinned.checked.prog Rows.solidFirstRow.origin Rows.solidFirstRow.targs := of_decide_eq_true (by kernel_rfl)
theorem TM : Tryz.pinned.checked.prog.funcNamed Rows.solidFirstRow.func = some 7 := by kernel_rfl
end Go.Proofs.YtbcegholicnflaaGreat
