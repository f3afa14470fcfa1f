/- Lemmas for the statements of this seat (X13): they hold without conditions beyond those that each one states. -/
import Derived.Test.YtdmejgfcaacdoaaGreatX12
import Derived.Laws.StructEq
/- The abstract machine,part 19: the laws by which conditions are worked out,bundled. -/
namespace Go.Proofs.YtdmejgfcaacdoaaGreat.Abs
set_option linter.unusedSimpArgs false
open Go Go.RowKit
theorem VP0 : type_of% (
 And.intro (@vc.eq_1) <|
 And.intro (@vc.eq_2) <|
 And.intro (@vc.eq_3) <|
 And.intro (@vc.eq_4) <|
 And.intro (@vc.eq_5) <|
 And.intro (@vc.eq_6) <|
 And.intro (@vc.eq_7) <|
 And.intro (@vc.eq_8) <|
 And.intro (@vc.eq_9) <|
 And.intro (@vc.eq_10) <|
 And.intro (@vc.eq_11) <|
 And.intro (@vc.eq_12) <|
 And.intro (@vc.eq_13) <|
 And.intro (@vcOps.eq_1) <|
 And.intro (@vcOps.eq_2) <|
 And.intro (@vcOp.eq_1) <|
 And.intro (@vcGuard.eq_def) <|
 And.intro (@ev.eq_1) <|
 And.intro (@vcCall.eq_def) <|
 And.intro (@vcBin.eq_def) <|
 And.intro (@vcInts.eq_def) <|
 And.intro (@vcShift.eq_def) <|
 And.intro (@vcFresh.eq_1) <|
 And.intro (@vcLookup.eq_def) <|
 And.intro (@vcMapUpdate.eq_def) <|
 And.intro (@vcNext.eq_def) <|
 And.intro (@vcRange.eq_def) <|
 And.intro (@vcCopy.eq_def) <|
 And.intro (@vcOpsD.eq_1) <|
 And.intro (@vcOpsD.eq_2) <|
 And.intro (@vcOpsD.eq_3) <|
 And.intro (@vcOpD.eq_1) <|
 And.intro (@evD.eq_1) <|
 And.intro (@vcLenTD.eq_def) <|
 And.intro (@vcLenD.eq_def) <|
 And.intro (@vcBuiltinD.eq_def) <|
 And.intro (@vcTk.eq_def) <|
 And.intro (@vcNew.eq_def) <|
 And.intro (@vcCallD.eq_def) <|
 (@vcCallT.eq_def)) :=
 And.intro (@vc.eq_1) <|
 And.intro (@vc.eq_2) <|
 And.intro (@vc.eq_3) <|
 And.intro (@vc.eq_4) <|
 And.intro (@vc.eq_5) <|
 And.intro (@vc.eq_6) <|
 And.intro (@vc.eq_7) <|
 And.intro (@vc.eq_8) <|
 And.intro (@vc.eq_9) <|
 And.intro (@vc.eq_10) <|
 And.intro (@vc.eq_11) <|
 And.intro (@vc.eq_12) <|
 And.intro (@vc.eq_13) <|
 And.intro (@vcOps.eq_1) <|
 And.intro (@vcOps.eq_2) <|
 And.intro (@vcOp.eq_1) <|
 And.intro (@vcGuard.eq_def) <|
 And.intro (@ev.eq_1) <|
 And.intro (@vcCall.eq_def) <|
 And.intro (@vcBin.eq_def) <|
 And.intro (@vcInts.eq_def) <|
 And.intro (@vcShift.eq_def) <|
 And.intro (@vcFresh.eq_1) <|
 And.intro (@vcLookup.eq_def) <|
 And.intro (@vcMapUpdate.eq_def) <|
 And.intro (@vcNext.eq_def) <|
 And.intro (@vcRange.eq_def) <|
 And.intro (@vcCopy.eq_def) <|
 And.intro (@vcOpsD.eq_1) <|
 And.intro (@vcOpsD.eq_2) <|
 And.intro (@vcOpsD.eq_3) <|
 And.intro (@vcOpD.eq_1) <|
 And.intro (@evD.eq_1) <|
 And.intro (@vcLenTD.eq_def) <|
 And.intro (@vcLenD.eq_def) <|
 And.intro (@vcBuiltinD.eq_def) <|
 And.intro (@vcTk.eq_def) <|
 And.intro (@vcNew.eq_def) <|
 And.intro (@vcCallD.eq_def) <|
 (@vcCallT.eq_def)
theorem VP1 : type_of% (
 And.intro (@vcEqAgg.eq_def) <|
 And.intro (@vcUn.eq_def) <|
 And.intro (@vcConvert.eq_def) <|
 And.intro (@vcLenT.eq_def) <|
 And.intro (@vcLen.eq_def) <|
 And.intro (@vcBuiltin.eq_def) <|
 And.intro (@vcAppend.eq_def) <|
 And.intro (@vcMinMax.eq_def) <|
 And.intro (@vcPick.eq_def) <|
 And.intro (@vcIndexAddr.eq_def) <|
 And.intro (@vcIndex.eq_def) <|
 And.intro (@vcLoad.eq_def) <|
 And.intro (@vcFrom.eq_def) <|
 And.intro (@vcStore.eq_def) <|
 And.intro (@vcStoreAt.eq_1) <|
 And.intro (@vcNil.eq_def) <|
 And.intro (@vcFieldAddr.eq_1) <|
 And.intro (@vcField.eq_1) <|
 And.intro (@vcBuild.eq_1) <|
 And.intro (@vcBuildSlice.eq_1) <|
 And.intro (@vcMakeSlice.eq_def) <|
 And.intro (@vcSliceOp.eq_def) <|
 And.intro (@vcExtract.eq_def) <|
 And.intro (@retK.eq_def) <|
 And.intro (@vcRet.eq_1) <|
 And.intro (@vcRets.eq_1) <|
 And.intro (@vcRets.eq_2) <|
 And.intro (@vcRets.eq_3) <|
 And.intro (@loopK.eq_def) <|
 And.intro (@rangeK.eq_def) <|
 And.intro (@busyK.eq_def) <|
 And.intro (@roundK.eq_def) <|
 And.intro (@upd.eq_1) <|
 And.intro (@lookV.eq_1) <|
 And.intro (@lookV.eq_2) <|
 And.intro (@lookO.eq_1) <|
 And.intro (@lookO.eq_2) <|
 And.intro (@lookL.eq_1) <|
 And.intro (@lookL.eq_2) <|
 (@laidV.eq_def)) :=
 And.intro (@vcEqAgg.eq_def) <|
 And.intro (@vcUn.eq_def) <|
 And.intro (@vcConvert.eq_def) <|
 And.intro (@vcLenT.eq_def) <|
 And.intro (@vcLen.eq_def) <|
 And.intro (@vcBuiltin.eq_def) <|
 And.intro (@vcAppend.eq_def) <|
 And.intro (@vcMinMax.eq_def) <|
 And.intro (@vcPick.eq_def) <|
 And.intro (@vcIndexAddr.eq_def) <|
 And.intro (@vcIndex.eq_def) <|
 And.intro (@vcLoad.eq_def) <|
 And.intro (@vcFrom.eq_def) <|
 And.intro (@vcStore.eq_def) <|
 And.intro (@vcStoreAt.eq_1) <|
 And.intro (@vcNil.eq_def) <|
 And.intro (@vcFieldAddr.eq_1) <|
 And.intro (@vcField.eq_1) <|
 And.intro (@vcBuild.eq_1) <|
 And.intro (@vcBuildSlice.eq_1) <|
 And.intro (@vcMakeSlice.eq_def) <|
 And.intro (@vcSliceOp.eq_def) <|
 And.intro (@vcExtract.eq_def) <|
 And.intro (@retK.eq_def) <|
 And.intro (@vcRet.eq_1) <|
 And.intro (@vcRets.eq_1) <|
 And.intro (@vcRets.eq_2) <|
 And.intro (@vcRets.eq_3) <|
 And.intro (@loopK.eq_def) <|
 And.intro (@rangeK.eq_def) <|
 And.intro (@busyK.eq_def) <|
 And.intro (@roundK.eq_def) <|
 And.intro (@upd.eq_1) <|
 And.intro (@lookV.eq_1) <|
 And.intro (@lookV.eq_2) <|
 And.intro (@lookO.eq_1) <|
 And.intro (@lookO.eq_2) <|
 And.intro (@lookL.eq_1) <|
 And.intro (@lookL.eq_2) <|
 (@laidV.eq_def)
theorem VP2 : type_of% (
 (@isIntKey.eq_def)) :=
 (@isIntKey.eq_def)
theorem VQ0 : type_of% (
 And.intro (@noneF.eq_1) <|
 And.intro (@avs.eq_1) <|
 And.intro (@avs.eq_2) <|
 And.intro (@avs.eq_3) <|
 And.intro (@eqCells.eq_1) <|
 And.intro (@eqCells.eq_2) <|
 And.intro (@eqCells.eq_3) <|
 And.intro (@eqCells.eq_4) <|
 And.intro (@eqCells.eq_5) <|
 And.intro (@fieldOf.eq_1) <|
 And.intro (@placeOf.eq_1) <|
 And.intro (@placeOf.eq_2) <|
 And.intro (@placeOf.eq_3) <|
 And.intro (@arrKnown.eq_1) <|
 And.intro (@arrKnown.eq_2) <|
 And.intro (@buildFrom.eq_1) <|
 And.intro (@buildFrom.eq_2) <|
 And.intro (@buildFrom.eq_3) <|
 And.intro (@sliceFrom.eq_1) <|
 And.intro (@sliceFrom.eq_2) <|
 And.intro (@sliceFrom.eq_3) <|
 And.intro (@overlay.eq_1) <|
 And.intro (@zeroOf.eq_1) <|
 And.intro (@known.eq_1) <|
 And.intro (@known.eq_2) <|
 And.intro (@flat.eq_1) <|
 And.intro (@flat.eq_2) <|
 And.intro (@flat.eq_3) <|
 And.intro (@flat.eq_4) <|
 And.intro (@bound.eq_1) <|
 And.intro (@bound.eq_2) <|
 And.intro (@bound.eq_3) <|
 And.intro (@retVal.eq_1) <|
 And.intro (@retVal.eq_2) <|
 And.intro (@resSlots.eq_1) <|
 And.intro (@resSlots.eq_2) <|
 And.intro (@resSlots.eq_3) <|
 And.intro (@entry.eq_1) <|
 And.intro (@Head.st.eq_1) <|
 (@env_T)) :=
 And.intro (@noneF.eq_1) <|
 And.intro (@avs.eq_1) <|
 And.intro (@avs.eq_2) <|
 And.intro (@avs.eq_3) <|
 And.intro (@eqCells.eq_1) <|
 And.intro (@eqCells.eq_2) <|
 And.intro (@eqCells.eq_3) <|
 And.intro (@eqCells.eq_4) <|
 And.intro (@eqCells.eq_5) <|
 And.intro (@fieldOf.eq_1) <|
 And.intro (@placeOf.eq_1) <|
 And.intro (@placeOf.eq_2) <|
 And.intro (@placeOf.eq_3) <|
 And.intro (@arrKnown.eq_1) <|
 And.intro (@arrKnown.eq_2) <|
 And.intro (@buildFrom.eq_1) <|
 And.intro (@buildFrom.eq_2) <|
 And.intro (@buildFrom.eq_3) <|
 And.intro (@sliceFrom.eq_1) <|
 And.intro (@sliceFrom.eq_2) <|
 And.intro (@sliceFrom.eq_3) <|
 And.intro (@overlay.eq_1) <|
 And.intro (@zeroOf.eq_1) <|
 And.intro (@known.eq_1) <|
 And.intro (@known.eq_2) <|
 And.intro (@flat.eq_1) <|
 And.intro (@flat.eq_2) <|
 And.intro (@flat.eq_3) <|
 And.intro (@flat.eq_4) <|
 And.intro (@bound.eq_1) <|
 And.intro (@bound.eq_2) <|
 And.intro (@bound.eq_3) <|
 And.intro (@retVal.eq_1) <|
 And.intro (@retVal.eq_2) <|
 And.intro (@resSlots.eq_1) <|
 And.intro (@resSlots.eq_2) <|
 And.intro (@resSlots.eq_3) <|
 And.intro (@entry.eq_1) <|
 And.intro (@Head.st.eq_1) <|
 (@env_T)
theorem VQ1 : type_of% (
 And.intro (@env_P) <|
 And.intro (@env_H) <|
 And.intro (@St.put.eq_1) <|
 And.intro (@St.put.eq_2) <|
 And.intro (@St.sv.eq_1) <|
 And.intro (@St.sv.eq_2) <|
 And.intro (@St.sv.eq_3) <|
 And.intro (@St.sv.eq_4) <|
 And.intro (@St.ow.eq_1) <|
 And.intro (@St.ow.eq_2) <|
 And.intro (@St.ow.eq_3) <|
 And.intro (@St.eff.eq_1) <|
 And.intro (@St.eff.eq_2) <|
 And.intro (@St.eff.eq_3) <|
 And.intro (@St.eff.eq_4) <|
 And.intro (@St.eff.eq_5) <|
 And.intro (@St.eff.eq_6) <|
 And.intro (@St.eff.eq_7) <|
 And.intro (@St.eff.eq_8) <|
 And.intro (@St.eff.eq_9) <|
 And.intro (@St.take.eq_1) <|
 And.intro (@St.take.eq_2) <|
 And.intro (@St.takeO.eq_1) <|
 And.intro (@St.takeO.eq_2) <|
 And.intro (@St.freezes.eq_1) <|
 And.intro (@St.freezes.eq_2) <|
 And.intro (@St.freezes.eq_3) <|
 And.intro (@St.freeze.eq_1) <|
 And.intro (@takes.eq_1) <|
 And.intro (@isSlice.eq_1) <|
 And.intro (@isSlice.eq_2) <|
 And.intro (@isShift.eq_1) <|
 And.intro (@isShift.eq_2) <|
 And.intro (@isShift.eq_3) <|
 And.intro (@TyI.agg.eq_1) <|
 And.intro (@cvv.eq_1) <|
 And.intro (@cvv.eq_2) <|
 And.intro (@cvv.eq_3) <|
 And.intro (@cvv.eq_4) <|
 (@cvv.eq_5)) :=
 And.intro (@env_P) <|
 And.intro (@env_H) <|
 And.intro (@St.put.eq_1) <|
 And.intro (@St.put.eq_2) <|
 And.intro (@St.sv.eq_1) <|
 And.intro (@St.sv.eq_2) <|
 And.intro (@St.sv.eq_3) <|
 And.intro (@St.sv.eq_4) <|
 And.intro (@St.ow.eq_1) <|
 And.intro (@St.ow.eq_2) <|
 And.intro (@St.ow.eq_3) <|
 And.intro (@St.eff.eq_1) <|
 And.intro (@St.eff.eq_2) <|
 And.intro (@St.eff.eq_3) <|
 And.intro (@St.eff.eq_4) <|
 And.intro (@St.eff.eq_5) <|
 And.intro (@St.eff.eq_6) <|
 And.intro (@St.eff.eq_7) <|
 And.intro (@St.eff.eq_8) <|
 And.intro (@St.eff.eq_9) <|
 And.intro (@St.take.eq_1) <|
 And.intro (@St.take.eq_2) <|
 And.intro (@St.takeO.eq_1) <|
 And.intro (@St.takeO.eq_2) <|
 And.intro (@St.freezes.eq_1) <|
 And.intro (@St.freezes.eq_2) <|
 And.intro (@St.freezes.eq_3) <|
 And.intro (@St.freeze.eq_1) <|
 And.intro (@takes.eq_1) <|
 And.intro (@isSlice.eq_1) <|
 And.intro (@isSlice.eq_2) <|
 And.intro (@isShift.eq_1) <|
 And.intro (@isShift.eq_2) <|
 And.intro (@isShift.eq_3) <|
 And.intro (@TyI.agg.eq_1) <|
 And.intro (@cvv.eq_1) <|
 And.intro (@cvv.eq_2) <|
 And.intro (@cvv.eq_3) <|
 And.intro (@cvv.eq_4) <|
 (@cvv.eq_5)
theorem VQ2 : type_of% (
 And.intro (@cvv.eq_6) <|
 And.intro (@cvv.eq_7) <|
 And.intro (@cvv.eq_8) <|
 And.intro (@undefS.eq_1) <|
 And.intro (@gslot.eq_1) <|
 And.intro (@AV.cells.eq_1) <|
 And.intro (@AV.cells.eq_2) <|
 And.intro (@ints.eq_1) <|
 And.intro (@inR_i64) <|
 And.intro (@inR_u8) <|
 And.intro (@maxLen_eq) <|
 And.intro (@small.eq_1) <|
 And.intro (@smallK.eq_1) <|
 And.intro (@smallK.eq_2) <|
 And.intro (@IntKind.bits.eq_1) <|
 And.intro (@IntKind.bits.eq_2) <|
 And.intro (@IntKind.bits.eq_3) <|
 And.intro (@IntKind.bits.eq_4) <|
 And.intro (@IntKind.bits.eq_5) <|
 And.intro (@IntKind.bits.eq_6) <|
 And.intro (@IntKind.bits.eq_7) <|
 And.intro (@IntKind.bits.eq_8) <|
 And.intro (@VIdx_map) <|
 And.intro (@List.map_cons.{0,0}) <|
 And.intro (@List.map_nil.{0,0}) <|
 And.intro (@List.zip_cons_cons.{0,0}) <|
 And.intro (@List.zip_nil_right.{0,0}) <|
 And.intro (@List.zip_nil_left.{0,0}) <|
 And.intro (@List.append_nil.{0}) <|
 And.intro (@List.nil_append.{0}) <|
 And.intro (@List.cons_append.{0}) <|
 And.intro (@List.length_cons.{0}) <|
 And.intro (@List.length_nil.{0}) <|
 And.intro (@List.length_map.{0,0}) <|
 And.intro (@List.replicate_succ.{0}) <|
 And.intro (@List.replicate_zero.{0}) <|
 And.intro (@List.set_cons_zero.{0}) <|
 And.intro (@List.set_cons_succ.{0}) <|
 And.intro (@List.set_nil.{0}) <|
 And.intro (@List.take_succ_cons.{0}) <|
 And.intro (@List.take_zero.{0}) <|
 (@List.take_nil.{0})) :=
 And.intro (@cvv.eq_6) <|
 And.intro (@cvv.eq_7) <|
 And.intro (@cvv.eq_8) <|
 And.intro (@undefS.eq_1) <|
 And.intro (@gslot.eq_1) <|
 And.intro (@AV.cells.eq_1) <|
 And.intro (@AV.cells.eq_2) <|
 And.intro (@ints.eq_1) <|
 And.intro (@inR_i64) <|
 And.intro (@inR_u8) <|
 And.intro (@maxLen_eq) <|
 And.intro (@small.eq_1) <|
 And.intro (@smallK.eq_1) <|
 And.intro (@smallK.eq_2) <|
 And.intro (@IntKind.bits.eq_1) <|
 And.intro (@IntKind.bits.eq_2) <|
 And.intro (@IntKind.bits.eq_3) <|
 And.intro (@IntKind.bits.eq_4) <|
 And.intro (@IntKind.bits.eq_5) <|
 And.intro (@IntKind.bits.eq_6) <|
 And.intro (@IntKind.bits.eq_7) <|
 And.intro (@IntKind.bits.eq_8) <|
 And.intro (@VIdx_map) <|
 And.intro (@List.map_cons.{0,0}) <|
 And.intro (@List.map_nil.{0,0}) <|
 And.intro (@List.zip_cons_cons.{0,0}) <|
 And.intro (@List.zip_nil_right.{0,0}) <|
 And.intro (@List.zip_nil_left.{0,0}) <|
 And.intro (@List.append_nil.{0}) <|
 And.intro (@List.nil_append.{0}) <|
 And.intro (@List.cons_append.{0}) <|
 And.intro (@List.length_cons.{0}) <|
 And.intro (@List.length_nil.{0}) <|
 And.intro (@List.length_map.{0,0}) <|
 And.intro (@List.replicate_succ.{0}) <|
 And.intro (@List.replicate_zero.{0}) <|
 And.intro (@List.set_cons_zero.{0}) <|
 And.intro (@List.set_cons_succ.{0}) <|
 And.intro (@List.set_nil.{0}) <|
 And.intro (@List.take_succ_cons.{0}) <|
 And.intro (@List.take_zero.{0}) <|
 (@List.take_nil.{0})
theorem VQ3 : type_of% (
 And.intro (@List.drop_succ_cons.{0}) <|
 And.intro (@List.drop_zero.{0}) <|
 And.intro (@List.drop_nil.{0}) <|
 And.intro (@List.all_cons.{0}) <|
 And.intro (@List.all_nil.{0}) <|
 And.intro (@List.getElem?_toArray.{0}) <|
 And.intro (@List.getElem?_cons_succ.{0}) <|
 And.intro (@List.getElem?_cons_zero.{0}) <|
 And.intro (@List.getElem?_nil.{0}) <|
 And.intro (@List.head?_cons.{0}) <|
 And.intro (@List.head?_nil.{0}) <|
 And.intro (@Option.bind_some.{0,0}) <|
 And.intro (@Option.bind_none.{0,0}) <|
 And.intro (@Option.map_some.{0,0}) <|
 And.intro (@Option.map_none.{0,0}) <|
 And.intro (@Option.isSome_some.{0}) <|
 And.intro (@Option.isSome_none.{0}) <|
 And.intro (@Option.getD_some.{0}) <|
 And.intro (@Option.getD_none.{0}) <|
 And.intro (@Option.some.injEq.{0}) <|
 And.intro (@Nat.add_zero) <|
 And.intro (@Nat.zero_add) <|
 And.intro (@Nat.one_mul) <|
 And.intro (@Nat.mul_one) <|
 And.intro (@Nat.zero_mul) <|
 And.intro (@Int.toNat_natCast) <|
 And.intro (@Int.ofNat_eq_natCast) <|
 And.intro (@decide_eq_true_eq) <|
 And.intro (@decide_eq_false_iff_not) <|
 And.intro (@Bool.false_eq_true) <|
 And.intro (@Bool.true_eq_false) <|
 And.intro (@false_implies) <|
 And.intro (@true_implies) <|
 And.intro (@and_true) <|
 And.intro (@true_and) <|
 And.intro (@and_false) <|
 And.intro (@false_and) <|
 And.intro (@and_self) <|
 And.intro (@Bool.not_false) <|
 (@Bool.not_true)) :=
 And.intro (@List.drop_succ_cons.{0}) <|
 And.intro (@List.drop_zero.{0}) <|
 And.intro (@List.drop_nil.{0}) <|
 And.intro (@List.all_cons.{0}) <|
 And.intro (@List.all_nil.{0}) <|
 And.intro (@List.getElem?_toArray.{0}) <|
 And.intro (@List.getElem?_cons_succ.{0}) <|
 And.intro (@List.getElem?_cons_zero.{0}) <|
 And.intro (@List.getElem?_nil.{0}) <|
 And.intro (@List.head?_cons.{0}) <|
 And.intro (@List.head?_nil.{0}) <|
 And.intro (@Option.bind_some.{0,0}) <|
 And.intro (@Option.bind_none.{0,0}) <|
 And.intro (@Option.map_some.{0,0}) <|
 And.intro (@Option.map_none.{0,0}) <|
 And.intro (@Option.isSome_some.{0}) <|
 And.intro (@Option.isSome_none.{0}) <|
 And.intro (@Option.getD_some.{0}) <|
 And.intro (@Option.getD_none.{0}) <|
 And.intro (@Option.some.injEq.{0}) <|
 And.intro (@Nat.add_zero) <|
 And.intro (@Nat.zero_add) <|
 And.intro (@Nat.one_mul) <|
 And.intro (@Nat.mul_one) <|
 And.intro (@Nat.zero_mul) <|
 And.intro (@Int.toNat_natCast) <|
 And.intro (@Int.ofNat_eq_natCast) <|
 And.intro (@decide_eq_true_eq) <|
 And.intro (@decide_eq_false_iff_not) <|
 And.intro (@Bool.false_eq_true) <|
 And.intro (@Bool.true_eq_false) <|
 And.intro (@false_implies) <|
 And.intro (@true_implies) <|
 And.intro (@and_true) <|
 And.intro (@true_and) <|
 And.intro (@and_false) <|
 And.intro (@false_and) <|
 And.intro (@and_self) <|
 And.intro (@Bool.not_false) <|
 (@Bool.not_true)
theorem VQ4 : type_of% (
 And.intro (@Bool.not_eq_true') <|
 And.intro (@Bool.not_eq_false') <|
 And.intro (@Bool.and_true) <|
 And.intro (@Bool.true_and) <|
 And.intro (@Bool.false_and) <|
 And.intro (@Bool.and_false) <|
 And.intro (@not_true_eq_false) <|
 And.intro (@not_false_eq_true) <|
 And.intro (@ne_eq.{1}) <|
 And.intro (@Int.natCast_zero) <|
 And.intro (@Int.natCast_one) <|
 And.intro (@roundSt.eq_1) <|
 And.intro (@SV.av.eq_1) <|
 And.intro (@SV.av.eq_2) <|
 And.intro (@envR_T) <|
 And.intro (@envR_P) <|
 And.intro (@envR_H) <|
 And.intro (@natDivPow) <|
 And.intro (@natMulPow) <|
 And.intro (@oneMulPow) <|
 And.intro (@toNatOne) <|
 And.intro (@testBit_dec) <|
 And.intro (@testBit_dec0) <|
 And.intro (@testBit_prop) <|
 And.intro (@testBit_prop0) <|
 And.intro (@env_cut) <|
 And.intro (@envR_cut) <|
 And.intro (@envC_T) <|
 And.intro (@envC_P) <|
 And.intro (@envC_H) <|
 And.intro (@envC_cut) <|
 And.intro (@cutAt.eq_1) <|
 And.intro (@cutAt.eq_2) <|
 And.intro (@modeAt.eq_1) <|
 And.intro (@vcSome.eq_1) <|
 (@vcSome.eq_2)) :=
 And.intro (@Bool.not_eq_true') <|
 And.intro (@Bool.not_eq_false') <|
 And.intro (@Bool.and_true) <|
 And.intro (@Bool.true_and) <|
 And.intro (@Bool.false_and) <|
 And.intro (@Bool.and_false) <|
 And.intro (@not_true_eq_false) <|
 And.intro (@not_false_eq_true) <|
 And.intro (@ne_eq.{1}) <|
 And.intro (@Int.natCast_zero) <|
 And.intro (@Int.natCast_one) <|
 And.intro (@roundSt.eq_1) <|
 And.intro (@SV.av.eq_1) <|
 And.intro (@SV.av.eq_2) <|
 And.intro (@envR_T) <|
 And.intro (@envR_P) <|
 And.intro (@envR_H) <|
 And.intro (@natDivPow) <|
 And.intro (@natMulPow) <|
 And.intro (@oneMulPow) <|
 And.intro (@toNatOne) <|
 And.intro (@testBit_dec) <|
 And.intro (@testBit_dec0) <|
 And.intro (@testBit_prop) <|
 And.intro (@testBit_prop0) <|
 And.intro (@env_cut) <|
 And.intro (@envR_cut) <|
 And.intro (@envC_T) <|
 And.intro (@envC_P) <|
 And.intro (@envC_H) <|
 And.intro (@envC_cut) <|
 And.intro (@cutAt.eq_1) <|
 And.intro (@cutAt.eq_2) <|
 And.intro (@modeAt.eq_1) <|
 And.intro (@vcSome.eq_1) <|
 (@vcSome.eq_2)
theorem VT : type_of% (
 And.intro ty_1 <|
 And.intro ty_2 <|
 And.intro ty_3 <|
 And.intro ty_4 <|
 And.intro ty_5 <|
 And.intro ty_9 <|
 And.intro ty_12 <|
 And.intro ty_13 <|
 And.intro ty_15 <|
 And.intro ty_16 <|
 And.intro ty_17 <|
 And.intro ty_18 <|
 And.intro ty_21 <|
 And.intro ty_22 <|
 And.intro ty_23 <|
 And.intro ty_24 <|
 And.intro ty_25 <|
 And.intro ty_26 <|
 And.intro ty_28 <|
 And.intro ty_29 <|
 And.intro ty_30 <|
 And.intro ty_31 <|
 And.intro ty_32 <|
 And.intro ty_33 <|
 And.intro ty_34 <|
 And.intro ty_35 <|
 And.intro ty_36 <|
 And.intro ty_37 <|
 And.intro ty_38 <|
 And.intro ty_39 <|
 And.intro ty_40 <|
 And.intro ty_41 <|
 And.intro ty_42 <|
 And.intro ty_43 <|
 And.intro ty_45 <|
 And.intro ty_46 <|
 And.intro ty_48 <|
 And.intro ty_49 <|
 And.intro ty_50 <|
 And.intro ty_51 <|
 And.intro ty_53 <|
 And.intro ty_54 <|
 And.intro ty_55 <|
 And.intro ty_56 <|
 And.intro ty_57 <|
 And.intro ty_58 <|
 And.intro ty_59 <|
 And.intro ty_60 <|
 And.intro ty_61 <|
 And.intro ty_62 <|
 And.intro ty_63 <|
 And.intro ty_65 <|
 And.intro ty_66 <|
 And.intro ty_67 <|
 And.intro ty_68 <|
 And.intro ty_69 <|
 And.intro ty_71 <|
 And.intro ty_72 <|
 And.intro ty_73 <|
 And.intro ty_74 <|
 And.intro ty_75 <|
 And.intro ty_76 <|
 And.intro ty_78 <|
 And.intro ty_79 <|
 And.intro ty_80 <|
 And.intro ty_81 <|
 And.intro ty_82 <|
 And.intro ty_83 <|
 And.intro ty_84 <|
 And.intro ty_85 <|
 And.intro ty_86 <|
 And.intro ty_87 <|
 And.intro ty_89 <|
 And.intro ty_90 <|
 And.intro ty_91 <|
 And.intro ty_92 <|
 And.intro ty_93 <|
 And.intro ty_94 <|
 And.intro ty_95 <|
 And.intro ty_96 <|
 And.intro ty_97 <|
 And.intro ty_98 <|
 And.intro ty_99 <|
 And.intro ty_100 <|
 And.intro ty_101 <|
 And.intro ty_102 <|
 And.intro ty_104 <|
 And.intro ty_105 <|
 And.intro ty_106 <|
 And.intro ty_107 <|
 And.intro ty_108 <|
 And.intro ty_109 <|
 And.intro ty_111 <|
 And.intro ty_112 <|
 And.intro ty_113 <|
 And.intro ty_115 <|
 And.intro ty_116 <|
 And.intro ty_117 <|
 And.intro ty_118 <|
 And.intro ty_119 <|
 And.intro ty_120 <|
 And.intro ty_121 <|
 And.intro ty_122 <|
 And.intro ty_123 <|
 And.intro ty_125 <|
 And.intro ty_126 <|
 And.intro ty_127 <|
 And.intro ty_128 <|
 And.intro ty_129 <|
 And.intro ty_130 <|
 And.intro ty_131 <|
 And.intro ty_132 <|
 And.intro ty_134 <|
 And.intro ty_135 <|
 And.intro ty_136 <|
 And.intro ty_137 <|
 And.intro ty_138 <|
 And.intro ty_139 <|
 And.intro ty_140 <|
 And.intro ty_141 <|
 And.intro ty_142 <|
 And.intro ty_144 <|
 And.intro ty_145 <|
 And.intro ty_146 <|
 And.intro ty_147 <|
 And.intro ty_148 <|
 And.intro ty_149 <|
 And.intro ty_150 <|
 And.intro ty_152 <|
 And.intro ty_153 <|
 And.intro ty_154 <|
 And.intro ty_156 <|
 And.intro ty_157 <|
 And.intro ty_158 <|
 And.intro ty_159 <|
 And.intro ty_161 <|
 And.intro ty_162 <|
 And.intro ty_163 <|
 And.intro ty_164 <|
 And.intro ty_165 <|
 And.intro ty_166 <|
 And.intro ty_167 <|
 And.intro ty_168 <|
 And.intro ty_169 <|
 And.intro ty_170 <|
 And.intro ty_171 <|
 And.intro ty_172 <|
 And.intro ty_173 <|
 And.intro ty_174 <|
 And.intro ty_175 <|
 And.intro ty_176 <|
 And.intro ty_177 <|
 And.intro ty_178 <|
 And.intro ty_179 <|
 And.intro ty_180 <|
 And.intro ty_181 <|
 And.intro ty_182 <|
 And.intro ty_183 <|
 And.intro ty_184 <|
 And.intro ty_185 <|
 And.intro ty_186 <|
 And.intro ty_187 <|
 And.intro ty_188 <|
 And.intro ty_189 <|
 And.intro ty_190 <|
 And.intro ty_191 <|
 And.intro ty_192 <|
 And.intro ty_193 <|
 And.intro ty_194 <|
 And.intro ty_195 <|
 And.intro ty_196 <|
 And.intro ty_197 <|
 And.intro ty_198 <|
 And.intro ty_199 <|
 And.intro ty_200 <|
 And.intro ty_201 <|
 And.intro ty_202 <|
 And.intro ty_203 <|
 And.intro ty_204 <|
 And.intro ty_205 <|
 And.intro ty_206 <|
 And.intro ty_208 <|
 And.intro ty_209 <|
 And.intro ty_210 <|
 And.intro ty_211 <|
 And.intro ty_212 <|
 And.intro ty_213 <|
 And.intro ty_214 <|
 And.intro ty_216 <|
 And.intro ty_217 <|
 And.intro ty_218 <|
 And.intro ty_219 <|
 And.intro ty_220 <|
 And.intro ty_221 <|
 And.intro ty_222 <|
 And.intro ty_223 <|
 And.intro ty_224 <|
 And.intro ty_225 <|
 And.intro ty_228 <|
 And.intro ty_230 <|
 And.intro ty_231 <|
 And.intro ty_232 <|
 And.intro ty_233 <|
 And.intro ty_234 <|
 And.intro ty_235 <|
 And.intro ty_236 <|
 And.intro ty_237 <|
 And.intro ty_238 <|
 And.intro ty_239 <|
 And.intro ty_240 <|
 And.intro ty_241 <|
 And.intro ty_242 <|
 And.intro ty_243 <|
 And.intro ty_244 <|
 And.intro ty_245 <|
 And.intro ty_246 <|
 And.intro ty_247 <|
 And.intro ty_248 <|
 And.intro ty_249 <|
 And.intro ty_250 <|
 And.intro ty_251 <|
 And.intro ty_252 <|
 And.intro ty_253 <|
 And.intro ty_254 <|
 And.intro ty_255 <|
 And.intro ty_256 <|
 And.intro ty_257 <|
 And.intro ty_258 <|
 And.intro ty_259 <|
 And.intro ty_260 <|
 And.intro ty_261 <|
 And.intro ty_262 <|
 And.intro ty_263 <|
 And.intro ty_264 <|
 And.intro ty_265 <|
 And.intro ty_266 <|
 And.intro ty_267 <|
 And.intro ty_269 <|
 And.intro ty_270 <|
 And.intro ty_275 <|
 And.intro ty_276 <|
 And.intro ty_279 <|
 ty_0) :=
 And.intro ty_1 <|
 And.intro ty_2 <|
 And.intro ty_3 <|
 And.intro ty_4 <|
 And.intro ty_5 <|
 And.intro ty_9 <|
 And.intro ty_12 <|
 And.intro ty_13 <|
 And.intro ty_15 <|
 And.intro ty_16 <|
 And.intro ty_17 <|
 And.intro ty_18 <|
 And.intro ty_21 <|
 And.intro ty_22 <|
 And.intro ty_23 <|
 And.intro ty_24 <|
 And.intro ty_25 <|
 And.intro ty_26 <|
 And.intro ty_28 <|
 And.intro ty_29 <|
 And.intro ty_30 <|
 And.intro ty_31 <|
 And.intro ty_32 <|
 And.intro ty_33 <|
 And.intro ty_34 <|
 And.intro ty_35 <|
 And.intro ty_36 <|
 And.intro ty_37 <|
 And.intro ty_38 <|
 And.intro ty_39 <|
 And.intro ty_40 <|
 And.intro ty_41 <|
 And.intro ty_42 <|
 And.intro ty_43 <|
 And.intro ty_45 <|
 And.intro ty_46 <|
 And.intro ty_48 <|
 And.intro ty_49 <|
 And.intro ty_50 <|
 And.intro ty_51 <|
 And.intro ty_53 <|
 And.intro ty_54 <|
 And.intro ty_55 <|
 And.intro ty_56 <|
 And.intro ty_57 <|
 And.intro ty_58 <|
 And.intro ty_59 <|
 And.intro ty_60 <|
 And.intro ty_61 <|
 And.intro ty_62 <|
 And.intro ty_63 <|
 And.intro ty_65 <|
 And.intro ty_66 <|
 And.intro ty_67 <|
 And.intro ty_68 <|
 And.intro ty_69 <|
 And.intro ty_71 <|
 And.intro ty_72 <|
 And.intro ty_73 <|
 And.intro ty_74 <|
 And.intro ty_75 <|
 And.intro ty_76 <|
 And.intro ty_78 <|
 And.intro ty_79 <|
 And.intro ty_80 <|
 And.intro ty_81 <|
 And.intro ty_82 <|
 And.intro ty_83 <|
 And.intro ty_84 <|
 And.intro ty_85 <|
 And.intro ty_86 <|
 And.intro ty_87 <|
 And.intro ty_89 <|
 And.intro ty_90 <|
 And.intro ty_91 <|
 And.intro ty_92 <|
 And.intro ty_93 <|
 And.intro ty_94 <|
 And.intro ty_95 <|
 And.intro ty_96 <|
 And.intro ty_97 <|
 And.intro ty_98 <|
 And.intro ty_99 <|
 And.intro ty_100 <|
 And.intro ty_101 <|
 And.intro ty_102 <|
 And.intro ty_104 <|
 And.intro ty_105 <|
 And.intro ty_106 <|
 And.intro ty_107 <|
 And.intro ty_108 <|
 And.intro ty_109 <|
 And.intro ty_111 <|
 And.intro ty_112 <|
 And.intro ty_113 <|
 And.intro ty_115 <|
 And.intro ty_116 <|
 And.intro ty_117 <|
 And.intro ty_118 <|
 And.intro ty_119 <|
 And.intro ty_120 <|
 And.intro ty_121 <|
 And.intro ty_122 <|
 And.intro ty_123 <|
 And.intro ty_125 <|
 And.intro ty_126 <|
 And.intro ty_127 <|
 And.intro ty_128 <|
 And.intro ty_129 <|
 And.intro ty_130 <|
 And.intro ty_131 <|
 And.intro ty_132 <|
 And.intro ty_134 <|
 And.intro ty_135 <|
 And.intro ty_136 <|
 And.intro ty_137 <|
 And.intro ty_138 <|
 And.intro ty_139 <|
 And.intro ty_140 <|
 And.intro ty_141 <|
 And.intro ty_142 <|
 And.intro ty_144 <|
 And.intro ty_145 <|
 And.intro ty_146 <|
 And.intro ty_147 <|
 And.intro ty_148 <|
 And.intro ty_149 <|
 And.intro ty_150 <|
 And.intro ty_152 <|
 And.intro ty_153 <|
 And.intro ty_154 <|
 And.intro ty_156 <|
 And.intro ty_157 <|
 And.intro ty_158 <|
 And.intro ty_159 <|
 And.intro ty_161 <|
 And.intro ty_162 <|
 And.intro ty_163 <|
 And.intro ty_164 <|
 And.intro ty_165 <|
 And.intro ty_166 <|
 And.intro ty_167 <|
 And.intro ty_168 <|
 And.intro ty_169 <|
 And.intro ty_170 <|
 And.intro ty_171 <|
 And.intro ty_172 <|
 And.intro ty_173 <|
 And.intro ty_174 <|
 And.intro ty_175 <|
 And.intro ty_176 <|
 And.intro ty_177 <|
 And.intro ty_178 <|
 And.intro ty_179 <|
 And.intro ty_180 <|
 And.intro ty_181 <|
 And.intro ty_182 <|
 And.intro ty_183 <|
 And.intro ty_184 <|
 And.intro ty_185 <|
 And.intro ty_186 <|
 And.intro ty_187 <|
 And.intro ty_188 <|
 And.intro ty_189 <|
 And.intro ty_190 <|
 And.intro ty_191 <|
 And.intro ty_192 <|
 And.intro ty_193 <|
 And.intro ty_194 <|
 And.intro ty_195 <|
 And.intro ty_196 <|
 And.intro ty_197 <|
 And.intro ty_198 <|
 And.intro ty_199 <|
 And.intro ty_200 <|
 And.intro ty_201 <|
 And.intro ty_202 <|
 And.intro ty_203 <|
 And.intro ty_204 <|
 And.intro ty_205 <|
 And.intro ty_206 <|
 And.intro ty_208 <|
 And.intro ty_209 <|
 And.intro ty_210 <|
 And.intro ty_211 <|
 And.intro ty_212 <|
 And.intro ty_213 <|
 And.intro ty_214 <|
 And.intro ty_216 <|
 And.intro ty_217 <|
 And.intro ty_218 <|
 And.intro ty_219 <|
 And.intro ty_220 <|
 And.intro ty_221 <|
 And.intro ty_222 <|
 And.intro ty_223 <|
 And.intro ty_224 <|
 And.intro ty_225 <|
 And.intro ty_228 <|
 And.intro ty_230 <|
 And.intro ty_231 <|
 And.intro ty_232 <|
 And.intro ty_233 <|
 And.intro ty_234 <|
 And.intro ty_235 <|
 And.intro ty_236 <|
 And.intro ty_237 <|
 And.intro ty_238 <|
 And.intro ty_239 <|
 And.intro ty_240 <|
 And.intro ty_241 <|
 And.intro ty_242 <|
 And.intro ty_243 <|
 And.intro ty_244 <|
 And.intro ty_245 <|
 And.intro ty_246 <|
 And.intro ty_247 <|
 And.intro ty_248 <|
 And.intro ty_249 <|
 And.intro ty_250 <|
 And.intro ty_251 <|
 And.intro ty_252 <|
 And.intro ty_253 <|
 And.intro ty_254 <|
 And.intro ty_255 <|
 And.intro ty_256 <|
 And.intro ty_257 <|
 And.intro ty_258 <|
 And.intro ty_259 <|
 And.intro ty_260 <|
 And.intro ty_261 <|
 And.intro ty_262 <|
 And.intro ty_263 <|
 And.intro ty_264 <|
 And.intro ty_265 <|
 And.intro ty_266 <|
 And.intro ty_267 <|
 And.intro ty_269 <|
 And.intro ty_270 <|
 And.intro ty_275 <|
 And.intro ty_276 <|
 And.intro ty_279 <|
 ty_0
theorem VP : type_of% (And.intro VP0 <| And.intro VP1 <| VP2) := And.intro VP0 <| And.intro VP1 <| VP2
theorem iteSelf {α : Type} {c : Prop} [Decidable c] (d : α) : ite c d d = d := ite_self d
theorem VQ : type_of% (And.intro @iteSelf <| And.intro VQ0 <| And.intro VQ1 <| And.intro VQ2 <| And.intro VQ3 <| And.intro VQ4 <| And.intro VT <| (@ite_split)) := And.intro @iteSelf <| And.intro VQ0 <| And.intro VQ1 <| And.intro VQ2 <| And.intro VQ3 <| And.intro VQ4 <| And.intro VT <| (@ite_split)
theorem FP : type_of% (And.intro (@upd.eq_1) <| And.intro (@lookV.eq_1) <| And.intro (@lookV.eq_2) <| And.intro (@lookO.eq_1) <| And.intro (@lookO.eq_2) <| And.intro (@lookL.eq_1) (@lookL.eq_2)) := And.intro (@upd.eq_1) <| And.intro (@lookV.eq_1) <| And.intro (@lookV.eq_2) <| And.intro (@lookO.eq_1) <| And.intro (@lookO.eq_2) <| And.intro (@lookL.eq_1) (@lookL.eq_2)
theorem FE : type_of% (And.intro (@Fits.eq_1) <| And.intro (@fitsV.eq_1) <| And.intro (@fitsV.eq_2) <| And.intro (@fitsO.eq_1) <| And.intro (@fitsO.eq_2) <| And.intro (@fitsL.eq_1) <| And.intro (@fitsL.eq_2) <| And.intro (@ints.eq_1) <| And.intro and_true <| And.intro true_and (@Option.some.injEq.{0})) := And.intro (@Fits.eq_1) <| And.intro (@fitsV.eq_1) <| And.intro (@fitsV.eq_2) <| And.intro (@fitsO.eq_1) <| And.intro (@fitsO.eq_2) <| And.intro (@fitsL.eq_1) <| And.intro (@fitsL.eq_2) <| And.intro (@ints.eq_1) <| And.intro and_true <| And.intro true_and (@Option.some.injEq.{0})
theorem GL : (∀ {α : Type} (a : α),(a = a) = True) ∧ (∀ (h : Decidable True),@decide True h = true) ∧ (∀ (h : Decidable False),@decide False h = false) ∧ (∀ {α : Type} {h : Decidable True} (a b : α),@ite α True h a b = a) ∧ (∀ {α : Type} {h : Decidable False} (a b : α),@ite α False h a b = b) ∧ ((¬ True) = False) ∧ ∀ {α : Type} (a b : List α),List.append a b = a ++ b :=
 ⟨eq_self,fun _ => decide_true _,fun _ => decide_false _,if_true,if_false,not_true_eq_false,fun _ _ => rfl⟩
theorem LL : (∀ {α β : Type} (f : α → β) (l : List α),(l.map f).length = l.length) ∧ (∀ {α : Type} (a : α) (l : List α),(a :: l).length = l.length + 1) ∧ (∀ {α : Type},([] : List α).length = 0) ∧ (∀ {α : Type} (a b : List α),(a ++ b).length = a.length + b.length) ∧ ∀ n : Nat,0 + n = n :=
 ⟨fun _ _ => List.length_map _,fun _ _ => List.length_cons,List.length_nil,fun _ _ => List.length_append,Nat.zero_add⟩
theorem nlC {k : Int} (h : k ≤ 0) (n : Nat) : k ≤ (n : Int) := Int.le_trans h (Int.natCast_nonneg n)
theorem nbC {a b : Nat} (h : Nat.ble a b = true) : a ≤ b := Nat.le_of_ble_eq_true h
end Go.Proofs.YtdmejgfcaacdoaaGreat.Abs
/- Laws: '==' of copies and of views. -/
namespace Go.Proofs.YtdmejgfcaacdoaaGreat.Abs
set_option linter.unusedSimpArgs false
open Go Go.RowKit Go.Proofs
theorem part3 {cs : Array Value} {off : Nat} {v : Value} (h : cs[off]? = some v) (w : World) : (part 3 cs off).run Tryz.prog w = .ok v w := by
 unfold part
 rw [Sem.run_bind,tyok_3.agg w]
 simp [TyI.agg,h]
theorem eqInt3 (d : Nat) (a b : Int) (w : World) : (Op.equalIn (d + 1) 3 (.int .i64 a) (.int .i64 b)).run Tryz.prog w = .ok (decide (a = b)) w := by
 rw [run_equalIn_int w d 3 .i64 .i64 a b (by kernel_rfl)]
 by_cases h : a = b <;> simp [h]
theorem eqStep {d : Nat} {xs ys : Array Value} {f : Field} {fs : List Field} {a b : Int} {R : Bool} {w : World} (hn : f.name ≠ "_") (ht : f.type = 3) (hx : xs[f.offset]? = some (.int .i64 a)) (hy : ys[f.offset]? = some (.int .i64 b))
  (hr : (Op.eqFields (d + 1) xs ys fs).run Tryz.prog w = .ok R w) : (Op.eqFields (d + 1) xs ys (f :: fs)).run Tryz.prog w = .ok (decide (a = b) && R) w := by
 unfold Op.eqFields
 rw [if_pos hn,ht,Sem.run_bind,part3 hx,Result.andThen_ok,Sem.run_bind,part3 hy,Result.andThen_ok,Sem.run_bind,eqInt3,Result.andThen_ok]
 by_cases h : a = b
 ·simp [h,hr]
 ·simp [h]
set_option maxHeartbeats 4000000
set_option maxRecDepth 100000
theorem in_c (n lo hi : Int) : PCall Tryz.prog 29 [.int .i64 n,.int .i64 lo,.int .i64 hi] (.bool (decide (lo ≤ n ∧ n ≤ hi))) := by
 intro m
 (refine acall_intro (E := env fun _ => .imm) (envOk _) rfl Tryz.func29 rfl Tryz.call29 (by kernel_rfl) (by simp [Tryz.ntmps29]) ?_; simp only [Tryz.f29];  simp(maxSteps:=9^9)only[↓VP,VQ,seval])
 repeat'(first|intro _|apply And.intro)
 all_goals simp_all
 all_goals omega
def lessL : List Int → List Int → Bool
 | _,[] => false
 | [],_ :: _ => true
 | x :: xs,y :: ys => if x = y then lessL xs ys else decide (x < y)
theorem less_c (a b : List Int) : PCall Tryz.prog 97 [ints a,ints b] (.bool (lessL a b)) := by
 intro m
 (refine acall_len Tryz.call97 fun hlen => ?_; refine acall_intro (E := env fun _ => .imm) (envOk _) rfl Tryz.func97 rfl Tryz.call97 (by kernel_rfl) (by simp [Tryz.ntmps97]) ?_; simp only [Tryz.f97];  simp(maxSteps:=9^9)only[↓VP,VQ,seval])
 simp only [ints,lenOk_cons,lenOk_nil,List.length_map,and_true,maxLen_eq] at hlen
 obtain ⟨hla,hlb⟩ := hlen
 refine aloop (envOk _) (fun k : Nat => ⟨[(0,.v (ints a)),(1,.v (ints b)),(5,.v (.int .i64 k))],[],[],m⟩) (fun k => k ≤ a.length ∧ k ≤ b.length ∧ lessL (a.drop k) (b.drop k) = lessL a b) (fun k => a.length - k) 0 (fun _ => rfl) (by simp) (by simp [Fits,fitsV,fitsO,fitsL,upd,ints]) ?_
 intro k hk
 simp(maxSteps:=9^9)only[↓VP,VQ,seval]
 (refine adraw (by first | exact envOk _ | exact envCOk _ _ _) mixed [⟨false,false,0⟩,⟨false,false,0⟩,⟨false,false,0⟩,⟨false,false,0⟩,⟨false,false,0⟩,⟨false,false,0⟩,⟨false,false,0⟩,⟨false,false,0⟩,⟨false,false,0⟩,⟨false,false,0⟩,⟨false,false,0⟩,⟨false,false,0⟩,⟨false,false,0⟩,⟨false,false,0⟩,⟨false,false,0⟩,⟨false,false,0⟩,⟨false,false,0⟩,⟨false,false,0⟩,⟨false,false,0⟩,⟨false,false,0⟩,⟨false,false,0⟩] (by kernel_rfl) ?_; show vcOpsD _ _ _ (_ :: _) _ _)
 simp(maxSteps:=9^9)only[↓VP,VQ,seval]
 repeat'(first|intro _|apply And.intro)
 all_goals try omega
 ·refine ⟨k + 1,⟨by omega,by omega,?_⟩,by dsimp only; omega,?_⟩
  ·obtain ⟨_,_,h⟩ := hk
   have h1 : k < a.length := by omega
   have h2 : k < b.length := by omega
   rw [← h,List.drop_eq_getElem_cons h1,List.drop_eq_getElem_cons h2]
   have : a[k] = b[k] := by simp_all
   simp [lessL,this]
  ·simp only [FE,↓FP,seval]
   simp
 ·obtain ⟨hk1,hk2,h⟩ := hk
  (refine adraw (by first | exact envOk _ | exact envCOk _ _ _) mixed [⟨false,false,0⟩,⟨false,false,0⟩,⟨false,false,0⟩,⟨false,false,0⟩,⟨false,false,0⟩,⟨false,false,0⟩,⟨false,false,0⟩,⟨false,false,0⟩,⟨false,false,0⟩,⟨false,false,0⟩,⟨false,false,0⟩,⟨false,false,0⟩,⟨false,false,0⟩,⟨false,false,0⟩,⟨false,false,0⟩,⟨false,false,0⟩] (by kernel_rfl) ?_; show vcOpsD _ _ _ (_ :: _) _ _)
  simp(maxSteps:=9^9)only[↓VP,VQ,seval]
  repeat'(first|intro _|apply And.intro)
  all_goals try omega
  have h1 : k < a.length := by omega
  have h2 : k < b.length := by omega
  rw [← h,List.drop_eq_getElem_cons h1,List.drop_eq_getElem_cons h2]
  have e1 : a[k]! = a[k] := getD_idx h1
  have e2 : b[k]! = b[k] := getD_idx h2
  simp_all [lessL]
 ·obtain ⟨hk1,hk2,h⟩ := hk
  rw [← h,List.drop_eq_nil_of_le (show b.length ≤ k by omega)]
  cases a.drop k <;> rfl
 ·obtain ⟨hk1,hk2,h⟩ := hk
  rw [← h,List.drop_eq_nil_of_le (show b.length ≤ k by omega)]
  cases a.drop k <;> rfl
 ·obtain ⟨hk1,hk2,h⟩ := hk
  (refine adraw (by first | exact envOk _ | exact envCOk _ _ _) mixed [⟨false,false,0⟩,⟨false,false,0⟩,⟨false,false,0⟩,⟨false,false,0⟩,⟨false,false,0⟩,⟨false,false,0⟩,⟨false,false,0⟩,⟨false,false,0⟩,⟨false,false,0⟩,⟨false,false,0⟩,⟨false,false,0⟩,⟨false,false,0⟩,⟨false,false,0⟩,⟨false,false,0⟩,⟨false,false,0⟩,⟨false,false,0⟩] (by kernel_rfl) ?_; show vcOpsD _ _ _ (_ :: _) _ _)
  simp(maxSteps:=9^9)only[↓VP,VQ,seval]
  repeat'(first|intro _|apply And.intro)
  all_goals try omega
  have h2 : k < b.length := by omega
  rw [← h,List.drop_eq_nil_of_le (show a.length ≤ k by omega),List.drop_eq_getElem_cons h2]
  rfl
theorem lessL_irrefl : ∀ a : List Int,lessL a a = false
 | [] => rfl
 | x :: xs => by simp [lessL,lessL_irrefl xs]
theorem lessL_total : ∀ a b : List Int,lessL a b = false → lessL b a = false → a = b
 | [],[],_,_ => rfl
 | [],_ :: _,h,_ => by simp [lessL] at h
 | _ :: _,[],_,h => by simp [lessL] at h
 | x :: xs,y :: ys,h,k => by
  simp only [lessL] at h k
  by_cases e : x = y
  ·subst e
   simp only [if_pos] at h k
   rw [lessL_total xs ys h k]
  ·have e' : ¬ y = x := fun h => e h.symm
   simp only [if_neg e,if_neg e',decide_eq_false_iff_not] at h k
   omega
theorem ints_c (a b : List Int) : PCall Tryz.prog 37 [ints a,ints b] (.bool (decide (a = b))) := by
 intro m
 (refine acall_intro (E := env fun _ => .imm) (envOk _) rfl Tryz.func37 rfl Tryz.call37 (by kernel_rfl) (by simp [Tryz.ntmps37]) ?_; simp only [Tryz.f37];  simp(maxSteps:=9^9)only[↓VP,VQ,seval])
 repeat'(first|intro _|apply And.intro)
 all_goals try (refine ACall.pure (less_c _ _) ?_; simp(maxSteps:=9^9)only[↓VP,VQ,seval]; repeat'(first|intro _|apply And.intro))
 all_goals try (refine ACall.pure (less_c _ _) ?_; simp(maxSteps:=9^9)only[↓VP,VQ,seval]; repeat'(first|intro _|apply And.intro))
 ·rename_i h
  congr 1
  by_cases e : a = b
  ·subst e; simp [lessL_irrefl]
  ·cases hb : lessL b a with
   | true => simp [e]
   | false => exact absurd (lessL_total a b h hb) e
 ·rename_i h
  have e : ¬ a = b := by rintro rfl; exact h (lessL_irrefl a)
  simp [e]
 ·rename_i h
  have e : ¬ a = b := by rintro rfl; exact h rfl
  simp [e]
def idxL {α : Type} (p : α → Bool) : List α → Int
 | [] => -1
 | x :: xs => if p x then 0 else if idxL p xs < 0 then -1 else idxL p xs + 1
theorem idxL_neg {α : Type} {p : α → Bool} : ∀ {l : List α},(∀ x ∈ l,p x = false) → idxL p l = -1
 | [],_ => rfl
 | x :: xs,h => by
  have h1 := h x (by simp)
  have h2 := idxL_neg (p := p) (l := xs) fun y hy => h y (by simp [hy])
  simp [idxL,h1,h2]
theorem idxL_at {α : Type} {p : α → Bool} : ∀ {l : List α} {k : Nat} (hk : k < l.length),(∀ x ∈ l.take k,p x = false) → p l[k] = true → idxL p l = k
 | [],k,hk,_,_ => by simp at hk
 | x :: xs,0,_,_,h => by simp at h; simp [idxL,h]
 | x :: xs,k + 1,hk,h,h' => by
  have h1 := h x (by simp)
  have h2 := idxL_at (p := p) (l := xs) (k := k) (by simpa using hk) (fun y hy => h y (by simp [hy])) (by simpa using h')
  simp [idxL,h1,h2]
  omega
theorem idxL_some {α : Type} {p : α → Bool} : ∀ {l : List α},(0 ≤ idxL p l) ↔ ∃ x ∈ l,p x = true
 | [] => by simp [idxL]
 | x :: xs => by
  have := idxL_some (p := p) (l := xs)
  by_cases hp : p x = true
  ·simp [idxL,hp]
  ·by_cases h : 0 ≤ idxL p xs
   ·have h2 := this.1 h
    have h' : ¬ idxL p xs < 0 := by omega
    simp [idxL,hp,h',h2]
    omega
   ·have h2 := mt this.2 h
    have h' : idxL p xs < 0 := by omega
    simp only [idxL,hp,h',if_true,if_false]
    constructor
    ·intro h; simp at h
    ·rintro ⟨y,hy,hp'⟩
     rcases List.mem_cons.1 hy with rfl | hy
     ·exact absurd hp' hp
     ·exact absurd ⟨y,hy,hp'⟩ h2
theorem idxL_any {α : Type} (p : α → Bool) (l : List α) : decide (0 ≤ idxL p l) = l.any p := by
 rw [Bool.eq_iff_iff]
 simp [idxL_some]
theorem forall_take_succ {α : Type} {p : α → Prop} {l : List α} {k : Nat} (h : k < l.length) (h1 : ∀ x ∈ l.take k,p x) (h2 : p l[k]) : ∀ x ∈ l.take (k + 1),p x := by
 intro x hx
 rw [List.take_succ_eq_append_getElem h,List.mem_append,List.mem_singleton] at hx
 rcases hx with hx | rfl
 ·exact h1 x hx
 ·exact h2
theorem indexInt_c (g : FuncId) (caps : List AV) (l : List Int) (p : Int → Bool) (h : ∀ x ∈ l,PCall Tryz.prog g ([.int .i64 x] ++ caps) (.bool (p x))) :
  PCall Tryz.prog 169 [ints l,.fn (.func g) [] caps] (.int .i64 (idxL p l)) := by
 intro m
 (refine acall_len Tryz.call169 fun hlen => ?_; refine acall_intro (E := env fun _ => .imm) (envOk _) rfl Tryz.func169 rfl Tryz.call169 (by kernel_rfl) (by simp [Tryz.ntmps169]) ?_; simp only [Tryz.f169];  simp(maxSteps:=9^9)only[↓VP,VQ,seval])
 simp only [ints,lenOk_cons,lenOk_nil,List.length_map,and_true,maxLen_eq] at hlen
 intro _
 refine aloop (envOk _) (fun k : Nat => ⟨[(0,.v (ints l)),(1,.v (.fn (.func g) [] caps)),(7,.v (.int .i64 l.length)),(8,.v (.int .i64 k))],[],[],m⟩) (fun k => k ≤ l.length ∧ ∀ x ∈ l.take k,p x = false) (fun k => l.length - k) 0 (fun _ => rfl) (by simp) (by simp [Fits,fitsV,fitsO,fitsL,upd,ints]) ?_
 intro k ⟨hk,hp⟩
 simp(maxSteps:=9^9)only[↓VP,VQ,seval]
 repeat'(first|intro _|apply And.intro)
 all_goals try omega
 ·have hlt : k < l.length := by omega
  have e1 : l[k]! = l[k] := getD_idx hlt
  have hc := h _ (List.getElem_mem hlt)
  rw [← e1] at hc
  refine ACall.pure hc ?_
  simp(maxSteps:=9^9)only[↓VP,VQ,seval]
  repeat'(first|intro _|apply And.intro)
  all_goals try omega
  ·rename_i hpx
   rw [idxL_at hlt hp (by rw [← e1]; exact hpx)]
  ·have hpx : ¬ p l[k]! = true := by assumption
   refine ⟨k + 1,⟨by omega,forall_take_succ hlt hp (by rw [← e1]; simpa using hpx)⟩,by dsimp only; omega,?_⟩
   simp only [FE,↓FP,seval]
   simp
 ·have : l.take k = l := List.take_of_length_le (by omega)
  rw [this] at hp
  rw [idxL_neg hp]
theorem containsInt_c (g : FuncId) (caps : List AV) (l : List Int) (p : Int → Bool) (h : ∀ x ∈ l,PCall Tryz.prog g ([.int .i64 x] ++ caps) (.bool (p x))) :
  PCall Tryz.prog 134 [ints l,.fn (.func g) [] caps] (.bool (l.any p)) := by
 intro m
 (refine acall_intro (E := env fun _ => .imm) (envOk _) rfl Tryz.func134 rfl Tryz.call134 (by kernel_rfl) (by simp [Tryz.ntmps134]) ?_; simp only [Tryz.f134];  simp(maxSteps:=9^9)only[↓VP,VQ,seval])
 repeat'(first|intro _|apply And.intro)
 refine ACall.pure (indexInt_c g caps l p h) ?_
 simp(maxSteps:=9^9)only[↓VP,VQ,seval]
 repeat'(first|intro _|apply And.intro)
 rw [idxL_any]
def offP (lo hi n : Int) : Bool := decide (n < lo ∨ hi < n)
theorem beyond1_c (n lo hi : Int) : PCall Tryz.prog 163 [.int .i64 n,.eptr [.int .i64 lo],.eptr [.int .i64 hi]] (.bool (offP lo hi n)) := by
 intro m
 (refine acall_intro (E := env fun _ => .imm) (envOk _) rfl Tryz.func163 rfl Tryz.call163 (by kernel_rfl) (by simp [Tryz.ntmps163]) ?_; simp only [Tryz.f163];  simp(maxSteps:=9^9)only[↓VP,VQ,seval])
 repeat'(first|intro _|apply And.intro)
 all_goals simp_all [offP]
 all_goals omega
theorem beyond_c (lo hi : Int) (l : List Int) : PCall Tryz.prog 123 [.int .i64 lo,.int .i64 hi,ints l] (.bool (l.any (offP lo hi))) := by
 intro m
 (refine acall_intro (E := env fun _ => .imm) (envOk _) rfl Tryz.func123 rfl Tryz.call123 (by kernel_rfl) (by simp [Tryz.ntmps123]) ?_; simp only [Tryz.f123];  simp(maxSteps:=9^9)only[↓VP,VQ,seval])
 repeat'(first|intro _|apply And.intro)
 refine ACall.pure (containsInt_c 163 _ l (offP lo hi) fun x _ => beyond1_c x lo hi) ?_
 simp(maxSteps:=9^9)only[↓VP,VQ,seval]
 repeat'(first|intro _|apply And.intro)
def strs (l : List ByteArray) : AV := .slice 1 (l.map AV.str)
theorem getD_any {α : Type} [Inhabited α] {l : List α} {k : Nat} (h : k < l.length) : l[k]! = l[k] := by
 rw [List.getElem!_eq_getElem?_getD,List.getElem?_eq_getElem h]; rfl
theorem where_c (l : List ByteArray) (s : ByteArray) : PCall Tryz.prog 10 [strs l,.str s] (.int .i64 (idxL (fun x => decide (x = s)) l)) := by
 intro m
 simp only [strs]
 (refine acall_intro (E := env fun _ => .imm) (envOk _) rfl Tryz.func10 rfl Tryz.call10 (by kernel_rfl) (by simp [Tryz.ntmps10]) ?_; simp only [Tryz.f10];  simp(maxSteps:=9^9)only[↓VP,VQ,seval])
 refine aloop (envOk _) (fun k : Nat => ⟨[(0,.v (strs l)),(1,.v (.str s)),(5,.v (.int .i64 k))],[],[],m⟩) (fun k => k ≤ l.length ∧ ∀ x ∈ l.take k,x ≠ s) (fun k => l.length - k) 0 (fun _ => rfl) (by simp) (by simp [Fits,fitsV,fitsO,fitsL,upd,strs]) ?_
 rintro k ⟨hk,hp⟩
 simp only [strs]
 simp(maxSteps:=9^9)only[↓VP,VQ,seval]
 repeat'(first|intro _|apply And.intro)
 all_goals try first|omega|(simp only[LL];omega)|exact nlC (by decide) _|exact nbC rfl
 ·have hlt : k < l.length := by omega
  have h : l[k]! ≠ s := by assumption
  (refine ⟨k + 1,?_,by dsimp only; omega,?_⟩; rotate_left 1; · ((simp only [FE,↓FP,seval]); try simp []))
  exact ⟨by omega,forall_take_succ hlt hp (by rw [← getD_any hlt]; exact h)⟩
 ·have hlt : k < l.length := by omega
  have h : ¬ l[k]! ≠ s := by assumption
  rw [idxL_at hlt (fun x hx => by simpa using hp x hx) (by rw [← getD_any hlt]; simpa using h)]
 ·rw [List.take_of_length_le (by omega)] at hp
  rw [idxL_neg (fun x hx => by simpa using hp x hx)]
end Go.Proofs.YtdmejgfcaacdoaaGreat.Abs
