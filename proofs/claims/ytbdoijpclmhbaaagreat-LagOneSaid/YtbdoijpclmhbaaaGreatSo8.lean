/- One step of the logic after the other, as far as it goes, with memory. -/
import Derived.Test.YtbdoijpclmhbaaaGreatSo7
open Go Go.Abs
namespace Go.Abs
set_option maxRecDepth 100000
theorem AB {P Q:Prop} (k:Q) (h:Hold Q->P:=by
 intro k
 (repeat (first|(apply R.op0;(first|exact O.move rfl|exact O.assign rfl|exact O.fieldP rfl rfl rfl rfl|exact O.loadP rfl rfl rfl (by first|exact rfl|with_reducible assumption|assumption|exact at_upd) rfl|exact O.cmp rfl rfl rfl|exact O.int rfl rfl (add64 (by omega))|exact O.int rfl rfl (sub64 (by omega))|exact O.int rfl rfl (add8 (by omega))|exact O.pickT rfl (by first|with_reducible rfl|with_reducible assumption|decide) rfl|exact O.pickF rfl (by first|with_reducible rfl|with_reducible assumption|decide) rfl|exact O.lenL rfl rfl|exact O.lenSv rfl rfl|exact O.lenS rfl rfl|exact O.not rfl|exact O.svEq rfl rfl|exact O.svNe rfl rfl|exact O.str rfl rfl rfl|exact O.boolEq rfl rfl rfl|exact O.boolNe rfl rfl rfl|exact O.fieldE rfl rfl rfl rfl|exact O.fieldR rfl rfl rfl rfl|exact O.loadPA rfl rfl (by first|exact rfl|with_reducible assumption|assumption|exact at_upd) rfl rfl|exact O.extr rfl rfl|exact O.nilP rfl|exact O.nilF rfl|exact O.extrT rfl rfl|exact O.makeFunc rfl rfl rfl|exact O.fieldF rfl rfl rfl rfl|exact O.loadF rfl rfl rfl rfl|exact O.loadFA rfl rfl rfl|exact O.ptrEq rfl rfl rfl rfl|exact O.ptrNe rfl rfl rfl rfl|exact O.max rfl rfl|(apply O.addrX;exact rfl;infer_instance;exact rfl;exact rfl;omega;(first|with_reducible assumption|assumption);(first|exact rfl|assumption))|(apply O.load1;exact rfl;(first|with_reducible assumption|assumption);exact rfl;exact rfl;exact rfl)|(apply O.loadE;exact rfl;exact rfl;exact rfl;(first|with_reducible assumption|assumption);exact rfl)|(apply O.loadEA;exact rfl;exact rfl;(first|with_reducible assumption|assumption);exact rfl)|(apply O.call;exact rfl;exact rfl;(first|with_reducible assumption|assumption))|(apply O.addrRX;exact rfl;infer_instance;exact rfl;exact rfl;(first|with_reducible assumption|assumption);(first|exact rfl|assumption);omega;exact rfl)|(apply O.loadRX;exact rfl;(first|with_reducible assumption|assumption);(first|exact rfl|assumption);(first|with_reducible assumption|assumption);exact rfl;exact rfl;exact rfl)|(apply O.lenO;exact rfl;exact rfl;(first|with_reducible assumption|assumption))|(apply O.build;exact rfl;exact rfl;exact rfl;exact rfl)|(apply O.callV;exact rfl;infer_instance;exact rfl;exact rfl;(first|with_reducible assumption|assumption))|(apply O.lookA;exact rfl;infer_instance;infer_instance;exact rfl;exact rfl;exact rfl;(first|with_reducible assumption|assumption)));exact rfl)|(apply R.op1;(first|exact O.boxS rfl rfl rfl|exact O.alloc rfl rfl|exact O.makeMap|(apply O.buildX;exact rfl;infer_instance;exact rfl;exact rfl;decide;exact rfl;exact rfl;decide));exact rfl)|(apply R.opN1;(first|(apply O.storeP;exact rfl;exact rfl;exact rfl;(first|exact rfl|with_reducible assumption|assumption|exact at_upd);exact rfl;exact rfl)|(apply O.storeP1;exact rfl;exact rfl;exact rfl;assumption;assumption;(first|exact rfl|with_reducible assumption|assumption|exact at_upd);exact rfl;exact rfl)))|(apply R.guardT1;exact rfl;exact rfl;(first|with_reducible rfl|with_reducible assumption|decide))|(apply R.guardT0;exact rfl;exact rfl;(first|with_reducible rfl|with_reducible assumption|decide))|(apply R.guardF1;exact rfl;exact rfl;(first|with_reducible rfl|with_reducible assumption|decide);exact rfl)|(apply R.guardF0;exact rfl;exact rfl;(first|with_reducible rfl|with_reducible assumption|decide);exact rfl)|(apply R.guardN;exact rfl;exact rfl;exact rfl)|apply R.done|(first|apply W.seqR|apply W.seqC)|apply W.regionN|apply W.drawN|(apply W.condT;exact rfl;(first|with_reducible rfl|with_reducible assumption|decide))|(apply W.condF;exact rfl;(first|with_reducible rfl|with_reducible assumption|decide))|apply W.retAft|apply W.retBlk|apply W.retLop|apply W.exitAft|apply W.exitLop|apply W.exitBlk|(apply W.exitBlkNe;exact rfl)|apply W.skipAft|apply W.skipBlk|apply W.retCut|apply W.exitCut|apply R.skip|(apply D.op0;(first|exact O.move rfl|exact O.assign rfl|exact O.fieldP rfl rfl rfl rfl|exact O.loadP rfl rfl rfl (by first|exact rfl|with_reducible assumption|assumption|exact at_upd) rfl|exact O.cmp rfl rfl rfl|exact O.int rfl rfl (add64 (by omega))|exact O.int rfl rfl (sub64 (by omega))|exact O.int rfl rfl (add8 (by omega))|exact O.pickT rfl (by first|with_reducible rfl|with_reducible assumption|decide) rfl|exact O.pickF rfl (by first|with_reducible rfl|with_reducible assumption|decide) rfl|exact O.lenL rfl rfl|exact O.lenSv rfl rfl|exact O.lenS rfl rfl|exact O.not rfl|exact O.svEq rfl rfl|exact O.svNe rfl rfl|exact O.str rfl rfl rfl|exact O.boolEq rfl rfl rfl|exact O.boolNe rfl rfl rfl|exact O.fieldE rfl rfl rfl rfl|exact O.fieldR rfl rfl rfl rfl|exact O.loadPA rfl rfl (by first|exact rfl|with_reducible assumption|assumption|exact at_upd) rfl rfl|exact O.extr rfl rfl|exact O.nilP rfl|exact O.nilF rfl|exact O.extrT rfl rfl|exact O.makeFunc rfl rfl rfl|exact O.fieldF rfl rfl rfl rfl|exact O.loadF rfl rfl rfl rfl|exact O.loadFA rfl rfl rfl|exact O.ptrEq rfl rfl rfl rfl|exact O.ptrNe rfl rfl rfl rfl|exact O.max rfl rfl|(apply O.addrX;exact rfl;infer_instance;exact rfl;exact rfl;omega;(first|with_reducible assumption|assumption);(first|exact rfl|assumption))|(apply O.load1;exact rfl;(first|with_reducible assumption|assumption);exact rfl;exact rfl;exact rfl)|(apply O.loadE;exact rfl;exact rfl;exact rfl;(first|with_reducible assumption|assumption);exact rfl)|(apply O.loadEA;exact rfl;exact rfl;(first|with_reducible assumption|assumption);exact rfl)|(apply O.call;exact rfl;exact rfl;(first|with_reducible assumption|assumption))|(apply O.addrRX;exact rfl;infer_instance;exact rfl;exact rfl;(first|with_reducible assumption|assumption);(first|exact rfl|assumption);omega;exact rfl)|(apply O.loadRX;exact rfl;(first|with_reducible assumption|assumption);(first|exact rfl|assumption);(first|with_reducible assumption|assumption);exact rfl;exact rfl;exact rfl)|(apply O.lenO;exact rfl;exact rfl;(first|with_reducible assumption|assumption))|(apply O.build;exact rfl;exact rfl;exact rfl;exact rfl)|(apply O.callV;exact rfl;infer_instance;exact rfl;exact rfl;(first|with_reducible assumption|assumption))|(apply O.lookA;exact rfl;infer_instance;infer_instance;exact rfl;exact rfl;exact rfl;(first|with_reducible assumption|assumption)));exact rfl;exact rfl)|(apply D.op1;(first|exact O.boxS rfl rfl rfl|exact O.alloc rfl rfl|exact O.makeMap|(apply O.buildX;exact rfl;infer_instance;exact rfl;exact rfl;decide;exact rfl;exact rfl;decide));exact rfl;exact rfl)|(apply D.opN1;(first|(apply O.storeP;exact rfl;exact rfl;exact rfl;(first|exact rfl|with_reducible assumption|assumption|exact at_upd);exact rfl;exact rfl)|(apply O.storeP1;exact rfl;exact rfl;exact rfl;assumption;assumption;(first|exact rfl|with_reducible assumption|assumption|exact at_upd);exact rfl;exact rfl));exact rfl)|(apply D.guardT1;exact rfl;exact rfl;(first|with_reducible rfl|with_reducible assumption|decide))|(apply D.guardT0;exact rfl;exact rfl;(first|with_reducible rfl|with_reducible assumption|decide))|(apply D.guardF1;exact rfl;exact rfl;(first|with_reducible rfl|with_reducible assumption|decide);exact rfl)|(apply D.guardF0;exact rfl;exact rfl;(first|with_reducible rfl|with_reducible assumption|decide);exact rfl)|(apply D.guardN;exact rfl;exact rfl;exact rfl)|(apply D.done;kernel_rfl)|(apply D.skip;kernel_rfl)))
 exact Hold.out k):P:=h ⟨k⟩
theorem AA {P Q:Prop} (k:Q) (h:Hold Q->P:=by
 intro k
 (repeat (first|(apply R.op0;(first|exact O.move rfl|exact O.assign rfl|exact O.fieldP rfl rfl rfl rfl|exact O.loadP rfl rfl rfl (by first|exact rfl|with_reducible assumption|assumption|exact at_upd) rfl|exact O.cmp rfl rfl rfl|exact O.int rfl rfl (add64 (by omega))|exact O.int rfl rfl (sub64 (by omega))|exact O.int rfl rfl (add8 (by omega))|exact O.pickT rfl (by first|with_reducible rfl|with_reducible assumption|decide) rfl|exact O.pickF rfl (by first|with_reducible rfl|with_reducible assumption|decide) rfl|exact O.lenL rfl rfl|exact O.lenSv rfl rfl|exact O.lenS rfl rfl|exact O.not rfl|exact O.svEq rfl rfl|exact O.svNe rfl rfl|exact O.str rfl rfl rfl|exact O.boolEq rfl rfl rfl|exact O.boolNe rfl rfl rfl|exact O.fieldE rfl rfl rfl rfl|exact O.fieldR rfl rfl rfl rfl|exact O.loadPA rfl rfl (by first|exact rfl|with_reducible assumption|assumption|exact at_upd) rfl rfl|exact O.extr rfl rfl|exact O.nilP rfl|exact O.nilF rfl|exact O.extrT rfl rfl|exact O.makeFunc rfl rfl rfl|exact O.fieldF rfl rfl rfl rfl|exact O.loadF rfl rfl rfl rfl|exact O.loadFA rfl rfl rfl|exact O.ptrEq rfl rfl rfl rfl|exact O.ptrNe rfl rfl rfl rfl|exact O.max rfl rfl|(apply O.addrX;exact rfl;infer_instance;exact rfl;exact rfl;omega;(first|with_reducible assumption|assumption);(first|exact rfl|assumption))|(apply O.load1;exact rfl;(first|with_reducible assumption|assumption);exact rfl;exact rfl;exact rfl)|(apply O.loadE;exact rfl;exact rfl;exact rfl;(first|with_reducible assumption|assumption);exact rfl)|(apply O.loadEA;exact rfl;exact rfl;(first|with_reducible assumption|assumption);exact rfl)|(apply O.call;exact rfl;exact rfl;(first|with_reducible assumption|assumption))|(apply O.addrRX;exact rfl;infer_instance;exact rfl;exact rfl;(first|with_reducible assumption|assumption);(first|exact rfl|assumption);omega;exact rfl)|(apply O.loadRX;exact rfl;(first|with_reducible assumption|assumption);(first|exact rfl|assumption);(first|with_reducible assumption|assumption);exact rfl;exact rfl;exact rfl)|(apply O.lenO;exact rfl;exact rfl;(first|with_reducible assumption|assumption))|(apply O.build;exact rfl;exact rfl;exact rfl;exact rfl)|(apply O.callV;exact rfl;infer_instance;exact rfl;exact rfl;(first|with_reducible assumption|assumption))|(apply O.lookA;exact rfl;infer_instance;infer_instance;exact rfl;exact rfl;exact rfl;(first|with_reducible assumption|assumption)));exact rfl)|(apply R.op1;(first|exact O.boxS rfl rfl rfl|exact O.alloc rfl rfl|exact O.makeMap|(apply O.buildX;exact rfl;infer_instance;exact rfl;exact rfl;decide;exact rfl;exact rfl;decide));exact rfl)|(apply R.opN1;(first|(apply O.storeP;exact rfl;exact rfl;exact rfl;(first|exact rfl|with_reducible assumption|assumption|exact at_upd);exact rfl;exact rfl)|(apply O.storeP1;exact rfl;exact rfl;exact rfl;assumption;assumption;(first|exact rfl|with_reducible assumption|assumption|exact at_upd);exact rfl;exact rfl)))|(apply R.guardT1;exact rfl;exact rfl;(first|with_reducible rfl|with_reducible assumption|decide))|(apply R.guardT0;exact rfl;exact rfl;(first|with_reducible rfl|with_reducible assumption|decide))|(apply R.guardF1;exact rfl;exact rfl;(first|with_reducible rfl|with_reducible assumption|decide);exact rfl)|(apply R.guardF0;exact rfl;exact rfl;(first|with_reducible rfl|with_reducible assumption|decide);exact rfl)|(apply R.guardN;exact rfl;exact rfl;exact rfl)|apply R.done|apply W.seq|apply W.regionN|apply W.drawN|apply W.block|(apply W.condT;exact rfl;(first|with_reducible rfl|with_reducible assumption|decide))|(apply W.condF;exact rfl;(first|with_reducible rfl|with_reducible assumption|decide))|apply W.retAft|apply W.retBlk|apply W.retLop|apply W.exitAft|apply W.exitLop|apply W.exitBlk|(apply W.exitBlkNe;exact rfl)|apply W.skipAft|apply W.skipBlk|apply W.retCut|apply W.exitCut|apply R.skip|(apply D.op0;(first|exact O.move rfl|exact O.assign rfl|exact O.fieldP rfl rfl rfl rfl|exact O.loadP rfl rfl rfl (by first|exact rfl|with_reducible assumption|assumption|exact at_upd) rfl|exact O.cmp rfl rfl rfl|exact O.int rfl rfl (add64 (by omega))|exact O.int rfl rfl (sub64 (by omega))|exact O.int rfl rfl (add8 (by omega))|exact O.pickT rfl (by first|with_reducible rfl|with_reducible assumption|decide) rfl|exact O.pickF rfl (by first|with_reducible rfl|with_reducible assumption|decide) rfl|exact O.lenL rfl rfl|exact O.lenSv rfl rfl|exact O.lenS rfl rfl|exact O.not rfl|exact O.svEq rfl rfl|exact O.svNe rfl rfl|exact O.str rfl rfl rfl|exact O.boolEq rfl rfl rfl|exact O.boolNe rfl rfl rfl|exact O.fieldE rfl rfl rfl rfl|exact O.fieldR rfl rfl rfl rfl|exact O.loadPA rfl rfl (by first|exact rfl|with_reducible assumption|assumption|exact at_upd) rfl rfl|exact O.extr rfl rfl|exact O.nilP rfl|exact O.nilF rfl|exact O.extrT rfl rfl|exact O.makeFunc rfl rfl rfl|exact O.fieldF rfl rfl rfl rfl|exact O.loadF rfl rfl rfl rfl|exact O.loadFA rfl rfl rfl|exact O.ptrEq rfl rfl rfl rfl|exact O.ptrNe rfl rfl rfl rfl|exact O.max rfl rfl|(apply O.addrX;exact rfl;infer_instance;exact rfl;exact rfl;omega;(first|with_reducible assumption|assumption);(first|exact rfl|assumption))|(apply O.load1;exact rfl;(first|with_reducible assumption|assumption);exact rfl;exact rfl;exact rfl)|(apply O.loadE;exact rfl;exact rfl;exact rfl;(first|with_reducible assumption|assumption);exact rfl)|(apply O.loadEA;exact rfl;exact rfl;(first|with_reducible assumption|assumption);exact rfl)|(apply O.call;exact rfl;exact rfl;(first|with_reducible assumption|assumption))|(apply O.addrRX;exact rfl;infer_instance;exact rfl;exact rfl;(first|with_reducible assumption|assumption);(first|exact rfl|assumption);omega;exact rfl)|(apply O.loadRX;exact rfl;(first|with_reducible assumption|assumption);(first|exact rfl|assumption);(first|with_reducible assumption|assumption);exact rfl;exact rfl;exact rfl)|(apply O.lenO;exact rfl;exact rfl;(first|with_reducible assumption|assumption))|(apply O.build;exact rfl;exact rfl;exact rfl;exact rfl)|(apply O.callV;exact rfl;infer_instance;exact rfl;exact rfl;(first|with_reducible assumption|assumption))|(apply O.lookA;exact rfl;infer_instance;infer_instance;exact rfl;exact rfl;exact rfl;(first|with_reducible assumption|assumption)));exact rfl;exact rfl)|(apply D.op1;(first|exact O.boxS rfl rfl rfl|exact O.alloc rfl rfl|exact O.makeMap|(apply O.buildX;exact rfl;infer_instance;exact rfl;exact rfl;decide;exact rfl;exact rfl;decide));exact rfl;exact rfl)|(apply D.opN1;(first|(apply O.storeP;exact rfl;exact rfl;exact rfl;(first|exact rfl|with_reducible assumption|assumption|exact at_upd);exact rfl;exact rfl)|(apply O.storeP1;exact rfl;exact rfl;exact rfl;assumption;assumption;(first|exact rfl|with_reducible assumption|assumption|exact at_upd);exact rfl;exact rfl));exact rfl)|(apply D.guardT1;exact rfl;exact rfl;(first|with_reducible rfl|with_reducible assumption|decide))|(apply D.guardT0;exact rfl;exact rfl;(first|with_reducible rfl|with_reducible assumption|decide))|(apply D.guardF1;exact rfl;exact rfl;(first|with_reducible rfl|with_reducible assumption|decide);exact rfl)|(apply D.guardF0;exact rfl;exact rfl;(first|with_reducible rfl|with_reducible assumption|decide);exact rfl)|(apply D.guardN;exact rfl;exact rfl;exact rfl)|(apply D.done;kernel_rfl)|(apply D.skip;kernel_rfl)))
 exact Hold.out k):P:=h ⟨k⟩
theorem AN {P Q:Prop} (k:Q) (h:Hold Q->P:=by
 intro k
 (repeat (first|(apply R.op0;(first|exact O.move rfl|exact O.assign rfl|exact O.fieldP rfl rfl rfl rfl|exact O.loadP rfl rfl rfl (by first|exact rfl|with_reducible assumption|assumption|exact at_upd) rfl|exact O.cmp rfl rfl rfl|exact O.int rfl rfl (add64 (by omega))|exact O.int rfl rfl (sub64 (by omega))|exact O.int rfl rfl (add8 (by omega))|exact O.pickT rfl (by first|with_reducible rfl|with_reducible assumption|decide) rfl|exact O.pickF rfl (by first|with_reducible rfl|with_reducible assumption|decide) rfl|exact O.lenL rfl rfl|exact O.lenSv rfl rfl|exact O.lenS rfl rfl|exact O.not rfl|exact O.svEq rfl rfl|exact O.svNe rfl rfl|exact O.str rfl rfl rfl|exact O.boolEq rfl rfl rfl|exact O.boolNe rfl rfl rfl|exact O.fieldE rfl rfl rfl rfl|exact O.fieldR rfl rfl rfl rfl|exact O.loadPA rfl rfl (by first|exact rfl|with_reducible assumption|assumption|exact at_upd) rfl rfl|exact O.extr rfl rfl|exact O.nilP rfl|exact O.nilF rfl|exact O.extrT rfl rfl|exact O.makeFunc rfl rfl rfl|exact O.fieldF rfl rfl rfl rfl|exact O.loadF rfl rfl rfl rfl|exact O.loadFA rfl rfl rfl|exact O.ptrEq rfl rfl rfl rfl|exact O.ptrNe rfl rfl rfl rfl|exact O.max rfl rfl|(apply O.addrX;exact rfl;infer_instance;exact rfl;exact rfl;omega;(first|with_reducible assumption|assumption);(first|exact rfl|assumption))|(apply O.load1;exact rfl;(first|with_reducible assumption|assumption);exact rfl;exact rfl;exact rfl)|(apply O.loadE;exact rfl;exact rfl;exact rfl;(first|with_reducible assumption|assumption);exact rfl)|(apply O.loadEA;exact rfl;exact rfl;(first|with_reducible assumption|assumption);exact rfl)|(apply O.call;exact rfl;exact rfl;(first|with_reducible assumption|assumption))|(apply O.addrRX;exact rfl;infer_instance;exact rfl;exact rfl;(first|with_reducible assumption|assumption);(first|exact rfl|assumption);omega;exact rfl)|(apply O.loadRX;exact rfl;(first|with_reducible assumption|assumption);(first|exact rfl|assumption);(first|with_reducible assumption|assumption);exact rfl;exact rfl;exact rfl)|(apply O.lenO;exact rfl;exact rfl;(first|with_reducible assumption|assumption))|(apply O.build;exact rfl;exact rfl;exact rfl;exact rfl)|(apply O.callV;exact rfl;infer_instance;exact rfl;exact rfl;(first|with_reducible assumption|assumption))|(apply O.lookA;exact rfl;infer_instance;infer_instance;exact rfl;exact rfl;exact rfl;(first|with_reducible assumption|assumption)));exact rfl)|(apply R.op1;(first|exact O.boxS rfl rfl rfl|exact O.alloc rfl rfl|exact O.makeMap|(apply O.buildX;exact rfl;infer_instance;exact rfl;exact rfl;decide;exact rfl;exact rfl;decide));exact rfl)|(apply R.opN1;(first|(apply O.storeP;exact rfl;exact rfl;exact rfl;(first|exact rfl|with_reducible assumption|assumption|exact at_upd);exact rfl;exact rfl)|(apply O.storeP1;exact rfl;exact rfl;exact rfl;assumption;assumption;(first|exact rfl|with_reducible assumption|assumption|exact at_upd);exact rfl;exact rfl)))|(apply R.guardT1;exact rfl;exact rfl;(first|with_reducible rfl|with_reducible assumption|decide))|(apply R.guardT0;exact rfl;exact rfl;(first|with_reducible rfl|with_reducible assumption|decide))|(apply R.guardF1;exact rfl;exact rfl;(first|with_reducible rfl|with_reducible assumption|decide);exact rfl)|(apply R.guardF0;exact rfl;exact rfl;(first|with_reducible rfl|with_reducible assumption|decide);exact rfl)|(apply R.guardN;exact rfl;exact rfl;exact rfl)|apply R.done|apply W.seq|apply W.regionN|apply W.drawN|apply W.block|(apply W.condT;exact rfl;(first|with_reducible rfl|with_reducible assumption|decide))|(apply W.condF;exact rfl;(first|with_reducible rfl|with_reducible assumption|decide))|apply W.retAft|apply W.retBlk|apply W.retLop|apply W.exitAft|apply W.exitLop|apply W.exitBlk|(apply W.exitBlkNe;exact rfl)|apply W.skipAft|apply W.skipBlk|apply W.retCut|apply W.exitCut|apply R.skip|(apply D.op0;(first|exact O.move rfl|exact O.assign rfl|exact O.fieldP rfl rfl rfl rfl|exact O.loadP rfl rfl rfl (by first|exact rfl|with_reducible assumption|assumption|exact at_upd) rfl|exact O.cmp rfl rfl rfl|exact O.int rfl rfl (add64 (by omega))|exact O.int rfl rfl (sub64 (by omega))|exact O.int rfl rfl (add8 (by omega))|exact O.pickT rfl (by first|with_reducible rfl|with_reducible assumption|decide) rfl|exact O.pickF rfl (by first|with_reducible rfl|with_reducible assumption|decide) rfl|exact O.lenL rfl rfl|exact O.lenSv rfl rfl|exact O.lenS rfl rfl|exact O.not rfl|exact O.svEq rfl rfl|exact O.svNe rfl rfl|exact O.str rfl rfl rfl|exact O.boolEq rfl rfl rfl|exact O.boolNe rfl rfl rfl|exact O.fieldE rfl rfl rfl rfl|exact O.fieldR rfl rfl rfl rfl|exact O.loadPA rfl rfl (by first|exact rfl|with_reducible assumption|assumption|exact at_upd) rfl rfl|exact O.extr rfl rfl|exact O.nilP rfl|exact O.nilF rfl|exact O.extrT rfl rfl|exact O.makeFunc rfl rfl rfl|exact O.fieldF rfl rfl rfl rfl|exact O.loadF rfl rfl rfl rfl|exact O.loadFA rfl rfl rfl|exact O.ptrEq rfl rfl rfl rfl|exact O.ptrNe rfl rfl rfl rfl|exact O.max rfl rfl|(apply O.addrX;exact rfl;infer_instance;exact rfl;exact rfl;omega;(first|with_reducible assumption|assumption);(first|exact rfl|assumption))|(apply O.load1;exact rfl;(first|with_reducible assumption|assumption);exact rfl;exact rfl;exact rfl)|(apply O.loadE;exact rfl;exact rfl;exact rfl;(first|with_reducible assumption|assumption);exact rfl)|(apply O.loadEA;exact rfl;exact rfl;(first|with_reducible assumption|assumption);exact rfl)|(apply O.call;exact rfl;exact rfl;(first|with_reducible assumption|assumption))|(apply O.addrRX;exact rfl;infer_instance;exact rfl;exact rfl;(first|with_reducible assumption|assumption);(first|exact rfl|assumption);omega;exact rfl)|(apply O.loadRX;exact rfl;(first|with_reducible assumption|assumption);(first|exact rfl|assumption);(first|with_reducible assumption|assumption);exact rfl;exact rfl;exact rfl)|(apply O.lenO;exact rfl;exact rfl;(first|with_reducible assumption|assumption))|(apply O.build;exact rfl;exact rfl;exact rfl;exact rfl)|(apply O.callV;exact rfl;infer_instance;exact rfl;exact rfl;(first|with_reducible assumption|assumption))|(apply O.lookA;exact rfl;infer_instance;infer_instance;exact rfl;exact rfl;exact rfl;(first|with_reducible assumption|assumption)));exact rfl;exact rfl)|(apply D.op1;(first|exact O.boxS rfl rfl rfl|exact O.alloc rfl rfl|exact O.makeMap|(apply O.buildX;exact rfl;infer_instance;exact rfl;exact rfl;decide;exact rfl;exact rfl;decide));exact rfl;exact rfl)|(apply D.opN1;(first|(apply O.storeP;exact rfl;exact rfl;exact rfl;(first|exact rfl|with_reducible assumption|assumption|exact at_upd);exact rfl;exact rfl)|(apply O.storeP1;exact rfl;exact rfl;exact rfl;assumption;assumption;(first|exact rfl|with_reducible assumption|assumption|exact at_upd);exact rfl;exact rfl));exact rfl)|(apply D.guardT1;exact rfl;exact rfl;(first|with_reducible rfl|with_reducible assumption|decide))|(apply D.guardT0;exact rfl;exact rfl;(first|with_reducible rfl|with_reducible assumption|decide))|(apply D.guardF1;exact rfl;exact rfl;(first|with_reducible rfl|with_reducible assumption|decide);exact rfl)|(apply D.guardF0;exact rfl;exact rfl;(first|with_reducible rfl|with_reducible assumption|decide);exact rfl)|(apply D.guardN;exact rfl;exact rfl;exact rfl)|refine D.auto ?_))
 exact Hold.out k):P:=h ⟨k⟩
theorem AX {P Q:Prop} (k:Q) (h:Hold Q->P:=by
 intro k
 (repeat (first|(apply DX.op0;(first|exact O.move rfl|exact O.assign rfl|exact O.fieldP rfl rfl rfl rfl|exact O.loadP rfl rfl rfl (by first|exact rfl|with_reducible assumption|assumption|exact at_upd) rfl|exact O.cmp rfl rfl rfl|exact O.int rfl rfl (add64 (by omega))|exact O.int rfl rfl (sub64 (by omega))|exact O.int rfl rfl (add8 (by omega))|exact O.pickT rfl (by first|with_reducible rfl|with_reducible assumption|decide) rfl|exact O.pickF rfl (by first|with_reducible rfl|with_reducible assumption|decide) rfl|exact O.lenL rfl rfl|exact O.lenSv rfl rfl|exact O.lenS rfl rfl|exact O.not rfl|exact O.svEq rfl rfl|exact O.svNe rfl rfl|exact O.str rfl rfl rfl|exact O.boolEq rfl rfl rfl|exact O.boolNe rfl rfl rfl|exact O.fieldE rfl rfl rfl rfl|exact O.fieldR rfl rfl rfl rfl|exact O.loadPA rfl rfl (by first|exact rfl|with_reducible assumption|assumption|exact at_upd) rfl rfl|exact O.extr rfl rfl|exact O.nilP rfl|exact O.nilF rfl|exact O.extrT rfl rfl|exact O.makeFunc rfl rfl rfl|exact O.fieldF rfl rfl rfl rfl|exact O.loadF rfl rfl rfl rfl|exact O.loadFA rfl rfl rfl|exact O.ptrEq rfl rfl rfl rfl|exact O.ptrNe rfl rfl rfl rfl|exact O.max rfl rfl|(apply O.addrX;exact rfl;infer_instance;exact rfl;exact rfl;omega;(first|with_reducible assumption|assumption);(first|exact rfl|assumption))|(apply O.load1;exact rfl;(first|with_reducible assumption|assumption);exact rfl;exact rfl;exact rfl)|(apply O.loadE;exact rfl;exact rfl;exact rfl;(first|with_reducible assumption|assumption);exact rfl)|(apply O.loadEA;exact rfl;exact rfl;(first|with_reducible assumption|assumption);exact rfl)|(apply O.call;exact rfl;exact rfl;(first|with_reducible assumption|assumption))|(apply O.addrRX;exact rfl;infer_instance;exact rfl;exact rfl;(first|with_reducible assumption|assumption);(first|exact rfl|assumption);omega;exact rfl)|(apply O.loadRX;exact rfl;(first|with_reducible assumption|assumption);(first|exact rfl|assumption);(first|with_reducible assumption|assumption);exact rfl;exact rfl;exact rfl)|(apply O.lenO;exact rfl;exact rfl;(first|with_reducible assumption|assumption))|(apply O.build;exact rfl;exact rfl;exact rfl;exact rfl)|(apply O.callV;exact rfl;infer_instance;exact rfl;exact rfl;(first|with_reducible assumption|assumption))|(apply O.lookA;exact rfl;infer_instance;infer_instance;exact rfl;exact rfl;exact rfl;(first|with_reducible assumption|assumption)));exact rfl;exact rfl)))
 exact Hold.out k):P:=h ⟨k⟩
theorem A1 {P Q:Prop} (k:Q) (h:Hold Q->P:=by
 intro k
 (try (apply W.seqR;(first|apply W.regionN|apply W.drawN)))
 (repeat (first|(apply R.op0;(first|exact O.move rfl|exact O.assign rfl|exact O.fieldP rfl rfl rfl rfl|exact O.loadP rfl rfl rfl (by first|exact rfl|with_reducible assumption|assumption|exact at_upd) rfl|exact O.cmp rfl rfl rfl|exact O.int rfl rfl (add64 (by omega))|exact O.int rfl rfl (sub64 (by omega))|exact O.int rfl rfl (add8 (by omega))|exact O.pickT rfl (by first|with_reducible rfl|with_reducible assumption|decide) rfl|exact O.pickF rfl (by first|with_reducible rfl|with_reducible assumption|decide) rfl|exact O.lenL rfl rfl|exact O.lenSv rfl rfl|exact O.lenS rfl rfl|exact O.not rfl|exact O.svEq rfl rfl|exact O.svNe rfl rfl|exact O.str rfl rfl rfl|exact O.boolEq rfl rfl rfl|exact O.boolNe rfl rfl rfl|exact O.fieldE rfl rfl rfl rfl|exact O.fieldR rfl rfl rfl rfl|exact O.loadPA rfl rfl (by first|exact rfl|with_reducible assumption|assumption|exact at_upd) rfl rfl|exact O.extr rfl rfl|exact O.nilP rfl|exact O.nilF rfl|exact O.extrT rfl rfl|exact O.makeFunc rfl rfl rfl|exact O.fieldF rfl rfl rfl rfl|exact O.loadF rfl rfl rfl rfl|exact O.loadFA rfl rfl rfl|exact O.ptrEq rfl rfl rfl rfl|exact O.ptrNe rfl rfl rfl rfl|exact O.max rfl rfl|(apply O.addrX;exact rfl;infer_instance;exact rfl;exact rfl;omega;(first|with_reducible assumption|assumption);(first|exact rfl|assumption))|(apply O.load1;exact rfl;(first|with_reducible assumption|assumption);exact rfl;exact rfl;exact rfl)|(apply O.loadE;exact rfl;exact rfl;exact rfl;(first|with_reducible assumption|assumption);exact rfl)|(apply O.loadEA;exact rfl;exact rfl;(first|with_reducible assumption|assumption);exact rfl)|(apply O.call;exact rfl;exact rfl;(first|with_reducible assumption|assumption))|(apply O.addrRX;exact rfl;infer_instance;exact rfl;exact rfl;(first|with_reducible assumption|assumption);(first|exact rfl|assumption);omega;exact rfl)|(apply O.loadRX;exact rfl;(first|with_reducible assumption|assumption);(first|exact rfl|assumption);(first|with_reducible assumption|assumption);exact rfl;exact rfl;exact rfl)|(apply O.lenO;exact rfl;exact rfl;(first|with_reducible assumption|assumption))|(apply O.build;exact rfl;exact rfl;exact rfl;exact rfl)|(apply O.callV;exact rfl;infer_instance;exact rfl;exact rfl;(first|with_reducible assumption|assumption))|(apply O.lookA;exact rfl;infer_instance;infer_instance;exact rfl;exact rfl;exact rfl;(first|with_reducible assumption|assumption)));exact rfl)|(apply R.op1;(first|exact O.boxS rfl rfl rfl|exact O.alloc rfl rfl|exact O.makeMap|(apply O.buildX;exact rfl;infer_instance;exact rfl;exact rfl;decide;exact rfl;exact rfl;decide));exact rfl)|(apply R.opN1;(first|(apply O.storeP;exact rfl;exact rfl;exact rfl;(first|exact rfl|with_reducible assumption|assumption|exact at_upd);exact rfl;exact rfl)|(apply O.storeP1;exact rfl;exact rfl;exact rfl;assumption;assumption;(first|exact rfl|with_reducible assumption|assumption|exact at_upd);exact rfl;exact rfl)))|(apply R.guardT1;exact rfl;exact rfl;(first|with_reducible rfl|with_reducible assumption|decide))|(apply R.guardT0;exact rfl;exact rfl;(first|with_reducible rfl|with_reducible assumption|decide))|(apply R.guardF1;exact rfl;exact rfl;(first|with_reducible rfl|with_reducible assumption|decide);exact rfl)|(apply R.guardF0;exact rfl;exact rfl;(first|with_reducible rfl|with_reducible assumption|decide);exact rfl)|(apply R.guardN;exact rfl;exact rfl;exact rfl)|(apply D.op0;(first|exact O.move rfl|exact O.assign rfl|exact O.fieldP rfl rfl rfl rfl|exact O.loadP rfl rfl rfl (by first|exact rfl|with_reducible assumption|assumption|exact at_upd) rfl|exact O.cmp rfl rfl rfl|exact O.int rfl rfl (add64 (by omega))|exact O.int rfl rfl (sub64 (by omega))|exact O.int rfl rfl (add8 (by omega))|exact O.pickT rfl (by first|with_reducible rfl|with_reducible assumption|decide) rfl|exact O.pickF rfl (by first|with_reducible rfl|with_reducible assumption|decide) rfl|exact O.lenL rfl rfl|exact O.lenSv rfl rfl|exact O.lenS rfl rfl|exact O.not rfl|exact O.svEq rfl rfl|exact O.svNe rfl rfl|exact O.str rfl rfl rfl|exact O.boolEq rfl rfl rfl|exact O.boolNe rfl rfl rfl|exact O.fieldE rfl rfl rfl rfl|exact O.fieldR rfl rfl rfl rfl|exact O.loadPA rfl rfl (by first|exact rfl|with_reducible assumption|assumption|exact at_upd) rfl rfl|exact O.extr rfl rfl|exact O.nilP rfl|exact O.nilF rfl|exact O.extrT rfl rfl|exact O.makeFunc rfl rfl rfl|exact O.fieldF rfl rfl rfl rfl|exact O.loadF rfl rfl rfl rfl|exact O.loadFA rfl rfl rfl|exact O.ptrEq rfl rfl rfl rfl|exact O.ptrNe rfl rfl rfl rfl|exact O.max rfl rfl|(apply O.addrX;exact rfl;infer_instance;exact rfl;exact rfl;omega;(first|with_reducible assumption|assumption);(first|exact rfl|assumption))|(apply O.load1;exact rfl;(first|with_reducible assumption|assumption);exact rfl;exact rfl;exact rfl)|(apply O.loadE;exact rfl;exact rfl;exact rfl;(first|with_reducible assumption|assumption);exact rfl)|(apply O.loadEA;exact rfl;exact rfl;(first|with_reducible assumption|assumption);exact rfl)|(apply O.call;exact rfl;exact rfl;(first|with_reducible assumption|assumption))|(apply O.addrRX;exact rfl;infer_instance;exact rfl;exact rfl;(first|with_reducible assumption|assumption);(first|exact rfl|assumption);omega;exact rfl)|(apply O.loadRX;exact rfl;(first|with_reducible assumption|assumption);(first|exact rfl|assumption);(first|with_reducible assumption|assumption);exact rfl;exact rfl;exact rfl)|(apply O.lenO;exact rfl;exact rfl;(first|with_reducible assumption|assumption))|(apply O.build;exact rfl;exact rfl;exact rfl;exact rfl)|(apply O.callV;exact rfl;infer_instance;exact rfl;exact rfl;(first|with_reducible assumption|assumption))|(apply O.lookA;exact rfl;infer_instance;infer_instance;exact rfl;exact rfl;exact rfl;(first|with_reducible assumption|assumption)));exact rfl;exact rfl)|(apply D.op1;(first|exact O.boxS rfl rfl rfl|exact O.alloc rfl rfl|exact O.makeMap|(apply O.buildX;exact rfl;infer_instance;exact rfl;exact rfl;decide;exact rfl;exact rfl;decide));exact rfl;exact rfl)|(apply D.opN1;(first|(apply O.storeP;exact rfl;exact rfl;exact rfl;(first|exact rfl|with_reducible assumption|assumption|exact at_upd);exact rfl;exact rfl)|(apply O.storeP1;exact rfl;exact rfl;exact rfl;assumption;assumption;(first|exact rfl|with_reducible assumption|assumption|exact at_upd);exact rfl;exact rfl));exact rfl)|(apply D.guardT1;exact rfl;exact rfl;(first|with_reducible rfl|with_reducible assumption|decide))|(apply D.guardT0;exact rfl;exact rfl;(first|with_reducible rfl|with_reducible assumption|decide))|(apply D.guardF1;exact rfl;exact rfl;(first|with_reducible rfl|with_reducible assumption|decide);exact rfl)|(apply D.guardF0;exact rfl;exact rfl;(first|with_reducible rfl|with_reducible assumption|decide);exact rfl)|(apply D.guardN;exact rfl;exact rfl;exact rfl)))
 (first|apply R.done|refine D.auto ?_)
 exact Hold.out k):P:=h ⟨k⟩
theorem AQ {P Q:Prop} (k:Q) (h:Hold Q->P:=by
 intro k
 (repeat (first|(apply R.op0;(first|exact O.move rfl|exact O.assign rfl|exact O.fieldP rfl rfl rfl rfl|exact O.loadP rfl rfl rfl (by first|exact rfl|with_reducible assumption|assumption|exact at_upd) rfl|exact O.cmp rfl rfl rfl|exact O.int rfl rfl (add64 (by omega))|exact O.int rfl rfl (sub64 (by omega))|exact O.int rfl rfl (add8 (by omega))|exact O.pickT rfl (by first|with_reducible rfl|with_reducible assumption|decide) rfl|exact O.pickF rfl (by first|with_reducible rfl|with_reducible assumption|decide) rfl|exact O.lenL rfl rfl|exact O.lenSv rfl rfl|exact O.lenS rfl rfl|exact O.not rfl|exact O.svEq rfl rfl|exact O.svNe rfl rfl|exact O.str rfl rfl rfl|exact O.boolEq rfl rfl rfl|exact O.boolNe rfl rfl rfl|exact O.fieldE rfl rfl rfl rfl|exact O.fieldR rfl rfl rfl rfl|exact O.loadPA rfl rfl (by first|exact rfl|with_reducible assumption|assumption|exact at_upd) rfl rfl|exact O.extr rfl rfl|exact O.nilP rfl|exact O.nilF rfl|exact O.extrT rfl rfl|exact O.makeFunc rfl rfl rfl|exact O.fieldF rfl rfl rfl rfl|exact O.loadF rfl rfl rfl rfl|exact O.loadFA rfl rfl rfl|exact O.ptrEq rfl rfl rfl rfl|exact O.ptrNe rfl rfl rfl rfl|exact O.max rfl rfl|(apply O.addrX;exact rfl;infer_instance;exact rfl;exact rfl;omega;(first|with_reducible assumption|assumption);(first|exact rfl|assumption))|(apply O.load1;exact rfl;(first|with_reducible assumption|assumption);exact rfl;exact rfl;exact rfl)|(apply O.loadE;exact rfl;exact rfl;exact rfl;(first|with_reducible assumption|assumption);exact rfl)|(apply O.loadEA;exact rfl;exact rfl;(first|with_reducible assumption|assumption);exact rfl)|(apply O.call;exact rfl;exact rfl;(first|with_reducible assumption|assumption))|(apply O.addrRX;exact rfl;infer_instance;exact rfl;exact rfl;(first|with_reducible assumption|assumption);(first|exact rfl|assumption);omega;exact rfl)|(apply O.loadRX;exact rfl;(first|with_reducible assumption|assumption);(first|exact rfl|assumption);(first|with_reducible assumption|assumption);exact rfl;exact rfl;exact rfl)|(apply O.lenO;exact rfl;exact rfl;(first|with_reducible assumption|assumption))|(apply O.build;exact rfl;exact rfl;exact rfl;exact rfl)|(apply O.callV;exact rfl;infer_instance;exact rfl;exact rfl;(first|with_reducible assumption|assumption))|(apply O.lookA;exact rfl;infer_instance;infer_instance;exact rfl;exact rfl;exact rfl;(first|with_reducible assumption|assumption)));exact rfl)|(apply R.op1;(first|exact O.boxS rfl rfl rfl|exact O.alloc rfl rfl|exact O.makeMap|(apply O.buildX;exact rfl;infer_instance;exact rfl;exact rfl;decide;exact rfl;exact rfl;decide));exact rfl)|(apply R.opN1;(first|(apply O.storeP;exact rfl;exact rfl;exact rfl;(first|exact rfl|with_reducible assumption|assumption|exact at_upd);exact rfl;exact rfl)|(apply O.storeP1;exact rfl;exact rfl;exact rfl;assumption;assumption;(first|exact rfl|with_reducible assumption|assumption|exact at_upd);exact rfl;exact rfl)))|(apply R.guardT1;exact rfl;exact rfl;(first|with_reducible rfl|with_reducible assumption|decide))|(apply R.guardT0;exact rfl;exact rfl;(first|with_reducible rfl|with_reducible assumption|decide))|(apply R.guardF1;exact rfl;exact rfl;(first|with_reducible rfl|with_reducible assumption|decide);exact rfl)|(apply R.guardF0;exact rfl;exact rfl;(first|with_reducible rfl|with_reducible assumption|decide);exact rfl)|(apply R.guardN;exact rfl;exact rfl;exact rfl)))
 exact Hold.out k):P:=h ⟨k⟩
theorem AD {P Q:Prop} (k:Q) (h:Hold Q->P:=by
 intro k
 (repeat (first|(apply D.op0;(first|exact O.move rfl|exact O.assign rfl|exact O.fieldP rfl rfl rfl rfl|exact O.loadP rfl rfl rfl (by first|exact rfl|with_reducible assumption|assumption|exact at_upd) rfl|exact O.cmp rfl rfl rfl|exact O.int rfl rfl (add64 (by omega))|exact O.int rfl rfl (sub64 (by omega))|exact O.int rfl rfl (add8 (by omega))|exact O.pickT rfl (by first|with_reducible rfl|with_reducible assumption|decide) rfl|exact O.pickF rfl (by first|with_reducible rfl|with_reducible assumption|decide) rfl|exact O.lenL rfl rfl|exact O.lenSv rfl rfl|exact O.lenS rfl rfl|exact O.not rfl|exact O.svEq rfl rfl|exact O.svNe rfl rfl|exact O.str rfl rfl rfl|exact O.boolEq rfl rfl rfl|exact O.boolNe rfl rfl rfl|exact O.fieldE rfl rfl rfl rfl|exact O.fieldR rfl rfl rfl rfl|exact O.loadPA rfl rfl (by first|exact rfl|with_reducible assumption|assumption|exact at_upd) rfl rfl|exact O.extr rfl rfl|exact O.nilP rfl|exact O.nilF rfl|exact O.extrT rfl rfl|exact O.makeFunc rfl rfl rfl|exact O.fieldF rfl rfl rfl rfl|exact O.loadF rfl rfl rfl rfl|exact O.loadFA rfl rfl rfl|exact O.ptrEq rfl rfl rfl rfl|exact O.ptrNe rfl rfl rfl rfl|exact O.max rfl rfl|(apply O.addrX;exact rfl;infer_instance;exact rfl;exact rfl;omega;(first|with_reducible assumption|assumption);(first|exact rfl|assumption))|(apply O.load1;exact rfl;(first|with_reducible assumption|assumption);exact rfl;exact rfl;exact rfl)|(apply O.loadE;exact rfl;exact rfl;exact rfl;(first|with_reducible assumption|assumption);exact rfl)|(apply O.loadEA;exact rfl;exact rfl;(first|with_reducible assumption|assumption);exact rfl)|(apply O.call;exact rfl;exact rfl;(first|with_reducible assumption|assumption))|(apply O.addrRX;exact rfl;infer_instance;exact rfl;exact rfl;(first|with_reducible assumption|assumption);(first|exact rfl|assumption);omega;exact rfl)|(apply O.loadRX;exact rfl;(first|with_reducible assumption|assumption);(first|exact rfl|assumption);(first|with_reducible assumption|assumption);exact rfl;exact rfl;exact rfl)|(apply O.lenO;exact rfl;exact rfl;(first|with_reducible assumption|assumption))|(apply O.build;exact rfl;exact rfl;exact rfl;exact rfl)|(apply O.callV;exact rfl;infer_instance;exact rfl;exact rfl;(first|with_reducible assumption|assumption))|(apply O.lookA;exact rfl;infer_instance;infer_instance;exact rfl;exact rfl;exact rfl;(first|with_reducible assumption|assumption)));exact rfl;exact rfl)|(apply D.op1;(first|exact O.boxS rfl rfl rfl|exact O.alloc rfl rfl|exact O.makeMap|(apply O.buildX;exact rfl;infer_instance;exact rfl;exact rfl;decide;exact rfl;exact rfl;decide));exact rfl;exact rfl)|(apply D.opN1;(first|(apply O.storeP;exact rfl;exact rfl;exact rfl;(first|exact rfl|with_reducible assumption|assumption|exact at_upd);exact rfl;exact rfl)|(apply O.storeP1;exact rfl;exact rfl;exact rfl;assumption;assumption;(first|exact rfl|with_reducible assumption|assumption|exact at_upd);exact rfl;exact rfl));exact rfl)|(apply D.guardT1;exact rfl;exact rfl;(first|with_reducible rfl|with_reducible assumption|decide))|(apply D.guardT0;exact rfl;exact rfl;(first|with_reducible rfl|with_reducible assumption|decide))|(apply D.guardF1;exact rfl;exact rfl;(first|with_reducible rfl|with_reducible assumption|decide);exact rfl)|(apply D.guardF0;exact rfl;exact rfl;(first|with_reducible rfl|with_reducible assumption|decide);exact rfl)|(apply D.guardN;exact rfl;exact rfl;exact rfl)))
 exact Hold.out k):P:=h ⟨k⟩
end Go.Abs

/- Programs that are looked at: terms. -/
open Go Go.Abs
namespace Go.Abs
set_option maxRecDepth 100000
set_option maxHeartbeats 4000000
instance fnis86:FnIs CC 103:=⟨rfl,fun _=>rfl⟩
def ty71:TyI:={ d:=TyD.ptr,sz:=1,bytes:=8,zero:=AV.imm IV.nilp }
instance tyis71:TyIs CC 97 ty71:=⟨by kernel_rfl⟩
def ty84:TyI:={ d:=TyD.st [(0,2),(2,1),(3,1),(4,1)],sz:=5,bytes:=40,zero:=AV.imm (IV.agg [IV.nilmap,IV.nilmap,IV.nilmap,IV.int IntKind.i64 (0),IV.int IntKind.i64 (0)]) }
instance tyis84:TyIs CC 124 ty84:=⟨by kernel_rfl⟩
def ty81:TyI:={ d:=TyD.st [(0,1),(1,1)],sz:=2,bytes:=16,zero:=AV.imm (IV.agg [IV.nilmap,IV.nilmap]) }
instance tyis81:TyIs CC 121 ty81:=⟨by kernel_rfl⟩
def ty82:TyI:={ d:=TyD.mp 88 224,sz:=1,bytes:=8,zero:=AV.imm IV.nilmap }
instance tyis82:TyIs CC 122 ty82:=⟨by kernel_rfl⟩
def ty79:TyI:={ d:=TyD.mp 9 3,sz:=1,bytes:=8,zero:=AV.imm IV.nilmap }
instance tyis79:TyIs CC 119 ty79:=⟨by kernel_rfl⟩
def ty137:TyI:={ d:=TyD.st [(0,1),(1,1),(2,1),(3,1),(4,1),(5,1)],sz:=6,bytes:=40,zero:=AV.imm (IV.agg [IV.int IntKind.i64 (0),IV.int IntKind.i64 (0),IV.bool false,IV.bool false,IV.int IntKind.i64 (0),IV.int IntKind.i64 (0)]) }
instance tyis137:TyIs CC 224 ty137:=⟨by kernel_rfl⟩
def unf:IV := .iface 175 (.agg [])
theorem ret86:Ret CC 103 [.bool true] (.tup []):=Ret.reckon (n:=10) (by kernel_rfl)
theorem pan86:RetPan CC 103 [.bool false] unf:=RetPan.reckon (n:=10) (by kernel_rfl) rfl
def SPost (o:Nat) (a b c d:AV) (n res:Int) (G:Nat->Obj) (nx:Nat):CR->Prop
 | .ret v G' nx'=>v = .imm (.tup [])/\0<=res/\G' o = .box [a,b,c,d, .imm (.int .i64 (n+res))] false/\nx<=nx'/\∀ q,q < nx->q≠o->G' q=G q
 | .pan u G' nx'=>u=unf/\res < 0/\nx<=nx'/\∀ q,q < nx->q≠o->G' q=G q
def oneR (depth left:Int):Int:=if depth > 10\/left < 1 then -1 else 1
theorem retM {b:Bool} (h:b=true):Ret CC 103 [.bool b] (.tup []):=h▸ret86
theorem panM {b:Bool} (h:b=false):RetPan CC 103 [.bool b] unf:=h▸pan86
theorem cal103 {o nx:Nat} {G:Nat->Obj} {a b c d:AV} {n depth:Int} (hG:G o = .box [a,b,c,d, .imm (.int .i64 n)] false) (_ho:o < nx) (hn:0<=n/\n<=1000) :
  CalP CC 162 [.ptr o 0, .imm (.int .i64 depth)] G nx (SPost o a b c d n (oneR depth (60-n)) G nx):=by
 refine CalP.of (fn:=Go.Proofs.Tryz.f162) (by kernel_rfl) rfl rfl ?_
 rcases Bool.eq_false_or_eq_true (decide (n+1<=60)) with h1|h1
 ·rcases Bool.eq_false_or_eq_true (decide (depth<=10)) with h2|h2
  ·have h1':=of_decide_eq_true h1
   have h2':=of_decide_eq_true h2
   have hr:=retM h2
   refine AA ?_
   have e:oneR depth (60-n)=1:=by unfold oneR;rw [if_neg (by omega)]
   rw [e]
   exact W.skipFinP rfl ⟨rfl,by decide,at_upd,by omega,fun q _ _=>at_upd⟩
  ·have h2':=of_decide_eq_false h2
   have e:oneR depth (60-n) = -1:=by unfold oneR;rw [if_pos (by omega)]
   rw [e]
   refine AA ?_
   exact R.callPan rfl rfl (panM h2) (panTo ⟨rfl,by decide,by omega,fun q _ _=>at_upd⟩)
 ·have h1':=of_decide_eq_false h1
  have e:oneR depth (60-n) = -1:=by unfold oneR;rw [if_pos (by omega)]
  rw [e]
  refine AA ?_
  exact R.callPan rfl rfl pan86 (panTo ⟨rfl,by decide,by omega,fun q _ _=>at_upd⟩)
theorem cal104 {o:Nat} {a b cc d:AV} {c:Trm} (hf:c.Fits):∀ {nx:Nat} {G:Nat->Obj} {n depth:Int} {other:Bool},G o = .box [a,b,cc,d, .imm (.int .i64 n)] false->o < nx->(0<=n/\n<=60)->(-1000<=depth/\depth<=1000) ->
  CalP CC 163 [.ptr o 0, .imm c.iv, .imm (.bool other), .imm (.int .i64 depth)] G nx (SPost o a b cc d n (calcR c other depth (60-n)) G nx):=by
 induction hf with
 |mk op n' kids hlen hkf ih=>
 intro nx G n depth other hG ho hn hd
 have hlen':kids.length<=9223372036854775807:=hlen
 refine CalP.of (fn:=Go.Proofs.Tryz.f163) (by kernel_rfl) rfl rfl ?_
 refine AA ?_
 refine R.callBP rfl rfl rfl rfl rfl ((cal103 (o:=o) (n:=n) at_upd (by omega) (by omega)).mono fun r hr=>?_)
 cases r with
 |pan u G' nx'=>
  obtain ⟨rfl,h1,h2,h3⟩:=hr
  have e:calcR (.mk op n' kids) other depth (60-n) = -1:=by
   rw [calcR,if_pos]
   unfold oneR at h1
   split at h1
   ·assumption
   ·omega
  rw [e]
  exact panTo ⟨rfl,by decide,by omega,fun q h4 h5=>(h3 q (by omega) h5).trans at_upd⟩
 |ret v G' nx'=>
  obtain ⟨rfl,h1,h2,h3,h4⟩:=hr
  dsimp only
  have hor:oneR depth (60-n)=1:=by unfold oneR at h1 ⊢;split<;>simp_all
  have hdl:¬ (depth > 10\/(60-n) < 1):=by unfold oneR at h1;split at h1<;>omega
  rw [hor] at h2
  have hmk:=calcR_mk (op:=op) (n:=n') (kids:=kids) (other:=other) hdl
  have hB:G' (nx+0) = .box [.imm (.int .i64 op), .imm (.int .i64 n'), .imm (.lst (Trm.ivs kids))] false:=(h4 _ (by omega) (by omega)).trans at_upd
  have hfr:∀ q,q < nx->q≠o->G' q=G q:=fun q h5 h6=>(h4 q (by omega) h6).trans at_upd
  have hnx:nx+1<=nx':=by omega
  clear h3 h4 h1 hor
  have bad:calcR (.mk op n' kids) other depth (60-n) = -1->∀ {G2:Nat->Obj} {nx2:Nat} {l:Env},nx+1<=nx2->(∀ q,q < nx->q≠o->G2 q=G q) ->
    ∀ t,Agree t l->finP CC Go.Proofs.Tryz.f163.results.toList (SPost o a b cc d n (calcR (.mk op n' kids) other depth (60-n)) G nx) (.pan unf ⟨t,G2,nx2,[], .no⟩):=by
   intro e G2 nx2 l h1 h2
   rw [e]
   exact panTo ⟨rfl,by decide,by omega,h2⟩
  refine AB ?_
  refine W.cut (X:=Nat) (fun k=>[(0, .ptr o 0),(2, .imm (.bool other)),(3, .imm (.int .i64 depth)),(5, .ptr (nx+0) 0),(8, .imm (.int .i64 k))])
   (fun k nx2 G2=>G2=G'/\nx'<=nx2/\kidsOf op n' other=some k) ?_ ?_
  ·refine AB ?_
   have hnone:kidsOf op n' other=none->calcR (.mk op n' kids) other depth (60-n) = -1:=fun h=>by rw [hmk,h]
   have hops:op=1\/op=5\/(op=2\/op=3\/op=4)\/(op=6\/op=7\/op=8\/op=9\/op=10)\/(op≠1/\op≠2/\op≠3/\op≠4/\op≠5/\op≠6/\op≠7/\op≠8/\op≠9/\op≠10):=by omega
   rcases hops with rfl|rfl|hop|hop|⟨n1,n2,n3,n4,n5,n6,n7,n8,n9,n10⟩
   ·rcases Bool.eq_false_or_eq_true (decide (n' >= -1000000000)) with h1|h1
    ·rcases Bool.eq_false_or_eq_true (decide (n'<=1000000000)) with h2|h2
     ·have hr:=retM h2
      refine AA ?_
      exact W.skipCut 0 .auto ⟨rfl,by omega,by unfold kidsOf inR;rw [h1,h2];rfl⟩
     ·refine AA ?_
      exact R.callPan rfl rfl (panM h2) (bad (hnone (by unfold kidsOf inR;rw [h1,h2];rfl)) (by omega) hfr)
    ·refine AA ?_
     exact R.callPan rfl rfl pan86 (bad (hnone (by unfold kidsOf inR;rw [h1];rfl)) (by omega) hfr)
   ·rcases Bool.eq_false_or_eq_true other with h1|h1
    ·have hr:=retM h1
     refine AA ?_
     exact W.skipCut 0 .auto ⟨rfl,by omega,by unfold kidsOf;rw [h1];rfl⟩
    ·refine AA ?_
     exact R.callPan rfl rfl (panM h1) (bad (hnone (by unfold kidsOf;rw [h1];rfl)) (by omega) hfr)
   ·rcases hop with rfl|rfl|rfl <;>
    ·refine AA ?_
     exact W.skipCut 0 .auto ⟨rfl,by omega,rfl⟩
   ·rcases hop with rfl|rfl|rfl|rfl|rfl <;>
    ·refine AA ?_
     exact W.skipCut 2 .auto ⟨rfl,by omega,rfl⟩
   ·have e1:(op==1)=false:=by simpa using n1
    have e2:(op==2)=false:=by simpa using n2
    have e3:(op==3)=false:=by simpa using n3
    have e4:(op==4)=false:=by simpa using n4
    have e5:(op==5)=false:=by simpa using n5
    have e6:(op==6)=false:=by simpa using n6
    have e7:(op==7)=false:=by simpa using n7
    have e8:(op==8)=false:=by simpa using n8
    have e9:(op==9)=false:=by simpa using n9
    have e10:(op==10)=false:=by simpa using n10
    refine AA ?_
    exact R.callPan rfl rfl pan86 (bad (hnone (by unfold kidsOf;simp [n1,n2,n3,n4,n5,n6,n7,n8,n9,n10])) (by omega) hfr)
  rintro k nx2 G2 ⟨rfl,hx2,hk⟩
  rw [hk] at hmk
  dsimp only at hmk
  have hlv:(Trm.ivs kids).length=kids.length:=tivs_len kids
  have bad2:(kids.length≠k\/(op≠1/\n'≠0))->calcR (.mk op n' kids) other depth (60-n) = -1:=fun h=>by rw [hmk,if_pos h]
  refine W.cut (X:=Unit) (fun _=>[(0, .ptr o 0),(2, .imm (.bool other)),(3, .imm (.int .i64 depth)),(5, .ptr (nx+0) 0)])
   (fun _ nx3 G3=>G3=G2/\nx2<=nx3/\kids.length=k/\(op=1\/n'=0)) ?_ ?_
  ·rcases Bool.eq_false_or_eq_true (((Trm.ivs kids).length:Int)==(k:Int)) with hA|hA
   ·have hA':kids.length=k:=by rw [hlv] at hA;simp at hA;omega
    rcases Bool.eq_false_or_eq_true (op==1) with hB|hB
    ·have hr:=retM (b:=true) rfl
     refine AA ?_
     exact W.skipCut () .auto ⟨rfl,by omega,hA', .inl (by simpa using hB)⟩
    ·rcases Bool.eq_false_or_eq_true (n'==0) with hN|hN
     ·have hr:=retM hN
      refine AA ?_
      exact W.skipCut () .auto ⟨rfl,by omega,hA', .inr (by simpa using hN)⟩
     ·refine AA ?_
      exact R.callPan rfl rfl (panM hN) (bad (bad2 (.inr ⟨by simpa using hB,by simpa using hN⟩)) (by omega) hfr)
   ·refine AA ?_
    exact R.callPan rfl rfl pan86 (bad (bad2 (.inl (by rw [hlv] at hA;simp at hA;omega))) (by omega) hfr)
  rintro _ nx3 G3 ⟨rfl,hx3,hA,hB⟩
  rw [if_neg (by omega)] at hmk
  refine AA ?_
  refine W.loop (X:=Nat×Int) (fun x=>[(0, .ptr o 0),(2, .imm (.bool other)),(3, .imm (.int .i64 depth)),(59, .imm (.lst (Trm.ivs kids))),(60, .imm (.int .i64 (Trm.ivs kids).length)),(61, .imm (.int .i64 x.1))])
   (fun x nx2 G2=>G2 o = .box [a,b,cc,d, .imm (.int .i64 (n+x.2))] false/\(∀ q,q < nx->q≠o->G2 q=G q)/\nx+1<=nx2/\x.1<=kids.length/\(1<=x.2/\x.2<=60-n)/\calcR (.mk op n' kids) other depth (60-n)=calcRs (kids.drop x.1) other depth (60-n) x.2)
   (fun x=>kids.length-x.1) (0,1) .auto ⟨h2,hfr,by omega,Nat.zero_le _,by dsimp only;omega,hmk⟩ ?_
  clear h2 hfr hmk bad2 hx2 hx3
  rintro ⟨i,m⟩ nx2 G2 ⟨hGo,hfr,hx,hi,hm,he⟩
  dsimp only at hGo hi hm he ⊢
  rcases Bool.eq_false_or_eq_true (decide ((i:Int) < ((Trm.ivs kids).length:Int))) with hc|hc
  ·have hlt:i < kids.length:=by have:=of_decide_eq_true hc;omega
   obtain ⟨kid,hxk⟩:=at_lt hlt
   have hxi:=tivs_at hxk
   have hcl:=kid.cells_len
   have ihk:=@ih kid (List.mem_of_getElem? hxk)
   have hle:=calcR_le kid other (depth+1) (60-n-m)
   rw [calcRs_drop hxk] at he
   have hmu:kids.length-(i+1) < kids.length-i:=by omega
   obtain ⟨o',m',k'⟩:=kid
   refine AA ?_
   refine R.callBP rfl rfl rfl rfl rfl ((ihk (n:=n+m) (other:=other) at_upd (by omega) (by omega) (by omega)).mono fun r hr=>?_)
   rw [show (60:Int)-(n+m)=60-n-m by omega] at hr
   cases r with
   |pan u G' nx'=>
    obtain ⟨rfl,g1,g2,g3⟩:=hr
    rw [if_pos g1] at he
    exact bad he (by omega) fun q h4 h5=>(g3 q (by omega) h5).trans (Eq.trans at_upd (hfr q h4 h5))
   |ret v G' nx'=>
    obtain ⟨rfl,g1,g2,g3,g4⟩:=hr
    rw [if_neg (by omega)] at he
    refine AA ?_
    refine W.skipLop (i+1,m+calcR (.mk o' m' k') other (depth+1) (60-n-m)) hmu .auto ⟨?_,fun q h4 h5=>(g4 q (by omega) h5).trans (Eq.trans at_upd (hfr q h4 h5)),by omega,hlt,?_,he⟩
    ·rw [g2,Int.add_assoc]
    ·dsimp only
     have:=hle g1
     omega
  ·have hge:kids.length<=i:=by have:=of_decide_eq_false hc;omega
   rw [List.drop_eq_nil_of_le hge,calcRs] at he
   rw [he]
   refine AA ?_
   exact W.skipFinP rfl ⟨rfl,by omega,hGo,by omega,hfr⟩
end Go.Abs

/- Programs that are looked at: maps of numbers and of shapes. -/
open Go Go.Abs
namespace Go.Abs
set_option maxRecDepth 100000
set_option maxHeartbeats 4000000
instance fnis87:FnIs CC 104:=⟨rfl,fun _=>rfl⟩
instance fnis88:FnIs CC 105:=⟨rfl,fun _=>rfl⟩
instance fnis75:FnIs CC 51:=⟨rfl,fun _=>rfl⟩
instance fnis76:FnIs CC 52:=⟨rfl,fun _=>rfl⟩
def shpT (s:Shp):IV := .agg [.int .i64 s.kids, .int .i64 s.calcs, .bool s.name, .bool s.fold, .int .i64 s.low, .int .i64 s.high]
def sOr (op:Int):Shp:=(shapeR op).getD ⟨0,0,false,false,0,0⟩
def shapeKeys:List IV:=(List.range 15).map fun (i:Nat) => .int .i64 (i+1)
def shapeVals:List IV:=(List.range 15).map fun (i:Nat)=>shpT (sOr (i+1))
def shapesIV:IV := .fmp shapeKeys shapeVals
theorem ret87:Ret CC 104 [] shapesIV:=Ret.reckon (n:=60) (by kernel_rfl)
theorem keyFind_none {k:IV}:∀ {l:List IV},(∀ x∈l,scalarEq k x=some false)->keyFind k l=some none
 |[],_=>rfl
 |x::r,h=>by
  unfold keyFind
  rw [h x (by simp),keyFind_none fun y hy=>h y (by simp [hy])]
  rfl
theorem shLook (op:Int):lookIs (some ty55) (some ty137) (some (shapeKeys,shapeVals.map .imm)) (.int .i64 op) true (.imm (.tup [shpT (sOr op), .bool (shapeR op).isSome])):=by
 refine ⟨rfl,?_⟩
 rcases ops15 op with rfl|rfl|rfl|rfl|rfl|rfl|rfl|rfl|rfl|rfl|rfl|rfl|rfl|rfl|rfl|⟨n1,n2,n3,n4,n5,n6,n7,n8,n9,n10,n11,n12,n13,n14,n15⟩
 iterate 15 exact .inl ⟨_,_,by rfl,by rfl,by rfl⟩
 have hs:shapeR op=none:=by unfold shapeR;simp [n1,n2,n3,n4,n5,n6,n7,n8,n9,n10,n11,n12,n13,n14,n15]
 refine .inr ⟨?_,?_⟩
 ·refine keyFind_none fun x hx=>?_
  simp only [shapeKeys,List.mem_map,List.mem_range] at hx
  obtain ⟨i,hi,rfl⟩:=hx
  have:¬ op=(i:Int)+1:=by omega
  simp [scalarEq,this]
 ·unfold sOr;rw [hs];rfl
def numIV (l:List Str):IV := .fmp (l.map sv) ((List.range l.length).map natIV)
def idxN (l:List Str) (s:Str):Nat:=(l.findIdx? fun x=>s==x).getD 0
theorem findIdx_contains (s:Str):∀ l:List Str,(l.findIdx? fun x=>s==x).isSome=l.contains s
 |[]=>rfl
 |x::r=>by
  rw [List.findIdx?_cons,List.contains_cons]
  cases h:s==x with
  |true=>simp
  |false=>
   simp only [Bool.false_or]
   rw [<-findIdx_contains s r]
   cases (r.findIdx? fun x=>s==x)<;>rfl
theorem findIdx_lt {s:Str} {j:Nat}:∀ {l:List Str},(l.findIdx? fun x=>s==x)=some j->j < l.length
 |[],h=>by cases h
 |x::r,h=>by
  rw [List.findIdx?_cons] at h
  split at h
  ·cases h;simp
  ·cases hr:r.findIdx? fun x=>s==x with
   |none=>rw [hr] at h;cases h
   |some k=>
    rw [hr] at h
    cases h
    have:=findIdx_lt hr
    simp;omega
theorem numLook (l:List Str) (s:Str):lookIs (some ty9) (some ty3) (some (l.map sv,((List.range l.length).map natIV).map .imm)) (sv s) true (.imm (.tup [natIV (idxN l s), .bool (l.contains s)])):=by
 refine ⟨rfl,?_⟩
 rw [keyFind_sv,<-findIdx_contains]
 unfold idxN
 cases h:l.findIdx? fun x=>s==x with
 |none=>exact .inr ⟨rfl,rfl⟩
 |some j=>
  have:=findIdx_lt h
  refine .inl ⟨j, .imm (natIV j),rfl,?_,rfl⟩
  simp [this]
theorem numLook0 (l:List Str) (s:Str):lookIs (some ty9) (some ty3) (some (l.map sv,((List.range l.length).map natIV).map .imm)) (sv s) false (.imm (natIV (idxN l s))):=by
 refine ⟨rfl,?_⟩
 rw [keyFind_sv]
 unfold idxN
 cases h:l.findIdx? fun x=>s==x with
 |none=>exact .inr ⟨rfl,rfl⟩
 |some j=>
  have:=findIdx_lt h
  refine .inl ⟨j, .imm (natIV j),rfl,?_,rfl⟩
  simp [this]
theorem idxN_take {l:List Str} {s:Str} (k:Nat):(l.take k).contains s=(l.contains s&&decide (((idxN l s:Nat):Int) < (k:Int))):=by
 induction l generalizing k with
 |nil=>simp
 |cons x r ih=>
  cases k with
  |zero=>simp
  |succ k=>
   rw [List.take_succ_cons,List.contains_cons,List.contains_cons]
   unfold idxN
   rw [List.findIdx?_cons]
   cases h:s==x with
   |true=>simp
   |false=>
    simp only [Bool.false_or,Bool.false_eq_true,if_false]
    rw [ih k,<-findIdx_contains]
    unfold idxN
    cases r.findIdx? fun x=>s==x with
    |none=>simp
    |some j=>
     simp only [Option.isSome_some,Bool.true_and,Option.getD_some,Option.map_some]
     apply decide_eq_decide.2
     omega
def Others (ov:IV) (others:List Str):Prop:=∀ (G:Nat->Obj) (s:Str),∃ u:IV,lookIs (some ty9) (some ty3) (mapKV G (.imm ov)) (sv s) true (.imm (.tup [u, .bool (others.contains s)]))
theorem others_nil:Others .nilmap []:=fun _ _=>⟨.int .i64 0,rfl, .inr ⟨rfl,rfl⟩⟩
theorem others_num (l:List Str):Others (numIV l) l:=fun _ s=>⟨_,numLook l s⟩
def okAt (others l:List Str) (i:Nat):Bool:=nameOk (l.getD i []) && !(l.take i).contains (l.getD i []) && !others.contains (l.getD i [])
def fresh (others l:List Str):Bool:=(List.range l.length).all (okAt others l)
theorem fresh_bad {others l:List Str} {i:Nat} (hi:i < l.length) (h:okAt others l i=false):fresh others l=false:=
 List.all_eq_false.2 ⟨i,by simpa using hi,by rw [h];decide⟩
theorem numAt {l:List Str} {i:Nat} {s:Str} (h:l[i]? = some s):(l.take (i+1)).map sv=(l.take i).map sv++[sv s]/\((List.range (i+1)).map natIV).map AV.imm=((List.range i).map natIV).map AV.imm++[.imm (natIV i)]:=by
 refine ⟨?_,?_⟩
 ·rw [List.take_add_one,h];simp
 ·rw [List.range_succ];simp
theorem cal88 (l others:List Str) (ov:IV) (ho:Others ov others) (hl:l.length<=9223372036854775807) (hls:∀ s∈l,s.length<=9223372036854775807) :
  CalP CC 105 ([.lst (l.map sv),ov].map .imm) (fun _ => .gone) 0 fun
   | .ret v G' _=>fresh others l=true/\∃ ids,peek G' pkDepth v=some (numIV l,ids)
   | .pan u _ _=>u=unf/\fresh others l=false:=by
 have hlm:(l.map sv).length=l.length:=List.length_map ..
 refine CalP.of (fn:=Go.Proofs.Tryz.f105) (by kernel_rfl) rfl rfl ?_
 refine AA ?_
 refine W.loop (X:=Nat) (fun i=>[(1, .imm ov),(5, .map 1),(13, .imm (.lst (l.map sv))),(14, .imm (.int .i64 (l.map sv).length)),(15, .imm (.int .i64 i))])
  (fun i _ G=>G 1 = .mp ((l.take i).map sv) (((List.range i).map natIV).map .imm) false/\i<=l.length/\(List.range i).all (okAt others l)=true)
  (fun i=>l.length-i) 0 .auto ⟨rfl,Nat.zero_le _,rfl⟩ ?_
 rintro i nx G ⟨hG,hi,hall⟩
 rcases Bool.eq_false_or_eq_true (decide ((i:Int) < ((l.map sv).length:Int))) with hc|hc
 ·have hlt:i < l.length:=by have:=of_decide_eq_true hc;omega
  obtain ⟨s,hx⟩:=at_lt hlt
  have hxi:=at_map sv hx
  have hmu:l.length-(i+1) < l.length-i:=by omega
  have hr10:=ret10 s (hls s (List.mem_of_getElem? hx))
  have hgd:l.getD i []=s:=by rw [List.getD_eq_getElem?_getD,hx];rfl
  have hok:okAt others l i=(nameOk s && !(l.take i).contains s && !others.contains s):=by unfold okAt;rw [hgd]
  obtain ⟨u,h2⟩:=ho G s
  have h1:=numLook (l.take i) s
  rw [List.length_take,Nat.min_eq_left hi] at h1
  have h1:lookIs (some ty9) (some ty3) (mapKV G (.map 1)) (sv s) true (.imm (.tup [natIV (idxN (l.take i) s), .bool ((l.take i).contains s)])):=by
   simp only [mapKV,hG];exact h1
  have hkey:(l.take i).contains s=false->keyFind (sv s) ((l.take i).map sv)=some none:=fun h=>by
   rw [<-findIdx_contains] at h
   rw [keyFind_sv]
   cases h':(l.take i).findIdx? fun x=>s==x with
   |none=>rfl
   |some j=>rw [h'] at h;cases h
  have hno:okAt others l i=false->fresh others l=false:=fresh_bad hlt
  rcases Bool.eq_false_or_eq_true (nameOk s) with hA|hA
  ·rcases Bool.eq_false_or_eq_true ((l.take i).contains s) with hB|hB
   ·have hB':(!(l.take i).contains s)=false:=by rw [hB];rfl
    refine AA ?_
    exact R.callPan rfl rfl pan86 (panTo ⟨rfl,hno (by rw [hok,hB];simp)⟩)
   ·have hB':(!(l.take i).contains s)=true:=by rw [hB];rfl
    rcases Bool.eq_false_or_eq_true (!others.contains s) with hC|hC
    ·have hr:=retM hC
     refine AA ?_
     refine R.opN1 (O.mapNew rfl inferInstance rfl rfl rfl hG rfl (hkey hB)) ?_
     refine AA ?_
     refine W.skipLop (i+1) hmu .auto ⟨?_,hlt,?_⟩
     ·obtain ⟨e1,e2⟩:=numAt hx
      rw [upd_same,e1,e2];rfl
     ·rw [List.range_succ,List.all_append,hall]
      rw [List.all_cons,hok,hA,hB',hC];rfl
    ·refine AA ?_
     exact R.callPan rfl rfl (panM hC) (panTo ⟨rfl,hno (by rw [hok,hC];simp)⟩)
  ·refine AA ?_
   exact R.callPan rfl rfl pan86 (panTo ⟨rfl,hno (by rw [hok,hA];simp)⟩)
 ·have hge:l.length<=i:=by have:=of_decide_eq_false hc;omega
  have he:i=l.length:=by omega
  subst he
  refine AA ?_
  rw [List.take_length] at hG
  exact W.retFinP rfl ⟨hall,peek_mp hG⟩
theorem CalP.split {C:Cfg} {f:FuncId} {ivs:List IV} {x u:IV} {ok:Bool} (hu:u.scalar=true) (h:CalP C f (ivs.map .imm) (fun _ => .gone) 0 fun
   | .ret v G' _=>ok=true/\∃ ids,peek G' pkDepth v=some (x,ids)
   | .pan w _ _=>w=u/\ok=false):(ok=true->Ret C f ivs x)/\(ok=false->RetPan C f ivs u):=by
 obtain ⟨n,r,h1,h2⟩:=h
 cases r with
 |ret v G' nx'=>
  obtain ⟨h3,ids,h4⟩:=h2
  exact ⟨fun _=>⟨n,v,G',nx',_,ids,h1,h4⟩,fun h=>by rw [h3] at h;cases h⟩
 |pan w G' nx'=>
  obtain ⟨rfl,h3⟩:=h2
  exact ⟨(fun h=>by rw [h3] at h;cases h),fun _=>⟨n,G',nx',_,h1,hu⟩⟩
theorem ret88 {l others:List Str} {ov:IV} (ho:Others ov others) (hl:l.length<=9223372036854775807) (hls:∀ s∈l,s.length<=9223372036854775807) :
  (fresh others l=true->Ret CC 105 [.lst (l.map sv),ov] (numIV l))/\(fresh others l=false->RetPan CC 105 [.lst (l.map sv),ov] unf):=
 CalP.split rfl (cal88 l others ov ho hl hls)
theorem ret76 (d:Dfn):Ret CC 52 [d.iv] (sv d.name):=by
 obtain ⟨nm,⟨o',s',n',f',c',k'⟩⟩:=d
 refine Ret.of (fn:=Go.Proofs.Tryz.f52) (by kernel_rfl) rfl rfl ?_
 refine AA ?_
 exact W.retFin1 rfl ⟨[],rfl⟩
theorem ret75 (l:List Dfn) (hl:l.length<=4294967296):Ret CC 51 [.lst (l.map Dfn.iv), .fn (.func 52) []] (.lst ((l.map Dfn.name).map sv)):=by
 have hlm:(l.map Dfn.iv).length=l.length:=List.length_map ..
 refine Ret.of (fn:=Go.Proofs.Tryz.f51) (by kernel_rfl) rfl rfl ?_
 refine AA ?_
 refine W.loop (X:=Nat×AV) (fun x=>[(1, .imm (.fn (.func 52) [])),(8, .imm (.lst (l.map Dfn.iv))),(9, .imm (.int .i64 (l.map Dfn.iv).length)),(10, .imm (.int .i64 x.1)),(5,x.2)])
  (fun x nx G=>x.1<=l.length/\Own 9 1 0 nx (((l.map Dfn.name).take x.1).map sv) G x.2)
  (fun x=>l.length-x.1) (0, .nils) .auto ⟨Nat.zero_le _, .nil ..⟩ ?_
 rintro ⟨i,v⟩ nx G ⟨hi,ho⟩
 dsimp only at hi ho ⊢
 rcases Bool.eq_false_or_eq_true (decide ((i:Int) < ((l.map Dfn.iv).length:Int))) with hc|hc
 ·have hlt:i < l.length:=by have:=of_decide_eq_true hc;omega
  obtain ⟨d,hx⟩:=at_lt hlt
  have hxi:=at_map Dfn.iv hx
  have hdc:=d.cells_len
  have hmu:l.length-(i+1) < l.length-i:=by omega
  have hr:=ret76 d
  have htk:((l.map Dfn.name).take (i+1)).map sv=((l.map Dfn.name).take i).map sv++[sv d.name]:=by
   rw [List.take_add_one,List.getElem?_map,hx];simp
  obtain ⟨nm,⟨o',s',n',f',c',k'⟩⟩:=d
  refine AA ?_
  refine R.app1 ho at_upd (by simp only [List.length_map,List.length_take,most];omega) fun v' G' ho' hG'=>?_
  rw [<-htk] at ho'
  refine AA ?_
  exact W.skipLop (i+1,v') hmu .auto ⟨hlt,ho'.fr⟩
 ·have hge:l.length<=i:=by have:=of_decide_eq_false hc;omega
  rw [List.take_of_length_le (by simpa using hge)] at ho
  refine AA ?_
  exact W.retFin1 rfl ho.peek
end Go.Abs

/- Programs that are looked at: expressions. -/
open Go Go.Abs
namespace Go.Abs
set_option maxRecDepth 100000
set_option maxHeartbeats 4000000
theorem shapeR_sOr {op:Int} {s:Shp} (h:shapeR op=some s):sOr op=s:=by unfold sOr;rw [h];rfl
theorem cal89 {o:Nat} {srcs names:List Str} {ahead:Nat} {e:Exp} (hf:e.Fits):∀ {nx:Nat} {G:Nat->Obj} {n depth:Int},G o = .box [.imm (numIV srcs), .imm (numIV names), .imm shapesIV, .imm (.int .i64 ahead), .imm (.int .i64 n)] false->o < nx->(0<=n/\n<=60)->(-1000<=depth/\depth<=1000) ->
  CalP CC 106 [.ptr o 0, .imm e.iv, .imm (.int .i64 depth)] G nx (SPost o (.imm (numIV srcs)) (.imm (numIV names)) (.imm shapesIV) (.imm (.int .i64 ahead)) n (expR srcs names ahead e depth (60-n)) G nx):=by
 induction hf with
 |mk op name n' fold calcs kids hnm hw hc hk hcs hks ih=>
 intro nx G n depth hG ho hn hd
 have hc':calcs.length<=9223372036854775807:=hc
 have hk':kids.length<=9223372036854775807:=hk
 have hlk:=ivs_len kids
 have hlc:=tivs_len calcs
 refine CalP.of (fn:=Go.Proofs.Tryz.f106) (by kernel_rfl) rfl rfl ?_
 refine AA ?_
 refine R.callBP rfl rfl rfl rfl rfl ((cal103 (o:=o) (n:=n) at_upd (by omega) (by omega)).mono fun r hr=>?_)
 cases r with
 |pan u G' nx'=>
  obtain ⟨rfl,h1,h2,h3⟩:=hr
  have e:expR srcs names ahead (.mk op name n' fold calcs kids) depth (60-n) = -1:=by
   rw [expR]
   split
   ·rfl
   ·rw [if_pos]
    unfold oneR at h1
    split at h1
    ·assumption
    ·omega
  rw [e]
  exact panTo ⟨rfl,by decide,by omega,fun q h4 h5=>(h3 q (by omega) h5).trans at_upd⟩
 |ret v G' nx'=>
  obtain ⟨rfl,h1,h2,h3,h4⟩:=hr
  dsimp only
  have hor:oneR depth (60-n)=1:=by unfold oneR at h1 ⊢;split<;>simp_all
  have hdl:¬ (depth > 10\/(60-n) < 1):=by unfold oneR at h1;split at h1<;>omega
  rw [hor] at h2
  have hB:G' (nx+0) = .box [.imm (.int .i64 op), .imm (sv name), .imm (.int .i64 n'), .imm (.int .i64 fold), .imm (.lst (Trm.ivs calcs)), .imm (.lst (Exp.ivs kids))] false:=(h4 _ (by omega) (by omega)).trans at_upd
  have hfr:∀ q,q < nx->q≠o->G' q=G q:=fun q h5 h6=>(h4 q (by omega) h6).trans at_upd
  have hnx:nx+1<=nx':=by omega
  clear h3 h4 h1 hor
  have bad:expR srcs names ahead (.mk op name n' fold calcs kids) depth (60-n) = -1->∀ {G2:Nat->Obj} {nx2:Nat} {l:Env},nx+1<=nx2->(∀ q,q < nx->q≠o->G2 q=G q) ->
    ∀ t,Agree t l->finP CC Go.Proofs.Tryz.f106.results.toList (SPost o (.imm (numIV srcs)) (.imm (numIV names)) (.imm shapesIV) (.imm (.int .i64 ahead)) n (expR srcs names ahead (.mk op name n' fold calcs kids) depth (60-n)) G nx) (.pan unf ⟨t,G2,nx2,[], .no⟩):=by
   intro e G2 nx2 l h1 h2
   rw [e]
   exact panTo ⟨rfl,by decide,by omega,h2⟩
  have hL:=shLook op
  have hL1:=numLook srcs name
  have hL2:=numLook names name
  have hnone:shapeR op=none->expR srcs names ahead (.mk op name n' fold calcs kids) depth (60-n) = -1:=fun h=>by rw [expR,h]
  rcases Bool.eq_false_or_eq_true (shapeR op).isSome with hS|hS
  rotate_left
  ·refine AN ?_
   exact R.callPan rfl rfl pan86 (bad (hnone (by simpa using hS)) (by omega) fun q h5 h6=>Eq.trans at_upd (hfr q h5 h6))
  obtain ⟨s,hs⟩:=Option.isSome_iff_exists.1 hS
  rw [shapeR_sOr hs] at hL
  have hbad:headIs srcs names ahead s op name n' fold calcs.length kids.length=false->expR srcs names ahead (.mk op name n' fold calcs kids) depth (60-n) = -1:=fun h=>by
   rw [expR,hs];simp only [h];split<;>rfl
  rcases Bool.eq_false_or_eq_true (((Exp.ivs kids).length:Int)==(s.kids:Int)) with hD|hD
  rotate_left
  ·refine AN ?_
   exact R.callPan rfl rfl pan86 (bad (hbad (by rw [hlk] at hD;simp at hD;unfold headIs;simp;omega)) (by omega) fun q h5 h6=>Eq.trans at_upd (hfr q h5 h6))
  rcases Bool.eq_false_or_eq_true (((Trm.ivs calcs).length:Int)==(s.calcs:Int)) with hC|hC
  rotate_left
  ·refine AN ?_
   exact R.callPan rfl rfl pan86 (bad (hbad (by rw [hlc] at hC;simp at hC;unfold headIs;simp;omega)) (by omega) fun q h5 h6=>Eq.trans at_upd (hfr q h5 h6))
  rcases Bool.eq_false_or_eq_true (s.name == !(name==[])) with hE|hE
  rotate_left
  ·refine AN ?_
   exact R.callPan rfl rfl pan86 (bad (hbad (by unfold headIs;rw [hE];simp)) (by omega) fun q h5 h6=>Eq.trans at_upd (hfr q h5 h6))
  rcases Bool.eq_false_or_eq_true (decide (n'>=s.low)) with hF|hF
  rotate_left
  ·refine AN ?_
   exact R.callPan rfl rfl pan86 (bad (hbad (by unfold headIs inR;rw [hF];simp)) (by omega) fun q h5 h6=>Eq.trans at_upd (hfr q h5 h6))
  rcases Bool.eq_false_or_eq_true (decide (n'<=s.high)) with hF2|hF2
  rotate_left
  ·refine AN ?_
   exact R.callPan rfl rfl (panM hF2) (bad (hbad (by unfold headIs inR;rw [hF,hF2];simp)) (by omega) fun q h5 h6=>Eq.trans at_upd (hfr q h5 h6))
  have hC':calcs.length=s.calcs:=by rw [hlc] at hC;simp at hC;omega
  have hD':kids.length=s.kids:=by rw [hlk] at hD;simp at hD;omega
  have hF':inR n' s.low s.high=true:=by unfold inR;rw [hF,hF2];rfl
  have hfold:foldIs s fold=false->headIs srcs names ahead s op name n' fold calcs.length kids.length=false:=fun h=>by unfold headIs;rw [h];simp
  have hname:foldIs s fold=true->headIs srcs names ahead s op name n' fold calcs.length kids.length=nameIs srcs names ahead op name:=fun h=>by
   unfold headIs;rw [hC',hD',hE,hF',h];simp
  have hr:=retM hF2
  refine A1 ?_
  refine A1 ?_
  refine A1 ?_
  refine W.cut (X:=Unit) (fun _=>[(0, .ptr o 0),(2, .imm (.int .i64 depth)),(4, .ptr (nx+0) 0)])
   (fun _ nx2 G2=>nx'<=nx2/\G2 o=G' o/\G2 (nx+0)=G' (nx+0)/\(∀ q,q < nx->q≠o->G2 q=G q)/\foldIs s fold=true) ?_ ?_
  ·clear hL1 hL2 hr
   cases hFo:s.fold with
   |true=>
    have hfi:foldIs s fold=(decide (fold>=1)&&decide (fold<=4)):=by unfold foldIs;rw [hFo];rfl
    rcases Bool.eq_false_or_eq_true (decide (fold>=1)) with hI|hI
    ·rcases Bool.eq_false_or_eq_true (decide (fold<=4)) with hJ|hJ
     ·have hr:=retM (b:=true) rfl
      refine AN ?_
      exact W.skipCut () .auto ⟨by omega,at_upd,at_upd,fun q h5 h6=>Eq.trans at_upd (hfr q h5 h6),by rw [hfi,hI,hJ];rfl⟩
     ·have hFn:(!s.fold)=false:=by rw [hFo];rfl
      refine AN ?_
      exact R.callPan rfl rfl pan86 (bad (hbad (hfold (by rw [hfi,hJ];simp))) (by omega) fun q h5 h6=>Eq.trans at_upd (hfr q h5 h6))
    ·have hFn:(!s.fold)=false:=by rw [hFo];rfl
     refine AN ?_
     exact R.callPan rfl rfl pan86 (bad (hbad (hfold (by rw [hfi,hI];simp))) (by omega) fun q h5 h6=>Eq.trans at_upd (hfr q h5 h6))
   |false=>
    have hFn:(!s.fold)=true:=by rw [hFo];rfl
    have hfi:foldIs s fold=(fold==0):=by unfold foldIs;rw [hFo];rfl
    rcases Bool.eq_false_or_eq_true (fold==0) with hI|hI
    ·have hr:=retM hI
     refine AN ?_
     exact W.skipCut () .auto ⟨by omega,at_upd,at_upd,fun q h5 h6=>Eq.trans at_upd (hfr q h5 h6),by rw [hfi];exact hI⟩
    ·refine AN ?_
     exact R.callPan rfl rfl (panM hI) (bad (hbad (hfold (by rw [hfi];exact hI))) (by omega) fun q h5 h6=>Eq.trans at_upd (hfr q h5 h6))
  rintro _ nx2 G2 ⟨hx2,hG2o,hG2e,hfr2,hfo⟩
  rw [h2] at hG2o
  rw [hB] at hG2e
  have hname:=hname hfo
  have hmk:expR srcs names ahead (.mk op name n' fold calcs kids) depth (60-n)=if nameIs srcs names ahead op name then (if calcRs calcs (other op) 0 (60-n) 1 < 0 then -1 else expRs srcs names ahead kids depth (60-n) (calcRs calcs (other op) 0 (60-n) 1)) else -1:=by
   rw [expR,hs];simp only [if_neg (show ¬ (depth > 10\/(60-n) < 1) by omega),hname]
  generalize expR srcs names ahead (.mk op name n' fold calcs kids) depth (60-n)=res at hmk bad ⊢
  clear hbad hname hfold hnone hL hr hF hF2 hE hC hD hS hfo hB h2
  refine A1 ?_
  refine A1 ?_
  refine W.cut (X:=Unit) (fun _=>[(0, .ptr o 0),(2, .imm (.int .i64 depth)),(4, .ptr (nx+0) 0)])
   (fun _ nx3 G3=>nx2<=nx3/\G3=G2/\nameIs srcs names ahead op name=true) ?_ ?_
  ·have hno:nameIs srcs names ahead op name=false->res = -1:=fun h=>by rw [hmk,h];rfl
   by_cases e1:op=1
   ·subst e1
    have hni:nameIs srcs names ahead 1 name=srcs.contains name:=rfl
    rcases Bool.eq_false_or_eq_true (srcs.contains name) with hI|hI
    ·have hr:=retM hI
     refine AN ?_
     exact W.skipCut () .auto ⟨by omega,rfl,by rw [hni];exact hI⟩
    ·refine AN ?_
     exact R.callPan rfl rfl (panM hI) (bad (hno (by rw [hni];exact hI)) (by omega) hfr2)
   by_cases e2:op=2
   ·subst e2
    have hni:nameIs srcs names ahead 2 name=(names.contains name&&decide (((idxN names name:Nat):Int) < (ahead:Int))):=idxN_take ahead
    rcases Bool.eq_false_or_eq_true (names.contains name) with hI|hI
    ·rcases Bool.eq_false_or_eq_true (decide (((idxN names name:Nat):Int) < (ahead:Int))) with hJ|hJ
     ·have hr:=retM hJ
      refine AN ?_
      exact W.skipCut () .auto ⟨by omega,rfl,by rw [hni,hI,hJ];rfl⟩
     ·refine AN ?_
      exact R.callPan rfl rfl (panM hJ) (bad (hno (by rw [hni,hI,hJ];rfl)) (by omega) hfr2)
    ·refine AN ?_
     exact R.callPan rfl rfl pan86 (bad (hno (by rw [hni,hI];rfl)) (by omega) hfr2)
   by_cases e3:op=3
   ·subst e3
    have hni:nameIs srcs names ahead 3 name=names.contains name:=rfl
    rcases Bool.eq_false_or_eq_true (names.contains name) with hI|hI
    ·have hr:=retM hI
     refine AN ?_
     exact W.skipCut () .auto ⟨by omega,rfl,by rw [hni];exact hI⟩
    ·refine AN ?_
     exact R.callPan rfl rfl (panM hI) (bad (hno (by rw [hni];exact hI)) (by omega) hfr2)
   have hn:nameIs srcs names ahead op name=true:=by unfold nameIs;simp [e1,e2,e3]
   have e1':(op==1)=false:=by simpa using e1
   have e2':(op==2)=false:=by simpa using e2
   have e3':(op==3)=false:=by simpa using e3
   refine AN ?_
   exact W.skipCut () .auto ⟨by omega,rfl,hn⟩
  rintro _ nx3 G3 ⟨hx3,rfl,hni⟩
  rw [hni,if_pos rfl] at hmk
  clear hL1 hL2
  have hGe:=hG2e
  refine AN ?_
  refine W.loop (X:=Nat×Int) (fun x=>[(0, .ptr o 0),(2, .imm (.int .i64 depth)),(4, .ptr (nx+0) 0),(137, .imm (.lst (Trm.ivs calcs))),(138, .imm (.int .i64 (Trm.ivs calcs).length)),(139, .imm (.int .i64 x.1))])
   (fun x nx4 G4=>nx+1<=nx4/\G4 o = .box [.imm (numIV srcs), .imm (numIV names), .imm shapesIV, .imm (.int .i64 ahead), .imm (.int .i64 (n+x.2))] false/\G4 (nx+0) = .box [.imm (.int .i64 op), .imm (sv name), .imm (.int .i64 n'), .imm (.int .i64 fold), .imm (.lst (Trm.ivs calcs)), .imm (.lst (Exp.ivs kids))] false /\
    (∀ q,q < nx->q≠o->G4 q=G q)/\x.1<=calcs.length/\(1<=x.2/\x.2<=60-n)/\res=(if calcRs (calcs.drop x.1) (other op) 0 (60-n) x.2 < 0 then -1 else expRs srcs names ahead kids depth (60-n) (calcRs (calcs.drop x.1) (other op) 0 (60-n) x.2)))
   (fun x=>calcs.length-x.1) (0,1) .auto ⟨by omega,hG2o,hGe,hfr2,Nat.zero_le _,by dsimp only;omega,hmk⟩ ?_
  clear hG2o hG2e hGe hfr2 hmk hx2 hx3 hni hfr
  rintro ⟨i,m⟩ nx4 G4 ⟨hx4,hGo,hGe,hfr,hi,hm,he⟩
  dsimp only at hGo hi hm he ⊢
  rcases Bool.eq_false_or_eq_true (decide ((i:Int) < ((Trm.ivs calcs).length:Int))) with hc|hc
  ·have hlt:i < calcs.length:=by have:=of_decide_eq_true hc;omega
   obtain ⟨kid,hxk⟩:=at_lt hlt
   have hxi:=tivs_at hxk
   have hcl:=kid.cells_len
   have ihk:=fun (oth:Bool) (nx:Nat) (G:Nat->Obj) (n:Int) h1 h2 h3=>@cal104 o (.imm (numIV srcs)) (.imm (numIV names)) (.imm shapesIV) (.imm (.int .i64 ahead)) kid (hcs kid (List.mem_of_getElem? hxk)) nx G n 1 oth h1 h2 h3 (by omega)
   have hle:=calcR_le kid (other op) 1 (60-n-m)
   rw [calcRs_drop hxk,show (0:Int)+1=1 from rfl] at he
   have hmu:calcs.length-(i+1) < calcs.length-i:=by omega
   obtain ⟨o',m',k'⟩:=kid
   have go:∀ oth:Bool,other op=oth->∀ {nx5:Nat} {G5:Nat->Obj} (hx5:nx4<=nx5) (hGo:G5 o = .box [.imm (numIV srcs), .imm (numIV names), .imm shapesIV, .imm (.int .i64 ahead), .imm (.int .i64 (n+m))] false),CalP CC 163 [.ptr o 0, .imm (Trm.mk o' m' k').iv, .imm (.bool oth), .imm (.int .i64 1)] G5 nx5
    (SPost o (.imm (numIV srcs)) (.imm (numIV names)) (.imm shapesIV) (.imm (.int .i64 ahead)) (n+m) (calcR (.mk o' m' k') (other op) 1 (60-n-m)) G5 nx5):=by
    intro oth ho2 nx5 G5 h5 h6
    subst ho2
    have:=ihk (other op) nx5 G5 (n+m) h6 (by omega) (by omega)
    rwa [show (60:Int)-(n+m)=60-n-m by omega] at this
   clear ihk
   have fin:∀ {r:CR} {nx5:Nat} {G5:Nat->Obj},nx4<=nx5->(∀ q,q < nx4->q≠o->G5 q=G4 q)->SPost o (.imm (numIV srcs)) (.imm (numIV names)) (.imm shapesIV) (.imm (.int .i64 ahead)) (n+m) (calcR (.mk o' m' k') (other op) 1 (60-n-m)) G5 nx5 r->match r with
     | .ret v G6 nx6=>v = .imm (.tup [])/\nx+1<=nx6/\G6 o = .box [.imm (numIV srcs), .imm (numIV names), .imm shapesIV, .imm (.int .i64 ahead), .imm (.int .i64 (n+(m+calcR (.mk o' m' k') (other op) 1 (60-n-m))))] false/\G6 (nx+0) = .box [.imm (.int .i64 op), .imm (sv name), .imm (.int .i64 n'), .imm (.int .i64 fold), .imm (.lst (Trm.ivs calcs)), .imm (.lst (Exp.ivs kids))] false /\
       (∀ q,q < nx->q≠o->G6 q=G q)/\(1<=m+calcR (.mk o' m' k') (other op) 1 (60-n-m)/\m+calcR (.mk o' m' k') (other op) 1 (60-n-m)<=60-n)/\¬ (calcR (.mk o' m' k') (other op) 1 (60-n-m) < 0)
     | .pan u G6 nx6=>u=unf/\nx+1<=nx6/\(∀ q,q < nx->q≠o->G6 q=G q)/\calcR (.mk o' m' k') (other op) 1 (60-n-m) < 0:=by
    intro r nx5 G5 h5 h6 hr
    cases r with
    |pan u G6 nx6=>
     obtain ⟨g0,g1,g2,g3⟩:=hr
     exact ⟨g0,by omega,fun q h7 h8=>(g3 q (by omega) h8).trans ((h6 q (by omega) h8).trans (hfr q h7 h8)),g1⟩
    |ret v G6 nx6=>
     obtain ⟨g0,g1,g2,g3,g4⟩:=hr
     have:=hle g1
     exact ⟨g0,by omega,by rw [g2,Int.add_assoc],(g4 _ (by omega) (by omega)).trans ((h6 _ (by omega) (by omega)).trans hGe),fun q h7 h8=>(g4 q (by omega) h8).trans ((h6 q (by omega) h8).trans (hfr q h7 h8)),by omega,by omega⟩
   rcases Bool.eq_false_or_eq_true (op==12) with h12|h12
   all_goals
    refine AN ?_
    refine R.callBP rfl rfl rfl rfl rfl ((go _ (by unfold other;rw [h12];rfl) (by omega) at_upd).mono fun r hr=>?_)
    have hf:=fin (by omega) (fun q h1 h2=>at_upd) hr
    clear hr
    cases r with
    |pan u G6 nx6=>
     obtain ⟨rfl,g1,g2,g3⟩:=hf
     rw [if_pos g3] at he
     exact bad (by rw [he];rfl) g1 g2
    |ret v G6 nx6=>
     obtain ⟨rfl,g1,g2,g3,g4,g5,g6⟩:=hf
     rw [if_neg g6] at he
     refine AN ?_
     exact W.skipLop (i+1,m+calcR (.mk o' m' k') (other op) 1 (60-n-m)) hmu .auto ⟨by omega,g2,g3,g4,hlt,g5,he⟩
  have hge:calcs.length<=i:=by have:=of_decide_eq_false hc;omega
  rw [List.drop_eq_nil_of_le hge,calcRs,if_neg (by omega)] at he
  refine AN ?_
  refine W.loop (X:=Nat×Int) (fun x=>[(0, .ptr o 0),(2, .imm (.int .i64 depth)),(156, .imm (.lst (Exp.ivs kids))),(157, .imm (.int .i64 (Exp.ivs kids).length)),(158, .imm (.int .i64 x.1))])
   (fun x nx4 G4=>nx+1<=nx4/\G4 o = .box [.imm (numIV srcs), .imm (numIV names), .imm shapesIV, .imm (.int .i64 ahead), .imm (.int .i64 (n+x.2))] false /\
    (∀ q,q < nx->q≠o->G4 q=G q)/\x.1<=kids.length/\(1<=x.2/\x.2<=60-n)/\res=expRs srcs names ahead (kids.drop x.1) depth (60-n) x.2)
   (fun x=>kids.length-x.1) (0,m) .auto ⟨by omega,hGo,hfr,Nat.zero_le _,hm,he⟩ ?_
  clear hGo hGe hfr he hm hc hge hi
  clear i m hx4
  rintro ⟨i,m⟩ nx4 G4 ⟨hx4,hGo,hfr,hi,hm,he⟩
  dsimp only at hGo hi hm he ⊢
  rcases Bool.eq_false_or_eq_true (decide ((i:Int) < ((Exp.ivs kids).length:Int))) with hc|hc
  ·have hlt:i < kids.length:=by have:=of_decide_eq_true hc;omega
   obtain ⟨kid,hxk⟩:=at_lt hlt
   have hxi:=ivs_at hxk
   have hcl:=kid.cells_len
   have ihk:=@ih kid (List.mem_of_getElem? hxk)
   have hle:=(expR_le srcs names ahead kid (depth+1) (60-n-m)).2
   rw [expRs_drop srcs names ahead hxk] at he
   have hmu:kids.length-(i+1) < kids.length-i:=by omega
   obtain ⟨o',s',m',f',c',k'⟩:=kid
   refine AN ?_
   refine R.callBP rfl rfl rfl rfl rfl ((ihk (n:=n+m) (depth:=depth+1) at_upd (by omega) (by omega) (by omega)).mono fun r hr=>?_)
   rw [show (60:Int)-(n+m)=60-n-m by omega] at hr
   cases r with
   |pan u G' nx'=>
    obtain ⟨rfl,g1,g2,g3⟩:=hr
    rw [if_pos g1] at he
    exact bad he (by omega) fun q h4 h5=>(g3 q (by omega) h5).trans (Eq.trans at_upd (hfr q h4 h5))
   |ret v G' nx'=>
    obtain ⟨rfl,g1,g2,g3,g4⟩:=hr
    rw [if_neg (by omega)] at he
    refine AN ?_
    refine W.skipLop (i+1,m+expR srcs names ahead (.mk o' s' m' f' c' k') (depth+1) (60-n-m)) hmu .auto ⟨by omega,?_,fun q h4 h5=>(g4 q (by omega) h5).trans (Eq.trans at_upd (hfr q h4 h5)),hlt,?_,he⟩
    ·rw [g2,Int.add_assoc]
    ·dsimp only
     have:=hle g1
     omega
  ·have hge:kids.length<=i:=by have:=of_decide_eq_false hc;omega
   rw [List.drop_eq_nil_of_le hge,expRs] at he
   rw [he]
   refine AN ?_
   exact W.skipFinP rfl ⟨rfl,by omega,hGo,by omega,hfr⟩
end Go.Abs

/- Walks over the nodes of an expression. -/
open Go Go.Abs
namespace Go.Abs
set_option maxRecDepth 100000
set_option maxHeartbeats 4000000
def ty101:TyI:={ d:=TyD.fn,sz:=1,bytes:=8,zero:=AV.imm IV.nilfn }
instance tyis101:TyIs CC 115 ty101:=⟨by kernel_rfl⟩
def ty111:TyI:={ d:=TyD.fn,sz:=1,bytes:=8,zero:=AV.imm IV.nilfn }
instance tyis111:TyIs CC 200 ty111:=⟨by kernel_rfl⟩
abbrev Own1:=Nat->Prop
abbrev Kp:=Nat->Own1->(Nat->Obj)->Nat->Prop
structure Walk (q N:Nat) (l:List Exp) (K:Kp) (J:(Nat->Obj)->Nat->Prop) (Pn:IV->(Nat->Obj)->Nat->Prop):Prop where
 frame:∀ i own G nx G' nx',K i own G nx->nx<=nx'->(∀ o,o < nx->G' o=G o)->K i own G' nx'
 lt:∀ i own G nx,K i own G nx->∀ o,own o->o < nx
 frameJ:∀ G nx G' nx',J G nx->nx<=nx'->(∀ o,o < nx->G' o=G o)->J G' nx'
 round:∀ i x own G nx,l[i]? = some x->N<=nx->K i own G nx->RndP CC q [.imm x.iv] G nx fun
  | .ret v G' nx'=>nx<=nx'/\∃ own',(∀ o,o < nx->own' o->own o)/\(∀ o,N<=o->o < nx->¬ own o->G' o=G o)/\((v = .imm (.bool true)/\K (i+1) own' G' nx')\/(v = .imm (.bool false)/\J G' nx'))
  | .pan u G' nx'=>Pn u G' nx'
variable {q N:Nat} {l:List Exp} {K:Kp} {J:(Nat->Obj)->Nat->Prop} {Pn:IV->(Nat->Obj)->Nat->Prop}
def WPost (N:Nat) (K:Kp) (J:(Nat->Obj)->Nat->Prop) (Pn:IV->(Nat->Obj)->Nat->Prop) (k:Nat) (go:AV->Prop) (stop:AV->Prop) (own:Own1) (G:Nat->Obj) (nx:Nat):CR->Prop
 | .ret v G' nx'=>nx<=nx'/\∃ own',(∀ o,o < nx->own' o->own o)/\(∀ o,N<=o->o < nx->¬ own o->G' o=G o)/\((go v/\K k own' G' nx')\/(stop v/\J G' nx'))
 | .pan u G' nx'=>Pn u G' nx'
def isB (b:Bool) (v:AV):Prop:=v = .imm (.bool b)
theorem WPost.trans {k:Nat} {go stop:AV->Prop} {own own1:Own1} {G G1:Nat->Obj} {nx nx1:Nat} {r:CR} (h:WPost N K J Pn k go stop own1 G1 nx1 r) (hn:nx<=nx1) (ho:∀ o,o < nx->own1 o->own o) (hG:∀ o,N<=o->o < nx->¬ own o->G1 o=G o):WPost N K J Pn k go stop own G nx r:=by
 cases r with
 |ret v G' nx'=>
  obtain ⟨h1,own',h0,h2,h3⟩:=h
  exact ⟨by omega,own',fun o h4 h5=>ho o h4 (h0 o (by omega) h5),fun o h4 h5 h6=>(h2 o h4 (by omega) fun h7=>h6 (ho o h5 h7)).trans (hG o h4 h5 h6),h3⟩
 |pan u G' nx'=>exact h
structure Bx (q N yb wb nx:Nat) (own:Own1) (G:Nat->Obj):Prop where
 y:G yb = .box [.yld q] false
 w:G wb = .box [.fn (.func 132) [.ptr yb 0, .ptr wb 0]] false
 yl:N<=yb/\yb < nx/\¬ own yb
 wl:N<=wb/\wb < nx/\¬ own wb
theorem Bx.fr {q N yb wb nx nx':Nat} {own own':Own1} {G G':Nat->Obj} (h:Bx q N yb wb nx own G) (hn:nx<=nx') (ho:∀ o,o < nx->own' o->own o) (hG:∀ o,N<=o->o < nx->¬ own o->G' o=G o):Bx q N yb wb nx' own' G':=
 ⟨(hG _ h.yl.1 h.yl.2.1 h.yl.2.2).trans h.y,(hG _ h.wl.1 h.wl.2.1 h.wl.2.2).trans h.w,⟨h.yl.1,by have:=h.yl.2.1;omega,fun h'=>h.yl.2.2 (ho _ h.yl.2.1 h')⟩,⟨h.wl.1,by have:=h.wl.2.1;omega,fun h'=>h.wl.2.2 (ho _ h.wl.2.1 h')⟩⟩
def From (l m:List Exp) (k:Nat):Prop:=∀ j x,m[j]? = some x->l[k+j]? = some x
def WalkOK (q N:Nat) (l:List Exp) (K:Kp) (J:(Nat->Obj)->Nat->Prop) (Pn:IV->(Nat->Obj)->Nat->Prop) (e:Exp):Prop:=
 ∀ k own yb wb nx G,From l (allE e) k->K k own G nx->Bx q N yb wb nx own G->CalP CC 132 [.imm e.iv, .ptr yb 0, .ptr wb 0] G nx (WPost N K J Pn (k+(allE e).length) (isB true) (isB false) own G nx)
theorem cal83 (hw:Walk q N l K J Pn) {e:Exp} (he:WalkOK q N l K J Pn e) {k yb wb nx:Nat} {own:Own1} {G:Nat->Obj} (hf:From l (allE e) k) (hI:K k own G nx) (hB:Bx q N yb wb nx own G) :
  CalP CC 134 [.imm e.iv, .ptr wb 0] G nx (WPost N K J Pn (k+(allE e).length) (isB false) (isB true) own G nx):=by
 have hc:=fun nx1 G1 (h2:nx<=nx1) (h3:∀ o,o < nx->G1 o=G o)=>he k own yb wb nx1 G1 hf (hw.frame k own G nx G1 nx1 hI h2 h3) (hB.fr (nx':=nx1) h2 (fun _ _ h=>h) fun o _ h _=>h3 o h)
 have hwG:=hB.w
 have hwl:=hB.wl
 obtain ⟨op,name,n',fold,calcs,kids⟩:=e
 refine CalP.of (fn:=Go.Proofs.Tryz.f134) (by kernel_rfl) rfl rfl ?_
 refine AN ?_
 refine R.callBP rfl rfl rfl rfl rfl ((hc _ _ (by omega) (fun o h2=>at_upd)).mono fun r hr=>?_)
 have hr:=hr.trans (nx:=nx) (own:=own) (G:=G) (by omega) (fun _ _ h=>h) (fun o h1 h2 h3=>at_upd)
 cases r with
 |pan u G' nx'=>exact panTo (by exact hr)
 |ret v G' nx'=>
  obtain ⟨h1,own',h0,h2,⟨rfl,h3⟩|⟨rfl,h3⟩⟩:=hr
  ·refine AN ?_
   exact W.retFinP rfl ⟨by omega,own',h0,h2, .inl ⟨rfl,hw.frame _ _ _ _ _ _ h3 (by omega) fun _ _=>rfl⟩⟩
  ·refine AN ?_
   exact W.retFinP rfl ⟨by omega,own',h0,h2, .inr ⟨rfl,hw.frameJ _ _ _ _ h3 (by omega) fun _ _=>rfl⟩⟩
theorem allEs_split:∀ {kids:List Exp} {i:Nat} {k:Exp},kids[i]? = some k->allEs kids=allEs (kids.take i)++(allE k++allEs (kids.drop (i+1)))
 |[],_,_,h=>by simp at h
 |x::r,0,k,h=>by
  simp at h
  subst h
  simp [allEs]
 |x::r,i+1,k,h=>by
  simp at h
  rw [List.take_succ_cons,List.drop_succ_cons,allEs,allEs,allEs_split h]
  simp
theorem From.kid {kids:List Exp} {i k:Nat} {e:Exp} (h:From l (allEs kids) k) (hi:kids[i]? = some e):From l (allE e) (k+(allEs (kids.take i)).length):=by
 intro j x hx
 have:=h ((allEs (kids.take i)).length+j) x (by
  rw [allEs_split hi,List.getElem?_append_right (by omega)]
  have hj:=(List.getElem?_eq_some_iff.1 hx).1
  rw [show (allEs (kids.take i)).length+j-(allEs (kids.take i)).length=j by omega,List.getElem?_append_left hj]
  exact hx)
 rwa [<-Nat.add_assoc] at this
def isNeg (v:AV):Prop:=v = .imm (.int .i64 (-1))
def isPos (v:AV):Prop:=∃ n:Nat,v = .imm (.int .i64 n)
theorem cal102 (hw:Walk q N l K J Pn) {kids:List Exp} (hk:kids.length<=9223372036854775807) (he:∀ e∈kids,WalkOK q N l K J Pn e) {k yb wb nx:Nat} {own:Own1} {G:Nat->Obj} (hf:From l (allEs kids) k) (hI:K k own G nx) (hB:Bx q N yb wb nx own G) :
  CalP CC 175 [.imm (.lst (Exp.ivs kids)), .fn (.func 134) [.ptr wb 0]] G nx (WPost N K J Pn (k+(allEs kids).length) isNeg isPos own G nx):=by
 have hlk:=ivs_len kids
 refine CalP.of (fn:=Go.Proofs.Tryz.f175) (by kernel_rfl) rfl rfl ?_
 refine AN ?_
 refine W.loop (X:=Nat×Own1) (fun x=>[(0, .imm (.lst (Exp.ivs kids))),(1, .fn (.func 134) [.ptr wb 0]),(6, .imm (.lst (Exp.ivs kids))),(7, .imm (.int .i64 (Exp.ivs kids).length)),(8, .imm (.int .i64 x.1))])
  (fun x nx1 G1=>nx<=nx1/\(∀ o,o < nx->x.2 o->own o)/\(∀ o,N<=o->o < nx->¬ own o->G1 o=G o)/\x.1<=kids.length/\K (k+(allEs (kids.take x.1)).length) x.2 G1 nx1) (fun x=>kids.length-x.1) (0,own) .auto
  ⟨by omega,fun _ _ h=>h,fun _ _ _ _=>rfl,Nat.zero_le _,hw.frame _ _ _ _ _ _ hI (by omega) fun _ _=>rfl⟩ ?_
 clear hI
 rintro ⟨i,own1⟩ nx1 G1 ⟨hx,ho1,hfr,hi,hI⟩
 dsimp only at ho1 hi hI ⊢
 rcases Bool.eq_false_or_eq_true (decide ((i:Int) < ((Exp.ivs kids).length:Int))) with hc|hc
 ·have hlt:i < kids.length:=by have:=of_decide_eq_true hc;omega
  obtain ⟨kid,hxk⟩:=at_lt hlt
  have hxi:=ivs_at hxk
  have hcl:=kid.cells_len
  have hcal:=fun nx2 (h:nx1<=nx2)=>cal83 (nx:=nx2) hw (he kid (List.mem_of_getElem? hxk)) (hf.kid hxk) (hw.frame _ _ _ _ _ _ hI h fun _ _=>rfl) (hB.fr (nx':=nx2) (by omega) ho1 hfr)
  have hmu:kids.length-(i+1) < kids.length-i:=by omega
  have htk:=allEs_take hxk
  obtain ⟨o',s',m',f',c',k'⟩:=kid
  refine AN ?_
  refine R.callBP rfl rfl rfl rfl rfl ((hcal _ (by omega)).mono fun r hr=>?_)
  have hr:=hr.trans (nx:=nx) (own:=own) (G:=G) (by omega) ho1 hfr
  cases r with
  |pan u G' nx'=>exact panTo (by exact hr)
  |ret v G' nx'=>
   obtain ⟨h1,own',h0,h2,⟨rfl,h3⟩|⟨rfl,h3⟩⟩:=hr
   ·refine AN ?_
    refine W.skipLop (i+1,own') hmu .auto ⟨by omega,h0,h2,hlt,?_⟩
    rw [htk,List.length_append,<-Nat.add_assoc];exact hw.frame _ _ _ _ _ _ h3 (by omega) fun _ _=>rfl
   ·refine AN ?_
    exact W.retFinP rfl ⟨by omega,own',h0,h2, .inr ⟨⟨_,rfl⟩,hw.frameJ _ _ _ _ h3 (by omega) fun _ _=>rfl⟩⟩
 ·have hge:kids.length<=i:=by have:=of_decide_eq_false hc;omega
  rw [List.take_of_length_le hge] at hI
  refine AN ?_
  exact W.retFinP rfl ⟨by omega,own1,ho1,hfr, .inl ⟨rfl,hw.frame _ _ _ _ _ _ hI (by omega) fun _ _=>rfl⟩⟩
theorem cal82 (hw:Walk q N l K J Pn) {kids:List Exp} (hk:kids.length<=9223372036854775807) (he:∀ e∈kids,WalkOK q N l K J Pn e) {k yb wb nx:Nat} {own:Own1} {G:Nat->Obj} (hf:From l (allEs kids) k) (hI:K k own G nx) (hB:Bx q N yb wb nx own G) :
  CalP CC 133 [.imm (.lst (Exp.ivs kids)), .fn (.func 134) [.ptr wb 0]] G nx (WPost N K J Pn (k+(allEs kids).length) (isB false) (isB true) own G nx):=by
 have hc:=fun nx1 (h2:nx<=nx1)=>cal102 hw hk he hf (hw.frame _ _ _ _ _ _ hI h2 fun _ _=>rfl) (hB.fr (nx':=nx1) h2 (fun _ _ h=>h) fun _ _ _ _=>rfl)
 refine CalP.of (fn:=Go.Proofs.Tryz.f133) (by kernel_rfl) rfl rfl ?_
 refine AN ?_
 refine R.callBP rfl rfl rfl rfl rfl ((hc _ (by omega)).mono fun r hr=>?_)
 have hr:=hr.trans (nx:=nx) (own:=own) (G:=G) (by omega) (fun _ _ h=>h) (fun o h1 h2 h3=>rfl)
 cases r with
 |pan u G' nx'=>exact panTo (by exact hr)
 |ret v G' nx'=>
  obtain ⟨h1,own',h0,h2,⟨rfl,h3⟩|⟨⟨n,rfl⟩,h3⟩⟩:=hr
  ·refine AN ?_
   exact W.retFinP rfl ⟨by omega,own',h0,h2, .inl ⟨rfl,hw.frame _ _ _ _ _ _ h3 (by omega) fun _ _=>rfl⟩⟩
  ·refine AN ?_
   refine W.retFinP rfl ⟨by omega,own',h0,h2, .inr ⟨?_,hw.frameJ _ _ _ _ h3 (by omega) fun _ _=>rfl⟩⟩
   show AV.imm (.bool (decide ((n:Int)>=0))) = .imm (.bool true)
   rw [decide_eq_true (by omega)]
theorem walk_ok (hw:Walk q N l K J Pn) {e:Exp} (hfit:e.Fits):WalkOK q N l K J Pn e:=by
 induction hfit with
 |mk op name n' fold calcs kids hnm hw' hc hk hcs hks ih=>
 intro k own yb wb nx G hf hI hB
 have hk':kids.length<=9223372036854775807:=hk
 have hyl:=hB.yl
 have hwl:=hB.wl
 have hyG:=hB.y
 have h0:=hf 0 _ (by rw [allE];rfl)
 have hkf:From l (allEs kids) (k+1):=fun j x hx=>by
  have:=hf (j+1) x (by rw [allE];simpa using hx)
  rwa [show k+(j+1)=k+1+j by omega] at this
 have hr:=fun nx1 G1 (h:N<=nx1) (h1:nx<=nx1) (h2:∀ o,o < nx->G1 o=G o)=>hw.round k _ own G1 nx1 h0 h (hw.frame k own G nx G1 nx1 hI h1 h2)
 have hlen:k+1+(allEs kids).length=k+(allE (.mk op name n' fold calcs kids)).length:=by rw [allE];simp;omega
 refine CalP.of (fn:=Go.Proofs.Tryz.f132) (by kernel_rfl) rfl rfl ?_
 refine AN ?_
 refine R.roundP rfl rfl rfl ((hr _ _ (by omega) (by omega) (fun o h=>at_upd)).mono fun r hr=>?_)
 cases r with
 |pan u G' nx'=>exact panTo (by exact hr)
 |ret v G' nx'=>
  obtain ⟨h1,own1,ho1,h2,hv⟩:=hr
  have hnu:¬ own (nx+0):=fun h=>by have:=hw.lt _ _ _ _ hI _ h;omega
  have hfr:∀ o,N<=o->o < nx->¬ own o->G' o=G o:=fun o h4 h5 h6=>(h2 o h4 (by omega) h6).trans at_upd
  rcases hv with ⟨rfl,h3⟩|⟨rfl,h3⟩
  ·have hb:G' (nx+0) = .box [.imm (.int .i64 op), .imm (sv name), .imm (.int .i64 n'), .imm (.int .i64 fold), .imm (.lst (Trm.ivs calcs)), .imm (.lst (Exp.ivs kids))] false:=(h2 _ (by omega) (by omega) hnu).trans at_upd
   have hc:=fun nx1 (h:nx'<=nx1)=>cal82 (nx:=nx1) hw hk' ih hkf (hw.frame _ _ _ _ _ _ h3 h fun _ _=>rfl) (hB.fr (nx':=nx1) (by omega) (fun o h4 h5=>ho1 o (by omega) h5) hfr)
   refine AN ?_
   refine R.callBP rfl rfl rfl rfl rfl ((hc _ (by omega)).mono fun r hr=>?_)
   have hr:=hr.trans (nx:=nx) (own:=own) (G:=G) (by omega) (fun o h4 h5=>ho1 o (by omega) h5) hfr
   rw [hlen] at hr
   cases r with
   |pan u G' nx'=>exact panTo (by exact hr)
   |ret v G' nx'=>
    obtain ⟨g1,own',g0,g2,⟨rfl,g3⟩|⟨rfl,g3⟩⟩:=hr
    ·refine AN ?_
     exact W.retFinP rfl ⟨by omega,own',g0,g2, .inl ⟨rfl,hw.frame _ _ _ _ _ _ g3 (by omega) fun _ _=>rfl⟩⟩
    ·refine AN ?_
     exact W.retFinP rfl ⟨by omega,own',g0,g2, .inr ⟨rfl,hw.frameJ _ _ _ _ g3 (by omega) fun _ _=>rfl⟩⟩
  ·refine AN ?_
   exact W.retFinP rfl ⟨by omega,own1,fun o h4 h5=>ho1 o (by omega) h5,hfr, .inr ⟨rfl,hw.frameJ _ _ _ _ h3 (by omega) fun _ _=>rfl⟩⟩
theorem cal80 {e:Exp} (hw:Walk q N (allE e) K J Pn) (hfit:e.Fits) {nx:Nat} {own:Own1} {G:Nat->Obj} (hn:N<=nx) (hI:K 0 own G nx) :
  CalP CC 131 [.yld q, .imm (.fptr e.iv.cells 0)] G nx fun
   | .ret _ G' nx'=>nx<=nx'/\((∃ own',K (allE e).length own' G' nx')\/J G' nx')
   | .pan u G' nx'=>Pn u G' nx':=by
 have hc:=fun k own yb wb nx G=>walk_ok hw hfit k own yb wb nx G
 have hlt:=hw.lt _ _ _ _ hI
 obtain ⟨op,name,n',fold,calcs,kids⟩:=e
 refine CalP.of (fn:=Go.Proofs.Tryz.f131) (by kernel_rfl) rfl rfl ?_
 refine AN ?_
 have hB:∀ {G1:Nat->Obj},(∀ o,nx<=o->o < nx+2->G1 o=upd (upd (upd G (nx+0) (.box [.yld q] false)) (nx+1+0) (.box ty101.zero.cells false)) (nx+1+0) (.box [.fn (.func 132) [.ptr (nx+0) 0, .ptr (nx+1+0) 0]] false) o)->Bx q N (nx+0) (nx+1+0) (nx+1+1+2+3) own G1:=fun h=>
  ⟨(h _ (by omega) (by omega)).trans at_upd,(h _ (by omega) (by omega)).trans at_upd,⟨by omega,by omega,fun h=>by have:=hlt _ h;omega⟩,⟨by omega,by omega,fun h=>by have:=hlt _ h;omega⟩⟩
 refine R.callBP rfl rfl rfl rfl rfl ((hc 0 own _ _ _ _ (fun j x hx=>by rwa [Nat.zero_add]) (hw.frame 0 own G nx _ _ hI (by omega) fun o h=>at_upd) (hB fun o h1 h2=>rfl)).mono fun r hr=>?_)
 cases r with
 |pan u G' nx'=>exact panTo (by exact hr)
 |ret v G' nx'=>
  obtain ⟨h1,own',h0,h2,h3⟩:=hr
  rw [Nat.zero_add] at h3
  refine AN ?_
  refine W.skipFinP rfl ⟨by omega,?_⟩
  rcases h3 with ⟨_,h3⟩|⟨_,h3⟩
  ·exact .inl ⟨own',h3⟩
  ·exact .inr h3
theorem W.nodesK {f:Operand} {ps:Array Nat} {assign body:Code} {fid nt nx:Nat} {lv:Env} {G:Nat->Obj} {df:List (AV×List AV)} {pk:Pk} {Φ:Out->Prop} (e:Exp) (hfit:e.Fits)
  (K:Kp) (J:(Nat->Obj)->Nat->Prop) (Pn:IV->(Nat->Obj)->Nat->Prop)
  (hf:lookO lv f=some (.imm (.fn (.func 131) [.fptr e.iv.cells 0]))) (hpk:pk.isRnd=false) (hfn:(CC.fn fid).isSome=true) (hps:ps.toList.length=1) (hps2:(ps.toList.all fun t=>decide (t < nt))=true)
  (hK:∀ i own G n G' n',K i own G n->n<=n'->(∀ o,o < n->o≠nx->G' o=G o)->K i own G' n') (hlt:∀ i own G n,K i own G n->∀ o,own o->nx+2<=o/\o < n)
  (hJ:∀ G n G' n',J G n->n<=n'->(∀ o,o < n->o≠nx->G' o=G o)->J G' n') (h0:K 0 (fun _=>False) G nx)
  (hround:∀ (q i:Nat) x own G1 nx1 (lp0 lp1:Obj) (Φr:Out->Prop),q=nx->(allE e)[i]? = some x->q+2<=nx1->K i own G1 nx1->G1 q=lp0 ->
   (∀ {f' l' G' nx'} (own':Own1),nx1<=nx'->(∀ o,o < nx1->own' o->own o)->(∀ o,q+2<=o->o < nx1->¬ own o->G' o=G1 o)->K (i+1) own' G' nx'->G' q=lp1->W CC f' nt .skip l' G' nx' [] .rnd Φr) ->
   (∀ {l' G' nx'} (own':Own1),nx1<=nx'->(∀ o,o < nx1->own' o->own o)->(∀ o,q+2<=o->o < nx1->¬ own o->G' o=G1 o)->J G' nx'->G' q=lp1->W CC fid nt .ret l' G' nx' [] .rnd Φr) ->
   (∀ {l':Env} {u G' nx'},Pn u G' nx'->∀ t,Agree t l'->Φr (.pan u ⟨t,G',nx',[], .rnd⟩)) ->
   W CC fid nt assign (bindE lv (ps.toList.zip [.imm x.iv])) G1 nx1 [] .rnd (astQ CC q lp0 lp1 fid nt body Φr))
  (hend:∀ own G1 nx1,K (allE e).length own G1 nx1->nx<=nx1->W CC fid nt .skip lv G1 nx1 df pk Φ)
  (hret:∀ G1 nx1,J G1 nx1->nx<=nx1->W CC fid nt .ret lv G1 nx1 df pk Φ)
  (hpan:∀ u G1 nx1,Pn u G1 nx1->∀ t,Agree t lv->Φ (.pan u ⟨t,G1,nx1,df,pk⟩)):W CC fid nt (.rangeFunc f ps assign body) lv G nx df pk Φ:=by
 refine W.rangeP hf rfl rfl hpk fun t ht=>?_
 have hw:Walk nx (nx+2) (allE e) (fun i own G1 n=>nx < n/\K i own G1 n/\G1 nx = .lp t nt ps.toList assign body fid 0 none) (fun G1 n=>nx < n/\J G1 n/\G1 nx = .lp t nt ps.toList assign body fid 2 (some .ret)) Pn:=by
  refine ⟨fun i own G n G' n' ⟨h0,h1,h2⟩ hn hG=>⟨by omega,hK _ _ _ _ _ _ h1 hn fun o h _=>hG o h,(hG nx h0).trans h2⟩,fun i own G n ⟨h0,h1,h2⟩ o ho=>(hlt _ _ _ _ h1 o ho).2,fun G n G' n' ⟨h0,h1,h2⟩ hn hG=>⟨by omega,hJ _ _ _ _ h1 hn fun o h _=>hG o h,(hG nx h0).trans h2⟩,?_⟩
  rintro i x own G1 nx1 hx hn ⟨h0,h1,h2⟩
  refine RndP.of hfn h2 ht (by rw [hps];rfl) hps2 ?_
  refine W.mono (Φ:=astQ CC nx (.lp t nt ps.toList assign body fid 0 none) (.lp t nt ps.toList assign body fid 1 none) fid nt body (frdP nx fun
   | .ret v G' nx'=>nx1<=nx'/\∃ own',(∀ o,o < nx1->own' o->own o)/\(∀ o,nx+2<=o->o < nx1->¬ own o->G' o=G1 o)/\((v = .imm (.bool true)/\(nx < nx'/\K (i+1) own' G' nx'/\G' nx = .lp t nt ps.toList assign body fid 0 none))\/(v = .imm (.bool false)/\(nx < nx'/\J G' nx'/\G' nx = .lp t nt ps.toList assign body fid 2 (some .ret))))
   | .pan u G' nx'=>Pn u G' nx')) (hround nx i x own G1 nx1 (.lp t nt ps.toList assign body fid 0 none) (.lp t nt ps.toList assign body fid 1 none) _ rfl hx hn h1 h2 ?_ ?_ ?_) fun o ho=>?_
  ·intro f' l' G' nx' own' h3 h4 h5 h6 h7
   exact W.skipFrdP h7 ⟨h3,own',h4,fun o h8 h9 h10=>(upd_ne _ _ _ _ (by omega)).trans (h5 o h8 h9 h10), .inl ⟨rfl,by omega,hK _ _ _ _ _ _ h6 (Nat.le_refl _) fun o _ h=>upd_ne _ _ _ _ h,upd_same _ _ _⟩⟩
  ·intro l' G' nx' own' h3 h4 h5 h6 h7
   exact W.retFrdP h7 ⟨h3,own',h4,fun o h8 h9 h10=>(upd_ne _ _ _ _ (by omega)).trans (h5 o h8 h9 h10), .inr ⟨rfl,by omega,hJ _ _ _ _ h6 (Nat.le_refl _) fun o _ h=>upd_ne _ _ _ _ h,upd_same _ _ _⟩⟩
  ·intro l' u G' nx' h3 t _
   exact ⟨rfl,h3⟩
  ·cases o with
   |norm s=>
    obtain ⟨h3,h4⟩:=ho
    exact ⟨_,_,_,_,_,_,_,h3,h4⟩
   |_=>exact ho
 have hc:=cal80 hw hfit (nx:=nx+2) (own:=fun _=>False) (G:=upd G nx (.lp t nt ps.toList assign body fid 0 none)) (by omega) ⟨by omega,hK _ _ _ _ _ _ h0 (by omega) fun o h h'=>upd_ne _ _ _ _ h',upd_same _ _ _⟩
 obtain ⟨n,r,h1,h2⟩:=hc
 refine ⟨n,r,h1,?_⟩
 cases r with
 |pan u G' nx'=>exact hpan u G' nx' h2 t ht
 |ret v G' nx'=>
  obtain ⟨h3,⟨own',h4,h5,h6⟩|⟨h4,h5,h6⟩⟩:=h2
  ·exact ⟨_,_,_,_,_,_,_,_,h6,by decide,(hend own' _ nx' (hK _ _ _ _ _ _ h5 (Nat.le_refl _) fun o _ h=>upd_ne _ _ _ _ h) (by omega)).skipI t ht⟩
  ·exact ⟨_,_,_,_,_,_,_,_,h6,by decide,(hret _ nx' (hJ _ _ _ _ h5 (Nat.le_refl _) fun o _ h=>upd_ne _ _ _ _ h) (by omega)).retI t ht⟩
theorem W.nodes {f:Operand} {ps:Array Nat} {assign body:Code} {fid nt nx:Nat} {lv:Env} {G:Nat->Obj} {df:List (AV×List AV)} {pk:Pk} {Φ:Out->Prop} (e:Exp) (hfit:e.Fits)
  (I:Nat->(Nat->Obj)->Prop) (J:(Nat->Obj)->Prop) (Pn:IV->(Nat->Obj)->Nat->Prop)
  (hf:lookO lv f=some (.imm (.fn (.func 131) [.fptr e.iv.cells 0]))) (hpk:pk.isRnd=false) (hfn:(CC.fn fid).isSome=true) (hps:ps.toList.length=1) (hps2:(ps.toList.all fun t=>decide (t < nt))=true)
  (hI:∀ i G G',I i G->(∀ o,o < nx->G' o=G o)->I i G') (hJ:∀ G G',J G->(∀ o,o < nx->G' o=G o)->J G') (h0:I 0 G)
  (hround:∀ (q i:Nat) x G1 nx1 (lp0 lp1:Obj) (Φr:Out->Prop),q=nx->(allE e)[i]? = some x->q+2<=nx1->I i G1->G1 q=lp0 ->
   (∀ {f' l' G' nx'},nx1<=nx'->(∀ o,q+2<=o->o < nx1->G' o=G1 o)->I (i+1) G'->G' q=lp1->W CC f' nt .skip l' G' nx' [] .rnd Φr) ->
   (∀ {l' G' nx'},nx1<=nx'->(∀ o,q+2<=o->o < nx1->G' o=G1 o)->J G'->G' q=lp1->W CC fid nt .ret l' G' nx' [] .rnd Φr) ->
   (∀ {l':Env} {u G' nx'},Pn u G' nx'->∀ t,Agree t l'->Φr (.pan u ⟨t,G',nx',[], .rnd⟩)) ->
   W CC fid nt assign (bindE lv (ps.toList.zip [.imm x.iv])) G1 nx1 [] .rnd (astQ CC q lp0 lp1 fid nt body Φr))
  (hend:∀ G1 nx1,I (allE e).length G1->nx<=nx1->W CC fid nt .skip lv G1 nx1 df pk Φ)
  (hret:∀ G1 nx1,J G1->nx<=nx1->W CC fid nt .ret lv G1 nx1 df pk Φ)
  (hpan:∀ u G1 nx1,Pn u G1 nx1->∀ t,Agree t lv->Φ (.pan u ⟨t,G1,nx1,df,pk⟩)):W CC fid nt (.rangeFunc f ps assign body) lv G nx df pk Φ:=by
 refine W.nodesK e hfit (fun i own G1 n=>nx<=n/\(∀ o,¬ own o)/\I i G1) (fun G1 n=>nx<=n/\J G1) Pn hf hpk hfn hps hps2
  (fun i own G n G' n' ⟨h0,h1,h2⟩ hn hG=>⟨by omega,h1,hI i G G' h2 fun o h=>hG o (by omega) (by omega)⟩) (fun i own G n ⟨h0,h1,h2⟩ o ho=>(h1 o ho).elim)
  (fun G n G' n' ⟨h0,h1⟩ hn hG=>⟨by omega,hJ G G' h1 fun o h=>hG o (by omega) (by omega)⟩) ⟨Nat.le_refl _,fun _ h=>h,h0⟩ ?_ (fun own G1 nx1 ⟨_,_,h⟩ hn=>hend G1 nx1 h hn) (fun G1 nx1 ⟨_,h⟩ hn=>hret G1 nx1 h hn) hpan
 rintro q i x own G1 nx1 lp0 lp1 Φr hq hx hn ⟨h0,h1,h2⟩ hlp next stop pan
 refine hround q i x G1 nx1 lp0 lp1 Φr hq hx hn h2 hlp (fun h3 h4 h5 h6=>next (fun _=>False) h3 (fun _ _ h=>h.elim) (fun o h7 h8 _=>h4 o h7 h8) ⟨by omega,fun _ h=>h,h5⟩ h6) (fun h3 h4 h5 h6=>stop (fun _=>False) h3 (fun _ _ h=>h.elim) (fun o h7 h8 _=>h4 o h7 h8) ⟨by omega,h5⟩ h6) pan
end Go.Abs

/- What a graph's nodes reach; how it is found, depth first. (No program in sight.) -/
namespace Go.Abs
theorem Reach.head {tos:List (List Nat)} {i k j:Nat} (hk:k∈tos.getD i []) (h:Reach tos k j):Reach tos i j:=by
 induction h with
 |one h=>exact .more (.one hk) h
 |more _ h ih=>exact .more ih h
theorem Reach.trans {tos:List (List Nat)} {i k j:Nat} (h0:Reach tos i k) (h:Reach tos k j):Reach tos i j:=by
 induction h with
 |one h=>exact .more h0 h
 |more _ h ih=>exact .more ih h
theorem nodup_le {α:Type} [BEq α] [LawfulBEq α]:∀ (a b:List α),a.Nodup->(∀ x∈a,x∈b)->a.length<=b.length
 |[],b,_,_=>by simp
 |x::r,b,hn,h=>by
  have hx:=h x (by simp)
  rw [List.nodup_cons] at hn
  have:=nodup_le r (b.erase x) hn.2 fun y hy=>by
   have hne:y≠x:=fun e=>hn.1 (e▸hy)
   exact (List.mem_erase_of_ne hne).2 (h y (by simp [hy]))
  rw [List.length_erase_of_mem hx] at this
  have:0 < b.length:=List.length_pos_of_mem hx
  simp only [List.length_cons];omega
theorem nodup_lt {a:List Nat} {n:Nat} (hn:a.Nodup) (h:∀ x∈a,x < n):a.length<=n:=by
 have:=nodup_le a (List.range n) hn fun x hx=>by simpa using h x hx
 simpa using this
structure Dfs (tos:List (List Nat)) (d:Nat) (done out out':List Nat):Prop where
 ext:∃ new,out'=out++new
 nodup:out'.Nodup
 bnd:∀ x∈out',x < tos.length
 snd:∀ x∈out',x∈out\/Reach tos d x
 hit:∀ x∈done,x∈out'
 clos:∀ x∈out',x∈out\/∀ y∈tos.getD x [],y∈out'
variable {tos:List (List Nat)} {d k:Nat} {done out out1 out2:List Nat}
theorem Dfs.init (hn:out.Nodup) (hb:∀ x∈out,x < tos.length):Dfs tos d [] out out:=
 ⟨⟨[],by simp⟩,hn,hb,fun _ h => .inl h,(fun _ h=>by cases h),fun _ h => .inl h⟩
theorem Dfs.sub (h:Dfs tos d done out out1):∀ x∈out,x∈out1:=by
 obtain ⟨new,rfl⟩:=h.ext
 intro x hx;simp [hx]
theorem Dfs.skip (h:Dfs tos d done out out1) (hk:k∈out1):Dfs tos d (done++[k]) out out1:=
 ⟨h.ext,h.nodup,h.bnd,h.snd,(fun x hx=>(List.mem_append.1 hx).elim (h.hit x) fun hx=>by rw [List.mem_singleton.1 hx];exact hk),h.clos⟩
theorem Dfs.start (h:Dfs tos d done out out1) (hk:k∉out1) (hb:k < tos.length):(out1++[k]).Nodup/\(∀ x∈out1++[k],x < tos.length):=by
 refine ⟨?_,fun x hx=>?_⟩
 ·rw [List.nodup_append]
  exact ⟨h.nodup,by simp,fun a ha b hb=>by rw [List.mem_singleton.1 hb];exact fun e=>hk (e▸ha)⟩
 ·rcases List.mem_append.1 hx with hx|hx
  ·exact h.bnd x hx
  ·rw [List.mem_singleton.1 hx];exact hb
theorem Dfs.step (h:Dfs tos d done out out1) (hk:k∈tos.getD d []) (h2:Dfs tos k (tos.getD k []) (out1++[k]) out2):Dfs tos d (done++[k]) out out2:=by
 have hs:∀ x∈out1,x∈out2:=fun x hx=>h2.sub x (by simp [hx])
 refine ⟨?_,h2.nodup,h2.bnd,fun x hx=>?_,fun x hx=>?_,fun x hx=>?_⟩
 ·obtain ⟨a,ha⟩:=h.ext
  obtain ⟨b,hb⟩:=h2.ext
  exact ⟨a++[k]++b,by rw [hb,ha];simp⟩
 ·rcases h2.snd x hx with hx|hx
  ·rcases List.mem_append.1 hx with hx|hx
   ·exact h.snd x hx
   ·rw [List.mem_singleton.1 hx];exact .inr (.one hk)
  ·exact .inr (.head hk hx)
 ·rcases List.mem_append.1 hx with hx|hx
  ·exact hs x (h.hit x hx)
  ·rw [List.mem_singleton.1 hx];exact h2.sub k (by simp)
 ·rcases h2.clos x hx with hx|hx
  ·rcases List.mem_append.1 hx with hx|hx
   ·rcases h.clos x hx with hx|hx
    ·exact .inl hx
    ·exact .inr fun y hy=>hs y (hx y hy)
   ·rw [List.mem_singleton.1 hx];exact .inr h2.hit
  ·exact .inr hx
theorem Dfs.fin (h:Dfs tos d (tos.getD d []) [] out1) (x:Nat):x∈out1↔Reach tos d x:=by
 refine ⟨fun hx=>(h.snd x hx).elim (fun h=>by cases h) id,fun hx=>?_⟩
 induction hx with
 |one hx=>exact h.hit _ hx
 |more _ hj ih=>exact (h.clos _ ih).elim (fun h=>by cases h) fun h=>h _ hj
end Go.Abs
