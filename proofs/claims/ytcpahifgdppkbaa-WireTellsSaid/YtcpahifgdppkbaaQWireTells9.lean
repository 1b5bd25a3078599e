/- Lemmas. -/
import Derived.Test.YtcpahifgdppkbaaQWireTells8
set_option linter.unusedVariables false
set_option linter.unusedSimpArgs false
set_option maxRecDepth 100000
namespace Go.Proofs.Ytcpahifgdppkbaa.QAI
section
open Go Go.RowKit
noncomputable def KXQ:Known:=[(104,reU),(151,xnmF),(152,xopF),(153,xsmF)]
theorem KXQ_ok:KnownOk KXQ:=consK (reU_ok xrF_ok) (by kernel_rfl) (consK xnmF_ok (by kernel_rfl) (consK xopF_ok (by kernel_rfl) (consK xsmF_ok (by kernel_rfl) nilK)))
noncomputable def xqG:Ctx2:=GK KXQ (fun k=>if k=6 then [(0,none),(2,none),(3,none),(4,none),(5,none),(6,none)] else []) 6
noncomputable def nyC (m n:Nat) (B:Nat->Int) (x:Int):Bool:=yes (n<=m/\n<2^50/\((0:Int)<=x/\x<(2:Int)^50)/\((fun j=>ub (B j))=fun j=>ub (B j))/\rng fun j=>B j)
def xli (B:Nat->Int) (n k:Nat):Int:=bif decide (k=3) then (nAt (lst (fun j=>B j) 0 n) 13).fst else bif decide (k=2) then (nAt (lst (fun j=>B j) 0 n) 9).fst else bif decide (k=1) then (nAt (lst (fun j=>B j) 0 n) 5).fst else bif decide (k=0) then (nAt (lst (fun j=>B j) 0 n) 1).fst else (0:Int)
def xLn (B:Nat->Int) (n:Nat):Nat:=((xops (lst (fun j=>B j) 0 n)).getD []).length
def xPn (B:Nat->Int) (n:Nat):Nat->Opp:=gP ((xops (lst (fun j=>B j) 0 n)).getD [])
def xQd (k:Nat) (B:Nat->Int) (n:Nat):Qd:=match k with
 | 1=>⟨w64 (B 0),0,0,0,0,0,opsP (fun j=>decO (encO (xPn B n j))) (xLn B n)⟩
 | 3=>⟨w64 (B 0),0,xli B n 0,xli B n 1,0,0,[]⟩
 | 4=>⟨w64 (B 0),xli B n 2,xli B n 0,xli B n 1,0,0,[]⟩
 | 5=>⟨w64 (B 0),0,xli B n 0,xli B n 1,xli B n 2,xli B n 3,[]⟩
 | _=>⟨w64 (B 0),0,0,0,0,0,[]⟩
noncomputable def smC (m n:Nat) (B:Nat->Int) (Q:Qd):Bool:=yes ((bQ Q).length<=(bQ Q).length/\n<=m/\((fun j=>ub (gL (bQ Q) j))=fun j=>ub (ud (ub (gL (bQ Q) j))))/\((fun j=>ub (B j))=fun j=>ub (B j))/\(rng fun j=>ud (ub (gL (bQ Q) j)))/\rng fun j=>B j)
noncomputable def smD (n:Nat) (B:Nat->Int) (Q:Qd):Bool:=yes (lst (fun j=>ud (ub (gL (bQ Q) j))) 0 (bQ Q).length=lst (fun j=>B j) 0 n)
theorem xq_0 {own:Bool}{m:Nat}{B:Nat->Int}{n:Nat}:(afun xqG 60 Try.f108 [.c (.sl 0 0 n)] [rowU own m B]).go [] =
 some ([((n:Nat):Int)==(0:Int)],AV.tup [AV.agg [i64 (0:Int),i64 (0:Int),i64 (0:Int),i64 (0:Int),i64 (0:Int),i64 (0:Int),AC.v (Value.slice none 0 0)],Bo false],[some { t:=5,own:=own,c:=Cont.row 1 m fun j=>[Value.int IntKind.u8 (B j)] }]):=by kernel_rfl
theorem xq_3a {own:Bool}{m:Nat}{B:Nat->Int}{n:Nat}:(afun xqG 60 Try.f108 [.c (.sl 0 0 n)] [rowU own m B]).go (dN 39 17129537534) =
 some ([!((n:Nat):Int)==(0:Int),true,decide ((0:Int)<((n:Nat):Int)),decide (0<m),true,nyC m n B 1,true,true,true,true,nyC m n B 5,true,true,true,true,nyC m n B 9,true,true,true,true,nyC m n B 13,true,true,true,true,!w64 (B 0)==(1:Int),w64 (B 0)==(3:Int),true,true,true,true,true,true,true,!w64 (B 0)==(4:Int),!w64 (B 0)==(5:Int),true,true,true,!yes (reqOk (xQd 3 B n)),true,true,true,true,true],AV.tup [AV.agg [i64 (0:Int),i64 (0:Int),i64 (0:Int),i64 (0:Int),i64 (0:Int),i64 (0:Int),AC.v (Value.slice none 0 0)],Bo false],[some { t:=5,own:=own,c:=Cont.row 1 m fun j=>[Value.int IntKind.u8 (B j)] }]):=by kernel_rfl
theorem xq_3b {own:Bool}{m:Nat}{B:Nat->Int}{n:Nat}:(afun xqG 60 Try.f108 [.c (.sl 0 0 n)] [rowU own m B]).go (dN 45 4415176048638) =
 some ([!((n:Nat):Int)==(0:Int),true,decide ((0:Int)<((n:Nat):Int)),decide (0<m),true,nyC m n B 1,true,true,true,true,nyC m n B 5,true,true,true,true,nyC m n B 9,true,true,true,true,nyC m n B 13,true,true,true,true,!w64 (B 0)==(1:Int),w64 (B 0)==(3:Int),true,true,true,true,true,true,true,!w64 (B 0)==(4:Int),!w64 (B 0)==(5:Int),true,true,true,!!yes (reqOk (xQd 3 B n)),true,true,smC m n B (xQd 3 B n),true,true,!smD n B (xQd 3 B n)],AV.tup [AV.agg [i64 (0:Int),i64 (0:Int),i64 (0:Int),i64 (0:Int),i64 (0:Int),i64 (0:Int),AC.v (Value.slice none 0 0)],Bo false],[some { t:=5,own:=own,c:=Cont.row 1 m fun j=>[Value.int IntKind.u8 (B j)] }]):=by kernel_rfl
theorem xq_3g {own:Bool}{m:Nat}{B:Nat->Int}{n:Nat}:(afun xqG 60 Try.f108 [.c (.sl 0 0 n)] [rowU own m B]).go (dN 46 4415176048638) =
 some ([!((n:Nat):Int)==(0:Int),true,decide ((0:Int)<((n:Nat):Int)),decide (0<m),true,nyC m n B 1,true,true,true,true,nyC m n B 5,true,true,true,true,nyC m n B 9,true,true,true,true,nyC m n B 13,true,true,true,true,!w64 (B 0)==(1:Int),w64 (B 0)==(3:Int),true,true,true,true,true,true,true,!w64 (B 0)==(4:Int),!w64 (B 0)==(5:Int),true,true,true,!!yes (reqOk (xQd 3 B n)),true,true,smC m n B (xQd 3 B n),true,true,!!smD n B (xQd 3 B n)],AV.tup [AV.agg [i64 (w64 (B 0)),i64 (0:Int),i64 (xli B n 0),i64 (xli B n 1),i64 (0:Int),i64 (0:Int),AC.v (Value.slice none 0 0)],Bo true],[some { t:=5,own:=own,c:=Cont.row 1 m fun j=>[Value.int IntKind.u8 (B j)] }]):=by kernel_rfl
theorem xq_4a {own:Bool}{m:Nat}{B:Nat->Int}{n:Nat}:(afun xqG 60 Try.f108 [.c (.sl 0 0 n)] [rowU own m B]).go (dN 43 549638373374) =
 some ([!((n:Nat):Int)==(0:Int),true,decide ((0:Int)<((n:Nat):Int)),decide (0<m),true,nyC m n B 1,true,true,true,true,nyC m n B 5,true,true,true,true,nyC m n B 9,true,true,true,true,nyC m n B 13,true,true,true,true,!w64 (B 0)==(1:Int),!w64 (B 0)==(3:Int),w64 (B 0)==(4:Int),true,true,true,true,true,true,true,w64 (B 0)==(4:Int),true,true,true,!w64 (B 0)==(5:Int),true,true,true,!yes (reqOk (xQd 4 B n)),true,true,true,true,true],AV.tup [AV.agg [i64 (0:Int),i64 (0:Int),i64 (0:Int),i64 (0:Int),i64 (0:Int),i64 (0:Int),AC.v (Value.slice none 0 0)],Bo false],[some { t:=5,own:=own,c:=Cont.row 1 m fun j=>[Value.int IntKind.u8 (B j)] }]):=by kernel_rfl
theorem xq_4b {own:Bool}{m:Nat}{B:Nat->Int}{n:Nat}:(afun xqG 60 Try.f108 [.c (.sl 0 0 n)] [rowU own m B]).go (dN 49 70918382551038) =
 some ([!((n:Nat):Int)==(0:Int),true,decide ((0:Int)<((n:Nat):Int)),decide (0<m),true,nyC m n B 1,true,true,true,true,nyC m n B 5,true,true,true,true,nyC m n B 9,true,true,true,true,nyC m n B 13,true,true,true,true,!w64 (B 0)==(1:Int),!w64 (B 0)==(3:Int),w64 (B 0)==(4:Int),true,true,true,true,true,true,true,w64 (B 0)==(4:Int),true,true,true,!w64 (B 0)==(5:Int),true,true,true,!!yes (reqOk (xQd 4 B n)),true,true,smC m n B (xQd 4 B n),true,true,!smD n B (xQd 4 B n)],AV.tup [AV.agg [i64 (0:Int),i64 (0:Int),i64 (0:Int),i64 (0:Int),i64 (0:Int),i64 (0:Int),AC.v (Value.slice none 0 0)],Bo false],[some { t:=5,own:=own,c:=Cont.row 1 m fun j=>[Value.int IntKind.u8 (B j)] }]):=by kernel_rfl
theorem xq_4g {own:Bool}{m:Nat}{B:Nat->Int}{n:Nat}:(afun xqG 60 Try.f108 [.c (.sl 0 0 n)] [rowU own m B]).go (dN 50 70918382551038) =
 some ([!((n:Nat):Int)==(0:Int),true,decide ((0:Int)<((n:Nat):Int)),decide (0<m),true,nyC m n B 1,true,true,true,true,nyC m n B 5,true,true,true,true,nyC m n B 9,true,true,true,true,nyC m n B 13,true,true,true,true,!w64 (B 0)==(1:Int),!w64 (B 0)==(3:Int),w64 (B 0)==(4:Int),true,true,true,true,true,true,true,w64 (B 0)==(4:Int),true,true,true,!w64 (B 0)==(5:Int),true,true,true,!!yes (reqOk (xQd 4 B n)),true,true,smC m n B (xQd 4 B n),true,true,!!smD n B (xQd 4 B n)],AV.tup [AV.agg [i64 (w64 (B 0)),i64 (xli B n 2),i64 (xli B n 0),i64 (xli B n 1),i64 (0:Int),i64 (0:Int),AC.v (Value.slice none 0 0)],Bo true],[some { t:=5,own:=own,c:=Cont.row 1 m fun j=>[Value.int IntKind.u8 (B j)] }]):=by kernel_rfl
theorem xq_5a {own:Bool}{m:Nat}{B:Nat->Int}{n:Nat}:(afun xqG 60 Try.f108 [.c (.sl 0 0 n)] [rowU own m B]).go (dN 46 8761481625598) =
 some ([!((n:Nat):Int)==(0:Int),true,decide ((0:Int)<((n:Nat):Int)),decide (0<m),true,nyC m n B 1,true,true,true,true,nyC m n B 5,true,true,true,true,nyC m n B 9,true,true,true,true,nyC m n B 13,true,true,true,true,!w64 (B 0)==(1:Int),!w64 (B 0)==(3:Int),!w64 (B 0)==(4:Int),w64 (B 0)==(5:Int),true,true,true,true,true,true,!w64 (B 0)==(4:Int),w64 (B 0)==(5:Int),true,true,true,true,true,true,true,true,true,!yes (reqOk (xQd 5 B n)),true,true,true,true,true],AV.tup [AV.agg [i64 (0:Int),i64 (0:Int),i64 (0:Int),i64 (0:Int),i64 (0:Int),i64 (0:Int),AC.v (Value.slice none 0 0)],Bo false],[some { t:=5,own:=own,c:=Cont.row 1 m fun j=>[Value.int IntKind.u8 (B j)] }]):=by kernel_rfl
theorem xq_5b {own:Bool}{m:Nat}{B:Nat->Int}{n:Nat}:(afun xqG 60 Try.f108 [.c (.sl 0 0 n)] [rowU own m B]).go (dN 52 571711435046910) =
 some ([!((n:Nat):Int)==(0:Int),true,decide ((0:Int)<((n:Nat):Int)),decide (0<m),true,nyC m n B 1,true,true,true,true,nyC m n B 5,true,true,true,true,nyC m n B 9,true,true,true,true,nyC m n B 13,true,true,true,true,!w64 (B 0)==(1:Int),!w64 (B 0)==(3:Int),!w64 (B 0)==(4:Int),w64 (B 0)==(5:Int),true,true,true,true,true,true,!w64 (B 0)==(4:Int),w64 (B 0)==(5:Int),true,true,true,true,true,true,true,true,true,!!yes (reqOk (xQd 5 B n)),true,true,smC m n B (xQd 5 B n),true,true,!smD n B (xQd 5 B n)],AV.tup [AV.agg [i64 (0:Int),i64 (0:Int),i64 (0:Int),i64 (0:Int),i64 (0:Int),i64 (0:Int),AC.v (Value.slice none 0 0)],Bo false],[some { t:=5,own:=own,c:=Cont.row 1 m fun j=>[Value.int IntKind.u8 (B j)] }]):=by kernel_rfl
theorem xq_5g {own:Bool}{m:Nat}{B:Nat->Int}{n:Nat}:(afun xqG 60 Try.f108 [.c (.sl 0 0 n)] [rowU own m B]).go (dN 53 571711435046910) =
 some ([!((n:Nat):Int)==(0:Int),true,decide ((0:Int)<((n:Nat):Int)),decide (0<m),true,nyC m n B 1,true,true,true,true,nyC m n B 5,true,true,true,true,nyC m n B 9,true,true,true,true,nyC m n B 13,true,true,true,true,!w64 (B 0)==(1:Int),!w64 (B 0)==(3:Int),!w64 (B 0)==(4:Int),w64 (B 0)==(5:Int),true,true,true,true,true,true,!w64 (B 0)==(4:Int),w64 (B 0)==(5:Int),true,true,true,true,true,true,true,true,true,!!yes (reqOk (xQd 5 B n)),true,true,smC m n B (xQd 5 B n),true,true,!!smD n B (xQd 5 B n)],AV.tup [AV.agg [i64 (w64 (B 0)),i64 (0:Int),i64 (xli B n 0),i64 (xli B n 1),i64 (xli B n 2),i64 (xli B n 3),AC.v (Value.slice none 0 0)],Bo true],[some { t:=5,own:=own,c:=Cont.row 1 m fun j=>[Value.int IntKind.u8 (B j)] }]):=by kernel_rfl
theorem xq_xa {own:Bool}{m:Nat}{B:Nat->Int}{n:Nat}:(afun xqG 60 Try.f108 [.c (.sl 0 0 n)] [rowU own m B]).go (dN 32 16777214) =
 some ([!((n:Nat):Int)==(0:Int),true,decide ((0:Int)<((n:Nat):Int)),decide (0<m),true,nyC m n B 1,true,true,true,true,nyC m n B 5,true,true,true,true,nyC m n B 9,true,true,true,true,nyC m n B 13,true,true,true,true,!w64 (B 0)==(1:Int),!w64 (B 0)==(3:Int),!w64 (B 0)==(4:Int),!w64 (B 0)==(5:Int),true,true,true,!yes (reqOk (xQd 0 B n)),true,true,true,true,true],AV.tup [AV.agg [i64 (0:Int),i64 (0:Int),i64 (0:Int),i64 (0:Int),i64 (0:Int),i64 (0:Int),AC.v (Value.slice none 0 0)],Bo false],[some { t:=5,own:=own,c:=Cont.row 1 m fun j=>[Value.int IntKind.u8 (B j)] }]):=by kernel_rfl
theorem xq_xb {own:Bool}{m:Nat}{B:Nat->Int}{n:Nat}:(afun xqG 60 Try.f108 [.c (.sl 0 0 n)] [rowU own m B]).go (dN 38 34376515582) =
 some ([!((n:Nat):Int)==(0:Int),true,decide ((0:Int)<((n:Nat):Int)),decide (0<m),true,nyC m n B 1,true,true,true,true,nyC m n B 5,true,true,true,true,nyC m n B 9,true,true,true,true,nyC m n B 13,true,true,true,true,!w64 (B 0)==(1:Int),!w64 (B 0)==(3:Int),!w64 (B 0)==(4:Int),!w64 (B 0)==(5:Int),true,true,true,!!yes (reqOk (xQd 0 B n)),true,true,smC m n B (xQd 0 B n),true,true,!smD n B (xQd 0 B n)],AV.tup [AV.agg [i64 (0:Int),i64 (0:Int),i64 (0:Int),i64 (0:Int),i64 (0:Int),i64 (0:Int),AC.v (Value.slice none 0 0)],Bo false],[some { t:=5,own:=own,c:=Cont.row 1 m fun j=>[Value.int IntKind.u8 (B j)] }]):=by kernel_rfl
theorem xq_xg {own:Bool}{m:Nat}{B:Nat->Int}{n:Nat}:(afun xqG 60 Try.f108 [.c (.sl 0 0 n)] [rowU own m B]).go (dN 39 34376515582) =
 some ([!((n:Nat):Int)==(0:Int),true,decide ((0:Int)<((n:Nat):Int)),decide (0<m),true,nyC m n B 1,true,true,true,true,nyC m n B 5,true,true,true,true,nyC m n B 9,true,true,true,true,nyC m n B 13,true,true,true,true,!w64 (B 0)==(1:Int),!w64 (B 0)==(3:Int),!w64 (B 0)==(4:Int),!w64 (B 0)==(5:Int),true,true,true,!!yes (reqOk (xQd 0 B n)),true,true,smC m n B (xQd 0 B n),true,true,!!smD n B (xQd 0 B n)],AV.tup [AV.agg [i64 (w64 (B 0)),i64 (0:Int),i64 (0:Int),i64 (0:Int),i64 (0:Int),i64 (0:Int),AC.v (Value.slice none 0 0)],Bo true],[some { t:=5,own:=own,c:=Cont.row 1 m fun j=>[Value.int IntKind.u8 (B j)] }]):=by kernel_rfl
theorem xq_1o {own:Bool}{m:Nat}{B:Nat->Int}{n:Nat}:(afun xqG 60 Try.f108 [.c (.sl 0 0 n)] [rowU own m B]).go (dN 25 16777214) =
 some ([!((n:Nat):Int)==(0:Int),true,decide ((0:Int)<((n:Nat):Int)),decide (0<m),true,nyC m n B 1,true,true,true,true,nyC m n B 5,true,true,true,true,nyC m n B 9,true,true,true,true,nyC m n B 13,true,true,true,true,w64 (B 0)==(1:Int),yes (n<=m/\n<2^20/\((fun j=>ub (B j))=fun j=>ub (B j))/\rng fun j=>B j),yes (((fun j=>encO (xPn B n j))=fun j=>encO (decO (encO (xPn B n j))))/\(w64 (B 0)=(1:Int)->(xLn B n)=(xLn B n)/\wqLen (fun j=>decO (encO (xPn B n j))) 2 (xLn B n)<=maxCells)),!(xops (lst (fun j=>B j) 0 n)).isSome,true,true,true,true,true,true,true,true],AV.tup [AV.agg [i64 (0:Int),i64 (0:Int),i64 (0:Int),i64 (0:Int),i64 (0:Int),i64 (0:Int),AC.v (Value.slice none 0 0)],Bo false],[some { t:=5,own:=own,c:=Cont.row 1 m fun j=>[Value.int IntKind.u8 (B j)] }]):=by kernel_rfl
theorem xq_1a {own:Bool}{m:Nat}{B:Nat->Int}{n:Nat}:(afun xqG 60 Try.f108 [.c (.sl 0 0 n)] [rowU own m B]).go (dN 31 251658238) =
 some ([!((n:Nat):Int)==(0:Int),true,decide ((0:Int)<((n:Nat):Int)),decide (0<m),true,nyC m n B 1,true,true,true,true,nyC m n B 5,true,true,true,true,nyC m n B 9,true,true,true,true,nyC m n B 13,true,true,true,true,w64 (B 0)==(1:Int),yes (n<=m/\n<2^20/\((fun j=>ub (B j))=fun j=>ub (B j))/\rng fun j=>B j),yes (((fun j=>encO (xPn B n j))=fun j=>encO (decO (encO (xPn B n j))))/\(w64 (B 0)=(1:Int)->(xLn B n)=(xLn B n)/\wqLen (fun j=>decO (encO (xPn B n j))) 2 (xLn B n)<=maxCells)),!!(xops (lst (fun j=>B j) 0 n)).isSome,true,true,!yes (reqOk (xQd 1 B n)),true,true,true,true,true],AV.tup [AV.agg [i64 (0:Int),i64 (0:Int),i64 (0:Int),i64 (0:Int),i64 (0:Int),i64 (0:Int),AC.v (Value.slice none 0 0)],Bo false],[some { t:=5,own:=own,c:=Cont.row 1 m fun j=>[Value.int IntKind.u8 (B j)] }]):=by kernel_rfl
theorem xq_1b {own:Bool}{m:Nat}{B:Nat->Int}{n:Nat}:(afun xqG 60 Try.f108 [.c (.sl 0 0 n)] [rowU own m B]).go (dN 37 17431527422) =
 some ([!((n:Nat):Int)==(0:Int),true,decide ((0:Int)<((n:Nat):Int)),decide (0<m),true,nyC m n B 1,true,true,true,true,nyC m n B 5,true,true,true,true,nyC m n B 9,true,true,true,true,nyC m n B 13,true,true,true,true,w64 (B 0)==(1:Int),yes (n<=m/\n<2^20/\((fun j=>ub (B j))=fun j=>ub (B j))/\rng fun j=>B j),yes (((fun j=>encO (xPn B n j))=fun j=>encO (decO (encO (xPn B n j))))/\(w64 (B 0)=(1:Int)->(xLn B n)=(xLn B n)/\wqLen (fun j=>decO (encO (xPn B n j))) 2 (xLn B n)<=maxCells)),!!(xops (lst (fun j=>B j) 0 n)).isSome,true,true,!!yes (reqOk (xQd 1 B n)),true,true,smC m n B (xQd 1 B n),true,true,!smD n B (xQd 1 B n)],AV.tup [AV.agg [i64 (0:Int),i64 (0:Int),i64 (0:Int),i64 (0:Int),i64 (0:Int),i64 (0:Int),AC.v (Value.slice none 0 0)],Bo false],[some { t:=5,own:=own,c:=Cont.row 1 m fun j=>[Value.int IntKind.u8 (B j)] }]):=by kernel_rfl
theorem xq_1g {own:Bool}{m:Nat}{B:Nat->Int}{n:Nat}:(afun xqG 60 Try.f108 [.c (.sl 0 0 n)] [rowU own m B]).go (dN 38 17431527422) =
 some ([!((n:Nat):Int)==(0:Int),true,decide ((0:Int)<((n:Nat):Int)),decide (0<m),true,nyC m n B 1,true,true,true,true,nyC m n B 5,true,true,true,true,nyC m n B 9,true,true,true,true,nyC m n B 13,true,true,true,true,w64 (B 0)==(1:Int),yes (n<=m/\n<2^20/\((fun j=>ub (B j))=fun j=>ub (B j))/\rng fun j=>B j),yes (((fun j=>encO (xPn B n j))=fun j=>encO (decO (encO (xPn B n j))))/\(w64 (B 0)=(1:Int)->(xLn B n)=(xLn B n)/\wqLen (fun j=>decO (encO (xPn B n j))) 2 (xLn B n)<=maxCells)),!!(xops (lst (fun j=>B j) 0 n)).isSome,true,true,!!yes (reqOk (xQd 1 B n)),true,true,smC m n B (xQd 1 B n),true,true,!!smD n B (xQd 1 B n)],AV.tup [AV.agg [i64 (w64 (B 0)),i64 (0:Int),i64 (0:Int),i64 (0:Int),i64 (0:Int),i64 (0:Int),AC.sl 1 0 (xLn B n)],Bo true],[some { t:=5,own:=own,c:=Cont.row 1 m fun j=>[Value.int IntKind.u8 (B j)] },some { t:=121,own:=true,c:=Cont.row 5 (xLn B n) fun j=>[Value.int IntKind.i64 (decO (encO (xPn B n j))).k,Value.int IntKind.i64 (decO (encO (xPn B n j))).i,Value.int IntKind.i64 (decO (encO (xPn B n j))).a,Value.int IntKind.i64 (decO (encO (xPn B n j))).b,Value.string (decO (encO (xPn B n j))).s] }]):=by kernel_rfl
end
section
open Go Go.RowKit
theorem opsP_gP2 (os:List Opp):opsP (gP os) os.length=os:=by
 refine List.ext_getElem (opsP_len _ _) fun i h1 h2=>?_
 simp [opsP,gP,List.getD_eq_getElem?_getD,h2]
theorem nyC_t {m n:Nat}{B:Nat->Int}{x:Int}(hB:rng B) (hn:n<=m) (hs:n<2^20) (hx:0<=x/\x<100):nyC m n B x=true:=yes_of ⟨hn,by omega,⟨hx.1,by omega⟩,rfl,hB⟩
theorem byteL_bQ (q:Qd):byteL (bQ q):=by
 unfold bQ
 cases yes (reqOk q)
 ·intro x hx;cases hx
 ·exact byteL_reqB q
theorem smC_t {m n:Nat}{B:Nat->Int}{Q:Qd}(hB:rng B) (hn:n<=m):smC m n B Q=true:=yes_of ⟨Nat.le_refl _,hn,rfl,rfl,rng_gL (byteL_bQ Q),hB⟩
theorem smD_eq {n:Nat}{B:Nat->Int}{Q:Qd}:smD n B Q=yes (bQ Q=lst B 0 n):=by
 unfold smD
 rw [show (lst (fun j=>ud (ub (gL (bQ Q) j))) 0 (bQ Q).length)=bQ Q from lst_gL _]
theorem xQd_wq {n:Nat}{B:Nat->Int}(hs:n<2^20):wqLen (fun j=>decO (encO (xPn B n j))) 2 (xLn B n)<=maxCells:=by
 show wqLen (gP ((xops (lst B 0 n)).getD [])) 2 ((xops (lst B 0 n)).getD []).length<=maxCells
 have h1:=(wq_list ((xops (lst B 0 n)).getD []) [0,0] _ (Nat.le_refl _)).1
 rw [List.take_length] at h1
 have h2:wqLen (gP ((xops (lst B 0 n)).getD [])) 2 ((xops (lst B 0 n)).getD []).length=([(0:Int),0]++((xops (lst B 0 n)).getD []).flatMap opB).length:=h1
 rw [h2]
 cases hx:xops (lst B 0 n) with
 | none=>simp [maxCells]
 | some os=>
  unfold xops at hx
  by_cases hl:(lst B 0 n).length<2
  ·rw [decide_eq_true hl] at hx;cases hx
  ·rw [decide_eq_false hl] at hx
   have:=(xos_len _ _ _ hx).2 (by omega)
   rw [lst_len] at this
   simp only [Option.getD_some,List.length_append,List.length_cons,List.length_nil]
   unfold maxCells;omega
noncomputable def xqR (own:Bool) (m:Nat) (B:Nat->Int) (n:Nat):AV × AHeap:=
 bif yes (xqOk (lst B 0 n)) then (bif B 0==1 then (.tup [qV (xq (lst B 0 n)) (.sl 1 0 (xq (lst B 0 n)).o.length),Bo true],[rowU own m B,rowP true (xq (lst B 0 n)).o.length (gP (xq (lst B 0 n)).o)]) else (.tup [qV (xq (lst B 0 n)) (.v (.slice none 0 0)),Bo true],[rowU own m B]))
 else (.tup [qV zQ (.v (.slice none 0 0)),Bo false],[rowU own m B])
theorem xqR_f {own:Bool}{m n:Nat}{B:Nat->Int}(h:¬ xqOk (lst B 0 n)):xqR own m B n=(.tup [qV zQ (.v (.slice none 0 0)),Bo false],[rowU own m B]):=by unfold xqR;rw [yes_no h];rfl
theorem xqR_g {own:Bool}{m n:Nat}{B:Nat->Int}(h:xqOk (lst B 0 n)) (hk:B 0 ≠ 1):xqR own m B n=(.tup [qV (xq (lst B 0 n)) (.v (.slice none 0 0)),Bo true],[rowU own m B]):=by unfold xqR;rw [yes_of h,nb hk];rfl
theorem xqOk_iff {L:List Int}:xqOk L ↔ (L.getD 0 0=1->(xops L).isSome=true)/\reqOk (xq L)/\bQ (xq L)=L:=by
 unfold xqOk
 constructor
 ·rintro ⟨h1,h2,h3⟩;exact ⟨h1,h2,by rw [bQ_t h2];exact h3⟩
 ·rintro ⟨h1,h2,h3⟩;exact ⟨h1,h2,by rw [bQ_t h2] at h3;exact h3⟩
theorem xq_all {own:Bool}{m n:Nat}{B:Nat->Int}(hB:rng B) (hn:n<=m) (hs:n<2^20):(afun xqG 60 Try.f108 [.c (.sl 0 0 n)] [rowU own m B]).eval=some (xqR own m B n):=by
 by_cases h0:n=0
 ·have hx:¬ xqOk (lst B 0 n):=by
   rintro ⟨_,_,h⟩
   subst h0
   unfold reqB at h
   cases h
  rw [xqR_f hx]
  exact (Tr.go_eval xq_0 ⟨beq_iff_eq.2 (by omega),trivial⟩).trans rfl
 have hb0:=hB 0
 have e0:w64 (B 0)=B 0:=w64_id (by omega) (by omega)
 have g0:(lst B 0 n).getD 0 0=B 0:=getD_lst B (by omega)
 have c0:(!((n:Nat):Int)==(0:Int))=true:=not_eq (beq_eq_false_iff_ne.2 (by omega))
 have c1:decide ((0:Int)<((n:Nat):Int))=true:=decide_eq_true (by omega)
 have c2:decide (0<m)=true:=decide_eq_true (by omega)
 have y1:=nyC_t hB hn hs (x:=1) (by decide)
 have y5:=nyC_t hB hn hs (x:=5) (by decide)
 have y9:=nyC_t hB hn hs (x:=9) (by decide)
 have y13:=nyC_t hB hn hs (x:=13) (by decide)
 have sc:=fun Q=>smC_t (Q:=Q) hB hn
 have hk:∀ c:Int,B 0 ≠ c->(!w64 (B 0)==c)=true:=fun c hc=>not_eq (by rw [e0];exact nb hc)
 have hk2:∀ c:Int,B 0=c->(w64 (B 0)==c)=true:=fun c hc=>by rw [e0];exact beq_iff_eq.2 hc
 by_cases h1:B 0=1
 ·have eQ:xQd 1 B n=xq (lst B 0 n):=by
   unfold xQd xq
   rw [g0,e0,h1]
   show (⟨1,0,0,0,0,0,opsP (gP ((xops (lst B 0 n)).getD [])) ((xops (lst B 0 n)).getD []).length⟩:Qd)=_
   rw [opsP_gP2];rfl
  have cW:yes (((fun j=>encO (xPn B n j))=fun j=>encO (decO (encO (xPn B n j))))/\(w64 (B 0)=(1:Int)->(xLn B n)=(xLn B n)/\wqLen (fun j=>decO (encO (xPn B n j))) 2 (xLn B n)<=maxCells))=true:=yes_of ⟨rfl,fun _=>⟨rfl,xQd_wq hs⟩⟩
  have cO:yes (n<=m/\n<2^20/\((fun j=>ub (B j))=fun j=>ub (B j))/\rng fun j=>B j)=true:=yes_of ⟨hn,hs,rfl,hB⟩
  cases hx:(xops (lst B 0 n)).isSome with
  | false=>
   rw [xqR_f fun h=>by rw [h.1 (g0.trans h1)] at hx;cases hx]
   refine (Tr.go_eval xq_1o ?_).trans rfl
   repeat' (first|exact AllT.nil|refine AllT.cons ?_ ?_)
   all_goals first|(with_reducible rfl)|(with_reducible assumption)|exact hk2 _ h1|exact not_eq hx
  | true=>
   by_cases hr:reqOk (xQd 1 B n)
   ·by_cases hd:bQ (xQd 1 B n)=lst B 0 n
    ·have hg:xqOk (lst B 0 n):=xqOk_iff.2 ⟨fun _=>hx,eQ ▸ hr,eQ ▸ hd⟩
     have e9:xqR own m B n=(.tup [qV (xq (lst B 0 n)) (.sl 1 0 (xq (lst B 0 n)).o.length),Bo true],[rowU own m B,rowP true (xq (lst B 0 n)).o.length (gP (xq (lst B 0 n)).o)]):=by
      unfold xqR;rw [yes_of hg,h1];rfl
     have e8:xq (lst B 0 n)=⟨w64 (B 0),0,0,0,0,0,(xops (lst B 0 n)).getD []⟩:=by
      unfold xq;rw [g0,e0,h1];rfl
     rw [e9,e8]
     refine (Tr.go_eval xq_1g ?_).trans rfl
     repeat' (first|exact AllT.nil|refine AllT.cons ?_ ?_)
     all_goals first|(with_reducible rfl)|(with_reducible assumption)|exact hk2 _ h1|exact notnot hx|exact sc _|exact notnot (yes_of hr)|exact notnot (by rw [smD_eq,yes_of hd])
    ·rw [xqR_f fun h=>hd (by rw [eQ];exact (xqOk_iff.1 h).2.2)]
     refine (Tr.go_eval xq_1b ?_).trans rfl
     repeat' (first|exact AllT.nil|refine AllT.cons ?_ ?_)
     all_goals first|(with_reducible rfl)|(with_reducible assumption)|exact hk2 _ h1|exact notnot hx|exact sc _|exact notnot (yes_of hr)|exact not_eq (by rw [smD_eq,yes_no hd])
   ·rw [xqR_f fun h=>hr (by rw [eQ];exact (xqOk_iff.1 h).2.1)]
    refine (Tr.go_eval xq_1a ?_).trans rfl
    repeat' (first|exact AllT.nil|refine AllT.cons ?_ ?_)
    all_goals first|(with_reducible rfl)|(with_reducible assumption)|exact hk2 _ h1|exact notnot hx|exact not_eq (yes_no hr)
 have n1:=hk 1 h1
 by_cases h3:B 0=3
 ·have eQ:xQd 3 B n=xq (lst B 0 n):=by
   unfold xQd xq
   rw [g0,e0,h3];rfl
  by_cases hr:reqOk (xQd 3 B n)
  ·by_cases hd:bQ (xQd 3 B n)=lst B 0 n
   ·rw [xqR_g (xqOk_iff.2 ⟨fun h=>absurd (g0.symm.trans h) h1,eQ ▸ hr,eQ ▸ hd⟩) h1,<-eQ]
    refine (Tr.go_eval xq_3g ?_).trans rfl
    repeat' (first|exact AllT.nil|refine AllT.cons ?_ ?_)
    all_goals first|(with_reducible rfl)|(with_reducible assumption)|exact hk2 _ h3|exact hk _ (by omega)|exact sc _|exact notnot (yes_of hr)|exact notnot (by rw [smD_eq,yes_of hd])
   ·rw [xqR_f fun h=>hd (by rw [eQ];exact (xqOk_iff.1 h).2.2)]
    refine (Tr.go_eval xq_3b ?_).trans rfl
    repeat' (first|exact AllT.nil|refine AllT.cons ?_ ?_)
    all_goals first|(with_reducible rfl)|(with_reducible assumption)|exact hk2 _ h3|exact hk _ (by omega)|exact sc _|exact notnot (yes_of hr)|exact not_eq (by rw [smD_eq,yes_no hd])
  ·rw [xqR_f fun h=>hr (by rw [eQ];exact (xqOk_iff.1 h).2.1)]
   refine (Tr.go_eval xq_3a ?_).trans rfl
   repeat' (first|exact AllT.nil|refine AllT.cons ?_ ?_)
   all_goals first|(with_reducible rfl)|(with_reducible assumption)|exact hk2 _ h3|exact hk _ (by omega)|exact not_eq (yes_no hr)
 by_cases h4:B 0=4
 ·have eQ:xQd 4 B n=xq (lst B 0 n):=by
   unfold xQd xq
   rw [g0,e0,h4];rfl
  by_cases hr:reqOk (xQd 4 B n)
  ·by_cases hd:bQ (xQd 4 B n)=lst B 0 n
   ·rw [xqR_g (xqOk_iff.2 ⟨fun h=>absurd (g0.symm.trans h) h1,eQ ▸ hr,eQ ▸ hd⟩) h1,<-eQ]
    refine (Tr.go_eval xq_4g ?_).trans rfl
    repeat' (first|exact AllT.nil|refine AllT.cons ?_ ?_)
    all_goals first|(with_reducible rfl)|(with_reducible assumption)|exact hk2 _ h4|exact hk _ (by omega)|exact sc _|exact notnot (yes_of hr)|exact notnot (by rw [smD_eq,yes_of hd])
   ·rw [xqR_f fun h=>hd (by rw [eQ];exact (xqOk_iff.1 h).2.2)]
    refine (Tr.go_eval xq_4b ?_).trans rfl
    repeat' (first|exact AllT.nil|refine AllT.cons ?_ ?_)
    all_goals first|(with_reducible rfl)|(with_reducible assumption)|exact hk2 _ h4|exact hk _ (by omega)|exact sc _|exact notnot (yes_of hr)|exact not_eq (by rw [smD_eq,yes_no hd])
  ·rw [xqR_f fun h=>hr (by rw [eQ];exact (xqOk_iff.1 h).2.1)]
   refine (Tr.go_eval xq_4a ?_).trans rfl
   repeat' (first|exact AllT.nil|refine AllT.cons ?_ ?_)
   all_goals first|(with_reducible rfl)|(with_reducible assumption)|exact hk2 _ h4|exact hk _ (by omega)|exact not_eq (yes_no hr)
 by_cases h5:B 0=5
 ·have eQ:xQd 5 B n=xq (lst B 0 n):=by
   unfold xQd xq
   rw [g0,e0,h5];rfl
  by_cases hr:reqOk (xQd 5 B n)
  ·by_cases hd:bQ (xQd 5 B n)=lst B 0 n
   ·rw [xqR_g (xqOk_iff.2 ⟨fun h=>absurd (g0.symm.trans h) h1,eQ ▸ hr,eQ ▸ hd⟩) h1,<-eQ]
    refine (Tr.go_eval xq_5g ?_).trans rfl
    repeat' (first|exact AllT.nil|refine AllT.cons ?_ ?_)
    all_goals first|(with_reducible rfl)|(with_reducible assumption)|exact hk2 _ h5|exact hk _ (by omega)|exact sc _|exact notnot (yes_of hr)|exact notnot (by rw [smD_eq,yes_of hd])
   ·rw [xqR_f fun h=>hd (by rw [eQ];exact (xqOk_iff.1 h).2.2)]
    refine (Tr.go_eval xq_5b ?_).trans rfl
    repeat' (first|exact AllT.nil|refine AllT.cons ?_ ?_)
    all_goals first|(with_reducible rfl)|(with_reducible assumption)|exact hk2 _ h5|exact hk _ (by omega)|exact sc _|exact notnot (yes_of hr)|exact not_eq (by rw [smD_eq,yes_no hd])
  ·rw [xqR_f fun h=>hr (by rw [eQ];exact (xqOk_iff.1 h).2.1)]
   refine (Tr.go_eval xq_5a ?_).trans rfl
   repeat' (first|exact AllT.nil|refine AllT.cons ?_ ?_)
   all_goals first|(with_reducible rfl)|(with_reducible assumption)|exact hk2 _ h5|exact hk _ (by omega)|exact not_eq (yes_no hr)
 ·have eQ:xQd 0 B n=xq (lst B 0 n):=by
   unfold xQd xq
   rw [g0,e0,nb h1,nb h3,nb h4,nb h5];rfl
  by_cases hr:reqOk (xQd 0 B n)
  ·by_cases hd:bQ (xQd 0 B n)=lst B 0 n
   ·rw [xqR_g (xqOk_iff.2 ⟨fun h=>absurd (g0.symm.trans h) h1,eQ ▸ hr,eQ ▸ hd⟩) h1,<-eQ]
    refine (Tr.go_eval xq_xg ?_).trans rfl
    repeat' (first|exact AllT.nil|refine AllT.cons ?_ ?_)
    all_goals first|(with_reducible rfl)|(with_reducible assumption)|exact hk _ (by assumption)|exact sc _|exact notnot (yes_of hr)|exact notnot (by rw [smD_eq,yes_of hd])
   ·rw [xqR_f fun h=>hd (by rw [eQ];exact (xqOk_iff.1 h).2.2)]
    refine (Tr.go_eval xq_xb ?_).trans rfl
    repeat' (first|exact AllT.nil|refine AllT.cons ?_ ?_)
    all_goals first|(with_reducible rfl)|(with_reducible assumption)|exact hk _ (by assumption)|exact sc _|exact notnot (yes_of hr)|exact not_eq (by rw [smD_eq,yes_no hd])
  ·rw [xqR_f fun h=>hr (by rw [eQ];exact (xqOk_iff.1 h).2.1)]
   refine (Tr.go_eval xq_xa ?_).trans rfl
   repeat' (first|exact AllT.nil|refine AllT.cons ?_ ?_)
   all_goals first|(with_reducible rfl)|(with_reducible assumption)|exact hk _ (by assumption)|exact not_eq (yes_no hr)
noncomputable def xqF0:Spec:=fun args h=>match args,h with
 | [.c (.sl 0 0 n)],[some ⟨5,own,.row 1 m f⟩]=>
  .need (yes (n<=m/\n<2^20/\(f=fun j=>ub (ud (f j)))/\rng fun j=>ud (f j))) (.ret (xqR own m (fun j=>ud (f j)) n))
 | _,_=>.fail
theorem xqF0_ok:SpecOk Try.prog 108 xqF0:=by
 refine known' KXQ_ok Try.func108 fun args h r he=>?_
 unfold xqF0 at he
 split at he
 ·rename_i n own m f
  obtain ⟨⟨h1,h2,h3,h4⟩,he'⟩:=Tr.eval_ask.1 he
  have e1:some ⟨5,own,.row 1 m f⟩=rowU own m fun j=>ud (f j):=by rw [rowU,<-h3]
  rw [e1]
  exact ⟨_,_,_,(xq_all h4 h1 h2).trans he'⟩
 ·cases he
theorem xqU_ok:SpecOk Try.prog 108 (qyW eBo):=by
 refine SpecOk.nil xqF0_ok fun args H r' H' he=>?_
 unfold qyW at he
 split at he
 ·rename_i n own m f
  obtain ⟨hn,he'⟩:=Tr.eval_ask.1 he
  obtain ⟨h1,h2,h3,h4⟩:=hn
  simp only [Tr.eval,Option.some.injEq] at he'
  have hq:∀ z,some (xqR own m (fun j=>ud (f j)) n)=z->(xqF0 [.c (.sl 0 0 n)] [some ⟨5,own,.row 1 m f⟩]).eval=z:=fun z hz=>by
   show (Tr.need _ _).eval=z
   show cond _ _ _=z
   rw [yes_of (show n<=m/\n<2^20/\(f=fun j=>ub (ud (f j)))/\rng fun j=>ud (f j) from ⟨h1,h2,h3,h4⟩)]
   exact hz
  obtain ⟨g1,g2⟩:=xq_law (lst_byteL h4 0 n)
  have e1:r'=(qyO eBo own m (fun j=>ud (f j)) (rqR (fun j=>ud (f j)) 0 n)).1:=(congrArg Prod.fst he').symm
  have e2:H'=(qyO eBo own m (fun j=>ud (f j)) (rqR (fun j=>ud (f j)) 0 n)).2:=(congrArg Prod.snd he').symm
  have hR:rqR (fun j=>ud (f j)) 0 n=rQuery (lst (fun j=>ud (f j)) 0 n,false):=rfl
  rw [hR] at e1 e2
  by_cases hx:xqOk (lst (fun j=>ud (f j)) 0 n)
  ·have hr:=g1.1 hx
   have ho:oQ (rQuery (lst (fun j=>ud (f j)) 0 n,false))=xq (lst (fun j=>ud (f j)) 0 n):=by unfold oQ;rw [yes_of hr,g2 hx];rfl
   by_cases hk:ud (f 0)=1
   ·refine .inl (hq _ ?_)
    rw [e1,e2]
    unfold qyO xqR
    rw [yes_of hr,ho,yes_of hx,(show (fun j=>ud (f j)) 0=1 from hk)];rfl
   ·have hE:(xq (lst (fun j=>ud (f j)) 0 n)).o=[]:=by
     have hr2:=hx.2.1
     have hk2:(xq (lst (fun j=>ud (f j)) 0 n)).k ≠ 1:=by
      have:=(xq_reqB hr2).2.2
      rw [hx.2.2] at this
      rw [<-this]
      by_cases h0:n=0
      ·subst h0;show (0:Int) ≠ 1;decide
      ·rw [getD_lst (fun j=>ud (f j)) (by omega)];exact hk
     have:=hr2.2
     rw [<-this]
     unfold bareQ
     rw [nb hk2]
     cases (xq (lst (fun j=>ud (f j)) 0 n)).k==2||(xq (lst (fun j=>ud (f j)) 0 n)).k==6 <;> cases (xq (lst (fun j=>ud (f j)) 0 n)).k==3 <;> cases (xq (lst (fun j=>ud (f j)) 0 n)).k==4 <;> cases (xq (lst (fun j=>ud (f j)) 0 n)).k==5 <;> rfl
    obtain ⟨k1,k2⟩:=qyO_nil (e:=eBo) (own:=own) (m:=m) (B:=fun j=>ud (f j)) (r:=rQuery (lst (fun j=>ud (f j)) 0 n,false)) (by rw [ho];exact hE)
    refine .inr ⟨_,_,_,e2.trans k1,rfl,e1 ▸ k2,hq _ ?_⟩
    rw [xqR_g hx hk,ho,yes_of hr];rfl
  ·have hr:¬ (rQuery (lst (fun j=>ud (f j)) 0 n,false)).2=([],false):=fun h=>hx (g1.2 h)
   have ho:oQ (rQuery (lst (fun j=>ud (f j)) 0 n,false))=zQ:=by unfold oQ;rw [yes_no hr];rfl
   obtain ⟨k1,k2⟩:=qyO_nil (e:=eBo) (own:=own) (m:=m) (B:=fun j=>ud (f j)) (r:=rQuery (lst (fun j=>ud (f j)) 0 n,false)) (by rw [ho];rfl)
   refine .inr ⟨_,_,_,e2.trans k1,rfl,e1 ▸ k2,hq _ ?_⟩
   rw [xqR_f hx,ho,yes_no hr];rfl
 ·cases he
end
section
open Go Go.RowKit
noncomputable def KXP:Known:=[(106,anU),(151,xnmF),(153,xsmF)]
theorem KXP_ok:KnownOk KXP:=consK (anU_ok xaF_ok) (by kernel_rfl) (consK xnmF_ok (by kernel_rfl) (consK xsmF_ok (by kernel_rfl) nilK))
noncomputable def xpG:Ctx2:=GK KXP (fun k=>if k=6 then [(0,none),(2,none),(3,none),(4,none),(5,none),(6,none)] else []) 6
def xRd (k:Nat) (B:Nat->Int) (n:Nat):Rd:=match k with
 | 2=>⟨w64 (B 0),w64 (B 1),(nAt (lst (fun j=>B j) 0 n) 2).fst,0,0,0,0,0,0,0⟩
 | 3=>⟨w64 (B 0),0,0,0,xli B n 0,xli B n 1,0,0,0,0⟩
 | 4=>⟨w64 (B 0),0,0,0,0,0,xli B n 0,xli B n 1,xli B n 2,xli B n 3⟩
 | 5=>⟨w64 (B 0),0,0,xli B n 0,0,0,0,0,0,0⟩
 | _=>⟨w64 (B 0),0,0,0,0,0,0,0,0,0⟩
noncomputable def smE (m n:Nat) (B:Nat->Int) (Q:Rd):Bool:=yes ((bR Q).length<=(bR Q).length/\n<=m/\((fun j=>ub (gL (bR Q) j))=fun j=>ub (ud (ub (gL (bR Q) j))))/\((fun j=>ub (B j))=fun j=>ub (B j))/\(rng fun j=>ud (ub (gL (bR Q) j)))/\rng fun j=>B j)
noncomputable def smF (n:Nat) (B:Nat->Int) (Q:Rd):Bool:=yes (lst (fun j=>ud (ub (gL (bR Q) j))) 0 (bR Q).length=lst (fun j=>B j) 0 n)
theorem xp_0 {own:Bool}{m:Nat}{B:Nat->Int}{n:Nat}:(afun xpG 60 Try.f110 [.c (.sl 0 0 n)] [rowU own m B]).go [] =
 some ([((n:Nat):Int)==(0:Int)],AV.tup [AV.agg [i64 (0:Int),i64 (0:Int),i64 (0:Int),i64 (0:Int),i64 (0:Int),i64 (0:Int),i64 (0:Int),i64 (0:Int),i64 (0:Int),i64 (0:Int)],Bo false],[some { t:=5,own:=own,c:=Cont.row 1 m fun j=>[Value.int IntKind.u8 (B j)] }]):=by kernel_rfl
theorem xp_2l {own:Bool}{m:Nat}{B:Nat->Int}{n:Nat}:(afun xpG 60 Try.f110 [.c (.sl 0 0 n)] [rowU own m B]).go (dN 25 16777214) =
 some ([!((n:Nat):Int)==(0:Int),true,decide ((0:Int)<((n:Nat):Int)),decide (0<m),true,nyC m n B 1,true,true,true,true,nyC m n B 5,true,true,true,true,nyC m n B 9,true,true,true,true,nyC m n B 13,true,true,true,true,w64 (B 0)==(2:Int),((n:Nat):Int) != (6:Int)],AV.tup [AV.agg [i64 (0:Int),i64 (0:Int),i64 (0:Int),i64 (0:Int),i64 (0:Int),i64 (0:Int),i64 (0:Int),i64 (0:Int),i64 (0:Int),i64 (0:Int)],Bo false],[some { t:=5,own:=own,c:=Cont.row 1 m fun j=>[Value.int IntKind.u8 (B j)] }]):=by kernel_rfl
theorem xp_2a {own:Bool}{m:Nat}{B:Nat->Int}{n:Nat}:(afun xpG 60 Try.f110 [.c (.sl 0 0 n)] [rowU own m B]).go (dN 27 50331646) =
 some ([!((n:Nat):Int)==(0:Int),true,decide ((0:Int)<((n:Nat):Int)),decide (0<m),true,nyC m n B 1,true,true,true,true,nyC m n B 5,true,true,true,true,nyC m n B 9,true,true,true,true,nyC m n B 13,true,true,true,true,w64 (B 0)==(2:Int),!((n:Nat):Int) != (6:Int),nyC m n B 2,true,decide ((1:Int)<((n:Nat):Int)),decide (1<m),!yes (anOk (xRd 2 B n)),true,true,true,true,true],AV.tup [AV.agg [i64 (0:Int),i64 (0:Int),i64 (0:Int),i64 (0:Int),i64 (0:Int),i64 (0:Int),i64 (0:Int),i64 (0:Int),i64 (0:Int),i64 (0:Int)],Bo false],[some { t:=5,own:=own,c:=Cont.row 1 m fun j=>[Value.int IntKind.u8 (B j)] }]):=by kernel_rfl
theorem xp_2b {own:Bool}{m:Nat}{B:Nat->Int}{n:Nat}:(afun xpG 60 Try.f110 [.c (.sl 0 0 n)] [rowU own m B]).go (dN 37 19243466750) =
 some ([!((n:Nat):Int)==(0:Int),true,decide ((0:Int)<((n:Nat):Int)),decide (0<m),true,nyC m n B 1,true,true,true,true,nyC m n B 5,true,true,true,true,nyC m n B 9,true,true,true,true,nyC m n B 13,true,true,true,true,w64 (B 0)==(2:Int),!((n:Nat):Int) != (6:Int),nyC m n B 2,true,decide ((1:Int)<((n:Nat):Int)),decide (1<m),!!yes (anOk (xRd 2 B n)),true,true,smE m n B (xRd 2 B n),true,true,!smF n B (xRd 2 B n)],AV.tup [AV.agg [i64 (0:Int),i64 (0:Int),i64 (0:Int),i64 (0:Int),i64 (0:Int),i64 (0:Int),i64 (0:Int),i64 (0:Int),i64 (0:Int),i64 (0:Int)],Bo false],[some { t:=5,own:=own,c:=Cont.row 1 m fun j=>[Value.int IntKind.u8 (B j)] }]):=by kernel_rfl
theorem xp_2g {own:Bool}{m:Nat}{B:Nat->Int}{n:Nat}:(afun xpG 60 Try.f110 [.c (.sl 0 0 n)] [rowU own m B]).go (dN 38 19243466750) =
 some ([!((n:Nat):Int)==(0:Int),true,decide ((0:Int)<((n:Nat):Int)),decide (0<m),true,nyC m n B 1,true,true,true,true,nyC m n B 5,true,true,true,true,nyC m n B 9,true,true,true,true,nyC m n B 13,true,true,true,true,w64 (B 0)==(2:Int),!((n:Nat):Int) != (6:Int),nyC m n B 2,true,decide ((1:Int)<((n:Nat):Int)),decide (1<m),!!yes (anOk (xRd 2 B n)),true,true,smE m n B (xRd 2 B n),true,true,!!smF n B (xRd 2 B n)],AV.tup [AV.agg [i64 (w64 (B 0)),i64 (w64 (B 1)),i64 (nAt (lst (fun j=>B j) 0 n) 2).fst,i64 (0:Int),i64 (0:Int),i64 (0:Int),i64 (0:Int),i64 (0:Int),i64 (0:Int),i64 (0:Int)],Bo true],[some { t:=5,own:=own,c:=Cont.row 1 m fun j=>[Value.int IntKind.u8 (B j)] }]):=by kernel_rfl
theorem xp_3a {own:Bool}{m:Nat}{B:Nat->Int}{n:Nat}:(afun xpG 60 Try.f110 [.c (.sl 0 0 n)] [rowU own m B]).go (dN 26 16777214) =
 some ([!((n:Nat):Int)==(0:Int),true,decide ((0:Int)<((n:Nat):Int)),decide (0<m),true,nyC m n B 1,true,true,true,true,nyC m n B 5,true,true,true,true,nyC m n B 9,true,true,true,true,nyC m n B 13,true,true,true,true,!w64 (B 0)==(2:Int),w64 (B 0)==(3:Int),true,true,true,true,true,true,!yes (anOk (xRd 3 B n)),true,true,true,true,true],AV.tup [AV.agg [i64 (0:Int),i64 (0:Int),i64 (0:Int),i64 (0:Int),i64 (0:Int),i64 (0:Int),i64 (0:Int),i64 (0:Int),i64 (0:Int),i64 (0:Int)],Bo false],[some { t:=5,own:=own,c:=Cont.row 1 m fun j=>[Value.int IntKind.u8 (B j)] }]):=by kernel_rfl
theorem xp_3b {own:Bool}{m:Nat}{B:Nat->Int}{n:Nat}:(afun xpG 60 Try.f110 [.c (.sl 0 0 n)] [rowU own m B]).go (dN 39 77259079678) =
 some ([!((n:Nat):Int)==(0:Int),true,decide ((0:Int)<((n:Nat):Int)),decide (0<m),true,nyC m n B 1,true,true,true,true,nyC m n B 5,true,true,true,true,nyC m n B 9,true,true,true,true,nyC m n B 13,true,true,true,true,!w64 (B 0)==(2:Int),w64 (B 0)==(3:Int),true,true,true,true,true,true,!!yes (anOk (xRd 3 B n)),true,true,smE m n B (xRd 3 B n),true,true,!smF n B (xRd 3 B n)],AV.tup [AV.agg [i64 (0:Int),i64 (0:Int),i64 (0:Int),i64 (0:Int),i64 (0:Int),i64 (0:Int),i64 (0:Int),i64 (0:Int),i64 (0:Int),i64 (0:Int)],Bo false],[some { t:=5,own:=own,c:=Cont.row 1 m fun j=>[Value.int IntKind.u8 (B j)] }]):=by kernel_rfl
theorem xp_3g {own:Bool}{m:Nat}{B:Nat->Int}{n:Nat}:(afun xpG 60 Try.f110 [.c (.sl 0 0 n)] [rowU own m B]).go (dN 40 77259079678) =
 some ([!((n:Nat):Int)==(0:Int),true,decide ((0:Int)<((n:Nat):Int)),decide (0<m),true,nyC m n B 1,true,true,true,true,nyC m n B 5,true,true,true,true,nyC m n B 9,true,true,true,true,nyC m n B 13,true,true,true,true,!w64 (B 0)==(2:Int),w64 (B 0)==(3:Int),true,true,true,true,true,true,!!yes (anOk (xRd 3 B n)),true,true,smE m n B (xRd 3 B n),true,true,!!smF n B (xRd 3 B n)],AV.tup [AV.agg [i64 (w64 (B 0)),i64 (0:Int),i64 (0:Int),i64 (0:Int),i64 (xli B n 0),i64 (xli B n 1),i64 (0:Int),i64 (0:Int),i64 (0:Int),i64 (0:Int)],Bo true],[some { t:=5,own:=own,c:=Cont.row 1 m fun j=>[Value.int IntKind.u8 (B j)] }]):=by kernel_rfl
theorem xp_4a {own:Bool}{m:Nat}{B:Nat->Int}{n:Nat}:(afun xpG 60 Try.f110 [.c (.sl 0 0 n)] [rowU own m B]).go (dN 27 16777214) =
 some ([!((n:Nat):Int)==(0:Int),true,decide ((0:Int)<((n:Nat):Int)),decide (0<m),true,nyC m n B 1,true,true,true,true,nyC m n B 5,true,true,true,true,nyC m n B 9,true,true,true,true,nyC m n B 13,true,true,true,true,!w64 (B 0)==(2:Int),!w64 (B 0)==(3:Int),w64 (B 0)==(4:Int),true,true,true,true,true,true,true,true,true,true,true,true,!yes (anOk (xRd 4 B n)),true,true,true,true,true],AV.tup [AV.agg [i64 (0:Int),i64 (0:Int),i64 (0:Int),i64 (0:Int),i64 (0:Int),i64 (0:Int),i64 (0:Int),i64 (0:Int),i64 (0:Int),i64 (0:Int)],Bo false],[some { t:=5,own:=own,c:=Cont.row 1 m fun j=>[Value.int IntKind.u8 (B j)] }]):=by kernel_rfl
theorem xp_4b {own:Bool}{m:Nat}{B:Nat->Int}{n:Nat}:(afun xpG 60 Try.f110 [.c (.sl 0 0 n)] [rowU own m B]).go (dN 46 9895487209470) =
 some ([!((n:Nat):Int)==(0:Int),true,decide ((0:Int)<((n:Nat):Int)),decide (0<m),true,nyC m n B 1,true,true,true,true,nyC m n B 5,true,true,true,true,nyC m n B 9,true,true,true,true,nyC m n B 13,true,true,true,true,!w64 (B 0)==(2:Int),!w64 (B 0)==(3:Int),w64 (B 0)==(4:Int),true,true,true,true,true,true,true,true,true,true,true,true,!!yes (anOk (xRd 4 B n)),true,true,smE m n B (xRd 4 B n),true,true,!smF n B (xRd 4 B n)],AV.tup [AV.agg [i64 (0:Int),i64 (0:Int),i64 (0:Int),i64 (0:Int),i64 (0:Int),i64 (0:Int),i64 (0:Int),i64 (0:Int),i64 (0:Int),i64 (0:Int)],Bo false],[some { t:=5,own:=own,c:=Cont.row 1 m fun j=>[Value.int IntKind.u8 (B j)] }]):=by kernel_rfl
theorem xp_4g {own:Bool}{m:Nat}{B:Nat->Int}{n:Nat}:(afun xpG 60 Try.f110 [.c (.sl 0 0 n)] [rowU own m B]).go (dN 47 9895487209470) =
 some ([!((n:Nat):Int)==(0:Int),true,decide ((0:Int)<((n:Nat):Int)),decide (0<m),true,nyC m n B 1,true,true,true,true,nyC m n B 5,true,true,true,true,nyC m n B 9,true,true,true,true,nyC m n B 13,true,true,true,true,!w64 (B 0)==(2:Int),!w64 (B 0)==(3:Int),w64 (B 0)==(4:Int),true,true,true,true,true,true,true,true,true,true,true,true,!!yes (anOk (xRd 4 B n)),true,true,smE m n B (xRd 4 B n),true,true,!!smF n B (xRd 4 B n)],AV.tup [AV.agg [i64 (w64 (B 0)),i64 (0:Int),i64 (0:Int),i64 (0:Int),i64 (0:Int),i64 (0:Int),i64 (xli B n 0),i64 (xli B n 1),i64 (xli B n 2),i64 (xli B n 3)],Bo true],[some { t:=5,own:=own,c:=Cont.row 1 m fun j=>[Value.int IntKind.u8 (B j)] }]):=by kernel_rfl
theorem xp_5a {own:Bool}{m:Nat}{B:Nat->Int}{n:Nat}:(afun xpG 60 Try.f110 [.c (.sl 0 0 n)] [rowU own m B]).go (dN 28 16777214) =
 some ([!((n:Nat):Int)==(0:Int),true,decide ((0:Int)<((n:Nat):Int)),decide (0<m),true,nyC m n B 1,true,true,true,true,nyC m n B 5,true,true,true,true,nyC m n B 9,true,true,true,true,nyC m n B 13,true,true,true,true,!w64 (B 0)==(2:Int),!w64 (B 0)==(3:Int),!w64 (B 0)==(4:Int),w64 (B 0)==(5:Int),true,true,true,true,!yes (anOk (xRd 5 B n)),true,true,true,true,true],AV.tup [AV.agg [i64 (0:Int),i64 (0:Int),i64 (0:Int),i64 (0:Int),i64 (0:Int),i64 (0:Int),i64 (0:Int),i64 (0:Int),i64 (0:Int),i64 (0:Int)],Bo false],[some { t:=5,own:=own,c:=Cont.row 1 m fun j=>[Value.int IntKind.u8 (B j)] }]):=by kernel_rfl
theorem xp_5b {own:Bool}{m:Nat}{B:Nat->Int}{n:Nat}:(afun xpG 60 Try.f110 [.c (.sl 0 0 n)] [rowU own m B]).go (dN 39 77057753086) =
 some ([!((n:Nat):Int)==(0:Int),true,decide ((0:Int)<((n:Nat):Int)),decide (0<m),true,nyC m n B 1,true,true,true,true,nyC m n B 5,true,true,true,true,nyC m n B 9,true,true,true,true,nyC m n B 13,true,true,true,true,!w64 (B 0)==(2:Int),!w64 (B 0)==(3:Int),!w64 (B 0)==(4:Int),w64 (B 0)==(5:Int),true,true,true,true,!!yes (anOk (xRd 5 B n)),true,true,smE m n B (xRd 5 B n),true,true,!smF n B (xRd 5 B n)],AV.tup [AV.agg [i64 (0:Int),i64 (0:Int),i64 (0:Int),i64 (0:Int),i64 (0:Int),i64 (0:Int),i64 (0:Int),i64 (0:Int),i64 (0:Int),i64 (0:Int)],Bo false],[some { t:=5,own:=own,c:=Cont.row 1 m fun j=>[Value.int IntKind.u8 (B j)] }]):=by kernel_rfl
theorem xp_5g {own:Bool}{m:Nat}{B:Nat->Int}{n:Nat}:(afun xpG 60 Try.f110 [.c (.sl 0 0 n)] [rowU own m B]).go (dN 40 77057753086) =
 some ([!((n:Nat):Int)==(0:Int),true,decide ((0:Int)<((n:Nat):Int)),decide (0<m),true,nyC m n B 1,true,true,true,true,nyC m n B 5,true,true,true,true,nyC m n B 9,true,true,true,true,nyC m n B 13,true,true,true,true,!w64 (B 0)==(2:Int),!w64 (B 0)==(3:Int),!w64 (B 0)==(4:Int),w64 (B 0)==(5:Int),true,true,true,true,!!yes (anOk (xRd 5 B n)),true,true,smE m n B (xRd 5 B n),true,true,!!smF n B (xRd 5 B n)],AV.tup [AV.agg [i64 (w64 (B 0)),i64 (0:Int),i64 (0:Int),i64 (xli B n 0),i64 (0:Int),i64 (0:Int),i64 (0:Int),i64 (0:Int),i64 (0:Int),i64 (0:Int)],Bo true],[some { t:=5,own:=own,c:=Cont.row 1 m fun j=>[Value.int IntKind.u8 (B j)] }]):=by kernel_rfl
theorem xp_6a {own:Bool}{m:Nat}{B:Nat->Int}{n:Nat}:(afun xpG 60 Try.f110 [.c (.sl 0 0 n)] [rowU own m B]).go (dN 29 16777214) =
 some ([!((n:Nat):Int)==(0:Int),true,decide ((0:Int)<((n:Nat):Int)),decide (0<m),true,nyC m n B 1,true,true,true,true,nyC m n B 5,true,true,true,true,nyC m n B 9,true,true,true,true,nyC m n B 13,true,true,true,true,!w64 (B 0)==(2:Int),!w64 (B 0)==(3:Int),!w64 (B 0)==(4:Int),!w64 (B 0)==(5:Int),w64 (B 0)==(6:Int),true,true,true,!yes (anOk (xRd 5 B n)),true,true,true,true,true],AV.tup [AV.agg [i64 (0:Int),i64 (0:Int),i64 (0:Int),i64 (0:Int),i64 (0:Int),i64 (0:Int),i64 (0:Int),i64 (0:Int),i64 (0:Int),i64 (0:Int)],Bo false],[some { t:=5,own:=own,c:=Cont.row 1 m fun j=>[Value.int IntKind.u8 (B j)] }]):=by kernel_rfl
theorem xp_6b {own:Bool}{m:Nat}{B:Nat->Int}{n:Nat}:(afun xpG 60 Try.f110 [.c (.sl 0 0 n)] [rowU own m B]).go (dN 39 76789317630) =
 some ([!((n:Nat):Int)==(0:Int),true,decide ((0:Int)<((n:Nat):Int)),decide (0<m),true,nyC m n B 1,true,true,true,true,nyC m n B 5,true,true,true,true,nyC m n B 9,true,true,true,true,nyC m n B 13,true,true,true,true,!w64 (B 0)==(2:Int),!w64 (B 0)==(3:Int),!w64 (B 0)==(4:Int),!w64 (B 0)==(5:Int),w64 (B 0)==(6:Int),true,true,true,!!yes (anOk (xRd 5 B n)),true,true,smE m n B (xRd 5 B n),true,true,!smF n B (xRd 5 B n)],AV.tup [AV.agg [i64 (0:Int),i64 (0:Int),i64 (0:Int),i64 (0:Int),i64 (0:Int),i64 (0:Int),i64 (0:Int),i64 (0:Int),i64 (0:Int),i64 (0:Int)],Bo false],[some { t:=5,own:=own,c:=Cont.row 1 m fun j=>[Value.int IntKind.u8 (B j)] }]):=by kernel_rfl
theorem xp_6g {own:Bool}{m:Nat}{B:Nat->Int}{n:Nat}:(afun xpG 60 Try.f110 [.c (.sl 0 0 n)] [rowU own m B]).go (dN 40 76789317630) =
 some ([!((n:Nat):Int)==(0:Int),true,decide ((0:Int)<((n:Nat):Int)),decide (0<m),true,nyC m n B 1,true,true,true,true,nyC m n B 5,true,true,true,true,nyC m n B 9,true,true,true,true,nyC m n B 13,true,true,true,true,!w64 (B 0)==(2:Int),!w64 (B 0)==(3:Int),!w64 (B 0)==(4:Int),!w64 (B 0)==(5:Int),w64 (B 0)==(6:Int),true,true,true,!!yes (anOk (xRd 5 B n)),true,true,smE m n B (xRd 5 B n),true,true,!!smF n B (xRd 5 B n)],AV.tup [AV.agg [i64 (w64 (B 0)),i64 (0:Int),i64 (0:Int),i64 (xli B n 0),i64 (0:Int),i64 (0:Int),i64 (0:Int),i64 (0:Int),i64 (0:Int),i64 (0:Int)],Bo true],[some { t:=5,own:=own,c:=Cont.row 1 m fun j=>[Value.int IntKind.u8 (B j)] }]):=by kernel_rfl
theorem xp_xa {own:Bool}{m:Nat}{B:Nat->Int}{n:Nat}:(afun xpG 60 Try.f110 [.c (.sl 0 0 n)] [rowU own m B]).go (dN 30 16777214) =
 some ([!((n:Nat):Int)==(0:Int),true,decide ((0:Int)<((n:Nat):Int)),decide (0<m),true,nyC m n B 1,true,true,true,true,nyC m n B 5,true,true,true,true,nyC m n B 9,true,true,true,true,nyC m n B 13,true,true,true,true,!w64 (B 0)==(2:Int),!w64 (B 0)==(3:Int),!w64 (B 0)==(4:Int),!w64 (B 0)==(5:Int),!w64 (B 0)==(6:Int),!yes (anOk (xRd 0 B n)),true,true,true,true,true],AV.tup [AV.agg [i64 (0:Int),i64 (0:Int),i64 (0:Int),i64 (0:Int),i64 (0:Int),i64 (0:Int),i64 (0:Int),i64 (0:Int),i64 (0:Int),i64 (0:Int)],Bo false],[some { t:=5,own:=own,c:=Cont.row 1 m fun j=>[Value.int IntKind.u8 (B j)] }]):=by kernel_rfl
theorem xp_xb {own:Bool}{m:Nat}{B:Nat->Int}{n:Nat}:(afun xpG 60 Try.f110 [.c (.sl 0 0 n)] [rowU own m B]).go (dN 36 8606711806) =
 some ([!((n:Nat):Int)==(0:Int),true,decide ((0:Int)<((n:Nat):Int)),decide (0<m),true,nyC m n B 1,true,true,true,true,nyC m n B 5,true,true,true,true,nyC m n B 9,true,true,true,true,nyC m n B 13,true,true,true,true,!w64 (B 0)==(2:Int),!w64 (B 0)==(3:Int),!w64 (B 0)==(4:Int),!w64 (B 0)==(5:Int),!w64 (B 0)==(6:Int),!!yes (anOk (xRd 0 B n)),true,true,smE m n B (xRd 0 B n),true,true,!smF n B (xRd 0 B n)],AV.tup [AV.agg [i64 (0:Int),i64 (0:Int),i64 (0:Int),i64 (0:Int),i64 (0:Int),i64 (0:Int),i64 (0:Int),i64 (0:Int),i64 (0:Int),i64 (0:Int)],Bo false],[some { t:=5,own:=own,c:=Cont.row 1 m fun j=>[Value.int IntKind.u8 (B j)] }]):=by kernel_rfl
theorem xp_xg {own:Bool}{m:Nat}{B:Nat->Int}{n:Nat}:(afun xpG 60 Try.f110 [.c (.sl 0 0 n)] [rowU own m B]).go (dN 37 8606711806) =
 some ([!((n:Nat):Int)==(0:Int),true,decide ((0:Int)<((n:Nat):Int)),decide (0<m),true,nyC m n B 1,true,true,true,true,nyC m n B 5,true,true,true,true,nyC m n B 9,true,true,true,true,nyC m n B 13,true,true,true,true,!w64 (B 0)==(2:Int),!w64 (B 0)==(3:Int),!w64 (B 0)==(4:Int),!w64 (B 0)==(5:Int),!w64 (B 0)==(6:Int),!!yes (anOk (xRd 0 B n)),true,true,smE m n B (xRd 0 B n),true,true,!!smF n B (xRd 0 B n)],AV.tup [AV.agg [i64 (w64 (B 0)),i64 (0:Int),i64 (0:Int),i64 (0:Int),i64 (0:Int),i64 (0:Int),i64 (0:Int),i64 (0:Int),i64 (0:Int),i64 (0:Int)],Bo true],[some { t:=5,own:=own,c:=Cont.row 1 m fun j=>[Value.int IntKind.u8 (B j)] }]):=by kernel_rfl
end
section
open Go Go.RowKit
theorem byteL_bR (q:Rd):byteL (bR q):=by
 unfold bR
 cases yes (anOk q)
 ·intro x hx;cases hx
 ·exact byteL_ansB q
theorem smE_t {m n:Nat}{B:Nat->Int}{Q:Rd}(hB:rng B) (hn:n<=m):smE m n B Q=true:=yes_of ⟨Nat.le_refl _,hn,rfl,rfl,rng_gL (byteL_bR Q),hB⟩
theorem smF_eq {n:Nat}{B:Nat->Int}{Q:Rd}:smF n B Q=yes (bR Q=lst B 0 n):=by
 unfold smF
 rw [show (lst (fun j=>ud (ub (gL (bR Q) j))) 0 (bR Q).length)=bR Q from lst_gL _]
noncomputable def xpR (own:Bool) (m:Nat) (B:Nat->Int) (n:Nat):AV × AHeap:=
 bif yes (xrOk (lst B 0 n)) then (.tup [rV (xr (lst B 0 n)),Bo true],[rowU own m B]) else (.tup [rV zR,Bo false],[rowU own m B])
theorem xpR_f {own:Bool}{m n:Nat}{B:Nat->Int}(h:¬ xrOk (lst B 0 n)):xpR own m B n=(.tup [rV zR,Bo false],[rowU own m B]):=by unfold xpR;rw [yes_no h];rfl
theorem xpR_g {own:Bool}{m n:Nat}{B:Nat->Int}(h:xrOk (lst B 0 n)):xpR own m B n=(.tup [rV (xr (lst B 0 n)),Bo true],[rowU own m B]):=by unfold xpR;rw [yes_of h];rfl
theorem xrOk_iff {L:List Int}:xrOk L ↔ (L.getD 0 0=2->L.length=6)/\anOk (xr L)/\bR (xr L)=L:=by
 unfold xrOk
 constructor
 ·rintro ⟨h1,h2,h3⟩;exact ⟨h1,h2,by rw [bR_t h2];exact h3⟩
 ·rintro ⟨h1,h2,h3⟩;exact ⟨h1,h2,by rw [bR_t h2] at h3;exact h3⟩
theorem xp_all {own:Bool}{m n:Nat}{B:Nat->Int}(hB:rng B) (hn:n<=m) (hs:n<2^20):(afun xpG 60 Try.f110 [.c (.sl 0 0 n)] [rowU own m B]).eval=some (xpR own m B n):=by
 by_cases h0:n=0
 ·have hx:¬ xrOk (lst B 0 n):=by
   rintro ⟨_,_,h⟩
   subst h0
   unfold ansB at h
   cases h
  rw [xpR_f hx]
  exact (Tr.go_eval xp_0 ⟨beq_iff_eq.2 (by omega),trivial⟩).trans rfl
 have hb0:=hB 0
 have e0:w64 (B 0)=B 0:=w64_id (by omega) (by omega)
 have g0:(lst B 0 n).getD 0 0=B 0:=getD_lst B (by omega)
 have c0:(!((n:Nat):Int)==(0:Int))=true:=not_eq (beq_eq_false_iff_ne.2 (by omega))
 have c1:decide ((0:Int)<((n:Nat):Int))=true:=decide_eq_true (by omega)
 have c2:decide (0<m)=true:=decide_eq_true (by omega)
 have y1:=nyC_t hB hn hs (x:=1) (by decide)
 have y2:=nyC_t hB hn hs (x:=2) (by decide)
 have y5:=nyC_t hB hn hs (x:=5) (by decide)
 have y9:=nyC_t hB hn hs (x:=9) (by decide)
 have y13:=nyC_t hB hn hs (x:=13) (by decide)
 have sc:=fun Q=>smE_t (Q:=Q) hB hn
 have hk:∀ c:Int,B 0 ≠ c->(!w64 (B 0)==c)=true:=fun c hc=>not_eq (by rw [e0];exact nb hc)
 have hk2:∀ c:Int,B 0=c->(w64 (B 0)==c)=true:=fun c hc=>by rw [e0];exact beq_iff_eq.2 hc
 by_cases h2:B 0=2
 ·by_cases h6:n=6
  ·have eQ:xRd 2 B n=xr (lst B 0 n):=by
    have hb1:=hB 1
    have e1:w64 (B 1)=B 1:=w64_id (by omega) (by omega)
    have g1:(lst B 0 n).getD 1 0=B 1:=getD_lst B (by omega)
    unfold xRd xr
    rw [g0,g1,e0,e1,h2];rfl
   have c6:(!((n:Nat):Int) != (6:Int))=true:=by rw [h6];rfl
   have c7:decide ((1:Int)<((n:Nat):Int))=true:=decide_eq_true (by omega)
   have c8:decide (1<m)=true:=decide_eq_true (by omega)
   by_cases hr:anOk (xRd 2 B n)
   ·by_cases hd:bR (xRd 2 B n)=lst B 0 n
    ·rw [xpR_g (xrOk_iff.2 ⟨fun _=>by rw [lst_len];exact h6,eQ ▸ hr,eQ ▸ hd⟩),<-eQ]
     refine (Tr.go_eval xp_2g ?_).trans rfl
     repeat' (first|exact AllT.nil|refine AllT.cons ?_ ?_)
     all_goals first|(with_reducible rfl)|(with_reducible assumption)|exact hk2 _ h2|exact hk _ (by omega)|exact sc _|exact notnot (yes_of hr)|exact notnot (by rw [smF_eq,yes_of hd])
    ·rw [xpR_f fun h=>hd (by rw [eQ];exact (xrOk_iff.1 h).2.2)]
     refine (Tr.go_eval xp_2b ?_).trans rfl
     repeat' (first|exact AllT.nil|refine AllT.cons ?_ ?_)
     all_goals first|(with_reducible rfl)|(with_reducible assumption)|exact hk2 _ h2|exact hk _ (by omega)|exact sc _|exact notnot (yes_of hr)|exact not_eq (by rw [smF_eq,yes_no hd])
   ·rw [xpR_f fun h=>hr (by rw [eQ];exact (xrOk_iff.1 h).2.1)]
    refine (Tr.go_eval xp_2a ?_).trans rfl
    repeat' (first|exact AllT.nil|refine AllT.cons ?_ ?_)
    all_goals first|(with_reducible rfl)|(with_reducible assumption)|exact hk2 _ h2|exact hk _ (by omega)|exact not_eq (yes_no hr)
  ·rw [xpR_f fun h=>h6 (by have:=h.1 (g0.trans h2);rw [lst_len] at this;exact this)]
   refine (Tr.go_eval xp_2l ?_).trans rfl
   repeat' (first|exact AllT.nil|refine AllT.cons ?_ ?_)
   all_goals first|(with_reducible rfl)|(with_reducible assumption)|exact hk2 _ h2|exact bne_iff_ne.2 (by omega)
 by_cases h3:B 0=3
 ·have eQ:xRd 3 B n=xr (lst B 0 n):=by
   unfold xRd xr
   rw [g0,e0,h3];rfl
  by_cases hr:anOk (xRd 3 B n)
  ·by_cases hd:bR (xRd 3 B n)=lst B 0 n
   ·rw [xpR_g (xrOk_iff.2 ⟨fun h=>absurd (g0.symm.trans h) (by omega),eQ ▸ hr,eQ ▸ hd⟩),<-eQ]
    refine (Tr.go_eval xp_3g ?_).trans rfl
    repeat' (first|exact AllT.nil|refine AllT.cons ?_ ?_)
    all_goals first|(with_reducible rfl)|(with_reducible assumption)|exact hk2 _ h3|exact hk _ (by omega)|exact sc _|exact notnot (yes_of hr)|exact notnot (by rw [smF_eq,yes_of hd])
   ·rw [xpR_f fun h=>hd (by rw [eQ];exact (xrOk_iff.1 h).2.2)]
    refine (Tr.go_eval xp_3b ?_).trans rfl
    repeat' (first|exact AllT.nil|refine AllT.cons ?_ ?_)
    all_goals first|(with_reducible rfl)|(with_reducible assumption)|exact hk2 _ h3|exact hk _ (by omega)|exact sc _|exact notnot (yes_of hr)|exact not_eq (by rw [smF_eq,yes_no hd])
  ·rw [xpR_f fun h=>hr (by rw [eQ];exact (xrOk_iff.1 h).2.1)]
   refine (Tr.go_eval xp_3a ?_).trans rfl
   repeat' (first|exact AllT.nil|refine AllT.cons ?_ ?_)
   all_goals first|(with_reducible rfl)|(with_reducible assumption)|exact hk2 _ h3|exact hk _ (by omega)|exact not_eq (yes_no hr)
 by_cases h4:B 0=4
 ·have eQ:xRd 4 B n=xr (lst B 0 n):=by
   unfold xRd xr
   rw [g0,e0,h4];rfl
  by_cases hr:anOk (xRd 4 B n)
  ·by_cases hd:bR (xRd 4 B n)=lst B 0 n
   ·rw [xpR_g (xrOk_iff.2 ⟨fun h=>absurd (g0.symm.trans h) (by omega),eQ ▸ hr,eQ ▸ hd⟩),<-eQ]
    refine (Tr.go_eval xp_4g ?_).trans rfl
    repeat' (first|exact AllT.nil|refine AllT.cons ?_ ?_)
    all_goals first|(with_reducible rfl)|(with_reducible assumption)|exact hk2 _ h4|exact hk _ (by omega)|exact sc _|exact notnot (yes_of hr)|exact notnot (by rw [smF_eq,yes_of hd])
   ·rw [xpR_f fun h=>hd (by rw [eQ];exact (xrOk_iff.1 h).2.2)]
    refine (Tr.go_eval xp_4b ?_).trans rfl
    repeat' (first|exact AllT.nil|refine AllT.cons ?_ ?_)
    all_goals first|(with_reducible rfl)|(with_reducible assumption)|exact hk2 _ h4|exact hk _ (by omega)|exact sc _|exact notnot (yes_of hr)|exact not_eq (by rw [smF_eq,yes_no hd])
  ·rw [xpR_f fun h=>hr (by rw [eQ];exact (xrOk_iff.1 h).2.1)]
   refine (Tr.go_eval xp_4a ?_).trans rfl
   repeat' (first|exact AllT.nil|refine AllT.cons ?_ ?_)
   all_goals first|(with_reducible rfl)|(with_reducible assumption)|exact hk2 _ h4|exact hk _ (by omega)|exact not_eq (yes_no hr)
 by_cases h5:B 0=5
 ·have eQ:xRd 5 B n=xr (lst B 0 n):=by
   unfold xRd xr
   rw [g0,e0,h5];rfl
  by_cases hr:anOk (xRd 5 B n)
  ·by_cases hd:bR (xRd 5 B n)=lst B 0 n
   ·rw [xpR_g (xrOk_iff.2 ⟨fun h=>absurd (g0.symm.trans h) (by omega),eQ ▸ hr,eQ ▸ hd⟩),<-eQ]
    refine (Tr.go_eval xp_5g ?_).trans rfl
    repeat' (first|exact AllT.nil|refine AllT.cons ?_ ?_)
    all_goals first|(with_reducible rfl)|(with_reducible assumption)|exact hk2 _ h5|exact hk _ (by omega)|exact sc _|exact notnot (yes_of hr)|exact notnot (by rw [smF_eq,yes_of hd])
   ·rw [xpR_f fun h=>hd (by rw [eQ];exact (xrOk_iff.1 h).2.2)]
    refine (Tr.go_eval xp_5b ?_).trans rfl
    repeat' (first|exact AllT.nil|refine AllT.cons ?_ ?_)
    all_goals first|(with_reducible rfl)|(with_reducible assumption)|exact hk2 _ h5|exact hk _ (by omega)|exact sc _|exact notnot (yes_of hr)|exact not_eq (by rw [smF_eq,yes_no hd])
  ·rw [xpR_f fun h=>hr (by rw [eQ];exact (xrOk_iff.1 h).2.1)]
   refine (Tr.go_eval xp_5a ?_).trans rfl
   repeat' (first|exact AllT.nil|refine AllT.cons ?_ ?_)
   all_goals first|(with_reducible rfl)|(with_reducible assumption)|exact hk2 _ h5|exact hk _ (by omega)|exact not_eq (yes_no hr)
 by_cases h6:B 0=6
 ·have eQ:xRd 5 B n=xr (lst B 0 n):=by
   unfold xRd xr
   rw [g0,e0,h6];rfl
  by_cases hr:anOk (xRd 5 B n)
  ·by_cases hd:bR (xRd 5 B n)=lst B 0 n
   ·rw [xpR_g (xrOk_iff.2 ⟨fun h=>absurd (g0.symm.trans h) (by omega),eQ ▸ hr,eQ ▸ hd⟩),<-eQ]
    refine (Tr.go_eval xp_6g ?_).trans rfl
    repeat' (first|exact AllT.nil|refine AllT.cons ?_ ?_)
    all_goals first|(with_reducible rfl)|(with_reducible assumption)|exact hk2 _ h6|exact hk _ (by omega)|exact sc _|exact notnot (yes_of hr)|exact notnot (by rw [smF_eq,yes_of hd])
   ·rw [xpR_f fun h=>hd (by rw [eQ];exact (xrOk_iff.1 h).2.2)]
    refine (Tr.go_eval xp_6b ?_).trans rfl
    repeat' (first|exact AllT.nil|refine AllT.cons ?_ ?_)
    all_goals first|(with_reducible rfl)|(with_reducible assumption)|exact hk2 _ h6|exact hk _ (by omega)|exact sc _|exact notnot (yes_of hr)|exact not_eq (by rw [smF_eq,yes_no hd])
  ·rw [xpR_f fun h=>hr (by rw [eQ];exact (xrOk_iff.1 h).2.1)]
   refine (Tr.go_eval xp_6a ?_).trans rfl
   repeat' (first|exact AllT.nil|refine AllT.cons ?_ ?_)
   all_goals first|(with_reducible rfl)|(with_reducible assumption)|exact hk2 _ h6|exact hk _ (by omega)|exact not_eq (yes_no hr)
 ·have eQ:xRd 0 B n=xr (lst B 0 n):=by
   unfold xRd xr
   rw [g0,e0,nb h2,nb h3,nb h4,nb h5,nb h6];rfl
  by_cases hr:anOk (xRd 0 B n)
  ·by_cases hd:bR (xRd 0 B n)=lst B 0 n
   ·rw [xpR_g (xrOk_iff.2 ⟨fun h=>absurd (g0.symm.trans h) (by omega),eQ ▸ hr,eQ ▸ hd⟩),<-eQ]
    refine (Tr.go_eval xp_xg ?_).trans rfl
    repeat' (first|exact AllT.nil|refine AllT.cons ?_ ?_)
    all_goals first|(with_reducible rfl)|(with_reducible assumption)|exact hk _ (by assumption)|exact sc _|exact notnot (yes_of hr)|exact notnot (by rw [smF_eq,yes_of hd])
   ·rw [xpR_f fun h=>hd (by rw [eQ];exact (xrOk_iff.1 h).2.2)]
    refine (Tr.go_eval xp_xb ?_).trans rfl
    repeat' (first|exact AllT.nil|refine AllT.cons ?_ ?_)
    all_goals first|(with_reducible rfl)|(with_reducible assumption)|exact hk _ (by assumption)|exact sc _|exact notnot (yes_of hr)|exact not_eq (by rw [smF_eq,yes_no hd])
  ·rw [xpR_f fun h=>hr (by rw [eQ];exact (xrOk_iff.1 h).2.1)]
   refine (Tr.go_eval xp_xa ?_).trans rfl
   repeat' (first|exact AllT.nil|refine AllT.cons ?_ ?_)
   all_goals first|(with_reducible rfl)|(with_reducible assumption)|exact hk _ (by assumption)|exact not_eq (yes_no hr)
noncomputable def xpF0:Spec:=fun args h=>match args,h with
 | [.c (.sl 0 0 n)],[some ⟨5,own,.row 1 m f⟩]=>
  .need (yes (n<=m/\n<2^20/\(f=fun j=>ub (ud (f j)))/\rng fun j=>ud (f j))) (.ret (xpR own m (fun j=>ud (f j)) n))
 | _,_=>.fail
theorem xpF0_ok:SpecOk Try.prog 110 xpF0:=by
 refine known' KXP_ok Try.func110 fun args h r he=>?_
 unfold xpF0 at he
 split at he
 ·rename_i n own m f
  obtain ⟨⟨h1,h2,h3,h4⟩,he'⟩:=Tr.eval_ask.1 he
  have e1:some ⟨5,own,.row 1 m f⟩=rowU own m fun j=>ud (f j):=by rw [rowU,<-h3]
  rw [e1]
  exact ⟨_,_,_,(xp_all h4 h1 h2).trans he'⟩
 ·cases he
theorem xpU_ok:SpecOk Try.prog 110 (ryW eBo):=by
 refine fun B0 args H r' H' he=>xpF0_ok B0 args H r' H' ?_
 unfold ryW at he
 split at he
 ·rename_i n own m f
  obtain ⟨hn,he'⟩:=Tr.eval_ask.1 he
  refine Tr.eval_ask.2 ⟨hn,?_⟩
  rw [<-he']
  obtain ⟨h1,h2,h3,h4⟩:=hn
  obtain ⟨g1,g2⟩:=xr_law (lst_byteL h4 0 n)
  have hR:rrR (fun j=>ud (f j)) 0 n=rReply (lst (fun j=>ud (f j)) 0 n,false):=rfl
  rw [hR]
  simp only [Tr.eval]
  by_cases hx:xrOk (lst (fun j=>ud (f j)) 0 n)
  ·have hr:=g1.1 hx
   rw [xpR_g hx]
   unfold oR
   rw [yes_of hr,g2 hx];rfl
  ·have hr:¬ (rReply (lst (fun j=>ud (f j)) 0 n,false)).2=([],false):=fun h=>hx (g1.2 h)
   rw [xpR_f hx]
   unfold oR
   rw [yes_no hr];rfl
 ·cases he
end
section
open Go Go.RowKit
abbrev smK:List (Nat × Option TypeId):=[(0,none),(3,none),(4,none)]
noncomputable def smG:Ctx2:=GT [] (fun k=>if k=3 then smK else []) 0 []
theorem smG_ok:XOk smG:=GT_ok nilK _ _ _
def smS (o:Bool) (m:Nat) (P:Nat->Opp) (n i:Int):St:=⟨slots 31 [(0,.c (.sl 0 0 m)),(3,I64 n),(4,I64 i)],[rowP o m P]⟩
theorem sm1_go {o:Bool}{m:Nat}{P:Nat->Opp}{n i:Int}:(rT smG nol 1 54 (bodyOf Try.f103 0) smK smK (smS o m P n i)).go [] =
 some
  ([decide (i<((m:Nat):Int)),true,true,decide (i<(130:Int)),decide ((0:Int)<=i),decide (i<((m:Nat):Int)),
    decide (0+i.toNat<m)],
   Ex.normal,
   {
    sl:=
     slots 31
      [(0,AV.c (AC.sl 0 0 m)),
       (3,I64 (w64 (n+mnI (5000:Int) (((P (0+i.toNat)).s.size:Nat):Int)))),
       (4,I64 (w64 (i+(1:Int))))],
    h:=
     [some
       {t:=121,own:=o,
        c:=
         Cont.row 5 m fun j=>
          [Value.int IntKind.i64 (P j).k,Value.int IntKind.i64 (P j).i,Value.int IntKind.i64 (P j).a,
           Value.int IntKind.i64 (P j).b,Value.string (P j).s] }] }):=by kernel_rfl
theorem sm1_e1 {o:Bool}{m:Nat}{P:Nat->Opp}{n i:Int}:(rT smG nol 1 54 (bodyOf Try.f103 0) smK smK (smS o m P n i)).go (dN 4 0) =
 some
  ([!decide (i<((m:Nat):Int)),true,true,true],Ex.exit 0,
   {
    sl:=
     slots 31 [(0,AV.c (AC.sl 0 0 m)),(3,I64 n),(4,I64 i)],
    h:=
     [some
       {t:=121,own:=o,
        c:=
         Cont.row 5 m fun j=>
          [Value.int IntKind.i64 (P j).k,Value.int IntKind.i64 (P j).i,Value.int IntKind.i64 (P j).a,
           Value.int IntKind.i64 (P j).b,Value.string (P j).s] }] }):=by kernel_rfl
theorem sm1_e2 {o:Bool}{m:Nat}{P:Nat->Opp}{n i:Int}:(rT smG nol 1 54 (bodyOf Try.f103 0) smK smK (smS o m P n i)).go (dN 4 7) =
 some
  ([decide (i<((m:Nat):Int)),true,true,!decide (i<(130:Int))],Ex.exit 0,
   {
    sl:=
     slots 31 [(0,AV.c (AC.sl 0 0 m)),(3,I64 n),(4,I64 i)],
    h:=
     [some
       {t:=121,own:=o,
        c:=
         Cont.row 5 m fun j=>
          [Value.int IntKind.i64 (P j).k,Value.int IntKind.i64 (P j).i,Value.int IntKind.i64 (P j).a,
           Value.int IntKind.i64 (P j).b,Value.string (P j).s] }] }):=by kernel_rfl
theorem sm1_wt {o:Bool}{m:Nat}{P:Nat->Opp}{n i:Int}:(lfun smG (tell (bodyOf Try.f103 0) (smS o m P 0 0) (.exit 0,smS o m P n i)) 60 Try.f103 [.c (.sl 0 0 m)] [rowP o m P]).go [] =
 some
  ([yes (wasS (bodyOf Try.f103 0) (smS o m P 0 0)),decide (((m:Nat):Int)<=(120:Int)),true,true],Bo (decide (n<=(4000:Int))),
   [some
     {t:=121,own:=o,
      c:=
       Cont.row 5 m fun j=>
        [Value.int IntKind.i64 (P j).k,Value.int IntKind.i64 (P j).i,Value.int IntKind.i64 (P j).a,
         Value.int IntKind.i64 (P j).b,Value.string (P j).s] }]):=by kernel_rfl
theorem sm1_wf {o:Bool}{m:Nat}{P:Nat->Opp}{n i:Int}:(lfun smG (tell (bodyOf Try.f103 0) (smS o m P 0 0) (.exit 0,smS o m P n i)) 60 Try.f103 [.c (.sl 0 0 m)] [rowP o m P]).go (dN 4 1) =
 some
  ([yes (wasS (bodyOf Try.f103 0) (smS o m P 0 0)),!decide (((m:Nat):Int)<=(120:Int)),true,true],Bo false,
   [some
     {t:=121,own:=o,
      c:=
       Cont.row 5 m fun j=>
        [Value.int IntKind.i64 (P j).k,Value.int IntKind.i64 (P j).i,Value.int IntKind.i64 (P j).a,
         Value.int IntKind.i64 (P j).b,Value.string (P j).s] }]):=by kernel_rfl
end
section
open Go Go.RowKit
def smN (P:Nat->Opp):Nat->Int
 | 0=>0
 | j+1=>smN P j+mnI 5000 (((P j).s.size:Nat):Int)
theorem smN_in (P:Nat->Opp):∀ j,0<=smN P j/\smN P j<=5000*j
 | 0=>⟨Int.le_refl _,Int.le_refl _⟩
 | j+1=>by
  have h:=smN_in P j
  have e:smN P (j+1)=smN P j+min 5000 (((P j).s.size:Nat):Int):=by rw [smN,mnI_eq]
  rw [e];omega
def smM (m:Nat):Nat:=min m 130
theorem sm_loop {o:Bool}{m:Nat}{P:Nat->Opp}:CodeSem smG 1 (.loop (bodyOf Try.f103 0)) (smS o m P 0 0) (.exit 0,smS o m P (smN P (smM m)) (smM m:Nat)):=by
 have hM:smM m=min m 130:=rfl
 generalize smM m=N at hM
 refine loop_of (fun j=>smS o m P (smN P j) (j:Nat)) N (by simp) ?_ fun j hj=>?_
 ·by_cases h:N<m
  ·refine rT_sem smG_ok noLoopsS ((rT_go sm1_e2 ?_).trans rfl)
   repeat' (first|exact AllT.nil|refine AllT.cons ?_ ?_)
   all_goals first|(with_reducible rfl)|exact decide_eq_true (by omega)|exact not_eq (decide_eq_false (by omega))|(rw [decide_eq_false (by omega)];rfl)
  ·refine rT_sem smG_ok noLoopsS ((rT_go sm1_e1 ?_).trans rfl)
   repeat' (first|exact AllT.nil|refine AllT.cons ?_ ?_)
   all_goals first|(with_reducible rfl)|(rw [decide_eq_false (by omega)];rfl)
 ·have e1:=succ64 (j:=j) (by omega)
  have hi:=smN_in P j
  have hj':=smN_in P (j+1)
  have e2:w64 (smN P j+mnI 5000 (((P j).s.size:Nat):Int))=smN P (j+1):=by
   rw [show smN P j+mnI 5000 (((P j).s.size:Nat):Int)=smN P (j+1) from rfl,w64_id (by omega) (by omega)]
  refine rT_sem smG_ok noLoopsS ((rT_go sm1_go ?_).trans ?_)
  ·simp only [Int.toNat_natCast,Nat.zero_add]
   repeat' (first|exact AllT.nil|refine AllT.cons ?_ ?_)
   all_goals first|(with_reducible rfl)|exact decide_eq_true (by omega)
  ·simp only [Int.toNat_natCast,Nat.zero_add,e1,e2]
   rfl
end
section
open Go Go.RowKit
noncomputable def smallF:Spec:=fun args h=>match args,h with
 | [.c (.sl 0 0 m)],[some ⟨121,o,.row 5 m' f⟩]=>
  .need (yes (m'=m/\f=fun j=>encO (decO (f j)))) (.ret (Bo (yes (m<=120/\smN (fun j=>decO (f j)) (smM m)<=4000)),[rowP o m fun j=>decO (f j)]))
 | _,_=>.fail
theorem smallF_ok:SpecOk Try.prog 103 smallF:=by
 refine knownS nilK Try.func103 fun args h r he=>?_
 unfold smallF at he
 split at he
 ·rename_i m o m' f
  obtain ⟨⟨h1,h2⟩,he'⟩:=Tr.eval_ask.1 he
  subst h1
  cases he'
  have e1:some ⟨121,o,.row 5 m' f⟩=rowP o m' fun j=>decO (f j):=by rw [rowP,<-h2]
  rw [e1]
  by_cases hm:m'<=120
  ·refine ⟨(fun k=>if k=3 then smK else []),[],60,_,tell_ok (sm_loop (o:=o) (m:=m') (P:=fun j=>decO (f j))),(Tr.go_eval sm1_wt ?_).trans ?_⟩
   ·repeat' (first|exact AllT.nil|refine AllT.cons ?_ ?_)
    all_goals first|(with_reducible rfl)|exact yes_of ⟨rfl,rfl⟩|exact decide_eq_true (by omega)
   ·by_cases h3:smN (fun j=>decO (f j)) (smM m')<=4000
    ·rw [yes_of ⟨hm,h3⟩,decide_eq_true h3];rfl
    ·rw [yes_no fun h=>h3 h.2,decide_eq_false h3];rfl
  ·refine ⟨(fun k=>if k=3 then smK else []),[],60,_,tell_ok (sm_loop (o:=o) (m:=m') (P:=fun j=>decO (f j))),(Tr.go_eval sm1_wf ?_).trans ?_⟩
   ·repeat' (first|exact AllT.nil|refine AllT.cons ?_ ?_)
    all_goals first|(with_reducible rfl)|exact yes_of ⟨rfl,rfl⟩|exact not_eq (decide_eq_false (by omega))|(rw [decide_eq_false (by omega)];rfl)
   ·rw [yes_no fun h=>hm h.1];rfl
 ·cases he
end
section
open Go Go.RowKit
abbrev laK:List (Nat × Option TypeId):=[(2,none),(3,none),(4,none),(5,none)]
noncomputable def laG:Ctx2:=GT [] (fun k=>if k=4 then laK else []) 0 []
theorem laG_ok:XOk laG:=GT_ok nilK _ _ _
def bxQ (q:Qd) (s:AC):Option ABlk:=some ⟨128,true,.one [i64 q.k,i64 q.n,i64 q.p,i64 q.t,i64 q.x,i64 q.y,s]⟩
def laS (a b:Qd) (o1 o2:Bool) (m1 m2:Nat) (P1 P2:Nat->Opp) (n n2:Nat) (i:Int):St:=⟨slots 66 [(2,.c (.ptr 2 0 0)),(3,.c (.ptr 3 0 0)),(4,Bo false),(5,I64 i)],[rowP o1 m1 P1,rowP o2 m2 P2,bxQ a (.sl 0 0 n),bxQ b (.sl 1 0 n2)]⟩
theorem la_e {a b:Qd}{o1 o2:Bool}{m1 m2:Nat}{P1 P2:Nat->Opp}{n n2:Nat}{i:Int}:(rT laG nol 2 54 (bodyOf Try.f111 0) laK laK (laS a b o1 o2 m1 m2 P1 P2 n n2 i)).go [false]=some ([!decide (i<((n:Nat):Int))],Ex.exit 0,{ sl:=slots 66 [(2,.c (.ptr 2 0 0)),(3,.c (.ptr 3 0 0)),(4,Bo false),(5,I64 i)],h:=[some ⟨121,o1,.row 5 m1 fun j=>[.int .i64 (P1 j).k,.int .i64 (P1 j).i,.int .i64 (P1 j).a,.int .i64 (P1 j).b,.string (P1 j).s]⟩,some ⟨121,o2,.row 5 m2 fun j=>[.int .i64 (P2 j).k,.int .i64 (P2 j).i,.int .i64 (P2 j).a,.int .i64 (P2 j).b,.string (P2 j).s]⟩,some ⟨128,true,.one [i64 a.k,i64 a.n,i64 a.p,i64 a.t,i64 a.x,i64 a.y,.sl 0 0 n]⟩,some ⟨128,true,.one [i64 b.k,i64 b.n,i64 b.p,i64 b.t,i64 b.x,i64 b.y,.sl 1 0 n2]⟩] }):=by kernel_rfl
theorem la_df {a b:Qd}{o1 o2:Bool}{m1 m2:Nat}{P1 P2:Nat->Opp}{n n2:Nat}{i:Int}:(rT laG nol 2 54 (bodyOf Try.f111 0) laK laK (laS a b o1 o2 m1 m2 P1 P2 n n2 i)).go []=some ([decide (i<((n:Nat):Int)),decide ((0:Int)<=i),decide (i<((n:Nat):Int)),decide (0+i.toNat<m1),decide ((0:Int)<=i),decide (i<((n2:Nat):Int)),decide (0+i.toNat<m2),!((P1 (0+i.toNat)).k==(P2 (0+i.toNat)).k&&((P1 (0+i.toNat)).i==(P2 (0+i.toNat)).i&&((P1 (0+i.toNat)).a==(P2 (0+i.toNat)).a&&((P1 (0+i.toNat)).b==(P2 (0+i.toNat)).b&&((P1 (0+i.toNat)).s==(P2 (0+i.toNat)).s&&true)))))],Ex.ret,{ sl:=slots 66 [(2,.c (.ptr 2 0 0)),(3,.c (.ptr 3 0 0)),(4,Bo false),(5,I64 i)],h:=[some ⟨121,o1,.row 5 m1 fun j=>[.int .i64 (P1 j).k,.int .i64 (P1 j).i,.int .i64 (P1 j).a,.int .i64 (P1 j).b,.string (P1 j).s]⟩,some ⟨121,o2,.row 5 m2 fun j=>[.int .i64 (P2 j).k,.int .i64 (P2 j).i,.int .i64 (P2 j).a,.int .i64 (P2 j).b,.string (P2 j).s]⟩,some ⟨128,true,.one [i64 a.k,i64 a.n,i64 a.p,i64 a.t,i64 a.x,i64 a.y,.sl 0 0 n]⟩,some ⟨128,true,.one [i64 b.k,i64 b.n,i64 b.p,i64 b.t,i64 b.x,i64 b.y,.sl 1 0 n2]⟩] }):=by kernel_rfl
theorem la_go {a b:Qd}{o1 o2:Bool}{m1 m2:Nat}{P1 P2:Nat->Opp}{n n2:Nat}{i:Int}:(rT laG nol 2 54 (bodyOf Try.f111 0) laK laK (laS a b o1 o2 m1 m2 P1 P2 n n2 i)).go (dN 8 127)=some ([decide (i<((n:Nat):Int)),decide ((0:Int)<=i),decide (i<((n:Nat):Int)),decide (0+i.toNat<m1),decide ((0:Int)<=i),decide (i<((n2:Nat):Int)),decide (0+i.toNat<m2),!!((P1 (0+i.toNat)).k==(P2 (0+i.toNat)).k&&((P1 (0+i.toNat)).i==(P2 (0+i.toNat)).i&&((P1 (0+i.toNat)).a==(P2 (0+i.toNat)).a&&((P1 (0+i.toNat)).b==(P2 (0+i.toNat)).b&&((P1 (0+i.toNat)).s==(P2 (0+i.toNat)).s&&true)))))],Ex.normal,{ sl:=slots 66 [(2,.c (.ptr 2 0 0)),(3,.c (.ptr 3 0 0)),(4,Bo false),(5,I64 (w64 (i+(1:Int))))],h:=[some ⟨121,o1,.row 5 m1 fun j=>[.int .i64 (P1 j).k,.int .i64 (P1 j).i,.int .i64 (P1 j).a,.int .i64 (P1 j).b,.string (P1 j).s]⟩,some ⟨121,o2,.row 5 m2 fun j=>[.int .i64 (P2 j).k,.int .i64 (P2 j).i,.int .i64 (P2 j).a,.int .i64 (P2 j).b,.string (P2 j).s]⟩,some ⟨128,true,.one [i64 a.k,i64 a.n,i64 a.p,i64 a.t,i64 a.x,i64 a.y,.sl 0 0 n]⟩,some ⟨128,true,.one [i64 b.k,i64 b.n,i64 b.p,i64 b.t,i64 b.x,i64 b.y,.sl 1 0 n2]⟩] }):=by kernel_rfl
def laN (a b:Qd):St:=⟨slots 66 [(2,.c (.ptr 0 0 0)),(3,.c (.ptr 1 0 0)),(4,Bo false),(5,I64 0)],[bxQ a (.v (.slice none 0 0)),bxQ b (.v (.slice none 0 0))]⟩
def laN1 (a b:Qd) (o1:Bool) (m1:Nat) (P1:Nat->Opp):St:=⟨slots 66 [(2,.c (.ptr 1 0 0)),(3,.c (.ptr 2 0 0)),(4,Bo false),(5,I64 0)],[rowP o1 m1 P1,bxQ a (.sl 0 0 0),bxQ b (.v (.slice none 0 0))]⟩
def laN2 (a b:Qd) (o1:Bool) (m1:Nat) (P1:Nat->Opp):St:=⟨slots 66 [(2,.c (.ptr 1 0 0)),(3,.c (.ptr 2 0 0)),(4,Bo false),(5,I64 0)],[rowP o1 m1 P1,bxQ a (.v (.slice none 0 0)),bxQ b (.sl 0 0 0)]⟩
theorem lan_e {a b:Qd}:(rT laG nol 0 54 (bodyOf Try.f111 0) laK laK (laN a b)).go [false]=some ([true],Ex.exit 0,{ sl:=slots 66 [(2,.c (.ptr 0 0 0)),(3,.c (.ptr 1 0 0)),(4,Bo false),(5,I64 0)],h:=[some ⟨128,true,.one [i64 a.k,i64 a.n,i64 a.p,i64 a.t,i64 a.x,i64 a.y,.v (.slice none 0 0)]⟩,some ⟨128,true,.one [i64 b.k,i64 b.n,i64 b.p,i64 b.t,i64 b.x,i64 b.y,.v (.slice none 0 0)]⟩] }):=by kernel_rfl
theorem lan1_e {a b:Qd}{o1:Bool}{m1:Nat}{P1:Nat->Opp}:(rT laG nol 1 54 (bodyOf Try.f111 0) laK laK (laN1 a b o1 m1 P1)).go [false]=some ([true],Ex.exit 0,{ sl:=slots 66 [(2,.c (.ptr 1 0 0)),(3,.c (.ptr 2 0 0)),(4,Bo false),(5,I64 0)],h:=[some ⟨121,o1,.row 5 m1 fun j=>[.int .i64 (P1 j).k,.int .i64 (P1 j).i,.int .i64 (P1 j).a,.int .i64 (P1 j).b,.string (P1 j).s]⟩,some ⟨128,true,.one [i64 a.k,i64 a.n,i64 a.p,i64 a.t,i64 a.x,i64 a.y,.sl 0 0 0]⟩,some ⟨128,true,.one [i64 b.k,i64 b.n,i64 b.p,i64 b.t,i64 b.x,i64 b.y,.v (.slice none 0 0)]⟩] }):=by kernel_rfl
theorem lan2_e {a b:Qd}{o1:Bool}{m1:Nat}{P1:Nat->Opp}:(rT laG nol 1 54 (bodyOf Try.f111 0) laK laK (laN2 a b o1 m1 P1)).go [false]=some ([true],Ex.exit 0,{ sl:=slots 66 [(2,.c (.ptr 1 0 0)),(3,.c (.ptr 2 0 0)),(4,Bo false),(5,I64 0)],h:=[some ⟨121,o1,.row 5 m1 fun j=>[.int .i64 (P1 j).k,.int .i64 (P1 j).i,.int .i64 (P1 j).a,.int .i64 (P1 j).b,.string (P1 j).s]⟩,some ⟨128,true,.one [i64 a.k,i64 a.n,i64 a.p,i64 a.t,i64 a.x,i64 a.y,.v (.slice none 0 0)]⟩,some ⟨128,true,.one [i64 b.k,i64 b.n,i64 b.p,i64 b.t,i64 b.x,i64 b.y,.sl 0 0 0]⟩] }):=by kernel_rfl
theorem la_nnf {a b:Qd}:(lfun laG nol 60 Try.f111 [qV a (.v (.slice none 0 0)),qV b (.v (.slice none 0 0))] []).eval=bif a.k != b.k then some (Bo false,[]) else bif a.n != b.n then some (Bo false,[]) else bif !(a.p==b.p&&(a.t==b.t&&true)) then some (Bo false,[]) else bif a.x != b.x then some (Bo false,[]) else bif a.y != b.y then some (Bo false,[]) else none:=by kernel_rfl
theorem la_nsf {a b:Qd}{o:Bool}{m n:Nat}{P:Nat->Opp}:(lfun laG nol 60 Try.f111 [qV a (.v (.slice none 0 0)),qV b (.sl 0 0 n)] [rowP o m P]).eval=bif a.k != b.k then some (Bo false,[some ⟨121,o,.row 5 m fun j=>[.int .i64 (P j).k,.int .i64 (P j).i,.int .i64 (P j).a,.int .i64 (P j).b,.string (P j).s]⟩]) else bif a.n != b.n then some (Bo false,[some ⟨121,o,.row 5 m fun j=>[.int .i64 (P j).k,.int .i64 (P j).i,.int .i64 (P j).a,.int .i64 (P j).b,.string (P j).s]⟩]) else bif !(a.p==b.p&&(a.t==b.t&&true)) then some (Bo false,[some ⟨121,o,.row 5 m fun j=>[.int .i64 (P j).k,.int .i64 (P j).i,.int .i64 (P j).a,.int .i64 (P j).b,.string (P j).s]⟩]) else bif a.x != b.x then some (Bo false,[some ⟨121,o,.row 5 m fun j=>[.int .i64 (P j).k,.int .i64 (P j).i,.int .i64 (P j).a,.int .i64 (P j).b,.string (P j).s]⟩]) else bif a.y != b.y then some (Bo false,[some ⟨121,o,.row 5 m fun j=>[.int .i64 (P j).k,.int .i64 (P j).i,.int .i64 (P j).a,.int .i64 (P j).b,.string (P j).s]⟩]) else bif ((0:Nat):Int) != ((n:Nat):Int) then some (Bo false,[some ⟨121,o,.row 5 m fun j=>[.int .i64 (P j).k,.int .i64 (P j).i,.int .i64 (P j).a,.int .i64 (P j).b,.string (P j).s]⟩]) else none:=by kernel_rfl
theorem la_snf {a b:Qd}{o:Bool}{m n:Nat}{P:Nat->Opp}:(lfun laG nol 60 Try.f111 [qV a (.sl 0 0 n),qV b (.v (.slice none 0 0))] [rowP o m P]).eval=bif a.k != b.k then some (Bo false,[some ⟨121,o,.row 5 m fun j=>[.int .i64 (P j).k,.int .i64 (P j).i,.int .i64 (P j).a,.int .i64 (P j).b,.string (P j).s]⟩]) else bif a.n != b.n then some (Bo false,[some ⟨121,o,.row 5 m fun j=>[.int .i64 (P j).k,.int .i64 (P j).i,.int .i64 (P j).a,.int .i64 (P j).b,.string (P j).s]⟩]) else bif !(a.p==b.p&&(a.t==b.t&&true)) then some (Bo false,[some ⟨121,o,.row 5 m fun j=>[.int .i64 (P j).k,.int .i64 (P j).i,.int .i64 (P j).a,.int .i64 (P j).b,.string (P j).s]⟩]) else bif a.x != b.x then some (Bo false,[some ⟨121,o,.row 5 m fun j=>[.int .i64 (P j).k,.int .i64 (P j).i,.int .i64 (P j).a,.int .i64 (P j).b,.string (P j).s]⟩]) else bif a.y != b.y then some (Bo false,[some ⟨121,o,.row 5 m fun j=>[.int .i64 (P j).k,.int .i64 (P j).i,.int .i64 (P j).a,.int .i64 (P j).b,.string (P j).s]⟩]) else bif ((n:Nat):Int) != ((0:Nat):Int) then some (Bo false,[some ⟨121,o,.row 5 m fun j=>[.int .i64 (P j).k,.int .i64 (P j).i,.int .i64 (P j).a,.int .i64 (P j).b,.string (P j).s]⟩]) else none:=by kernel_rfl
theorem la_ssf {a b:Qd}{o o2:Bool}{m n m2 n2:Nat}{P P2:Nat->Opp}:(lfun laG nol 60 Try.f111 [qV a (.sl 0 0 n),qV b (.sl 1 0 n2)] [rowP o m P,rowP o2 m2 P2]).eval=bif a.k != b.k then some (Bo false,[some ⟨121,o,.row 5 m fun j=>[.int .i64 (P j).k,.int .i64 (P j).i,.int .i64 (P j).a,.int .i64 (P j).b,.string (P j).s]⟩,some ⟨121,o2,.row 5 m2 fun j=>[.int .i64 (P2 j).k,.int .i64 (P2 j).i,.int .i64 (P2 j).a,.int .i64 (P2 j).b,.string (P2 j).s]⟩]) else bif a.n != b.n then some (Bo false,[some ⟨121,o,.row 5 m fun j=>[.int .i64 (P j).k,.int .i64 (P j).i,.int .i64 (P j).a,.int .i64 (P j).b,.string (P j).s]⟩,some ⟨121,o2,.row 5 m2 fun j=>[.int .i64 (P2 j).k,.int .i64 (P2 j).i,.int .i64 (P2 j).a,.int .i64 (P2 j).b,.string (P2 j).s]⟩]) else bif !(a.p==b.p&&(a.t==b.t&&true)) then some (Bo false,[some ⟨121,o,.row 5 m fun j=>[.int .i64 (P j).k,.int .i64 (P j).i,.int .i64 (P j).a,.int .i64 (P j).b,.string (P j).s]⟩,some ⟨121,o2,.row 5 m2 fun j=>[.int .i64 (P2 j).k,.int .i64 (P2 j).i,.int .i64 (P2 j).a,.int .i64 (P2 j).b,.string (P2 j).s]⟩]) else bif a.x != b.x then some (Bo false,[some ⟨121,o,.row 5 m fun j=>[.int .i64 (P j).k,.int .i64 (P j).i,.int .i64 (P j).a,.int .i64 (P j).b,.string (P j).s]⟩,some ⟨121,o2,.row 5 m2 fun j=>[.int .i64 (P2 j).k,.int .i64 (P2 j).i,.int .i64 (P2 j).a,.int .i64 (P2 j).b,.string (P2 j).s]⟩]) else bif a.y != b.y then some (Bo false,[some ⟨121,o,.row 5 m fun j=>[.int .i64 (P j).k,.int .i64 (P j).i,.int .i64 (P j).a,.int .i64 (P j).b,.string (P j).s]⟩,some ⟨121,o2,.row 5 m2 fun j=>[.int .i64 (P2 j).k,.int .i64 (P2 j).i,.int .i64 (P2 j).a,.int .i64 (P2 j).b,.string (P2 j).s]⟩]) else bif ((n:Nat):Int) != ((n2:Nat):Int) then some (Bo false,[some ⟨121,o,.row 5 m fun j=>[.int .i64 (P j).k,.int .i64 (P j).i,.int .i64 (P j).a,.int .i64 (P j).b,.string (P j).s]⟩,some ⟨121,o2,.row 5 m2 fun j=>[.int .i64 (P2 j).k,.int .i64 (P2 j).i,.int .i64 (P2 j).a,.int .i64 (P2 j).b,.string (P2 j).s]⟩]) else none:=by kernel_rfl
theorem la_nn {a b:Qd}:(lfun laG (tell (bodyOf Try.f111 0) (laN a b) (.exit 0,laN a b)) 60 Try.f111 [qV a (.v (.slice none 0 0)),qV b (.v (.slice none 0 0))] []).go (dN 33 0)=some ([!a.k != b.k,true,true,true,true,true,!a.n != b.n,true,true,true,true,true,!!(a.p==b.p&&(a.t==b.t&&true)),true,true,true,true,true,!a.x != b.x,true,true,true,true,true,!a.y != b.y,true,true,true,true,true,true,true,true,yes (wasS (bodyOf Try.f111 0) (laN a b))],Bo true,[]):=by kernel_rfl
theorem la_sn {a b:Qd}{o1:Bool}{m1:Nat}{P1:Nat->Opp}:(lfun laG (tell (bodyOf Try.f111 0) (laN1 a b o1 m1 P1) (.exit 0,laN1 a b o1 m1 P1)) 60 Try.f111 [qV a (.sl 0 0 0),qV b (.v (.slice none 0 0))] [rowP o1 m1 P1]).go (dN 33 0)=some ([!a.k != b.k,true,true,true,true,true,!a.n != b.n,true,true,true,true,true,!!(a.p==b.p&&(a.t==b.t&&true)),true,true,true,true,true,!a.x != b.x,true,true,true,true,true,!a.y != b.y,true,true,true,true,true,true,true,true,yes (wasS (bodyOf Try.f111 0) (laN1 a b o1 m1 P1))],Bo true,[some ⟨121,o1,.row 5 m1 fun j=>[.int .i64 (P1 j).k,.int .i64 (P1 j).i,.int .i64 (P1 j).a,.int .i64 (P1 j).b,.string (P1 j).s]⟩]):=by kernel_rfl
theorem la_ns {a b:Qd}{o1:Bool}{m1:Nat}{P1:Nat->Opp}:(lfun laG (tell (bodyOf Try.f111 0) (laN2 a b o1 m1 P1) (.exit 0,laN2 a b o1 m1 P1)) 60 Try.f111 [qV a (.v (.slice none 0 0)),qV b (.sl 0 0 0)] [rowP o1 m1 P1]).go (dN 33 0)=some ([!a.k != b.k,true,true,true,true,true,!a.n != b.n,true,true,true,true,true,!!(a.p==b.p&&(a.t==b.t&&true)),true,true,true,true,true,!a.x != b.x,true,true,true,true,true,!a.y != b.y,true,true,true,true,true,true,true,true,yes (wasS (bodyOf Try.f111 0) (laN2 a b o1 m1 P1))],Bo true,[some ⟨121,o1,.row 5 m1 fun j=>[.int .i64 (P1 j).k,.int .i64 (P1 j).i,.int .i64 (P1 j).a,.int .i64 (P1 j).b,.string (P1 j).s]⟩]):=by kernel_rfl
theorem la_st {a b:Qd}{o1 o2:Bool}{m1 m2:Nat}{P1 P2:Nat->Opp}{n n2:Nat}{i:Int}:(lfun laG (tell (bodyOf Try.f111 0) (laS a b o1 o2 m1 m2 P1 P2 n n2 0) (.exit 0,laS a b o1 o2 m1 m2 P1 P2 n n2 i)) 60 Try.f111 [qV a (.sl 0 0 n),qV b (.sl 1 0 n2)] [rowP o1 m1 P1,rowP o2 m2 P2]).go (dN 33 0)=some ([!a.k != b.k,true,true,true,true,true,!a.n != b.n,true,true,true,true,true,!!(a.p==b.p&&(a.t==b.t&&true)),true,true,true,true,true,!a.x != b.x,true,true,true,true,true,!a.y != b.y,true,true,true,true,true,true,true,!((n:Nat):Int) != ((n2:Nat):Int),yes (wasS (bodyOf Try.f111 0) (laS a b o1 o2 m1 m2 P1 P2 n n2 0))],Bo true,[some ⟨121,o1,.row 5 m1 fun j=>[.int .i64 (P1 j).k,.int .i64 (P1 j).i,.int .i64 (P1 j).a,.int .i64 (P1 j).b,.string (P1 j).s]⟩,some ⟨121,o2,.row 5 m2 fun j=>[.int .i64 (P2 j).k,.int .i64 (P2 j).i,.int .i64 (P2 j).a,.int .i64 (P2 j).b,.string (P2 j).s]⟩]):=by kernel_rfl
theorem la_sf {a b:Qd}{o1 o2:Bool}{m1 m2:Nat}{P1 P2:Nat->Opp}{n n2:Nat}{i:Int}:(lfun laG (tell (bodyOf Try.f111 0) (laS a b o1 o2 m1 m2 P1 P2 n n2 0) (.ret,laS a b o1 o2 m1 m2 P1 P2 n n2 i)) 60 Try.f111 [qV a (.sl 0 0 n),qV b (.sl 1 0 n2)] [rowP o1 m1 P1,rowP o2 m2 P2]).go (dN 33 0)=some ([!a.k != b.k,true,true,true,true,true,!a.n != b.n,true,true,true,true,true,!!(a.p==b.p&&(a.t==b.t&&true)),true,true,true,true,true,!a.x != b.x,true,true,true,true,true,!a.y != b.y,true,true,true,true,true,true,true,!((n:Nat):Int) != ((n2:Nat):Int),yes (wasS (bodyOf Try.f111 0) (laS a b o1 o2 m1 m2 P1 P2 n n2 0))],Bo false,[some ⟨121,o1,.row 5 m1 fun j=>[.int .i64 (P1 j).k,.int .i64 (P1 j).i,.int .i64 (P1 j).a,.int .i64 (P1 j).b,.string (P1 j).s]⟩,some ⟨121,o2,.row 5 m2 fun j=>[.int .i64 (P2 j).k,.int .i64 (P2 j).i,.int .i64 (P2 j).a,.int .i64 (P2 j).b,.string (P2 j).s]⟩]):=by kernel_rfl
end
section
open Go Go.RowKit
theorem ne_t {x y:Int}(h:x ≠ y):(x != y)=true:=by rw [bne_iff_ne];exact h
theorem ne_f {x y:Int}(h:x=y):(x != y)=false:=by rw [h];simp
theorem five_t {α:Type}{a b:Qd}{X F:α}(h:sameF a b):(bif a.k != b.k then F else bif a.n != b.n then F else bif !(a.p==b.p&&(a.t==b.t&&true)) then F else bif a.x != b.x then F else bif a.y != b.y then F else X)=X:=by
 obtain ⟨h1,h2,h3,h4,h5,h6⟩:=h
 rw [ne_f h1,ne_f h2,h3,h4,ne_f h5,ne_f h6]
 simp
theorem five_f {α:Type}{a b:Qd}{X F:α}(h:¬ sameF a b):(bif a.k != b.k then F else bif a.n != b.n then F else bif !(a.p==b.p&&(a.t==b.t&&true)) then F else bif a.x != b.x then F else bif a.y != b.y then F else X)=F:=by
 by_cases h1:a.k=b.k
 ·by_cases h2:a.n=b.n
  ·by_cases h3:a.p=b.p
   ·by_cases h4:a.t=b.t
    ·by_cases h5:a.x=b.x
     ·by_cases h6:a.y=b.y
      ·exact absurd ⟨h1,h2,h3,h4,h5,h6⟩ h
      ·rw [ne_t h6];simp
     ·rw [ne_t h5];simp
    ·rw [nb h4];simp
   ·rw [nb h3];simp
  ·rw [ne_t h2];simp
 ·rw [ne_t h1];rfl
theorem la_loop_t {a b:Qd}{o1 o2:Bool}{m1 m2:Nat}{P1 P2:Nat->Opp}{n:Nat}(h1:n<=m1) (h2:n<=m2) (hn:n<2^60) (hp:∀ t,t<n->P1 t=P2 t) :
  CodeSem laG 2 (.loop (bodyOf Try.f111 0)) (laS a b o1 o2 m1 m2 P1 P2 n n 0) (.exit 0,laS a b o1 o2 m1 m2 P1 P2 n n (n:Nat)):=by
 refine loop_of (fun i=>laS a b o1 o2 m1 m2 P1 P2 n n (i:Nat)) n (by simp) ?_ fun j hj=>?_
 ·refine rT_sem laG_ok noLoopsS ((rT_go la_e ?_).trans rfl)
  repeat' (first|exact AllT.nil|refine AllT.cons ?_ ?_)
  all_goals first|(with_reducible rfl)|(rw [decide_eq_false (by omega)];rfl)
 ·have e1:=succ64 (j:=j) (by omega)
  refine rT_sem laG_ok noLoopsS ((rT_go la_go ?_).trans ?_)
  ·simp only [Int.toNat_natCast,Nat.zero_add]
   have e2:=(eqO_iff (P1 j) (P2 j)).2 (hp j hj)
   repeat' (first|exact AllT.nil|refine AllT.cons ?_ ?_)
   all_goals first|(with_reducible rfl)|exact decide_eq_true (by omega)|(rw [e2];rfl)
  ·simp only [Int.toNat_natCast,e1]
   rfl
theorem la_loop_f {a b:Qd}{o1 o2:Bool}{m1 m2:Nat}{P1 P2:Nat->Opp}{n t:Nat}(h1:n<=m1) (h2:n<=m2) (hn:n<2^60) (ht:t<n) (hd:¬ P1 t=P2 t) (hp:∀ s,s<t->P1 s=P2 s) :
  CodeSem laG 2 (.loop (bodyOf Try.f111 0)) (laS a b o1 o2 m1 m2 P1 P2 n n 0) (.ret,laS a b o1 o2 m1 m2 P1 P2 n n (t:Nat)):=by
 refine loop_of (fun i=>laS a b o1 o2 m1 m2 P1 P2 n n (i:Nat)) t (by simp) ?_ fun j hj=>?_
 ·refine rT_sem laG_ok noLoopsS ((rT_go la_df ?_).trans ?_)
  ·simp only [Int.toNat_natCast,Nat.zero_add]
   have e2:(((P1 t).k==(P2 t).k&&((P1 t).i==(P2 t).i&&((P1 t).a==(P2 t).a&&((P1 t).b==(P2 t).b&&((P1 t).s==(P2 t).s&&true))))):Bool)=false:=by
    rw [<-Bool.not_eq_true,eqO_iff];exact hd
   repeat' (first|exact AllT.nil|refine AllT.cons ?_ ?_)
   all_goals first|(with_reducible rfl)|exact decide_eq_true (by omega)|(rw [e2];rfl)
  ·rfl
 ·have e1:=succ64 (j:=j) (by omega)
  refine rT_sem laG_ok noLoopsS ((rT_go la_go ?_).trans ?_)
  ·simp only [Int.toNat_natCast,Nat.zero_add]
   have e2:=(eqO_iff (P1 j) (P2 j)).2 (hp j hj)
   repeat' (first|exact AllT.nil|refine AllT.cons ?_ ?_)
   all_goals first|(with_reducible rfl)|exact decide_eq_true (by omega)|(rw [e2];rfl)
  ·simp only [Int.toNat_natCast,e1]
   rfl
theorem laF_ok:SpecOk Try.prog 111 sqF:=by
 refine knownS nilK Try.func111 fun args h r he=>?_
 unfold sqF at he
 split at he
 ·rename_i k1 n1 p1 t1 x1 y1 k2 n2 p2 t2 x2 y2
  cases he
  by_cases hs:sameF ⟨k1,n1,p1,t1,x1,y1,[]⟩ ⟨k2,n2,p2,t2,x2,y2,[]⟩
  ·obtain ⟨h1,h2,h3,h4,h5,h6⟩:=hs
   refine ⟨(fun k=>if k=4 then laK else []),[],60,_,tell_ok (LoopR.stop (by simp) (rT_sem laG_ok noLoopsS (rT_go (lan_e (a:=⟨k1,n1,p1,t1,x1,y1,[]⟩) (b:=⟨k2,n2,p2,t2,x2,y2,[]⟩)) ?_))).sem,(Tr.go_eval la_nn ?_).trans ?_⟩
   ·repeat' (first|exact AllT.nil|refine AllT.cons ?_ ?_)
    all_goals rfl
   ·simp only at h1 h2 h3 h4 h5 h6
    subst h1;subst h2;subst h3;subst h4;subst h5;subst h6
    repeat' (first|exact AllT.nil|refine AllT.cons ?_ ?_)
    all_goals first|rfl|exact yes_of ⟨rfl,rfl⟩|simp
   ·rw [yes_of (show sameF ⟨k1,n1,p1,t1,x1,y1,[]⟩ ⟨k2,n2,p2,t2,x2,y2,[]⟩ from ⟨h1,h2,h3,h4,h5,h6⟩)];all_goals rfl
  ·refine ⟨(fun k=>if k=4 then laK else []),[],60,nol,noLoopsS,(la_nnf (a:=⟨k1,n1,p1,t1,x1,y1,[]⟩) (b:=⟨k2,n2,p2,t2,x2,y2,[]⟩)).trans ?_⟩
   refine (five_f hs).trans ?_
   rw [yes_no hs]
 ·rename_i k1 n1 p1 t1 x1 y1 k2 n2 p2 t2 x2 y2 c o m f
  obtain ⟨h1,he'⟩:=Tr.eval_ask.1 he
  cases he'
  have e2:some ⟨121,o,.row 5 m f⟩=rowP o m fun j=>decO (f j):=by rw [rowP,<-h1]
  rw [e2]
  by_cases hs:sameF ⟨k1,n1,p1,t1,x1,y1,[]⟩ ⟨k2,n2,p2,t2,x2,y2,[]⟩
  ·cases c with
   | zero=>
    obtain ⟨h1,h2,h3,h4,h5,h6⟩:=hs
    refine ⟨(fun k=>if k=4 then laK else []),[],60,_,tell_ok (LoopR.stop (by simp) (rT_sem laG_ok noLoopsS (rT_go (lan2_e (a:=⟨k1,n1,p1,t1,x1,y1,[]⟩) (b:=⟨k2,n2,p2,t2,x2,y2,[]⟩) (o1:=o) (m1:=m) (P1:=fun j=>decO (f j))) ?_))).sem,(Tr.go_eval la_ns ?_).trans ?_⟩
    ·repeat' (first|exact AllT.nil|refine AllT.cons ?_ ?_)
     all_goals rfl
    ·simp only at h1 h2 h3 h4 h5 h6
     subst h1;subst h2;subst h3;subst h4;subst h5;subst h6
     repeat' (first|exact AllT.nil|refine AllT.cons ?_ ?_)
     all_goals first|rfl|exact yes_of ⟨rfl,rfl⟩|simp
    ·rw [yes_of (show sameF ⟨k1,n1,p1,t1,x1,y1,[]⟩ ⟨k2,n2,p2,t2,x2,y2,[]⟩/\0=0 from ⟨⟨h1,h2,h3,h4,h5,h6⟩,rfl⟩)];rfl
   | succ c=>
    refine ⟨(fun k=>if k=4 then laK else []),[],60,nol,noLoopsS,(la_nsf (a:=⟨k1,n1,p1,t1,x1,y1,[]⟩) (b:=⟨k2,n2,p2,t2,x2,y2,[]⟩)).trans ?_⟩
    refine (five_t hs).trans ?_
    rw [yes_no fun h=>Nat.succ_ne_zero c h.2,ne_t (by omega)];rfl
  ·refine ⟨(fun k=>if k=4 then laK else []),[],60,nol,noLoopsS,(la_nsf (a:=⟨k1,n1,p1,t1,x1,y1,[]⟩) (b:=⟨k2,n2,p2,t2,x2,y2,[]⟩)).trans ?_⟩
   refine (five_f hs).trans ?_
   rw [yes_no fun h=>hs h.1];rfl
 ·rename_i k1 n1 p1 t1 x1 y1 c k2 n2 p2 t2 x2 y2 o m f
  obtain ⟨h1,he'⟩:=Tr.eval_ask.1 he
  cases he'
  have e2:some ⟨121,o,.row 5 m f⟩=rowP o m fun j=>decO (f j):=by rw [rowP,<-h1]
  rw [e2]
  by_cases hs:sameF ⟨k1,n1,p1,t1,x1,y1,[]⟩ ⟨k2,n2,p2,t2,x2,y2,[]⟩
  ·cases c with
   | zero=>
    obtain ⟨h1,h2,h3,h4,h5,h6⟩:=hs
    refine ⟨(fun k=>if k=4 then laK else []),[],60,_,tell_ok (LoopR.stop (by simp) (rT_sem laG_ok noLoopsS (rT_go (lan1_e (a:=⟨k1,n1,p1,t1,x1,y1,[]⟩) (b:=⟨k2,n2,p2,t2,x2,y2,[]⟩) (o1:=o) (m1:=m) (P1:=fun j=>decO (f j))) ?_))).sem,(Tr.go_eval la_sn ?_).trans ?_⟩
    ·repeat' (first|exact AllT.nil|refine AllT.cons ?_ ?_)
     all_goals rfl
    ·simp only at h1 h2 h3 h4 h5 h6
     subst h1;subst h2;subst h3;subst h4;subst h5;subst h6
     repeat' (first|exact AllT.nil|refine AllT.cons ?_ ?_)
     all_goals first|rfl|exact yes_of ⟨rfl,rfl⟩|simp
    ·rw [yes_of (show sameF ⟨k1,n1,p1,t1,x1,y1,[]⟩ ⟨k2,n2,p2,t2,x2,y2,[]⟩/\0=0 from ⟨⟨h1,h2,h3,h4,h5,h6⟩,rfl⟩)];rfl
   | succ c=>
    refine ⟨(fun k=>if k=4 then laK else []),[],60,nol,noLoopsS,(la_snf (a:=⟨k1,n1,p1,t1,x1,y1,[]⟩) (b:=⟨k2,n2,p2,t2,x2,y2,[]⟩)).trans ?_⟩
    refine (five_t hs).trans ?_
    rw [yes_no fun h=>Nat.succ_ne_zero c h.2,ne_t (by omega)];rfl
  ·refine ⟨(fun k=>if k=4 then laK else []),[],60,nol,noLoopsS,(la_snf (a:=⟨k1,n1,p1,t1,x1,y1,[]⟩) (b:=⟨k2,n2,p2,t2,x2,y2,[]⟩)).trans ?_⟩
   refine (five_f hs).trans ?_
   rw [yes_no fun h=>hs h.1];rfl
 ·rename_i k1 n1 p1 t1 x1 y1 c1 k2 n2 p2 t2 x2 y2 c2 o1 m1 f1 o2 m2 f2
  obtain ⟨⟨g1,g2,g3,g4,g5⟩,he'⟩:=Tr.eval_ask.1 he
  cases he'
  have e1:some ⟨121,o1,.row 5 m1 f1⟩=rowP o1 m1 fun j=>decO (f1 j):=by rw [rowP,<-g4]
  have e2:some ⟨121,o2,.row 5 m2 f2⟩=rowP o2 m2 fun j=>decO (f2 j):=by rw [rowP,<-g5]
  rw [e1,e2]
  by_cases hs:sameF ⟨k1,n1,p1,t1,x1,y1,[]⟩ ⟨k2,n2,p2,t2,x2,y2,[]⟩
  ·by_cases hn:c1=c2
   ·subst hn
    rcases first_diff (fun t=>decO (f1 t)=decO (f2 t)) c1 with hp | ⟨t,ht,hd,hp⟩
    ·refine ⟨(fun k=>if k=4 then laK else []),[],60,_,tell_ok (la_loop_t (a:=⟨k1,n1,p1,t1,x1,y1,[]⟩) (b:=⟨k2,n2,p2,t2,x2,y2,[]⟩) (o1:=o1) (o2:=o2) (m1:=m1) (m2:=m2) (P1:=fun j=>decO (f1 j)) (P2:=fun j=>decO (f2 j)) g1 g2 g3 hp),(Tr.go_eval la_st ?_).trans ?_⟩
     ·obtain ⟨h1,h2,h3,h4,h5,h6⟩:=hs
      simp only at h1 h2 h3 h4 h5 h6
      subst h1;subst h2;subst h3;subst h4;subst h5;subst h6
      repeat' (first|exact AllT.nil|refine AllT.cons ?_ ?_)
      all_goals first|rfl|exact yes_of ⟨rfl,rfl⟩|simp
     ·rw [yes_of ⟨hs,rfl,hp⟩];rfl
    ·refine ⟨(fun k=>if k=4 then laK else []),[],60,_,tell_ok (la_loop_f (a:=⟨k1,n1,p1,t1,x1,y1,[]⟩) (b:=⟨k2,n2,p2,t2,x2,y2,[]⟩) (o1:=o1) (o2:=o2) (m1:=m1) (m2:=m2) (P1:=fun j=>decO (f1 j)) (P2:=fun j=>decO (f2 j)) g1 g2 g3 ht hd hp),(Tr.go_eval la_sf ?_).trans ?_⟩
     ·obtain ⟨h1,h2,h3,h4,h5,h6⟩:=hs
      simp only at h1 h2 h3 h4 h5 h6
      subst h1;subst h2;subst h3;subst h4;subst h5;subst h6
      repeat' (first|exact AllT.nil|refine AllT.cons ?_ ?_)
      all_goals first|rfl|exact yes_of ⟨rfl,rfl⟩|simp
     ·rw [yes_no fun h=>hd (h.2.2 t ht)];rfl
   ·refine ⟨(fun k=>if k=4 then laK else []),[],60,nol,noLoopsS,(la_ssf (a:=⟨k1,n1,p1,t1,x1,y1,[]⟩) (b:=⟨k2,n2,p2,t2,x2,y2,[]⟩)).trans ?_⟩
    refine (five_t hs).trans ?_
    rw [yes_no fun h=>hn h.2.1,ne_t (by omega)];rfl
  ·refine ⟨(fun k=>if k=4 then laK else []),[],60,nol,noLoopsS,(la_ssf (a:=⟨k1,n1,p1,t1,x1,y1,[]⟩) (b:=⟨k2,n2,p2,t2,x2,y2,[]⟩)).trans ?_⟩
   refine (five_f hs).trans ?_
   rw [yes_no fun h=>hs h.1];rfl
 ·cases he
end
section
open Go Go.RowKit
noncomputable def KAW:Known:=[(101,reF),(105,anF),(107,qyF),(109,ryF)]
theorem KAW_ok:KnownOk KAW:=consK reF_ok (by kernel_rfl) (consK anF_ok (by kernel_rfl) (consK qyF_ok (by kernel_rfl) (consK ryF_ok (by kernel_rfl) nilK)))
noncomputable def awG:Ctx2:=GT KAW (fun _=>[]) 0 []
theorem aw_t:(lfun awG nol 60 Try.f102 [] []).go (dN 9 247)=some ([yes (reqOk { k:=4,n:=258,p:=(-1:Int),t:=0,x:=0,y:=0,o:=[] }),yes (18<=18/\rng (gL [1,1,6,0,0,0,3,0,0,0,0,255,255,255,255,0,1,97])),yes ((rqR (gL [1,1,6,0,0,0,3,0,0,0,0,255,255,255,255,0,1,97]) 0 18).snd=([],false)),true,yes (anOk { k:=2,e:=9,a:=(-1:Int),n:=0,p:=0,t:=0,x:=0,y:=0,w:=0,h:=0 }),yes (5<=5/\rng (gL [5,255,255,255,254])),yes ((rrR (gL [5,255,255,255,254]) 0 5).snd=([],false)),yes (2<=2/\rng (gL [2,0])),!yes ((rqR (gL [2,0]) 0 2).snd=([],false)),true,true,true,true,true,true,true,true,true,true,true,true,true,true,true,true,true,true,true,true,true,true,true,true,true,true,true,true,true,true,true,true,true,true,true,true,true,true,true,true,true,true],Bo true,[]):=by kernel_rfl
end
section
open Go Go.RowKit
def byteLb (L:List Int):Bool:=L.all fun x=>decide (0<=x)&&decide (x<256)
theorem byteLb_ok {L:List Int}(h:byteLb L=true):byteL L:=fun x hx=>by
 unfold byteLb at h
 rw [List.all_eq_true] at h
 have:=h x hx
 rw [Bool.and_eq_true,decide_eq_true_eq,decide_eq_true_eq] at this
 exact this
noncomputable def awF:Spec:=fun args h=>match args,h with
 | [],[]=>.ret (Bo true,[])
 | _,_=>.fail
theorem awF_ok:SpecOk Try.prog 102 awF:=by
 refine knownS KAW_ok Try.func102 fun args h r he=>?_
 unfold awF at he
 split at he
 ·cases he
  refine ⟨(fun _=>[]),[],60,nol,noLoopsS,(Tr.go_eval aw_t ?_).trans rfl⟩
  refine AllT.cons (yes_of ⟨by kernel_rfl,by kernel_rfl⟩) ?_
  refine AllT.cons (yes_of ⟨Nat.le_refl _,rng_gL (byteLb_ok (by kernel_rfl))⟩) ?_
  refine AllT.cons (yes_of (by kernel_rfl)) ?_
  refine AllT.cons rfl ?_
  refine AllT.cons (yes_of ⟨by kernel_rfl,by kernel_rfl⟩) ?_
  refine AllT.cons (yes_of ⟨Nat.le_refl _,rng_gL (byteLb_ok (by kernel_rfl))⟩) ?_
  refine AllT.cons (yes_of (by kernel_rfl)) ?_
  refine AllT.cons (yes_of ⟨Nat.le_refl _,rng_gL (byteLb_ok (by kernel_rfl))⟩) ?_
  refine AllT.cons (not_eq (yes_no ?_)) ?_
  ·intro h
   have e:(rqR (gL [2,0]) 0 2).2=([0],false):=by kernel_rfl
   rw [e] at h
   cases h
  ·repeat' (first|exact AllT.nil|refine AllT.cons ?_ ?_)
   all_goals rfl
 ·cases he
end
section
open Go Go.RowKit
noncomputable def KTE:Known:=[(101,reU),(104,reU),(105,anU),(106,anU),(107,qyW eEr),(108,qyW eBo),(109,ryW eEr),(110,ryW eBo),(111,sqF),(112,lqU),(102,awF),(103,smallF)]
theorem KTE_ok:KnownOk KTE:=consK (reU_ok reF0_ok) (by kernel_rfl) (consK (reU_ok xrF_ok) (by kernel_rfl) (consK (anU_ok anF_ok) (by kernel_rfl) (consK (anU_ok xaF_ok) (by kernel_rfl) (consK qyU_ok (by kernel_rfl) (consK xqU_ok (by kernel_rfl) (consK ryU_ok (by kernel_rfl) (consK xpU_ok (by kernel_rfl) (consK laF_ok (by kernel_rfl) (consK lqU_ok (by kernel_rfl) (consK awF_ok (by kernel_rfl) (consK smallF_ok (by kernel_rfl) nilK)))))))))))
abbrev teK:List (Nat × Option TypeId):=[(2,none),(3,none),(4,none),(5,none),(6,none),(7,none),(8,none),(15,none)]
noncomputable def teG:Ctx2:=GT KTE (fun k=>if k=4 then teK else []) 0 []
theorem teG_ok:XOk teG:=GT_ok KTE_ok _ _ _
def bxA (q:Qd) (s:AC):Option ABlk:=some ⟨128,true,.one [i64 q.k,i64 q.n,i64 q.p,i64 q.t,i64 q.x,i64 q.y,s]⟩
def bxR (a:Rd):Option ABlk:=some ⟨131,true,.one [i64 a.k,i64 a.e,i64 a.a,i64 a.n,i64 a.p,i64 a.t,i64 a.x,i64 a.y,i64 a.w,i64 a.h]⟩
def teS0 (q:Qd) (m:Nat) (P:Nat->Opp) (a:Rd) (r:Nat) (B:Nat->Int) (n w y:Int) (K:Nat) (f:Nat->Int):St:=
 ⟨slots 179 [(2,.c (.sl 1 0 r)),(3,I64 n),(4,.c (.sl 2 0 K)),(5,I64 w),(6,.c (.v (.int .u8 y))),(7,.c (.ptr 3 0 0)),(8,.c (.ptr 4 0 0)),(15,I64 0)],[rowP false m P,rowU false r B,rowJ false K f,bxA q (.sl 0 0 m),bxR a]⟩
def teS1 (m0:Nat) (P0:Nat->Opp) (r0:Nat) (B0:Nat->Int) (q:Qd) (m:Nat) (P:Nat->Opp) (a:Rd) (r s:Nat) (B:Nat->Int) (n w y:Int) (K:Nat) (f:Nat->Int) (i:Int):St:=
 ⟨slots 179 [(2,.c (.sl 3 0 r)),(3,I64 n),(4,.c (.sl 2 0 K)),(5,I64 w),(6,.c (.v (.int .u8 y))),(7,.c (.ptr 4 0 0)),(8,.c (.ptr 5 0 0)),(15,I64 i)],[rowP false m0 P0,rowU false r0 B0,rowJ false K f,rowU true s B,bxA q (.sl 6 0 m),bxR a,rowP true m P]⟩
def qP (q:Qd) (P:Nat->Opp) (m:Nat):Qd:=⟨q.k,q.n,q.p,q.t,q.x,q.y,opsP P m⟩
noncomputable def oqB (B:Nat->Int) (r:Nat):Qd:=oQ (rqR B 0 r)
noncomputable def orB (B:Nat->Int) (r:Nat):Rd:=oR (rrR B 0 r)
noncomputable def yq (B:Nat->Int) (r:Nat):Bool:=yes ((rqR B 0 r).2=([],false))
noncomputable def yr (B:Nat->Int) (r:Nat):Bool:=yes ((rrR B 0 r).2=([],false))
noncomputable def lqP (K:Nat) (f:Nat->Int):Nat->Opp:=opsL (fun j=>f (0+j)) (osN K)
noncomputable def lqX (n:Int) (K:Nat) (f:Nat->Int):Qd:=⟨(lqD n).k,(lqD n).n,(lqD n).p,(lqD n).t,(lqD n).x,(lqD n).y,opsP (lqP K f) (lqC n K)⟩
noncomputable def kW0 (k:Int) (P:Nat->Opp) (m:Nat):Bool:=yes (((fun j=>encO (P j))=fun j=>encO (P j))/\(k=1->m=m/\wqLen (fun j=>P j) 2 m<=maxCells))
noncomputable def kq (Q:Qd):Bool:=!!yes (reqOk Q)==yes (reqOk Q)
noncomputable def ka (a:Rd):Bool:=!!yes (anOk a)==yes (anOk a)
def kl (L:List Int):Bool:=decide (0+L.length<=L.length)
def ku (L:List Int):Bool:=allB L.length fun k=>isU8 (ub (gL L (0+k)))
def kt (L:List Int):Bool:=!!(bytesOf (fun j=>ub (gL L j)) 0 L.length).toList==(bytesOf (fun j=>ub (gL L j)) 0 L.length).toList
noncomputable def kr (r s:Nat) (B:Nat->Int):Bool:=yes (r<=s/\r<2^20/\((fun j=>ub (B j))=fun j=>ub (B j))/\rng fun j=>B j)
noncomputable def ks (Q:Qd):Bool:=yes (Q.o.length<=Q.o.length/\Q.o.length<=Q.o.length/\Q.o.length<2^60/\((fun j=>encO (gP Q.o j))=fun j=>encO (decO (encO (gP Q.o j))))/\(fun j=>encO (gP Q.o j))=fun j=>encO (decO (encO (gP Q.o j))))
noncomputable def kz (Q:Qd):Bool:=!!yes (sameF { k:=Q.k,n:=Q.n,p:=Q.p,t:=Q.t,x:=Q.x,y:=Q.y,o:=[] } { k:=Q.k,n:=Q.n,p:=Q.p,t:=Q.t,x:=Q.x,y:=Q.y,o:=[] }/\Q.o.length=Q.o.length/\∀ (t:Nat),t<Q.o.length->decO (encO (gP Q.o t))=decO (encO (gP Q.o t)))
def kb (b:Bool):Bool:=!!((bif b then (0:Int) else (16:Int))==(0:Int))==b
def kn (b:Bool):Bool:=(bif b then (0:Int) else (16:Int)) != (0:Int)
def km (b:Bool):Bool:=!(bif b then (0:Int) else (16:Int)) != (16:Int)
def ko (a:Rd):Bool:=!!(a.k==a.k&&(a.e==a.e&&(a.a==a.a&&(a.n==a.n&&(a.p==a.p&&(a.t==a.t&&(a.x==a.x&&(a.y==a.y&&(a.w==a.w&&(a.h==a.h&&true))))))))))
noncomputable def teB (n:Int) (K:Nat) (f:Nat->Int):Nat->Int:=fun k=>bif decide (k<(bQ (lqX n K f)).length) then gL (bQ (lqX n K f)) (0+k) else (0:Int)
noncomputable def teC (n w y:Int) (K:Nat) (f:Nat->Int):Nat->Int:=fun k=>bif decide (k=0+((and64 w (65535:Int)).tmod ((0+(bQ (lqX n K f)).length:Nat):Int)).toNat) then IntKind.u8.wrap (((BitVec.ofInt IntKind.u8.bits (bif decide (0+((and64 w (65535:Int)).tmod ((0+(bQ (lqX n K f)).length:Nat):Int)).toNat<(bQ (lqX n K f)).length) then gL (bQ (lqX n K f)) (0+(0+((and64 w (65535:Int)).tmod ((0+(bQ (lqX n K f)).length:Nat):Int)).toNat)) else (0:Int)) ^^^ BitVec.ofInt IntKind.u8.bits y).toNat:Nat):Int) else bif decide (k<(bQ (lqX n K f)).length) then gL (bQ (lqX n K f)) (0+k) else (0:Int)
def kK1 (L:List Int):Bool:=decide (((0+L.length:Nat):Int) ≠ (0:Int))
def kK2 (w:Int) (L:List Int):Bool:=decide ((0:Int)<=(and64 w (65535:Int)).tmod ((0+L.length:Nat):Int))
def kK3 (w:Int) (L:List Int):Bool:=decide ((and64 w (65535:Int)).tmod ((0+L.length:Nat):Int)<((0+L.length:Nat):Int))
def kK4 (w:Int) (L:List Int):Bool:=decide (0+((and64 w (65535:Int)).tmod ((0+L.length:Nat):Int)).toNat<L.length)
noncomputable def kK5 (K:Nat) (f:Nat->Int):Bool:=yes (K=K/\(fun j=>v1 (f j))=fun j=>v1 (f j))
def kK7 (L:List Int):Bool:=decide ((0+L.length)*1<=maxCells)
def kK8 (y:Int):Bool:=IntKind.u8.wrap (((BitVec.ofInt IntKind.u8.bits y &&& BitVec.ofInt IntKind.u8.bits (3:Int)).toNat:Nat):Int)==(3:Int)
def kK9 (L:List Int):Bool:=decInt (0:Int) (w64 (((0+L.length:Nat):Int)-(1:Int))) (0+L.length)
theorem te_0tt {q:Qd}{m:Nat}{P:Nat->Opp}{a:Rd}{r:Nat}{B:Nat->Int}{n w y:Int}{K:Nat}{f:Nat->Int}:(rT teG nol 3 54 (bodyOf Try.f38 0) teK teK (teS0 q m P a r B n w y K f)).go (dN 70 575019624620269004295) =
 some ([true,kW0 q.k P m,kW0 q.k P m,kq (qP q P m),true,true,true,ka a,true,kl (bQ (qP q P m)),ku (bQ (qP q P m)),true,true,kl (bQ (qP q P m)),ku (bQ (qP q P m)),true,true,kt (bQ (qP q P m)),true,kl (bR a),ku (bR a),true,true,kl (bR a),ku (bR a),true,true,kt (bR a),kr r r B,kr r r B,kr r r B,kr r r B,ks (oqB B r),kz (oqB B r),true,true,true,true,kb (yq B r),true,true,kn (yq B r),true,true,true,true,km (yq B r),true,true,true,ko (orB B r),true,true,true,true,kb (yr B r),true,true,kn (yr B r),true,true,true,true,km (yr B r),kK5 K f,kW0 (lqD n).k (lqP K f) (lqC n K),true,kl (bQ (lqX n K f)),kK7 (bQ (lqX n K f)),true],Ex.normal,(teS1 m P r B (lqD n) (lqC n K) (lqP K f) a (0+(bQ (lqX n K f)).length) (bQ (lqX n K f)).length (teB n K f) n w y K f (w64 ((0:Int)+(1:Int))))):=by kernel_rfl
theorem te_1ttt {m0:Nat}{P0:Nat->Opp}{r0:Nat}{B0:Nat->Int}{q:Qd}{m:Nat}{P:Nat->Opp}{a:Rd}{r s:Nat}{B:Nat->Int}{n w y:Int}{K:Nat}{f:Nat->Int}:(rT teG nol 3 54 (bodyOf Try.f38 0) teK teK (teS1 m0 P0 r0 B0 q m P a r s B n w y K f 1)).go (dN 64 3170558335272904199) =
 some ([true,kW0 q.k P m,kW0 q.k P m,kq (qP q P m),true,true,true,ka a,true,kl (bQ (qP q P m)),ku (bQ (qP q P m)),true,true,kl (bQ (qP q P m)),ku (bQ (qP q P m)),true,true,kt (bQ (qP q P m)),true,kl (bR a),ku (bR a),true,true,kl (bR a),ku (bR a),true,true,kt (bR a),kr r s B,kr r s B,kr r s B,kr r s B,ks (oqB B r),kz (oqB B r),true,true,true,true,kb (yq B r),true,true,kn (yq B r),true,true,true,true,km (yq B r),true,true,true,ko (orB B r),true,true,true,true,kb (yr B r),true,true,kn (yr B r),true,true,true,true,km (yr B r),kK5 K f,kW0 (lqD n).k (lqP K f) (lqC n K),true,kl (bQ (lqX n K f)),kK7 (bQ (lqX n K f)),true,kK1 (bQ (lqX n K f)),kK2 w (bQ (lqX n K f)),kK3 w (bQ (lqX n K f)),kK4 w (bQ (lqX n K f)),kK2 w (bQ (lqX n K f)),kK3 w (bQ (lqX n K f)),kK4 w (bQ (lqX n K f)),kK8 y,kK9 (bQ (lqX n K f))],Ex.normal,(teS1 m0 P0 r0 B0 (lqD n) (lqC n K) (lqP K f) (orB B r) ((w64 (((0+(bQ (lqX n K f)).length:Nat):Int)-(1:Int))).toNat) (bQ (lqX n K f)).length (teC n w y K f) n w y K f (w64 ((1:Int)+(1:Int))))):=by kernel_rfl
theorem te_1ttf {m0:Nat}{P0:Nat->Opp}{r0:Nat}{B0:Nat->Int}{q:Qd}{m:Nat}{P:Nat->Opp}{a:Rd}{r s:Nat}{B:Nat->Int}{n w y:Int}{K:Nat}{f:Nat->Int}:(rT teG nol 3 54 (bodyOf Try.f38 0) teK teK (teS1 m0 P0 r0 B0 q m P a r s B n w y K f 1)).go (dN 78 151100451266090210190855) =
 some ([true,kW0 q.k P m,kW0 q.k P m,kq (qP q P m),true,true,true,ka a,true,kl (bQ (qP q P m)),ku (bQ (qP q P m)),true,true,kl (bQ (qP q P m)),ku (bQ (qP q P m)),true,true,kt (bQ (qP q P m)),true,kl (bR a),ku (bR a),true,true,kl (bR a),ku (bR a),true,true,kt (bR a),kr r s B,kr r s B,kr r s B,kr r s B,ks (oqB B r),kz (oqB B r),true,true,true,true,kb (yq B r),true,true,kn (yq B r),true,true,true,true,km (yq B r),true,true,true,ko (orB B r),true,true,true,true,kb (yr B r),true,true,kn (yr B r),true,true,true,true,km (yr B r),kK5 K f,kW0 (lqD n).k (lqP K f) (lqC n K),true,kl (bQ (lqX n K f)),kK7 (bQ (lqX n K f)),true,kK1 (bQ (lqX n K f)),kK2 w (bQ (lqX n K f)),kK3 w (bQ (lqX n K f)),kK4 w (bQ (lqX n K f)),kK2 w (bQ (lqX n K f)),kK3 w (bQ (lqX n K f)),kK4 w (bQ (lqX n K f)),!kK8 y],Ex.normal,(teS1 m0 P0 r0 B0 (lqD n) (lqC n K) (lqP K f) (orB B r) (0+(bQ (lqX n K f)).length) (bQ (lqX n K f)).length (teC n w y K f) n w y K f (w64 ((1:Int)+(1:Int))))):=by kernel_rfl
theorem te_2tt {m0:Nat}{P0:Nat->Opp}{r0:Nat}{B0:Nat->Int}{q:Qd}{m:Nat}{P:Nat->Opp}{a:Rd}{r s:Nat}{B:Nat->Int}{n w y:Int}{K:Nat}{f:Nat->Int}:(rT teG nol 3 54 (bodyOf Try.f38 0) teK teK (teS1 m0 P0 r0 B0 q m P a r s B n w y K f 2)).go (dN 70 575019624620269004295) =
 some ([true,kW0 q.k P m,kW0 q.k P m,kq (qP q P m),true,true,true,ka a,true,kl (bQ (qP q P m)),ku (bQ (qP q P m)),true,true,kl (bQ (qP q P m)),ku (bQ (qP q P m)),true,true,kt (bQ (qP q P m)),true,kl (bR a),ku (bR a),true,true,kl (bR a),ku (bR a),true,true,kt (bR a),kr r s B,kr r s B,kr r s B,kr r s B,ks (oqB B r),kz (oqB B r),true,true,true,true,kb (yq B r),true,true,kn (yq B r),true,true,true,true,km (yq B r),true,true,true,ko (orB B r),true,true,true,true,kb (yr B r),true,true,kn (yr B r),true,true,true,true,km (yr B r),kK5 K f,kW0 (lqD n).k (lqP K f) (lqC n K),true,kl (bQ (lqX n K f)),kK7 (bQ (lqX n K f)),true],Ex.normal,(teS1 m0 P0 r0 B0 (lqD n) (lqC n K) (lqP K f) a (0+(bQ (lqX n K f)).length) (bQ (lqX n K f)).length (teB n K f) n w y K f (w64 ((2:Int)+(1:Int))))):=by kernel_rfl
theorem te_0tf {q:Qd}{m:Nat}{P:Nat->Opp}{a:Rd}{r:Nat}{B:Nat->Int}{n w y:Int}{K:Nat}{f:Nat->Int}:(rT teG nol 3 54 (bodyOf Try.f38 0) teK teK (teS0 q m P a r B n w y K f)).go (dN 70 571849090482600175111) =
 some ([true,kW0 q.k P m,kW0 q.k P m,kq (qP q P m),true,true,true,ka a,true,kl (bQ (qP q P m)),ku (bQ (qP q P m)),true,true,kl (bQ (qP q P m)),ku (bQ (qP q P m)),true,true,kt (bQ (qP q P m)),true,kl (bR a),ku (bR a),true,true,kl (bR a),ku (bR a),true,true,kt (bR a),kr r r B,kr r r B,kr r r B,kr r r B,ks (oqB B r),kz (oqB B r),true,true,true,true,kb (yq B r),true,true,kn (yq B r),true,true,true,true,km (yq B r),true,true,true,ko (orB B r),true,true,true,true,kb (yr B r),true,true,!kn (yr B r),true,true,true,true,true,kK5 K f,kW0 (lqD n).k (lqP K f) (lqC n K),true,kl (bQ (lqX n K f)),kK7 (bQ (lqX n K f)),true],Ex.normal,(teS1 m P r B (lqD n) (lqC n K) (lqP K f) a (0+(bQ (lqX n K f)).length) (bQ (lqX n K f)).length (teB n K f) n w y K f (w64 ((0:Int)+(1:Int))))):=by kernel_rfl
theorem te_1tft {m0:Nat}{P0:Nat->Opp}{r0:Nat}{B0:Nat->Int}{q:Qd}{m:Nat}{P:Nat->Opp}{a:Rd}{r s:Nat}{B:Nat->Int}{n w y:Int}{K:Nat}{f:Nat->Int}:(rT teG nol 3 54 (bodyOf Try.f38 0) teK teK (teS1 m0 P0 r0 B0 q m P a r s B n w y K f 1)).go (dN 64 24197604075015) =
 some ([true,kW0 q.k P m,kW0 q.k P m,kq (qP q P m),true,true,true,ka a,true,kl (bQ (qP q P m)),ku (bQ (qP q P m)),true,true,kl (bQ (qP q P m)),ku (bQ (qP q P m)),true,true,kt (bQ (qP q P m)),true,kl (bR a),ku (bR a),true,true,kl (bR a),ku (bR a),true,true,kt (bR a),kr r s B,kr r s B,kr r s B,kr r s B,ks (oqB B r),kz (oqB B r),true,true,true,true,kb (yq B r),true,true,kn (yq B r),true,true,true,true,km (yq B r),true,true,true,ko (orB B r),true,true,true,true,kb (yr B r),true,true,!kn (yr B r),true,true,true,true,true,kK5 K f,kW0 (lqD n).k (lqP K f) (lqC n K),true,kl (bQ (lqX n K f)),kK7 (bQ (lqX n K f)),true,kK1 (bQ (lqX n K f)),kK2 w (bQ (lqX n K f)),kK3 w (bQ (lqX n K f)),kK4 w (bQ (lqX n K f)),kK2 w (bQ (lqX n K f)),kK3 w (bQ (lqX n K f)),kK4 w (bQ (lqX n K f)),kK8 y,kK9 (bQ (lqX n K f))],Ex.normal,(teS1 m0 P0 r0 B0 (lqD n) (lqC n K) (lqP K f) (orB B r) ((w64 (((0+(bQ (lqX n K f)).length:Nat):Int)-(1:Int))).toNat) (bQ (lqX n K f)).length (teC n w y K f) n w y K f (w64 ((1:Int)+(1:Int))))):=by kernel_rfl
theorem te_1tff {m0:Nat}{P0:Nat->Opp}{r0:Nat}{B0:Nat->Int}{q:Qd}{m:Nat}{P:Nat->Opp}{a:Rd}{r s:Nat}{B:Nat->Int}{n w y:Int}{K:Nat}{f:Nat->Int}:(rT teG nol 3 54 (bodyOf Try.f38 0) teK teK (teS1 m0 P0 r0 B0 q m P a r s B n w y K f 1)).go (dN 78 151097280731952541361671) =
 some ([true,kW0 q.k P m,kW0 q.k P m,kq (qP q P m),true,true,true,ka a,true,kl (bQ (qP q P m)),ku (bQ (qP q P m)),true,true,kl (bQ (qP q P m)),ku (bQ (qP q P m)),true,true,kt (bQ (qP q P m)),true,kl (bR a),ku (bR a),true,true,kl (bR a),ku (bR a),true,true,kt (bR a),kr r s B,kr r s B,kr r s B,kr r s B,ks (oqB B r),kz (oqB B r),true,true,true,true,kb (yq B r),true,true,kn (yq B r),true,true,true,true,km (yq B r),true,true,true,ko (orB B r),true,true,true,true,kb (yr B r),true,true,!kn (yr B r),true,true,true,true,true,kK5 K f,kW0 (lqD n).k (lqP K f) (lqC n K),true,kl (bQ (lqX n K f)),kK7 (bQ (lqX n K f)),true,kK1 (bQ (lqX n K f)),kK2 w (bQ (lqX n K f)),kK3 w (bQ (lqX n K f)),kK4 w (bQ (lqX n K f)),kK2 w (bQ (lqX n K f)),kK3 w (bQ (lqX n K f)),kK4 w (bQ (lqX n K f)),!kK8 y],Ex.normal,(teS1 m0 P0 r0 B0 (lqD n) (lqC n K) (lqP K f) (orB B r) (0+(bQ (lqX n K f)).length) (bQ (lqX n K f)).length (teC n w y K f) n w y K f (w64 ((1:Int)+(1:Int))))):=by kernel_rfl
theorem te_2tf {m0:Nat}{P0:Nat->Opp}{r0:Nat}{B0:Nat->Int}{q:Qd}{m:Nat}{P:Nat->Opp}{a:Rd}{r s:Nat}{B:Nat->Int}{n w y:Int}{K:Nat}{f:Nat->Int}:(rT teG nol 3 54 (bodyOf Try.f38 0) teK teK (teS1 m0 P0 r0 B0 q m P a r s B n w y K f 2)).go (dN 70 571849090482600175111) =
 some ([true,kW0 q.k P m,kW0 q.k P m,kq (qP q P m),true,true,true,ka a,true,kl (bQ (qP q P m)),ku (bQ (qP q P m)),true,true,kl (bQ (qP q P m)),ku (bQ (qP q P m)),true,true,kt (bQ (qP q P m)),true,kl (bR a),ku (bR a),true,true,kl (bR a),ku (bR a),true,true,kt (bR a),kr r s B,kr r s B,kr r s B,kr r s B,ks (oqB B r),kz (oqB B r),true,true,true,true,kb (yq B r),true,true,kn (yq B r),true,true,true,true,km (yq B r),true,true,true,ko (orB B r),true,true,true,true,kb (yr B r),true,true,!kn (yr B r),true,true,true,true,true,kK5 K f,kW0 (lqD n).k (lqP K f) (lqC n K),true,kl (bQ (lqX n K f)),kK7 (bQ (lqX n K f)),true],Ex.normal,(teS1 m0 P0 r0 B0 (lqD n) (lqC n K) (lqP K f) a (0+(bQ (lqX n K f)).length) (bQ (lqX n K f)).length (teB n K f) n w y K f (w64 ((2:Int)+(1:Int))))):=by kernel_rfl
theorem te_0ft {q:Qd}{m:Nat}{P:Nat->Opp}{a:Rd}{r:Nat}{B:Nat->Int}{n w y:Int}{K:Nat}{f:Nat->Int}:(rT teG nol 3 54 (bodyOf Try.f38 0) teK teK (teS0 q m P a r B n w y K f)).go (dN 70 575019600431013193223) =
 some ([true,kW0 q.k P m,kW0 q.k P m,kq (qP q P m),true,true,true,ka a,true,kl (bQ (qP q P m)),ku (bQ (qP q P m)),true,true,kl (bQ (qP q P m)),ku (bQ (qP q P m)),true,true,kt (bQ (qP q P m)),true,kl (bR a),ku (bR a),true,true,kl (bR a),ku (bR a),true,true,kt (bR a),kr r r B,kr r r B,kr r r B,kr r r B,ks (oqB B r),kz (oqB B r),true,true,true,true,kb (yq B r),true,true,!kn (yq B r),true,true,true,true,true,true,true,true,ko (orB B r),true,true,true,true,kb (yr B r),true,true,kn (yr B r),true,true,true,true,km (yr B r),kK5 K f,kW0 (lqD n).k (lqP K f) (lqC n K),true,kl (bQ (lqX n K f)),kK7 (bQ (lqX n K f)),true],Ex.normal,(teS1 m P r B (lqD n) (lqC n K) (lqP K f) a (0+(bQ (lqX n K f)).length) (bQ (lqX n K f)).length (teB n K f) n w y K f (w64 ((0:Int)+(1:Int))))):=by kernel_rfl
theorem te_1ftt {m0:Nat}{P0:Nat->Opp}{r0:Nat}{B0:Nat->Int}{q:Qd}{m:Nat}{P:Nat->Opp}{a:Rd}{r s:Nat}{B:Nat->Int}{n w y:Int}{K:Nat}{f:Nat->Int}:(rT teG nol 3 54 (bodyOf Try.f38 0) teK teK (teS1 m0 P0 r0 B0 q m P a r s B n w y K f 1)).go (dN 64 3170534146017093127) =
 some ([true,kW0 q.k P m,kW0 q.k P m,kq (qP q P m),true,true,true,ka a,true,kl (bQ (qP q P m)),ku (bQ (qP q P m)),true,true,kl (bQ (qP q P m)),ku (bQ (qP q P m)),true,true,kt (bQ (qP q P m)),true,kl (bR a),ku (bR a),true,true,kl (bR a),ku (bR a),true,true,kt (bR a),kr r s B,kr r s B,kr r s B,kr r s B,ks (oqB B r),kz (oqB B r),true,true,true,true,kb (yq B r),true,true,!kn (yq B r),true,true,true,true,true,true,true,true,ko (orB B r),true,true,true,true,kb (yr B r),true,true,kn (yr B r),true,true,true,true,km (yr B r),kK5 K f,kW0 (lqD n).k (lqP K f) (lqC n K),true,kl (bQ (lqX n K f)),kK7 (bQ (lqX n K f)),true,kK1 (bQ (lqX n K f)),kK2 w (bQ (lqX n K f)),kK3 w (bQ (lqX n K f)),kK4 w (bQ (lqX n K f)),kK2 w (bQ (lqX n K f)),kK3 w (bQ (lqX n K f)),kK4 w (bQ (lqX n K f)),kK8 y,kK9 (bQ (lqX n K f))],Ex.normal,(teS1 m0 P0 r0 B0 (lqD n) (lqC n K) (lqP K f) (orB B r) ((w64 (((0+(bQ (lqX n K f)).length:Nat):Int)-(1:Int))).toNat) (bQ (lqX n K f)).length (teC n w y K f) n w y K f (w64 ((1:Int)+(1:Int))))):=by kernel_rfl
theorem te_1ftf {m0:Nat}{P0:Nat->Opp}{r0:Nat}{B0:Nat->Int}{q:Qd}{m:Nat}{P:Nat->Opp}{a:Rd}{r s:Nat}{B:Nat->Int}{n w y:Int}{K:Nat}{f:Nat->Int}:(rT teG nol 3 54 (bodyOf Try.f38 0) teK teK (teS1 m0 P0 r0 B0 q m P a r s B n w y K f 1)).go (dN 78 151100451241900954379783) =
 some ([true,kW0 q.k P m,kW0 q.k P m,kq (qP q P m),true,true,true,ka a,true,kl (bQ (qP q P m)),ku (bQ (qP q P m)),true,true,kl (bQ (qP q P m)),ku (bQ (qP q P m)),true,true,kt (bQ (qP q P m)),true,kl (bR a),ku (bR a),true,true,kl (bR a),ku (bR a),true,true,kt (bR a),kr r s B,kr r s B,kr r s B,kr r s B,ks (oqB B r),kz (oqB B r),true,true,true,true,kb (yq B r),true,true,!kn (yq B r),true,true,true,true,true,true,true,true,ko (orB B r),true,true,true,true,kb (yr B r),true,true,kn (yr B r),true,true,true,true,km (yr B r),kK5 K f,kW0 (lqD n).k (lqP K f) (lqC n K),true,kl (bQ (lqX n K f)),kK7 (bQ (lqX n K f)),true,kK1 (bQ (lqX n K f)),kK2 w (bQ (lqX n K f)),kK3 w (bQ (lqX n K f)),kK4 w (bQ (lqX n K f)),kK2 w (bQ (lqX n K f)),kK3 w (bQ (lqX n K f)),kK4 w (bQ (lqX n K f)),!kK8 y],Ex.normal,(teS1 m0 P0 r0 B0 (lqD n) (lqC n K) (lqP K f) (orB B r) (0+(bQ (lqX n K f)).length) (bQ (lqX n K f)).length (teC n w y K f) n w y K f (w64 ((1:Int)+(1:Int))))):=by kernel_rfl
theorem te_2ft {m0:Nat}{P0:Nat->Opp}{r0:Nat}{B0:Nat->Int}{q:Qd}{m:Nat}{P:Nat->Opp}{a:Rd}{r s:Nat}{B:Nat->Int}{n w y:Int}{K:Nat}{f:Nat->Int}:(rT teG nol 3 54 (bodyOf Try.f38 0) teK teK (teS1 m0 P0 r0 B0 q m P a r s B n w y K f 2)).go (dN 70 575019600431013193223) =
 some ([true,kW0 q.k P m,kW0 q.k P m,kq (qP q P m),true,true,true,ka a,true,kl (bQ (qP q P m)),ku (bQ (qP q P m)),true,true,kl (bQ (qP q P m)),ku (bQ (qP q P m)),true,true,kt (bQ (qP q P m)),true,kl (bR a),ku (bR a),true,true,kl (bR a),ku (bR a),true,true,kt (bR a),kr r s B,kr r s B,kr r s B,kr r s B,ks (oqB B r),kz (oqB B r),true,true,true,true,kb (yq B r),true,true,!kn (yq B r),true,true,true,true,true,true,true,true,ko (orB B r),true,true,true,true,kb (yr B r),true,true,kn (yr B r),true,true,true,true,km (yr B r),kK5 K f,kW0 (lqD n).k (lqP K f) (lqC n K),true,kl (bQ (lqX n K f)),kK7 (bQ (lqX n K f)),true],Ex.normal,(teS1 m0 P0 r0 B0 (lqD n) (lqC n K) (lqP K f) a (0+(bQ (lqX n K f)).length) (bQ (lqX n K f)).length (teB n K f) n w y K f (w64 ((2:Int)+(1:Int))))):=by kernel_rfl
theorem te_0ff {q:Qd}{m:Nat}{P:Nat->Opp}{a:Rd}{r:Nat}{B:Nat->Int}{n w y:Int}{K:Nat}{f:Nat->Int}:(rT teG nol 3 54 (bodyOf Try.f38 0) teK teK (teS0 q m P a r B n w y K f)).go (dN 70 571849066293344364039) =
 some ([true,kW0 q.k P m,kW0 q.k P m,kq (qP q P m),true,true,true,ka a,true,kl (bQ (qP q P m)),ku (bQ (qP q P m)),true,true,kl (bQ (qP q P m)),ku (bQ (qP q P m)),true,true,kt (bQ (qP q P m)),true,kl (bR a),ku (bR a),true,true,kl (bR a),ku (bR a),true,true,kt (bR a),kr r r B,kr r r B,kr r r B,kr r r B,ks (oqB B r),kz (oqB B r),true,true,true,true,kb (yq B r),true,true,!kn (yq B r),true,true,true,true,true,true,true,true,ko (orB B r),true,true,true,true,kb (yr B r),true,true,!kn (yr B r),true,true,true,true,true,kK5 K f,kW0 (lqD n).k (lqP K f) (lqC n K),true,kl (bQ (lqX n K f)),kK7 (bQ (lqX n K f)),true],Ex.normal,(teS1 m P r B (lqD n) (lqC n K) (lqP K f) a (0+(bQ (lqX n K f)).length) (bQ (lqX n K f)).length (teB n K f) n w y K f (w64 ((0:Int)+(1:Int))))):=by kernel_rfl
theorem te_1fft {m0:Nat}{P0:Nat->Opp}{r0:Nat}{B0:Nat->Int}{q:Qd}{m:Nat}{P:Nat->Opp}{a:Rd}{r s:Nat}{B:Nat->Int}{n w y:Int}{K:Nat}{f:Nat->Int}:(rT teG nol 3 54 (bodyOf Try.f38 0) teK teK (teS1 m0 P0 r0 B0 q m P a r s B n w y K f 1)).go (dN 64 8348263943) =
 some ([true,kW0 q.k P m,kW0 q.k P m,kq (qP q P m),true,true,true,ka a,true,kl (bQ (qP q P m)),ku (bQ (qP q P m)),true,true,kl (bQ (qP q P m)),ku (bQ (qP q P m)),true,true,kt (bQ (qP q P m)),true,kl (bR a),ku (bR a),true,true,kl (bR a),ku (bR a),true,true,kt (bR a),kr r s B,kr r s B,kr r s B,kr r s B,ks (oqB B r),kz (oqB B r),true,true,true,true,kb (yq B r),true,true,!kn (yq B r),true,true,true,true,true,true,true,true,ko (orB B r),true,true,true,true,kb (yr B r),true,true,!kn (yr B r),true,true,true,true,true,kK5 K f,kW0 (lqD n).k (lqP K f) (lqC n K),true,kl (bQ (lqX n K f)),kK7 (bQ (lqX n K f)),true,kK1 (bQ (lqX n K f)),kK2 w (bQ (lqX n K f)),kK3 w (bQ (lqX n K f)),kK4 w (bQ (lqX n K f)),kK2 w (bQ (lqX n K f)),kK3 w (bQ (lqX n K f)),kK4 w (bQ (lqX n K f)),kK8 y,kK9 (bQ (lqX n K f))],Ex.normal,(teS1 m0 P0 r0 B0 (lqD n) (lqC n K) (lqP K f) (orB B r) ((w64 (((0+(bQ (lqX n K f)).length:Nat):Int)-(1:Int))).toNat) (bQ (lqX n K f)).length (teC n w y K f) n w y K f (w64 ((1:Int)+(1:Int))))):=by kernel_rfl
theorem te_1fff {m0:Nat}{P0:Nat->Opp}{r0:Nat}{B0:Nat->Int}{q:Qd}{m:Nat}{P:Nat->Opp}{a:Rd}{r s:Nat}{B:Nat->Int}{n w y:Int}{K:Nat}{f:Nat->Int}:(rT teG nol 3 54 (bodyOf Try.f38 0) teK teK (teS1 m0 P0 r0 B0 q m P a r s B n w y K f 1)).go (dN 78 151097280707763285550599) =
 some ([true,kW0 q.k P m,kW0 q.k P m,kq (qP q P m),true,true,true,ka a,true,kl (bQ (qP q P m)),ku (bQ (qP q P m)),true,true,kl (bQ (qP q P m)),ku (bQ (qP q P m)),true,true,kt (bQ (qP q P m)),true,kl (bR a),ku (bR a),true,true,kl (bR a),ku (bR a),true,true,kt (bR a),kr r s B,kr r s B,kr r s B,kr r s B,ks (oqB B r),kz (oqB B r),true,true,true,true,kb (yq B r),true,true,!kn (yq B r),true,true,true,true,true,true,true,true,ko (orB B r),true,true,true,true,kb (yr B r),true,true,!kn (yr B r),true,true,true,true,true,kK5 K f,kW0 (lqD n).k (lqP K f) (lqC n K),true,kl (bQ (lqX n K f)),kK7 (bQ (lqX n K f)),true,kK1 (bQ (lqX n K f)),kK2 w (bQ (lqX n K f)),kK3 w (bQ (lqX n K f)),kK4 w (bQ (lqX n K f)),kK2 w (bQ (lqX n K f)),kK3 w (bQ (lqX n K f)),kK4 w (bQ (lqX n K f)),!kK8 y],Ex.normal,(teS1 m0 P0 r0 B0 (lqD n) (lqC n K) (lqP K f) (orB B r) (0+(bQ (lqX n K f)).length) (bQ (lqX n K f)).length (teC n w y K f) n w y K f (w64 ((1:Int)+(1:Int))))):=by kernel_rfl
theorem te_2ff {m0:Nat}{P0:Nat->Opp}{r0:Nat}{B0:Nat->Int}{q:Qd}{m:Nat}{P:Nat->Opp}{a:Rd}{r s:Nat}{B:Nat->Int}{n w y:Int}{K:Nat}{f:Nat->Int}:(rT teG nol 3 54 (bodyOf Try.f38 0) teK teK (teS1 m0 P0 r0 B0 q m P a r s B n w y K f 2)).go (dN 70 571849066293344364039) =
 some ([true,kW0 q.k P m,kW0 q.k P m,kq (qP q P m),true,true,true,ka a,true,kl (bQ (qP q P m)),ku (bQ (qP q P m)),true,true,kl (bQ (qP q P m)),ku (bQ (qP q P m)),true,true,kt (bQ (qP q P m)),true,kl (bR a),ku (bR a),true,true,kl (bR a),ku (bR a),true,true,kt (bR a),kr r s B,kr r s B,kr r s B,kr r s B,ks (oqB B r),kz (oqB B r),true,true,true,true,kb (yq B r),true,true,!kn (yq B r),true,true,true,true,true,true,true,true,ko (orB B r),true,true,true,true,kb (yr B r),true,true,!kn (yr B r),true,true,true,true,true,kK5 K f,kW0 (lqD n).k (lqP K f) (lqC n K),true,kl (bQ (lqX n K f)),kK7 (bQ (lqX n K f)),true],Ex.normal,(teS1 m0 P0 r0 B0 (lqD n) (lqC n K) (lqP K f) a (0+(bQ (lqX n K f)).length) (bQ (lqX n K f)).length (teB n K f) n w y K f (w64 ((2:Int)+(1:Int))))):=by kernel_rfl
theorem te_e {m0:Nat}{P0:Nat->Opp}{r0:Nat}{B0:Nat->Int}{q:Qd}{m:Nat}{P:Nat->Opp}{a:Rd}{r s:Nat}{B:Nat->Int}{n w y:Int}{K:Nat}{f:Nat->Int}:(rT teG nol 3 54 (bodyOf Try.f38 0) teK teK (teS1 m0 P0 r0 B0 q m P a r s B n w y K f 3)).go [false] =
 some ([true],Ex.exit 0,{ sl:=slots 179 [(2,AV.c (AC.sl 3 0 r)),(3,I64 n),(4,AV.c (AC.sl 2 0 K)),(5,I64 w),(6,AV.c (AC.v (Value.int IntKind.u8 y))),(7,AV.c (AC.ptr 4 0 0)),(8,AV.c (AC.ptr 5 0 0)),(15,I64 (3:Int))],h:=[some { t:=121,own:=false,c:=Cont.row 5 m0 fun j=>[Value.int IntKind.i64 (P0 j).k,Value.int IntKind.i64 (P0 j).i,Value.int IntKind.i64 (P0 j).a,Value.int IntKind.i64 (P0 j).b,Value.string (P0 j).s] },some { t:=5,own:=false,c:=Cont.row 1 r0 fun j=>[Value.int IntKind.u8 (B0 j)] },some { t:=2,own:=false,c:=Cont.row 1 K fun j=>[Value.int IntKind.i64 (f j)] },some { t:=5,own:=true,c:=Cont.row 1 s fun j=>[Value.int IntKind.u8 (B j)] },some { t:=128,own:=true,c:=Cont.one [i64 q.k,i64 q.n,i64 q.p,i64 q.t,i64 q.x,i64 q.y,AC.sl 6 0 m] },some { t:=131,own:=true,c:=Cont.one [i64 a.k,i64 a.e,i64 a.a,i64 a.n,i64 a.p,i64 a.t,i64 a.x,i64 a.y,i64 a.w,i64 a.h] },some { t:=121,own:=true,c:=Cont.row 5 m fun j=>[Value.int IntKind.i64 (P j).k,Value.int IntKind.i64 (P j).i,Value.int IntKind.i64 (P j).a,Value.int IntKind.i64 (P j).b,Value.string (P j).s] }] }):=by kernel_rfl
theorem te_wa {q:Qd}{m:Nat}{P:Nat->Opp}{a:Rd}{r:Nat}{B:Nat->Int}{n w y:Int}{K:Nat}{f:Nat->Int}:(lfun teG nol 60 Try.f38 [qV q (.sl 0 0 m),rV a,.c (.sl 1 0 r),I64 n,.c (.sl 2 0 K),I64 w,.c (.v (.int .u8 y))] [rowP false m P,rowU false r B,rowJ false K f]).go [] =
 some ([yes (m=m/\(fun j=>encO (P j))=fun j=>encO (P j)),!yes (m<=120/\smN (fun j=>P j) (smM m)<=(4000:Int)),true,true,true,true],Bo true,[some { t:=121,own:=false,c:=Cont.row 5 m fun j=>[Value.int IntKind.i64 (P j).k,Value.int IntKind.i64 (P j).i,Value.int IntKind.i64 (P j).a,Value.int IntKind.i64 (P j).b,Value.string (P j).s] },some { t:=5,own:=false,c:=Cont.row 1 r fun j=>[Value.int IntKind.u8 (B j)] },some { t:=2,own:=false,c:=Cont.row 1 K fun j=>[Value.int IntKind.i64 (f j)] }]):=by kernel_rfl
theorem te_wb {q:Qd}{m:Nat}{P:Nat->Opp}{a:Rd}{r:Nat}{B:Nat->Int}{n w y:Int}{K:Nat}{f:Nat->Int}:(lfun teG nol 60 Try.f38 [qV q (.sl 0 0 m),rV a,.c (.sl 1 0 r),I64 n,.c (.sl 2 0 K),I64 w,.c (.v (.int .u8 y))] [rowP false m P,rowU false r B,rowJ false K f]).go (dN 5 1) =
 some ([yes (m=m/\(fun j=>encO (P j))=fun j=>encO (P j)),!!yes (m<=120/\smN (fun j=>P j) (smM m)<=(4000:Int)),true,true,true,decide (((r:Nat):Int)>(600:Int))],Bo true,[some { t:=121,own:=false,c:=Cont.row 5 m fun j=>[Value.int IntKind.i64 (P j).k,Value.int IntKind.i64 (P j).i,Value.int IntKind.i64 (P j).a,Value.int IntKind.i64 (P j).b,Value.string (P j).s] },some { t:=5,own:=false,c:=Cont.row 1 r fun j=>[Value.int IntKind.u8 (B j)] },some { t:=2,own:=false,c:=Cont.row 1 K fun j=>[Value.int IntKind.i64 (f j)] }]):=by kernel_rfl
theorem te_w {q:Qd}{m:Nat}{P:Nat->Opp}{a:Rd}{r:Nat}{B:Nat->Int}{n w y:Int}{K:Nat}{f:Nat->Int}{q1:Qd}{m1:Nat}{P1:Nat->Opp}{a1:Rd}{r1 s1:Nat}{B1:Nat->Int}:(lfun teG (tell (bodyOf Try.f38 0) (teS0 q m P a r B n w y K f) (.exit 0,teS1 m P r B q1 m1 P1 a1 r1 s1 B1 n w y K f 3)) 60 Try.f38 [qV q (.sl 0 0 m),rV a,.c (.sl 1 0 r),I64 n,.c (.sl 2 0 K),I64 w,.c (.v (.int .u8 y))] [rowP false m P,rowU false r B,rowJ false K f]).go (dN 6 1) =
 some ([yes (m=m/\(fun j=>encO (P j))=fun j=>encO (P j)),!!yes (m<=120/\smN (fun j=>P j) (smM m)<=(4000:Int)),true,true,true,!decide (((r:Nat):Int)>(600:Int)),yes (wasS (bodyOf Try.f38 0) (teS0 q m P a r B n w y K f))],Bo true,[some { t:=121,own:=false,c:=Cont.row 5 m fun j=>[Value.int IntKind.i64 (P j).k,Value.int IntKind.i64 (P j).i,Value.int IntKind.i64 (P j).a,Value.int IntKind.i64 (P j).b,Value.string (P j).s] },some { t:=5,own:=false,c:=Cont.row 1 r fun j=>[Value.int IntKind.u8 (B j)] },some { t:=2,own:=false,c:=Cont.row 1 K fun j=>[Value.int IntKind.i64 (f j)] }]):=by kernel_rfl
end
section
open Go Go.RowKit
theorem bb_t (b:Bool):(!!(b==b))=true:=by cases b <;> rfl
theorem kW0_t {k:Int}{P:Nat->Opp}{m:Nat}(h:k=1->wqLen P 2 m<=maxCells):kW0 k P m=true:=yes_of ⟨rfl,fun e=>⟨rfl,h e⟩⟩
theorem kq_t {Q:Qd}:kq Q=true:=bb_t _
theorem ka_t {a:Rd}:ka a=true:=bb_t _
theorem kl_t {L:List Int}:kl L=true:=decide_eq_true (by omega)
theorem ku_t {L:List Int}:ku L=true:=allB_u8 _ (fun _=>rfl) _
theorem kt_t {L:List Int}:kt L=true:=by unfold kt;simp
theorem kr_t {r s:Nat}{B:Nat->Int}(h:r<=s) (h2:r<2^20) (hB:rng B):kr r s B=true:=yes_of ⟨h,h2,rfl,hB⟩
theorem ks_t {Q:Qd}(h:Q.o.length<2^60):ks Q=true:=yes_of ⟨Nat.le_refl _,Nat.le_refl _,h,rfl,rfl⟩
theorem kz_t {Q:Qd}:kz Q=true:=notnot (yes_of ⟨⟨rfl,rfl,rfl,rfl,rfl,rfl⟩,rfl,fun _ _=>rfl⟩)
theorem kb_t {b:Bool}:kb b=true:=by cases b <;> rfl
theorem kn_f {b:Bool}(h:b=false):kn b=true:=by rw [h];rfl
theorem kn_t {b:Bool}(h:b=true):(!kn b)=true:=by rw [h];rfl
theorem km_f {b:Bool}(h:b=false):km b=true:=by rw [h];rfl
theorem ko_t {a:Rd}:ko a=true:=by unfold ko;simp
theorem kK5_t {K:Nat}{f:Nat->Int}:kK5 K f=true:=yes_of ⟨rfl,rfl⟩
theorem reqOk_nil {q:Qd}(h:reqOk q) (hk:q.k ≠ 1):q.o=[]:=by
 have:=h.2
 rw [<-this]
 unfold bareQ
 rw [nb hk]
 cases q.k==2||q.k==6 <;> cases q.k==3 <;> cases q.k==4 <;> cases q.k==5 <;> rfl
theorem reqOk_one {q:Qd}(h:reqOk q) (hk:q.k=1):q.o.length<=100/\q.o.all opOk=true:=by
 have hw:=h.1
 unfold wrOk at hw
 rw [hk] at hw
 have hw':(decide (q.o.length<=100)&&q.o.all opOk)=true:=hw
 rw [Bool.and_eq_true,decide_eq_true_eq] at hw'
 exact hw'
theorem flat_len:∀ {os:List Opp},os.all opOk=true->(os.flatMap opB).length<=2015*os.length
 | [],_=>by simp
 | o::os,h=>by
  rw [List.all_cons,Bool.and_eq_true] at h
  have ih:=flat_len h.2
  have:=(opOk_parts h.1).2.2.2.2
  rw [List.flatMap_cons,List.length_append,opB_len,List.length_cons]
  omega
theorem reqB_le {q:Qd}(h:reqOk q):1<=(reqB q).length/\(reqB q).length<2^20:=by
 have hl:∀ n,(four n).length=4:=fun n=>rfl
 by_cases h1:q.k=1
 ·obtain ⟨g1,g2⟩:=reqOk_one h h1
  have g3:=flat_len g2
  unfold reqB
  rw [h1]
  show 1<=(by8 1::by8 (q.o.length:Nat)::q.o.flatMap opB).length/\_
  show _/\(by8 1::by8 (q.o.length:Nat)::q.o.flatMap opB).length<_
  simp only [List.length_cons];omega
 ·unfold reqB
  rw [nb h1]
  cases q.k==2||q.k==6 <;> cases q.k==3 <;> cases q.k==4 <;> simp [hl]
theorem oqB_len {B:Nat->Int}{r:Nat}(hB:rng B):(oqB B r).o.length<2^60:=by
 unfold oqB oQ
 by_cases hr:(rqR B 0 r).2=([],false)
 ·rw [yes_of hr]
  obtain ⟨h1,_⟩:=back_query (lst_byteL hB 0 r) hr
  show (rQuery (lst B 0 r,false)).1.o.length<2^60
  by_cases hk:(rQuery (lst B 0 r,false)).1.k=1
  ·have:=(reqOk_one h1 hk).1;omega
  ·rw [reqOk_nil h1 hk];decide
 ·rw [yes_no hr];show 0<2^60;decide
theorem wq_small (P:Nat->Opp) (S:Nat):∀ m,(∀ j,j<m->(P j).s.size<=S)->wqLen P 2 m<=2+(15+S)*m
 | 0,_=>by simp [wqLen]
 | m+1,h=>by
  have ih:=wq_small P S m fun j hj=>h j (by omega)
  have:=h m (by omega)
  have e:(15+S)*(m+1)=(15+S)*m+(15+S):=Nat.mul_succ _ _
  simp only [wqLen];omega
theorem smN_mono (P:Nat->Opp):∀ d j,smN P j<=smN P (j+d)
 | 0,_=>Int.le_refl _
 | d+1,j=>by
  have h:=smN_mono P d j
  have e:smN P (j+(d+1))=smN P (j+d)+mnI 5000 (((P (j+d)).s.size:Nat):Int):=rfl
  rw [e,mnI_eq];omega
theorem small_wq {P:Nat->Opp}{m:Nat}(h1:m<=120) (h2:smN P (smM m)<=4000):wqLen P 2 m<=maxCells:=by
 have e:smM m=m:=by unfold smM;omega
 rw [e] at h2
 have hs:∀ j,j<m->(P j).s.size<=4000:=fun j hj=>by
  have g1:=smN_mono P (m-(j+1)) (j+1)
  rw [show j+1+(m-(j+1))=m by omega] at g1
  have g2:=(smN_in P j).1
  have e:smN P (j+1)=smN P j+mnI 5000 (((P j).s.size:Nat):Int):=rfl
  rw [e,mnI_eq] at g1
  omega
 have:=wq_small P 4000 m hs
 have:(15+4000)*m<=(15+4000)*120:=Nat.mul_le_mul_left _ h1
 unfold maxCells;omega
theorem lqP_size (K:Nat) (f:Nat->Int) (j:Nat) (h:j<osN K):opOk (lqP K f j)=true:=opsL_ok _ _ _ h
theorem lqC_le (n:Int) (K:Nat):lqC n K<=osN K:=by
 unfold lqC
 cases lqK n==1
 ·exact Nat.zero_le _
 ·exact Nat.le_refl _
theorem osN_le (K:Nat):osN K<=30:=by unfold osN;omega
theorem lq_wq (n:Int) (K:Nat) (f:Nat->Int):wqLen (lqP K f) 2 (lqC n K)<=maxCells:=by
 have h1:=lqC_le n K
 have h2:=osN_le K
 have:=wq_small (lqP K f) 2000 (lqC n K) fun j hj=>(opOk_parts (lqP_size K f j (by omega))).2.2.2.2
 have:(15+2000)*lqC n K<=(15+2000)*30:=Nat.mul_le_mul_left _ (by omega)
 unfold maxCells;omega
theorem lqX_ok (n:Int) (K:Nat) (f:Nat->Int):reqOk (lqX n K f):=by
 refine lq_ok (os:=opsP (lqP K f) (lqC n K)) (fun h=>?_) (fun h=>?_)
 ·have h2:=osN_le K
  have h3:=lqC_le n K
  refine ⟨by rw [opsP_len];omega,?_⟩
  rw [List.all_eq_true]
  intro x hx
  obtain ⟨j,hj,rfl⟩:=List.mem_map.1 hx
  rw [List.mem_range] at hj
  exact lqP_size K f j (by omega)
 ·unfold lqC
  rw [nb h];rfl
theorem lqL (n:Int) (K:Nat) (f:Nat->Int):1<=(bQ (lqX n K f)).length/\(bQ (lqX n K f)).length<2^20:=by
 rw [bQ_t (lqX_ok n K f)];exact reqB_le (lqX_ok n K f)
theorem teB_rng (n:Int) (K:Nat) (f:Nat->Int):rng (teB n K f):=fun k=>by
 unfold teB
 cases decide (k<(bQ (lqX n K f)).length)
 ·exact ⟨Int.le_refl _,show (0:Int)<256 by decide⟩
 ·exact rng_gL (byteL_bQ _) _
theorem teC_rng (n w y:Int) (K:Nat) (f:Nat->Int):rng (teC n w y K f):=fun k=>by
 have h:=teB_rng n K f k
 unfold teC
 cases decide (k=0+((and64 w (65535:Int)).tmod ((0+(bQ (lqX n K f)).length:Nat):Int)).toNat)
 ·exact h
 ·show 0<=IntKind.u8.wrap _/\IntKind.u8.wrap _<256
  rw [wrap_by8];unfold by8;omega
theorem idx_t {w:Int}{L:List Int}(h:1<=L.length):kK1 L=true/\kK2 w L=true/\kK3 w L=true/\kK4 w L=true:=by
 have ha:and64 w 65535=w % (2^16:Int):=and_mask 16 (by omega) w 65535 (by decide)
 have hb:0<=w % (2^16:Int):=by omega
 have ht:(and64 w 65535).tmod ((0+L.length:Nat):Int)=(w % (2^16:Int)) % ((0+L.length:Nat):Int):=by rw [ha];exact Int.tmod_eq_emod_of_nonneg hb
 have hp:(0:Int)<((0+L.length:Nat):Int):=by omega
 have h1:=Int.emod_nonneg (w % (2^16:Int)) (Int.ne_of_gt hp)
 have h2:=Int.emod_lt_of_pos (w % (2^16:Int)) hp
 unfold kK1 kK2 kK3 kK4
 rw [ht]
 generalize (w % (2^16:Int)) % ((0+L.length:Nat):Int)=x at h1 h2
 exact ⟨decide_eq_true (by omega),decide_eq_true h1,decide_eq_true h2,decide_eq_true (by omega)⟩
theorem kK7_t {L:List Int}(h:L.length<2^20):kK7 L=true:=decide_eq_true (by unfold maxCells;omega)
theorem kK9_t {L:List Int}(h1:1<=L.length) (h2:L.length<2^20):kK9 L=true:=by
 unfold kK9
 rw [w64_id (by omega) (by omega)]
 exact decInt_t (by omega)
theorem te_round0 {q:Qd}{m:Nat}{P:Nat->Opp}{a:Rd}{r:Nat}{B:Nat->Int}{n w y:Int}{K:Nat}{f:Nat->Int}(hW:q.k=1->wqLen P 2 m<=maxCells) (h20:r<2^20) (hB:rng B) :
  CodeSem teG 3 (bodyOf Try.f38 0) (teS0 q m P a r B n w y K f) (.normal,teS1 m P r B (lqD n) (lqC n K) (lqP K f) a (bQ (lqX n K f)).length (bQ (lqX n K f)).length (teB n K f) n w y K f 1):=by
 have hL:=lqL n K f
 have hr:r<=r:=Nat.le_refl _
 cases hq:yq B r with
 | false=>
  cases hy:yr B r with
  | false=>
   refine rT_sem teG_ok noLoopsS ((rT_go te_0tt ?_).trans ?_)
   ·repeat' (first|exact AllT.nil|refine AllT.cons ?_ ?_)
    all_goals with_reducible first|rfl|exact kW0_t hW|exact kW0_t fun _=>lq_wq n K f|exact kq_t|exact ka_t|exact kl_t|exact ku_t|exact kt_t|exact kr_t hr h20 hB|exact ks_t (oqB_len hB)|exact kz_t|exact kb_t|exact ko_t|exact kK5_t|exact kK7_t hL.2|exact kn_f hq|exact km_f hq|exact kn_f hy|exact km_f hy
   ·rw [Nat.zero_add];rfl
  | true=>
   refine rT_sem teG_ok noLoopsS ((rT_go te_0tf ?_).trans ?_)
   ·repeat' (first|exact AllT.nil|refine AllT.cons ?_ ?_)
    all_goals with_reducible first|rfl|exact kW0_t hW|exact kW0_t fun _=>lq_wq n K f|exact kq_t|exact ka_t|exact kl_t|exact ku_t|exact kt_t|exact kr_t hr h20 hB|exact ks_t (oqB_len hB)|exact kz_t|exact kb_t|exact ko_t|exact kK5_t|exact kK7_t hL.2|exact kn_f hq|exact km_f hq|exact kn_t hy
   ·rw [Nat.zero_add];rfl
 | true=>
  cases hy:yr B r with
  | false=>
   refine rT_sem teG_ok noLoopsS ((rT_go te_0ft ?_).trans ?_)
   ·repeat' (first|exact AllT.nil|refine AllT.cons ?_ ?_)
    all_goals with_reducible first|rfl|exact kW0_t hW|exact kW0_t fun _=>lq_wq n K f|exact kq_t|exact ka_t|exact kl_t|exact ku_t|exact kt_t|exact kr_t hr h20 hB|exact ks_t (oqB_len hB)|exact kz_t|exact kb_t|exact ko_t|exact kK5_t|exact kK7_t hL.2|exact kn_t hq|exact kn_f hy|exact km_f hy
   ·rw [Nat.zero_add];rfl
  | true=>
   refine rT_sem teG_ok noLoopsS ((rT_go te_0ff ?_).trans ?_)
   ·repeat' (first|exact AllT.nil|refine AllT.cons ?_ ?_)
    all_goals with_reducible first|rfl|exact kW0_t hW|exact kW0_t fun _=>lq_wq n K f|exact kq_t|exact ka_t|exact kl_t|exact ku_t|exact kt_t|exact kr_t hr h20 hB|exact ks_t (oqB_len hB)|exact kz_t|exact kb_t|exact ko_t|exact kK5_t|exact kK7_t hL.2|exact kn_t hq|exact kn_t hy
   ·rw [Nat.zero_add];rfl
theorem te_round2 {m0:Nat}{P0:Nat->Opp}{r0:Nat}{B0:Nat->Int}{q:Qd}{m:Nat}{P:Nat->Opp}{a:Rd}{r s:Nat}{B:Nat->Int}{n w y:Int}{K:Nat}{f:Nat->Int}(hW:q.k=1->wqLen P 2 m<=maxCells) (hr:r<=s) (h20:r<2^20) (hB:rng B) :
  CodeSem teG 3 (bodyOf Try.f38 0) (teS1 m0 P0 r0 B0 q m P a r s B n w y K f 2) (.normal,teS1 m0 P0 r0 B0 (lqD n) (lqC n K) (lqP K f) a (bQ (lqX n K f)).length (bQ (lqX n K f)).length (teB n K f) n w y K f 3):=by
 have hL:=lqL n K f
 cases hq:yq B r with
 | false=>
  cases hy:yr B r with
  | false=>
   refine rT_sem teG_ok noLoopsS ((rT_go te_2tt ?_).trans ?_)
   ·repeat' (first|exact AllT.nil|refine AllT.cons ?_ ?_)
    all_goals with_reducible first|rfl|exact kW0_t hW|exact kW0_t fun _=>lq_wq n K f|exact kq_t|exact ka_t|exact kl_t|exact ku_t|exact kt_t|exact kr_t hr h20 hB|exact ks_t (oqB_len hB)|exact kz_t|exact kb_t|exact ko_t|exact kK5_t|exact kK7_t hL.2|exact kn_f hq|exact km_f hq|exact kn_f hy|exact km_f hy
   ·rw [Nat.zero_add];rfl
  | true=>
   refine rT_sem teG_ok noLoopsS ((rT_go te_2tf ?_).trans ?_)
   ·repeat' (first|exact AllT.nil|refine AllT.cons ?_ ?_)
    all_goals with_reducible first|rfl|exact kW0_t hW|exact kW0_t fun _=>lq_wq n K f|exact kq_t|exact ka_t|exact kl_t|exact ku_t|exact kt_t|exact kr_t hr h20 hB|exact ks_t (oqB_len hB)|exact kz_t|exact kb_t|exact ko_t|exact kK5_t|exact kK7_t hL.2|exact kn_f hq|exact km_f hq|exact kn_t hy
   ·rw [Nat.zero_add];rfl
 | true=>
  cases hy:yr B r with
  | false=>
   refine rT_sem teG_ok noLoopsS ((rT_go te_2ft ?_).trans ?_)
   ·repeat' (first|exact AllT.nil|refine AllT.cons ?_ ?_)
    all_goals with_reducible first|rfl|exact kW0_t hW|exact kW0_t fun _=>lq_wq n K f|exact kq_t|exact ka_t|exact kl_t|exact ku_t|exact kt_t|exact kr_t hr h20 hB|exact ks_t (oqB_len hB)|exact kz_t|exact kb_t|exact ko_t|exact kK5_t|exact kK7_t hL.2|exact kn_t hq|exact kn_f hy|exact km_f hy
   ·rw [Nat.zero_add];rfl
  | true=>
   refine rT_sem teG_ok noLoopsS ((rT_go te_2ff ?_).trans ?_)
   ·repeat' (first|exact AllT.nil|refine AllT.cons ?_ ?_)
    all_goals with_reducible first|rfl|exact kW0_t hW|exact kW0_t fun _=>lq_wq n K f|exact kq_t|exact ka_t|exact kl_t|exact ku_t|exact kt_t|exact kr_t hr h20 hB|exact ks_t (oqB_len hB)|exact kz_t|exact kb_t|exact ko_t|exact kK5_t|exact kK7_t hL.2|exact kn_t hq|exact kn_t hy
   ·rw [Nat.zero_add];rfl
theorem te_round1t {m0:Nat}{P0:Nat->Opp}{r0:Nat}{B0:Nat->Int}{q:Qd}{m:Nat}{P:Nat->Opp}{a:Rd}{r s:Nat}{B:Nat->Int}{n w y:Int}{K:Nat}{f:Nat->Int}(hW:q.k=1->wqLen P 2 m<=maxCells) (hr:r<=s) (h20:r<2^20) (hB:rng B) (h3:kK8 y=true) :
  CodeSem teG 3 (bodyOf Try.f38 0) (teS1 m0 P0 r0 B0 q m P a r s B n w y K f 1) (.normal,teS1 m0 P0 r0 B0 (lqD n) (lqC n K) (lqP K f) (orB B r) (w64 (((0+(bQ (lqX n K f)).length:Nat):Int)-(1:Int))).toNat (bQ (lqX n K f)).length (teC n w y K f) n w y K f 2):=by
 have hL:=lqL n K f
 cases hq:yq B r with
 | false=>
  cases hy:yr B r with
  | false=>
   refine rT_sem teG_ok noLoopsS ((rT_go te_1ttt ?_).trans ?_)
   ·repeat' (first|exact AllT.nil|refine AllT.cons ?_ ?_)
    all_goals with_reducible first|rfl|exact kW0_t hW|exact kW0_t fun _=>lq_wq n K f|exact kq_t|exact ka_t|exact kl_t|exact ku_t|exact kt_t|exact kr_t hr h20 hB|exact ks_t (oqB_len hB)|exact kz_t|exact kb_t|exact ko_t|exact kK5_t|exact kK7_t hL.2|exact kn_f hq|exact km_f hq|exact kn_f hy|exact km_f hy|exact (idx_t (w:=w) hL.1).1|exact (idx_t (w:=w) hL.1).2.1|exact (idx_t (w:=w) hL.1).2.2.1|exact (idx_t (w:=w) hL.1).2.2.2|exact h3|exact kK9_t hL.1 hL.2
   ·rfl
  | true=>
   refine rT_sem teG_ok noLoopsS ((rT_go te_1tft ?_).trans ?_)
   ·repeat' (first|exact AllT.nil|refine AllT.cons ?_ ?_)
    all_goals with_reducible first|rfl|exact kW0_t hW|exact kW0_t fun _=>lq_wq n K f|exact kq_t|exact ka_t|exact kl_t|exact ku_t|exact kt_t|exact kr_t hr h20 hB|exact ks_t (oqB_len hB)|exact kz_t|exact kb_t|exact ko_t|exact kK5_t|exact kK7_t hL.2|exact kn_f hq|exact km_f hq|exact kn_t hy|exact (idx_t (w:=w) hL.1).1|exact (idx_t (w:=w) hL.1).2.1|exact (idx_t (w:=w) hL.1).2.2.1|exact (idx_t (w:=w) hL.1).2.2.2|exact h3|exact kK9_t hL.1 hL.2
   ·rfl
 | true=>
  cases hy:yr B r with
  | false=>
   refine rT_sem teG_ok noLoopsS ((rT_go te_1ftt ?_).trans ?_)
   ·repeat' (first|exact AllT.nil|refine AllT.cons ?_ ?_)
    all_goals with_reducible first|rfl|exact kW0_t hW|exact kW0_t fun _=>lq_wq n K f|exact kq_t|exact ka_t|exact kl_t|exact ku_t|exact kt_t|exact kr_t hr h20 hB|exact ks_t (oqB_len hB)|exact kz_t|exact kb_t|exact ko_t|exact kK5_t|exact kK7_t hL.2|exact kn_t hq|exact kn_f hy|exact km_f hy|exact (idx_t (w:=w) hL.1).1|exact (idx_t (w:=w) hL.1).2.1|exact (idx_t (w:=w) hL.1).2.2.1|exact (idx_t (w:=w) hL.1).2.2.2|exact h3|exact kK9_t hL.1 hL.2
   ·rfl
  | true=>
   refine rT_sem teG_ok noLoopsS ((rT_go te_1fft ?_).trans ?_)
   ·repeat' (first|exact AllT.nil|refine AllT.cons ?_ ?_)
    all_goals with_reducible first|rfl|exact kW0_t hW|exact kW0_t fun _=>lq_wq n K f|exact kq_t|exact ka_t|exact kl_t|exact ku_t|exact kt_t|exact kr_t hr h20 hB|exact ks_t (oqB_len hB)|exact kz_t|exact kb_t|exact ko_t|exact kK5_t|exact kK7_t hL.2|exact kn_t hq|exact kn_t hy|exact (idx_t (w:=w) hL.1).1|exact (idx_t (w:=w) hL.1).2.1|exact (idx_t (w:=w) hL.1).2.2.1|exact (idx_t (w:=w) hL.1).2.2.2|exact h3|exact kK9_t hL.1 hL.2
   ·rfl
theorem te_round1f {m0:Nat}{P0:Nat->Opp}{r0:Nat}{B0:Nat->Int}{q:Qd}{m:Nat}{P:Nat->Opp}{a:Rd}{r s:Nat}{B:Nat->Int}{n w y:Int}{K:Nat}{f:Nat->Int}(hW:q.k=1->wqLen P 2 m<=maxCells) (hr:r<=s) (h20:r<2^20) (hB:rng B) (h3:kK8 y=false) :
  CodeSem teG 3 (bodyOf Try.f38 0) (teS1 m0 P0 r0 B0 q m P a r s B n w y K f 1) (.normal,teS1 m0 P0 r0 B0 (lqD n) (lqC n K) (lqP K f) (orB B r) (0+(bQ (lqX n K f)).length) (bQ (lqX n K f)).length (teC n w y K f) n w y K f 2):=by
 have hL:=lqL n K f
 cases hq:yq B r with
 | false=>
  cases hy:yr B r with
  | false=>
   refine rT_sem teG_ok noLoopsS ((rT_go te_1ttf ?_).trans ?_)
   ·repeat' (first|exact AllT.nil|refine AllT.cons ?_ ?_)
    all_goals with_reducible first|rfl|exact kW0_t hW|exact kW0_t fun _=>lq_wq n K f|exact kq_t|exact ka_t|exact kl_t|exact ku_t|exact kt_t|exact kr_t hr h20 hB|exact ks_t (oqB_len hB)|exact kz_t|exact kb_t|exact ko_t|exact kK5_t|exact kK7_t hL.2|exact kn_f hq|exact km_f hq|exact kn_f hy|exact km_f hy|exact (idx_t (w:=w) hL.1).1|exact (idx_t (w:=w) hL.1).2.1|exact (idx_t (w:=w) hL.1).2.2.1|exact (idx_t (w:=w) hL.1).2.2.2|exact not_eq h3
   ·rfl
  | true=>
   refine rT_sem teG_ok noLoopsS ((rT_go te_1tff ?_).trans ?_)
   ·repeat' (first|exact AllT.nil|refine AllT.cons ?_ ?_)
    all_goals with_reducible first|rfl|exact kW0_t hW|exact kW0_t fun _=>lq_wq n K f|exact kq_t|exact ka_t|exact kl_t|exact ku_t|exact kt_t|exact kr_t hr h20 hB|exact ks_t (oqB_len hB)|exact kz_t|exact kb_t|exact ko_t|exact kK5_t|exact kK7_t hL.2|exact kn_f hq|exact km_f hq|exact kn_t hy|exact (idx_t (w:=w) hL.1).1|exact (idx_t (w:=w) hL.1).2.1|exact (idx_t (w:=w) hL.1).2.2.1|exact (idx_t (w:=w) hL.1).2.2.2|exact not_eq h3
   ·rfl
 | true=>
  cases hy:yr B r with
  | false=>
   refine rT_sem teG_ok noLoopsS ((rT_go te_1ftf ?_).trans ?_)
   ·repeat' (first|exact AllT.nil|refine AllT.cons ?_ ?_)
    all_goals with_reducible first|rfl|exact kW0_t hW|exact kW0_t fun _=>lq_wq n K f|exact kq_t|exact ka_t|exact kl_t|exact ku_t|exact kt_t|exact kr_t hr h20 hB|exact ks_t (oqB_len hB)|exact kz_t|exact kb_t|exact ko_t|exact kK5_t|exact kK7_t hL.2|exact kn_t hq|exact kn_f hy|exact km_f hy|exact (idx_t (w:=w) hL.1).1|exact (idx_t (w:=w) hL.1).2.1|exact (idx_t (w:=w) hL.1).2.2.1|exact (idx_t (w:=w) hL.1).2.2.2|exact not_eq h3
   ·rfl
  | true=>
   refine rT_sem teG_ok noLoopsS ((rT_go te_1fff ?_).trans ?_)
   ·repeat' (first|exact AllT.nil|refine AllT.cons ?_ ?_)
    all_goals with_reducible first|rfl|exact kW0_t hW|exact kW0_t fun _=>lq_wq n K f|exact kq_t|exact ka_t|exact kl_t|exact ku_t|exact kt_t|exact kr_t hr h20 hB|exact ks_t (oqB_len hB)|exact kz_t|exact kb_t|exact ko_t|exact kK5_t|exact kK7_t hL.2|exact kn_t hq|exact kn_t hy|exact (idx_t (w:=w) hL.1).1|exact (idx_t (w:=w) hL.1).2.1|exact (idx_t (w:=w) hL.1).2.2.1|exact (idx_t (w:=w) hL.1).2.2.2|exact not_eq h3
   ·rfl
theorem te_round1 {m0:Nat}{P0:Nat->Opp}{r0:Nat}{B0:Nat->Int}{q:Qd}{m:Nat}{P:Nat->Opp}{a:Rd}{r s:Nat}{B:Nat->Int}{n w y:Int}{K:Nat}{f:Nat->Int}(hW:q.k=1->wqLen P 2 m<=maxCells) (hr:r<=s) (h20:r<2^20) (hB:rng B) :
  ∃ r',r'<=(bQ (lqX n K f)).length/\CodeSem teG 3 (bodyOf Try.f38 0) (teS1 m0 P0 r0 B0 q m P a r s B n w y K f 1) (.normal,teS1 m0 P0 r0 B0 (lqD n) (lqC n K) (lqP K f) (orB B r) r' (bQ (lqX n K f)).length (teC n w y K f) n w y K f 2):=by
 have hL:=lqL n K f
 cases h3:kK8 y with
 | true=>exact ⟨_,by rw [w64_id (by omega) (by omega)];omega,te_round1t hW hr h20 hB h3⟩
 | false=>exact ⟨_,by omega,te_round1f hW hr h20 hB h3⟩
theorem te_loop {q:Qd}{m:Nat}{P:Nat->Opp}{a:Rd}{r:Nat}{B:Nat->Int}{n w y:Int}{K:Nat}{f:Nat->Int}(hW:q.k=1->wqLen P 2 m<=maxCells) (h20:r<2^20) (hB:rng B) :
  ∃ a',LoopR teG 3 (bodyOf Try.f38 0) (teS0 q m P a r B n w y K f) (.exit 0,teS1 m P r B (lqD n) (lqC n K) (lqP K f) a' (bQ (lqX n K f)).length (bQ (lqX n K f)).length (teB n K f) n w y K f 3):=by
 have hL:=lqL n K f
 obtain ⟨r',h1,h2⟩:=te_round1 (m0:=m) (P0:=P) (r0:=r) (B0:=B) (q:=lqD n) (m:=lqC n K) (P:=lqP K f) (a:=a) (r:=(bQ (lqX n K f)).length) (s:=(bQ (lqX n K f)).length) (B:=teB n K f) (n:=n) (w:=w) (y:=y) (K:=K) (f:=f) (fun _=>lq_wq n K f) (Nat.le_refl _) hL.2 (teB_rng n K f)
 exact ⟨_,LoopR.next (te_round0 hW h20 hB) (LoopR.next h2 (LoopR.next (te_round2 (fun _=>lq_wq n K f) h1 (by omega) (teC_rng n w y K f)) (LoopR.stop (by simp) (rT_sem teG_ok noLoopsS ((rT_go te_e ⟨rfl,trivial⟩).trans rfl)))))⟩
theorem wireTells_true (q:Qd) (m:Nat) (P:Nat->Opp) (a:Rd) (r:Nat) (B:Nat->Int) (n w y:Int) (K:Nat) (f:Nat->Int) (hB:rng B) :
  ∃ keep tm d ℓ,LoopsSem (GT KTE keep 0 tm) 3 ℓ/\(lfun (GT KTE keep 0 tm) ℓ d Try.f38 [qV q (.sl 0 0 m),rV a,.c (.sl 1 0 r),I64 n,.c (.sl 2 0 K),I64 w,.c (.v (.int .u8 y))] [rowP false m P,rowU false r B,rowJ false K f]).eval=some (Bo true,[rowP false m P,rowU false r B,rowJ false K f]):=by
 by_cases hs:m<=120/\smN P (smM m)<=4000
 ·by_cases h6:r<=600
  ·obtain ⟨a',hl⟩:=te_loop (q:=q) (m:=m) (P:=P) (a:=a) (r:=r) (B:=B) (n:=n) (w:=w) (y:=y) (K:=K) (f:=f) (fun _=>small_wq hs.1 hs.2) (by omega) hB
   refine ⟨(fun k=>if k=4 then teK else []),[],60,_,tell_ok hl.sem,(Tr.go_eval te_w ?_).trans rfl⟩
   repeat' (first|exact AllT.nil|refine AllT.cons ?_ ?_)
   all_goals first|(with_reducible rfl)|exact yes_of ⟨rfl,rfl⟩|exact notnot (yes_of hs)|exact not_eq (decide_eq_false (by omega))
  ·refine ⟨(fun k=>if k=4 then teK else []),[],60,nol,noLoopsS,(Tr.go_eval te_wb ?_).trans rfl⟩
   repeat' (first|exact AllT.nil|refine AllT.cons ?_ ?_)
   all_goals first|(with_reducible rfl)|exact yes_of ⟨rfl,rfl⟩|exact notnot (yes_of hs)|exact decide_eq_true (by omega)
 ·refine ⟨(fun k=>if k=4 then teK else []),[],60,nol,noLoopsS,(Tr.go_eval te_wa ?_).trans rfl⟩
  repeat' (first|exact AllT.nil|refine AllT.cons ?_ ?_)
  all_goals first|(with_reducible rfl)|exact yes_of ⟨rfl,rfl⟩|exact not_eq (yes_no hs)
end
end Go.Proofs.Ytcpahifgdppkbaa.QAI
