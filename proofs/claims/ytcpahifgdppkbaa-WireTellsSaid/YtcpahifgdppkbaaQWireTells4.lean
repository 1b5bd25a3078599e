/- Lemmas. -/
import Derived.Test.YtcpahifgdppkbaaQWireTells3
set_option linter.unusedVariables false
set_option linter.unusedSimpArgs false
set_option maxRecDepth 100000
namespace Go.Proofs.Ytcpahifgdppkbaa.QAI
section
open Go Go.RowKit
theorem paO_A {s:ByteArray}{n:Nat}{D:Nat->Gl}{a k e p z:Int}:(rT paG (byReg 7 (tell (bodyOf Try.f168 1) (pa1 s n D a a) (.exit 2,(pa1 s n D a k))) nol) 0 53 (bodyOf Try.f168 0) paK paKa (paO s n D a)).go []=some ([decide (a<((s.size:Nat):Int)),yes (wasS (bodyOf Try.f168 1) (pa1 s n D a a)),k==a],Ex.ret,{ sl:=slots 138 [(2,.c (.v (.slice none 0 0))),(3,I64 a),(4,I64 5),(5,.c (.sl 0 0 n))],h:=[some ⟨207,true,.row 4 n fun j=>[.int .i64 (D j).k,.int .i64 (D j).r,.int .i64 (D j).a,.int .i64 (D j).w]⟩] }):=by kernel_rfl
theorem paO_B1 {s:ByteArray}{n:Nat}{D:Nat->Gl}{a k e p z:Int}:(rT paG (byReg 7 (tell (bodyOf Try.f168 1) (pa1 s n D a a) (.exit 2,(pa1 s n D a k))) nol) 0 53 (bodyOf Try.f168 0) paK paKa (paO s n D a)).go (dN 3 3)=some ([decide (a<((s.size:Nat):Int)),yes (wasS (bodyOf Try.f168 1) (pa1 s n D a a)),!k==a,decInt a k s.size,yes (s.size<2^40/\(0:Int)<=k/\k<=((s.size:Nat):Int)),((skN s k.toNat:Nat):Int)==((s.size:Nat):Int),true,true,true,true,true],Ex.ret,{ sl:=slots 138 [(2,.c (.v (.slice none 0 0))),(3,I64 ((skN s k.toNat:Nat):Int)),(4,I64 5),(5,.c (.sl 0 0 n))],h:=[some ⟨207,true,.row 4 n fun j=>[.int .i64 (D j).k,.int .i64 (D j).r,.int .i64 (D j).a,.int .i64 (D j).w]⟩] }):=by kernel_rfl
theorem paO_B2 {s:ByteArray}{n:Nat}{D:Nat->Gl}{a k e p z:Int}:(rT paG (byReg 7 (tell (bodyOf Try.f168 1) (pa1 s n D a a) (.exit 2,(pa1 s n D a k))) nol) 0 53 (bodyOf Try.f168 0) paK paKa (paO s n D a)).go (dN 12 795)=some ([decide (a<((s.size:Nat):Int)),yes (wasS (bodyOf Try.f168 1) (pa1 s n D a a)),!k==a,decInt a k s.size,yes (s.size<2^40/\(0:Int)<=k/\k<=((s.size:Nat):Int)),!((skN s k.toNat:Nat):Int)==((s.size:Nat):Int),true,true,decide ((0:Int)<=((skN s k.toNat:Nat):Int)),decide (((skN s k.toNat:Nat):Int)<((s.size:Nat):Int)),true,true,bt s ((skN s k.toNat:Nat):Int) != (58:Int)],Ex.ret,{ sl:=slots 138 [(2,.c (.v (.slice none 0 0))),(3,I64 ((skN s k.toNat:Nat):Int)),(4,I64 5),(5,.c (.sl 0 0 n))],h:=[some ⟨207,true,.row 4 n fun j=>[.int .i64 (D j).k,.int .i64 (D j).r,.int .i64 (D j).a,.int .i64 (D j).w]⟩] }):=by kernel_rfl
theorem paO_C {s:ByteArray}{n:Nat}{D:Nat->Gl}{a k e p z:Int}:(rT paG (byReg 7 (tell (bodyOf Try.f168 1) (pa1 s n D a a) (.exit 2,(pa1 s n D a k))) (byReg 17 (tell (bodyOf Try.f168 2) (pa2 s n D a (s.extract a.toNat k.toNat) ((skN s (w64 (((skN s k.toNat:Nat):Int)+1)).toNat:Nat):Int) ((skN s (w64 (((skN s k.toNat:Nat):Int)+1)).toNat:Nat):Int)) (.exit 4,(pa2 s n D a (s.extract a.toNat k.toNat) ((skN s (w64 (((skN s k.toNat:Nat):Int)+1)).toNat:Nat):Int) e))) nol)) 0 53 (bodyOf Try.f168 0) paK paKa (paO s n D a)).go (dN 13 795)=some ([decide (a<((s.size:Nat):Int)),yes (wasS (bodyOf Try.f168 1) (pa1 s n D a a)),!k==a,decInt a k s.size,yes (s.size<2^40/\(0:Int)<=k/\k<=((s.size:Nat):Int)),!((skN s k.toNat:Nat):Int)==((s.size:Nat):Int),true,true,decide ((0:Int)<=((skN s k.toNat:Nat):Int)),decide (((skN s k.toNat:Nat):Int)<((s.size:Nat):Int)),true,true,!bt s ((skN s k.toNat:Nat):Int) != (58:Int),yes (s.size<2^40/\(0:Int)<=w64 (((skN s k.toNat:Nat):Int)+(1:Int))/\w64 (((skN s k.toNat:Nat):Int)+(1:Int))<=((s.size:Nat):Int)),yes (wasS (bodyOf Try.f168 2) (pa2 s n D a (s.extract a.toNat k.toNat) ((skN s (w64 (((skN s k.toNat:Nat):Int)+1)).toNat:Nat):Int) ((skN s (w64 (((skN s k.toNat:Nat):Int)+1)).toNat:Nat):Int))),e==((skN s (w64 (((skN s k.toNat:Nat):Int)+(1:Int))).toNat:Nat):Int)],Ex.ret,{ sl:=slots 138 [(2,.c (.v (.slice none 0 0))),(3,I64 ((skN s (w64 (((skN s k.toNat:Nat):Int)+(1:Int))).toNat:Nat):Int)),(4,I64 5),(5,.c (.sl 0 0 n))],h:=[some ⟨207,true,.row 4 n fun j=>[.int .i64 (D j).k,.int .i64 (D j).r,.int .i64 (D j).a,.int .i64 (D j).w]⟩] }):=by kernel_rfl
theorem paO_D {s:ByteArray}{n:Nat}{D:Nat->Gl}{a k e p z:Int}:(rT paG (byReg 7 (tell (bodyOf Try.f168 1) (pa1 s n D a a) (.exit 2,(pa1 s n D a k))) (byReg 17 (tell (bodyOf Try.f168 2) (pa2 s n D a (s.extract a.toNat k.toNat) ((skN s (w64 (((skN s k.toNat:Nat):Int)+1)).toNat:Nat):Int) ((skN s (w64 (((skN s k.toNat:Nat):Int)+1)).toNat:Nat):Int)) (.exit 4,(pa2 s n D a (s.extract a.toNat k.toNat) ((skN s (w64 (((skN s k.toNat:Nat):Int)+1)).toNat:Nat):Int) e))) (tell (bodyOf Try.f168 3) (pa3 s n D a (s.extract a.toNat k.toNat) ((skN s (w64 (((skN s k.toNat:Nat):Int)+1)).toNat:Nat):Int) e 0 1) (.exit 6,(pa3 s n D a (s.extract a.toNat k.toNat) ((skN s (w64 (((skN s k.toNat:Nat):Int)+1)).toNat:Nat):Int) e p z))))) 0 53 (bodyOf Try.f168 0) paK paKa (paO s n D a)).go (dN 16 25371)=some ([decide (a<((s.size:Nat):Int)),yes (wasS (bodyOf Try.f168 1) (pa1 s n D a a)),!k==a,decInt a k s.size,yes (s.size<2^40/\(0:Int)<=k/\k<=((s.size:Nat):Int)),!((skN s k.toNat:Nat):Int)==((s.size:Nat):Int),true,true,decide ((0:Int)<=((skN s k.toNat:Nat):Int)),decide (((skN s k.toNat:Nat):Int)<((s.size:Nat):Int)),true,true,!bt s ((skN s k.toNat:Nat):Int) != (58:Int),yes (s.size<2^40/\(0:Int)<=w64 (((skN s k.toNat:Nat):Int)+(1:Int))/\w64 (((skN s k.toNat:Nat):Int)+(1:Int))<=((s.size:Nat):Int)),yes (wasS (bodyOf Try.f168 2) (pa2 s n D a (s.extract a.toNat k.toNat) ((skN s (w64 (((skN s k.toNat:Nat):Int)+1)).toNat:Nat):Int) ((skN s (w64 (((skN s k.toNat:Nat):Int)+1)).toNat:Nat):Int))),!e==((skN s (w64 (((skN s k.toNat:Nat):Int)+(1:Int))).toNat:Nat):Int),yes (wasS (bodyOf Try.f168 3) (pa3 s n D a (s.extract a.toNat k.toNat) ((skN s (w64 (((skN s k.toNat:Nat):Int)+1)).toNat:Nat):Int) e 0 1)),p==(0:Int)],Ex.ret,{ sl:=slots 138 [(2,.c (.v (.slice none 0 0))),(3,I64 a),(4,I64 6),(5,.c (.sl 0 0 n))],h:=[some ⟨207,true,.row 4 n fun j=>[.int .i64 (D j).k,.int .i64 (D j).r,.int .i64 (D j).a,.int .i64 (D j).w]⟩] }):=by kernel_rfl
theorem paO_E {s:ByteArray}{n:Nat}{D:Nat->Gl}{a k e p z:Int}:(rT paG (byReg 7 (tell (bodyOf Try.f168 1) (pa1 s n D a a) (.exit 2,(pa1 s n D a k))) (byReg 17 (tell (bodyOf Try.f168 2) (pa2 s n D a (s.extract a.toNat k.toNat) ((skN s (w64 (((skN s k.toNat:Nat):Int)+1)).toNat:Nat):Int) ((skN s (w64 (((skN s k.toNat:Nat):Int)+1)).toNat:Nat):Int)) (.exit 4,(pa2 s n D a (s.extract a.toNat k.toNat) ((skN s (w64 (((skN s k.toNat:Nat):Int)+1)).toNat:Nat):Int) e))) (tell (bodyOf Try.f168 3) (pa3 s n D a (s.extract a.toNat k.toNat) ((skN s (w64 (((skN s k.toNat:Nat):Int)+1)).toNat:Nat):Int) e 0 1) (.exit 6,(pa3 s n D a (s.extract a.toNat k.toNat) ((skN s (w64 (((skN s k.toNat:Nat):Int)+1)).toNat:Nat):Int) e p z))))) 0 53 (bodyOf Try.f168 0) paK paKa (paO s n D a)).go (dN 18 90907)=some ([decide (a<((s.size:Nat):Int)),yes (wasS (bodyOf Try.f168 1) (pa1 s n D a a)),!k==a,decInt a k s.size,yes (s.size<2^40/\(0:Int)<=k/\k<=((s.size:Nat):Int)),!((skN s k.toNat:Nat):Int)==((s.size:Nat):Int),true,true,decide ((0:Int)<=((skN s k.toNat:Nat):Int)),decide (((skN s k.toNat:Nat):Int)<((s.size:Nat):Int)),true,true,!bt s ((skN s k.toNat:Nat):Int) != (58:Int),yes (s.size<2^40/\(0:Int)<=w64 (((skN s k.toNat:Nat):Int)+(1:Int))/\w64 (((skN s k.toNat:Nat):Int)+(1:Int))<=((s.size:Nat):Int)),yes (wasS (bodyOf Try.f168 2) (pa2 s n D a (s.extract a.toNat k.toNat) ((skN s (w64 (((skN s k.toNat:Nat):Int)+1)).toNat:Nat):Int) ((skN s (w64 (((skN s k.toNat:Nat):Int)+1)).toNat:Nat):Int))),!e==((skN s (w64 (((skN s k.toNat:Nat):Int)+(1:Int))).toNat:Nat):Int),yes (wasS (bodyOf Try.f168 3) (pa3 s n D a (s.extract a.toNat k.toNat) ((skN s (w64 (((skN s k.toNat:Nat):Int)+1)).toNat:Nat):Int) e 0 1)),!p==(0:Int),decInt (((skN s (w64 (((skN s k.toNat:Nat):Int)+(1:Int))).toNat:Nat):Int)) e s.size,yes ((s.extract (skN s (w64 (((skN s k.toNat:Nat):Int)+(1:Int))).toNat) e.toNat).size<2^40/\(1:Int)<=p/\p<=(32:Int)),!(valR p (s.extract (skN s (w64 (((skN s k.toNat:Nat):Int)+(1:Int))).toNat) e.toNat)).o],Ex.ret,{ sl:=slots 138 [(2,.c (.v (.slice none 0 0))),(3,I64 ((skN s (w64 (((skN s k.toNat:Nat):Int)+(1:Int))).toNat:Nat):Int)),(4,I64 7),(5,.c (.sl 0 0 n))],h:=[some ⟨207,true,.row 4 n fun j=>[.int .i64 (D j).k,.int .i64 (D j).r,.int .i64 (D j).a,.int .i64 (D j).w]⟩] }):=by kernel_rfl
theorem paO_F {s:ByteArray}{n:Nat}{D:Nat->Gl}{a k e p z:Int}:(rT paG (byReg 7 (tell (bodyOf Try.f168 1) (pa1 s n D a a) (.exit 2,(pa1 s n D a k))) (byReg 17 (tell (bodyOf Try.f168 2) (pa2 s n D a (s.extract a.toNat k.toNat) ((skN s (w64 (((skN s k.toNat:Nat):Int)+1)).toNat:Nat):Int) ((skN s (w64 (((skN s k.toNat:Nat):Int)+1)).toNat:Nat):Int)) (.exit 4,(pa2 s n D a (s.extract a.toNat k.toNat) ((skN s (w64 (((skN s k.toNat:Nat):Int)+1)).toNat:Nat):Int) e))) (tell (bodyOf Try.f168 3) (pa3 s n D a (s.extract a.toNat k.toNat) ((skN s (w64 (((skN s k.toNat:Nat):Int)+1)).toNat:Nat):Int) e 0 1) (.exit 6,(pa3 s n D a (s.extract a.toNat k.toNat) ((skN s (w64 (((skN s k.toNat:Nat):Int)+1)).toNat:Nat):Int) e p z))))) 0 53 (bodyOf Try.f168 0) paK paKa (paO s n D a)).go (dN 21 877339)=some ([decide (a<((s.size:Nat):Int)),yes (wasS (bodyOf Try.f168 1) (pa1 s n D a a)),!k==a,decInt a k s.size,yes (s.size<2^40/\(0:Int)<=k/\k<=((s.size:Nat):Int)),!((skN s k.toNat:Nat):Int)==((s.size:Nat):Int),true,true,decide ((0:Int)<=((skN s k.toNat:Nat):Int)),decide (((skN s k.toNat:Nat):Int)<((s.size:Nat):Int)),true,true,!bt s ((skN s k.toNat:Nat):Int) != (58:Int),yes (s.size<2^40/\(0:Int)<=w64 (((skN s k.toNat:Nat):Int)+(1:Int))/\w64 (((skN s k.toNat:Nat):Int)+(1:Int))<=((s.size:Nat):Int)),yes (wasS (bodyOf Try.f168 2) (pa2 s n D a (s.extract a.toNat k.toNat) ((skN s (w64 (((skN s k.toNat:Nat):Int)+1)).toNat:Nat):Int) ((skN s (w64 (((skN s k.toNat:Nat):Int)+1)).toNat:Nat):Int))),!e==((skN s (w64 (((skN s k.toNat:Nat):Int)+(1:Int))).toNat:Nat):Int),yes (wasS (bodyOf Try.f168 3) (pa3 s n D a (s.extract a.toNat k.toNat) ((skN s (w64 (((skN s k.toNat:Nat):Int)+1)).toNat:Nat):Int) e 0 1)),!p==(0:Int),decInt (((skN s (w64 (((skN s k.toNat:Nat):Int)+(1:Int))).toNat:Nat):Int)) e s.size,yes ((s.extract (skN s (w64 (((skN s k.toNat:Nat):Int)+(1:Int))).toNat) e.toNat).size<2^40/\(1:Int)<=p/\p<=(32:Int)),!!(valR p (s.extract (skN s (w64 (((skN s k.toNat:Nat):Int)+(1:Int))).toNat) e.toNat)).o,decide (n=n),true,decide ((n+1)*32<=maxCells),yes (s.size<2^40/\(0:Int)<=e/\e<=((s.size:Nat):Int)),decide (((skN s e.toNat:Nat):Int)<((s.size:Nat):Int)),true,true,decide ((0:Int)<=((skN s e.toNat:Nat):Int)),decide (((skN s e.toNat:Nat):Int)<((s.size:Nat):Int)),true,true,bt s ((skN s e.toNat:Nat):Int) != (59:Int)],Ex.ret,{ sl:=slots 138 [(2,.c (.v (.slice none 0 0))),(3,I64 ((skN s e.toNat:Nat):Int)),(4,I64 5),(5,.c (.sl 0 0 (n+1)))],h:=[some ⟨207,true,.row 4 (n+1) fun k_1=>[.int .i64 (bif decide (k_1=n) then (valR p (s.extract (skN s (w64 (((skN s k.toNat:Nat):Int)+(1:Int))).toNat) e.toNat)).a else (D k_1).k),.int .i64 (bif decide (k_1=n) then (valR p (s.extract (skN s (w64 (((skN s k.toNat:Nat):Int)+(1:Int))).toNat) e.toNat)).b else (D k_1).r),.int .i64 (bif decide (k_1=n) then (valR p (s.extract (skN s (w64 (((skN s k.toNat:Nat):Int)+(1:Int))).toNat) e.toNat)).x else (D k_1).a),.int .i64 (bif decide (k_1=n) then (valR p (s.extract (skN s (w64 (((skN s k.toNat:Nat):Int)+(1:Int))).toNat) e.toNat)).y else (D k_1).w)]⟩] }):=by kernel_rfl
theorem paO_G {s:ByteArray}{n:Nat}{D:Nat->Gl}{a k e p z:Int}:(rT paG (byReg 7 (tell (bodyOf Try.f168 1) (pa1 s n D a a) (.exit 2,(pa1 s n D a k))) (byReg 17 (tell (bodyOf Try.f168 2) (pa2 s n D a (s.extract a.toNat k.toNat) ((skN s (w64 (((skN s k.toNat:Nat):Int)+1)).toNat:Nat):Int) ((skN s (w64 (((skN s k.toNat:Nat):Int)+1)).toNat:Nat):Int)) (.exit 4,(pa2 s n D a (s.extract a.toNat k.toNat) ((skN s (w64 (((skN s k.toNat:Nat):Int)+1)).toNat:Nat):Int) e))) (tell (bodyOf Try.f168 3) (pa3 s n D a (s.extract a.toNat k.toNat) ((skN s (w64 (((skN s k.toNat:Nat):Int)+1)).toNat:Nat):Int) e 0 1) (.exit 6,(pa3 s n D a (s.extract a.toNat k.toNat) ((skN s (w64 (((skN s k.toNat:Nat):Int)+1)).toNat:Nat):Int) e p z))))) 0 53 (bodyOf Try.f168 0) paK paKa (paO s n D a)).go (dN 32 32334619)=some ([decide (a<((s.size:Nat):Int)),yes (wasS (bodyOf Try.f168 1) (pa1 s n D a a)),!k==a,decInt a k s.size,yes (s.size<2^40/\(0:Int)<=k/\k<=((s.size:Nat):Int)),!((skN s k.toNat:Nat):Int)==((s.size:Nat):Int),true,true,decide ((0:Int)<=((skN s k.toNat:Nat):Int)),decide (((skN s k.toNat:Nat):Int)<((s.size:Nat):Int)),true,true,!bt s ((skN s k.toNat:Nat):Int) != (58:Int),yes (s.size<2^40/\(0:Int)<=w64 (((skN s k.toNat:Nat):Int)+(1:Int))/\w64 (((skN s k.toNat:Nat):Int)+(1:Int))<=((s.size:Nat):Int)),yes (wasS (bodyOf Try.f168 2) (pa2 s n D a (s.extract a.toNat k.toNat) ((skN s (w64 (((skN s k.toNat:Nat):Int)+1)).toNat:Nat):Int) ((skN s (w64 (((skN s k.toNat:Nat):Int)+1)).toNat:Nat):Int))),!e==((skN s (w64 (((skN s k.toNat:Nat):Int)+(1:Int))).toNat:Nat):Int),yes (wasS (bodyOf Try.f168 3) (pa3 s n D a (s.extract a.toNat k.toNat) ((skN s (w64 (((skN s k.toNat:Nat):Int)+1)).toNat:Nat):Int) e 0 1)),!p==(0:Int),decInt (((skN s (w64 (((skN s k.toNat:Nat):Int)+(1:Int))).toNat:Nat):Int)) e s.size,yes ((s.extract (skN s (w64 (((skN s k.toNat:Nat):Int)+(1:Int))).toNat) e.toNat).size<2^40/\(1:Int)<=p/\p<=(32:Int)),!!(valR p (s.extract (skN s (w64 (((skN s k.toNat:Nat):Int)+(1:Int))).toNat) e.toNat)).o,decide (n=n),true,decide ((n+1)*32<=maxCells),yes (s.size<2^40/\(0:Int)<=e/\e<=((s.size:Nat):Int)),!decide (((skN s e.toNat:Nat):Int)<((s.size:Nat):Int)),true,true,true,true,true,!decide (((skN s e.toNat:Nat):Int)<((s.size:Nat):Int))],Ex.normal,{ sl:=slots 138 [(0,.c (.v (.string s))),(5,.c (.sl 0 0 (n+1))),(6,I64 ((skN s e.toNat:Nat):Int))],h:=[some ⟨207,true,.row 4 (n+1) fun k_1=>[.int .i64 (bif decide (k_1=n) then (valR p (s.extract (skN s (w64 (((skN s k.toNat:Nat):Int)+(1:Int))).toNat) e.toNat)).a else (D k_1).k),.int .i64 (bif decide (k_1=n) then (valR p (s.extract (skN s (w64 (((skN s k.toNat:Nat):Int)+(1:Int))).toNat) e.toNat)).b else (D k_1).r),.int .i64 (bif decide (k_1=n) then (valR p (s.extract (skN s (w64 (((skN s k.toNat:Nat):Int)+(1:Int))).toNat) e.toNat)).x else (D k_1).a),.int .i64 (bif decide (k_1=n) then (valR p (s.extract (skN s (w64 (((skN s k.toNat:Nat):Int)+(1:Int))).toNat) e.toNat)).y else (D k_1).w)]⟩] }):=by kernel_rfl
theorem paO_H {s:ByteArray}{n:Nat}{D:Nat->Gl}{a k e p z:Int}:(rT paG (byReg 7 (tell (bodyOf Try.f168 1) (pa1 s n D a a) (.exit 2,(pa1 s n D a k))) (byReg 17 (tell (bodyOf Try.f168 2) (pa2 s n D a (s.extract a.toNat k.toNat) ((skN s (w64 (((skN s k.toNat:Nat):Int)+1)).toNat:Nat):Int) ((skN s (w64 (((skN s k.toNat:Nat):Int)+1)).toNat:Nat):Int)) (.exit 4,(pa2 s n D a (s.extract a.toNat k.toNat) ((skN s (w64 (((skN s k.toNat:Nat):Int)+1)).toNat:Nat):Int) e))) (tell (bodyOf Try.f168 3) (pa3 s n D a (s.extract a.toNat k.toNat) ((skN s (w64 (((skN s k.toNat:Nat):Int)+1)).toNat:Nat):Int) e 0 1) (.exit 6,(pa3 s n D a (s.extract a.toNat k.toNat) ((skN s (w64 (((skN s k.toNat:Nat):Int)+1)).toNat:Nat):Int) e p z))))) 0 53 (bodyOf Try.f168 0) paK paKa (paO s n D a)).go (dN 33 4293747483)=some ([decide (a<((s.size:Nat):Int)),yes (wasS (bodyOf Try.f168 1) (pa1 s n D a a)),!k==a,decInt a k s.size,yes (s.size<2^40/\(0:Int)<=k/\k<=((s.size:Nat):Int)),!((skN s k.toNat:Nat):Int)==((s.size:Nat):Int),true,true,decide ((0:Int)<=((skN s k.toNat:Nat):Int)),decide (((skN s k.toNat:Nat):Int)<((s.size:Nat):Int)),true,true,!bt s ((skN s k.toNat:Nat):Int) != (58:Int),yes (s.size<2^40/\(0:Int)<=w64 (((skN s k.toNat:Nat):Int)+(1:Int))/\w64 (((skN s k.toNat:Nat):Int)+(1:Int))<=((s.size:Nat):Int)),yes (wasS (bodyOf Try.f168 2) (pa2 s n D a (s.extract a.toNat k.toNat) ((skN s (w64 (((skN s k.toNat:Nat):Int)+1)).toNat:Nat):Int) ((skN s (w64 (((skN s k.toNat:Nat):Int)+1)).toNat:Nat):Int))),!e==((skN s (w64 (((skN s k.toNat:Nat):Int)+(1:Int))).toNat:Nat):Int),yes (wasS (bodyOf Try.f168 3) (pa3 s n D a (s.extract a.toNat k.toNat) ((skN s (w64 (((skN s k.toNat:Nat):Int)+1)).toNat:Nat):Int) e 0 1)),!p==(0:Int),decInt (((skN s (w64 (((skN s k.toNat:Nat):Int)+(1:Int))).toNat:Nat):Int)) e s.size,yes ((s.extract (skN s (w64 (((skN s k.toNat:Nat):Int)+(1:Int))).toNat) e.toNat).size<2^40/\(1:Int)<=p/\p<=(32:Int)),!!(valR p (s.extract (skN s (w64 (((skN s k.toNat:Nat):Int)+(1:Int))).toNat) e.toNat)).o,decide (n=n),true,decide ((n+1)*32<=maxCells),yes (s.size<2^40/\(0:Int)<=e/\e<=((s.size:Nat):Int)),decide (((skN s e.toNat:Nat):Int)<((s.size:Nat):Int)),true,true,decide ((0:Int)<=((skN s e.toNat:Nat):Int)),decide (((skN s e.toNat:Nat):Int)<((s.size:Nat):Int)),true,true,!bt s ((skN s e.toNat:Nat):Int) != (59:Int),decide (((skN s e.toNat:Nat):Int)<((s.size:Nat):Int)),yes (s.size<2^40/\(0:Int)<=w64 (((skN s e.toNat:Nat):Int)+(1:Int))/\w64 (((skN s e.toNat:Nat):Int)+(1:Int))<=((s.size:Nat):Int))],Ex.normal,{ sl:=slots 138 [(0,.c (.v (.string s))),(5,.c (.sl 0 0 (n+1))),(6,I64 ((skN s (w64 (((skN s e.toNat:Nat):Int)+(1:Int))).toNat:Nat):Int))],h:=[some ⟨207,true,.row 4 (n+1) fun k_1=>[.int .i64 (bif decide (k_1=n) then (valR p (s.extract (skN s (w64 (((skN s k.toNat:Nat):Int)+(1:Int))).toNat) e.toNat)).a else (D k_1).k),.int .i64 (bif decide (k_1=n) then (valR p (s.extract (skN s (w64 (((skN s k.toNat:Nat):Int)+(1:Int))).toNat) e.toNat)).b else (D k_1).r),.int .i64 (bif decide (k_1=n) then (valR p (s.extract (skN s (w64 (((skN s k.toNat:Nat):Int)+(1:Int))).toNat) e.toNat)).x else (D k_1).a),.int .i64 (bif decide (k_1=n) then (valR p (s.extract (skN s (w64 (((skN s k.toNat:Nat):Int)+(1:Int))).toNat) e.toNat)).y else (D k_1).w)]⟩] }):=by kernel_rfl
theorem paO_e {s:ByteArray}{n:Nat}{D:Nat->Gl}{a:Int}:(rT paG nol 0 53 (bodyOf Try.f168 0) paK paKa (paO s n D a)).go [false]=some ([!decide (a<((s.size:Nat):Int))],Ex.exit 0,{ sl:=slots 138 [(5,.c (.sl 0 0 n))],h:=[some ⟨207,true,.row 4 n fun j=>[.int .i64 (D j).k,.int .i64 (D j).r,.int .i64 (D j).a,.int .i64 (D j).w]⟩] }):=by kernel_rfl
end
section
open Go Go.RowKit
abbrev nilA:AV:=.c (.v (.slice none 0 0))
def paR (n:Nat) (D:Nat->Gl) (a e:Int):St:=⟨slots 138 [(2,nilA),(3,I64 a),(4,I64 e),(5,.c (.sl 0 0 n))],[rowD n D]⟩
def paX (n:Nat) (D:Nat->Gl):St:=⟨slots 138 [(5,.c (.sl 0 0 n))],[rowD n D]⟩
theorem pa_big {s:ByteArray}:(lfun paG nol 60 Try.f168 [StrA s] []).go [] =
 some
  ([decide (((s.size:Nat):Int)>(2000:Int))],
   AV.tup [AV.c (AC.v (Value.slice none 0 0)),I64 (0:Int),I64 (4:Int)],[]):=by kernel_rfl
theorem pa_ret {s:ByteArray}{n:Nat}{D:Nat->Gl}{a e:Int}:(lfun paG (tell (bodyOf Try.f168 0) (paO s 0 (fun _=>zGl) (skN s 0:Nat)) (.ret,paR n D a e)) 60 Try.f168 [StrA s] []).go [false] =
 some
  ([!decide (((s.size:Nat):Int)>(2000:Int)),
    yes (s.size<2^40/\(0:Int)<=(0:Int)/\(0:Int)<=((s.size:Nat):Int)),yes (wasS (bodyOf Try.f168 0) (paO s 0 (fun _=>zGl) (skN s 0:Nat)))],
   AV.tup [AV.c (AC.v (Value.slice none 0 0)),I64 a,I64 e],[]):=by kernel_rfl
theorem pa_ex {s:ByteArray}{n:Nat}{D:Nat->Gl}:(lfun paG (tell (bodyOf Try.f168 0) (paO s 0 (fun _=>zGl) (skN s 0:Nat)) (.exit 0,paX n D)) 60 Try.f168 [StrA s] []).go [false] =
 some
  ([!decide (((s.size:Nat):Int)>(2000:Int)),
    yes (s.size<2^40/\(0:Int)<=(0:Int)/\(0:Int)<=((s.size:Nat):Int)),yes (wasS (bodyOf Try.f168 0) (paO s 0 (fun _=>zGl) (skN s 0:Nat)))],
   AV.tup [AV.c (AC.sl 0 0 n),I64 (0:Int),I64 (0:Int)],
   [some
     {t:=207,own:=true,
      c:=
       Cont.row 4 n fun j=>
        [Value.int IntKind.i64 (D j).k,Value.int IntKind.i64 (D j).r,Value.int IntKind.i64 (D j).a,
         Value.int IntKind.i64 (D j).w] }]):=by kernel_rfl
theorem pa1_loop {s:ByteArray}{n a:Nat}{D:Nat->Gl}(hs:s.size<=2000) (ha:a<=s.size):∃ k:Nat,a<=k/\k<=s.size/\CodeSem paG 0 (.loop (bodyOf Try.f168 1)) (pa1 s n D a a) (.exit 2,pa1 s n D a k):=by
 obtain ⟨h1,h2,h3,h4⟩:=fstN_spec (p:=fun i=>nmc (bt s i)) (s.size-a) a
 generalize fstN (fun i=>nmc (bt s i)) (s.size-a) a=N at h1 h2 h3 h4
 refine ⟨N,h1,by omega,?_⟩
 have key:=loop_of (G:=paG) (n0:=0) (b:=bodyOf Try.f168 1) (fun j=>pa1 s n D a ((a+j:Nat):Int)) (N-a) (e:=.exit 2) (Se:=pa1 s n D a ((a+(N-a):Nat):Int)) (by simp) ?_ fun j hj=>?_
 ·rw [show a+(N-a)=N by omega] at key
  exact key
 ·rw [show a+(N-a)=N by omega]
  by_cases hN:N=s.size
  ·refine rT_sem paG_ok noLoopsS ((rT_go pa1_e1 ?_).trans ?_)
   ·try simp only [Int.toNat_natCast,Nat.zero_add]
    repeat' (first|exact AllT.nil|refine AllT.cons ?_ ?_)
    all_goals first|(with_reducible rfl)|(with_reducible assumption)|exact yes_of ⟨rfl,rfl⟩|exact decide_eq_true (by omega)|exact beq_iff_eq.2 (by omega)|(simp;done)|(simp;omega)
   ·try simp only [Int.toNat_natCast,Nat.zero_add]
    rfl
  ·obtain ⟨b0,b1⟩:=bt_lt s N
   have hb:nmc (bt s N)=false:=h4.resolve_left (by omega)
   have hb':(!nmc (bt s N))=true:=by rw [hb];rfl
   refine rT_sem paG_ok noLoopsS ((rT_go pa1_e2 ?_).trans ?_)
   ·try simp only [Int.toNat_natCast,Nat.zero_add]
    repeat' (first|exact AllT.nil|refine AllT.cons ?_ ?_)
    all_goals first|(with_reducible rfl)|(with_reducible assumption)|exact yes_of ⟨rfl,rfl⟩|exact decide_eq_true (by omega)|exact beq_iff_eq.2 (by omega)|(simp;done)|(simp;omega)
   ·try simp only [Int.toNat_natCast,Nat.zero_add]
    rfl
 ·have e3:=succ64 (j:=a+j) (by omega)
  obtain ⟨b0,b1⟩:=bt_lt s (a+j:Nat)
  have hb:nmc (bt s (a+j:Nat))=true:=h3 (a+j) (by omega) (by omega)
  refine rT_sem paG_ok noLoopsS ((rT_go pa1_go ?_).trans ?_)
  ·try simp only [Int.toNat_natCast,Nat.zero_add,e3]
   repeat' (first|exact AllT.nil|refine AllT.cons ?_ ?_)
   all_goals first|(with_reducible rfl)|(with_reducible assumption)|exact yes_of ⟨rfl,rfl⟩|exact decide_eq_true (by omega)|exact beq_iff_eq.2 (by omega)|(simp;done)|(simp;omega)
  ·try simp only [Int.toNat_natCast,Nat.zero_add,e3]
   rfl
theorem pa2_loop {s:ByteArray}{n v:Nat}{a:Int}{D:Nat->Gl}{nm:ByteArray}(hs:s.size<=2000) (ha:v<=s.size):∃ e:Nat,v<=e/\e<=s.size/\CodeSem paG 0 (.loop (bodyOf Try.f168 2)) (pa2 s n D a nm v v) (.exit 4,pa2 s n D a nm v e):=by
 obtain ⟨h1,h2,h3,h4⟩:=fstN_spec (p:=fun i=>vlc (bt s i)) (s.size-v) v
 generalize fstN (fun i=>vlc (bt s i)) (s.size-v) v=N at h1 h2 h3 h4
 refine ⟨N,h1,by omega,?_⟩
 have key:=loop_of (G:=paG) (n0:=0) (b:=bodyOf Try.f168 2) (fun j=>pa2 s n D a nm v ((v+j:Nat):Int)) (N-v) (e:=.exit 4) (Se:=pa2 s n D a nm v ((v+(N-v):Nat):Int)) (by simp) ?_ fun j hj=>?_
 ·rw [show v+(N-v)=N by omega] at key
  exact key
 ·rw [show v+(N-v)=N by omega]
  by_cases hN:N=s.size
  ·refine rT_sem paG_ok noLoopsS ((rT_go pa2_e1 ?_).trans ?_)
   ·try simp only [Int.toNat_natCast,Nat.zero_add]
    repeat' (first|exact AllT.nil|refine AllT.cons ?_ ?_)
    all_goals first|(with_reducible rfl)|(with_reducible assumption)|exact yes_of ⟨rfl,rfl⟩|exact decide_eq_true (by omega)|exact beq_iff_eq.2 (by omega)|(simp;done)|(simp;omega)
   ·try simp only [Int.toNat_natCast,Nat.zero_add]
    rfl
  ·obtain ⟨b0,b1⟩:=bt_lt s N
   have hb:vlc (bt s N)=false:=h4.resolve_left (by omega)
   have hb':(!vlc (bt s N))=true:=by rw [hb];rfl
   refine rT_sem paG_ok noLoopsS ((rT_go pa2_e2 ?_).trans ?_)
   ·try simp only [Int.toNat_natCast,Nat.zero_add]
    repeat' (first|exact AllT.nil|refine AllT.cons ?_ ?_)
    all_goals first|(with_reducible rfl)|(with_reducible assumption)|exact yes_of ⟨rfl,rfl⟩|exact decide_eq_true (by omega)|exact beq_iff_eq.2 (by omega)|(simp;done)|(simp;omega)
   ·try simp only [Int.toNat_natCast,Nat.zero_add]
    rfl
 ·have e3:=succ64 (j:=v+j) (by omega)
  obtain ⟨b0,b1⟩:=bt_lt s (v+j:Nat)
  have hb:vlc (bt s (v+j:Nat))=true:=h3 (v+j) (by omega) (by omega)
  refine rT_sem paG_ok noLoopsS ((rT_go pa2_go ?_).trans ?_)
  ·try simp only [Int.toNat_natCast,Nat.zero_add,e3]
   repeat' (first|exact AllT.nil|refine AllT.cons ?_ ?_)
   all_goals first|(with_reducible rfl)|(with_reducible assumption)|exact yes_of ⟨rfl,rfl⟩|exact decide_eq_true (by omega)|exact beq_iff_eq.2 (by omega)|(simp;done)|(simp;omega)
  ·try simp only [Int.toNat_natCast,Nat.zero_add,e3]
   rfl
theorem pa3_loop {s:ByteArray}{n:Nat}{a v e:Int}{D:Nat->Gl}{nm:ByteArray}:∀ d i p,i+d=33->1<=i->0<=p->p<=32->∃ p',0<=p'/\p'<=32/\LoopR paG 0 (bodyOf Try.f168 3) (pa3 s n D a nm v e p (i:Nat)) (.exit 6,pa3 s n D a nm v e p' (33:Nat))
 | 0,i,p,h,_,h1,h2=>⟨p,h1,h2,by
  rw [show i=33 by omega]
  exact LoopR.stop (by simp) (rT_sem paG_ok noLoopsS (rT_go pa3_e ⟨rfl,trivial⟩))⟩
 | d+1,i,p,h,h0,h1,h2=>by
  have e3:=succ64 (j:=i) (by omega)
  cases hc:((nmS.getD (0+i) ⟨#[]⟩).toList==nm.toList)
  ·obtain ⟨p',q1,q2,hv⟩:=pa3_loop (s:=s) (n:=n) (a:=a) (v:=v) (e:=e) (D:=D) (nm:=nm) d (i+1) p (by omega) (by omega) h1 h2
   refine ⟨p',q1,q2,LoopR.next ?_ hv⟩
   have hc':(!((nmS.getD (0+i) ⟨#[]⟩).toList==nm.toList))=true:=by rw [hc];rfl
   refine rT_sem paG_ok noLoopsS ((rT_go pa3_f ?_).trans ?_)
   ·simp only [Int.toNat_natCast]
    refine ⟨decide_eq_true (by omega),decide_eq_true (by omega),decide_eq_true (by omega),decide_eq_true (by omega),hc',trivial⟩
   ·rw [e3];rfl
  ·obtain ⟨p',q1,q2,hv⟩:=pa3_loop (s:=s) (n:=n) (a:=a) (v:=v) (e:=e) (D:=D) (nm:=nm) d (i+1) (i:Nat) (by omega) (by omega) (by omega) (by omega)
   refine ⟨p',q1,q2,LoopR.next ?_ hv⟩
   refine rT_sem paG_ok noLoopsS ((rT_go pa3_t ?_).trans ?_)
   ·simp only [Int.toNat_natCast]
    refine ⟨decide_eq_true (by omega),decide_eq_true (by omega),decide_eq_true (by omega),decide_eq_true (by omega),hc,trivial⟩
   ·rw [e3];rfl
end
section
open Go Go.RowKit
def PaEnd (r:Ex × St):Prop:=(∃ n D a e,e ≠ 0/\r=(.ret,paR n D a e))\/∃ n D,r=(.exit 0,paX n D)
theorem PaEnd.err (n:Nat) (D:Nat->Gl) (a e:Int) (h:e ≠ 0):PaEnd (.ret,paR n D a e):=.inl ⟨n,D,a,e,h,rfl⟩
theorem paO_rounds {s:ByteArray}(hs:s.size<=2000):∀ d a n D,a+d=s.size->n<=a->∃ r,LoopR paG 0 (bodyOf Try.f168 0) (paO s n D (a:Nat)) r/\PaEnd r:=by
 intro d
 induction d using Nat.strongRecOn with
 | _ d ih=>
  intro a n D had hna
  by_cases hat:a=s.size
  ·exact ⟨_,LoopR.stop (by simp) (rT_sem paG_ok noLoopsS (rT_go paO_e ⟨by simp;omega,trivial⟩)),.inr ⟨n,D,rfl⟩⟩
  obtain ⟨k,k1,k2,l1⟩:=pa1_loop (n:=n) (D:=D) hs (show a<=s.size by omega)
  by_cases ck:k=a
  ·refine ⟨_,LoopR.stop (by simp) (rT_sem paG_ok (byReg_sem (r:=7) (tell_ok l1) noLoopsS) ((rT_go (paO_A (s:=s) (n:=n) (D:=D) (a:=a) (k:=k) (e:=0) (p:=0) (z:=0)) ?_).trans rfl)),PaEnd.err n D a 5 (by decide)⟩
   repeat' (first|exact AllT.nil|refine AllT.cons ?_ ?_)
   all_goals first|(with_reducible rfl)|(with_reducible assumption)|(rw [cv];rfl)|exact yes_of ⟨rfl,rfl⟩|exact yes_of ⟨by omega,by omega,by omega⟩|exact decide_eq_true (by omega)|exact beq_iff_eq.2 (by omega)|(rw [decide_eq_false (by omega)];rfl)|(unfold decInt;simp only [Bool.and_eq_true,decide_eq_true_eq];omega)|(rw [beq_eq_false_iff_ne.2 (by omega)];rfl)|exact yes_of ⟨hsz,by omega,by omega⟩|(rw [cv];rfl)|(simp;done)
  have hc:=skN_b (s:=s) (a:=k) (by omega)
  generalize hcc:skN s k=c at hc
  by_cases cc:c=s.size
  ·have hw:=paO_B1 (s:=s) (n:=n) (D:=D) (a:=a) (k:=k) (e:=0) (p:=0) (z:=0)
   simp only [Int.toNat_natCast,hcc] at hw
   refine ⟨_,LoopR.stop (by simp) (rT_sem paG_ok (byReg_sem (r:=7) (tell_ok l1) noLoopsS) ((rT_go hw ?_).trans rfl)),PaEnd.err n D c 5 (by decide)⟩
   repeat' (first|exact AllT.nil|refine AllT.cons ?_ ?_)
   all_goals first|(with_reducible rfl)|(with_reducible assumption)|(rw [cv];rfl)|exact yes_of ⟨rfl,rfl⟩|exact yes_of ⟨by omega,by omega,by omega⟩|exact decide_eq_true (by omega)|exact beq_iff_eq.2 (by omega)|(rw [decide_eq_false (by omega)];rfl)|(unfold decInt;simp only [Bool.and_eq_true,decide_eq_true_eq];omega)|(rw [beq_eq_false_iff_ne.2 (by omega)];rfl)|exact yes_of ⟨hsz,by omega,by omega⟩|(rw [cv];rfl)|(simp;done)
  by_cases c58:bt s (c:Nat)=58
  case neg=>
   have hw:=paO_B2 (s:=s) (n:=n) (D:=D) (a:=a) (k:=k) (e:=0) (p:=0) (z:=0)
   simp only [Int.toNat_natCast,hcc] at hw
   have c58':(bt s (c:Nat) != 58)=true:=by simpa using c58
   refine ⟨_,LoopR.stop (by simp) (rT_sem paG_ok (byReg_sem (r:=7) (tell_ok l1) noLoopsS) ((rT_go hw ?_).trans rfl)),PaEnd.err n D c 5 (by decide)⟩
   repeat' (first|exact AllT.nil|refine AllT.cons ?_ ?_)
   all_goals first|(with_reducible rfl)|(with_reducible assumption)|(rw [cv];rfl)|exact yes_of ⟨rfl,rfl⟩|exact yes_of ⟨by omega,by omega,by omega⟩|exact decide_eq_true (by omega)|exact beq_iff_eq.2 (by omega)|(rw [decide_eq_false (by omega)];rfl)|(unfold decInt;simp only [Bool.and_eq_true,decide_eq_true_eq];omega)|(rw [beq_eq_false_iff_ne.2 (by omega)];rfl)|exact yes_of ⟨hsz,by omega,by omega⟩|(rw [cv];rfl)|(simp;done)
  have c58':(!(bt s (c:Nat) != 58))=true:=by rw [c58];rfl
  have w1:w64 ((c:Int)+1)=((c+1:Nat):Int):=succ64 (by omega)
  have hv:=skN_b (s:=s) (a:=c+1) (by omega)
  generalize hvv:skN s (c+1)=v at hv
  obtain ⟨e,e1,e2,l2⟩:=pa2_loop (n:=n) (a:=(a:Int)) (D:=D) (nm:=s.extract a k) hs (show v<=s.size by omega)
  by_cases ce:e=v
  ·have hw:=paO_C (s:=s) (n:=n) (D:=D) (a:=a) (k:=k) (e:=e) (p:=0) (z:=0)
   simp only [Int.toNat_natCast,hcc,w1,hvv] at hw
   refine ⟨_,LoopR.stop (by simp) (rT_sem paG_ok (byReg_sem (r:=7) (tell_ok l1) (byReg_sem (r:=17) (tell_ok l2) noLoopsS)) ((rT_go hw ?_).trans rfl)),PaEnd.err n D v 5 (by decide)⟩
   repeat' (first|exact AllT.nil|refine AllT.cons ?_ ?_)
   all_goals first|(with_reducible rfl)|(with_reducible assumption)|(rw [cv];rfl)|exact yes_of ⟨rfl,rfl⟩|exact yes_of ⟨by omega,by omega,by omega⟩|exact decide_eq_true (by omega)|exact beq_iff_eq.2 (by omega)|(rw [decide_eq_false (by omega)];rfl)|(unfold decInt;simp only [Bool.and_eq_true,decide_eq_true_eq];omega)|(rw [beq_eq_false_iff_ne.2 (by omega)];rfl)|exact yes_of ⟨hsz,by omega,by omega⟩|(rw [cv];rfl)|(simp;done)
  obtain ⟨p,p1,p2,l3⟩:=pa3_loop (s:=s) (n:=n) (a:=(a:Int)) (v:=(v:Int)) (e:=(e:Int)) (D:=D) (nm:=s.extract a k) 32 1 0 (by omega) (by omega) (by omega) (by omega)
  have ℓ:=byReg_sem (r:=7) (tell_ok l1) (byReg_sem (r:=17) (tell_ok l2) (tell_ok l3.sem))
  by_cases cp:p=0
  ·have hw:=paO_D (s:=s) (n:=n) (D:=D) (a:=a) (k:=k) (e:=e) (p:=p) (z:=(33:Nat))
   simp only [Int.toNat_natCast,hcc,w1,hvv] at hw
   refine ⟨_,LoopR.stop (by simp) (rT_sem paG_ok ℓ ((rT_go hw ?_).trans rfl)),PaEnd.err n D a 6 (by decide)⟩
   repeat' (first|exact AllT.nil|refine AllT.cons ?_ ?_)
   all_goals first|(with_reducible rfl)|(with_reducible assumption)|(rw [cv];rfl)|exact yes_of ⟨rfl,rfl⟩|exact yes_of ⟨by omega,by omega,by omega⟩|exact decide_eq_true (by omega)|exact beq_iff_eq.2 (by omega)|(rw [decide_eq_false (by omega)];rfl)|(unfold decInt;simp only [Bool.and_eq_true,decide_eq_true_eq];omega)|(rw [beq_eq_false_iff_ne.2 (by omega)];rfl)|exact yes_of ⟨hsz,by omega,by omega⟩|(rw [cv];rfl)|(simp;done)
  have cp':(!(p==0))=true:=by simpa using cp
  have hes:=skN_b (s:=s) (a:=e) (by omega)
  have hsz:(s.extract v e).size<2^40:=by simp only [ByteArray.size_extract];omega
  have hcell:decide ((n+1)*32<=maxCells)=true:=decide_eq_true (by unfold maxCells;omega)
  cases cv:(valR p (s.extract v e)).o
  ·have hw:=paO_E (s:=s) (n:=n) (D:=D) (a:=a) (k:=k) (e:=e) (p:=p) (z:=(33:Nat))
   simp only [Int.toNat_natCast,hcc,w1,hvv] at hw
   refine ⟨_,LoopR.stop (by simp) (rT_sem paG_ok ℓ ((rT_go hw ?_).trans rfl)),PaEnd.err n D v 7 (by decide)⟩
   repeat' (first|exact AllT.nil|refine AllT.cons ?_ ?_)
   all_goals first|(with_reducible rfl)|(with_reducible assumption)|(rw [cv];rfl)|exact yes_of ⟨rfl,rfl⟩|exact yes_of ⟨by omega,by omega,by omega⟩|exact decide_eq_true (by omega)|exact beq_iff_eq.2 (by omega)|(rw [decide_eq_false (by omega)];rfl)|(unfold decInt;simp only [Bool.and_eq_true,decide_eq_true_eq];omega)|(rw [beq_eq_false_iff_ne.2 (by omega)];rfl)|exact yes_of ⟨hsz,by omega,by omega⟩|(rw [cv];rfl)|(simp;done)
  generalize hee:skN s e=a' at hes
  by_cases ca:a'=s.size
  ·obtain ⟨r,hr,hp⟩:=ih 0 (by omega) a' (n+1) (appG D n ⟨(valR p (s.extract v e)).a,(valR p (s.extract v e)).b,(valR p (s.extract v e)).x,(valR p (s.extract v e)).y⟩) (by omega) (by omega)
   have hw:=paO_G (s:=s) (n:=n) (D:=D) (a:=a) (k:=k) (e:=e) (p:=p) (z:=(33:Nat))
   simp only [Int.toNat_natCast,hcc,w1,hvv,hee] at hw
   refine ⟨r,LoopR.next (rT_sem paG_ok ℓ ((rT_go hw ?_).trans rfl)) hr,hp⟩
   repeat' (first|exact AllT.nil|refine AllT.cons ?_ ?_)
   all_goals first|(with_reducible rfl)|(with_reducible assumption)|(rw [cv];rfl)|exact yes_of ⟨rfl,rfl⟩|exact yes_of ⟨by omega,by omega,by omega⟩|exact decide_eq_true (by omega)|exact beq_iff_eq.2 (by omega)|(rw [decide_eq_false (by omega)];rfl)|(unfold decInt;simp only [Bool.and_eq_true,decide_eq_true_eq];omega)|(rw [beq_eq_false_iff_ne.2 (by omega)];rfl)|exact yes_of ⟨hsz,by omega,by omega⟩|(rw [cv];rfl)|(simp;done)
  by_cases c59:bt s (a':Nat)=59
  case neg=>
   have c59':(bt s (a':Nat) != 59)=true:=by simpa using c59
   have hw:=paO_F (s:=s) (n:=n) (D:=D) (a:=a) (k:=k) (e:=e) (p:=p) (z:=(33:Nat))
   simp only [Int.toNat_natCast,hcc,w1,hvv,hee] at hw
   refine ⟨_,LoopR.stop (by simp) (rT_sem paG_ok ℓ ((rT_go hw ?_).trans rfl)),PaEnd.err (n+1) (appG D n ⟨(valR p (s.extract v e)).a,(valR p (s.extract v e)).b,(valR p (s.extract v e)).x,(valR p (s.extract v e)).y⟩) a' 5 (by decide)⟩
   repeat' (first|exact AllT.nil|refine AllT.cons ?_ ?_)
   all_goals first|(with_reducible rfl)|(with_reducible assumption)|(rw [cv];rfl)|exact yes_of ⟨rfl,rfl⟩|exact yes_of ⟨by omega,by omega,by omega⟩|exact decide_eq_true (by omega)|exact beq_iff_eq.2 (by omega)|(rw [decide_eq_false (by omega)];rfl)|(unfold decInt;simp only [Bool.and_eq_true,decide_eq_true_eq];omega)|(rw [beq_eq_false_iff_ne.2 (by omega)];rfl)|exact yes_of ⟨hsz,by omega,by omega⟩|(rw [cv];rfl)|(simp;done)
  have c59':(!(bt s (a':Nat) != 59))=true:=by rw [c59];rfl
  have w2:w64 ((a':Int)+1)=((a'+1:Nat):Int):=succ64 (by omega)
  have hf:=skN_b (s:=s) (a:=a'+1) (by omega)
  obtain ⟨r,hr,hp⟩:=ih (s.size-skN s (a'+1)) (by omega) (skN s (a'+1)) (n+1) (appG D n ⟨(valR p (s.extract v e)).a,(valR p (s.extract v e)).b,(valR p (s.extract v e)).x,(valR p (s.extract v e)).y⟩) (by omega) (by omega)
  have hw:=paO_H (s:=s) (n:=n) (D:=D) (a:=a) (k:=k) (e:=e) (p:=p) (z:=(33:Nat))
  simp only [Int.toNat_natCast,hcc,w1,hvv,hee,w2] at hw
  refine ⟨r,LoopR.next (rT_sem paG_ok ℓ ((rT_go hw ?_).trans rfl)) hr,hp⟩
  repeat' (first|exact AllT.nil|refine AllT.cons ?_ ?_)
  all_goals first|(with_reducible rfl)|(with_reducible assumption)|(rw [cv];rfl)|exact yes_of ⟨rfl,rfl⟩|exact yes_of ⟨by omega,by omega,by omega⟩|exact decide_eq_true (by omega)|exact beq_iff_eq.2 (by omega)|(rw [decide_eq_false (by omega)];rfl)|(unfold decInt;simp only [Bool.and_eq_true,decide_eq_true_eq];omega)|(rw [beq_eq_false_iff_ne.2 (by omega)];rfl)|exact yes_of ⟨hsz,by omega,by omega⟩|(rw [cv];rfl)|(simp;done)
inductive PaR where
 | err (a e:Int)
 | ok (n:Nat) (D:Nat->Gl)
noncomputable def PaR.res:PaR->AV × AHeap
 | .err a e=>(.tup [nilA,I64 a,I64 e],[])
 | .ok n D=>(.tup [.c (.sl 0 0 n),I64 0,I64 0],[rowD n D])
def PaR.good:PaR->Prop
 | .err a e=>e ≠ 0
 | .ok n D=>True
def PaOk (s:ByteArray) (r:PaR):Prop:=r.good/\∃ ℓ,LoopsSem paG 0 ℓ/\(lfun paG ℓ 60 Try.f168 [StrA s] []).eval=some r.res
theorem pa_exi (s:ByteArray):∃ r,PaOk s r:=by
 by_cases hb:s.size>2000
 ·exact ⟨.err 0 4,by show (4:Int) ≠ 0;decide,nol,noLoopsS,(Tr.go_eval pa_big ⟨decide_eq_true (by omega),trivial⟩).trans rfl⟩
 ·have h0:=skN_b (s:=s) (a:=0) (by omega)
  have hb':(!decide ((s.size:Int)>2000))=true:=by rw [decide_eq_false (by omega)];rfl
  obtain ⟨r,hr,hp⟩:=paO_rounds (s:=s) (by omega) (s.size-skN s 0) (skN s 0) 0 (fun _=>zGl) (by omega) (by omega)
  rcases hp with ⟨n,D,a,e,he,rfl⟩ | ⟨n,D,rfl⟩
  ·exact ⟨.err a e,he,_,tell_ok hr.sem,(Tr.go_eval pa_ret ⟨hb',yes_of ⟨by omega,by omega,by omega⟩,yes_of ⟨rfl,rfl⟩,trivial⟩).trans rfl⟩
  ·exact ⟨.ok n D,trivial,_,tell_ok hr.sem,(Tr.go_eval pa_ex ⟨hb',yes_of ⟨by omega,by omega,by omega⟩,yes_of ⟨rfl,rfl⟩,trivial⟩).trans rfl⟩
noncomputable def paV (s:ByteArray):PaR:=Classical.choose (pa_exi s)
theorem paV_ok (s:ByteArray):PaOk s (paV s):=Classical.choose_spec (pa_exi s)
def PaR.a:PaR->Int
 | .err a _=>a
 | .ok _ _=>0
def PaR.e:PaR->Int
 | .err _ e=>e
 | .ok _ _=>0
def PaR.n:PaR->Nat
 | .err _ _=>0
 | .ok n _=>n
def PaR.D:PaR->Nat->Gl
 | .err _ _=>fun _=>zGl
 | .ok _ D=>D
noncomputable def paF:Spec:=fun args h=>match args,h with
 | [.c (.v (.string s))],[]=>.ite ((paV s).e==0) (.ret (.tup [.c (.sl 0 0 (paV s).n),I64 0,I64 0],[rowD (paV s).n (paV s).D])) (.ret (.tup [nilA,I64 (paV s).a,I64 (paV s).e],[]))
 | _,_=>.fail
theorem paF_ok:SpecOk Try.prog 168 paF:=by
 refine knownS KPA_ok Try.func168 fun args h r he=>?_
 unfold paF at he
 split at he
 ·rename_i s
  obtain ⟨hg,ℓ,hl,hw⟩:=paV_ok s
  refine ⟨_,[],60,ℓ,hl,hw.trans ?_⟩
  rw [<-he]
  cases hv:paV s with
  | err a e=>
   rw [hv] at hg
   have hg':e ≠ 0:=hg
   have:(e==0)=false:=by simpa using hg'
   simp only [PaR.e,this]
   rfl
  | ok n D=>rfl
 ·cases he
end
section
open Go Go.RowKit
noncomputable def KON:Known:=[(170,namF)]
theorem KON_ok:KnownOk KON:=consK namF_ok (by kernel_rfl) nilK
noncomputable def onG:Ctx2:=GT KON (fun _=>[]) 0 []
def oT0:List ByteArray:=[(⟨#[48]⟩:ByteArray),(⟨#[49,48,112,120]⟩:ByteArray),(⟨#[49,46,53,112,120]⟩:ByteArray),(⟨#[54,52,112,120]⟩:ByteArray),(⟨#[49,48,48,112,120]⟩:ByteArray),(⟨#[48,46,48,49,54,112,120]⟩:ByteArray),(⟨#[51,51,46,51,51,51,112,120]⟩:ByteArray),(⟨#[50,48,48,112,120]⟩:ByteArray)]
def oT1:List ByteArray:=[(⟨#[98,108,111,99,107]⟩:ByteArray),(⟨#[105,110,108,105,110,101]⟩:ByteArray),(⟨#[102,108,101,120]⟩:ByteArray),(⟨#[110,111,110,101]⟩:ByteArray),(⟨#[98,108,111,99,107]⟩:ByteArray),(⟨#[102,108,101,120]⟩:ByteArray),(⟨#[98,108,111,99,107]⟩:ByteArray),(⟨#[105,110,108,105,110,101]⟩:ByteArray)]
def oT2:List ByteArray:=[(⟨#[]⟩:ByteArray),(⟨#[45]⟩:ByteArray)]
def oT3:List ByteArray:=[(⟨#[114,111,119]⟩:ByteArray),(⟨#[114,111,119,45,114,101,118,101,114,115,101]⟩:ByteArray),(⟨#[99,111,108,117,109,110]⟩:ByteArray),(⟨#[99,111,108,117,109,110,45,114,101,118,101,114,115,101]⟩:ByteArray)]
def oT4:List ByteArray:=[(⟨#[110,111,119,114,97,112]⟩:ByteArray),(⟨#[119,114,97,112]⟩:ByteArray),(⟨#[119,114,97,112,45,114,101,118,101,114,115,101]⟩:ByteArray),(⟨#[119,114,97,112]⟩:ByteArray)]
def oT5:List ByteArray:=[(⟨#[48]⟩:ByteArray),(⟨#[49]⟩:ByteArray),(⟨#[50]⟩:ByteArray),(⟨#[55]⟩:ByteArray)]
def oT6:List ByteArray:=[(⟨#[48]⟩:ByteArray),(⟨#[49]⟩:ByteArray),(⟨#[45,49]⟩:ByteArray),(⟨#[49,48,48,48]⟩:ByteArray)]
def oT7:List ByteArray:=[(⟨#[115,116,97,114,116]⟩:ByteArray),(⟨#[101,110,100]⟩:ByteArray),(⟨#[99,101,110,116,101,114]⟩:ByteArray),(⟨#[98,101,116,119,101,101,110]⟩:ByteArray),(⟨#[97,114,111,117,110,100]⟩:ByteArray)]
def oT8:List ByteArray:=[(⟨#[115,116,97,114,116]⟩:ByteArray),(⟨#[101,110,100]⟩:ByteArray),(⟨#[99,101,110,116,101,114]⟩:ByteArray),(⟨#[115,116,114,101,116,99,104]⟩:ByteArray)]
def oT9:List ByteArray:=[(⟨#[97,117,116,111]⟩:ByteArray),(⟨#[115,116,97,114,116]⟩:ByteArray),(⟨#[101,110,100]⟩:ByteArray),(⟨#[99,101,110,116,101,114]⟩:ByteArray),(⟨#[115,116,114,101,116,99,104]⟩:ByteArray)]
def oT10:List ByteArray:=[(⟨#[108,101,102,116]⟩:ByteArray),(⟨#[114,105,103,104,116]⟩:ByteArray),(⟨#[99,101,110,116,101,114]⟩:ByteArray)]
def oT11:List ByteArray:=[(⟨#[110,111,114,109,97,108]⟩:ByteArray),(⟨#[110,111,119,114,97,112]⟩:ByteArray),(⟨#[112,114,101]⟩:ByteArray)]
def oT12:List ByteArray:=[(⟨#[118,105,115,105,98,108,101]⟩:ByteArray),(⟨#[104,105,100,100,101,110]⟩:ByteArray)]
def oT13:List ByteArray:=[(⟨#[45,49,112,120]⟩:ByteArray),(⟨#[49,46,50,51,52,53,112,120]⟩:ByteArray),(⟨#[49,48,49]⟩:ByteArray),(⟨#[97,117,116,111]⟩:ByteArray),(⟨#[120]⟩:ByteArray),(⟨#[53]⟩:ByteArray),(⟨#[49,48,48,48,48,48,112,120]⟩:ByteArray),(⟨#[49,46,37]⟩:ByteArray)]
def oT14:List ByteArray:=[(⟨#[58]⟩:ByteArray),(⟨#[58,32]⟩:ByteArray),(⟨#[32,58,32]⟩:ByteArray)]
abbrev oP (n:Int):Int:=w64 ((and64 n 255).tmod 33+(1:Int))
abbrev oS (n:Int) (k:Nat):Int:=n.fdiv (2^min k IntKind.i64.bits)
abbrev eB:ByteArray:=⟨#[]⟩
theorem on_at {n:Int}:(lfun onG nol 60 Try.f167 [I64 n] []).go []=some ([true,decide (oP n<((33:Nat):Int)),decide ((0:Int)<=oP n),decide (oP n<((33:Nat):Int)),decide (0+(oP n).toNat<33),true,decide ((0:Int)<=and64 (oS n 8) 7),decide (and64 (oS n 8) 7<((8:Nat):Int)),decide (0+(and64 (oS n 8) 7).toNat<8),true,decide ((0:Int)<=and64 (oS n 11) 7),decide (and64 (oS n 11) 7<((8:Nat):Int)),decide (0+(and64 (oS n 11) 7).toNat<8),oP n==(1:Int),true,decide ((0:Int)<=and64 (oS n 14) 7),decide (and64 (oS n 14) 7<((8:Nat):Int)),decide (0+(and64 (oS n 14) 7).toNat<8),true,and64 (oS n 24) 31==(7:Int),true,decide ((0:Int)<=and64 (oS n 29) 7),decide (and64 (oS n 29) 7<((8:Nat):Int)),decide (0+(and64 (oS n 29) 7).toNat<8),true,true,decide ((0:Int)<=(and64 (oS n 32) 255).tmod 3),decide ((and64 (oS n 32) 255).tmod 3<((3:Nat):Int)),decide (0+((and64 (oS n 32) 255).tmod 3).toNat<3),decide ((((nmS.getD (0+(oP n).toNat) eB).size+(oT14.getD (0+((and64 (oS n 32) 255).tmod 3).toNat) eB).size:Nat):Int)<=IntKind.i64.max),decide ((((nmS.getD (0+(oP n).toNat) eB++oT14.getD (0+((and64 (oS n 32) 255).tmod 3).toNat) eB).size+(oT13.getD (0+(and64 (oS n 29) 7).toNat) eB).size:Nat):Int)<=IntKind.i64.max)],.c (.v (.string (nmS.getD (0+(oP n).toNat) eB++oT14.getD (0+((and64 (oS n 32) 255).tmod 3).toNat) eB++oT13.getD (0+(and64 (oS n 29) 7).toNat) eB))),[]):=by kernel_rfl
theorem on_af {n:Int}:(lfun onG nol 60 Try.f167 [I64 n] []).go (dN 20 524287)=some ([true,decide (oP n<((33:Nat):Int)),decide ((0:Int)<=oP n),decide (oP n<((33:Nat):Int)),decide (0+(oP n).toNat<33),true,decide ((0:Int)<=and64 (oS n 8) 7),decide (and64 (oS n 8) 7<((8:Nat):Int)),decide (0+(and64 (oS n 8) 7).toNat<8),true,decide ((0:Int)<=and64 (oS n 11) 7),decide (and64 (oS n 11) 7<((8:Nat):Int)),decide (0+(and64 (oS n 11) 7).toNat<8),oP n==(1:Int),true,decide ((0:Int)<=and64 (oS n 14) 7),decide (and64 (oS n 14) 7<((8:Nat):Int)),decide (0+(and64 (oS n 14) 7).toNat<8),true,!and64 (oS n 24) 31==(7:Int),true,true,decide ((0:Int)<=(and64 (oS n 32) 255).tmod 3),decide ((and64 (oS n 32) 255).tmod 3<((3:Nat):Int)),decide (0+((and64 (oS n 32) 255).tmod 3).toNat<3),decide ((((nmS.getD (0+(oP n).toNat) eB).size+(oT14.getD (0+((and64 (oS n 32) 255).tmod 3).toNat) eB).size:Nat):Int)<=IntKind.i64.max),decide ((((nmS.getD (0+(oP n).toNat) eB++oT14.getD (0+((and64 (oS n 32) 255).tmod 3).toNat) eB).size+(oT1.getD (0+(and64 (oS n 14) 7).toNat) eB).size:Nat):Int)<=IntKind.i64.max)],.c (.v (.string (nmS.getD (0+(oP n).toNat) eB++oT14.getD (0+((and64 (oS n 32) 255).tmod 3).toNat) eB++oT1.getD (0+(and64 (oS n 14) 7).toNat) eB))),[]):=by kernel_rfl
theorem on_bt {n:Int}:(lfun onG nol 60 Try.f167 [I64 n] []).go (dN 38 8191)=some ([true,decide (oP n<((33:Nat):Int)),decide ((0:Int)<=oP n),decide (oP n<((33:Nat):Int)),decide (0+(oP n).toNat<33),true,decide ((0:Int)<=and64 (oS n 8) 7),decide (and64 (oS n 8) 7<((8:Nat):Int)),decide (0+(and64 (oS n 8) 7).toNat<8),true,decide ((0:Int)<=and64 (oS n 11) 7),decide (and64 (oS n 11) 7<((8:Nat):Int)),decide (0+(and64 (oS n 11) 7).toNat<8),!oP n==(1:Int),!decide (oP n>=(8:Int)),true,true,true,!decide (oP n>=(12:Int)),true,true,true,true,true,!oP n==(31:Int),!oP n==(20:Int),!oP n==(21:Int),!oP n==(23:Int),true,true,!oP n==(24:Int),!oP n==(25:Int),!oP n==(26:Int),!oP n==(27:Int),!oP n==(28:Int),!oP n==(29:Int),!oP n==(30:Int),!oP n==(32:Int),true,and64 (oS n 24) 31==(7:Int),true,decide ((0:Int)<=and64 (oS n 29) 7),decide (and64 (oS n 29) 7<((8:Nat):Int)),decide (0+(and64 (oS n 29) 7).toNat<8),true,true,decide ((0:Int)<=(and64 (oS n 32) 255).tmod 3),decide ((and64 (oS n 32) 255).tmod 3<((3:Nat):Int)),decide (0+((and64 (oS n 32) 255).tmod 3).toNat<3),decide ((((nmS.getD (0+(oP n).toNat) eB).size+(oT14.getD (0+((and64 (oS n 32) 255).tmod 3).toNat) eB).size:Nat):Int)<=IntKind.i64.max),decide ((((nmS.getD (0+(oP n).toNat) eB++oT14.getD (0+((and64 (oS n 32) 255).tmod 3).toNat) eB).size+(oT13.getD (0+(and64 (oS n 29) 7).toNat) eB).size:Nat):Int)<=IntKind.i64.max)],.c (.v (.string (nmS.getD (0+(oP n).toNat) eB++oT14.getD (0+((and64 (oS n 32) 255).tmod 3).toNat) eB++oT13.getD (0+(and64 (oS n 29) 7).toNat) eB))),[]):=by kernel_rfl
theorem on_bf {n:Int}:(lfun onG nol 60 Try.f167 [I64 n] []).go (dN 40 274877915135)=some ([true,decide (oP n<((33:Nat):Int)),decide ((0:Int)<=oP n),decide (oP n<((33:Nat):Int)),decide (0+(oP n).toNat<33),true,decide ((0:Int)<=and64 (oS n 8) 7),decide (and64 (oS n 8) 7<((8:Nat):Int)),decide (0+(and64 (oS n 8) 7).toNat<8),true,decide ((0:Int)<=and64 (oS n 11) 7),decide (and64 (oS n 11) 7<((8:Nat):Int)),decide (0+(and64 (oS n 11) 7).toNat<8),!oP n==(1:Int),!decide (oP n>=(8:Int)),true,true,true,!decide (oP n>=(12:Int)),true,true,true,true,true,!oP n==(31:Int),!oP n==(20:Int),!oP n==(21:Int),!oP n==(23:Int),true,true,!oP n==(24:Int),!oP n==(25:Int),!oP n==(26:Int),!oP n==(27:Int),!oP n==(28:Int),!oP n==(29:Int),!oP n==(30:Int),!oP n==(32:Int),true,!and64 (oS n 24) 31==(7:Int),true,true,decide ((0:Int)<=(and64 (oS n 32) 255).tmod 3),decide ((and64 (oS n 32) 255).tmod 3<((3:Nat):Int)),decide (0+((and64 (oS n 32) 255).tmod 3).toNat<3),decide ((((nmS.getD (0+(oP n).toNat) eB).size+(oT14.getD (0+((and64 (oS n 32) 255).tmod 3).toNat) eB).size:Nat):Int)<=IntKind.i64.max),decide ((((nmS.getD (0+(oP n).toNat) eB++oT14.getD (0+((and64 (oS n 32) 255).tmod 3).toNat) eB).size+([oT0.getD (0+(and64 (oS n 8) 7).toNat) eB,oT0.getD (0+(and64 (oS n 8) 7).toNat) eB,oT0.getD (0+(and64 (oS n 8) 7).toNat) eB,(⟨#[53,48,37]⟩:ByteArray),(⟨#[49,48,48,37]⟩:ByteArray),(⟨#[51,51,46,51,51,37]⟩:ByteArray),(⟨#[97,117,116,111]⟩:ByteArray),(⟨#[110,111,110,101]⟩:ByteArray)].getD (0+(and64 (oS n 11) 7).toNat) eB).size:Nat):Int)<=IntKind.i64.max)],.c (.v (.string (nmS.getD (0+(oP n).toNat) eB++oT14.getD (0+((and64 (oS n 32) 255).tmod 3).toNat) eB++[oT0.getD (0+(and64 (oS n 8) 7).toNat) eB,oT0.getD (0+(and64 (oS n 8) 7).toNat) eB,oT0.getD (0+(and64 (oS n 8) 7).toNat) eB,(⟨#[53,48,37]⟩:ByteArray),(⟨#[49,48,48,37]⟩:ByteArray),(⟨#[51,51,46,51,51,37]⟩:ByteArray),(⟨#[97,117,116,111]⟩:ByteArray),(⟨#[110,111,110,101]⟩:ByteArray)].getD (0+(and64 (oS n 11) 7).toNat) eB))),[]):=by kernel_rfl
theorem on_ct {n:Int}:(lfun onG nol 60 Try.f167 [I64 n] []).go (dN 14 8191)=some ([true,decide (oP n<((33:Nat):Int)),decide ((0:Int)<=oP n),decide (oP n<((33:Nat):Int)),decide (0+(oP n).toNat<33),true,decide ((0:Int)<=and64 (oS n 8) 7),decide (and64 (oS n 8) 7<((8:Nat):Int)),decide (0+(and64 (oS n 8) 7).toNat<8),true,decide ((0:Int)<=and64 (oS n 11) 7),decide (and64 (oS n 11) 7<((8:Nat):Int)),decide (0+(and64 (oS n 11) 7).toNat<8),!oP n==(1:Int),decide (oP n>=(8:Int)),true,true,decide (oP n<=(11:Int)),true,decide ((0:Int)<=and64 (oS n 14) 1),decide (and64 (oS n 14) 1<((2:Nat):Int)),decide (0+(and64 (oS n 14) 1).toNat<2),decide ((((oT2.getD (0+(and64 (oS n 14) 1).toNat) eB).size+([oT0.getD (0+(and64 (oS n 8) 7).toNat) eB,oT0.getD (0+(and64 (oS n 8) 7).toNat) eB,oT0.getD (0+(and64 (oS n 8) 7).toNat) eB,(⟨#[53,48,37]⟩:ByteArray),(⟨#[49,48,48,37]⟩:ByteArray),(⟨#[51,51,46,51,51,37]⟩:ByteArray),(⟨#[97,117,116,111]⟩:ByteArray),(⟨#[110,111,110,101]⟩:ByteArray)].getD (0+(and64 (oS n 11) 7).toNat) eB).size:Nat):Int)<=IntKind.i64.max),true,and64 (oS n 24) 31==(7:Int),true,decide ((0:Int)<=and64 (oS n 29) 7),decide (and64 (oS n 29) 7<((8:Nat):Int)),decide (0+(and64 (oS n 29) 7).toNat<8),true,true,decide ((0:Int)<=(and64 (oS n 32) 255).tmod 3),decide ((and64 (oS n 32) 255).tmod 3<((3:Nat):Int)),decide (0+((and64 (oS n 32) 255).tmod 3).toNat<3),decide ((((nmS.getD (0+(oP n).toNat) eB).size+(oT14.getD (0+((and64 (oS n 32) 255).tmod 3).toNat) eB).size:Nat):Int)<=IntKind.i64.max),decide ((((nmS.getD (0+(oP n).toNat) eB++oT14.getD (0+((and64 (oS n 32) 255).tmod 3).toNat) eB).size+(oT13.getD (0+(and64 (oS n 29) 7).toNat) eB).size:Nat):Int)<=IntKind.i64.max)],.c (.v (.string (nmS.getD (0+(oP n).toNat) eB++oT14.getD (0+((and64 (oS n 32) 255).tmod 3).toNat) eB++oT13.getD (0+(and64 (oS n 29) 7).toNat) eB))),[]):=by kernel_rfl
theorem on_cf {n:Int}:(lfun onG nol 60 Try.f167 [I64 n] []).go (dN 25 16769023)=some ([true,decide (oP n<((33:Nat):Int)),decide ((0:Int)<=oP n),decide (oP n<((33:Nat):Int)),decide (0+(oP n).toNat<33),true,decide ((0:Int)<=and64 (oS n 8) 7),decide (and64 (oS n 8) 7<((8:Nat):Int)),decide (0+(and64 (oS n 8) 7).toNat<8),true,decide ((0:Int)<=and64 (oS n 11) 7),decide (and64 (oS n 11) 7<((8:Nat):Int)),decide (0+(and64 (oS n 11) 7).toNat<8),!oP n==(1:Int),decide (oP n>=(8:Int)),true,true,decide (oP n<=(11:Int)),true,decide ((0:Int)<=and64 (oS n 14) 1),decide (and64 (oS n 14) 1<((2:Nat):Int)),decide (0+(and64 (oS n 14) 1).toNat<2),decide ((((oT2.getD (0+(and64 (oS n 14) 1).toNat) eB).size+([oT0.getD (0+(and64 (oS n 8) 7).toNat) eB,oT0.getD (0+(and64 (oS n 8) 7).toNat) eB,oT0.getD (0+(and64 (oS n 8) 7).toNat) eB,(⟨#[53,48,37]⟩:ByteArray),(⟨#[49,48,48,37]⟩:ByteArray),(⟨#[51,51,46,51,51,37]⟩:ByteArray),(⟨#[97,117,116,111]⟩:ByteArray),(⟨#[110,111,110,101]⟩:ByteArray)].getD (0+(and64 (oS n 11) 7).toNat) eB).size:Nat):Int)<=IntKind.i64.max),true,!and64 (oS n 24) 31==(7:Int),true,true,decide ((0:Int)<=(and64 (oS n 32) 255).tmod 3),decide ((and64 (oS n 32) 255).tmod 3<((3:Nat):Int)),decide (0+((and64 (oS n 32) 255).tmod 3).toNat<3),decide ((((nmS.getD (0+(oP n).toNat) eB).size+(oT14.getD (0+((and64 (oS n 32) 255).tmod 3).toNat) eB).size:Nat):Int)<=IntKind.i64.max),decide ((((nmS.getD (0+(oP n).toNat) eB++oT14.getD (0+((and64 (oS n 32) 255).tmod 3).toNat) eB).size+(oT2.getD (0+(and64 (oS n 14) 1).toNat) eB++[oT0.getD (0+(and64 (oS n 8) 7).toNat) eB,oT0.getD (0+(and64 (oS n 8) 7).toNat) eB,oT0.getD (0+(and64 (oS n 8) 7).toNat) eB,(⟨#[53,48,37]⟩:ByteArray),(⟨#[49,48,48,37]⟩:ByteArray),(⟨#[51,51,46,51,51,37]⟩:ByteArray),(⟨#[97,117,116,111]⟩:ByteArray),(⟨#[110,111,110,101]⟩:ByteArray)].getD (0+(and64 (oS n 11) 7).toNat) eB).size:Nat):Int)<=IntKind.i64.max)],.c (.v (.string (nmS.getD (0+(oP n).toNat) eB++oT14.getD (0+((and64 (oS n 32) 255).tmod 3).toNat) eB++(oT2.getD (0+(and64 (oS n 14) 1).toNat) eB++[oT0.getD (0+(and64 (oS n 8) 7).toNat) eB,oT0.getD (0+(and64 (oS n 8) 7).toNat) eB,oT0.getD (0+(and64 (oS n 8) 7).toNat) eB,(⟨#[53,48,37]⟩:ByteArray),(⟨#[49,48,48,37]⟩:ByteArray),(⟨#[51,51,46,51,51,37]⟩:ByteArray),(⟨#[97,117,116,111]⟩:ByteArray),(⟨#[110,111,110,101]⟩:ByteArray)].getD (0+(and64 (oS n 11) 7).toNat) eB)))),[]):=by kernel_rfl
theorem on_dt {n:Int}:(lfun onG nol 60 Try.f167 [I64 n] []).go (dN 18 122879)=some ([true,decide (oP n<((33:Nat):Int)),decide ((0:Int)<=oP n),decide (oP n<((33:Nat):Int)),decide (0+(oP n).toNat<33),true,decide ((0:Int)<=and64 (oS n 8) 7),decide (and64 (oS n 8) 7<((8:Nat):Int)),decide (0+(and64 (oS n 8) 7).toNat<8),true,decide ((0:Int)<=and64 (oS n 11) 7),decide (and64 (oS n 11) 7<((8:Nat):Int)),decide (0+(and64 (oS n 11) 7).toNat<8),!oP n==(1:Int),decide (oP n>=(8:Int)),true,true,!decide (oP n<=(11:Int)),decide (oP n>=(12:Int)),true,true,decide (oP n<=(19:Int)),true,true,true,true,and64 (oS n 24) 31==(7:Int),true,decide ((0:Int)<=and64 (oS n 29) 7),decide (and64 (oS n 29) 7<((8:Nat):Int)),decide (0+(and64 (oS n 29) 7).toNat<8),true,true,decide ((0:Int)<=(and64 (oS n 32) 255).tmod 3),decide ((and64 (oS n 32) 255).tmod 3<((3:Nat):Int)),decide (0+((and64 (oS n 32) 255).tmod 3).toNat<3),decide ((((nmS.getD (0+(oP n).toNat) eB).size+(oT14.getD (0+((and64 (oS n 32) 255).tmod 3).toNat) eB).size:Nat):Int)<=IntKind.i64.max),decide ((((nmS.getD (0+(oP n).toNat) eB++oT14.getD (0+((and64 (oS n 32) 255).tmod 3).toNat) eB).size+(oT13.getD (0+(and64 (oS n 29) 7).toNat) eB).size:Nat):Int)<=IntKind.i64.max)],.c (.v (.string (nmS.getD (0+(oP n).toNat) eB++oT14.getD (0+((and64 (oS n 32) 255).tmod 3).toNat) eB++oT13.getD (0+(and64 (oS n 29) 7).toNat) eB))),[]):=by kernel_rfl
theorem on_df {n:Int}:(lfun onG nol 60 Try.f167 [I64 n] []).go (dN 27 66969599)=some ([true,decide (oP n<((33:Nat):Int)),decide ((0:Int)<=oP n),decide (oP n<((33:Nat):Int)),decide (0+(oP n).toNat<33),true,decide ((0:Int)<=and64 (oS n 8) 7),decide (and64 (oS n 8) 7<((8:Nat):Int)),decide (0+(and64 (oS n 8) 7).toNat<8),true,decide ((0:Int)<=and64 (oS n 11) 7),decide (and64 (oS n 11) 7<((8:Nat):Int)),decide (0+(and64 (oS n 11) 7).toNat<8),!oP n==(1:Int),decide (oP n>=(8:Int)),true,true,!decide (oP n<=(11:Int)),decide (oP n>=(12:Int)),true,true,decide (oP n<=(19:Int)),true,true,true,true,!and64 (oS n 24) 31==(7:Int),true,true,decide ((0:Int)<=(and64 (oS n 32) 255).tmod 3),decide ((and64 (oS n 32) 255).tmod 3<((3:Nat):Int)),decide (0+((and64 (oS n 32) 255).tmod 3).toNat<3),decide ((((nmS.getD (0+(oP n).toNat) eB).size+(oT14.getD (0+((and64 (oS n 32) 255).tmod 3).toNat) eB).size:Nat):Int)<=IntKind.i64.max),decide ((((nmS.getD (0+(oP n).toNat) eB++oT14.getD (0+((and64 (oS n 32) 255).tmod 3).toNat) eB).size+(oT0.getD (0+(and64 (oS n 8) 7).toNat) eB).size:Nat):Int)<=IntKind.i64.max)],.c (.v (.string (nmS.getD (0+(oP n).toNat) eB++oT14.getD (0+((and64 (oS n 32) 255).tmod 3).toNat) eB++oT0.getD (0+(and64 (oS n 8) 7).toNat) eB))),[]):=by kernel_rfl
theorem on_et {n:Int}:(lfun onG nol 60 Try.f167 [I64 n] []).go (dN 24 1957887)=some ([true,decide (oP n<((33:Nat):Int)),decide ((0:Int)<=oP n),decide (oP n<((33:Nat):Int)),decide (0+(oP n).toNat<33),true,decide ((0:Int)<=and64 (oS n 8) 7),decide (and64 (oS n 8) 7<((8:Nat):Int)),decide (0+(and64 (oS n 8) 7).toNat<8),true,decide ((0:Int)<=and64 (oS n 11) 7),decide (and64 (oS n 11) 7<((8:Nat):Int)),decide (0+(and64 (oS n 11) 7).toNat<8),!oP n==(1:Int),decide (oP n>=(8:Int)),true,true,!decide (oP n<=(11:Int)),decide (oP n>=(12:Int)),true,true,!decide (oP n<=(19:Int)),true,true,oP n==(31:Int),true,and64 (oS n 24) 31==(7:Int),true,decide ((0:Int)<=and64 (oS n 29) 7),decide (and64 (oS n 29) 7<((8:Nat):Int)),decide (0+(and64 (oS n 29) 7).toNat<8),true,true,decide ((0:Int)<=(and64 (oS n 32) 255).tmod 3),decide ((and64 (oS n 32) 255).tmod 3<((3:Nat):Int)),decide (0+((and64 (oS n 32) 255).tmod 3).toNat<3),decide ((((nmS.getD (0+(oP n).toNat) eB).size+(oT14.getD (0+((and64 (oS n 32) 255).tmod 3).toNat) eB).size:Nat):Int)<=IntKind.i64.max),decide ((((nmS.getD (0+(oP n).toNat) eB++oT14.getD (0+((and64 (oS n 32) 255).tmod 3).toNat) eB).size+(oT13.getD (0+(and64 (oS n 29) 7).toNat) eB).size:Nat):Int)<=IntKind.i64.max)],.c (.v (.string (nmS.getD (0+(oP n).toNat) eB++oT14.getD (0+((and64 (oS n 32) 255).tmod 3).toNat) eB++oT13.getD (0+(and64 (oS n 29) 7).toNat) eB))),[]):=by kernel_rfl
theorem on_ef {n:Int}:(lfun onG nol 60 Try.f167 [I64 n] []).go (dN 27 52289535)=some ([true,decide (oP n<((33:Nat):Int)),decide ((0:Int)<=oP n),decide (oP n<((33:Nat):Int)),decide (0+(oP n).toNat<33),true,decide ((0:Int)<=and64 (oS n 8) 7),decide (and64 (oS n 8) 7<((8:Nat):Int)),decide (0+(and64 (oS n 8) 7).toNat<8),true,decide ((0:Int)<=and64 (oS n 11) 7),decide (and64 (oS n 11) 7<((8:Nat):Int)),decide (0+(and64 (oS n 11) 7).toNat<8),!oP n==(1:Int),decide (oP n>=(8:Int)),true,true,!decide (oP n<=(11:Int)),decide (oP n>=(12:Int)),true,true,!decide (oP n<=(19:Int)),true,true,oP n==(31:Int),true,!and64 (oS n 24) 31==(7:Int),true,true,decide ((0:Int)<=(and64 (oS n 32) 255).tmod 3),decide ((and64 (oS n 32) 255).tmod 3<((3:Nat):Int)),decide (0+((and64 (oS n 32) 255).tmod 3).toNat<3),decide ((((nmS.getD (0+(oP n).toNat) eB).size+(oT14.getD (0+((and64 (oS n 32) 255).tmod 3).toNat) eB).size:Nat):Int)<=IntKind.i64.max),decide ((((nmS.getD (0+(oP n).toNat) eB++oT14.getD (0+((and64 (oS n 32) 255).tmod 3).toNat) eB).size+(oT0.getD (0+(and64 (oS n 8) 7).toNat) eB).size:Nat):Int)<=IntKind.i64.max)],.c (.v (.string (nmS.getD (0+(oP n).toNat) eB++oT14.getD (0+((and64 (oS n 32) 255).tmod 3).toNat) eB++oT0.getD (0+(and64 (oS n 8) 7).toNat) eB))),[]):=by kernel_rfl
theorem on_f20t {n:Int}:(lfun onG nol 60 Try.f167 [I64 n] []).go (dN 25 1957887)=some ([true,decide (oP n<((33:Nat):Int)),decide ((0:Int)<=oP n),decide (oP n<((33:Nat):Int)),decide (0+(oP n).toNat<33),true,decide ((0:Int)<=and64 (oS n 8) 7),decide (and64 (oS n 8) 7<((8:Nat):Int)),decide (0+(and64 (oS n 8) 7).toNat<8),true,decide ((0:Int)<=and64 (oS n 11) 7),decide (and64 (oS n 11) 7<((8:Nat):Int)),decide (0+(and64 (oS n 11) 7).toNat<8),!oP n==(1:Int),decide (oP n>=(8:Int)),true,true,!decide (oP n<=(11:Int)),decide (oP n>=(12:Int)),true,true,!decide (oP n<=(19:Int)),true,true,!oP n==(31:Int),oP n==(20:Int),true,decide ((0:Int)<=and64 (oS n 14) 3),decide (and64 (oS n 14) 3<((4:Nat):Int)),decide (0+(and64 (oS n 14) 3).toNat<4),true,and64 (oS n 24) 31==(7:Int),true,decide ((0:Int)<=and64 (oS n 29) 7),decide (and64 (oS n 29) 7<((8:Nat):Int)),decide (0+(and64 (oS n 29) 7).toNat<8),true,true,decide ((0:Int)<=(and64 (oS n 32) 255).tmod 3),decide ((and64 (oS n 32) 255).tmod 3<((3:Nat):Int)),decide (0+((and64 (oS n 32) 255).tmod 3).toNat<3),decide ((((nmS.getD (0+(oP n).toNat) eB).size+(oT14.getD (0+((and64 (oS n 32) 255).tmod 3).toNat) eB).size:Nat):Int)<=IntKind.i64.max),decide ((((nmS.getD (0+(oP n).toNat) eB++oT14.getD (0+((and64 (oS n 32) 255).tmod 3).toNat) eB).size+(oT13.getD (0+(and64 (oS n 29) 7).toNat) eB).size:Nat):Int)<=IntKind.i64.max)],.c (.v (.string (nmS.getD (0+(oP n).toNat) eB++oT14.getD (0+((and64 (oS n 32) 255).tmod 3).toNat) eB++oT13.getD (0+(and64 (oS n 29) 7).toNat) eB))),[]):=by kernel_rfl
theorem on_f20f {n:Int}:(lfun onG nol 60 Try.f167 [I64 n] []).go (dN 32 2115887103)=some ([true,decide (oP n<((33:Nat):Int)),decide ((0:Int)<=oP n),decide (oP n<((33:Nat):Int)),decide (0+(oP n).toNat<33),true,decide ((0:Int)<=and64 (oS n 8) 7),decide (and64 (oS n 8) 7<((8:Nat):Int)),decide (0+(and64 (oS n 8) 7).toNat<8),true,decide ((0:Int)<=and64 (oS n 11) 7),decide (and64 (oS n 11) 7<((8:Nat):Int)),decide (0+(and64 (oS n 11) 7).toNat<8),!oP n==(1:Int),decide (oP n>=(8:Int)),true,true,!decide (oP n<=(11:Int)),decide (oP n>=(12:Int)),true,true,!decide (oP n<=(19:Int)),true,true,!oP n==(31:Int),oP n==(20:Int),true,decide ((0:Int)<=and64 (oS n 14) 3),decide (and64 (oS n 14) 3<((4:Nat):Int)),decide (0+(and64 (oS n 14) 3).toNat<4),true,!and64 (oS n 24) 31==(7:Int),true,true,decide ((0:Int)<=(and64 (oS n 32) 255).tmod 3),decide ((and64 (oS n 32) 255).tmod 3<((3:Nat):Int)),decide (0+((and64 (oS n 32) 255).tmod 3).toNat<3),decide ((((nmS.getD (0+(oP n).toNat) eB).size+(oT14.getD (0+((and64 (oS n 32) 255).tmod 3).toNat) eB).size:Nat):Int)<=IntKind.i64.max),decide ((((nmS.getD (0+(oP n).toNat) eB++oT14.getD (0+((and64 (oS n 32) 255).tmod 3).toNat) eB).size+(oT3.getD (0+(and64 (oS n 14) 3).toNat) eB).size:Nat):Int)<=IntKind.i64.max)],.c (.v (.string (nmS.getD (0+(oP n).toNat) eB++oT14.getD (0+((and64 (oS n 32) 255).tmod 3).toNat) eB++oT3.getD (0+(and64 (oS n 14) 3).toNat) eB))),[]):=by kernel_rfl
theorem on_f21t {n:Int}:(lfun onG nol 60 Try.f167 [I64 n] []).go (dN 26 1957887)=some ([true,decide (oP n<((33:Nat):Int)),decide ((0:Int)<=oP n),decide (oP n<((33:Nat):Int)),decide (0+(oP n).toNat<33),true,decide ((0:Int)<=and64 (oS n 8) 7),decide (and64 (oS n 8) 7<((8:Nat):Int)),decide (0+(and64 (oS n 8) 7).toNat<8),true,decide ((0:Int)<=and64 (oS n 11) 7),decide (and64 (oS n 11) 7<((8:Nat):Int)),decide (0+(and64 (oS n 11) 7).toNat<8),!oP n==(1:Int),decide (oP n>=(8:Int)),true,true,!decide (oP n<=(11:Int)),decide (oP n>=(12:Int)),true,true,!decide (oP n<=(19:Int)),true,true,!oP n==(31:Int),!oP n==(20:Int),oP n==(21:Int),true,decide ((0:Int)<=and64 (oS n 14) 3),decide (and64 (oS n 14) 3<((4:Nat):Int)),decide (0+(and64 (oS n 14) 3).toNat<4),true,and64 (oS n 24) 31==(7:Int),true,decide ((0:Int)<=and64 (oS n 29) 7),decide (and64 (oS n 29) 7<((8:Nat):Int)),decide (0+(and64 (oS n 29) 7).toNat<8),true,true,decide ((0:Int)<=(and64 (oS n 32) 255).tmod 3),decide ((and64 (oS n 32) 255).tmod 3<((3:Nat):Int)),decide (0+((and64 (oS n 32) 255).tmod 3).toNat<3),decide ((((nmS.getD (0+(oP n).toNat) eB).size+(oT14.getD (0+((and64 (oS n 32) 255).tmod 3).toNat) eB).size:Nat):Int)<=IntKind.i64.max),decide ((((nmS.getD (0+(oP n).toNat) eB++oT14.getD (0+((and64 (oS n 32) 255).tmod 3).toNat) eB).size+(oT13.getD (0+(and64 (oS n 29) 7).toNat) eB).size:Nat):Int)<=IntKind.i64.max)],.c (.v (.string (nmS.getD (0+(oP n).toNat) eB++oT14.getD (0+((and64 (oS n 32) 255).tmod 3).toNat) eB++oT13.getD (0+(and64 (oS n 29) 7).toNat) eB))),[]):=by kernel_rfl
theorem on_f21f {n:Int}:(lfun onG nol 60 Try.f167 [I64 n] []).go (dN 33 4229816319)=some ([true,decide (oP n<((33:Nat):Int)),decide ((0:Int)<=oP n),decide (oP n<((33:Nat):Int)),decide (0+(oP n).toNat<33),true,decide ((0:Int)<=and64 (oS n 8) 7),decide (and64 (oS n 8) 7<((8:Nat):Int)),decide (0+(and64 (oS n 8) 7).toNat<8),true,decide ((0:Int)<=and64 (oS n 11) 7),decide (and64 (oS n 11) 7<((8:Nat):Int)),decide (0+(and64 (oS n 11) 7).toNat<8),!oP n==(1:Int),decide (oP n>=(8:Int)),true,true,!decide (oP n<=(11:Int)),decide (oP n>=(12:Int)),true,true,!decide (oP n<=(19:Int)),true,true,!oP n==(31:Int),!oP n==(20:Int),oP n==(21:Int),true,decide ((0:Int)<=and64 (oS n 14) 3),decide (and64 (oS n 14) 3<((4:Nat):Int)),decide (0+(and64 (oS n 14) 3).toNat<4),true,!and64 (oS n 24) 31==(7:Int),true,true,decide ((0:Int)<=(and64 (oS n 32) 255).tmod 3),decide ((and64 (oS n 32) 255).tmod 3<((3:Nat):Int)),decide (0+((and64 (oS n 32) 255).tmod 3).toNat<3),decide ((((nmS.getD (0+(oP n).toNat) eB).size+(oT14.getD (0+((and64 (oS n 32) 255).tmod 3).toNat) eB).size:Nat):Int)<=IntKind.i64.max),decide ((((nmS.getD (0+(oP n).toNat) eB++oT14.getD (0+((and64 (oS n 32) 255).tmod 3).toNat) eB).size+(oT4.getD (0+(and64 (oS n 14) 3).toNat) eB).size:Nat):Int)<=IntKind.i64.max)],.c (.v (.string (nmS.getD (0+(oP n).toNat) eB++oT14.getD (0+((and64 (oS n 32) 255).tmod 3).toNat) eB++oT4.getD (0+(and64 (oS n 14) 3).toNat) eB))),[]):=by kernel_rfl
theorem on_f23t {n:Int}:(lfun onG nol 60 Try.f167 [I64 n] []).go (dN 27 1957887)=some ([true,decide (oP n<((33:Nat):Int)),decide ((0:Int)<=oP n),decide (oP n<((33:Nat):Int)),decide (0+(oP n).toNat<33),true,decide ((0:Int)<=and64 (oS n 8) 7),decide (and64 (oS n 8) 7<((8:Nat):Int)),decide (0+(and64 (oS n 8) 7).toNat<8),true,decide ((0:Int)<=and64 (oS n 11) 7),decide (and64 (oS n 11) 7<((8:Nat):Int)),decide (0+(and64 (oS n 11) 7).toNat<8),!oP n==(1:Int),decide (oP n>=(8:Int)),true,true,!decide (oP n<=(11:Int)),decide (oP n>=(12:Int)),true,true,!decide (oP n<=(19:Int)),true,true,!oP n==(31:Int),!oP n==(20:Int),!oP n==(21:Int),oP n==(23:Int),true,true,true,true,decide ((0:Int)<=and64 (oS n 14) 3),decide (and64 (oS n 14) 3<((4:Nat):Int)),decide (0+(and64 (oS n 14) 3).toNat<4),true,and64 (oS n 24) 31==(7:Int),true,decide ((0:Int)<=and64 (oS n 29) 7),decide (and64 (oS n 29) 7<((8:Nat):Int)),decide (0+(and64 (oS n 29) 7).toNat<8),true,true,decide ((0:Int)<=(and64 (oS n 32) 255).tmod 3),decide ((and64 (oS n 32) 255).tmod 3<((3:Nat):Int)),decide (0+((and64 (oS n 32) 255).tmod 3).toNat<3),decide ((((nmS.getD (0+(oP n).toNat) eB).size+(oT14.getD (0+((and64 (oS n 32) 255).tmod 3).toNat) eB).size:Nat):Int)<=IntKind.i64.max),decide ((((nmS.getD (0+(oP n).toNat) eB++oT14.getD (0+((and64 (oS n 32) 255).tmod 3).toNat) eB).size+(oT13.getD (0+(and64 (oS n 29) 7).toNat) eB).size:Nat):Int)<=IntKind.i64.max)],.c (.v (.string (nmS.getD (0+(oP n).toNat) eB++oT14.getD (0+((and64 (oS n 32) 255).tmod 3).toNat) eB++oT13.getD (0+(and64 (oS n 29) 7).toNat) eB))),[]):=by kernel_rfl
theorem on_f23f {n:Int}:(lfun onG nol 60 Try.f167 [I64 n] []).go (dN 37 68587216895)=some ([true,decide (oP n<((33:Nat):Int)),decide ((0:Int)<=oP n),decide (oP n<((33:Nat):Int)),decide (0+(oP n).toNat<33),true,decide ((0:Int)<=and64 (oS n 8) 7),decide (and64 (oS n 8) 7<((8:Nat):Int)),decide (0+(and64 (oS n 8) 7).toNat<8),true,decide ((0:Int)<=and64 (oS n 11) 7),decide (and64 (oS n 11) 7<((8:Nat):Int)),decide (0+(and64 (oS n 11) 7).toNat<8),!oP n==(1:Int),decide (oP n>=(8:Int)),true,true,!decide (oP n<=(11:Int)),decide (oP n>=(12:Int)),true,true,!decide (oP n<=(19:Int)),true,true,!oP n==(31:Int),!oP n==(20:Int),!oP n==(21:Int),oP n==(23:Int),true,true,true,true,decide ((0:Int)<=and64 (oS n 14) 3),decide (and64 (oS n 14) 3<((4:Nat):Int)),decide (0+(and64 (oS n 14) 3).toNat<4),true,!and64 (oS n 24) 31==(7:Int),true,true,decide ((0:Int)<=(and64 (oS n 32) 255).tmod 3),decide ((and64 (oS n 32) 255).tmod 3<((3:Nat):Int)),decide (0+((and64 (oS n 32) 255).tmod 3).toNat<3),decide ((((nmS.getD (0+(oP n).toNat) eB).size+(oT14.getD (0+((and64 (oS n 32) 255).tmod 3).toNat) eB).size:Nat):Int)<=IntKind.i64.max),decide ((((nmS.getD (0+(oP n).toNat) eB++oT14.getD (0+((and64 (oS n 32) 255).tmod 3).toNat) eB).size+(oT5.getD (0+(and64 (oS n 14) 3).toNat) eB).size:Nat):Int)<=IntKind.i64.max)],.c (.v (.string (nmS.getD (0+(oP n).toNat) eB++oT14.getD (0+((and64 (oS n 32) 255).tmod 3).toNat) eB++oT5.getD (0+(and64 (oS n 14) 3).toNat) eB))),[]):=by kernel_rfl
theorem on_f24t {n:Int}:(lfun onG nol 60 Try.f167 [I64 n] []).go (dN 30 1957887)=some ([true,decide (oP n<((33:Nat):Int)),decide ((0:Int)<=oP n),decide (oP n<((33:Nat):Int)),decide (0+(oP n).toNat<33),true,decide ((0:Int)<=and64 (oS n 8) 7),decide (and64 (oS n 8) 7<((8:Nat):Int)),decide (0+(and64 (oS n 8) 7).toNat<8),true,decide ((0:Int)<=and64 (oS n 11) 7),decide (and64 (oS n 11) 7<((8:Nat):Int)),decide (0+(and64 (oS n 11) 7).toNat<8),!oP n==(1:Int),decide (oP n>=(8:Int)),true,true,!decide (oP n<=(11:Int)),decide (oP n>=(12:Int)),true,true,!decide (oP n<=(19:Int)),true,true,!oP n==(31:Int),!oP n==(20:Int),!oP n==(21:Int),!oP n==(23:Int),true,true,oP n==(24:Int),true,decide ((0:Int)<=and64 (oS n 14) 3),decide (and64 (oS n 14) 3<((4:Nat):Int)),decide (0+(and64 (oS n 14) 3).toNat<4),true,and64 (oS n 24) 31==(7:Int),true,decide ((0:Int)<=and64 (oS n 29) 7),decide (and64 (oS n 29) 7<((8:Nat):Int)),decide (0+(and64 (oS n 29) 7).toNat<8),true,true,decide ((0:Int)<=(and64 (oS n 32) 255).tmod 3),decide ((and64 (oS n 32) 255).tmod 3<((3:Nat):Int)),decide (0+((and64 (oS n 32) 255).tmod 3).toNat<3),decide ((((nmS.getD (0+(oP n).toNat) eB).size+(oT14.getD (0+((and64 (oS n 32) 255).tmod 3).toNat) eB).size:Nat):Int)<=IntKind.i64.max),decide ((((nmS.getD (0+(oP n).toNat) eB++oT14.getD (0+((and64 (oS n 32) 255).tmod 3).toNat) eB).size+(oT13.getD (0+(and64 (oS n 29) 7).toNat) eB).size:Nat):Int)<=IntKind.i64.max)],.c (.v (.string (nmS.getD (0+(oP n).toNat) eB++oT14.getD (0+((and64 (oS n 32) 255).tmod 3).toNat) eB++oT13.getD (0+(and64 (oS n 29) 7).toNat) eB))),[]):=by kernel_rfl
theorem on_f24f {n:Int}:(lfun onG nol 60 Try.f167 [I64 n] []).go (dN 37 67647692799)=some ([true,decide (oP n<((33:Nat):Int)),decide ((0:Int)<=oP n),decide (oP n<((33:Nat):Int)),decide (0+(oP n).toNat<33),true,decide ((0:Int)<=and64 (oS n 8) 7),decide (and64 (oS n 8) 7<((8:Nat):Int)),decide (0+(and64 (oS n 8) 7).toNat<8),true,decide ((0:Int)<=and64 (oS n 11) 7),decide (and64 (oS n 11) 7<((8:Nat):Int)),decide (0+(and64 (oS n 11) 7).toNat<8),!oP n==(1:Int),decide (oP n>=(8:Int)),true,true,!decide (oP n<=(11:Int)),decide (oP n>=(12:Int)),true,true,!decide (oP n<=(19:Int)),true,true,!oP n==(31:Int),!oP n==(20:Int),!oP n==(21:Int),!oP n==(23:Int),true,true,oP n==(24:Int),true,decide ((0:Int)<=and64 (oS n 14) 3),decide (and64 (oS n 14) 3<((4:Nat):Int)),decide (0+(and64 (oS n 14) 3).toNat<4),true,!and64 (oS n 24) 31==(7:Int),true,true,decide ((0:Int)<=(and64 (oS n 32) 255).tmod 3),decide ((and64 (oS n 32) 255).tmod 3<((3:Nat):Int)),decide (0+((and64 (oS n 32) 255).tmod 3).toNat<3),decide ((((nmS.getD (0+(oP n).toNat) eB).size+(oT14.getD (0+((and64 (oS n 32) 255).tmod 3).toNat) eB).size:Nat):Int)<=IntKind.i64.max),decide ((((nmS.getD (0+(oP n).toNat) eB++oT14.getD (0+((and64 (oS n 32) 255).tmod 3).toNat) eB).size+(oT5.getD (0+(and64 (oS n 14) 3).toNat) eB).size:Nat):Int)<=IntKind.i64.max)],.c (.v (.string (nmS.getD (0+(oP n).toNat) eB++oT14.getD (0+((and64 (oS n 32) 255).tmod 3).toNat) eB++oT5.getD (0+(and64 (oS n 14) 3).toNat) eB))),[]):=by kernel_rfl
theorem on_f25t {n:Int}:(lfun onG nol 60 Try.f167 [I64 n] []).go (dN 31 1957887)=some ([true,decide (oP n<((33:Nat):Int)),decide ((0:Int)<=oP n),decide (oP n<((33:Nat):Int)),decide (0+(oP n).toNat<33),true,decide ((0:Int)<=and64 (oS n 8) 7),decide (and64 (oS n 8) 7<((8:Nat):Int)),decide (0+(and64 (oS n 8) 7).toNat<8),true,decide ((0:Int)<=and64 (oS n 11) 7),decide (and64 (oS n 11) 7<((8:Nat):Int)),decide (0+(and64 (oS n 11) 7).toNat<8),!oP n==(1:Int),decide (oP n>=(8:Int)),true,true,!decide (oP n<=(11:Int)),decide (oP n>=(12:Int)),true,true,!decide (oP n<=(19:Int)),true,true,!oP n==(31:Int),!oP n==(20:Int),!oP n==(21:Int),!oP n==(23:Int),true,true,!oP n==(24:Int),oP n==(25:Int),true,decide ((0:Int)<=and64 (oS n 14) 3),decide (and64 (oS n 14) 3<((4:Nat):Int)),decide (0+(and64 (oS n 14) 3).toNat<4),true,and64 (oS n 24) 31==(7:Int),true,decide ((0:Int)<=and64 (oS n 29) 7),decide (and64 (oS n 29) 7<((8:Nat):Int)),decide (0+(and64 (oS n 29) 7).toNat<8),true,true,decide ((0:Int)<=(and64 (oS n 32) 255).tmod 3),decide ((and64 (oS n 32) 255).tmod 3<((3:Nat):Int)),decide (0+((and64 (oS n 32) 255).tmod 3).toNat<3),decide ((((nmS.getD (0+(oP n).toNat) eB).size+(oT14.getD (0+((and64 (oS n 32) 255).tmod 3).toNat) eB).size:Nat):Int)<=IntKind.i64.max),decide ((((nmS.getD (0+(oP n).toNat) eB++oT14.getD (0+((and64 (oS n 32) 255).tmod 3).toNat) eB).size+(oT13.getD (0+(and64 (oS n 29) 7).toNat) eB).size:Nat):Int)<=IntKind.i64.max)],.c (.v (.string (nmS.getD (0+(oP n).toNat) eB++oT14.getD (0+((and64 (oS n 32) 255).tmod 3).toNat) eB++oT13.getD (0+(and64 (oS n 29) 7).toNat) eB))),[]):=by kernel_rfl
theorem on_f25f {n:Int}:(lfun onG nol 60 Try.f167 [I64 n] []).go (dN 38 135293427711)=some ([true,decide (oP n<((33:Nat):Int)),decide ((0:Int)<=oP n),decide (oP n<((33:Nat):Int)),decide (0+(oP n).toNat<33),true,decide ((0:Int)<=and64 (oS n 8) 7),decide (and64 (oS n 8) 7<((8:Nat):Int)),decide (0+(and64 (oS n 8) 7).toNat<8),true,decide ((0:Int)<=and64 (oS n 11) 7),decide (and64 (oS n 11) 7<((8:Nat):Int)),decide (0+(and64 (oS n 11) 7).toNat<8),!oP n==(1:Int),decide (oP n>=(8:Int)),true,true,!decide (oP n<=(11:Int)),decide (oP n>=(12:Int)),true,true,!decide (oP n<=(19:Int)),true,true,!oP n==(31:Int),!oP n==(20:Int),!oP n==(21:Int),!oP n==(23:Int),true,true,!oP n==(24:Int),oP n==(25:Int),true,decide ((0:Int)<=and64 (oS n 14) 3),decide (and64 (oS n 14) 3<((4:Nat):Int)),decide (0+(and64 (oS n 14) 3).toNat<4),true,!and64 (oS n 24) 31==(7:Int),true,true,decide ((0:Int)<=(and64 (oS n 32) 255).tmod 3),decide ((and64 (oS n 32) 255).tmod 3<((3:Nat):Int)),decide (0+((and64 (oS n 32) 255).tmod 3).toNat<3),decide ((((nmS.getD (0+(oP n).toNat) eB).size+(oT14.getD (0+((and64 (oS n 32) 255).tmod 3).toNat) eB).size:Nat):Int)<=IntKind.i64.max),decide ((((nmS.getD (0+(oP n).toNat) eB++oT14.getD (0+((and64 (oS n 32) 255).tmod 3).toNat) eB).size+(oT6.getD (0+(and64 (oS n 14) 3).toNat) eB).size:Nat):Int)<=IntKind.i64.max)],.c (.v (.string (nmS.getD (0+(oP n).toNat) eB++oT14.getD (0+((and64 (oS n 32) 255).tmod 3).toNat) eB++oT6.getD (0+(and64 (oS n 14) 3).toNat) eB))),[]):=by kernel_rfl
theorem on_f26t {n:Int}:(lfun onG nol 60 Try.f167 [I64 n] []).go (dN 32 1957887)=some ([true,decide (oP n<((33:Nat):Int)),decide ((0:Int)<=oP n),decide (oP n<((33:Nat):Int)),decide (0+(oP n).toNat<33),true,decide ((0:Int)<=and64 (oS n 8) 7),decide (and64 (oS n 8) 7<((8:Nat):Int)),decide (0+(and64 (oS n 8) 7).toNat<8),true,decide ((0:Int)<=and64 (oS n 11) 7),decide (and64 (oS n 11) 7<((8:Nat):Int)),decide (0+(and64 (oS n 11) 7).toNat<8),!oP n==(1:Int),decide (oP n>=(8:Int)),true,true,!decide (oP n<=(11:Int)),decide (oP n>=(12:Int)),true,true,!decide (oP n<=(19:Int)),true,true,!oP n==(31:Int),!oP n==(20:Int),!oP n==(21:Int),!oP n==(23:Int),true,true,!oP n==(24:Int),!oP n==(25:Int),oP n==(26:Int),true,true,decide ((0:Int)<=(and64 (oS n 14) 255).tmod 5),decide ((and64 (oS n 14) 255).tmod 5<((5:Nat):Int)),decide (0+((and64 (oS n 14) 255).tmod 5).toNat<5),true,and64 (oS n 24) 31==(7:Int),true,decide ((0:Int)<=and64 (oS n 29) 7),decide (and64 (oS n 29) 7<((8:Nat):Int)),decide (0+(and64 (oS n 29) 7).toNat<8),true,true,decide ((0:Int)<=(and64 (oS n 32) 255).tmod 3),decide ((and64 (oS n 32) 255).tmod 3<((3:Nat):Int)),decide (0+((and64 (oS n 32) 255).tmod 3).toNat<3),decide ((((nmS.getD (0+(oP n).toNat) eB).size+(oT14.getD (0+((and64 (oS n 32) 255).tmod 3).toNat) eB).size:Nat):Int)<=IntKind.i64.max),decide ((((nmS.getD (0+(oP n).toNat) eB++oT14.getD (0+((and64 (oS n 32) 255).tmod 3).toNat) eB).size+(oT13.getD (0+(and64 (oS n 29) 7).toNat) eB).size:Nat):Int)<=IntKind.i64.max)],.c (.v (.string (nmS.getD (0+(oP n).toNat) eB++oT14.getD (0+((and64 (oS n 32) 255).tmod 3).toNat) eB++oT13.getD (0+(and64 (oS n 29) 7).toNat) eB))),[]):=by kernel_rfl
theorem on_f26f {n:Int}:(lfun onG nol 60 Try.f167 [I64 n] []).go (dN 40 545462804479)=some ([true,decide (oP n<((33:Nat):Int)),decide ((0:Int)<=oP n),decide (oP n<((33:Nat):Int)),decide (0+(oP n).toNat<33),true,decide ((0:Int)<=and64 (oS n 8) 7),decide (and64 (oS n 8) 7<((8:Nat):Int)),decide (0+(and64 (oS n 8) 7).toNat<8),true,decide ((0:Int)<=and64 (oS n 11) 7),decide (and64 (oS n 11) 7<((8:Nat):Int)),decide (0+(and64 (oS n 11) 7).toNat<8),!oP n==(1:Int),decide (oP n>=(8:Int)),true,true,!decide (oP n<=(11:Int)),decide (oP n>=(12:Int)),true,true,!decide (oP n<=(19:Int)),true,true,!oP n==(31:Int),!oP n==(20:Int),!oP n==(21:Int),!oP n==(23:Int),true,true,!oP n==(24:Int),!oP n==(25:Int),oP n==(26:Int),true,true,decide ((0:Int)<=(and64 (oS n 14) 255).tmod 5),decide ((and64 (oS n 14) 255).tmod 5<((5:Nat):Int)),decide (0+((and64 (oS n 14) 255).tmod 5).toNat<5),true,!and64 (oS n 24) 31==(7:Int),true,true,decide ((0:Int)<=(and64 (oS n 32) 255).tmod 3),decide ((and64 (oS n 32) 255).tmod 3<((3:Nat):Int)),decide (0+((and64 (oS n 32) 255).tmod 3).toNat<3),decide ((((nmS.getD (0+(oP n).toNat) eB).size+(oT14.getD (0+((and64 (oS n 32) 255).tmod 3).toNat) eB).size:Nat):Int)<=IntKind.i64.max),decide ((((nmS.getD (0+(oP n).toNat) eB++oT14.getD (0+((and64 (oS n 32) 255).tmod 3).toNat) eB).size+(oT7.getD (0+((and64 (oS n 14) 255).tmod 5).toNat) eB).size:Nat):Int)<=IntKind.i64.max)],.c (.v (.string (nmS.getD (0+(oP n).toNat) eB++oT14.getD (0+((and64 (oS n 32) 255).tmod 3).toNat) eB++oT7.getD (0+((and64 (oS n 14) 255).tmod 5).toNat) eB))),[]):=by kernel_rfl
theorem on_f27t {n:Int}:(lfun onG nol 60 Try.f167 [I64 n] []).go (dN 33 1957887)=some ([true,decide (oP n<((33:Nat):Int)),decide ((0:Int)<=oP n),decide (oP n<((33:Nat):Int)),decide (0+(oP n).toNat<33),true,decide ((0:Int)<=and64 (oS n 8) 7),decide (and64 (oS n 8) 7<((8:Nat):Int)),decide (0+(and64 (oS n 8) 7).toNat<8),true,decide ((0:Int)<=and64 (oS n 11) 7),decide (and64 (oS n 11) 7<((8:Nat):Int)),decide (0+(and64 (oS n 11) 7).toNat<8),!oP n==(1:Int),decide (oP n>=(8:Int)),true,true,!decide (oP n<=(11:Int)),decide (oP n>=(12:Int)),true,true,!decide (oP n<=(19:Int)),true,true,!oP n==(31:Int),!oP n==(20:Int),!oP n==(21:Int),!oP n==(23:Int),true,true,!oP n==(24:Int),!oP n==(25:Int),!oP n==(26:Int),oP n==(27:Int),true,decide ((0:Int)<=and64 (oS n 14) 3),decide (and64 (oS n 14) 3<((4:Nat):Int)),decide (0+(and64 (oS n 14) 3).toNat<4),true,and64 (oS n 24) 31==(7:Int),true,decide ((0:Int)<=and64 (oS n 29) 7),decide (and64 (oS n 29) 7<((8:Nat):Int)),decide (0+(and64 (oS n 29) 7).toNat<8),true,true,decide ((0:Int)<=(and64 (oS n 32) 255).tmod 3),decide ((and64 (oS n 32) 255).tmod 3<((3:Nat):Int)),decide (0+((and64 (oS n 32) 255).tmod 3).toNat<3),decide ((((nmS.getD (0+(oP n).toNat) eB).size+(oT14.getD (0+((and64 (oS n 32) 255).tmod 3).toNat) eB).size:Nat):Int)<=IntKind.i64.max),decide ((((nmS.getD (0+(oP n).toNat) eB++oT14.getD (0+((and64 (oS n 32) 255).tmod 3).toNat) eB).size+(oT13.getD (0+(and64 (oS n 29) 7).toNat) eB).size:Nat):Int)<=IntKind.i64.max)],.c (.v (.string (nmS.getD (0+(oP n).toNat) eB++oT14.getD (0+((and64 (oS n 32) 255).tmod 3).toNat) eB++oT13.getD (0+(and64 (oS n 29) 7).toNat) eB))),[]):=by kernel_rfl
theorem on_f27f {n:Int}:(lfun onG nol 60 Try.f167 [I64 n] []).go (dN 40 541167837183)=some ([true,decide (oP n<((33:Nat):Int)),decide ((0:Int)<=oP n),decide (oP n<((33:Nat):Int)),decide (0+(oP n).toNat<33),true,decide ((0:Int)<=and64 (oS n 8) 7),decide (and64 (oS n 8) 7<((8:Nat):Int)),decide (0+(and64 (oS n 8) 7).toNat<8),true,decide ((0:Int)<=and64 (oS n 11) 7),decide (and64 (oS n 11) 7<((8:Nat):Int)),decide (0+(and64 (oS n 11) 7).toNat<8),!oP n==(1:Int),decide (oP n>=(8:Int)),true,true,!decide (oP n<=(11:Int)),decide (oP n>=(12:Int)),true,true,!decide (oP n<=(19:Int)),true,true,!oP n==(31:Int),!oP n==(20:Int),!oP n==(21:Int),!oP n==(23:Int),true,true,!oP n==(24:Int),!oP n==(25:Int),!oP n==(26:Int),oP n==(27:Int),true,decide ((0:Int)<=and64 (oS n 14) 3),decide (and64 (oS n 14) 3<((4:Nat):Int)),decide (0+(and64 (oS n 14) 3).toNat<4),true,!and64 (oS n 24) 31==(7:Int),true,true,decide ((0:Int)<=(and64 (oS n 32) 255).tmod 3),decide ((and64 (oS n 32) 255).tmod 3<((3:Nat):Int)),decide (0+((and64 (oS n 32) 255).tmod 3).toNat<3),decide ((((nmS.getD (0+(oP n).toNat) eB).size+(oT14.getD (0+((and64 (oS n 32) 255).tmod 3).toNat) eB).size:Nat):Int)<=IntKind.i64.max),decide ((((nmS.getD (0+(oP n).toNat) eB++oT14.getD (0+((and64 (oS n 32) 255).tmod 3).toNat) eB).size+(oT8.getD (0+(and64 (oS n 14) 3).toNat) eB).size:Nat):Int)<=IntKind.i64.max)],.c (.v (.string (nmS.getD (0+(oP n).toNat) eB++oT14.getD (0+((and64 (oS n 32) 255).tmod 3).toNat) eB++oT8.getD (0+(and64 (oS n 14) 3).toNat) eB))),[]):=by kernel_rfl
theorem on_f28t {n:Int}:(lfun onG nol 60 Try.f167 [I64 n] []).go (dN 34 1957887)=some ([true,decide (oP n<((33:Nat):Int)),decide ((0:Int)<=oP n),decide (oP n<((33:Nat):Int)),decide (0+(oP n).toNat<33),true,decide ((0:Int)<=and64 (oS n 8) 7),decide (and64 (oS n 8) 7<((8:Nat):Int)),decide (0+(and64 (oS n 8) 7).toNat<8),true,decide ((0:Int)<=and64 (oS n 11) 7),decide (and64 (oS n 11) 7<((8:Nat):Int)),decide (0+(and64 (oS n 11) 7).toNat<8),!oP n==(1:Int),decide (oP n>=(8:Int)),true,true,!decide (oP n<=(11:Int)),decide (oP n>=(12:Int)),true,true,!decide (oP n<=(19:Int)),true,true,!oP n==(31:Int),!oP n==(20:Int),!oP n==(21:Int),!oP n==(23:Int),true,true,!oP n==(24:Int),!oP n==(25:Int),!oP n==(26:Int),!oP n==(27:Int),oP n==(28:Int),true,true,decide ((0:Int)<=(and64 (oS n 14) 255).tmod 5),decide ((and64 (oS n 14) 255).tmod 5<((5:Nat):Int)),decide (0+((and64 (oS n 14) 255).tmod 5).toNat<5),true,and64 (oS n 24) 31==(7:Int),true,decide ((0:Int)<=and64 (oS n 29) 7),decide (and64 (oS n 29) 7<((8:Nat):Int)),decide (0+(and64 (oS n 29) 7).toNat<8),true,true,decide ((0:Int)<=(and64 (oS n 32) 255).tmod 3),decide ((and64 (oS n 32) 255).tmod 3<((3:Nat):Int)),decide (0+((and64 (oS n 32) 255).tmod 3).toNat<3),decide ((((nmS.getD (0+(oP n).toNat) eB).size+(oT14.getD (0+((and64 (oS n 32) 255).tmod 3).toNat) eB).size:Nat):Int)<=IntKind.i64.max),decide ((((nmS.getD (0+(oP n).toNat) eB++oT14.getD (0+((and64 (oS n 32) 255).tmod 3).toNat) eB).size+(oT13.getD (0+(and64 (oS n 29) 7).toNat) eB).size:Nat):Int)<=IntKind.i64.max)],.c (.v (.string (nmS.getD (0+(oP n).toNat) eB++oT14.getD (0+((and64 (oS n 32) 255).tmod 3).toNat) eB++oT13.getD (0+(and64 (oS n 29) 7).toNat) eB))),[]):=by kernel_rfl
theorem on_f28f {n:Int}:(lfun onG nol 60 Try.f167 [I64 n] []).go (dN 42 2181845344255)=some ([true,decide (oP n<((33:Nat):Int)),decide ((0:Int)<=oP n),decide (oP n<((33:Nat):Int)),decide (0+(oP n).toNat<33),true,decide ((0:Int)<=and64 (oS n 8) 7),decide (and64 (oS n 8) 7<((8:Nat):Int)),decide (0+(and64 (oS n 8) 7).toNat<8),true,decide ((0:Int)<=and64 (oS n 11) 7),decide (and64 (oS n 11) 7<((8:Nat):Int)),decide (0+(and64 (oS n 11) 7).toNat<8),!oP n==(1:Int),decide (oP n>=(8:Int)),true,true,!decide (oP n<=(11:Int)),decide (oP n>=(12:Int)),true,true,!decide (oP n<=(19:Int)),true,true,!oP n==(31:Int),!oP n==(20:Int),!oP n==(21:Int),!oP n==(23:Int),true,true,!oP n==(24:Int),!oP n==(25:Int),!oP n==(26:Int),!oP n==(27:Int),oP n==(28:Int),true,true,decide ((0:Int)<=(and64 (oS n 14) 255).tmod 5),decide ((and64 (oS n 14) 255).tmod 5<((5:Nat):Int)),decide (0+((and64 (oS n 14) 255).tmod 5).toNat<5),true,!and64 (oS n 24) 31==(7:Int),true,true,decide ((0:Int)<=(and64 (oS n 32) 255).tmod 3),decide ((and64 (oS n 32) 255).tmod 3<((3:Nat):Int)),decide (0+((and64 (oS n 32) 255).tmod 3).toNat<3),decide ((((nmS.getD (0+(oP n).toNat) eB).size+(oT14.getD (0+((and64 (oS n 32) 255).tmod 3).toNat) eB).size:Nat):Int)<=IntKind.i64.max),decide ((((nmS.getD (0+(oP n).toNat) eB++oT14.getD (0+((and64 (oS n 32) 255).tmod 3).toNat) eB).size+(oT9.getD (0+((and64 (oS n 14) 255).tmod 5).toNat) eB).size:Nat):Int)<=IntKind.i64.max)],.c (.v (.string (nmS.getD (0+(oP n).toNat) eB++oT14.getD (0+((and64 (oS n 32) 255).tmod 3).toNat) eB++oT9.getD (0+((and64 (oS n 14) 255).tmod 5).toNat) eB))),[]):=by kernel_rfl
theorem on_f29t {n:Int}:(lfun onG nol 60 Try.f167 [I64 n] []).go (dN 35 1957887)=some ([true,decide (oP n<((33:Nat):Int)),decide ((0:Int)<=oP n),decide (oP n<((33:Nat):Int)),decide (0+(oP n).toNat<33),true,decide ((0:Int)<=and64 (oS n 8) 7),decide (and64 (oS n 8) 7<((8:Nat):Int)),decide (0+(and64 (oS n 8) 7).toNat<8),true,decide ((0:Int)<=and64 (oS n 11) 7),decide (and64 (oS n 11) 7<((8:Nat):Int)),decide (0+(and64 (oS n 11) 7).toNat<8),!oP n==(1:Int),decide (oP n>=(8:Int)),true,true,!decide (oP n<=(11:Int)),decide (oP n>=(12:Int)),true,true,!decide (oP n<=(19:Int)),true,true,!oP n==(31:Int),!oP n==(20:Int),!oP n==(21:Int),!oP n==(23:Int),true,true,!oP n==(24:Int),!oP n==(25:Int),!oP n==(26:Int),!oP n==(27:Int),!oP n==(28:Int),oP n==(29:Int),true,true,decide ((0:Int)<=(and64 (oS n 14) 255).tmod 3),decide ((and64 (oS n 14) 255).tmod 3<((3:Nat):Int)),decide (0+((and64 (oS n 14) 255).tmod 3).toNat<3),true,and64 (oS n 24) 31==(7:Int),true,decide ((0:Int)<=and64 (oS n 29) 7),decide (and64 (oS n 29) 7<((8:Nat):Int)),decide (0+(and64 (oS n 29) 7).toNat<8),true,true,decide ((0:Int)<=(and64 (oS n 32) 255).tmod 3),decide ((and64 (oS n 32) 255).tmod 3<((3:Nat):Int)),decide (0+((and64 (oS n 32) 255).tmod 3).toNat<3),decide ((((nmS.getD (0+(oP n).toNat) eB).size+(oT14.getD (0+((and64 (oS n 32) 255).tmod 3).toNat) eB).size:Nat):Int)<=IntKind.i64.max),decide ((((nmS.getD (0+(oP n).toNat) eB++oT14.getD (0+((and64 (oS n 32) 255).tmod 3).toNat) eB).size+(oT13.getD (0+(and64 (oS n 29) 7).toNat) eB).size:Nat):Int)<=IntKind.i64.max)],.c (.v (.string (nmS.getD (0+(oP n).toNat) eB++oT14.getD (0+((and64 (oS n 32) 255).tmod 3).toNat) eB++oT13.getD (0+(and64 (oS n 29) 7).toNat) eB))),[]):=by kernel_rfl
theorem on_f29f {n:Int}:(lfun onG nol 60 Try.f167 [I64 n] []).go (dN 43 4363688730623)=some ([true,decide (oP n<((33:Nat):Int)),decide ((0:Int)<=oP n),decide (oP n<((33:Nat):Int)),decide (0+(oP n).toNat<33),true,decide ((0:Int)<=and64 (oS n 8) 7),decide (and64 (oS n 8) 7<((8:Nat):Int)),decide (0+(and64 (oS n 8) 7).toNat<8),true,decide ((0:Int)<=and64 (oS n 11) 7),decide (and64 (oS n 11) 7<((8:Nat):Int)),decide (0+(and64 (oS n 11) 7).toNat<8),!oP n==(1:Int),decide (oP n>=(8:Int)),true,true,!decide (oP n<=(11:Int)),decide (oP n>=(12:Int)),true,true,!decide (oP n<=(19:Int)),true,true,!oP n==(31:Int),!oP n==(20:Int),!oP n==(21:Int),!oP n==(23:Int),true,true,!oP n==(24:Int),!oP n==(25:Int),!oP n==(26:Int),!oP n==(27:Int),!oP n==(28:Int),oP n==(29:Int),true,true,decide ((0:Int)<=(and64 (oS n 14) 255).tmod 3),decide ((and64 (oS n 14) 255).tmod 3<((3:Nat):Int)),decide (0+((and64 (oS n 14) 255).tmod 3).toNat<3),true,!and64 (oS n 24) 31==(7:Int),true,true,decide ((0:Int)<=(and64 (oS n 32) 255).tmod 3),decide ((and64 (oS n 32) 255).tmod 3<((3:Nat):Int)),decide (0+((and64 (oS n 32) 255).tmod 3).toNat<3),decide ((((nmS.getD (0+(oP n).toNat) eB).size+(oT14.getD (0+((and64 (oS n 32) 255).tmod 3).toNat) eB).size:Nat):Int)<=IntKind.i64.max),decide ((((nmS.getD (0+(oP n).toNat) eB++oT14.getD (0+((and64 (oS n 32) 255).tmod 3).toNat) eB).size+(oT10.getD (0+((and64 (oS n 14) 255).tmod 3).toNat) eB).size:Nat):Int)<=IntKind.i64.max)],.c (.v (.string (nmS.getD (0+(oP n).toNat) eB++oT14.getD (0+((and64 (oS n 32) 255).tmod 3).toNat) eB++oT10.getD (0+((and64 (oS n 14) 255).tmod 3).toNat) eB))),[]):=by kernel_rfl
theorem on_f30t {n:Int}:(lfun onG nol 60 Try.f167 [I64 n] []).go (dN 36 1957887)=some ([true,decide (oP n<((33:Nat):Int)),decide ((0:Int)<=oP n),decide (oP n<((33:Nat):Int)),decide (0+(oP n).toNat<33),true,decide ((0:Int)<=and64 (oS n 8) 7),decide (and64 (oS n 8) 7<((8:Nat):Int)),decide (0+(and64 (oS n 8) 7).toNat<8),true,decide ((0:Int)<=and64 (oS n 11) 7),decide (and64 (oS n 11) 7<((8:Nat):Int)),decide (0+(and64 (oS n 11) 7).toNat<8),!oP n==(1:Int),decide (oP n>=(8:Int)),true,true,!decide (oP n<=(11:Int)),decide (oP n>=(12:Int)),true,true,!decide (oP n<=(19:Int)),true,true,!oP n==(31:Int),!oP n==(20:Int),!oP n==(21:Int),!oP n==(23:Int),true,true,!oP n==(24:Int),!oP n==(25:Int),!oP n==(26:Int),!oP n==(27:Int),!oP n==(28:Int),!oP n==(29:Int),oP n==(30:Int),true,true,decide ((0:Int)<=(and64 (oS n 14) 255).tmod 3),decide ((and64 (oS n 14) 255).tmod 3<((3:Nat):Int)),decide (0+((and64 (oS n 14) 255).tmod 3).toNat<3),true,and64 (oS n 24) 31==(7:Int),true,decide ((0:Int)<=and64 (oS n 29) 7),decide (and64 (oS n 29) 7<((8:Nat):Int)),decide (0+(and64 (oS n 29) 7).toNat<8),true,true,decide ((0:Int)<=(and64 (oS n 32) 255).tmod 3),decide ((and64 (oS n 32) 255).tmod 3<((3:Nat):Int)),decide (0+((and64 (oS n 32) 255).tmod 3).toNat<3),decide ((((nmS.getD (0+(oP n).toNat) eB).size+(oT14.getD (0+((and64 (oS n 32) 255).tmod 3).toNat) eB).size:Nat):Int)<=IntKind.i64.max),decide ((((nmS.getD (0+(oP n).toNat) eB++oT14.getD (0+((and64 (oS n 32) 255).tmod 3).toNat) eB).size+(oT13.getD (0+(and64 (oS n 29) 7).toNat) eB).size:Nat):Int)<=IntKind.i64.max)],.c (.v (.string (nmS.getD (0+(oP n).toNat) eB++oT14.getD (0+((and64 (oS n 32) 255).tmod 3).toNat) eB++oT13.getD (0+(and64 (oS n 29) 7).toNat) eB))),[]):=by kernel_rfl
theorem on_f30f {n:Int}:(lfun onG nol 60 Try.f167 [I64 n] []).go (dN 44 8727375503359)=some ([true,decide (oP n<((33:Nat):Int)),decide ((0:Int)<=oP n),decide (oP n<((33:Nat):Int)),decide (0+(oP n).toNat<33),true,decide ((0:Int)<=and64 (oS n 8) 7),decide (and64 (oS n 8) 7<((8:Nat):Int)),decide (0+(and64 (oS n 8) 7).toNat<8),true,decide ((0:Int)<=and64 (oS n 11) 7),decide (and64 (oS n 11) 7<((8:Nat):Int)),decide (0+(and64 (oS n 11) 7).toNat<8),!oP n==(1:Int),decide (oP n>=(8:Int)),true,true,!decide (oP n<=(11:Int)),decide (oP n>=(12:Int)),true,true,!decide (oP n<=(19:Int)),true,true,!oP n==(31:Int),!oP n==(20:Int),!oP n==(21:Int),!oP n==(23:Int),true,true,!oP n==(24:Int),!oP n==(25:Int),!oP n==(26:Int),!oP n==(27:Int),!oP n==(28:Int),!oP n==(29:Int),oP n==(30:Int),true,true,decide ((0:Int)<=(and64 (oS n 14) 255).tmod 3),decide ((and64 (oS n 14) 255).tmod 3<((3:Nat):Int)),decide (0+((and64 (oS n 14) 255).tmod 3).toNat<3),true,!and64 (oS n 24) 31==(7:Int),true,true,decide ((0:Int)<=(and64 (oS n 32) 255).tmod 3),decide ((and64 (oS n 32) 255).tmod 3<((3:Nat):Int)),decide (0+((and64 (oS n 32) 255).tmod 3).toNat<3),decide ((((nmS.getD (0+(oP n).toNat) eB).size+(oT14.getD (0+((and64 (oS n 32) 255).tmod 3).toNat) eB).size:Nat):Int)<=IntKind.i64.max),decide ((((nmS.getD (0+(oP n).toNat) eB++oT14.getD (0+((and64 (oS n 32) 255).tmod 3).toNat) eB).size+(oT11.getD (0+((and64 (oS n 14) 255).tmod 3).toNat) eB).size:Nat):Int)<=IntKind.i64.max)],.c (.v (.string (nmS.getD (0+(oP n).toNat) eB++oT14.getD (0+((and64 (oS n 32) 255).tmod 3).toNat) eB++oT11.getD (0+((and64 (oS n 14) 255).tmod 3).toNat) eB))),[]):=by kernel_rfl
theorem on_f32t {n:Int}:(lfun onG nol 60 Try.f167 [I64 n] []).go (dN 37 1957887)=some ([true,decide (oP n<((33:Nat):Int)),decide ((0:Int)<=oP n),decide (oP n<((33:Nat):Int)),decide (0+(oP n).toNat<33),true,decide ((0:Int)<=and64 (oS n 8) 7),decide (and64 (oS n 8) 7<((8:Nat):Int)),decide (0+(and64 (oS n 8) 7).toNat<8),true,decide ((0:Int)<=and64 (oS n 11) 7),decide (and64 (oS n 11) 7<((8:Nat):Int)),decide (0+(and64 (oS n 11) 7).toNat<8),!oP n==(1:Int),decide (oP n>=(8:Int)),true,true,!decide (oP n<=(11:Int)),decide (oP n>=(12:Int)),true,true,!decide (oP n<=(19:Int)),true,true,!oP n==(31:Int),!oP n==(20:Int),!oP n==(21:Int),!oP n==(23:Int),true,true,!oP n==(24:Int),!oP n==(25:Int),!oP n==(26:Int),!oP n==(27:Int),!oP n==(28:Int),!oP n==(29:Int),!oP n==(30:Int),oP n==(32:Int),true,decide ((0:Int)<=and64 (oS n 14) 1),decide (and64 (oS n 14) 1<((2:Nat):Int)),decide (0+(and64 (oS n 14) 1).toNat<2),true,and64 (oS n 24) 31==(7:Int),true,decide ((0:Int)<=and64 (oS n 29) 7),decide (and64 (oS n 29) 7<((8:Nat):Int)),decide (0+(and64 (oS n 29) 7).toNat<8),true,true,decide ((0:Int)<=(and64 (oS n 32) 255).tmod 3),decide ((and64 (oS n 32) 255).tmod 3<((3:Nat):Int)),decide (0+((and64 (oS n 32) 255).tmod 3).toNat<3),decide ((((nmS.getD (0+(oP n).toNat) eB).size+(oT14.getD (0+((and64 (oS n 32) 255).tmod 3).toNat) eB).size:Nat):Int)<=IntKind.i64.max),decide ((((nmS.getD (0+(oP n).toNat) eB++oT14.getD (0+((and64 (oS n 32) 255).tmod 3).toNat) eB).size+(oT13.getD (0+(and64 (oS n 29) 7).toNat) eB).size:Nat):Int)<=IntKind.i64.max)],.c (.v (.string (nmS.getD (0+(oP n).toNat) eB++oT14.getD (0+((and64 (oS n 32) 255).tmod 3).toNat) eB++oT13.getD (0+(and64 (oS n 29) 7).toNat) eB))),[]):=by kernel_rfl
theorem on_f32f {n:Int}:(lfun onG nol 60 Try.f167 [I64 n] []).go (dN 44 8658656026623)=some ([true,decide (oP n<((33:Nat):Int)),decide ((0:Int)<=oP n),decide (oP n<((33:Nat):Int)),decide (0+(oP n).toNat<33),true,decide ((0:Int)<=and64 (oS n 8) 7),decide (and64 (oS n 8) 7<((8:Nat):Int)),decide (0+(and64 (oS n 8) 7).toNat<8),true,decide ((0:Int)<=and64 (oS n 11) 7),decide (and64 (oS n 11) 7<((8:Nat):Int)),decide (0+(and64 (oS n 11) 7).toNat<8),!oP n==(1:Int),decide (oP n>=(8:Int)),true,true,!decide (oP n<=(11:Int)),decide (oP n>=(12:Int)),true,true,!decide (oP n<=(19:Int)),true,true,!oP n==(31:Int),!oP n==(20:Int),!oP n==(21:Int),!oP n==(23:Int),true,true,!oP n==(24:Int),!oP n==(25:Int),!oP n==(26:Int),!oP n==(27:Int),!oP n==(28:Int),!oP n==(29:Int),!oP n==(30:Int),oP n==(32:Int),true,decide ((0:Int)<=and64 (oS n 14) 1),decide (and64 (oS n 14) 1<((2:Nat):Int)),decide (0+(and64 (oS n 14) 1).toNat<2),true,!and64 (oS n 24) 31==(7:Int),true,true,decide ((0:Int)<=(and64 (oS n 32) 255).tmod 3),decide ((and64 (oS n 32) 255).tmod 3<((3:Nat):Int)),decide (0+((and64 (oS n 32) 255).tmod 3).toNat<3),decide ((((nmS.getD (0+(oP n).toNat) eB).size+(oT14.getD (0+((and64 (oS n 32) 255).tmod 3).toNat) eB).size:Nat):Int)<=IntKind.i64.max),decide ((((nmS.getD (0+(oP n).toNat) eB++oT14.getD (0+((and64 (oS n 32) 255).tmod 3).toNat) eB).size+(oT12.getD (0+(and64 (oS n 14) 1).toNat) eB).size:Nat):Int)<=IntKind.i64.max)],.c (.v (.string (nmS.getD (0+(oP n).toNat) eB++oT14.getD (0+((and64 (oS n 32) 255).tmod 3).toNat) eB++oT12.getD (0+(and64 (oS n 14) 1).toNat) eB))),[]):=by kernel_rfl
theorem on_gt {n:Int}:(lfun onG nol 60 Try.f167 [I64 n] []).go (dN 38 1957887)=some ([true,decide (oP n<((33:Nat):Int)),decide ((0:Int)<=oP n),decide (oP n<((33:Nat):Int)),decide (0+(oP n).toNat<33),true,decide ((0:Int)<=and64 (oS n 8) 7),decide (and64 (oS n 8) 7<((8:Nat):Int)),decide (0+(and64 (oS n 8) 7).toNat<8),true,decide ((0:Int)<=and64 (oS n 11) 7),decide (and64 (oS n 11) 7<((8:Nat):Int)),decide (0+(and64 (oS n 11) 7).toNat<8),!oP n==(1:Int),decide (oP n>=(8:Int)),true,true,!decide (oP n<=(11:Int)),decide (oP n>=(12:Int)),true,true,!decide (oP n<=(19:Int)),true,true,!oP n==(31:Int),!oP n==(20:Int),!oP n==(21:Int),!oP n==(23:Int),true,true,!oP n==(24:Int),!oP n==(25:Int),!oP n==(26:Int),!oP n==(27:Int),!oP n==(28:Int),!oP n==(29:Int),!oP n==(30:Int),!oP n==(32:Int),true,and64 (oS n 24) 31==(7:Int),true,decide ((0:Int)<=and64 (oS n 29) 7),decide (and64 (oS n 29) 7<((8:Nat):Int)),decide (0+(and64 (oS n 29) 7).toNat<8),true,true,decide ((0:Int)<=(and64 (oS n 32) 255).tmod 3),decide ((and64 (oS n 32) 255).tmod 3<((3:Nat):Int)),decide (0+((and64 (oS n 32) 255).tmod 3).toNat<3),decide ((((nmS.getD (0+(oP n).toNat) eB).size+(oT14.getD (0+((and64 (oS n 32) 255).tmod 3).toNat) eB).size:Nat):Int)<=IntKind.i64.max),decide ((((nmS.getD (0+(oP n).toNat) eB++oT14.getD (0+((and64 (oS n 32) 255).tmod 3).toNat) eB).size+(oT13.getD (0+(and64 (oS n 29) 7).toNat) eB).size:Nat):Int)<=IntKind.i64.max)],.c (.v (.string (nmS.getD (0+(oP n).toNat) eB++oT14.getD (0+((and64 (oS n 32) 255).tmod 3).toNat) eB++oT13.getD (0+(and64 (oS n 29) 7).toNat) eB))),[]):=by kernel_rfl
theorem on_gf {n:Int}:(lfun onG nol 60 Try.f167 [I64 n] []).go (dN 40 274879864831)=some ([true,decide (oP n<((33:Nat):Int)),decide ((0:Int)<=oP n),decide (oP n<((33:Nat):Int)),decide (0+(oP n).toNat<33),true,decide ((0:Int)<=and64 (oS n 8) 7),decide (and64 (oS n 8) 7<((8:Nat):Int)),decide (0+(and64 (oS n 8) 7).toNat<8),true,decide ((0:Int)<=and64 (oS n 11) 7),decide (and64 (oS n 11) 7<((8:Nat):Int)),decide (0+(and64 (oS n 11) 7).toNat<8),!oP n==(1:Int),decide (oP n>=(8:Int)),true,true,!decide (oP n<=(11:Int)),decide (oP n>=(12:Int)),true,true,!decide (oP n<=(19:Int)),true,true,!oP n==(31:Int),!oP n==(20:Int),!oP n==(21:Int),!oP n==(23:Int),true,true,!oP n==(24:Int),!oP n==(25:Int),!oP n==(26:Int),!oP n==(27:Int),!oP n==(28:Int),!oP n==(29:Int),!oP n==(30:Int),!oP n==(32:Int),true,!and64 (oS n 24) 31==(7:Int),true,true,decide ((0:Int)<=(and64 (oS n 32) 255).tmod 3),decide ((and64 (oS n 32) 255).tmod 3<((3:Nat):Int)),decide (0+((and64 (oS n 32) 255).tmod 3).toNat<3),decide ((((nmS.getD (0+(oP n).toNat) eB).size+(oT14.getD (0+((and64 (oS n 32) 255).tmod 3).toNat) eB).size:Nat):Int)<=IntKind.i64.max),decide ((((nmS.getD (0+(oP n).toNat) eB++oT14.getD (0+((and64 (oS n 32) 255).tmod 3).toNat) eB).size+([oT0.getD (0+(and64 (oS n 8) 7).toNat) eB,oT0.getD (0+(and64 (oS n 8) 7).toNat) eB,oT0.getD (0+(and64 (oS n 8) 7).toNat) eB,(⟨#[53,48,37]⟩:ByteArray),(⟨#[49,48,48,37]⟩:ByteArray),(⟨#[51,51,46,51,51,37]⟩:ByteArray),(⟨#[97,117,116,111]⟩:ByteArray),(⟨#[110,111,110,101]⟩:ByteArray)].getD (0+(and64 (oS n 11) 7).toNat) eB).size:Nat):Int)<=IntKind.i64.max)],.c (.v (.string (nmS.getD (0+(oP n).toNat) eB++oT14.getD (0+((and64 (oS n 32) 255).tmod 3).toNat) eB++[oT0.getD (0+(and64 (oS n 8) 7).toNat) eB,oT0.getD (0+(and64 (oS n 8) 7).toNat) eB,oT0.getD (0+(and64 (oS n 8) 7).toNat) eB,(⟨#[53,48,37]⟩:ByteArray),(⟨#[49,48,48,37]⟩:ByteArray),(⟨#[51,51,46,51,51,37]⟩:ByteArray),(⟨#[97,117,116,111]⟩:ByteArray),(⟨#[110,111,110,101]⟩:ByteArray)].getD (0+(and64 (oS n 11) 7).toNat) eB))),[]):=by kernel_rfl
theorem on_ht {n:Int}:(lfun onG nol 60 Try.f167 [I64 n] []).go (dN 35 244733)=some ([true,!decide (oP n<((33:Nat):Int)),true,decide ((0:Int)<=and64 (oS n 8) 7),decide (and64 (oS n 8) 7<((8:Nat):Int)),decide (0+(and64 (oS n 8) 7).toNat<8),true,decide ((0:Int)<=and64 (oS n 11) 7),decide (and64 (oS n 11) 7<((8:Nat):Int)),decide (0+(and64 (oS n 11) 7).toNat<8),!oP n==(1:Int),decide (oP n>=(8:Int)),true,true,!decide (oP n<=(11:Int)),decide (oP n>=(12:Int)),true,true,!decide (oP n<=(19:Int)),true,true,!oP n==(31:Int),!oP n==(20:Int),!oP n==(21:Int),!oP n==(23:Int),true,true,!oP n==(24:Int),!oP n==(25:Int),!oP n==(26:Int),!oP n==(27:Int),!oP n==(28:Int),!oP n==(29:Int),!oP n==(30:Int),!oP n==(32:Int),true,and64 (oS n 24) 31==(7:Int),true,decide ((0:Int)<=and64 (oS n 29) 7),decide (and64 (oS n 29) 7<((8:Nat):Int)),decide (0+(and64 (oS n 29) 7).toNat<8),true,true,decide ((0:Int)<=(and64 (oS n 32) 255).tmod 3),decide ((and64 (oS n 32) 255).tmod 3<((3:Nat):Int)),decide (0+((and64 (oS n 32) 255).tmod 3).toNat<3),decide ((((⟨#[99,111,108,111,114]⟩:ByteArray).size+(oT14.getD (0+((and64 (oS n 32) 255).tmod 3).toNat) eB).size:Nat):Int)<=IntKind.i64.max),decide (((((⟨#[99,111,108,111,114]⟩:ByteArray)++oT14.getD (0+((and64 (oS n 32) 255).tmod 3).toNat) eB).size+(oT13.getD (0+(and64 (oS n 29) 7).toNat) eB).size:Nat):Int)<=IntKind.i64.max)],.c (.v (.string ((⟨#[99,111,108,111,114]⟩:ByteArray)++oT14.getD (0+((and64 (oS n 32) 255).tmod 3).toNat) eB++oT13.getD (0+(and64 (oS n 29) 7).toNat) eB))),[]):=by kernel_rfl
theorem on_hf {n:Int}:(lfun onG nol 60 Try.f167 [I64 n] []).go (dN 37 34359983101)=some ([true,!decide (oP n<((33:Nat):Int)),true,decide ((0:Int)<=and64 (oS n 8) 7),decide (and64 (oS n 8) 7<((8:Nat):Int)),decide (0+(and64 (oS n 8) 7).toNat<8),true,decide ((0:Int)<=and64 (oS n 11) 7),decide (and64 (oS n 11) 7<((8:Nat):Int)),decide (0+(and64 (oS n 11) 7).toNat<8),!oP n==(1:Int),decide (oP n>=(8:Int)),true,true,!decide (oP n<=(11:Int)),decide (oP n>=(12:Int)),true,true,!decide (oP n<=(19:Int)),true,true,!oP n==(31:Int),!oP n==(20:Int),!oP n==(21:Int),!oP n==(23:Int),true,true,!oP n==(24:Int),!oP n==(25:Int),!oP n==(26:Int),!oP n==(27:Int),!oP n==(28:Int),!oP n==(29:Int),!oP n==(30:Int),!oP n==(32:Int),true,!and64 (oS n 24) 31==(7:Int),true,true,decide ((0:Int)<=(and64 (oS n 32) 255).tmod 3),decide ((and64 (oS n 32) 255).tmod 3<((3:Nat):Int)),decide (0+((and64 (oS n 32) 255).tmod 3).toNat<3),decide ((((⟨#[99,111,108,111,114]⟩:ByteArray).size+(oT14.getD (0+((and64 (oS n 32) 255).tmod 3).toNat) eB).size:Nat):Int)<=IntKind.i64.max),decide (((((⟨#[99,111,108,111,114]⟩:ByteArray)++oT14.getD (0+((and64 (oS n 32) 255).tmod 3).toNat) eB).size+([oT0.getD (0+(and64 (oS n 8) 7).toNat) eB,oT0.getD (0+(and64 (oS n 8) 7).toNat) eB,oT0.getD (0+(and64 (oS n 8) 7).toNat) eB,(⟨#[53,48,37]⟩:ByteArray),(⟨#[49,48,48,37]⟩:ByteArray),(⟨#[51,51,46,51,51,37]⟩:ByteArray),(⟨#[97,117,116,111]⟩:ByteArray),(⟨#[110,111,110,101]⟩:ByteArray)].getD (0+(and64 (oS n 11) 7).toNat) eB).size:Nat):Int)<=IntKind.i64.max)],.c (.v (.string ((⟨#[99,111,108,111,114]⟩:ByteArray)++oT14.getD (0+((and64 (oS n 32) 255).tmod 3).toNat) eB++[oT0.getD (0+(and64 (oS n 8) 7).toNat) eB,oT0.getD (0+(and64 (oS n 8) 7).toNat) eB,oT0.getD (0+(and64 (oS n 8) 7).toNat) eB,(⟨#[53,48,37]⟩:ByteArray),(⟨#[49,48,48,37]⟩:ByteArray),(⟨#[51,51,46,51,51,37]⟩:ByteArray),(⟨#[97,117,116,111]⟩:ByteArray),(⟨#[110,111,110,101]⟩:ByteArray)].getD (0+(and64 (oS n 11) 7).toNat) eB))),[]):=by kernel_rfl
end
section
open Go Go.RowKit
set_option maxHeartbeats 4000000
def Sm (k:Nat) (s:ByteArray):Prop:=s.size<=k
theorem sm_app {a b:Nat}{A B:ByteArray}(h1:Sm a A) (h2:Sm b B):Sm (a+b) (A++B):=by
 unfold Sm at *;rw [ByteArray.size_append];omega
theorem sm_le {a b:Nat}{A:ByteArray}(h:Sm a A) (hb:a<=b):Sm b A:=Nat.le_trans h hb
theorem sm_max {a b:Nat}{A B:ByteArray}(h1:Sm a A) (h2:Sm b B) (h:a+b<=100000):decide (((A.size+B.size:Nat):Int)<=IntKind.i64.max)=true:=by
 have e:IntKind.i64.max=9223372036854775807:=rfl
 unfold Sm at *;rw [e];exact decide_eq_true (by omega)
theorem sm_n {k i:Nat}:Sm k (([]:List ByteArray).getD i eB):=Nat.zero_le _
theorem sm_c {k i:Nat}{s:ByteArray}{l:List ByteArray}(h:Sm k s) (h2:∀ j,Sm k (l.getD j eB)):Sm k ((s::l).getD i eB):=by
 cases i with
 | zero=>exact h
 | succ j=>exact h2 j
theorem sm_t {k:Nat}:∀ (l:List ByteArray),l.all (fun s=>decide (s.size<=k))=true->∀ i,Sm k (l.getD i eB)
 | [],_,i=>sm_n
 | s::l,h,i=>by
  simp only [List.all_cons,Bool.and_eq_true,decide_eq_true_eq] at h
  exact sm_c h.1 (sm_t l h.2)
theorem sm_nmS (i:Nat):Sm 24 (nmS.getD i eB):=sm_t nmS (by decide) i
theorem sm_oT0 (i:Nat):Sm 24 (oT0.getD i eB):=sm_t oT0 (by decide) i
theorem sm_oT1 (i:Nat):Sm 24 (oT1.getD i eB):=sm_t oT1 (by decide) i
theorem sm_oT2 (i:Nat):Sm 24 (oT2.getD i eB):=sm_t oT2 (by decide) i
theorem sm_oT3 (i:Nat):Sm 24 (oT3.getD i eB):=sm_t oT3 (by decide) i
theorem sm_oT4 (i:Nat):Sm 24 (oT4.getD i eB):=sm_t oT4 (by decide) i
theorem sm_oT5 (i:Nat):Sm 24 (oT5.getD i eB):=sm_t oT5 (by decide) i
theorem sm_oT6 (i:Nat):Sm 24 (oT6.getD i eB):=sm_t oT6 (by decide) i
theorem sm_oT7 (i:Nat):Sm 24 (oT7.getD i eB):=sm_t oT7 (by decide) i
theorem sm_oT8 (i:Nat):Sm 24 (oT8.getD i eB):=sm_t oT8 (by decide) i
theorem sm_oT9 (i:Nat):Sm 24 (oT9.getD i eB):=sm_t oT9 (by decide) i
theorem sm_oT10 (i:Nat):Sm 24 (oT10.getD i eB):=sm_t oT10 (by decide) i
theorem sm_oT11 (i:Nat):Sm 24 (oT11.getD i eB):=sm_t oT11 (by decide) i
theorem sm_oT12 (i:Nat):Sm 24 (oT12.getD i eB):=sm_t oT12 (by decide) i
theorem sm_oT13 (i:Nat):Sm 24 (oT13.getD i eB):=sm_t oT13 (by decide) i
theorem sm_oT14 (i:Nat):Sm 24 (oT14.getD i eB):=sm_t oT14 (by decide) i
theorem m7 (a:Int):0<=and64 a 7/\and64 a 7<8:=by rw [and_mask 3 (by decide) a 7 rfl];omega
theorem m3 (a:Int):0<=and64 a 3/\and64 a 3<4:=by rw [and_mask 2 (by decide) a 3 rfl];omega
theorem m1 (a:Int):0<=and64 a 1/\and64 a 1<2:=by rw [and_mask 1 (by decide) a 1 rfl];omega
theorem m255 (a:Int):0<=and64 a 255/\and64 a 255<256:=by rw [and_mask 8 (by decide) a 255 rfl];omega
theorem tm (a m:Int) (h:0<=a) (hm:0<m):0<=a.tmod m/\a.tmod m<m:=⟨Int.tmod_nonneg m h,Int.tmod_lt_of_pos a hm⟩
theorem mP (n:Int):1<=w64 ((and64 n 255).tmod 33+1)/\w64 ((and64 n 255).tmod 33+1)<=33:=by
 have h:=tm (and64 n 255) 33 (m255 n).1 (by decide)
 rw [w64_id (by omega) (by omega)];omega
theorem k7a (a:Int):decide ((0:Int)<=and64 a (7:Int))=true:=by have:=m7 a;exact decide_eq_true (by omega)
theorem k7b (a:Int):decide (and64 a (7:Int)<((8:Nat):Int))=true:=by have:=m7 a;exact decide_eq_true (by omega)
theorem k7c (a:Int):decide (0+(and64 a (7:Int)).toNat<8)=true:=by have:=m7 a;exact decide_eq_true (by omega)
theorem k3a (a:Int):decide ((0:Int)<=and64 a (3:Int))=true:=by have:=m3 a;exact decide_eq_true (by omega)
theorem k3b (a:Int):decide (and64 a (3:Int)<((4:Nat):Int))=true:=by have:=m3 a;exact decide_eq_true (by omega)
theorem k3c (a:Int):decide (0+(and64 a (3:Int)).toNat<4)=true:=by have:=m3 a;exact decide_eq_true (by omega)
theorem k1a (a:Int):decide ((0:Int)<=and64 a (1:Int))=true:=by have:=m1 a;exact decide_eq_true (by omega)
theorem k1b (a:Int):decide (and64 a (1:Int)<((2:Nat):Int))=true:=by have:=m1 a;exact decide_eq_true (by omega)
theorem k1c (a:Int):decide (0+(and64 a (1:Int)).toNat<2)=true:=by have:=m1 a;exact decide_eq_true (by omega)
theorem t3a (a:Int):decide ((0:Int)<=(and64 a (255:Int)).tmod (3:Int))=true:=by have:=tm (and64 a 255) 3 (m255 a).1 (by decide);exact decide_eq_true (by omega)
theorem t3b (a:Int):decide ((and64 a (255:Int)).tmod (3:Int)<((3:Nat):Int))=true:=by have:=tm (and64 a 255) 3 (m255 a).1 (by decide);exact decide_eq_true (by omega)
theorem t3c (a:Int):decide (0+((and64 a (255:Int)).tmod (3:Int)).toNat<3)=true:=by have:=tm (and64 a 255) 3 (m255 a).1 (by decide);exact decide_eq_true (by omega)
theorem t5a (a:Int):decide ((0:Int)<=(and64 a (255:Int)).tmod (5:Int))=true:=by have:=tm (and64 a 255) 5 (m255 a).1 (by decide);exact decide_eq_true (by omega)
theorem t5b (a:Int):decide ((and64 a (255:Int)).tmod (5:Int)<((5:Nat):Int))=true:=by have:=tm (and64 a 255) 5 (m255 a).1 (by decide);exact decide_eq_true (by omega)
theorem t5c (a:Int):decide (0+((and64 a (255:Int)).tmod (5:Int)).toNat<5)=true:=by have:=tm (and64 a 255) 5 (m255 a).1 (by decide);exact decide_eq_true (by omega)
class Tru (b:Bool):Prop where
 tru:b=true
instance ik7a (a:Int):Tru (decide ((0:Int)<=and64 a (7:Int))):=⟨k7a a⟩
instance ik7b (a:Int):Tru (decide (and64 a (7:Int)<((8:Nat):Int))):=⟨k7b a⟩
instance ik7c (a:Int):Tru (decide (0+(and64 a (7:Int)).toNat<8)):=⟨k7c a⟩
instance ik3a (a:Int):Tru (decide ((0:Int)<=and64 a (3:Int))):=⟨k3a a⟩
instance ik3b (a:Int):Tru (decide (and64 a (3:Int)<((4:Nat):Int))):=⟨k3b a⟩
instance ik3c (a:Int):Tru (decide (0+(and64 a (3:Int)).toNat<4)):=⟨k3c a⟩
instance ik1a (a:Int):Tru (decide ((0:Int)<=and64 a (1:Int))):=⟨k1a a⟩
instance ik1b (a:Int):Tru (decide (and64 a (1:Int)<((2:Nat):Int))):=⟨k1b a⟩
instance ik1c (a:Int):Tru (decide (0+(and64 a (1:Int)).toNat<2)):=⟨k1c a⟩
instance it3a (a:Int):Tru (decide ((0:Int)<=(and64 a (255:Int)).tmod (3:Int))):=⟨t3a a⟩
instance it3b (a:Int):Tru (decide ((and64 a (255:Int)).tmod (3:Int)<((3:Nat):Int))):=⟨t3b a⟩
instance it3c (a:Int):Tru (decide (0+((and64 a (255:Int)).tmod (3:Int)).toNat<3)):=⟨t3c a⟩
instance it5a (a:Int):Tru (decide ((0:Int)<=(and64 a (255:Int)).tmod (5:Int))):=⟨t5a a⟩
instance it5b (a:Int):Tru (decide ((and64 a (255:Int)).tmod (5:Int)<((5:Nat):Int))):=⟨t5b a⟩
instance it5c (a:Int):Tru (decide (0+((and64 a (255:Int)).tmod (5:Int)).toNat<5)):=⟨t5c a⟩
class IsSm (k:outParam Nat) (s:ByteArray):Prop where
 sm:Sm k s
class IsSmL (k:outParam Nat) (l:List ByteArray):Prop where
 sm:∀ j,Sm k (l.getD j eB)
instance (priority:=1) iS0 (s:ByteArray):IsSm s.size s:=⟨Nat.le_refl _⟩
instance iSL0:IsSmL 0 []:=⟨fun _=>sm_n⟩
instance iSL1 {a b:Nat}{s:ByteArray}{l:List ByteArray} [h1:IsSm a s] [h2:IsSmL b l]:IsSmL (max a b) (s::l):=⟨fun _=>sm_c (sm_le h1.sm (Nat.le_max_left _ _)) fun j=>sm_le (h2.sm j) (Nat.le_max_right _ _)⟩
instance iS1 {k i:Nat}{l:List ByteArray} [h:IsSmL k l]:IsSm k (l.getD i eB):=⟨h.sm i⟩
instance iS2 {a b:Nat}{A B:ByteArray} [h1:IsSm a A] [h2:IsSm b B]:IsSm (a+b) (A++B):=⟨sm_app h1.sm h2.sm⟩
instance inmS:IsSmL 24 nmS:=⟨sm_nmS⟩
instance ioT0:IsSmL 24 oT0:=⟨sm_oT0⟩
instance ioT1:IsSmL 24 oT1:=⟨sm_oT1⟩
instance ioT2:IsSmL 24 oT2:=⟨sm_oT2⟩
instance ioT3:IsSmL 24 oT3:=⟨sm_oT3⟩
instance ioT4:IsSmL 24 oT4:=⟨sm_oT4⟩
instance ioT5:IsSmL 24 oT5:=⟨sm_oT5⟩
instance ioT6:IsSmL 24 oT6:=⟨sm_oT6⟩
instance ioT7:IsSmL 24 oT7:=⟨sm_oT7⟩
instance ioT8:IsSmL 24 oT8:=⟨sm_oT8⟩
instance ioT9:IsSmL 24 oT9:=⟨sm_oT9⟩
instance ioT10:IsSmL 24 oT10:=⟨sm_oT10⟩
instance ioT11:IsSmL 24 oT11:=⟨sm_oT11⟩
instance ioT12:IsSmL 24 oT12:=⟨sm_oT12⟩
instance ioT13:IsSmL 24 oT13:=⟨sm_oT13⟩
instance ioT14:IsSmL 24 oT14:=⟨sm_oT14⟩
def OnRes (n:Int) (s:ByteArray):Prop:=Sm 100 s/\(lfun onG nol 60 Try.f167 [I64 n] []).eval=some (StrA s,[])
theorem one_1 {n:Int}(hP:oP n=1):∃ s,OnRes n s:=by
 cases ht:(and64 (oS n 24) 31==(7:Int))
 ·have ht':(!(and64 (oS n 24) 31==(7:Int)))=true:=by rw [ht];rfl
  refine ⟨_,?_,(Tr.go_eval on_af ?_).trans rfl⟩
  ·exact sm_le IsSm.sm (by decide)
  ·(repeat' (first|exact AllT.nil|refine AllT.cons ?_ ?_));all_goals first|(with_reducible rfl)|(with_reducible assumption)|exact Tru.tru|(rw [hP];rfl)|exact sm_max IsSm.sm IsSm.sm (by decide)
 ·refine ⟨_,?_,(Tr.go_eval on_at ?_).trans rfl⟩
  ·exact sm_le IsSm.sm (by decide)
  ·(repeat' (first|exact AllT.nil|refine AllT.cons ?_ ?_));all_goals first|(with_reducible rfl)|(with_reducible assumption)|exact Tru.tru|(rw [hP];rfl)|exact sm_max IsSm.sm IsSm.sm (by decide)
theorem one_2 {n:Int}(hP:oP n=2):∃ s,OnRes n s:=by
 cases ht:(and64 (oS n 24) 31==(7:Int))
 ·have ht':(!(and64 (oS n 24) 31==(7:Int)))=true:=by rw [ht];rfl
  refine ⟨_,?_,(Tr.go_eval on_bf ?_).trans rfl⟩
  ·exact sm_le IsSm.sm (by decide)
  ·(repeat' (first|exact AllT.nil|refine AllT.cons ?_ ?_));all_goals first|(with_reducible rfl)|(with_reducible assumption)|exact Tru.tru|(rw [hP];rfl)|exact sm_max IsSm.sm IsSm.sm (by decide)
 ·refine ⟨_,?_,(Tr.go_eval on_bt ?_).trans rfl⟩
  ·exact sm_le IsSm.sm (by decide)
  ·(repeat' (first|exact AllT.nil|refine AllT.cons ?_ ?_));all_goals first|(with_reducible rfl)|(with_reducible assumption)|exact Tru.tru|(rw [hP];rfl)|exact sm_max IsSm.sm IsSm.sm (by decide)
theorem one_3 {n:Int}(hP:oP n=3):∃ s,OnRes n s:=by
 cases ht:(and64 (oS n 24) 31==(7:Int))
 ·have ht':(!(and64 (oS n 24) 31==(7:Int)))=true:=by rw [ht];rfl
  refine ⟨_,?_,(Tr.go_eval on_bf ?_).trans rfl⟩
  ·exact sm_le IsSm.sm (by decide)
  ·(repeat' (first|exact AllT.nil|refine AllT.cons ?_ ?_));all_goals first|(with_reducible rfl)|(with_reducible assumption)|exact Tru.tru|(rw [hP];rfl)|exact sm_max IsSm.sm IsSm.sm (by decide)
 ·refine ⟨_,?_,(Tr.go_eval on_bt ?_).trans rfl⟩
  ·exact sm_le IsSm.sm (by decide)
  ·(repeat' (first|exact AllT.nil|refine AllT.cons ?_ ?_));all_goals first|(with_reducible rfl)|(with_reducible assumption)|exact Tru.tru|(rw [hP];rfl)|exact sm_max IsSm.sm IsSm.sm (by decide)
theorem one_4 {n:Int}(hP:oP n=4):∃ s,OnRes n s:=by
 cases ht:(and64 (oS n 24) 31==(7:Int))
 ·have ht':(!(and64 (oS n 24) 31==(7:Int)))=true:=by rw [ht];rfl
  refine ⟨_,?_,(Tr.go_eval on_bf ?_).trans rfl⟩
  ·exact sm_le IsSm.sm (by decide)
  ·(repeat' (first|exact AllT.nil|refine AllT.cons ?_ ?_));all_goals first|(with_reducible rfl)|(with_reducible assumption)|exact Tru.tru|(rw [hP];rfl)|exact sm_max IsSm.sm IsSm.sm (by decide)
 ·refine ⟨_,?_,(Tr.go_eval on_bt ?_).trans rfl⟩
  ·exact sm_le IsSm.sm (by decide)
  ·(repeat' (first|exact AllT.nil|refine AllT.cons ?_ ?_));all_goals first|(with_reducible rfl)|(with_reducible assumption)|exact Tru.tru|(rw [hP];rfl)|exact sm_max IsSm.sm IsSm.sm (by decide)
theorem one_5 {n:Int}(hP:oP n=5):∃ s,OnRes n s:=by
 cases ht:(and64 (oS n 24) 31==(7:Int))
 ·have ht':(!(and64 (oS n 24) 31==(7:Int)))=true:=by rw [ht];rfl
  refine ⟨_,?_,(Tr.go_eval on_bf ?_).trans rfl⟩
  ·exact sm_le IsSm.sm (by decide)
  ·(repeat' (first|exact AllT.nil|refine AllT.cons ?_ ?_));all_goals first|(with_reducible rfl)|(with_reducible assumption)|exact Tru.tru|(rw [hP];rfl)|exact sm_max IsSm.sm IsSm.sm (by decide)
 ·refine ⟨_,?_,(Tr.go_eval on_bt ?_).trans rfl⟩
  ·exact sm_le IsSm.sm (by decide)
  ·(repeat' (first|exact AllT.nil|refine AllT.cons ?_ ?_));all_goals first|(with_reducible rfl)|(with_reducible assumption)|exact Tru.tru|(rw [hP];rfl)|exact sm_max IsSm.sm IsSm.sm (by decide)
theorem one_6 {n:Int}(hP:oP n=6):∃ s,OnRes n s:=by
 cases ht:(and64 (oS n 24) 31==(7:Int))
 ·have ht':(!(and64 (oS n 24) 31==(7:Int)))=true:=by rw [ht];rfl
  refine ⟨_,?_,(Tr.go_eval on_bf ?_).trans rfl⟩
  ·exact sm_le IsSm.sm (by decide)
  ·(repeat' (first|exact AllT.nil|refine AllT.cons ?_ ?_));all_goals first|(with_reducible rfl)|(with_reducible assumption)|exact Tru.tru|(rw [hP];rfl)|exact sm_max IsSm.sm IsSm.sm (by decide)
 ·refine ⟨_,?_,(Tr.go_eval on_bt ?_).trans rfl⟩
  ·exact sm_le IsSm.sm (by decide)
  ·(repeat' (first|exact AllT.nil|refine AllT.cons ?_ ?_));all_goals first|(with_reducible rfl)|(with_reducible assumption)|exact Tru.tru|(rw [hP];rfl)|exact sm_max IsSm.sm IsSm.sm (by decide)
theorem one_7 {n:Int}(hP:oP n=7):∃ s,OnRes n s:=by
 cases ht:(and64 (oS n 24) 31==(7:Int))
 ·have ht':(!(and64 (oS n 24) 31==(7:Int)))=true:=by rw [ht];rfl
  refine ⟨_,?_,(Tr.go_eval on_bf ?_).trans rfl⟩
  ·exact sm_le IsSm.sm (by decide)
  ·(repeat' (first|exact AllT.nil|refine AllT.cons ?_ ?_));all_goals first|(with_reducible rfl)|(with_reducible assumption)|exact Tru.tru|(rw [hP];rfl)|exact sm_max IsSm.sm IsSm.sm (by decide)
 ·refine ⟨_,?_,(Tr.go_eval on_bt ?_).trans rfl⟩
  ·exact sm_le IsSm.sm (by decide)
  ·(repeat' (first|exact AllT.nil|refine AllT.cons ?_ ?_));all_goals first|(with_reducible rfl)|(with_reducible assumption)|exact Tru.tru|(rw [hP];rfl)|exact sm_max IsSm.sm IsSm.sm (by decide)
theorem one_8 {n:Int}(hP:oP n=8):∃ s,OnRes n s:=by
 cases ht:(and64 (oS n 24) 31==(7:Int))
 ·have ht':(!(and64 (oS n 24) 31==(7:Int)))=true:=by rw [ht];rfl
  refine ⟨_,?_,(Tr.go_eval on_cf ?_).trans rfl⟩
  ·exact sm_le IsSm.sm (by decide)
  ·(repeat' (first|exact AllT.nil|refine AllT.cons ?_ ?_));all_goals first|(with_reducible rfl)|(with_reducible assumption)|exact Tru.tru|(rw [hP];rfl)|exact sm_max IsSm.sm IsSm.sm (by decide)
 ·refine ⟨_,?_,(Tr.go_eval on_ct ?_).trans rfl⟩
  ·exact sm_le IsSm.sm (by decide)
  ·(repeat' (first|exact AllT.nil|refine AllT.cons ?_ ?_));all_goals first|(with_reducible rfl)|(with_reducible assumption)|exact Tru.tru|(rw [hP];rfl)|exact sm_max IsSm.sm IsSm.sm (by decide)
theorem one_9 {n:Int}(hP:oP n=9):∃ s,OnRes n s:=by
 cases ht:(and64 (oS n 24) 31==(7:Int))
 ·have ht':(!(and64 (oS n 24) 31==(7:Int)))=true:=by rw [ht];rfl
  refine ⟨_,?_,(Tr.go_eval on_cf ?_).trans rfl⟩
  ·exact sm_le IsSm.sm (by decide)
  ·(repeat' (first|exact AllT.nil|refine AllT.cons ?_ ?_));all_goals first|(with_reducible rfl)|(with_reducible assumption)|exact Tru.tru|(rw [hP];rfl)|exact sm_max IsSm.sm IsSm.sm (by decide)
 ·refine ⟨_,?_,(Tr.go_eval on_ct ?_).trans rfl⟩
  ·exact sm_le IsSm.sm (by decide)
  ·(repeat' (first|exact AllT.nil|refine AllT.cons ?_ ?_));all_goals first|(with_reducible rfl)|(with_reducible assumption)|exact Tru.tru|(rw [hP];rfl)|exact sm_max IsSm.sm IsSm.sm (by decide)
theorem one_10 {n:Int}(hP:oP n=10):∃ s,OnRes n s:=by
 cases ht:(and64 (oS n 24) 31==(7:Int))
 ·have ht':(!(and64 (oS n 24) 31==(7:Int)))=true:=by rw [ht];rfl
  refine ⟨_,?_,(Tr.go_eval on_cf ?_).trans rfl⟩
  ·exact sm_le IsSm.sm (by decide)
  ·(repeat' (first|exact AllT.nil|refine AllT.cons ?_ ?_));all_goals first|(with_reducible rfl)|(with_reducible assumption)|exact Tru.tru|(rw [hP];rfl)|exact sm_max IsSm.sm IsSm.sm (by decide)
 ·refine ⟨_,?_,(Tr.go_eval on_ct ?_).trans rfl⟩
  ·exact sm_le IsSm.sm (by decide)
  ·(repeat' (first|exact AllT.nil|refine AllT.cons ?_ ?_));all_goals first|(with_reducible rfl)|(with_reducible assumption)|exact Tru.tru|(rw [hP];rfl)|exact sm_max IsSm.sm IsSm.sm (by decide)
theorem one_11 {n:Int}(hP:oP n=11):∃ s,OnRes n s:=by
 cases ht:(and64 (oS n 24) 31==(7:Int))
 ·have ht':(!(and64 (oS n 24) 31==(7:Int)))=true:=by rw [ht];rfl
  refine ⟨_,?_,(Tr.go_eval on_cf ?_).trans rfl⟩
  ·exact sm_le IsSm.sm (by decide)
  ·(repeat' (first|exact AllT.nil|refine AllT.cons ?_ ?_));all_goals first|(with_reducible rfl)|(with_reducible assumption)|exact Tru.tru|(rw [hP];rfl)|exact sm_max IsSm.sm IsSm.sm (by decide)
 ·refine ⟨_,?_,(Tr.go_eval on_ct ?_).trans rfl⟩
  ·exact sm_le IsSm.sm (by decide)
  ·(repeat' (first|exact AllT.nil|refine AllT.cons ?_ ?_));all_goals first|(with_reducible rfl)|(with_reducible assumption)|exact Tru.tru|(rw [hP];rfl)|exact sm_max IsSm.sm IsSm.sm (by decide)
theorem one_12 {n:Int}(hP:oP n=12):∃ s,OnRes n s:=by
 cases ht:(and64 (oS n 24) 31==(7:Int))
 ·have ht':(!(and64 (oS n 24) 31==(7:Int)))=true:=by rw [ht];rfl
  refine ⟨_,?_,(Tr.go_eval on_df ?_).trans rfl⟩
  ·exact sm_le IsSm.sm (by decide)
  ·(repeat' (first|exact AllT.nil|refine AllT.cons ?_ ?_));all_goals first|(with_reducible rfl)|(with_reducible assumption)|exact Tru.tru|(rw [hP];rfl)|exact sm_max IsSm.sm IsSm.sm (by decide)
 ·refine ⟨_,?_,(Tr.go_eval on_dt ?_).trans rfl⟩
  ·exact sm_le IsSm.sm (by decide)
  ·(repeat' (first|exact AllT.nil|refine AllT.cons ?_ ?_));all_goals first|(with_reducible rfl)|(with_reducible assumption)|exact Tru.tru|(rw [hP];rfl)|exact sm_max IsSm.sm IsSm.sm (by decide)
theorem one_13 {n:Int}(hP:oP n=13):∃ s,OnRes n s:=by
 cases ht:(and64 (oS n 24) 31==(7:Int))
 ·have ht':(!(and64 (oS n 24) 31==(7:Int)))=true:=by rw [ht];rfl
  refine ⟨_,?_,(Tr.go_eval on_df ?_).trans rfl⟩
  ·exact sm_le IsSm.sm (by decide)
  ·(repeat' (first|exact AllT.nil|refine AllT.cons ?_ ?_));all_goals first|(with_reducible rfl)|(with_reducible assumption)|exact Tru.tru|(rw [hP];rfl)|exact sm_max IsSm.sm IsSm.sm (by decide)
 ·refine ⟨_,?_,(Tr.go_eval on_dt ?_).trans rfl⟩
  ·exact sm_le IsSm.sm (by decide)
  ·(repeat' (first|exact AllT.nil|refine AllT.cons ?_ ?_));all_goals first|(with_reducible rfl)|(with_reducible assumption)|exact Tru.tru|(rw [hP];rfl)|exact sm_max IsSm.sm IsSm.sm (by decide)
theorem one_14 {n:Int}(hP:oP n=14):∃ s,OnRes n s:=by
 cases ht:(and64 (oS n 24) 31==(7:Int))
 ·have ht':(!(and64 (oS n 24) 31==(7:Int)))=true:=by rw [ht];rfl
  refine ⟨_,?_,(Tr.go_eval on_df ?_).trans rfl⟩
  ·exact sm_le IsSm.sm (by decide)
  ·(repeat' (first|exact AllT.nil|refine AllT.cons ?_ ?_));all_goals first|(with_reducible rfl)|(with_reducible assumption)|exact Tru.tru|(rw [hP];rfl)|exact sm_max IsSm.sm IsSm.sm (by decide)
 ·refine ⟨_,?_,(Tr.go_eval on_dt ?_).trans rfl⟩
  ·exact sm_le IsSm.sm (by decide)
  ·(repeat' (first|exact AllT.nil|refine AllT.cons ?_ ?_));all_goals first|(with_reducible rfl)|(with_reducible assumption)|exact Tru.tru|(rw [hP];rfl)|exact sm_max IsSm.sm IsSm.sm (by decide)
theorem one_15 {n:Int}(hP:oP n=15):∃ s,OnRes n s:=by
 cases ht:(and64 (oS n 24) 31==(7:Int))
 ·have ht':(!(and64 (oS n 24) 31==(7:Int)))=true:=by rw [ht];rfl
  refine ⟨_,?_,(Tr.go_eval on_df ?_).trans rfl⟩
  ·exact sm_le IsSm.sm (by decide)
  ·(repeat' (first|exact AllT.nil|refine AllT.cons ?_ ?_));all_goals first|(with_reducible rfl)|(with_reducible assumption)|exact Tru.tru|(rw [hP];rfl)|exact sm_max IsSm.sm IsSm.sm (by decide)
 ·refine ⟨_,?_,(Tr.go_eval on_dt ?_).trans rfl⟩
  ·exact sm_le IsSm.sm (by decide)
  ·(repeat' (first|exact AllT.nil|refine AllT.cons ?_ ?_));all_goals first|(with_reducible rfl)|(with_reducible assumption)|exact Tru.tru|(rw [hP];rfl)|exact sm_max IsSm.sm IsSm.sm (by decide)
theorem one_16 {n:Int}(hP:oP n=16):∃ s,OnRes n s:=by
 cases ht:(and64 (oS n 24) 31==(7:Int))
 ·have ht':(!(and64 (oS n 24) 31==(7:Int)))=true:=by rw [ht];rfl
  refine ⟨_,?_,(Tr.go_eval on_df ?_).trans rfl⟩
  ·exact sm_le IsSm.sm (by decide)
  ·(repeat' (first|exact AllT.nil|refine AllT.cons ?_ ?_));all_goals first|(with_reducible rfl)|(with_reducible assumption)|exact Tru.tru|(rw [hP];rfl)|exact sm_max IsSm.sm IsSm.sm (by decide)
 ·refine ⟨_,?_,(Tr.go_eval on_dt ?_).trans rfl⟩
  ·exact sm_le IsSm.sm (by decide)
  ·(repeat' (first|exact AllT.nil|refine AllT.cons ?_ ?_));all_goals first|(with_reducible rfl)|(with_reducible assumption)|exact Tru.tru|(rw [hP];rfl)|exact sm_max IsSm.sm IsSm.sm (by decide)
theorem one_17 {n:Int}(hP:oP n=17):∃ s,OnRes n s:=by
 cases ht:(and64 (oS n 24) 31==(7:Int))
 ·have ht':(!(and64 (oS n 24) 31==(7:Int)))=true:=by rw [ht];rfl
  refine ⟨_,?_,(Tr.go_eval on_df ?_).trans rfl⟩
  ·exact sm_le IsSm.sm (by decide)
  ·(repeat' (first|exact AllT.nil|refine AllT.cons ?_ ?_));all_goals first|(with_reducible rfl)|(with_reducible assumption)|exact Tru.tru|(rw [hP];rfl)|exact sm_max IsSm.sm IsSm.sm (by decide)
 ·refine ⟨_,?_,(Tr.go_eval on_dt ?_).trans rfl⟩
  ·exact sm_le IsSm.sm (by decide)
  ·(repeat' (first|exact AllT.nil|refine AllT.cons ?_ ?_));all_goals first|(with_reducible rfl)|(with_reducible assumption)|exact Tru.tru|(rw [hP];rfl)|exact sm_max IsSm.sm IsSm.sm (by decide)
theorem one_18 {n:Int}(hP:oP n=18):∃ s,OnRes n s:=by
 cases ht:(and64 (oS n 24) 31==(7:Int))
 ·have ht':(!(and64 (oS n 24) 31==(7:Int)))=true:=by rw [ht];rfl
  refine ⟨_,?_,(Tr.go_eval on_df ?_).trans rfl⟩
  ·exact sm_le IsSm.sm (by decide)
  ·(repeat' (first|exact AllT.nil|refine AllT.cons ?_ ?_));all_goals first|(with_reducible rfl)|(with_reducible assumption)|exact Tru.tru|(rw [hP];rfl)|exact sm_max IsSm.sm IsSm.sm (by decide)
 ·refine ⟨_,?_,(Tr.go_eval on_dt ?_).trans rfl⟩
  ·exact sm_le IsSm.sm (by decide)
  ·(repeat' (first|exact AllT.nil|refine AllT.cons ?_ ?_));all_goals first|(with_reducible rfl)|(with_reducible assumption)|exact Tru.tru|(rw [hP];rfl)|exact sm_max IsSm.sm IsSm.sm (by decide)
theorem one_19 {n:Int}(hP:oP n=19):∃ s,OnRes n s:=by
 cases ht:(and64 (oS n 24) 31==(7:Int))
 ·have ht':(!(and64 (oS n 24) 31==(7:Int)))=true:=by rw [ht];rfl
  refine ⟨_,?_,(Tr.go_eval on_df ?_).trans rfl⟩
  ·exact sm_le IsSm.sm (by decide)
  ·(repeat' (first|exact AllT.nil|refine AllT.cons ?_ ?_));all_goals first|(with_reducible rfl)|(with_reducible assumption)|exact Tru.tru|(rw [hP];rfl)|exact sm_max IsSm.sm IsSm.sm (by decide)
 ·refine ⟨_,?_,(Tr.go_eval on_dt ?_).trans rfl⟩
  ·exact sm_le IsSm.sm (by decide)
  ·(repeat' (first|exact AllT.nil|refine AllT.cons ?_ ?_));all_goals first|(with_reducible rfl)|(with_reducible assumption)|exact Tru.tru|(rw [hP];rfl)|exact sm_max IsSm.sm IsSm.sm (by decide)
theorem one_20 {n:Int}(hP:oP n=20):∃ s,OnRes n s:=by
 cases ht:(and64 (oS n 24) 31==(7:Int))
 ·have ht':(!(and64 (oS n 24) 31==(7:Int)))=true:=by rw [ht];rfl
  refine ⟨_,?_,(Tr.go_eval on_f20f ?_).trans rfl⟩
  ·exact sm_le IsSm.sm (by decide)
  ·(repeat' (first|exact AllT.nil|refine AllT.cons ?_ ?_));all_goals first|(with_reducible rfl)|(with_reducible assumption)|exact Tru.tru|(rw [hP];rfl)|exact sm_max IsSm.sm IsSm.sm (by decide)
 ·refine ⟨_,?_,(Tr.go_eval on_f20t ?_).trans rfl⟩
  ·exact sm_le IsSm.sm (by decide)
  ·(repeat' (first|exact AllT.nil|refine AllT.cons ?_ ?_));all_goals first|(with_reducible rfl)|(with_reducible assumption)|exact Tru.tru|(rw [hP];rfl)|exact sm_max IsSm.sm IsSm.sm (by decide)
theorem one_21 {n:Int}(hP:oP n=21):∃ s,OnRes n s:=by
 cases ht:(and64 (oS n 24) 31==(7:Int))
 ·have ht':(!(and64 (oS n 24) 31==(7:Int)))=true:=by rw [ht];rfl
  refine ⟨_,?_,(Tr.go_eval on_f21f ?_).trans rfl⟩
  ·exact sm_le IsSm.sm (by decide)
  ·(repeat' (first|exact AllT.nil|refine AllT.cons ?_ ?_));all_goals first|(with_reducible rfl)|(with_reducible assumption)|exact Tru.tru|(rw [hP];rfl)|exact sm_max IsSm.sm IsSm.sm (by decide)
 ·refine ⟨_,?_,(Tr.go_eval on_f21t ?_).trans rfl⟩
  ·exact sm_le IsSm.sm (by decide)
  ·(repeat' (first|exact AllT.nil|refine AllT.cons ?_ ?_));all_goals first|(with_reducible rfl)|(with_reducible assumption)|exact Tru.tru|(rw [hP];rfl)|exact sm_max IsSm.sm IsSm.sm (by decide)
theorem one_22 {n:Int}(hP:oP n=22):∃ s,OnRes n s:=by
 cases ht:(and64 (oS n 24) 31==(7:Int))
 ·have ht':(!(and64 (oS n 24) 31==(7:Int)))=true:=by rw [ht];rfl
  refine ⟨_,?_,(Tr.go_eval on_gf ?_).trans rfl⟩
  ·exact sm_le IsSm.sm (by decide)
  ·(repeat' (first|exact AllT.nil|refine AllT.cons ?_ ?_));all_goals first|(with_reducible rfl)|(with_reducible assumption)|exact Tru.tru|(rw [hP];rfl)|exact sm_max IsSm.sm IsSm.sm (by decide)
 ·refine ⟨_,?_,(Tr.go_eval on_gt ?_).trans rfl⟩
  ·exact sm_le IsSm.sm (by decide)
  ·(repeat' (first|exact AllT.nil|refine AllT.cons ?_ ?_));all_goals first|(with_reducible rfl)|(with_reducible assumption)|exact Tru.tru|(rw [hP];rfl)|exact sm_max IsSm.sm IsSm.sm (by decide)
theorem one_23 {n:Int}(hP:oP n=23):∃ s,OnRes n s:=by
 cases ht:(and64 (oS n 24) 31==(7:Int))
 ·have ht':(!(and64 (oS n 24) 31==(7:Int)))=true:=by rw [ht];rfl
  refine ⟨_,?_,(Tr.go_eval on_f23f ?_).trans rfl⟩
  ·exact sm_le IsSm.sm (by decide)
  ·(repeat' (first|exact AllT.nil|refine AllT.cons ?_ ?_));all_goals first|(with_reducible rfl)|(with_reducible assumption)|exact Tru.tru|(rw [hP];rfl)|exact sm_max IsSm.sm IsSm.sm (by decide)
 ·refine ⟨_,?_,(Tr.go_eval on_f23t ?_).trans rfl⟩
  ·exact sm_le IsSm.sm (by decide)
  ·(repeat' (first|exact AllT.nil|refine AllT.cons ?_ ?_));all_goals first|(with_reducible rfl)|(with_reducible assumption)|exact Tru.tru|(rw [hP];rfl)|exact sm_max IsSm.sm IsSm.sm (by decide)
theorem one_24 {n:Int}(hP:oP n=24):∃ s,OnRes n s:=by
 cases ht:(and64 (oS n 24) 31==(7:Int))
 ·have ht':(!(and64 (oS n 24) 31==(7:Int)))=true:=by rw [ht];rfl
  refine ⟨_,?_,(Tr.go_eval on_f24f ?_).trans rfl⟩
  ·exact sm_le IsSm.sm (by decide)
  ·(repeat' (first|exact AllT.nil|refine AllT.cons ?_ ?_));all_goals first|(with_reducible rfl)|(with_reducible assumption)|exact Tru.tru|(rw [hP];rfl)|exact sm_max IsSm.sm IsSm.sm (by decide)
 ·refine ⟨_,?_,(Tr.go_eval on_f24t ?_).trans rfl⟩
  ·exact sm_le IsSm.sm (by decide)
  ·(repeat' (first|exact AllT.nil|refine AllT.cons ?_ ?_));all_goals first|(with_reducible rfl)|(with_reducible assumption)|exact Tru.tru|(rw [hP];rfl)|exact sm_max IsSm.sm IsSm.sm (by decide)
theorem one_25 {n:Int}(hP:oP n=25):∃ s,OnRes n s:=by
 cases ht:(and64 (oS n 24) 31==(7:Int))
 ·have ht':(!(and64 (oS n 24) 31==(7:Int)))=true:=by rw [ht];rfl
  refine ⟨_,?_,(Tr.go_eval on_f25f ?_).trans rfl⟩
  ·exact sm_le IsSm.sm (by decide)
  ·(repeat' (first|exact AllT.nil|refine AllT.cons ?_ ?_));all_goals first|(with_reducible rfl)|(with_reducible assumption)|exact Tru.tru|(rw [hP];rfl)|exact sm_max IsSm.sm IsSm.sm (by decide)
 ·refine ⟨_,?_,(Tr.go_eval on_f25t ?_).trans rfl⟩
  ·exact sm_le IsSm.sm (by decide)
  ·(repeat' (first|exact AllT.nil|refine AllT.cons ?_ ?_));all_goals first|(with_reducible rfl)|(with_reducible assumption)|exact Tru.tru|(rw [hP];rfl)|exact sm_max IsSm.sm IsSm.sm (by decide)
theorem one_26 {n:Int}(hP:oP n=26):∃ s,OnRes n s:=by
 cases ht:(and64 (oS n 24) 31==(7:Int))
 ·have ht':(!(and64 (oS n 24) 31==(7:Int)))=true:=by rw [ht];rfl
  refine ⟨_,?_,(Tr.go_eval on_f26f ?_).trans rfl⟩
  ·exact sm_le IsSm.sm (by decide)
  ·(repeat' (first|exact AllT.nil|refine AllT.cons ?_ ?_));all_goals first|(with_reducible rfl)|(with_reducible assumption)|exact Tru.tru|(rw [hP];rfl)|exact sm_max IsSm.sm IsSm.sm (by decide)
 ·refine ⟨_,?_,(Tr.go_eval on_f26t ?_).trans rfl⟩
  ·exact sm_le IsSm.sm (by decide)
  ·(repeat' (first|exact AllT.nil|refine AllT.cons ?_ ?_));all_goals first|(with_reducible rfl)|(with_reducible assumption)|exact Tru.tru|(rw [hP];rfl)|exact sm_max IsSm.sm IsSm.sm (by decide)
theorem one_27 {n:Int}(hP:oP n=27):∃ s,OnRes n s:=by
 cases ht:(and64 (oS n 24) 31==(7:Int))
 ·have ht':(!(and64 (oS n 24) 31==(7:Int)))=true:=by rw [ht];rfl
  refine ⟨_,?_,(Tr.go_eval on_f27f ?_).trans rfl⟩
  ·exact sm_le IsSm.sm (by decide)
  ·(repeat' (first|exact AllT.nil|refine AllT.cons ?_ ?_));all_goals first|(with_reducible rfl)|(with_reducible assumption)|exact Tru.tru|(rw [hP];rfl)|exact sm_max IsSm.sm IsSm.sm (by decide)
 ·refine ⟨_,?_,(Tr.go_eval on_f27t ?_).trans rfl⟩
  ·exact sm_le IsSm.sm (by decide)
  ·(repeat' (first|exact AllT.nil|refine AllT.cons ?_ ?_));all_goals first|(with_reducible rfl)|(with_reducible assumption)|exact Tru.tru|(rw [hP];rfl)|exact sm_max IsSm.sm IsSm.sm (by decide)
theorem one_28 {n:Int}(hP:oP n=28):∃ s,OnRes n s:=by
 cases ht:(and64 (oS n 24) 31==(7:Int))
 ·have ht':(!(and64 (oS n 24) 31==(7:Int)))=true:=by rw [ht];rfl
  refine ⟨_,?_,(Tr.go_eval on_f28f ?_).trans rfl⟩
  ·exact sm_le IsSm.sm (by decide)
  ·(repeat' (first|exact AllT.nil|refine AllT.cons ?_ ?_));all_goals first|(with_reducible rfl)|(with_reducible assumption)|exact Tru.tru|(rw [hP];rfl)|exact sm_max IsSm.sm IsSm.sm (by decide)
 ·refine ⟨_,?_,(Tr.go_eval on_f28t ?_).trans rfl⟩
  ·exact sm_le IsSm.sm (by decide)
  ·(repeat' (first|exact AllT.nil|refine AllT.cons ?_ ?_));all_goals first|(with_reducible rfl)|(with_reducible assumption)|exact Tru.tru|(rw [hP];rfl)|exact sm_max IsSm.sm IsSm.sm (by decide)
theorem one_29 {n:Int}(hP:oP n=29):∃ s,OnRes n s:=by
 cases ht:(and64 (oS n 24) 31==(7:Int))
 ·have ht':(!(and64 (oS n 24) 31==(7:Int)))=true:=by rw [ht];rfl
  refine ⟨_,?_,(Tr.go_eval on_f29f ?_).trans rfl⟩
  ·exact sm_le IsSm.sm (by decide)
  ·(repeat' (first|exact AllT.nil|refine AllT.cons ?_ ?_));all_goals first|(with_reducible rfl)|(with_reducible assumption)|exact Tru.tru|(rw [hP];rfl)|exact sm_max IsSm.sm IsSm.sm (by decide)
 ·refine ⟨_,?_,(Tr.go_eval on_f29t ?_).trans rfl⟩
  ·exact sm_le IsSm.sm (by decide)
  ·(repeat' (first|exact AllT.nil|refine AllT.cons ?_ ?_));all_goals first|(with_reducible rfl)|(with_reducible assumption)|exact Tru.tru|(rw [hP];rfl)|exact sm_max IsSm.sm IsSm.sm (by decide)
theorem one_30 {n:Int}(hP:oP n=30):∃ s,OnRes n s:=by
 cases ht:(and64 (oS n 24) 31==(7:Int))
 ·have ht':(!(and64 (oS n 24) 31==(7:Int)))=true:=by rw [ht];rfl
  refine ⟨_,?_,(Tr.go_eval on_f30f ?_).trans rfl⟩
  ·exact sm_le IsSm.sm (by decide)
  ·(repeat' (first|exact AllT.nil|refine AllT.cons ?_ ?_));all_goals first|(with_reducible rfl)|(with_reducible assumption)|exact Tru.tru|(rw [hP];rfl)|exact sm_max IsSm.sm IsSm.sm (by decide)
 ·refine ⟨_,?_,(Tr.go_eval on_f30t ?_).trans rfl⟩
  ·exact sm_le IsSm.sm (by decide)
  ·(repeat' (first|exact AllT.nil|refine AllT.cons ?_ ?_));all_goals first|(with_reducible rfl)|(with_reducible assumption)|exact Tru.tru|(rw [hP];rfl)|exact sm_max IsSm.sm IsSm.sm (by decide)
theorem one_31 {n:Int}(hP:oP n=31):∃ s,OnRes n s:=by
 cases ht:(and64 (oS n 24) 31==(7:Int))
 ·have ht':(!(and64 (oS n 24) 31==(7:Int)))=true:=by rw [ht];rfl
  refine ⟨_,?_,(Tr.go_eval on_ef ?_).trans rfl⟩
  ·exact sm_le IsSm.sm (by decide)
  ·(repeat' (first|exact AllT.nil|refine AllT.cons ?_ ?_));all_goals first|(with_reducible rfl)|(with_reducible assumption)|exact Tru.tru|(rw [hP];rfl)|exact sm_max IsSm.sm IsSm.sm (by decide)
 ·refine ⟨_,?_,(Tr.go_eval on_et ?_).trans rfl⟩
  ·exact sm_le IsSm.sm (by decide)
  ·(repeat' (first|exact AllT.nil|refine AllT.cons ?_ ?_));all_goals first|(with_reducible rfl)|(with_reducible assumption)|exact Tru.tru|(rw [hP];rfl)|exact sm_max IsSm.sm IsSm.sm (by decide)
theorem one_32 {n:Int}(hP:oP n=32):∃ s,OnRes n s:=by
 cases ht:(and64 (oS n 24) 31==(7:Int))
 ·have ht':(!(and64 (oS n 24) 31==(7:Int)))=true:=by rw [ht];rfl
  refine ⟨_,?_,(Tr.go_eval on_f32f ?_).trans rfl⟩
  ·exact sm_le IsSm.sm (by decide)
  ·(repeat' (first|exact AllT.nil|refine AllT.cons ?_ ?_));all_goals first|(with_reducible rfl)|(with_reducible assumption)|exact Tru.tru|(rw [hP];rfl)|exact sm_max IsSm.sm IsSm.sm (by decide)
 ·refine ⟨_,?_,(Tr.go_eval on_f32t ?_).trans rfl⟩
  ·exact sm_le IsSm.sm (by decide)
  ·(repeat' (first|exact AllT.nil|refine AllT.cons ?_ ?_));all_goals first|(with_reducible rfl)|(with_reducible assumption)|exact Tru.tru|(rw [hP];rfl)|exact sm_max IsSm.sm IsSm.sm (by decide)
theorem one_33 {n:Int}(hP:oP n=33):∃ s,OnRes n s:=by
 cases ht:(and64 (oS n 24) 31==(7:Int))
 ·have ht':(!(and64 (oS n 24) 31==(7:Int)))=true:=by rw [ht];rfl
  refine ⟨_,?_,(Tr.go_eval on_hf ?_).trans rfl⟩
  ·exact sm_le IsSm.sm (by decide)
  ·(repeat' (first|exact AllT.nil|refine AllT.cons ?_ ?_));all_goals first|(with_reducible rfl)|(with_reducible assumption)|exact Tru.tru|(rw [hP];rfl)|exact sm_max IsSm.sm IsSm.sm (by decide)
 ·refine ⟨_,?_,(Tr.go_eval on_ht ?_).trans rfl⟩
  ·exact sm_le IsSm.sm (by decide)
  ·(repeat' (first|exact AllT.nil|refine AllT.cons ?_ ?_));all_goals first|(with_reducible rfl)|(with_reducible assumption)|exact Tru.tru|(rw [hP];rfl)|exact sm_max IsSm.sm IsSm.sm (by decide)
theorem one_ex (n:Int):∃ s,OnRes n s:=by
 have h:1<=oP n/\oP n<=33:=mP n
 have:oP n=1\/oP n=2\/oP n=3\/oP n=4\/oP n=5\/oP n=6\/oP n=7\/oP n=8\/oP n=9\/oP n=10\/oP n=11\/oP n=12\/oP n=13\/oP n=14\/oP n=15\/oP n=16\/oP n=17\/oP n=18\/oP n=19\/oP n=20\/oP n=21\/oP n=22\/oP n=23\/oP n=24\/oP n=25\/oP n=26\/oP n=27\/oP n=28\/oP n=29\/oP n=30\/oP n=31\/oP n=32\/oP n=33:=by omega
 rcases this with h|h|h|h|h|h|h|h|h|h|h|h|h|h|h|h|h|h|h|h|h|h|h|h|h|h|h|h|h|h|h|h|h
 ·exact one_1 h
 ·exact one_2 h
 ·exact one_3 h
 ·exact one_4 h
 ·exact one_5 h
 ·exact one_6 h
 ·exact one_7 h
 ·exact one_8 h
 ·exact one_9 h
 ·exact one_10 h
 ·exact one_11 h
 ·exact one_12 h
 ·exact one_13 h
 ·exact one_14 h
 ·exact one_15 h
 ·exact one_16 h
 ·exact one_17 h
 ·exact one_18 h
 ·exact one_19 h
 ·exact one_20 h
 ·exact one_21 h
 ·exact one_22 h
 ·exact one_23 h
 ·exact one_24 h
 ·exact one_25 h
 ·exact one_26 h
 ·exact one_27 h
 ·exact one_28 h
 ·exact one_29 h
 ·exact one_30 h
 ·exact one_31 h
 ·exact one_32 h
 ·exact one_33 h
open Classical in
noncomputable def oneR (n:Int):ByteArray:=Classical.choose (one_ex n)
theorem oneR_ok (n:Int):OnRes n (oneR n):=Classical.choose_spec (one_ex n)
noncomputable def oneF:Spec:=fun args h=>match args,h with
 | [.c (.v (.int .i64 n))],[]=>.ret (StrA (oneR n),[])
 | _,_=>.fail
theorem oneF_ok:SpecOk Try.prog 167 oneF:=by
 refine knownS KON_ok Try.func167 fun args h r he=>?_
 unfold oneF at he
 split at he
 ·rename_i n
  cases he
  exact ⟨_,[],60,nol,noLoopsS,(oneR_ok n).2⟩
 ·cases he
end
section
open Go Go.RowKit
noncomputable def KTX:Known:=[(167,oneF),(168,paF)]
theorem KTX_ok:KnownOk KTX:=consK oneF_ok (by kernel_rfl) (consK paF_ok (by kernel_rfl) nilK)
abbrev txK:List (Nat × Option TypeId):=[(0,some 2),(1,none),(5,none),(6,none)]
noncomputable def txG:Ctx2:=GT KTX (fun k=>if k=3 then txK else []) 0 []
theorem txG_ok:XOk txG:=GT_ok KTX_ok _ _ _
def rowT (own:Bool) (a b c:Int):Option ABlk:=some ⟨2,own,.lst 1 [[i64 a],[i64 b],[i64 c]] [i64 0]⟩
def txS (own:Bool) (a b c:Int) (k:Nat) (s:ByteArray) (i:Int):St:=⟨slots 45 [(0,.c (.sl 0 0 k)),(1,Bo true),(5,StrA s),(6,I64 i)],[rowT own a b c]⟩
theorem tx_skip {own:Bool}{a b c:Int}{k:Nat}{s:ByteArray}{i:Int}:(rT txG nol 1 54 (bodyOf Try.f159 0) txK txK (txS own a b c k s i)).go (dN 8 127)=some ([decide (i<((k:Nat):Int)),true,true,decide (i<(20:Int)),decide ((0:Int)<=i),decide (i<((k:Nat):Int)),decide (0+i.toNat<3),!(paV (oneR ([a,b,c].getD (0+i.toNat) (0:Int)))).e==(0:Int),true,true,true,(paV (oneR ([a,b,c].getD (0+i.toNat) (0:Int)))).e != (0:Int)],Ex.normal,{ sl:=slots 45 [(0,.c (.sl 0 0 k)),(1,Bo true),(5,.c (.v (.string s))),(6,I64 (w64 (i+(1:Int))))],h:=[some ⟨2,own,.lst 1 [[i64 a],[i64 b],[i64 c]] [i64 0]⟩] }):=by kernel_rfl
theorem tx_first {own:Bool}{a b c:Int}{k:Nat}{s:ByteArray}{i:Int}:(rT txG nol 1 54 (bodyOf Try.f159 0) txK txK (txS own a b c k s i)).go (dN 13 2047)=some ([decide (i<((k:Nat):Int)),true,true,decide (i<(20:Int)),decide ((0:Int)<=i),decide (i<((k:Nat):Int)),decide (0+i.toNat<3),(paV (oneR ([a,b,c].getD (0+i.toNat) (0:Int)))).e==(0:Int),true,true,true,true,!!s.toList==(⟨#[]⟩:ByteArray).toList,decide (((s.size+(oneR ([a,b,c].getD (0+i.toNat) (0:Int))).size:Nat):Int)<=IntKind.i64.max)],Ex.normal,{ sl:=slots 45 [(0,.c (.sl 0 0 k)),(1,Bo true),(5,.c (.v (.string (s++oneR ([a,b,c].getD (0+i.toNat) (0:Int)))))),(6,I64 (w64 (i+(1:Int))))],h:=[some ⟨2,own,.lst 1 [[i64 a],[i64 b],[i64 c]] [i64 0]⟩] }):=by kernel_rfl
theorem tx_app {own:Bool}{a b c:Int}{k:Nat}{s:ByteArray}{i:Int}:(rT txG nol 1 54 (bodyOf Try.f159 0) txK txK (txS own a b c k s i)).go (dN 12 2047)=some ([decide (i<((k:Nat):Int)),true,true,decide (i<(20:Int)),decide ((0:Int)<=i),decide (i<((k:Nat):Int)),decide (0+i.toNat<3),(paV (oneR ([a,b,c].getD (0+i.toNat) (0:Int)))).e==(0:Int),true,true,true,true,!s.toList==(⟨#[]⟩:ByteArray).toList,decide (((s.size+(⟨#[59]⟩:ByteArray).size:Nat):Int)<=IntKind.i64.max),decide ((((s++(⟨#[59]⟩:ByteArray)).size+(oneR ([a,b,c].getD (0+i.toNat) (0:Int))).size:Nat):Int)<=IntKind.i64.max)],Ex.normal,{ sl:=slots 45 [(0,.c (.sl 0 0 k)),(1,Bo true),(5,.c (.v (.string (s++(⟨#[59]⟩:ByteArray)++oneR ([a,b,c].getD (0+i.toNat) (0:Int)))))),(6,I64 (w64 (i+(1:Int))))],h:=[some ⟨2,own,.lst 1 [[i64 a],[i64 b],[i64 c]] [i64 0]⟩] }):=by kernel_rfl
theorem tx_e {own:Bool}{a b c:Int}{k:Nat}{s:ByteArray}{i:Int}:(rT txG nol 1 54 (bodyOf Try.f159 0) txK txK (txS own a b c k s i)).go (dN 4 0)=some ([!decide (i<((k:Nat):Int)),true,true,true],Ex.exit 0,{ sl:=slots 45 [(0,.c (.sl 0 0 k)),(1,Bo true),(5,.c (.v (.string s))),(6,I64 i)],h:=[some ⟨2,own,.lst 1 [[i64 a],[i64 b],[i64 c]] [i64 0]⟩] }):=by kernel_rfl
theorem tx_w {own:Bool}{a b c:Int}{k:Nat}{z:Int}{s:ByteArray}:(lfun txG (tell (bodyOf Try.f159 0) (txS own a b c k ⟨#[]⟩ 0) (.exit 0,txS own a b c k s z)) 60 Try.f159 [.c (.sl 0 0 k),Bo true] [rowT own a b c]).go []=some ([yes (wasS (bodyOf Try.f159 0) (txS own a b c k ⟨#[]⟩ 0))],.c (.v (.string s)),[some ⟨2,own,.lst 1 [[i64 a],[i64 b],[i64 c]] [i64 0]⟩]):=by kernel_rfl
theorem bne_toList (s:ByteArray):((!(s.toList==(⟨#[]⟩:ByteArray).toList))=true)\/((!(!(s.toList==(⟨#[]⟩:ByteArray).toList)))=true):=by
 cases (s.toList==(⟨#[]⟩:ByteArray).toList)
 ·exact .inl rfl
 ·exact .inr rfl
theorem tx_loop {a b c:Int}{k:Nat}(hk:k<=3):∀ d (i:Nat) (s:ByteArray),i+d=k->Sm (101*i) s->∃ s':ByteArray,Sm 303 s'/\∀ own,LoopR txG 1 (bodyOf Try.f159 0) (txS own a b c k s (i:Nat)) (.exit 0,txS own a b c k s' (k:Nat))
 | 0,i,s,h,hs=>by
  have:i=k:=by omega
  subst this
  exact ⟨s,sm_le hs (by omega),fun own=>LoopR.stop (by simp) (rT_sem txG_ok noLoopsS ((rT_go (tx_e (i:=((i:Nat):Int))) ⟨by rw [decide_eq_false (by omega)];rfl,rfl,rfl,rfl,trivial⟩).trans rfl))⟩
 | d+1,i,s,h,hs=>by
  have e3:=succ64 (j:=i) (by omega)
  have ho:Sm 100 (oneR ([a,b,c].getD (0+i) (0:Int))):=(oneR_ok _).1
  have s1:Sm 1 (⟨#[59]⟩:ByteArray):=by unfold Sm;decide
  rcases Bool.eq_false_or_eq_true ((paV (oneR ([a,b,c].getD (0+i) (0:Int)))).e==(0:Int)) with he|he
  ·rcases bne_toList s with hb|hb
   ·obtain ⟨s',h1,h2⟩:=tx_loop hk d (i+1) (s++(⟨#[59]⟩:ByteArray)++oneR ([a,b,c].getD (0+i) (0:Int))) (by omega) (sm_le (sm_app (sm_app hs s1) ho) (by omega))
    refine ⟨s',h1,fun own=>LoopR.next (rT_sem txG_ok noLoopsS ((rT_go (tx_app (i:=((i:Nat):Int))) ?_).trans ?_)) (h2 own)⟩
    ·simp only [Int.toNat_natCast]
     repeat' (first|exact AllT.nil|refine AllT.cons ?_ ?_)
     all_goals first|(with_reducible rfl)|(with_reducible assumption)|exact decide_eq_true (by omega)|exact sm_max hs s1 (by omega)|exact sm_max (sm_app hs s1) ho (by omega)
    ·simp only [Int.toNat_natCast,e3];rfl
   ·obtain ⟨s',h1,h2⟩:=tx_loop hk d (i+1) (s++oneR ([a,b,c].getD (0+i) (0:Int))) (by omega) (sm_le (sm_app hs ho) (by omega))
    refine ⟨s',h1,fun own=>LoopR.next (rT_sem txG_ok noLoopsS ((rT_go (tx_first (i:=((i:Nat):Int))) ?_).trans ?_)) (h2 own)⟩
    ·simp only [Int.toNat_natCast]
     repeat' (first|exact AllT.nil|refine AllT.cons ?_ ?_)
     all_goals first|(with_reducible rfl)|(with_reducible assumption)|exact decide_eq_true (by omega)|exact sm_max hs ho (by omega)
    ·simp only [Int.toNat_natCast,e3];rfl
  ·have he1:(!((paV (oneR ([a,b,c].getD (0+i) (0:Int)))).e==(0:Int)))=true:=by rw [he];rfl
   have he2:((paV (oneR ([a,b,c].getD (0+i) (0:Int)))).e != (0:Int))=true:=he1
   obtain ⟨s',h1,h2⟩:=tx_loop hk d (i+1) s (by omega) (sm_le hs (by omega))
   refine ⟨s',h1,fun own=>LoopR.next (rT_sem txG_ok noLoopsS ((rT_go (tx_skip (i:=((i:Nat):Int))) ?_).trans ?_)) (h2 own)⟩
   ·simp only [Int.toNat_natCast]
    repeat' (first|exact AllT.nil|refine AllT.cons ?_ ?_)
    all_goals first|(with_reducible rfl)|(with_reducible assumption)|exact decide_eq_true (by omega)
   ·simp only [Int.toNat_natCast,e3];rfl
theorem tx_ex (a b c:Int) {k:Nat}(hk:k<=3):∃ s:ByteArray,Sm 303 s/\∀ own,∃ ℓ,LoopsSem txG 1 ℓ/\(lfun txG ℓ 60 Try.f159 [.c (.sl 0 0 k),Bo true] [rowT own a b c]).eval=some (StrA s,[rowT own a b c]):=by
 obtain ⟨s,h1,h2⟩:=tx_loop (a:=a) (b:=b) (c:=c) hk k 0 ⟨#[]⟩ (by omega) (by unfold Sm;decide)
 exact ⟨s,h1,fun own=>⟨_,tell_ok (h2 own).sem,(Tr.go_eval (tx_w (z:=((k:Nat):Int))) ⟨yes_of ⟨rfl,rfl⟩,trivial⟩).trans rfl⟩⟩
open Classical in
noncomputable def txR (a b c:Int) (k:Nat):ByteArray:=if h:k<=3 then Classical.choose (tx_ex a b c h) else ⟨#[]⟩
theorem txR_ok (a b c:Int) {k:Nat}(hk:k<=3):Sm 303 (txR a b c k)/\∀ own,∃ ℓ,LoopsSem txG 1 ℓ/\(lfun txG ℓ 60 Try.f159 [.c (.sl 0 0 k),Bo true] [rowT own a b c]).eval=some (StrA (txR a b c k),[rowT own a b c]):=by
 have h:=Classical.choose_spec (tx_ex a b c hk)
 unfold txR
 rw [dif_pos hk]
 exact h
noncomputable def txF:Spec:=fun args h=>match args,h with
 | [.c (.sl 0 0 k),.c (.v (.bool true))],[some ⟨2,own,.lst 1 [[.v (.int .i64 a)],[.v (.int .i64 b)],[.v (.int .i64 c)]] [.v (.int .i64 z)]⟩]=>.need (yes (k<=3/\z=0)) (.ret (StrA (txR a b c k),[rowT own a b c]))
 | _,_=>.fail
theorem txF_ok:SpecOk Try.prog 159 txF:=by
 refine knownS KTX_ok Try.func159 fun args h r he=>?_
 unfold txF at he
 split at he
 ·rename_i k own a b c z
  obtain ⟨⟨h1,hz⟩,he'⟩:=Tr.eval_ask.1 he
  subst hz
  cases he'
  obtain ⟨ℓ,hl,hw⟩:=(txR_ok a b c h1).2 own
  exact ⟨_,[],60,ℓ,hl,hw⟩
 ·cases he
end
end Go.Proofs.Ytcpahifgdppkbaa.QAI
