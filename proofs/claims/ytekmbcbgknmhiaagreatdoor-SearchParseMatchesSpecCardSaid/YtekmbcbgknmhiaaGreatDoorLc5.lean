/- Texts of a claim, merged. -/
import Derived.Test.YtekmbcbgknmhiaaGreatDoorLc4
import Derived.KernelRfl
set_option linter.unusedVariables false
set_option linter.unusedSimpArgs false
open _root_.Go.Proofs.Tryz renaming underlying9->Ab1,underlying23->AbF,underlying3->Abn,underlying5->Ac5,underlying22->Ac7,underlying26->AcF,underlying28->Ack,underlying167->AdW,underlying86->Af9,underlying84->AfA,underlying82->AfB,underlying24->Afy
noncomputable section
namespace Go.Proofs.YtekmbcbgknmhiaaGreatDoor
open Go Go.E Go.RowKit Go.L
set_option maxHeartbeats 1000000
set_option maxRecDepth 10000
open _root_.Go.Proofs.Tryz
def DT(a0 a1:Int):Option ((Int×Int)):=
 some ((a0,a1))
theorem EU(w:World)(H:PH)(_hH:Le H (hp w)){a0 a1:Int}{r:(Int×Int)}(h:DT a0 a1=some r):
  Ok prog 34 [No a0,No a1] w (fun v w'=>Ext w w'/\v=.agg #[No r.1,No r.2]):=by
 refine A3 (n:=8) [(0,No a0),(1,No a1)] func34 rfl fun hL=>Am<|AH AW rfl rfl hL fun e f b c _=>Ac<|Bi 2 rfl<|Ag (AR rfl (fun _=>OX _ _ _)) rfl<|Ah 0 rfl AW b rfl (Bc rfl) fun g a d=>Ac<|Ax ?_
 cases h
 refine BH rfl (.cell rfl Ack rfl AW (AL (i:=0) a rfl)) ⟨a.ext,rfl⟩
def HP(a0:Int):Option Bool:=
 some (decide ((1<=a0)/\(a0<=7)))
theorem K0(w:World)(H:PH)(_hH:Le H (hp w)){a0:Int}{r:Bool}(h:HP a0=some r):
  Ok prog 90 [No a0] w (fun v w'=>Ext w w'/\v=.bool r):=by
 refine A3 (n:=9) [(0,No a0)] func90 rfl fun hL=>AD 1 rfl<|Bi 3 rfl<|MS 2 2 rfl rfl rfl rfl rfl rfl<|A4 1 rfl<|Ax ?_
 cases h
 refine Ak rfl ⟨hL.ext,rfl⟩
def HH(a0:Go.L.Qv)(a1:Go.L.Qv):Option (Bool×Go.L.Qv):=
 some (decide (a0.f.1=a1.f.1),a1)
theorem PV{a w:World}{H:PH}(hH:Le H (hp a)){O:List BS}{a0 a1:Go.L.Qv}{va0_1 va0_3 va0_6:Value}{ba1:Nat}{va1_1 va1_3 va1_6:Value}(hL:Bd a (Ha [.box ba1 [No a1.f.1,va1_1,Abj a1.f.2.2.1,va1_3,No a1.f.2.2.2.2.1,No a1.f.2.2.2.2.2.1,va1_6] 26] O) w)(_ha0_1:AI .st (gz H a w (Ha [.box ba1 [No a1.f.1,va1_1,Abj a1.f.2.2.1,va1_3,No a1.f.2.2.2.2.1,No a1.f.2.2.2.2.2.1,va1_6] 26] O)) va0_1 (a0.f.2.1))(_ha0_3:AI .byte (gz H a w (Ha [.box ba1 [No a1.f.1,va1_1,Abj a1.f.2.2.1,va1_3,No a1.f.2.2.2.2.1,No a1.f.2.2.2.2.2.1,va1_6] 26] O)) va0_3 (a0.f.2.2.2.1))(_ha0_6:AI .Bg (gz H a w (Ha [.box ba1 [No a1.f.1,va1_1,Abj a1.f.2.2.1,va1_3,No a1.f.2.2.2.2.1,No a1.f.2.2.2.2.2.1,va1_6] 26] O)) va0_6 (a0.f.2.2.2.2.2.2))(k:AI .st (gz H a w (Ha [.box ba1 [No a1.f.1,va1_1,Abj a1.f.2.2.1,va1_3,No a1.f.2.2.2.2.1,No a1.f.2.2.2.2.2.1,va1_6] 26] O)) va1_1 (a1.f.2.1))(l:AI .byte (gz H a w (Ha [.box ba1 [No a1.f.1,va1_1,Abj a1.f.2.2.1,va1_3,No a1.f.2.2.2.2.1,No a1.f.2.2.2.2.2.1,va1_6] 26] O)) va1_3 (a1.f.2.2.2.1))(m:AI .Bg (gz H a w (Ha [.box ba1 [No a1.f.1,va1_1,Abj a1.f.2.2.1,va1_3,No a1.f.2.2.2.2.1,No a1.f.2.2.2.2.2.1,va1_6] 26] O)) va1_6 (a1.f.2.2.2.2.2.2)){r:Bool×Go.L.Qv}(h:HH a0 a1=some r):
  Ok prog 156 [.agg #[No a0.f.1,va0_1,Abj a0.f.2.2.1,va0_3,No a0.f.2.2.2.2.1,No a0.f.2.2.2.2.2.1,va0_6],Abi ba1] w (fun v w'=>∃ (c:Value) (d:Value) (e:Value),v=.bool r.1/\Bd a (Ha [.box ba1 [No r.2.f.1,c,Abj r.2.f.2.2.1,d,No r.2.f.2.2.2.2.1,No r.2.f.2.2.2.2.2.1,e] 26] O) w'/\Le (fz w (Ha [.box ba1 [No a1.f.1,va1_1,Abj a1.f.2.2.1,va1_3,No a1.f.2.2.2.2.1,No a1.f.2.2.2.2.2.1,va1_6] 26] O)) (fz w' (Ha [.box ba1 [No r.2.f.1,c,Abj r.2.f.2.2.1,d,No r.2.f.2.2.2.2.1,No r.2.f.2.2.2.2.2.1,e] 26] O))/\AI .st (gz H a w' (Ha [.box ba1 [No r.2.f.1,c,Abj r.2.f.2.2.1,d,No r.2.f.2.2.2.2.1,No r.2.f.2.2.2.2.2.1,e] 26] O)) c (r.2.f.2.1)/\AI .byte (gz H a w' (Ha [.box ba1 [No r.2.f.1,c,Abj r.2.f.2.2.1,d,No r.2.f.2.2.2.2.1,No r.2.f.2.2.2.2.2.1,e] 26] O)) d (r.2.f.2.2.2.1)/\AI .Bg (gz H a w' (Ha [.box ba1 [No r.2.f.1,c,Abj r.2.f.2.2.1,d,No r.2.f.2.2.2.2.1,No r.2.f.2.2.2.2.2.1,e] 26] O)) e (r.2.f.2.2.2.2.2.2)):=by
 refine Ez (n:=9) [(0,.agg #[No a0.f.1,va0_1,Abj a0.f.2.2.1,va0_3,No a0.f.2.2.2.2.1,No a0.f.2.2.2.2.2.1,va0_6]),(1,(Abi ba1))] func156 rfl rfl rfl rfl rfl ?_;have hT:=Le.refl (fz w (Ha [.box ba1 [No a1.f.1,va1_1,Abj a1.f.2.2.1,va1_3,No a1.f.2.2.2.2.1,No a1.f.2.2.2.2.2.1,va1_6] 26] O));have b:=hL.rG H;refine Am<|CY (t:=26) rfl rfl rfl hL fun p q g j _=>A4 1 rfl<|Am<|Ag (Ae rfl AcF rfl Cj) rfl<|Ag (Af 0 rfl Abn rfl g rfl) rfl<|Ag (Ae rfl AcF rfl Cj) rfl<|Ag (Af 1 rfl Abn rfl g rfl) rfl<|A4 2 rfl<|Ax ?_
 cases h
 refine Ak rfl ?_;have o:=g.AQ (i:=0) rfl;have b:=b.trans (Ab hH (j.trans (Au (i:=0) rfl)));have hT:=hT.trans (j.trans (Au (i:=0) rfl));exact⟨va1_1,va1_3,va1_6,rfl,o,hT,(k.mono b),(l.mono b),(m.mono b)⟩
def Cp(a:Int)(b:List Abk)(c:Abk)(d:Abk)(e f:Int)(g:List Go.L.Qv):Option (Int×Go.L.Qv):=
 some ((-1),(Go.L.Qv.mk a b c d e f g))
def Bk(a0:List Go.L.Qv):Int×(List Abk)×Abk×Abk×Int×Int×(List Go.L.Qv)×Int->Option ((Int×(List Abk)×Abk×Abk×Int×Int×(List Go.L.Qv)×Int) ⊕ (Int×Go.L.Qv)):=fun⟨c,d,e,g,h,i,j,a⟩=>
 if a<(a0.length:Int) then AS (0<=a/\a<(a0.length:Int)) (Option.bind (HH (a0.getD a.toNat default) (Go.L.Qv.mk c d e g h i j)) (fun b=>if b.1 then Option.map Sum.inr (some (a,b.2)) else AS (B0 (a+1)) (some (Sum.inl (b.2.f.1,b.2.f.2.1,b.2.f.2.2.1,b.2.f.2.2.2.1,b.2.f.2.2.2.2.1,b.2.f.2.2.2.2.2.1,b.2.f.2.2.2.2.2.2,(a+1)))))) else Option.map Sum.inr (Cp c d e g h i j)
def Cq(a0:List Go.L.Qv)(s:Int×(List Abk)×Abk×Abk×Int×Int×(List Go.L.Qv)×Int):Option (Int×Go.L.Qv):=Go.L.run (Bk a0) s
def BX(a0:List Go.L.Qv)(a1_c0:Go.L.Qv):Option (Int×Go.L.Qv):=
 (Cq a0) (a1_c0.f.1,a1_c0.f.2.1,a1_c0.f.2.2.1,a1_c0.f.2.2.2.1,a1_c0.f.2.2.2.2.1,a1_c0.f.2.2.2.2.2.1,a1_c0.f.2.2.2.2.2.2,0)
theorem Io{c w:World}{H:PH}(hH:Le H (hp c)){O:List BS}{a0:List Go.L.Qv}{a1_c0:Go.L.Qv}{va0:Value}{ba1_c0:Nat}{va1_c0_1 va1_c0_3 va1_c0_6:Value}(hL:Bd c (Ha [.box ba1_c0 [No a1_c0.f.1,va1_c0_1,Abj a1_c0.f.2.2.1,va1_c0_3,No a1_c0.f.2.2.2.2.1,No a1_c0.f.2.2.2.2.2.1,va1_c0_6] 26] O) w)(a9:AI .Bg (gz H c w (Ha [.box ba1_c0 [No a1_c0.f.1,va1_c0_1,Abj a1_c0.f.2.2.1,va1_c0_3,No a1_c0.f.2.2.2.2.1,No a1_c0.f.2.2.2.2.2.1,va1_c0_6] 26] O)) va0 a0)(ha1_c0_1:AI .st (gz H c w (Ha [.box ba1_c0 [No a1_c0.f.1,va1_c0_1,Abj a1_c0.f.2.2.1,va1_c0_3,No a1_c0.f.2.2.2.2.1,No a1_c0.f.2.2.2.2.2.1,va1_c0_6] 26] O)) va1_c0_1 (a1_c0.f.2.1))(ha1_c0_3:AI .byte (gz H c w (Ha [.box ba1_c0 [No a1_c0.f.1,va1_c0_1,Abj a1_c0.f.2.2.1,va1_c0_3,No a1_c0.f.2.2.2.2.1,No a1_c0.f.2.2.2.2.2.1,va1_c0_6] 26] O)) va1_c0_3 (a1_c0.f.2.2.2.1))(ha1_c0_6:AI .Bg (gz H c w (Ha [.box ba1_c0 [No a1_c0.f.1,va1_c0_1,Abj a1_c0.f.2.2.1,va1_c0_3,No a1_c0.f.2.2.2.2.1,No a1_c0.f.2.2.2.2.2.1,va1_c0_6] 26] O)) va1_c0_6 (a1_c0.f.2.2.2.2.2.2)){r:Int×Go.L.Qv}(h:BX a0 a1_c0=some r):
  Ok prog 204 [va0,.func (.func 156) #[] #[Abi ba1_c0]] w (fun v w'=>∃ (u2:Value) (u4:Value) (u7:Value),v=No r.1/\Bd c (Ha [.box ba1_c0 [No r.2.f.1,u2,Abj r.2.f.2.2.1,u4,No r.2.f.2.2.2.2.1,No r.2.f.2.2.2.2.2.1,u7] 26] O) w'/\Le (fz w (Ha [.box ba1_c0 [No a1_c0.f.1,va1_c0_1,Abj a1_c0.f.2.2.1,va1_c0_3,No a1_c0.f.2.2.2.2.1,No a1_c0.f.2.2.2.2.2.1,va1_c0_6] 26] O)) (fz w' (Ha [.box ba1_c0 [No r.2.f.1,u2,Abj r.2.f.2.2.1,u4,No r.2.f.2.2.2.2.1,No r.2.f.2.2.2.2.2.1,u7] 26] O))/\AI .st (gz H c w' (Ha [.box ba1_c0 [No r.2.f.1,u2,Abj r.2.f.2.2.1,u4,No r.2.f.2.2.2.2.1,No r.2.f.2.2.2.2.2.1,u7] 26] O)) u2 (r.2.f.2.1)/\AI .byte (gz H c w' (Ha [.box ba1_c0 [No r.2.f.1,u2,Abj r.2.f.2.2.1,u4,No r.2.f.2.2.2.2.1,No r.2.f.2.2.2.2.2.1,u7] 26] O)) u4 (r.2.f.2.2.2.1)/\AI .Bg (gz H c w' (Ha [.box ba1_c0 [No r.2.f.1,u2,Abj r.2.f.2.2.1,u4,No r.2.f.2.2.2.2.1,No r.2.f.2.2.2.2.2.1,u7] 26] O)) u7 (r.2.f.2.2.2.2.2.2)):=by
 refine Ez (n:=19) [(0,va0),(1,.func (.func 156) #[] #[Abi ba1_c0])] func204 rfl rfl rfl rfl rfl ?_;have hT:=Le.refl (fz w (Ha [.box ba1_c0 [No a1_c0.f.1,va1_c0_1,Abj a1_c0.f.2.2.1,va1_c0_3,No a1_c0.f.2.2.2.2.1,No a1_c0.f.2.2.2.2.2.1,va1_c0_6] 26] O));have ab:=hL.rG H;refine AD 1 rfl<|Bo (σ:=Int×(List Abk)×Abk×Abk×Int×Int×(List Go.L.Qv)×Value×Value×Value) (fun⟨aj,ak,al,am,an,ao,ap,i,j,k⟩=>[]) (fun⟨aj,ak,al,am,an,ao,ap,i,j,k⟩ wr=>DF c (Ha [.box ba1_c0 [No aj,i,Abj al,j,No an,No ao,k] 26] O) wr fun Oz=>AI .st (gz H c wr Oz) i ak/\AI .byte (gz H c wr Oz) j am/\AI .Bg (gz H c wr Oz) k ap/\Le (fz w (Ha [.box ba1_c0 [No a1_c0.f.1,va1_c0_1,Abj a1_c0.f.2.2.1,va1_c0_3,No a1_c0.f.2.2.2.2.1,No a1_c0.f.2.2.2.2.2.1,va1_c0_6] 26] O)) (fz wr Oz)/\Cp aj ak al am an ao ap=some r) ?_ ?_
 ·refine Bi 1 rfl<|Ag (Bu rfl Afy (a9.mono ab)) rfl<|A4 1 rfl<|A5 ?_;obtain⟨a3,h⟩:=AZ h
  refine Bx (σ:=Int×(List Abk)×Abk×Abk×Int×Int×(List Go.L.Qv)×Int×Value×Value×Value×Nat) (fun⟨l,m,o,p,q,s,t,a,d,e,g,n⟩=>[(0,va0),(1,.func (.func 156) #[] #[Abi ba1_c0]),(7,No (a0.length:Int)),(8,No a)]) (fun⟨l,m,o,p,q,s,t,a,d,e,g,n⟩ wr=>DF c (Ha [.box ba1_c0 [No l,d,Abj o,e,No q,No s,g] 26] O) wr fun Oz=>AI .Bg (gz H c wr Oz) va0 a0/\AI .st (gz H c wr Oz) d m/\AI .byte (gz H c wr Oz) e p/\AI .Bg (gz H c wr Oz) g t/\Le (fz w (Ha [.box ba1_c0 [No a1_c0.f.1,va1_c0_1,Abj a1_c0.f.2.2.1,va1_c0_3,No a1_c0.f.2.2.2.2.1,No a1_c0.f.2.2.2.2.2.1,va1_c0_6] 26] O)) (fz wr Oz)/\F6 (Bk a0) n (l,m,o,p,q,s,t,a)=some r) (fun⟨l,m,o,p,q,s,t,a,d,e,g,n⟩=>n) (a1_c0.f.1,a1_c0.f.2.1,a1_c0.f.2.2.1,a1_c0.f.2.2.2.1,a1_c0.f.2.2.2.2.1,a1_c0.f.2.2.2.2.2.1,a1_c0.f.2.2.2.2.2.2,0,va1_c0_1,va1_c0_3,va1_c0_6,a3) (Sub.of rfl) ⟨hL,(a9.mono ab),(ha1_c0_1.mono ab),(ha1_c0_3.mono ab),(ha1_c0_6.mono ab),hT,h⟩ ?_;rintro⟨l,m,o,p,q,s,t,a,d,e,g,nn71⟩ bf ⟨x,ac,aq,ar,au,hT,h⟩
  obtain⟨a3,bh,rfl,h,ag⟩:=AY h;have b:=x.rG H;refine AD 1 rfl<|A7<|AM rfl h (fun ba h=>?_) (fun ba h=>?_)
  ·refine Av<|Ao<|A7<|A5<|AD 2 rfl<|Bi 3 rfl<|Az h fun a4 h=>Bf rfl rfl Afy AO (ac.mono b) a.toNat (EX a4) (Ba a4) rfl ?_;rintro bi _ e76t0 bb;obtain⟨_,_,rfl,rfl,⟨_,_,rfl,⟨e76v1,rfl,e76h1⟩,⟨_,_,rfl,rfl,⟨_,_,rfl,⟨e76v3,rfl,e76h3⟩,⟨_,_,rfl,rfl,⟨_,_,rfl,rfl,⟨e76v6,rfl,e76h6⟩⟩⟩⟩⟩⟩⟩:=Go.E.Rp.Dh e76t0;refine Ag (C9 rfl AcF rfl AO bb (Ar hH x)) rfl<|Ay h fun u bc h=>Ep rfl rfl rfl (PV (a0:=(a0.getD a.toNat default)) (a1:=(Go.L.Qv.mk l m o p q s t)) (O:=(Ha [] O)) hH x e76h1 e76h3 e76h6 (aq.mono b) (ar.mono b) (au.mono b) bc) ?_;rintro _ bj ⟨av,aw,ax,rfl,y,z,ad,ae,af⟩;refine Ac<|Bb rfl h (fun bd h=>?_) (fun bd h=>?_)
   ·have ah:=y.rG H;refine AD 2 rfl<|Ax<|Aq<|An<|By ?_;have h:=BP.out h ag;refine Aq<|Bs ?_
    cases h
    refine Ak rfl ?_;have hT:=hT.trans z;exact⟨av,aw,ax,rfl,y,hT,(ad.mono ah),(ae.mono ah),(af.mono ah)⟩
   refine Av<|AF<|Ao ?_;have aa:=y.rG H;refine Aw<|Az h fun be h=>Ag (A1 rfl be) rfl<|As 1 rfl<|AK ?_;have h:=BP.again h ag;have b:=b.trans (Ab hH z);have hT:=hT.trans z;refine AN (u.2.f.1,u.2.f.2.1,u.2.f.2.2.1,u.2.f.2.2.2.1,u.2.f.2.2.2.2.1,u.2.f.2.2.2.2.2.1,u.2.f.2.2.2.2.2.2,(a+1),av,aw,ax,a3) (Sub.of rfl) ⟨y,((ac.mono b).mono aa),(ad.mono aa),(ae.mono aa),(af.mono aa),hT,h⟩ (Nat.lt_succ_self _)
  refine Br<|AG<|A6 ?_;have h:=BP.out h ag;refine Be<|A8 (l,m,o,p,q,s,t,d,e,g) (Sub.nil _) ⟨x,(aq.mono b),(ar.mono b),(au.mono b),hT,h⟩
 rintro⟨aj,ak,al,am,an,ao,ap,i,j,k⟩ bg ⟨a5,a6,a7,a8,hT,h⟩;have ai:=a5.rG H;refine AD 1 rfl<|Ax ?_
 cases h
 refine Ak rfl ⟨i,j,k,rfl,a5,hT,(a6.mono ai),(a7.mono ai),(a8.mono ai)⟩
def AV(a0:List Go.L.Qv)(a1_c0:Go.L.Qv):Option (Bool×Go.L.Qv):=
 Option.bind (BX a0 a1_c0) (fun a=>some (decide (0<=a.1),a.2))
theorem Bv{a w:World}{H:PH}(hH:Le H (hp a)){O:List BS}{a0:List Go.L.Qv}{a1_c0:Go.L.Qv}{va0:Value}{ba1_c0:Nat}{va1_c0_1 va1_c0_3 va1_c0_6:Value}(hL:Bd a (Ha [.box ba1_c0 [No a1_c0.f.1,va1_c0_1,Abj a1_c0.f.2.2.1,va1_c0_3,No a1_c0.f.2.2.2.2.1,No a1_c0.f.2.2.2.2.2.1,va1_c0_6] 26] O) w)(p:AI .Bg (gz H a w (Ha [.box ba1_c0 [No a1_c0.f.1,va1_c0_1,Abj a1_c0.f.2.2.1,va1_c0_3,No a1_c0.f.2.2.2.2.1,No a1_c0.f.2.2.2.2.2.1,va1_c0_6] 26] O)) va0 a0)(ha1_c0_1:AI .st (gz H a w (Ha [.box ba1_c0 [No a1_c0.f.1,va1_c0_1,Abj a1_c0.f.2.2.1,va1_c0_3,No a1_c0.f.2.2.2.2.1,No a1_c0.f.2.2.2.2.2.1,va1_c0_6] 26] O)) va1_c0_1 (a1_c0.f.2.1))(ha1_c0_3:AI .byte (gz H a w (Ha [.box ba1_c0 [No a1_c0.f.1,va1_c0_1,Abj a1_c0.f.2.2.1,va1_c0_3,No a1_c0.f.2.2.2.2.1,No a1_c0.f.2.2.2.2.2.1,va1_c0_6] 26] O)) va1_c0_3 (a1_c0.f.2.2.2.1))(ha1_c0_6:AI .Bg (gz H a w (Ha [.box ba1_c0 [No a1_c0.f.1,va1_c0_1,Abj a1_c0.f.2.2.1,va1_c0_3,No a1_c0.f.2.2.2.2.1,No a1_c0.f.2.2.2.2.2.1,va1_c0_6] 26] O)) va1_c0_6 (a1_c0.f.2.2.2.2.2.2)){r:Bool×Go.L.Qv}(h:AV a0 a1_c0=some r):
  Ok prog 155 [va0,.func (.func 156) #[] #[Abi ba1_c0]] w (fun v w'=>∃ (c:Value) (d:Value) (e:Value),v=.bool r.1/\Bd a (Ha [.box ba1_c0 [No r.2.f.1,c,Abj r.2.f.2.2.1,d,No r.2.f.2.2.2.2.1,No r.2.f.2.2.2.2.2.1,e] 26] O) w'/\Le (fz w (Ha [.box ba1_c0 [No a1_c0.f.1,va1_c0_1,Abj a1_c0.f.2.2.1,va1_c0_3,No a1_c0.f.2.2.2.2.1,No a1_c0.f.2.2.2.2.2.1,va1_c0_6] 26] O)) (fz w' (Ha [.box ba1_c0 [No r.2.f.1,c,Abj r.2.f.2.2.1,d,No r.2.f.2.2.2.2.1,No r.2.f.2.2.2.2.2.1,e] 26] O))/\AI .st (gz H a w' (Ha [.box ba1_c0 [No r.2.f.1,c,Abj r.2.f.2.2.1,d,No r.2.f.2.2.2.2.1,No r.2.f.2.2.2.2.2.1,e] 26] O)) c (r.2.f.2.1)/\AI .byte (gz H a w' (Ha [.box ba1_c0 [No r.2.f.1,c,Abj r.2.f.2.2.1,d,No r.2.f.2.2.2.2.1,No r.2.f.2.2.2.2.2.1,e] 26] O)) d (r.2.f.2.2.2.1)/\AI .Bg (gz H a w' (Ha [.box ba1_c0 [No r.2.f.1,c,Abj r.2.f.2.2.1,d,No r.2.f.2.2.2.2.1,No r.2.f.2.2.2.2.2.1,e] 26] O)) e (r.2.f.2.2.2.2.2.2)):=by
 refine Ez (n:=9) [(0,va0),(1,.func (.func 156) #[] #[Abi ba1_c0])] func155 rfl rfl rfl rfl rfl ?_;have hT:=Le.refl (fz w (Ha [.box ba1_c0 [No a1_c0.f.1,va1_c0_1,Abj a1_c0.f.2.2.1,va1_c0_3,No a1_c0.f.2.2.2.2.1,No a1_c0.f.2.2.2.2.2.1,va1_c0_6] 26] O));have b:=hL.rG H;refine AD 1 rfl<|Bi 2 rfl<|Ay h fun t q h=>DC rfl rfl (Io (a0:=a0) (a1_c0:=a1_c0) (O:=(Ha [] O)) hH hL (p.mono b) (ha1_c0_1.mono b) (ha1_c0_3.mono b) (ha1_c0_6.mono b) q) ?_;rintro _ u ⟨k,l,m,rfl,s,o,g,i,j⟩;refine A4 2 rfl<|Ax ?_
 cases h
 refine Ak rfl ?_;have hT:=hT.trans o;exact⟨k,l,m,rfl,s,hT,g,i,j⟩
def Ce(a0:Go.L.Qv)(d:Abk)(o:Abk)(e g b c a:Int):Option Bool:=
 if((decide ((a0.f.2.1.length:Int)<b))||(decide (c<(a0.f.2.1.length:Int)))) then(if((decide ((a0.f.2.1.length:Int)<b))||(decide (c<(a0.f.2.1.length:Int)))) then some false else(if !((decide (a0.f.1=8))||(decide (a0.f.1=9))) then some true else Option.bind (AV a0.f.2.2.2.2.2.2 a0) (fun h=>some (!h.1)))) else(if(a0.f.2.2.2.2.2.2.length:Int)<a then(if(a0.f.2.2.2.2.2.2.length:Int)<a then some false else(if !((decide (a0.f.1=8))||(decide (a0.f.1=9))) then some true else Option.bind (AV a0.f.2.2.2.2.2.2 a0) (fun i=>some (!i.1)))) else(if(bif !((decide (a0.f.1=8))||(decide (a0.f.1=9))) then decide (a<(a0.f.2.2.2.2.2.2.length:Int)) else false) then(if(bif !((decide (a0.f.1=8))||(decide (a0.f.1=9))) then decide (a<(a0.f.2.2.2.2.2.2.length:Int)) else false) then some false else(if !((decide (a0.f.1=8))||(decide (a0.f.1=9))) then some true else Option.bind (AV a0.f.2.2.2.2.2.2 a0) (fun j=>some (!j.1)))) else(if d=a0.f.2.2.1 then(if e=a0.f.2.2.2.2.1 then(if g=a0.f.2.2.2.2.2.1 then(if(o.length:Int)=(a0.f.2.2.2.1.length:Int) then(if !((decide (a0.f.1=8))||(decide (a0.f.1=9))) then some true else Option.bind (AV a0.f.2.2.2.2.2.2 a0) (fun k=>some (!k.1))) else some false) else(if g=a0.f.2.2.2.2.2.1 then(if !((decide (a0.f.1=8))||(decide (a0.f.1=9))) then some true else Option.bind (AV a0.f.2.2.2.2.2.2 a0) (fun l=>some (!l.1))) else some false)) else(if e=a0.f.2.2.2.2.1 then(if !((decide (a0.f.1=8))||(decide (a0.f.1=9))) then some true else Option.bind (AV a0.f.2.2.2.2.2.2 a0) (fun m=>some (!m.1))) else some false)) else(if d=a0.f.2.2.1 then(if !((decide (a0.f.1=8))||(decide (a0.f.1=9))) then some true else Option.bind (AV a0.f.2.2.2.2.2.2 a0) (fun n=>some (!n.1))) else some false))))
def HQ(a0:Go.L.Qv):Option Bool:=
 if a0.f.1=1 then(Ce a0) ([]:Abk) ([]) (0:Int) (0:Int) (1:Int) (1:Int) (0:Int) else(if a0.f.1=2 then(Ce a0) ([]:Abk) ([]) (0:Int) (0:Int) (2:Int) (16:Int) (0:Int) else(if a0.f.1=3 then(Ce a0) ([]:Abk) ([]) a0.f.2.2.2.2.1 (0:Int) (2:Int) (2:Int) (0:Int) else(if a0.f.1=4 then(Ce a0) ([]:Abk) a0.f.2.2.2.1 (0:Int) (0:Int) (0:Int) (0:Int) (0:Int) else(if a0.f.1=5 then(Ce a0) a0.f.2.2.1 ([]) (0:Int) (0:Int) (0:Int) (0:Int) (0:Int) else(if a0.f.1=6 then(Ce a0) a0.f.2.2.1 ([]) a0.f.2.2.2.2.1 a0.f.2.2.2.2.2.1 (0:Int) (0:Int) (0:Int) else(if a0.f.1=7 then(Ce a0) a0.f.2.2.1 a0.f.2.2.2.1 (0:Int) (0:Int) (0:Int) (0:Int) (0:Int) else(if a0.f.1=10 then(Ce a0) ([]:Abk) ([]) (0:Int) (0:Int) (0:Int) (0:Int) (1:Int) else(Ce a0) ([]:Abk) ([]) (0:Int) (0:Int) (0:Int) (0:Int) (2:Int))))))))
theorem Rc(w:World)(H:PH)(hH:Le H (hp w)){a0:Go.L.Qv}{b e c:Value}(ae:AI .st H b (a0.f.2.1))(ac:AI .byte H e (a0.f.2.2.2.1))(g:AI .Bg H c (a0.f.2.2.2.2.2.2)){r:Bool}(h:HQ a0=some r):
  Ok prog 101 [.agg #[No a0.f.1,b,Abj a0.f.2.2.1,e,No a0.f.2.2.2.2.1,No a0.f.2.2.2.2.2.1,c]] w (fun v w'=>Ext w w'/\v=.bool r):=by
 refine A3 (n:=123) [(0,.agg #[No a0.f.1,b,Abj a0.f.2.2.1,e,No a0.f.2.2.2.2.1,No a0.f.2.2.2.2.2.1,c])] func101 rfl fun hL=>Am<|CY (t:=26) rfl rfl rfl hL fun w1 b1 ax eb _=>A4 1 rfl<|Am<|Ag (Ae rfl AcF rfl Cj) rfl<|Ag (Af 0 rfl Abn rfl ax rfl) rfl<|Ag (Ae rfl AcF rfl IW) rfl<|Ag (Af 0 rfl Ac7 rfl ax rfl) rfl<|Ag (Ae rfl AcF rfl G5) rfl<|Ag (Af 0 rfl Afy rfl ax rfl) rfl<|Ag (AR rfl (fun _=>VW _ _ ae.one _ g.one _)) rfl<|AH AO rfl rfl ax fun w2 b2 dc ec _=>Ah 0 rfl AO dc rfl (AU rfl (AU ae.one (AU rfl (AU rfl (AU rfl (AU rfl (AU g.one Hj))))))) fun w3 ag ed=>Ac<|AD 2 rfl<|AD 1 rfl ?_
 refine Bo (σ:=Abk×Abk×Int×Int×Int×Int×Int×Value) (fun⟨y,ay,aa,ab,ak,al,ao,d⟩=>[(1,(Abi b1)),(3,(Abi b2)),(4,No ak),(5,No al),(6,No ao)]) (fun⟨y,ay,aa,ab,ak,al,ao,d⟩ wr=>DF w [.box b2 [No a0.f.1,b,Abj y,d,No aa,No ab,c] 26,.box b1 [No a0.f.1,b,Abj a0.f.2.2.1,e,No a0.f.2.2.2.2.1,No a0.f.2.2.2.2.2.1,c] 26] wr fun Oz=>AI .byte (gz H w wr Oz) d ay/\(Ce a0) y ay aa ab ak al ao=some r) ?_ ?_
 ·refine Am<|Ag (Ae rfl AcF rfl Cj) rfl<|Ag (Af 1 rfl Abn rfl ag rfl) rfl<|Ac<|A5<|AD 2 rfl<|AM rfl h (fun ca h=>?_) (fun ca h=>?_)
  ·refine Aw<|As 2 rfl<|AK<|AF<|A8 (([]:Abk),[],0,0,1,1,0,Aa8) (Sub.of rfl) ⟨ag,(AI.nil _ _),h⟩
  refine AD 2 rfl<|AM rfl h (fun cb h=>?_) (fun cb h=>?_)
  ·refine Aw<|As 2 rfl<|AK<|AF<|A8 (([]:Abk),[],0,0,2,16,0,Aa8) (Sub.of rfl) ⟨ag,(AI.nil _ _),h⟩
  refine AD 2 rfl<|AM rfl h (fun cc h=>?_) (fun cc h=>?_)
  ·refine PI (.q 0 (.q 1 (.q 2 (.q 3 (.q 4 (.tail 5)))))) mixed (by kernel_rfl) (fun eu cd=>?_);have a2:=ag.call cd;refine BQ (Ae rfl AcF rfl Cj) rfl rfl<|BQ (Af 1 rfl Abn rfl a2 rfl) rfl rfl<|Df 2 rfl<|BQ (Ae rfl AcF rfl Cj) rfl rfl<|Cd (fun ev ce=>?_);have cf:=a2.call ce;refine Bm 0 rfl rfl rfl Cj cf rfl rfl fun ew cg d7=>AK<|AF<|A8 (([]:Abk),[],a0.f.2.2.2.2.1,0,2,2,0,Aa8) (Sub.of rfl) ⟨cg,(AI.nil _ _),h⟩
  refine AD 2 rfl<|AM rfl h (fun ch h=>?_) (fun ch h=>?_)
  ·refine Aw<|Ag (Ae rfl AcF rfl F7) rfl<|Ag (Af 1 rfl AbF rfl ag rfl) rfl<|Ag (Ae rfl AcF rfl F7) rfl<|Bm 0 rfl rfl ac.one F7 ag rfl rfl fun ex ci d8=>AK<|AF<|A8 (([]:Abk),a0.f.2.2.2.1,0,0,0,0,0,e) (Sub.of rfl) ⟨ci,(ac.mono (Aj hH)),h⟩
  refine AD 2 rfl<|AM rfl h (fun cj h=>?_) (fun cj h=>?_)
  ·refine Aw<|Ag (Ae rfl AcF rfl EZ) rfl<|Ag (Af 1 rfl Ab1 rfl ag rfl) rfl<|Ag (Ae rfl AcF rfl EZ) rfl<|Bm 0 rfl rfl rfl EZ ag rfl rfl fun ey ck d9=>AK<|AF<|A8 (a0.f.2.2.1,[],0,0,0,0,0,Aa8) (Sub.of rfl) ⟨ck,(AI.nil _ _),h⟩
  refine AD 2 rfl<|AM rfl h (fun cl h=>?_) (fun cl h=>?_)
  ·refine JG (Jb (ME Mo)) (fun z0 z=>Le (gz H w z0 [.box b2 [No a0.f.1,b,(Abj []),Aa8,No 0,No 0,c] 26,.box b1 [No a0.f.1,b,Abj a0.f.2.2.1,e,No a0.f.2.2.2.2.1,No a0.f.2.2.2.2.2.1,c] 26]) (hp z)/\z.heap[b1]? = some (.cells [No a0.f.1,b,Abj a0.f.2.2.1,e,No a0.f.2.2.2.2.1,No a0.f.2.2.2.2.2.1,c].toArray 26 (0,0))) mixed rfl (fun af ez cn=>?_);have ap:=ag.call cn;have ai:=ap.rG H;refine Mp ⟨ai.trans (Ar hH ap),ap.at (i:=1) rfl⟩ fun kI88=>AB 0 af kI88 (by kernel_rfl) rfl (fun _ _=>Ae rfl AcF rfl EZ) rfl<|AB 1 af kI88 (by kernel_rfl) rfl (fun _ hI=>Jd rfl Ab1 rfl hI.2 rfl) rfl<|AB 2 af kI88 (by kernel_rfl) rfl (fun _ _=>Ae rfl AcF rfl Cj) rfl<|AB 3 af kI88 (by kernel_rfl) rfl (fun _ hI=>Jd rfl Abn rfl hI.2 rfl) rfl<|AB 4 af kI88 (by kernel_rfl) rfl (fun _ _=>Ae rfl AcF rfl Cj) rfl<|AB 5 af kI88 (by kernel_rfl) rfl (fun _ hI=>Jd rfl Abn rfl hI.2 rfl) rfl<|AB 6 af kI88 (by kernel_rfl) rfl (fun _ _=>Ae rfl AcF rfl EZ) rfl<|Ef (i:=7) (by kernel_rfl) rfl ?_
   refine Bm 0 rfl rfl rfl EZ ap rfl rfl ?_;intro e0 av a4;have ai:=ai.trans (Ab hH a4);refine AX ⟨ai.trans (Ar hH av),av.at (i:=1) rfl⟩ fun kI90=>AB 8 af kI90 (by kernel_rfl) rfl (fun _ _=>Ae rfl AcF rfl Cj) rfl<|Ef (i:=9) (by kernel_rfl) rfl<|Bm 0 rfl rfl rfl Cj av rfl rfl ?_;intro e1 aw a5;have ai:=ai.trans (Ab hH a5);refine AX ⟨ai.trans (Ar hH aw),aw.at (i:=1) rfl⟩ fun kI92=>AB 10 af kI92 (by kernel_rfl) rfl (fun _ _=>Ae rfl AcF rfl Cj) rfl<|Ef (i:=11) (by kernel_rfl) rfl<|Bm 0 rfl rfl rfl Cj aw rfl rfl fun e2 co ea=>Fi (by kernel_rfl)<|DB (by kernel_rfl)<|AF<|A8 (a0.f.2.2.1,[],a0.f.2.2.2.2.1,a0.f.2.2.2.2.2.1,0,0,0,Aa8) (Sub.of rfl) ⟨co,(AI.nil _ _),h⟩
  refine AD 2 rfl<|AM rfl h (fun cp h=>?_) (fun cp h=>?_)
  ·refine JG (Jb (ME Mo)) (fun z0 z=>Le (gz H w z0 [.box b2 [No a0.f.1,b,(Abj []),Aa8,No 0,No 0,c] 26,.box b1 [No a0.f.1,b,Abj a0.f.2.2.1,e,No a0.f.2.2.2.2.1,No a0.f.2.2.2.2.2.1,c] 26]) (hp z)/\z.heap[b1]? = some (.cells [No a0.f.1,b,Abj a0.f.2.2.1,e,No a0.f.2.2.2.2.1,No a0.f.2.2.2.2.2.1,c].toArray 26 (0,0))) mixed rfl (fun an e3 cq=>?_);have aq:=ag.call cq;have ar:=aq.rG H;refine Mp ⟨ar.trans (Ar hH aq),aq.at (i:=1) rfl⟩ fun kI100=>AB 0 an kI100 (by kernel_rfl) rfl (fun _ _=>Ae rfl AcF rfl EZ) rfl<|AB 1 an kI100 (by kernel_rfl) rfl (fun _ hI=>Jd rfl Ab1 rfl hI.2 rfl) rfl<|AB 2 an kI100 (by kernel_rfl) rfl (fun _ _=>Ae rfl AcF rfl F7) rfl<|AB 3 an kI100 (by kernel_rfl) rfl (fun _ hI=>Jd rfl AbF rfl hI.2 rfl) rfl<|AB 4 an kI100 (by kernel_rfl) rfl (fun _ _=>Ae rfl AcF rfl EZ) rfl<|Ef (i:=5) (by kernel_rfl) rfl<|Bm 0 rfl rfl rfl EZ aq rfl rfl ?_;intro ee au a3;have ar:=ar.trans (Ab hH a3);refine AX ⟨ar.trans (Ar hH au),au.at (i:=1) rfl⟩ fun kI102=>?_
   refine AB 6 an kI102 (by kernel_rfl) rfl (fun _ _=>Ae rfl AcF rfl F7) rfl<|Ef (i:=7) (by kernel_rfl) rfl<|Bm 0 rfl rfl ac.one F7 au rfl rfl fun ef a6 dd=>Fi (by kernel_rfl)<|DB (by kernel_rfl)<|AF<|A8 (a0.f.2.2.1,a0.f.2.2.2.1,0,0,0,0,0,e) (Sub.of rfl) ⟨a6,(ac.mono (Aj hH)),h⟩
  refine AD 2 rfl<|AM rfl h (fun a7 h=>?_) (fun a7 h=>?_)
  ·refine Aw<|As 1 rfl<|AK<|AF<|A8 (([]:Abk),[],0,0,0,0,1,Aa8) (Sub.of rfl) ⟨ag,(AI.nil _ _),h⟩
  refine Aw<|As 1 rfl<|AK<|AF<|A8 (([]:Abk),[],0,0,0,0,2,Aa8) (Sub.of rfl) ⟨ag,(AI.nil _ _),h⟩
 rintro⟨y,ay,aa,ab,ak,al,ao,d⟩ aj ⟨a,a8,h⟩;refine Am<|Ag (Ae rfl AcF rfl G5) rfl<|Ag (Af 1 rfl Afy rfl a rfl) rfl<|Ag (Bu rfl Afy g) rfl<|A4 1 rfl<|Am<|Ag (Ae rfl AcF rfl Cj) rfl<|Ag (Af 1 rfl Abn rfl a rfl) rfl<|As 2 rfl<|GP 4 68 (.bool ((decide (a0.f.1=8))||(decide (a0.f.1=9)))) (fun az=>?_) ?_
 ·refine AP (s:=64) rfl (fun ad=>?_) (fun ad=>?_)
  ·iterate 3 refine Ai rfl ad rfl ?_
   refine Ag (A2 rfl ad rfl) rfl<|az.to 3 (PN ad) rfl rfl
  refine Aa rfl ad<|Ag (Ae rfl AcF rfl Cj) rfl<|Aa rfl ad<|Ag (Af 1 rfl Abn rfl a rfl) rfl<|Aa rfl ad<|Ag (Ad rfl) rfl<|Ag (A9 rfl ad rfl) rfl<|az.to 3 (PO ad) rfl rfl
 refine A4 1 rfl<|A7<|A5<|A7<|Am<|Ag (Ae rfl AcF rfl IW) rfl<|Ag (Af 1 rfl Ac7 rfl a rfl) rfl<|Ag (Bu rfl Ac7 ae) rfl<|As 3 rfl<|GP 6 81 (.bool ((decide ((a0.f.2.1.length:Int)<ak))||(decide (al<(a0.f.2.1.length:Int))))) (fun a1=>?_) ?_
 ·refine AP (s:=75) rfl (fun j=>?_) (fun j=>?_)
  ·iterate 5 refine Ai rfl j rfl ?_
   refine Ag (A2 rfl j rfl) rfl<|a1.to 5 (PN j) rfl rfl
  refine Aa rfl j<|Ag (Ae rfl AcF rfl IW) rfl<|Aa rfl j<|Ag (Af 1 rfl Ac7 rfl a rfl) rfl<|Aa rfl j<|Ag (Bu rfl Ac7 ae) rfl<|Aa rfl j<|Ag (Ad rfl) rfl<|Aa rfl j<|Ag (Ad rfl) rfl<|Ag (A9 rfl j rfl) rfl<|a1.to 5 (PO j) rfl rfl
 refine A4 1 rfl<|Bb rfl h (fun a9 h=>?_) (fun a9 h=>?_)
 ·refine Av<|Ao<|Bb rfl h (fun ba h=>?_) (fun ba h=>?_)
  ·refine AD 1 rfl<|Ax<|Aq<|An ?_
   cases h
   refine Ak rfl ⟨a.ext,rfl⟩
  refine Av<|AF<|Ao<|Bi 3 rfl<|AP (s:=116) rfl (fun k=>?_) (fun k=>?_)
  ·have h:=HA k h
   iterate 5 refine Ai rfl k rfl ?_
   refine Ag (A2 rfl k rfl) rfl<|A4 1 rfl<|Ax ?_
   cases h
   refine Ak rfl ⟨a.ext,rfl⟩
  have h:=HB k h;refine Aa rfl k<|Ag (Ae rfl AcF rfl G5) rfl<|Aa rfl k<|Ag (Af 1 rfl Afy rfl a rfl) rfl<|Aa rfl k<|Ag (Ad rfl) rfl<|Aa rfl k ?_;have bb:Bd w [.box b1 [No a0.f.1,b,Abj a0.f.2.2.1,e,No a0.f.2.2.2.2.1,No a0.f.2.2.2.2.2.1,c] 26,.box b2 [No a0.f.1,b,Abj y,d,No aa,No ab,c] 26] aj:=a.CC [1] rfl;refine Ay h fun eg bc h=>DC rfl rfl (Bv (a0:=a0.f.2.2.2.2.2.2) (a1_c0:=a0) (O:=[.box b2 [No a0.f.1,b,Abj y,d,No aa,No ab,c] 26]) hH bb (g.mono (Aj hH)) (ae.mono (Aj hH)) (ac.mono (Aj hH)) (g.mono (Aj hH)) bc) ?_;rintro _ eh ⟨de,df,dg,rfl,bd,dh,cr,cs,ct⟩;refine Aa rfl k<|Ag (Ad rfl) rfl<|Ag (A9 rfl k rfl) rfl<|A4 1 rfl<|Ax ?_
  cases h
  refine Ak rfl ⟨bd.ext,rfl⟩
 refine AD 4 rfl<|AM rfl h (fun be h=>?_) (fun be h=>?_)
 ·refine Av<|Ao<|AM rfl h (fun bf h=>?_) (fun bf h=>?_)
  ·refine AD 1 rfl<|Ax<|Aq<|An ?_
   cases h
   refine Ak rfl ⟨a.ext,rfl⟩
  refine Av<|AF<|Ao<|Bi 3 rfl<|AP (s:=116) rfl (fun l=>?_) (fun l=>?_)
  ·have h:=HA l h
   iterate 5 refine Ai rfl l rfl ?_
   refine Ag (A2 rfl l rfl) rfl<|A4 1 rfl<|Ax ?_
   cases h
   refine Ak rfl ⟨a.ext,rfl⟩
  have h:=HB l h;refine Aa rfl l<|Ag (Ae rfl AcF rfl G5) rfl<|Aa rfl l<|Ag (Af 1 rfl Afy rfl a rfl) rfl<|Aa rfl l<|Ag (Ad rfl) rfl<|Aa rfl l ?_;have bg:Bd w [.box b1 [No a0.f.1,b,Abj a0.f.2.2.1,e,No a0.f.2.2.2.2.1,No a0.f.2.2.2.2.2.1,c] 26,.box b2 [No a0.f.1,b,Abj y,d,No aa,No ab,c] 26] aj:=a.CC [1] rfl;refine Ay h fun ei bh h=>DC rfl rfl (Bv (a0:=a0.f.2.2.2.2.2.2) (a1_c0:=a0) (O:=[.box b2 [No a0.f.1,b,Abj y,d,No aa,No ab,c] 26]) hH bg (g.mono (Aj hH)) (ae.mono (Aj hH)) (ac.mono (Aj hH)) (g.mono (Aj hH)) bh) ?_;rintro _ ej ⟨di,dj,dk,rfl,bi,dl,cu,cv,cw⟩;refine Aa rfl l<|Ag (Ad rfl) rfl<|Ag (A9 rfl l rfl) rfl<|A4 1 rfl<|Ax ?_
  cases h
  refine Ak rfl ⟨bi.ext,rfl⟩
 refine Bi 3 rfl<|U6 3 2 rfl rfl rfl rfl rfl rfl rfl<|A4 1 rfl<|Bb rfl h (fun bj h=>?_) (fun bj h=>?_)
 ·refine Av<|Ao<|Bb rfl h (fun bk h=>?_) (fun bk h=>?_)
  ·refine AD 1 rfl<|Ax<|Aq<|An ?_
   cases h
   refine Ak rfl ⟨a.ext,rfl⟩
  refine Av<|AF<|Ao<|Bi 3 rfl<|AP (s:=116) rfl (fun m=>?_) (fun m=>?_)
  ·have h:=HA m h
   iterate 5 refine Ai rfl m rfl ?_
   refine Ag (A2 rfl m rfl) rfl<|A4 1 rfl<|Ax ?_
   cases h
   refine Ak rfl ⟨a.ext,rfl⟩
  have h:=HB m h;refine Aa rfl m<|Ag (Ae rfl AcF rfl G5) rfl<|Aa rfl m<|Ag (Af 1 rfl Afy rfl a rfl) rfl<|Aa rfl m<|Ag (Ad rfl) rfl<|Aa rfl m ?_;have bl:Bd w [.box b1 [No a0.f.1,b,Abj a0.f.2.2.1,e,No a0.f.2.2.2.2.1,No a0.f.2.2.2.2.2.1,c] 26,.box b2 [No a0.f.1,b,Abj y,d,No aa,No ab,c] 26] aj:=a.CC [1] rfl;refine Ay h fun ek bm h=>DC rfl rfl (Bv (a0:=a0.f.2.2.2.2.2.2) (a1_c0:=a0) (O:=[.box b2 [No a0.f.1,b,Abj y,d,No aa,No ab,c] 26]) hH bl (g.mono (Aj hH)) (ae.mono (Aj hH)) (ac.mono (Aj hH)) (g.mono (Aj hH)) bm) ?_;rintro _ el ⟨dm,dn,dp,rfl,bn,dq,cx,cy,cz⟩;refine Aa rfl m<|Ag (Ad rfl) rfl<|Ag (A9 rfl m rfl) rfl<|A4 1 rfl<|Ax ?_
  cases h
  refine Ak rfl ⟨bn.ext,rfl⟩
 refine Am<|Ag (Ae rfl AcF rfl EZ) rfl<|Ag (Af 0 rfl Ab1 rfl a rfl) rfl<|Ag (Ae rfl AcF rfl EZ) rfl<|Ag (Af 1 rfl Ab1 rfl a rfl) rfl<|Ag (Mn rfl rfl) rfl<|A4 1 rfl<|BV rfl h (fun bo h=>?_) (fun bo h=>?_)
 ·refine Av<|Ao<|BV rfl h (fun bp h=>?_) (fun bp h=>?_)
  ·refine AD 1 rfl<|Ax<|Aq<|An ?_
   cases h
   refine Ak rfl ⟨a.ext,rfl⟩
  refine Av<|AF<|Ao<|Bi 3 rfl<|AP (s:=116) rfl (fun o=>?_) (fun o=>?_)
  ·have h:=HA o h
   iterate 5 refine Ai rfl o rfl ?_
   refine Ag (A2 rfl o rfl) rfl<|A4 1 rfl<|Ax ?_
   cases h
   refine Ak rfl ⟨a.ext,rfl⟩
  have h:=HB o h;refine Aa rfl o<|Ag (Ae rfl AcF rfl G5) rfl<|Aa rfl o<|Ag (Af 1 rfl Afy rfl a rfl) rfl<|Aa rfl o<|Ag (Ad rfl) rfl<|Aa rfl o ?_;have bq:Bd w [.box b1 [No a0.f.1,b,Abj a0.f.2.2.1,e,No a0.f.2.2.2.2.1,No a0.f.2.2.2.2.2.1,c] 26,.box b2 [No a0.f.1,b,Abj y,d,No aa,No ab,c] 26] aj:=a.CC [1] rfl;refine Ay h fun em br h=>DC rfl rfl (Bv (a0:=a0.f.2.2.2.2.2.2) (a1_c0:=a0) (O:=[.box b2 [No a0.f.1,b,Abj y,d,No aa,No ab,c] 26]) hH bq (g.mono (Aj hH)) (ae.mono (Aj hH)) (ac.mono (Aj hH)) (g.mono (Aj hH)) br) ?_;rintro _ en ⟨dr,ds,dt,rfl,bs,du,c0,c1,c2⟩;refine Aa rfl o<|Ag (Ad rfl) rfl<|Ag (A9 rfl o rfl) rfl<|A4 1 rfl<|Ax ?_
  cases h
  refine Ak rfl ⟨bs.ext,rfl⟩
 refine Am<|Ag (Ae rfl AcF rfl Cj) rfl<|Ag (Af 0 rfl Abn rfl a rfl) rfl<|Ag (Ae rfl AcF rfl Cj) rfl<|Ag (Af 1 rfl Abn rfl a rfl) rfl<|A4 2 rfl<|BV rfl h (fun bt h=>?_) (fun bt h=>?_)
 ·refine Av<|Ao<|BV rfl h (fun bu h=>?_) (fun bu h=>?_)
  ·refine AD 1 rfl<|Ax<|Aq<|An ?_
   cases h
   refine Ak rfl ⟨a.ext,rfl⟩
  refine Av<|AF<|Ao<|Bi 3 rfl<|AP (s:=116) rfl (fun p=>?_) (fun p=>?_)
  ·have h:=HA p h
   iterate 5 refine Ai rfl p rfl ?_
   refine Ag (A2 rfl p rfl) rfl<|A4 1 rfl<|Ax ?_
   cases h
   refine Ak rfl ⟨a.ext,rfl⟩
  have h:=HB p h;refine Aa rfl p<|Ag (Ae rfl AcF rfl G5) rfl<|Aa rfl p<|Ag (Af 1 rfl Afy rfl a rfl) rfl<|Aa rfl p<|Ag (Ad rfl) rfl<|Aa rfl p ?_;have bv:Bd w [.box b1 [No a0.f.1,b,Abj a0.f.2.2.1,e,No a0.f.2.2.2.2.1,No a0.f.2.2.2.2.2.1,c] 26,.box b2 [No a0.f.1,b,Abj y,d,No aa,No ab,c] 26] aj:=a.CC [1] rfl;refine Ay h fun eo bw h=>DC rfl rfl (Bv (a0:=a0.f.2.2.2.2.2.2) (a1_c0:=a0) (O:=[.box b2 [No a0.f.1,b,Abj y,d,No aa,No ab,c] 26]) hH bv (g.mono (Aj hH)) (ae.mono (Aj hH)) (ac.mono (Aj hH)) (g.mono (Aj hH)) bw) ?_;rintro _ ep ⟨dv,dw,dx,rfl,bx,dy,c3,c4,c5⟩;refine Aa rfl p<|Ag (Ad rfl) rfl<|Ag (A9 rfl p rfl) rfl<|A4 1 rfl<|Ax ?_
  cases h
  refine Ak rfl ⟨bx.ext,rfl⟩
 refine Am<|Ag (Ae rfl AcF rfl Cj) rfl<|Ag (Af 0 rfl Abn rfl a rfl) rfl<|Ag (Ae rfl AcF rfl Cj) rfl<|Ag (Af 1 rfl Abn rfl a rfl) rfl<|A4 2 rfl<|BV rfl h (fun bz h=>?_) (fun bz h=>?_)
 ·refine Av<|Ao<|BV rfl h (fun b0 h=>?_) (fun b0 h=>?_)
  ·refine AD 1 rfl<|Ax<|Aq<|An ?_
   cases h
   refine Ak rfl ⟨a.ext,rfl⟩
  refine Av<|AF<|Ao<|Bi 3 rfl<|AP (s:=116) rfl (fun u=>?_) (fun u=>?_)
  ·have h:=HA u h
   iterate 5 refine Ai rfl u rfl ?_
   refine Ag (A2 rfl u rfl) rfl<|A4 1 rfl<|Ax ?_
   cases h
   refine Ak rfl ⟨a.ext,rfl⟩
  have h:=HB u h;refine Aa rfl u<|Ag (Ae rfl AcF rfl G5) rfl<|Aa rfl u<|Ag (Af 1 rfl Afy rfl a rfl) rfl<|Aa rfl u<|Ag (Ad rfl) rfl<|Aa rfl u ?_;have b3:Bd w [.box b1 [No a0.f.1,b,Abj a0.f.2.2.1,e,No a0.f.2.2.2.2.1,No a0.f.2.2.2.2.2.1,c] 26,.box b2 [No a0.f.1,b,Abj y,d,No aa,No ab,c] 26] aj:=a.CC [1] rfl;refine Ay h fun eq b4 h=>DC rfl rfl (Bv (a0:=a0.f.2.2.2.2.2.2) (a1_c0:=a0) (O:=[.box b2 [No a0.f.1,b,Abj y,d,No aa,No ab,c] 26]) hH b3 (g.mono (Aj hH)) (ae.mono (Aj hH)) (ac.mono (Aj hH)) (g.mono (Aj hH)) b4) ?_;rintro _ er ⟨dz,d0,d1,rfl,b5,d2,c6,c7,c8⟩;refine Aa rfl u<|Ag (Ad rfl) rfl<|Ag (A9 rfl u rfl) rfl<|A4 1 rfl<|Ax ?_
  cases h
  refine Ak rfl ⟨b5.ext,rfl⟩
 refine Aw<|Ag (Ae rfl AcF rfl F7) rfl<|Ag (Af 0 rfl AbF rfl a rfl) rfl<|Ag (Bu rfl AbF a8) rfl<|Ag (Ae rfl AcF rfl F7) rfl<|Ag (Af 1 rfl AbF rfl a rfl) rfl<|Ag (Bu rfl AbF ac) rfl<|As 2 rfl<|AK<|Ao<|BV rfl h (fun b6 h=>?_) (fun b6 h=>?_)
 ·refine AD 1 rfl<|Ax<|Aq<|An ?_
  cases h
  refine Ak rfl ⟨a.ext,rfl⟩
 refine Av<|AF<|Ao<|Bi 3 rfl<|AP (s:=116) rfl (fun x=>?_) (fun x=>?_)
 ·have h:=HA x h
  iterate 5 refine Ai rfl x rfl ?_
  refine Ag (A2 rfl x rfl) rfl<|A4 1 rfl<|Ax ?_
  cases h
  refine Ak rfl ⟨a.ext,rfl⟩
 have h:=HB x h;refine Aa rfl x<|Ag (Ae rfl AcF rfl G5) rfl<|Aa rfl x<|Ag (Af 1 rfl Afy rfl a rfl) rfl<|Aa rfl x<|Ag (Ad rfl) rfl<|Aa rfl x ?_;have b7:Bd w [.box b1 [No a0.f.1,b,Abj a0.f.2.2.1,e,No a0.f.2.2.2.2.1,No a0.f.2.2.2.2.2.1,c] 26,.box b2 [No a0.f.1,b,Abj y,d,No aa,No ab,c] 26] aj:=a.CC [1] rfl;refine Ay h fun es b8 h=>DC rfl rfl (Bv (a0:=a0.f.2.2.2.2.2.2) (a1_c0:=a0) (O:=[.box b2 [No a0.f.1,b,Abj y,d,No aa,No ab,c] 26]) hH b7 (g.mono (Aj hH)) (ae.mono (Aj hH)) (ac.mono (Aj hH)) (g.mono (Aj hH)) b8) ?_;rintro _ et ⟨d3,d4,d5,rfl,b9,d6,c9,da,db⟩;refine Aa rfl x<|Ag (Ad rfl) rfl<|Ag (A9 rfl x rfl) rfl<|A4 1 rfl<|Ax ?_
 cases h
 refine Ak rfl ⟨b9.ext,rfl⟩
def DY(a0:Go.L.Qv)(a:Bool):Option Int:=
 if a then some (4) else(if((decide (a0.f.1=4))&&(decide ((a0.f.2.2.2.1.length:Int)=0))) then some (10) else(if 64<(a0.f.2.2.2.1.length:Int) then some (3) else some (0)))
def DZ(a0:Go.L.Qv):Option Int:=
 Option.bind (IH a0.f.2.2.1) (fun a=>if a.1=0/\a.2=0 then(if((decide (a0.f.1=3))&&((decide (a0.f.2.2.2.2.1<1))||(decide (2048<a0.f.2.2.2.2.1)))) then(DY a0) ((decide (a0.f.1=3))&&((decide (a0.f.2.2.2.2.1<1))||(decide (2048<a0.f.2.2.2.2.1)))) else(DY a0) ((decide (a0.f.1=6))&&(decide (a0.f.2.2.2.2.2.1<a0.f.2.2.2.2.1)))) else some (a.1))
def CS(a0:Go.L.Qv):Int->Option ((Int) ⊕ (Int)):=fun a=>
 if a<(a0.f.2.1.length:Int) then AS (0<=a/\a<(a0.f.2.1.length:Int)) (Option.bind (Iy (a0.f.2.1.getD a.toNat default)) (fun b=>if b.1=0/\b.2=0 then AS (B0 (a+1)) (some (Sum.inl (a+1))) else Option.map Sum.inr (some (b.1)))) else Option.map Sum.inr ((DZ a0))
def GK(a0:Go.L.Qv)(s:Int):Option Int:=Go.L.run (CS a0) s
def F9(a0:Go.L.Qv):Option Int:=
 if((decide (a0.f.1<1))||(decide (10<a0.f.1))) then some (5) else Option.bind (HQ a0) (fun a=>if !a then some (6) else(GK a0) (0:Int))
theorem Pu(w:World)(H:PH)(hH:Le H (hp w))(hU:Eg H){a0:Go.L.Qv}{j o p:Value}(y:AI .st H j (a0.f.2.1))(z:AI .byte H o (a0.f.2.2.2.1))(ao:AI .Bg H p (a0.f.2.2.2.2.2.2)){r:Int}(h:F9 a0=some r):
  Ok prog 62 [.agg #[No a0.f.1,j,Abj a0.f.2.2.1,o,No a0.f.2.2.2.2.1,No a0.f.2.2.2.2.2.1,p]] w (fun v w'=>Ext w w'/\v=No r):=by
 refine A3 (n:=80) [(0,.agg #[No a0.f.1,j,Abj a0.f.2.2.1,o,No a0.f.2.2.2.2.1,No a0.f.2.2.2.2.2.1,p])] func62 rfl fun hL=>Am<|CY (t:=26) rfl rfl rfl hL fun w1 b1 q bg _=>A4 1 rfl<|A7<|Am<|Ag (Ae rfl AcF rfl Cj) rfl<|Ag (Af 0 rfl Abn rfl q rfl) rfl<|As 2 rfl<|GP 4 14 (.bool ((decide (a0.f.1<1))||(decide (10<a0.f.1)))) (fun am=>?_) ?_
 ·refine AP (s:=10) rfl (fun l=>?_) (fun l=>?_)
  ·iterate 3 refine Ai rfl l rfl ?_
   refine Ag (A2 rfl l rfl) rfl<|am.to 3 (PN l) rfl rfl
  refine Aa rfl l<|Ag (Ae rfl AcF rfl Cj) rfl<|Aa rfl l<|Ag (Af 0 rfl Abn rfl q rfl) rfl<|Aa rfl l<|Ag (Ad rfl) rfl<|Ag (A9 rfl l rfl) rfl<|am.to 3 (PO l) rfl rfl
 refine Ac<|Bb rfl h (fun a6 h=>?_) (fun a6 h=>?_)
 ·refine AD 1 rfl<|Ax<|An ?_
  cases h
  refine Ak rfl ⟨q.ext,rfl⟩
 refine Av<|Ao<|A7<|Am<|Ag (AE 0 rfl AcF rfl AO q rfl) rfl<|Ay h fun x6 a7 h=>AA rfl rfl q (Rc (a0:=a0) _ _ (Ar hH q) (y.mono (Aj hH)) (z.mono (Aj hH)) (ao.mono (Aj hH)) a7) fun w7 bn ae bh=>A4 1 rfl<|Bb rfl h (fun a8 h=>?_) (fun a8 h=>?_)
 ·refine AD 1 rfl<|Ax<|An ?_
  cases h
  refine Ak rfl ⟨ae.ext,rfl⟩
 refine Av<|Ao<|Bo (σ:=Unit) (fun(_:Unit)=>[(1,(Abi b1))]) (fun(_:Unit) wr=>Bd w [.box b1 [No a0.f.1,j,Abj a0.f.2.2.1,o,No a0.f.2.2.2.2.1,No a0.f.2.2.2.2.2.1,p] 26] wr/\(DZ a0)=some r) ?_ ?_
 ·refine Am<|Ag (Ae rfl AcF rfl IW) rfl<|Ag (Af 0 rfl Ac7 rfl ae rfl) rfl<|Ag (Bu rfl Ac7 y) rfl<|A4 1 rfl<|A5 ?_;obtain⟨af,h⟩:=AZ h;refine Bx (σ:=Int×Nat) (fun⟨c,n⟩=>[(1,(Abi b1)),(19,j),(20,No (a0.f.2.1.length:Int)),(21,No c)]) (fun⟨c,n⟩ wr=>Bd w [.box b1 [No a0.f.1,j,Abj a0.f.2.2.1,o,No a0.f.2.2.2.2.1,No a0.f.2.2.2.2.2.1,p] 26] wr/\F6 (CS a0) n c=some r) (fun⟨c,n⟩=>n) (0,af) (Sub.of rfl) ⟨ae,h⟩ ?_;rintro⟨c,nn58⟩ bi ⟨u,h⟩;obtain⟨af,bo,rfl,h,aa⟩:=AY h;refine AD 1 rfl<|A7<|AM rfl h (fun ap h=>?_) (fun ap h=>?_)
  ·refine Av<|Ao<|A7<|A5<|Am<|Az h fun ag h=>Bf rfl rfl Ac7 EZ y c.toNat (EX ag) (Ba ag) rfl ?_;rintro bp _ rfl aq;refine Ag (Bj rfl Ab1 rfl aq (hH.trans u.arg)) rfl<|A4 1 rfl<|Bi 1 rfl<|Ay h fun bq ar h=>AA rfl rfl u (OG _ _ (Ar hH u) (hU.mono (Aj hH)) ar) fun br bj au ba=>AH AW rfl rfl au fun bs bt av bb _=>Ah 0 rfl AW av rfl (Bc rfl) fun bu x bc=>Ac<|Am<|Ag (AE 0 rfl Ack rfl AW x rfl) rfl<|Ag (AR rfl (fun _=>Cf _)) rfl<|Ag (Lh rfl rfl JF (MY _ _ _ _)) rfl<|Ac<|BV rfl h (fun aw h=>?_) (fun aw h=>?_)
   ·refine Am<|Ag (Ae rfl Ack rfl Cj) rfl<|Ag (Af 0 rfl Abn rfl x rfl) rfl<|A4 1 rfl<|Ax<|Aq<|An<|By ?_;have h:=BP.out h aa;refine Aq<|Bs ?_
    cases h
    refine Ak rfl ⟨x.ext,rfl⟩
   refine Av<|AF<|Ao<|Aw<|Az h fun ax h=>Ag (A1 rfl ax) rfl<|As 1 rfl<|AK ?_;have ay:=x.AQ (i:=0) rfl;have h:=BP.again h aa;refine AN ((c+1),af) (Sub.of rfl) ⟨ay,h⟩ (Nat.lt_succ_self _)
  refine Br<|AG<|A6 ?_;have h:=BP.out h aa;refine Be<|A8 () (Sub.of rfl) ⟨u,h⟩
 rintro _ bk ⟨ab,h⟩;refine A7<|Am<|Ag (Ae rfl AcF rfl EZ) rfl<|Ag (Af 0 rfl Ab1 rfl ab rfl) rfl<|Ay h fun an az h=>AA rfl rfl ab (RM _ _ (Ar hH ab) az) fun bv bl a1 bd=>AH AW rfl rfl a1 fun bw a9 a2 be _=>Ah 0 rfl AW a2 rfl (Bc rfl) fun bx d bf=>Ac<|Am<|Ag (AE 0 rfl Ack rfl AW d rfl) rfl<|Ag (AR rfl (fun _=>Cf _)) rfl<|Ag (Lh rfl rfl JF (MY _ _ _ _)) rfl<|Ac<|BV rfl h (fun a3 h=>?_) (fun a3 h=>?_)
 ·refine Am<|Ag (Ae rfl Ack rfl Cj) rfl<|Ag (Af 0 rfl Abn rfl d rfl) rfl<|A4 1 rfl<|Ax<|An ?_
  cases h
  refine Ak rfl ⟨d.ext,rfl⟩
 refine Av<|Ao<|A7<|A5<|Bo (σ:=Bool) (fun m=>[(1,(Abi b1)),(41,.bool m)]) (fun m wr=>Bd w [.box a9 [No an.1,No an.2] 28,.box b1 [No a0.f.1,j,Abj a0.f.2.2.1,o,No a0.f.2.2.2.2.1,No a0.f.2.2.2.2.2.1,p] 26] wr/\(DY a0) m=some r) ?_ ?_
 ·refine Am<|Ag (Ae rfl AcF rfl Cj) rfl<|Ag (Af 1 rfl Abn rfl d rfl) rfl<|As 2 rfl<|GP 9 54 (.bool ((decide (a0.f.1=3))&&((decide (a0.f.2.2.2.2.1<1))||(decide (2048<a0.f.2.2.2.2.1))))) (fun ah=>?_) ?_
  ·refine AP (s:=45) rfl (fun a=>?_) (fun a=>?_)
   ·refine Aa rfl a<|Ag (Ae rfl AcF rfl Cj) rfl<|Aa rfl a<|Ag (Af 1 rfl Abn rfl d rfl) rfl<|Aa rfl a<|Ag (Ad rfl) rfl<|Aa rfl a<|Ag (Ad rfl) rfl<|GP 4 53 (.bool ((decide (a0.f.2.2.2.2.1<1))||(decide (2048<a0.f.2.2.2.2.1)))) (fun ai=>?_) ?_
    ·refine AP (s:=49) rfl (fun g=>?_) (fun g=>?_)
     ·iterate 3 refine Ai rfl g rfl ?_
      refine Aa rfl a<|Ag (A2 rfl g rfl) rfl<|ai.to 3 (PN g) rfl rfl
     refine Aa rfl g<|Ag (Ae rfl AcF rfl Cj) rfl<|Aa rfl g<|Ag (Af 1 rfl Abn rfl d rfl) rfl<|Aa rfl g<|Ag (Ad rfl) rfl<|Aa rfl a<|Ag (A9 rfl g rfl) rfl<|ai.to 3 (PO g) rfl rfl
    refine Ag (A2 rfl a rfl) rfl<|ah.to 5 (KK a) rfl rfl
   iterate 4 refine Ai rfl a rfl ?_
   iterate 3 refine Cl rfl rfl rfl ?_
   refine Ai rfl a rfl<|Ag (A9 rfl a rfl) rfl<|ah.to 8 (KL a) rfl rfl
  refine A4 1 rfl<|Bb rfl h (fun a4 h=>?_) (fun a4 h=>?_)
  ·refine Av<|A8 ((decide (a0.f.1=3))&&((decide (a0.f.2.2.2.2.1<1))||(decide (2048<a0.f.2.2.2.2.1)))) (Sub.of rfl) ⟨d,h⟩
  refine Aw<|Ag (Ae rfl AcF rfl Cj) rfl<|Ag (Af 1 rfl Abn rfl d rfl) rfl<|As 2 rfl<|GP 6 64 (.bool ((decide (a0.f.1=6))&&(decide (a0.f.2.2.2.2.2.1<a0.f.2.2.2.2.1)))) (fun aj=>?_) ?_
  ·refine AP (s:=58) rfl (fun e=>?_) (fun e=>?_)
   ·refine Aa rfl e<|Ag (Ae rfl AcF rfl Cj) rfl<|Aa rfl e<|Ag (Af 1 rfl Abn rfl d rfl) rfl<|Aa rfl e<|Ag (Ae rfl AcF rfl Cj) rfl<|Aa rfl e<|Ag (Af 1 rfl Abn rfl d rfl) rfl<|Aa rfl e<|Ag (Ad rfl) rfl<|Ag (A2 rfl e rfl) rfl<|aj.to 5 (KK e) rfl rfl
   iterate 5 refine Ai rfl e rfl ?_
   refine Ag (A9 rfl e rfl) rfl<|aj.to 5 (KL e) rfl rfl
  refine As 1 rfl<|AK<|A8 ((decide (a0.f.1=6))&&(decide (a0.f.2.2.2.2.2.1<a0.f.2.2.2.2.1))) (Sub.of rfl) ⟨d,h⟩
 rintro m bm ⟨k,h⟩;refine Bb rfl h (fun a5 h=>?_) (fun a5 h=>?_)
 ·refine AD 1 rfl<|Ax<|Aq<|An ?_
  cases h
  refine Ak rfl ⟨k.ext,rfl⟩
 refine Am<|Ag (Ae rfl AcF rfl Cj) rfl<|Ag (Af 1 rfl Abn rfl k rfl) rfl<|As 2 rfl<|GP 5 74 (.bool ((decide (a0.f.1=4))&&(decide ((a0.f.2.2.2.1.length:Int)=0)))) (fun ac=>?_) ?_
 ·refine AP (s:=69) rfl (fun b=>?_) (fun b=>?_)
  ·refine Aa rfl b<|Ag (Ae rfl AcF rfl F7) rfl<|Aa rfl b<|Ag (Af 1 rfl AbF rfl k rfl) rfl<|Aa rfl b<|Ag (Bu rfl AbF z) rfl<|Aa rfl b<|Ag (Ad rfl) rfl<|Ag (A2 rfl b rfl) rfl<|ac.to 4 (KK b) rfl rfl
  iterate 4 refine Ai rfl b rfl ?_
  refine Ag (A9 rfl b rfl) rfl<|ac.to 4 (KL b) rfl rfl
 refine A4 1 rfl<|Bb rfl h (fun ak h=>?_) (fun ak h=>?_)
 ·refine AD 1 rfl<|Ax<|Aq<|An ?_
  cases h
  refine Ak rfl ⟨k.ext,rfl⟩
 refine Am<|Ag (Ae rfl AcF rfl F7) rfl<|Ag (Af 1 rfl AbF rfl k rfl) rfl<|Ag (Bu rfl AbF z) rfl<|A4 2 rfl<|AM rfl h (fun al h=>?_) (fun al h=>?_)
 ·refine AD 1 rfl<|Ax<|Aq<|An ?_
  cases h
  refine Ak rfl ⟨k.ext,rfl⟩
 refine Av<|AF<|Ao<|AD 1 rfl<|Ax ?_
 cases h
 refine Ak rfl ⟨k.ext,rfl⟩
def Gy(a:Int):Option AfM:=
 some (a,(0,0))
def Dq(a0:Go.L.Qv)(a2:Int)(self:Go.L.Qv->Int->Int->Option AfM):Int×Int->Option ((Int×Int) ⊕ AfM):=fun⟨c,a⟩=>
 if a<(a0.f.2.2.2.2.2.2.length:Int) then AS (0<=a/\a<(a0.f.2.2.2.2.2.2.length:Int)) (AS (B0 (a2+1)) (Option.bind (self (a0.f.2.2.2.2.2.2.getD a.toNat default) c (a2+1)) (fun b=>if b.2.1=0/\b.2.2=0 then AS (B0 (a+1)) (some (Sum.inl (b.1,(a+1)))) else Option.map Sum.inr (some (0,(b.2.1,b.2.2)))))) else Option.map Sum.inr (Gy c)
def Iz(a0:Go.L.Qv)(a2:Int)(self:Go.L.Qv->Int->Int->Option AfM)(s:Int×Int):Option AfM:=Go.L.run (Dq a0 a2 self) s
def DU(self:Go.L.Qv->Int->Int->Option AfM)(a0:Go.L.Qv)(a1 a2:Int):Option AfM:=
 if(40<=a1)\/(8<a2) then Option.bind (DT (2:Int) a1) (fun b=>some (0,(b.1,b.2))) else Option.bind (F9 a0) (fun c=>if c=0 then AS (B0 (a1+1)) ((Iz a0 a2 self) ((a1+1),0)) else Option.bind (DT c a1) (fun a=>some (0,(a.1,a.2))))
def I0(self:Go.L.Qv->Int->Int->Option AfM):Prop:=∀ (w:World) (H:PH) (hH:Le H (hp w)) (hU:Eg H) {a0:Go.L.Qv} {a1:Int} {a2:Int} {a:Value} {b:Value} {c:Value} (d:AI .st H a (a0.f.2.1)) (e:AI .byte H b (a0.f.2.2.2.1)) (g:AI .Bg H c (a0.f.2.2.2.2.2.2)) {r:Int×(Int×Int)} (h:self a0 a1 a2=some r),Ok prog 32 [.agg #[No a0.f.1,a,Abj a0.f.2.2.1,b,No a0.f.2.2.2.2.1,No a0.f.2.2.2.2.2.1,c],No a1,No a2] w (fun v w'=>Ext w w'/\v=.tuple #[No r.1,.agg #[No r.2.1,No r.2.2]])
def DV:Nat->Go.L.Qv->Int->Int->Option AfM
 | 0=>fun _ _ _=>none
 | n+1=>DU (DV n)
def Kj:Go.L.Qv->Int->Int->Option AfM:=DV 1000
theorem OH(self:Go.L.Qv->Int->Int->Option AfM)(hself:I0 self):I0 (DU self):=by
 intro w H hH hU a0 a1 a2 l m d an ao o r h;unfold I0 at hself;refine A3 (n:=52) [(0,.agg #[No a0.f.1,l,Abj a0.f.2.2.1,m,No a0.f.2.2.2.2.1,No a0.f.2.2.2.2.2.1,d]),(1,No a1),(2,No a2)] func32 rfl fun hL=>Am<|CY (t:=26) rfl rfl rfl hL fun w1 b1 a5 bl _=>As 1 rfl<|AH AW rfl rfl a5 fun w2 b2 k bm _=>Ac<|A7<|Bi 3 rfl<|MT 2 2 rfl rfl rfl rfl rfl rfl<|Ac<|AM rfl h (fun a6 h=>?_) (fun a6 h=>?_)
 ·refine Bi 1 rfl<|Ay h fun x5 a7 h=>AA rfl rfl k (EU _ _ (Ar hH k) a7) fun w6 b4 a8 bn=>As 1 rfl<|Ah 0 rfl AW a8 rfl (Bc rfl) fun w7 am bo=>Ac<|Ax<|An ?_
  cases h
  refine Bz rfl (.tmp rfl) (.cell rfl Ack rfl AW (AL (i:=0) am rfl)) ⟨am.ext,rfl⟩
 refine Av<|Ao<|A7<|Am<|Ag (AE 1 rfl AcF rfl AO k rfl) rfl<|Ay h fun x9 a9 h=>AA rfl rfl k (Pu (a0:=a0) _ _ (Ar hH k) (hU.mono (Aj hH)) (an.mono (Aj hH)) (ao.mono (Aj hH)) (o.mono (Aj hH)) a9) fun b5 bp e bf=>A4 1 rfl<|AD 2 rfl<|BV rfl h (fun ap h=>?_) (fun ap h=>?_)
 ·refine Bi 2 rfl<|Ay h fun b6 aq h=>AA rfl rfl e (EU _ _ (Ar hH e) aq) fun b7 bq ar bg=>As 1 rfl<|Ah 0 rfl AW ar rfl (Bc rfl) fun b8 y bh=>Ac<|Ax<|An ?_
  cases h
  refine Bz rfl (.tmp rfl) (.cell rfl Ack rfl AW (AL (i:=0) y rfl)) ⟨y.ext,rfl⟩
 refine Av<|Ao<|Bi 1 rfl<|Az h fun au h=>Ag (A1 rfl au) rfl<|A4 1 rfl<|Bo (σ:=Int) (fun c=>[(7,(Abi b2)),(9,No c)]) (fun c wr=>Bd w [.box b2 [No 0,No 0] 28,.box b1 [No a0.f.1,l,Abj a0.f.2.2.1,m,No a0.f.2.2.2.2.1,No a0.f.2.2.2.2.2.1,d] 26] wr/\Gy c=some r) ?_ ?_
 ·refine Am<|Ag (Ae rfl AcF rfl G5) rfl<|Ag (Af 1 rfl Afy rfl e rfl) rfl<|Ag (Bu rfl Afy o) rfl<|A4 1 rfl<|A5 ?_;obtain⟨z,h⟩:=AZ h;refine Bx (σ:=Int×Int×Nat) (fun⟨b,a,n⟩=>[(2,No a2),(7,(Abi b2)),(9,No b),(31,d),(32,No (a0.f.2.2.2.2.2.2.length:Int)),(33,No a)]) (fun⟨b,a,n⟩ wr=>Bd w [.box b2 [No 0,No 0] 28,.box b1 [No a0.f.1,l,Abj a0.f.2.2.1,m,No a0.f.2.2.2.2.1,No a0.f.2.2.2.2.2.1,d] 26] wr/\F6 (Dq a0 a2 self) n (b,a)=some r) (fun⟨b,a,n⟩=>n) ((a1+1),0,z) (Sub.of rfl) ⟨e,h⟩ ?_;rintro⟨b,a,nn92⟩ br ⟨p,h⟩;obtain⟨z,b9,rfl,h,s⟩:=AY h;refine AD 1 rfl<|A7<|AM rfl h (fun av h=>?_) (fun av h=>?_)
  ·refine Av<|Ao<|A7<|A5<|Am<|Az h fun aa h=>Bf rfl rfl Afy AO o a.toNat (EX aa) (Ba aa) rfl ?_;rintro ca _ e96t0 aw;obtain⟨_,_,rfl,rfl,⟨_,_,rfl,⟨e96v1,rfl,e96h1⟩,⟨_,_,rfl,rfl,⟨_,_,rfl,⟨e96v3,rfl,e96h3⟩,⟨_,_,rfl,rfl,⟨_,_,rfl,rfl,⟨e96v6,rfl,e96h6⟩⟩⟩⟩⟩⟩⟩:=Go.E.Rp.Dh e96t0;refine Ag (C9 rfl AcF rfl AO aw (hH.trans p.arg)) rfl<|AH AO rfl rfl p fun cb cc ax bi _=>Ah 0 rfl AO ax rfl (AU rfl (AU e96h1.one (AU rfl (AU e96h3.one (AU rfl (AU rfl (AU e96h6.one Hj))))))) fun cd ay bj=>Ac<|Am<|AH AW rfl rfl ay fun bs bt g ba _=>Ac<|Am<|Ag (AE 1 rfl AcF rfl AO g rfl) rfl<|As 2 rfl<|Az h fun ac h=>Ag (A1 rfl ac) rfl<|Ay h fun az ad h=>AA rfl rfl g (hself _ _ (Ar hH g) (hU.mono (Aj hH)) (e96h1.mono (Aj hH)) (e96h3.mono (Aj hH)) (e96h6.mono (Aj hH)) ad) fun bu bk ae bb=>As 4 rfl<|Ah 0 rfl AW ae rfl (Bc rfl) fun bv j bc=>Ac<|Am<|Ag (AE 0 rfl Ack rfl AW j rfl) rfl ?_
   refine Ag (AR rfl (fun _=>Cf _)) rfl<|Ag (Lh rfl rfl JF (MY _ _ _ _)) rfl<|Ac<|BV rfl h (fun af h=>?_) (fun af h=>?_)
   ·refine DD (.q 0 (.q 1 (.tail 2))) mixed (by kernel_rfl) (fun bw ag=>?_);have u:=j.call ag;refine BQ (AE 0 rfl Ack rfl AW u rfl) rfl rfl<|Df 1 rfl<|Cd (fun bx ah=>?_);have ai:=u.call ah;refine Ah 2 rfl AW ai rfl (Bc rfl) fun bz v bd=>Ac<|Ax<|Aq<|An<|By ?_;have h:=BP.out h s;refine Aq<|Bs ?_
    cases h
    refine Bz rfl (.tmp rfl) (.cell rfl Ack rfl AW (AL (i:=2) v rfl)) ⟨v.ext,rfl⟩
   refine Av<|AF<|Ao<|Aw<|Az h fun aj h=>Ag (A1 rfl aj) rfl<|As 1 rfl<|AK ?_;have ak:=j.AQ (i:=0) rfl;have al:=ak.AQ (i:=0) rfl;have h:=BP.again h s;refine AN (az.1,(a+1),z) (Sub.of rfl) ⟨al,h⟩ (Nat.lt_succ_self _)
  refine Br<|AG<|A6 ?_;have h:=BP.out h s;refine Be<|A8 b (Sub.of rfl) ⟨p,h⟩
 rintro c b0 ⟨a3,h⟩;refine Bi 1 rfl<|Ag (AR rfl (fun _=>Cf _)) rfl<|As 1 rfl<|Ah 0 rfl AW a3 rfl (Bc rfl) fun b3 x be=>Ac<|Ax ?_
 cases h
 refine Bz rfl (.tmp rfl) (.cell rfl Ack rfl AW (AL (i:=0) x rfl)) ⟨x.ext,rfl⟩
theorem Q4(n:Nat):I0 (DV n):=by
 induction n with
 | zero=>unfold I0;intros;rename_i h;cases h
 | succ n ih=>exact OH (DV n) ih
theorem RV(w:World)(H:PH)(hH:Le H (hp w))(hU:Eg H){a0:Go.L.Qv}{a1 a2:Int}{a b c:Value}(d:AI .st H a (a0.f.2.1))(e:AI .byte H b (a0.f.2.2.2.1))(g:AI .Bg H c (a0.f.2.2.2.2.2.2)){r:Int×(Int×Int)}(h:Kj a0 a1 a2=some r):Ok prog 32 [.agg #[No a0.f.1,a,Abj a0.f.2.2.1,b,No a0.f.2.2.2.2.1,No a0.f.2.2.2.2.2.1,c],No a1,No a2] w (fun v w'=>Ext w w'/\v=.tuple #[No r.1,.agg #[No r.2.1,No r.2.2]]):=Q4 1000 w H hH hU d e g h
def Hd(a:Abk):Option Abk:=
 AS (Go.E.J3 1 (a.length+([(39:UInt8)]).length)) (some ((a++[(39:UInt8)])))
def Dk(a0:Abk):Abk×Int->Option ((Abk×Int) ⊕ (Abk)):=fun⟨b,a⟩=>
 if a<(a0.length:Int) then AS (0<=a/\a<(a0.length:Int)) (if(((((a0.getD a.toNat default).toNat:Int)=92)\/(((a0.getD a.toNat default).toNat:Int)=39))\/(((a0.getD a.toNat default).toNat:Int)<32))\/(126<((a0.getD a.toNat default).toNat:Int)) then AS (0<=((a0.getD a.toNat default >>> (4:UInt8)).toNat:Int)/\((a0.getD a.toNat default >>> (4:UInt8)).toNat:Int)<(([48,49,50,51,52,53,54,55,56,57,97,98,99,100,101,102]:Abk).length:Int)) (AS (0<=((a0.getD a.toNat default &&& (15:UInt8)).toNat:Int)/\((a0.getD a.toNat default &&& (15:UInt8)).toNat:Int)<(([48,49,50,51,52,53,54,55,56,57,97,98,99,100,101,102]:Abk).length:Int)) (AS (Go.E.J3 1 (b.length+([(92:UInt8),(([48,49,50,51,52,53,54,55,56,57,97,98,99,100,101,102]:Abk).getD ((a0.getD a.toNat default >>> (4:UInt8)).toNat:Int).toNat default),(([48,49,50,51,52,53,54,55,56,57,97,98,99,100,101,102]:Abk).getD ((a0.getD a.toNat default &&& (15:UInt8)).toNat:Int).toNat default)]).length)) (AS (B0 (a+1)) (some (Sum.inl ((b++[(92:UInt8),(([48,49,50,51,52,53,54,55,56,57,97,98,99,100,101,102]:Abk).getD ((a0.getD a.toNat default >>> (4:UInt8)).toNat:Int).toNat default),(([48,49,50,51,52,53,54,55,56,57,97,98,99,100,101,102]:Abk).getD ((a0.getD a.toNat default &&& (15:UInt8)).toNat:Int).toNat default)]),(a+1))))))) else AS (Go.E.J3 1 (b.length+([a0.getD a.toNat default]).length)) (AS (B0 (a+1)) (some (Sum.inl ((b++[a0.getD a.toNat default]),(a+1)))))) else Option.map Sum.inr (Hd b)
def IS(a0:Abk)(s:Abk×Int):Option Abk:=Go.L.run (Dk a0) s
def G8(a0:Abk):Option Abk:=
 (IS a0) ([(39:UInt8)],0)
theorem Nn(w:World)(H:PH)(hH:Le H (hp w)){a0:Abk}{p:Value}(ab:AI .byte H p a0){r:Abk}(h:G8 a0=some r):
  Ok prog 65 [p] w (fun v w'=>Ext w w'/\v=(Abj r)):=by
 refine A3 (n:=45) [(0,p)] func65 rfl fun hL=>AD 1 rfl<|Am<|Kt (r:=.byte) (l:=[(39:UInt8)]) rfl (fun _=>EC _ _) rfl (leMax 1) hH hL (.c1 rfl .nil) fun v1 w1 bb bc bm bd=>A4 1 rfl<|Bo (σ:=Abk×Value×(List Value)) (fun⟨o,s,j⟩=>[(3,s)]) (fun⟨o,s,j⟩ wr=>DF w [.row s 5 1 (o).length j] wr fun Oz=>AJ .byte (gz H w wr Oz) o j/\Hd o=some r) ?_ ?_
 ·refine Bi 1 rfl<|Ag (Bu rfl AbF ab) rfl<|A4 1 rfl<|A5 ?_;obtain⟨y,h⟩:=AZ h;refine Bx (σ:=Abk×Int×Value×(List Value)×Nat) (fun⟨e,a,g,f,n⟩=>[(3,g),(7,p),(8,No (a0.length:Int)),(9,No a)]) (fun⟨e,a,g,f,n⟩ wr=>DF w [.row g 5 1 (e).length f] wr fun Oz=>AJ .byte (gz H w wr Oz) e f/\F6 (Dk a0) n (e,a)=some r) (fun⟨e,a,g,f,n⟩=>n) ([(39:UInt8)],0,v1,bb,y) (Sub.of rfl) ⟨bc,bd,h⟩ ?_;rintro⟨e,a,g,f,nn79⟩ bn ⟨k,d,h⟩;obtain⟨y,bv,rfl,h,u⟩:=AY h;refine AD 1 rfl<|A7<|AM rfl h (fun aq h=>?_) (fun aq h=>?_)
  ·refine Av<|Ao<|A7<|A5<|Am<|Az h fun ac h=>Bf rfl rfl AbF LH ab a.toNat (EX ac) (Ba ac) rfl ?_;rintro bw _ rfl ar;refine Ag (Bj rfl Ac5 rfl ar (hH.trans k.arg)) rfl<|A4 1 rfl<|Bi 3 rfl<|MT 2 2 rfl rfl rfl rfl rfl rfl<|As 1 rfl<|MT 2 6 rfl rfl rfl rfl rfl rfl<|As 1 rfl<|MT 2 10 rfl rfl rfl rfl rfl rfl<|Ac<|AM rfl h (fun au h=>?_) (fun au h=>?_)
   ·refine PI (.q 0 (.q 1 (.q 2 (.q 3 (.q 4 (.q 5 (.q 6 (.h 7 (.tail 8))))))))) mixed (by kernel_rfl) (fun bx ad=>?_);have av:=k.call ad;have ah:=AT k ad;refine Df 2 rfl<|BQ (Adi (c:=4) rfl rfl (by decide)) rfl rfl<|Az h fun aw h=>BQ (Dz rfl rfl Ab1 aw) rfl rfl<|Df 1 rfl<|BQ (Ade (b:=15) rfl rfl rfl) rfl rfl<|Az h fun ax h=>BQ (Dz rfl rfl Ab1 ax) rfl rfl<|MD (r:=.byte) (l:=[(92:UInt8),(([48,49,50,51,52,53,54,55,56,57,97,98,99,100,101,102]:Abk).getD ((a0.getD a.toNat default >>> (4:UInt8)).toNat:Int).toNat default),(([48,49,50,51,52,53,54,55,56,57,97,98,99,100,101,102]:Abk).getD ((a0.getD a.toNat default &&& (15:UInt8)).toNat:Int).toNat default)]) rfl rfl (fun _=>UU _ _ _ _) rfl (leMax 3) hH av (.c1 rfl (.c1 rfl (.c1 rfl .nil))) fun bz b0 bo ae ai x=>Cd (fun b1 af=>?_);have ay:=ae.call af;have z:=AT ae af;refine Az h fun az h=>?_;have d:=d.mono (Ab hH (ah.trans (ai.trans z)));have x:=x.mono (Ab hH z)
    refine Bt (r:=.byte) (l:=e) (m:=[(92:UInt8),(([48,49,50,51,52,53,54,55,56,57,97,98,99,100,101,102]:Abk).getD ((a0.getD a.toNat default >>> (4:UInt8)).toNat:Int).toNat default),(([48,49,50,51,52,53,54,55,56,57,97,98,99,100,101,102]:Abk).getD ((a0.getD a.toNat default &&& (15:UInt8)).toNat:Int).toNat default)]) 0 rfl rfl AbF LH rfl (by decide) rfl hH ay rfl d x az fun be b2 a1 a2 bh a3=>As 1 rfl<|AK<|AF<|Ao<|Aw<|Az h fun a4 h=>Ag (A1 rfl a4) rfl<|As 1 rfl<|AK ?_;have h:=BP.again h u;refine AN ((e++[(92:UInt8),(([48,49,50,51,52,53,54,55,56,57,97,98,99,100,101,102]:Abk).getD ((a0.getD a.toNat default >>> (4:UInt8)).toNat:Int).toNat default),(([48,49,50,51,52,53,54,55,56,57,97,98,99,100,101,102]:Abk).getD ((a0.getD a.toNat default &&& (15:UInt8)).toNat:Int).toNat default)]),(a+1),be,a1,y) (Sub.of rfl) ⟨a2,a3,h⟩ (Nat.lt_succ_self _)
   refine Aw<|As 2 rfl<|Bp (r:=.byte) (l:=[a0.getD a.toNat default]) rfl (fun _=>EC _ _) rfl (leMax 1) hH k (.c1 rfl .nil) fun b3 b4 bp a5 aj a6=>Az h fun ak h=>?_;have d:=d.mono (Ab hH aj);refine Bt (r:=.byte) (l:=e) (m:=[a0.getD a.toNat default]) 0 rfl rfl AbF LH rfl (by decide) rfl hH a5 rfl d a6 ak fun bf b5 a7 a8 bi a9=>As 1 rfl<|AK<|AF<|Ao<|Aw<|Az h fun al h=>Ag (A1 rfl al) rfl<|As 1 rfl<|AK ?_;have h:=BP.again h u;refine AN ((e++[a0.getD a.toNat default]),(a+1),bf,a7,y) (Sub.of rfl) ⟨a8,a9,h⟩ (Nat.lt_succ_self _)
  refine Br<|AG<|A6 ?_;have h:=BP.out h u;refine Be<|A8 (e,g,f) (Sub.of rfl) ⟨k,d,h⟩
 rintro⟨o,s,j⟩ bq ⟨ba,t,h⟩;refine Bi 1 rfl<|Bp (r:=.byte) (l:=[(39:UInt8)]) rfl (fun _=>EC _ _) rfl (leMax 1) hH ba (.c1 rfl .nil) fun br bs bj am ag an=>Az h fun ao h=>?_;have t:=t.mono (Ab hH ag);refine Bt (r:=.byte) (l:=o) (m:=[(39:UInt8)]) 0 rfl rfl AbF LH rfl (by decide) rfl hH am rfl t an ao fun bt bu bk aa bg ap=>Ag (KJ rfl AbF Ac5 Ab1 (aa.UD hH (i:=0) rfl ap) (Le.refl _)) rfl<|A4 1 rfl<|Ax ?_
 cases h
 refine Ak rfl ⟨aa.ext,rfl⟩
def Gz(a0:Go.L.Qv)(a:(List Abk))(b:Abk):Option (Go.L.Qv):=
 some ((Go.L.Qv.mk a0.f.1 a a0.f.2.2.1 b a0.f.2.2.2.2.1 a0.f.2.2.2.2.2.1 ([])))
def FY(a0:Go.L.Qv)(b:(List Abk))(c:Abk):Int->Option ((Int) ⊕ (Go.L.Qv)):=fun a=>
 if a<(a0.f.2.2.2.2.2.2.length:Int) then AS (0<=a/\a<(a0.f.2.2.2.2.2.2.length:Int)) none else Option.map Sum.inr ((Gz a0 b c))
def I1(a0:Go.L.Qv)(a:(List Abk))(b:Abk)(s:Int):Option (Go.L.Qv):=Go.L.run (FY a0 a b) s
def G0(_self:Go.L.Qv->Option (Go.L.Qv))(a0:Go.L.Qv):Option (Go.L.Qv):=
 Option.bind (DN a0.f.2.1) (fun a=>Option.bind (DM a0.f.2.2.2.1) (fun b=>(I1 a0 a b) (0:Int)))
def Kk(self:Go.L.Qv->Option (Go.L.Qv)):Prop:=∀ (w:World) (H:PH) (hH:Le H (hp w)) {a0:Go.L.Qv} {a:Value} {b:Value} {c:Value} (i:AI .st H a (a0.f.2.1)) (j:AI .byte H b (a0.f.2.2.2.1)) (k:AI .Bg H c (a0.f.2.2.2.2.2.2)) {r:Go.L.Qv} (h:self a0=some r),Ok prog 96 [.agg #[No a0.f.1,a,Abj a0.f.2.2.1,b,No a0.f.2.2.2.2.1,No a0.f.2.2.2.2.2.1,c]] w (fun v w'=>Ext w w'/\∃ d e g,v=.agg #[No r.f.1,d,Abj r.f.2.2.1,e,No r.f.2.2.2.2.1,No r.f.2.2.2.2.2.1,g]/\AI .st (un H (nw w w')) d (r.f.2.1)/\AI .byte (un H (nw w w')) e (r.f.2.2.2.1)/\BN 26 .Bg H w w' g (r.f.2.2.2.2.2.2))
def He:Nat->Go.L.Qv->Option (Go.L.Qv)
 | 0=>fun _=>none
 | n+1=>G0 (He n)
def Kl:Go.L.Qv->Option (Go.L.Qv):=He 1000
theorem OI(self:Go.L.Qv->Option (Go.L.Qv))(_hself:Kk self):Kk (G0 self):=by
 intro w H hH a0 a1 a2 ad a3 a4 ae r h;refine A3 (n:=32) [(0,.agg #[No a0.f.1,a1,Abj a0.f.2.2.1,a2,No a0.f.2.2.2.2.1,No a0.f.2.2.2.2.2.1,ad])] func96 rfl fun hL=>Am<|CY (t:=26) rfl rfl rfl hL fun w1 b1 bc bi _=>AH AO rfl rfl bc fun w2 b2 bd bj _=>Ac<|DD (.q 0 (.q 1 (.q 3 (.q 4 (.h 2 (.q 6 (.h 5 (.tail 7)))))))) mixed (by kernel_rfl) (fun w3 be=>?_);have u:=bd.call be;refine BQ (Ae rfl AcF rfl IW) rfl rfl<|BQ (Af 1 rfl Ac7 rfl u rfl) rfl rfl<|BQ (Ae rfl AcF rfl F7) rfl rfl<|BQ (Af 1 rfl AbF rfl u rfl) rfl rfl<|Ay h fun x5 bf h=>Cs rfl rfl rfl (fun w7 af=>KQ _ _ (Ar hH (u.call af)) (a3.mono (Aj hH)) bf) ?_;rintro w7 l w6 af ag ⟨_,rfl,av⟩;have ah:=u.call af;have ai:=ah.call ag;have bl:=AT ah ag;have a:=av.Cz hH ah ag;refine BQ (Ae rfl AcF rfl IW) rfl rfl<|Ay h fun x9 bg h=>Cs rfl rfl rfl (fun bh m=>IV _ _ (Ar hH (ai.call m)) (a4.mono (Aj hH)) bg) ?_;rintro bh k bp m o ⟨_,rfl,aj⟩;have p:=ai.call m;have ax:=AT ai m;have a:=a.mono (Ab hH ax)
 have ak:=p.call o;have ay:=AT p o;have b:=aj.Cz hH p o;have a:=a.mono (Ab hH ay);refine Cd (fun bq al=>?_);have a5:=ak.call al;have v:=AT ak al;have a:=a.mono (Ab hH v);have b:=b.mono (Ab hH v);refine Bm 1 rfl rfl a.one IW a5 rfl rfl ?_;intro br a6 x;have a:=a.mono (Ab hH x);have b:=b.mono (Ab hH x);refine Ag (Ae rfl AcF rfl F7) rfl<|Bm 1 rfl rfl b.one F7 a6 rfl rfl ?_;intro bs am y;have a:=a.mono (Ab hH y);have b:=b.mono (Ab hH y);refine Ac<|Am<|Ag (Ae rfl AcF rfl G5) rfl<|Ag (Af 1 rfl Afy rfl am rfl) rfl<|A4 1 rfl<|Am<|Ag (Ae rfl AcF rfl G5) rfl<|Bm 1 rfl rfl rfl G5 am rfl rfl ?_;intro bt a7 z;have a:=a.mono (Ab hH z);have b:=b.mono (Ab hH z);refine Ac ?_
 refine Bo (σ:=Unit) (fun(_:Unit)=>[(1,(Abi b1)),(2,(Abi b2))]) (fun(_:Unit) wr=>DF w [.box b2 Abl 26,.box b1 [No a0.f.1,l,Abj a0.f.2.2.1,k,No a0.f.2.2.2.2.1,No a0.f.2.2.2.2.2.1,Aa8] 26] wr fun Oz=>AI .st (gz H w wr Oz) l x5/\AI .byte (gz H w wr Oz) k x9/\(Gz a0 x5 x9)=some r) ?_ ?_
 ·refine Bi 1 rfl<|Ag (Bu rfl Afy ae) rfl<|A4 1 rfl<|A5 ?_;obtain⟨az,h⟩:=AZ h;refine Bx (σ:=Int×Nat) (fun⟨c,n⟩=>[(1,(Abi b1)),(2,(Abi b2)),(17,ad),(18,No (a0.f.2.2.2.2.2.2.length:Int)),(19,No c)]) (fun⟨c,n⟩ wr=>DF w [.box b2 Abl 26,.box b1 [No a0.f.1,l,Abj a0.f.2.2.1,k,No a0.f.2.2.2.2.1,No a0.f.2.2.2.2.2.1,Aa8] 26] wr fun Oz=>AI .st (gz H w wr Oz) l x5/\AI .byte (gz H w wr Oz) k x9/\F6 (FY a0 x5 x9) n c=some r) (fun⟨c,n⟩=>n) (0,az) (Sub.of rfl) ⟨a7,a,b,h⟩ ?_;rintro⟨c,nn47⟩ bm ⟨s,d,e,h⟩;obtain⟨az,bu,rfl,h,a8⟩:=AY h;refine AD 1 rfl<|A7<|AM rfl h (fun a9 h=>?_) (fun a9 h=>?_)
  ·refine Av<|Ao<|A7<|A5<|Am<|Az h fun an h=>Bf rfl rfl Afy AO ae c.toNat (EX an) (Ba an) rfl ?_;rintro bv _ e51t0 ba;obtain⟨_,_,rfl,rfl,⟨_,_,rfl,⟨e51v1,rfl,e51h1⟩,⟨_,_,rfl,rfl,⟨_,_,rfl,⟨e51v3,rfl,e51h3⟩,⟨_,_,rfl,rfl,⟨_,_,rfl,rfl,⟨e51v6,rfl,e51h6⟩⟩⟩⟩⟩⟩⟩:=Go.E.Rp.Dh e51t0;refine Ag (C9 rfl AcF rfl AO ba (hH.trans s.arg)) rfl<|AH AO rfl rfl s ?_;intro bw bx bb aa _;have d:=d.mono (Ab hH aa);have e:=e.mono (Ab hH aa);refine Ah 0 rfl AO bb rfl (AU rfl (AU e51h1.one (AU rfl (AU e51h3.one (AU rfl (AU rfl (AU e51h6.one Hj))))))) ?_;intro bz bn ab;have d:=d.mono (Ab hH ab);have e:=e.mono (Ab hH ab);refine Ac ?_
   cases h
  refine Br<|AG<|A6 ?_;have h:=BP.out h a8;refine Be<|A8 () (Sub.of rfl) ⟨s,d,e,h⟩
 rintro _ bo ⟨ao,g,j,h⟩;refine Am<|Ag (AE 1 rfl AcF rfl AO ao rfl) rfl<|Ah 0 rfl AO ao rfl (AU rfl (AU g.one (AU rfl (AU j.one (Bc rfl))))) ?_;intro b0 ap ac;have g:=g.mono (Ab hH ac);have j:=j.mono (Ab hH ac);refine Ac<|Ax ?_
 cases h
 refine BH rfl (.cell rfl AcF rfl AO (AL (i:=0) ap rfl)) ⟨ap.ext,_,_,_,rfl,(g.mono (B5 hH)),(j.mono (B5 hH)),BN.nil⟩
theorem Q5(n:Nat):Kk (He n):=by
 induction n with
 | zero=>unfold Kk;intros;rename_i h;cases h
 | succ n ih=>exact OI (He n) ih
theorem NS(w:World)(H:PH)(hH:Le H (hp w)){a0:Go.L.Qv}{a b c:Value}(d:AI .st H a (a0.f.2.1))(e:AI .byte H b (a0.f.2.2.2.1))(g:AI .Bg H c (a0.f.2.2.2.2.2.2)){r:Go.L.Qv}(h:Kl a0=some r):Ok prog 96 [.agg #[No a0.f.1,a,Abj a0.f.2.2.1,b,No a0.f.2.2.2.2.1,No a0.f.2.2.2.2.2.1,c]] w (fun v w'=>Ext w w'/\∃ i j k,v=.agg #[No r.f.1,i,Abj r.f.2.2.1,j,No r.f.2.2.2.2.1,No r.f.2.2.2.2.2.1,k]/\AI .st (un H (nw w w')) i (r.f.2.1)/\AI .byte (un H (nw w w')) j (r.f.2.2.2.1)/\BN 26 .Bg H w w' k (r.f.2.2.2.2.2.2)):=Q5 1000 w H hH d e g h
def FZ(a:Int)(b:List Go.L.Qv):Option (Go.L.Qv):=
 some ((Go.L.Qv.mk a ([]) ([]:Abk) ([]) (0:Int) (0:Int) b))
def Fx(a0:Go.L.Qv)(a1:Bool)(d:Int)(self:Go.L.Qv->Bool->Option (Go.L.Qv)):(List Go.L.Qv)×Int->Option (((List Go.L.Qv)×Int) ⊕ (Go.L.Qv)):=fun⟨b,a⟩=>
 if a<(a0.f.2.2.2.2.2.2.length:Int) then AS (0<=a/\a<(a0.f.2.2.2.2.2.2.length:Int)) (Option.bind (self (a0.f.2.2.2.2.2.2.getD a.toNat default) a1) (fun c=>if c.f.1=d then none else AS (Go.E.J3 112 (b.length+([c]).length)) (AS (B0 (a+1)) (some (Sum.inl ((b++[c]),(a+1))))))) else Option.map Sum.inr ((FZ d) b)
def HU(a0:Go.L.Qv)(a1:Bool)(a:Int)(self:Go.L.Qv->Bool->Option (Go.L.Qv))(s:(List Go.L.Qv)×Int):Option (Go.L.Qv):=Go.L.run (Fx a0 a1 a self) s
def Eh(a0:Go.L.Qv)(a1:Bool)(self:Go.L.Qv->Bool->Option (Go.L.Qv))(a:Int):Option (Go.L.Qv):=
 (HU a0 a1 a self) (([]:List Go.L.Qv),0)
def FP(self:Go.L.Qv->Bool->Option (Go.L.Qv))(a0:Go.L.Qv)(a1:Bool):Option (Go.L.Qv):=
 if a0.f.1=10 then AS (0<=(0:Int)/\(0:Int)<(a0.f.2.2.2.2.2.2.length:Int)) (Option.bind (self (a0.f.2.2.2.2.2.2.getD ((0:Int).toNat) default) (!a1)) (fun e=>some e)) else Option.bind (HP a0.f.1) (fun a=>if(bif a then !a1 else false) then Option.bind (Kl a0) (fun b=>some b) else Option.bind (HP a0.f.1) (fun c=>if c then Option.bind (Kl a0) (fun d=>some ((Go.L.Qv.mk (10:Int) ([]) ([]:Abk) ([]) (0:Int) (0:Int) ([d])))) else(if a1 then AS (B0 (17 - a0.f.1)) ((Eh a0 a1 self) (17 - a0.f.1)) else(Eh a0 a1 self) a0.f.1)))
def HI(self:Go.L.Qv->Bool->Option (Go.L.Qv)):Prop:=∀ (w:World) (H:PH) (hH:Le H (hp w)) {a0:Go.L.Qv} {a1:Bool} {a:Value} {b:Value} {c:Value} (i:AI .st H a (a0.f.2.1)) (j:AI .byte H b (a0.f.2.2.2.1)) (k:AI .Bg H c (a0.f.2.2.2.2.2.2)) {r:Go.L.Qv} (h:self a0 a1=some r),Ok prog 58 [.agg #[No a0.f.1,a,Abj a0.f.2.2.1,b,No a0.f.2.2.2.2.1,No a0.f.2.2.2.2.2.1,c],.bool a1] w (fun v w'=>Ext w w'/\∃ d e g,v=.agg #[No r.f.1,d,Abj r.f.2.2.1,e,No r.f.2.2.2.2.1,No r.f.2.2.2.2.2.1,g]/\AI .st (un H (nw w w')) d (r.f.2.1)/\AI .byte (un H (nw w w')) e (r.f.2.2.2.1)/\AI .Bg (un H (nw w w')) g (r.f.2.2.2.2.2.2))
def Gi:Nat->Go.L.Qv->Bool->Option (Go.L.Qv)
 | 0=>fun _ _=>none
 | n+1=>FP (Gi n)
def KC:Go.L.Qv->Bool->Option (Go.L.Qv):=Gi 1000
theorem Ob(self:Go.L.Qv->Bool->Option (Go.L.Qv))(hself:HI self):HI (FP self):=by
 intro w H hH a0 a1 au av an bl bm ao r h;unfold HI at hself;refine A3 (n:=75) [(0,.agg #[No a0.f.1,au,Abj a0.f.2.2.1,av,No a0.f.2.2.2.2.1,No a0.f.2.2.2.2.2.1,an]),(1,.bool a1)] func58 rfl fun hL=>Am<|CY (t:=26) rfl rfl rfl hL fun w1 b1 c5 dw _=>AH AO rfl rfl c5 fun w2 b2 q dx _=>Ac<|A7<|A5<|Am<|Ag (Ae rfl AcF rfl Cj) rfl<|Ag (Af 1 rfl Abn rfl q rfl) rfl<|A4 2 rfl<|AM rfl h (fun c6 h=>?_) (fun c6 h=>?_)
 ·refine Am<|Ag (Ae rfl AcF rfl G5) rfl<|Ag (Af 1 rfl Afy rfl q rfl) rfl<|Az h fun cp h=>Bf rfl rfl Afy AO ao ((0:Int).toNat) (EX cp) (Ba cp) rfl ?_;rintro p5 _ e5t0 c8;obtain⟨_,_,rfl,rfl,⟨_,_,rfl,⟨e5v1,rfl,e5h1⟩,⟨_,_,rfl,rfl,⟨_,_,rfl,⟨e5v3,rfl,e5h3⟩,⟨_,_,rfl,rfl,⟨_,_,rfl,rfl,⟨e5v6,rfl,e5h6⟩⟩⟩⟩⟩⟩⟩:=Go.E.Rp.Dh e5t0;refine Ag (C9 rfl AcF rfl AO c8 (hH.trans q.arg)) rfl<|As 2 rfl<|Ay h fun x7 c9 h=>Bn rfl rfl q (hself _ _ (Ar hH q) (e5h1.mono (Aj hH)) (e5h3.mono (Aj hH)) (e5h6.mono (Aj hH)) c9) ?_;rintro _ w8 ⟨dy,dz,d0,rfl,b6,b7,b8⟩ bn da d1;have ai:=b6.mono (Cm hH q bn);have aj:=b7.mono (Cm hH q bn);have ak:=b8.mono (Cm hH q bn);refine Ah 0 rfl AO da rfl (AU rfl (AU ai.one (AU rfl (AU aj.one (AU rfl (AU rfl (AU ak.one Hj))))))) ?_;intro w9 cq a7;have ai:=ai.mono (Ab hH a7);have aj:=aj.mono (Ab hH a7);have ak:=ak.mono (Ab hH a7);refine Ac<|Ax<|Aq<|An ?_
  cases h
  refine BH rfl (.cell rfl AcF rfl AO (AL (i:=0) cq rfl)) ⟨cq.ext,_,_,_,rfl,(ai.mono (B5 hH)),(aj.mono (B5 hH)),(ak.mono (B5 hH))⟩
 refine Am<|Ag (Ae rfl AcF rfl Cj) rfl<|Ag (Af 1 rfl Abn rfl q rfl) rfl<|Ay h fun el cr h=>AA rfl rfl q (K0 _ _ (Ar hH q) cr) fun em d2 k dg=>As 1 rfl<|U6 2 3 rfl rfl rfl rfl rfl rfl rfl<|A4 1 rfl<|Bb rfl h (fun cs h=>?_) (fun cs h=>?_)
 ·refine Am<|Ag (AE 1 rfl AcF rfl AO k rfl) rfl<|Ay h fun en ct h=>Bn rfl rfl k (NS (a0:=a0) _ _ (Ar hH k) (bl.mono (Aj hH)) (bm.mono (Aj hH)) (ao.mono (Aj hH)) ct) ?_;rintro _ eo ⟨dh,di,dj,rfl,bo,bp,bq⟩ a8 cu dk;have ab:=bo.mono (Cm hH k a8);have ac:=bp.mono (Cm hH k a8);have ad:=bq.Cz hH k a8;refine Ah 0 rfl AO cu rfl (AU rfl (AU ab.one (AU rfl (AU ac.one (AU rfl (AU rfl (AU ad.one Hj))))))) ?_;intro ep br aw;have ab:=ab.mono (Ab hH aw);have ac:=ac.mono (Ab hH aw);have ad:=ad.mono (Ab hH aw);refine Ac<|Ax<|Aq<|An ?_
  cases h
  refine BH rfl (.cell rfl AcF rfl AO (AL (i:=0) br rfl)) ⟨br.ext,_,_,_,rfl,(ab.mono (B5 hH)),(ac.mono (B5 hH)),(ad.mono (B5 hH))⟩
 refine Am<|Ag (Ae rfl AcF rfl Cj) rfl<|Ag (Af 1 rfl Abn rfl k rfl) rfl<|Ay h fun eq cv h=>AA rfl rfl k (K0 _ _ (Ar hH k) cv) fun er d3 s dl=>A4 1 rfl<|Bb rfl h (fun cw h=>?_) (fun cw h=>?_)
 ·refine Am<|Ag (AE 1 rfl AcF rfl AO s rfl) rfl<|Ay h fun db cx h=>Bn rfl rfl s (NS (a0:=a0) _ _ (Ar hH s) (bl.mono (Aj hH)) (bm.mono (Aj hH)) (ao.mono (Aj hH)) cx) ?_;rintro _ es ⟨dm,dn,dp,rfl,bs,bt,bu⟩ a9 cy dq;have u:=bs.mono (Cm hH s a9);have v:=bt.mono (Cm hH s a9);have x:=bu.Cz hH s a9;refine Bp (r:=.Bg) (l:=[db]) rfl (fun _=>K5 _ _ _ _ _ _ _ _) rfl (leMax 1) hH cy (.c7 (Go.E.Rp.F4 ⟨_,_,rfl,rfl,⟨_,_,rfl,⟨_,rfl,u⟩,⟨_,_,rfl,rfl,⟨_,_,rfl,⟨_,rfl,v⟩,⟨_,_,rfl,rfl,⟨_,_,rfl,rfl,⟨_,rfl,x⟩⟩⟩⟩⟩⟩⟩) .nil) ?_;intro et eu d4 cz ax ap;have u:=u.mono (Ab hH ax);have v:=v.mono (Ab hH ax);have x:=x.mono (Ab hH ax);refine Ag (AR rfl (fun _=>L5 _ _ ap.one _)) rfl<|Ah 0 rfl AO cz rfl (AU rfl (AU rfl (AU rfl (AU rfl (AU rfl (AU rfl (AU ap.one Hj))))))) ?_;intro ev bv al;have u:=u.mono (Ab hH al);have v:=v.mono (Ab hH al);have x:=x.mono (Ab hH al);have ap:=ap.mono (Ab hH al);refine Ac<|Ax<|Aq<|An ?_
  cases h
  refine BH rfl (.cell rfl AcF rfl AO (AL (i:=0) bv rfl)) ⟨bv.ext,_,_,_,rfl,(AI.nil _ _),(AI.nil _ _),(ap.mono (B5 hH))⟩
 refine Av<|AF<|Ao<|Am<|Ag (Ae rfl AcF rfl Cj) rfl<|Ag (Af 1 rfl Abn rfl s rfl) rfl<|Ag (AR rfl (fun _=>UR _ _)) rfl<|AH AO rfl rfl s fun ew ar c0 dr _=>Ah 0 rfl AO c0 rfl (Bc rfl) fun ex ba ds=>Ac<|Bo (σ:=Int) (fun ah=>[(1,.bool a1),(2,(Abi b1)),(4,(Abi b2)),(5,(Abi ar))]) (fun ah wr=>Bd w [.box ar [No ah,Aa8,(Abj []),Aa8,No 0,No 0,Aa8] 26,.box b2 Abl 26,.box b1 [No a0.f.1,au,Abj a0.f.2.2.1,av,No a0.f.2.2.2.2.1,No a0.f.2.2.2.2.2.1,an] 26] wr/\(Eh a0 a1 self) ah=some r) ?_ ?_
 ·refine AD 1 rfl<|Bb rfl h (fun c1 h=>?_) (fun c1 h=>?_)
  ·refine Aw<|Ag (Ae rfl AcF rfl Cj) rfl<|Ag (Af 2 rfl Abn rfl ba rfl) rfl<|Az h fun c2 h=>Ag (A1 rfl c2) rfl<|Ag (Ae rfl AcF rfl Cj) rfl<|Bm 0 rfl rfl rfl Cj ba rfl rfl fun ey c3 dt=>AK<|A8 (17 - a0.f.1) (Sub.of rfl) ⟨c3,h⟩
  refine Av<|A8 a0.f.1 (Sub.of rfl) ⟨ba,h⟩
 rintro ah d5 ⟨bw,h⟩;refine Bo (σ:=(List Go.L.Qv)×Value×(List Value)) (fun⟨a5,ay,am⟩=>[(4,(Abi b2)),(5,(Abi ar))]) (fun⟨a5,ay,am⟩ wr=>DF w [.row ay 26 7 (a5).length am,.box ar [No ah,Aa8,(Abj []),Aa8,No 0,No 0,ay] 26,.box b2 Abl 26,.box b1 [No a0.f.1,au,Abj a0.f.2.2.1,av,No a0.f.2.2.2.2.1,No a0.f.2.2.2.2.2.1,an] 26] wr fun Oz=>AJ .Bg (gz H w wr Oz) a5 am/\(FZ ah) a5=some r) ?_ ?_
 ·refine Am<|Ag (Ae rfl AcF rfl G5) rfl<|Ag (Af 2 rfl Afy rfl bw rfl) rfl<|Ag (Bu rfl Afy ao) rfl<|A4 1 rfl<|A5 ?_;obtain⟨b9,dc,ca⟩:=C0 .Bg H 26 bw;obtain⟨bb,h⟩:=AZ h;refine Bx (σ:=(List Go.L.Qv)×Int×Value×(List Value)×Nat) (fun⟨o,c,y,j,n⟩=>[(1,.bool a1),(4,(Abi b2)),(5,(Abi ar)),(47,an),(48,No (a0.f.2.2.2.2.2.2.length:Int)),(49,No c)]) (fun⟨o,c,y,j,n⟩ wr=>DF w [.row y 26 7 (o).length j,.box ar [No ah,Aa8,(Abj []),Aa8,No 0,No 0,y] 26,.box b2 Abl 26,.box b1 [No a0.f.1,au,Abj a0.f.2.2.1,av,No a0.f.2.2.2.2.1,No a0.f.2.2.2.2.2.1,an] 26] wr fun Oz=>AJ .Bg (gz H w wr Oz) o j/\F6 (Fx a0 a1 ah self) n (o,c)=some r) (fun⟨o,c,y,j,n⟩=>n) (([]:List Go.L.Qv),0,Aa8,[],bb) (Sub.of rfl) ⟨b9,ca,h⟩ ?_;rintro⟨o,c,y,j,nn121⟩ du ⟨az,a,h⟩
  obtain⟨bb,d6,rfl,h,be⟩:=AY h;refine AD 1 rfl<|A7<|AM rfl h (fun cb h=>?_) (fun cb h=>?_)
  ·refine Av<|Ao<|A7<|A5<|Am<|Az h fun bf h=>Bf rfl rfl Afy AO ao c.toNat (EX bf) (Ba bf) rfl ?_;rintro d7 _ e126t0 cc;obtain⟨_,_,rfl,rfl,⟨_,_,rfl,⟨e126v1,rfl,e126h1⟩,⟨_,_,rfl,rfl,⟨_,_,rfl,⟨e126v3,rfl,e126h3⟩,⟨_,_,rfl,rfl,⟨_,_,rfl,rfl,⟨e126v6,rfl,e126h6⟩⟩⟩⟩⟩⟩⟩:=Go.E.Rp.Dh e126t0;refine Ag (C9 rfl AcF rfl AO cc (hH.trans az.arg)) rfl<|AH AO rfl rfl az ?_;intro d8 d9 cd bx _;have a:=a.mono (Ab hH bx);refine Ah 0 rfl AO cd rfl (AU rfl (AU e126h1.one (AU rfl (AU e126h3.one (AU rfl (AU rfl (AU e126h6.one Hj))))))) ?_;intro ea z bz;have a:=a.mono (Ab hH bz);refine Ac<|Am<|Ag (AE 0 rfl AcF rfl AO z rfl) rfl<|As 1 rfl<|Ay h fun bc ce h=>Bn rfl rfl z (hself _ _ (Ar hH z) (e126h1.mono (Aj hH)) (e126h3.mono (Aj hH)) (e126h6.mono (Aj hH)) ce) ?_;rintro _ eb ⟨dd,de,df,rfl,bi,bj,bk⟩ a2 cf b0;have d:=bi.mono (Cm hH z a2);have e:=bj.mono (Cm hH z a2);have g:=bk.mono (Cm hH z a2);have a:=a.mono (Ab hH b0)
   refine AH AO rfl rfl cf ?_;intro ec ed cg ae _;have a:=a.mono (Ab hH ae);have d:=d.mono (Ab hH ae);have e:=e.mono (Ab hH ae);have g:=g.mono (Ab hH ae);refine Ah 0 rfl AO cg rfl (AU rfl (AU d.one (AU rfl (AU e.one (AU rfl (AU rfl (AU g.one Hj))))))) ?_;intro ee aa af;have a:=a.mono (Ab hH af);have d:=d.mono (Ab hH af);have e:=e.mono (Ab hH af);have g:=g.mono (Ab hH af);refine Ac ?_;have b:=aa.rG H;refine Am<|Ag (Ae rfl AcF rfl Cj) rfl<|Ag (Af 0 rfl Abn rfl aa rfl) rfl<|Ag (Ae rfl AcF rfl Cj) rfl<|Ag (Af 3 rfl Abn rfl aa rfl) rfl<|A4 1 rfl<|AM rfl h (fun ch h=>?_) (fun ch h=>?_)
   ·cases h
   refine Aw<|Ag (Ae rfl AcF rfl G5) rfl<|Ag (Af 3 rfl Afy rfl aa rfl) rfl<|Ag (AE 0 rfl AcF rfl AO aa rfl) rfl<|Bp (r:=.Bg) (l:=[bc]) rfl (fun _=>K5 _ _ _ _ _ _ _ _) rfl (leMax 1) hH aa (.c7 (Go.E.Rp.F4 ⟨_,_,rfl,rfl,⟨_,_,rfl,⟨_,rfl,(d.mono b)⟩,⟨_,_,rfl,rfl,⟨_,_,rfl,⟨_,rfl,(e.mono b)⟩,⟨_,_,rfl,rfl,⟨_,_,rfl,rfl,⟨_,rfl,(g.mono b)⟩⟩⟩⟩⟩⟩⟩) .nil) ?_;intro ef eg dv ci b3 ag;have b:=b.trans (Ab hH b3);refine Az h fun cj h=>Bt (r:=.Bg) (l:=o) (m:=[bc]) 2 rfl rfl Afy AO rfl (by decide) rfl hH ci rfl (a.mono b) ag cj ?_;intro c4 eh ck bg a6 p;have ag:=ag.mono (Ab hH a6);have b:=b.trans (Ab hH a6);refine Ag (Ae rfl AcF rfl G5) rfl<|Bm 3 rfl rfl (row_one (bg.at (i:=2) rfl)) G5 bg rfl rfl ?_;intro ei cl aq;have ag:=ag.mono (Ab hH aq);have p:=p.mono (Ab hH aq);have b:=b.trans (Ab hH aq);refine AK<|AF<|Ao<|Aw<|Az h fun cm h=>Ag (A1 rfl cm) rfl<|As 1 rfl<|AK ?_;have cn:=cl.AQ (i:=0) rfl
   have p:=p.mono (Ab hH (Au (i:=0) rfl));have b:=b.trans (Ab hH (Au (i:=0) rfl));have co:=cn.AQ (i:=0) rfl;have p:=p.mono (Ab hH (Au (i:=0) rfl));have b:=b.trans (Ab hH (Au (i:=0) rfl));have h:=BP.again h be;refine AN ((o++[bc]),(c+1),c4,ck,bb) (Sub.of rfl) ⟨co,p,h⟩ (Nat.lt_succ_self _)
  refine Br<|AG<|A6 ?_;have h:=BP.out h be;refine Be<|A8 (o,y,j) (Sub.of rfl) ⟨az,a,h⟩
 rintro⟨a5,ay,am⟩ ej ⟨bd,a3,h⟩;refine Am<|Ag (AE 1 rfl AcF rfl AO bd rfl) rfl<|Ah 2 rfl AO bd rfl (AU rfl (AU rfl (AU rfl (AU rfl (AU rfl (AU rfl (AU (row_one (bd.at (i:=0) rfl)) Hj))))))) ?_;intro ek a4 b4;have a3:=a3.mono (Ab hH b4);refine Ac<|Ax ?_
 cases h
 refine BH rfl (.cell rfl AcF rfl AO (AL (i:=2) a4 rfl)) ⟨a4.ext,_,_,_,rfl,(AI.nil _ _),(AI.nil _ _),((a4.Ge hH (i:=0) rfl a3).vec hH)⟩
theorem PW(n:Nat):HI (Gi n):=by
 induction n with
 | zero=>unfold HI;intros;rename_i h;cases h
 | succ n ih=>exact Ob (Gi n) ih
theorem Re(w:World)(H:PH)(hH:Le H (hp w)){a0:Go.L.Qv}{a1:Bool}{a b c:Value}(d:AI .st H a (a0.f.2.1))(e:AI .byte H b (a0.f.2.2.2.1))(g:AI .Bg H c (a0.f.2.2.2.2.2.2)){r:Go.L.Qv}(h:KC a0 a1=some r):Ok prog 58 [.agg #[No a0.f.1,a,Abj a0.f.2.2.1,b,No a0.f.2.2.2.2.1,No a0.f.2.2.2.2.2.1,c],.bool a1] w (fun v w'=>Ext w w'/\∃ i j k,v=.agg #[No r.f.1,i,Abj r.f.2.2.1,j,No r.f.2.2.2.2.1,No r.f.2.2.2.2.2.1,k]/\AI .st (un H (nw w w')) i (r.f.2.1)/\AI .byte (un H (nw w w')) j (r.f.2.2.2.1)/\AI .Bg (un H (nw w w')) k (r.f.2.2.2.2.2.2)):=PW 1000 w H hH d e g h
def Em(_self1:Go.L.Qv->Option Abk)(self2:(List Go.L.Qv)->Abk->(List Int)->Option Abk)(a0:Go.L.Qv):Option Abk:=
 if a0.f.1=1 then AS (0<=(0:Int)/\(0:Int)<(a0.f.2.1.length:Int)) (some (a0.f.2.1.getD ((0:Int).toNat) default)) else(if a0.f.1=2 then Option.bind (R6 a0.f.2.1 ([32]:Abk)) (fun g=>AS (([34]:Abk).length+g.length<=9223372036854775807) (AS ((([34]:Abk)++g).length+([34]:Abk).length<=9223372036854775807) (some (((([34]:Abk)++g)++([34]:Abk)))))) else(if a0.f.1=3 then AS (0<=(0:Int)/\(0:Int)<(a0.f.2.1.length:Int)) (AS ((a0.f.2.1.getD ((0:Int).toNat) default).length+([126]:Abk).length<=9223372036854775807) (Option.bind (Q0 a0.f.2.2.2.2.1) (fun a=>AS ((a0.f.2.1.getD ((0:Int).toNat) default++([126]:Abk)).length+a.length<=9223372036854775807) (AS (((a0.f.2.1.getD ((0:Int).toNat) default++([126]:Abk))++a).length+([126]:Abk).length<=9223372036854775807) (AS (0<=(1:Int)/\(1:Int)<(a0.f.2.1.length:Int)) (AS ((((a0.f.2.1.getD ((0:Int).toNat) default++([126]:Abk))++a)++([126]:Abk)).length+(a0.f.2.1.getD ((1:Int).toNat) default).length<=9223372036854775807) (some (((((a0.f.2.1.getD ((0:Int).toNat) default++([126]:Abk))++a)++([126]:Abk))++a0.f.2.1.getD ((1:Int).toNat) default))))))))) else(if a0.f.1=4 then Option.bind (G8 a0.f.2.2.2.1) (fun h=>some h) else(if a0.f.1=5 then AS (([47]:Abk).length+a0.f.2.2.1.length<=9223372036854775807) (some ((([47]:Abk)++a0.f.2.2.1))) else(if a0.f.1=6 then AS (([47]:Abk).length+a0.f.2.2.1.length<=9223372036854775807) (AS ((([47]:Abk)++a0.f.2.2.1).length+([61]:Abk).length<=9223372036854775807) (Option.bind (Q0 a0.f.2.2.2.2.1) (fun b=>AS (((([47]:Abk)++a0.f.2.2.1)++([61]:Abk)).length+b.length<=9223372036854775807) (AS ((((([47]:Abk)++a0.f.2.2.1)++([61]:Abk))++b).length+([46,46]:Abk).length<=9223372036854775807) (Option.bind (Q0 a0.f.2.2.2.2.2.1) (fun c=>AS (((((([47]:Abk)++a0.f.2.2.1)++([61]:Abk))++b)++([46,46]:Abk)).length+c.length<=9223372036854775807) (some ((((((([47]:Abk)++a0.f.2.2.1)++([61]:Abk))++b)++([46,46]:Abk))++c))))))))) else(if a0.f.1=7 then AS (([47]:Abk).length+a0.f.2.2.1.length<=9223372036854775807) (AS ((([47]:Abk)++a0.f.2.2.1).length+([61]:Abk).length<=9223372036854775807) (Option.bind (G8 a0.f.2.2.2.1) (fun d=>AS (((([47]:Abk)++a0.f.2.2.1)++([61]:Abk)).length+d.length<=9223372036854775807) (some ((((([47]:Abk)++a0.f.2.2.1)++([61]:Abk))++d)))))) else(if a0.f.1=8 then Option.bind (self2 a0.f.2.2.2.2.2.2 ([38]:Abk) ([9])) (fun i=>some i) else(if a0.f.1=9 then Option.bind (self2 a0.f.2.2.2.2.2.2 ([124]:Abk) ([])) (fun j=>some j) else Option.bind (self2 a0.f.2.2.2.2.2.2 ([]:Abk) ([8,9])) (fun e=>AS (([33]:Abk).length+e.length<=9223372036854775807) (some ((([33]:Abk)++e))))))))))))
theorem Pw{self1:Go.L.Qv->Option Abk}{self2:(List Go.L.Qv)->Abk->(List Int)->Option Abk}(_hself1:∀ (w:World) (H:PH) (hH:Le H (hp w)) (hU:Eg H) {a0:Go.L.Qv} {b:Value} {d:Value} {e:Value} (g:AI .st H b (a0.f.2.1)) (m:AI .byte H d (a0.f.2.2.2.1)) (j:AI .Bg H e (a0.f.2.2.2.2.2.2)) {r:Abk} (h:self1 a0=some r),Ok prog 33 [.agg #[No a0.f.1,b,Abj a0.f.2.2.1,d,No a0.f.2.2.2.2.1,No a0.f.2.2.2.2.2.1,e]] w (fun v w'=>Ext w w'/\v=(Abj r)))(hself2:∀ (w:World) (H:PH) (hH:Le H (hp w)) (hU:Eg H) {a0:List Go.L.Qv} {a1:Abk} {a2:List Int} {b:Value} {o:Value} (g:AI .Bg H b a0) (_h2_0:AI (.int .i64) H o a2) {r:Abk} (h:self2 a0 a1 a2=some r),Ok prog 66 [b,Abj a1,o] w (fun v w'=>Ext w w'/\v=(Abj r)))(w:World)(H:PH)(hH:Le H (hp w))(hU:Eg H){a0:Go.L.Qv}{b d e:Value}(g:AI .st H b (a0.f.2.1))(m:AI .byte H d (a0.f.2.2.2.1))(j:AI .Bg H e (a0.f.2.2.2.2.2.2)){r:Abk}(h:Em self1 self2 a0=some r):
  Ok prog 33 [.agg #[No a0.f.1,b,Abj a0.f.2.2.1,d,No a0.f.2.2.2.2.1,No a0.f.2.2.2.2.2.1,e]] w (fun v w'=>Ext w w'/\v=(Abj r)):=by
 refine A3 (n:=86) [(0,.agg #[No a0.f.1,b,Abj a0.f.2.2.1,d,No a0.f.2.2.2.2.1,No a0.f.2.2.2.2.2.1,e])] func33 rfl fun hL=>Am<|CY (t:=26) rfl rfl rfl hL fun w1 b1 a b8 _=>A4 1 rfl<|A7<|Am<|Ag (Ae rfl AcF rfl Cj) rfl<|Ag (Af 0 rfl Abn rfl a rfl) rfl<|Ac<|A5<|AD 2 rfl<|AM rfl h (fun bv h=>?_) (fun bv h=>?_)
 ·refine Am<|Ag (Ae rfl AcF rfl IW) rfl<|Ag (Af 0 rfl Ac7 rfl a rfl) rfl<|Az h fun y h=>Bf rfl rfl Ac7 EZ g ((0:Int).toNat) (EX y) (Ba y) rfl ?_;rintro p4 _ rfl bw;refine Ag (Bj rfl Ab1 rfl bw (hH.trans a.arg)) rfl<|A4 1 rfl<|Ax<|Aq<|An ?_
  cases h
  refine Ak rfl ⟨a.ext,rfl⟩
 refine AD 2 rfl<|AM rfl h (fun bx h=>?_) (fun bx h=>?_)
 ·refine Am<|Ag (Ae rfl AcF rfl IW) rfl<|Ag (Af 0 rfl Ac7 rfl a rfl) rfl<|Ay h fun x9 bz h=>AA rfl rfl a (Vc _ _ (Ar hH a) (g.mono (Aj hH)) bz) fun cg b9 z b0=>Az h fun aa h=>Ag (Dx rfl rfl aa) rfl<|Az h fun ab h=>Ag (Dx rfl rfl ab) rfl<|A4 1 rfl<|Ax<|Aq<|An ?_
  cases h
  refine Ak rfl ⟨z.ext,rfl⟩
 refine AD 2 rfl<|AM rfl h (fun ac h=>?_) (fun ac h=>?_)
 ·refine DD (.q 0 (.q 1 (.q 2 (.q 3 (.q 4 (.q 5 (.q 6 (.q 7 (.q 8 (.q 9 (.q 10 (.q 11 (.q 12 (.q 13 (.q 14 (.q 15 (.tail 16))))))))))))))))) mixed (by kernel_rfl) (fun ch ad=>?_);have c:=a.call ad;refine BQ (Ae rfl AcF rfl IW) rfl rfl<|BQ (Af 0 rfl Ac7 rfl c rfl) rfl rfl<|Az h fun p h=>HX rfl rfl rfl Ac7 EZ g ((0:Int).toNat) (EX p) (Ba p) rfl ?_;rintro ci _ rfl ae;refine BQ (Bj rfl Ab1 rfl ae (hH.trans c.arg)) rfl rfl<|Az h fun af h=>BQ (Dx rfl rfl af) rfl rfl<|BQ (Ae rfl AcF rfl Cj) rfl rfl<|BQ (Af 0 rfl Abn rfl c rfl) rfl rfl<|Ay h fun cj ag h=>Ec rfl rfl rfl (fun ck ah=>Vb _ _ (Le.refl _) (hU.mono (hH.trans (c.call ah).arg)) ag)<|Az h fun ai h=>BQ (Dx rfl rfl ai) rfl rfl<|Az h fun aj h=>BQ (Dx rfl rfl aj) rfl rfl<|BQ (Ae rfl AcF rfl IW) rfl rfl<|BQ (Af 0 rfl Ac7 rfl c rfl) rfl rfl<|Az h fun s h=>HX rfl rfl rfl Ac7 EZ g ((1:Int).toNat) (EX s) (Ba s) rfl ?_;rintro cl _ rfl ak;refine BQ (Bj rfl Ab1 rfl ak (hH.trans c.arg)) rfl rfl<|Az h fun al h=>?_
  refine BQ (Dx rfl rfl al) rfl rfl<|Df 1 rfl<|Cd (fun cm am=>?_);have an:=c.call am;refine Ac<|Ax<|Aq<|An ?_
  cases h
  refine Ak rfl ⟨an.ext,rfl⟩
 refine AD 2 rfl<|AM rfl h (fun ao h=>?_) (fun ao h=>?_)
 ·refine Am<|Ag (Ae rfl AcF rfl F7) rfl<|Ag (Af 0 rfl AbF rfl a rfl) rfl<|Ay h fun cn ap h=>AA rfl rfl a (Nn _ _ (Ar hH a) (m.mono (Aj hH)) ap) fun co ca aq b2=>A4 1 rfl<|Ax<|Aq<|An ?_
  cases h
  refine Ak rfl ⟨aq.ext,rfl⟩
 refine AD 2 rfl<|AM rfl h (fun ar h=>?_) (fun ar h=>?_)
 ·refine Am<|Ag (Ae rfl AcF rfl EZ) rfl<|Ag (Af 0 rfl Ab1 rfl a rfl) rfl<|Az h fun au h=>Ag (Dx rfl rfl au) rfl<|A4 1 rfl<|Ax<|Aq<|An ?_
  cases h
  refine Ak rfl ⟨a.ext,rfl⟩
 refine AD 2 rfl<|AM rfl h (fun av h=>?_) (fun av h=>?_)
 ·refine DD (.q 0 (.q 1 (.q 2 (.q 3 (.q 4 (.q 5 (.q 6 (.q 7 (.q 8 (.q 9 (.q 10 (.q 11 (.q 12 (.q 13 (.tail 14))))))))))))))) mixed (by kernel_rfl) (fun cp aw=>?_);have i:=a.call aw;refine BQ (Ae rfl AcF rfl EZ) rfl rfl<|BQ (Af 0 rfl Ab1 rfl i rfl) rfl rfl<|Az h fun ax h=>BQ (Dx rfl rfl ax) rfl rfl<|Az h fun ay h=>BQ (Dx rfl rfl ay) rfl rfl<|BQ (Ae rfl AcF rfl Cj) rfl rfl<|BQ (Af 0 rfl Abn rfl i rfl) rfl rfl<|Ay h fun cq az h=>Ec rfl rfl rfl (fun cr a3=>Vb _ _ (Le.refl _) (hU.mono (hH.trans (i.call a3).arg)) az)<|Az h fun a4 h=>BQ (Dx rfl rfl a4) rfl rfl<|Az h fun a5 h=>BQ (Dx rfl rfl a5) rfl rfl<|BQ (Ae rfl AcF rfl Cj) rfl rfl<|BQ (Af 0 rfl Abn rfl i rfl) rfl rfl<|Ay h fun cs a6 h=>Ec rfl rfl rfl (fun ct a7=>Vb _ _ (Le.refl _) (hU.mono (hH.trans (i.call a7).arg)) a6)<|Az h fun a8 h=>BQ (Dx rfl rfl a8) rfl rfl<|Df 1 rfl<|Cd (fun cu a9=>?_);have ba:=i.call a9;refine Ac<|Ax<|Aq<|An ?_
  cases h
  refine Ak rfl ⟨ba.ext,rfl⟩
 refine AD 2 rfl<|AM rfl h (fun bb h=>?_) (fun bb h=>?_)
 ·refine DD (.q 0 (.q 1 (.q 2 (.q 3 (.q 4 (.q 5 (.q 6 (.q 7 (.q 8 (.tail 9)))))))))) mixed (by kernel_rfl) (fun cv bc=>?_);have k:=a.call bc;refine BQ (Ae rfl AcF rfl EZ) rfl rfl<|BQ (Af 0 rfl Ab1 rfl k rfl) rfl rfl<|Az h fun bd h=>BQ (Dx rfl rfl bd) rfl rfl<|Az h fun be h=>BQ (Dx rfl rfl be) rfl rfl<|BQ (Ae rfl AcF rfl F7) rfl rfl<|BQ (Af 0 rfl AbF rfl k rfl) rfl rfl<|Ay h fun cw bf h=>Ec rfl rfl rfl (fun cx bg=>Nn _ _ (Le.refl _) ((m.mono (hH.trans k.arg)).mono bg.le) bf)<|Az h fun bh h=>BQ (Dx rfl rfl bh) rfl rfl<|Df 1 rfl<|Cd (fun cy bi=>?_);have bj:=k.call bi;refine Ac<|Ax<|Aq<|An ?_
  cases h
  refine Ak rfl ⟨bj.ext,rfl⟩
 refine AD 2 rfl<|AM rfl h (fun bk h=>?_) (fun bk h=>?_)
 ·refine Am<|Ag (Ae rfl AcF rfl G5) rfl<|Ag (Af 0 rfl Afy rfl a rfl) rfl<|Bp (r:=(.int .i64)) (l:=[9]) rfl (fun _=>I7 _ _) rfl (leMax 1) hH a (.c1 rfl .nil) fun cz c0 cb u b3 bl=>Ay h fun c2 bm h=>AA rfl rfl u (hself2 _ _ (Ar hH u) (hU.mono (Aj hH)) (j.mono (Aj hH)) bl bm) fun c3 cc bn b4=>A4 1 rfl<|Ax<|Aq<|An ?_
  cases h
  refine Ak rfl ⟨bn.ext,rfl⟩
 refine AD 2 rfl<|AM rfl h (fun bo h=>?_) (fun bo h=>?_)
 ·refine Am<|Ag (Ae rfl AcF rfl G5) rfl<|Ag (Af 0 rfl Afy rfl a rfl) rfl<|Ay h fun c4 bp h=>AA rfl rfl a (hself2 _ _ (Ar hH a) (hU.mono (Aj hH)) (j.mono (Aj hH)) (AI.nil _ _) bp) fun c5 cd bq b5=>A4 1 rfl<|Ax<|Aq<|An ?_
  cases h
  refine Ak rfl ⟨bq.ext,rfl⟩
 refine Av<|AF<|Ao<|Am<|Ag (Ae rfl AcF rfl G5) rfl<|Ag (Af 0 rfl Afy rfl a rfl) rfl<|Bp (r:=(.int .i64)) (l:=[8,9]) rfl (fun _=>XO _ _ _) rfl (leMax 2) hH a (.c1 rfl (.c1 rfl .nil)) fun c6 c7 ce x b6 br=>Ay h fun c8 bs h=>AA rfl rfl x (hself2 _ _ (Ar hH x) (hU.mono (Aj hH)) (j.mono (Aj hH)) br bs) fun c9 cf bt b7=>Az h fun bu h=>Ag (Dx rfl rfl bu) rfl<|A4 1 rfl<|Ax ?_
 cases h
 refine Ak rfl ⟨bt.ext,rfl⟩
def D3(c:List Abk)(a:Int)(b:Abk):Option (((List Abk)×Int) ⊕ (Abk)):=
 AS (Go.E.J3 16 (c.length+([b]).length)) (AS (B0 (a+1)) (some (Sum.inl ((c++[b]),(a+1)))))
def E9(a1:Abk)(b:List Abk):Option Abk:=
 Option.bind (R6 b a1) (fun a=>some a)
def Cw(a0:List Go.L.Qv)(a1:Abk)(a2:List Int)(self1:Go.L.Qv->Option Abk):(List Abk)×Int->Option (((List Abk)×Int) ⊕ (Abk)):=fun⟨c,a⟩=>
 if a<(a0.length:Int) then AS (0<=a/\a<(a0.length:Int)) (Option.bind (self1 (a0.getD a.toNat default)) (fun b=>Option.bind (C2 a2 ((a0.getD a.toNat default).f.1)) (fun d=>if d then AS (([40]:Abk).length+b.length<=9223372036854775807) (AS ((([40]:Abk)++b).length+([41]:Abk).length<=9223372036854775807) ((D3 c a) ((([40]:Abk)++b)++([41]:Abk)))) else(D3 c a) b))) else Option.map Sum.inr ((E9 a1) c)
def G1(a0:List Go.L.Qv)(a1:Abk)(a2:List Int)(self1:Go.L.Qv->Option Abk)(s:(List Abk)×Int):Option Abk:=Go.L.run (Cw a0 a1 a2 self1) s
def DW(self1:Go.L.Qv->Option Abk)(_self2:(List Go.L.Qv)->Abk->(List Int)->Option Abk)(a0:List Go.L.Qv)(a1:Abk)(a2:List Int):Option Abk:=
 (G1 a0 a1 a2 self1) (([]:List Abk),0)
theorem OJ{self1:Go.L.Qv->Option Abk}{self2:(List Go.L.Qv)->Abk->(List Int)->Option Abk}(hself1:∀ (w:World) (H:PH) (hH:Le H (hp w)) (hU:Eg H) {a0:Go.L.Qv} {c:Value} {ae:Value} {af:Value} (p:AI .st H c (a0.f.2.1)) (_h0_1:AI .byte H ae (a0.f.2.2.2.1)) (_h0_2:AI .Bg H af (a0.f.2.2.2.2.2.2)) {r:Abk} (h:self1 a0=some r),Ok prog 33 [.agg #[No a0.f.1,c,Abj a0.f.2.2.1,ae,No a0.f.2.2.2.2.1,No a0.f.2.2.2.2.2.1,af]] w (fun v w'=>Ext w w'/\v=(Abj r)))(_hself2:∀ (w:World) (H:PH) (hH:Le H (hp w)) (hU:Eg H) {a0:List Go.L.Qv} {a1:Abk} {a2:List Int} {c:Value} {j:Value} (p:AI .Bg H c a0) (ag:AI (.int .i64) H j a2) {r:Abk} (h:self2 a0 a1 a2=some r),Ok prog 66 [c,Abj a1,j] w (fun v w'=>Ext w w'/\v=(Abj r)))(w:World)(H:PH)(hH:Le H (hp w))(hU:Eg H){a0:List Go.L.Qv}{a1:Abk}{a2:List Int}{c j:Value}(p:AI .Bg H c a0)(ag:AI (.int .i64) H j a2){r:Abk}(h:DW self1 self2 a0 a1 a2=some r):
  Ok prog 66 [c,Abj a1,j] w (fun v w'=>Ext w w'/\v=(Abj r)):=by
 refine A3 (n:=34) [(0,c),(1,(Abj a1)),(2,j)] func66 rfl fun hL=>AD 1 rfl<|Bi 1 rfl ?_;obtain⟨bc,bl,bd⟩:=C0 .st H 9 hL;refine Ac<|Bo (σ:=(List Abk)×Value×(List Value)) (fun⟨y,q,o⟩=>[(1,(Abj a1)),(7,q)]) (fun⟨y,q,o⟩ wr=>DF w [.row q 9 1 (y).length o] wr fun Oz=>AJ .st (gz H w wr Oz) y o/\(E9 a1) y=some r) ?_ ?_
 ·refine Bi 1 rfl<|Ag (Bu rfl Afy p) rfl<|A4 1 rfl<|A5 ?_;obtain⟨ah,h⟩:=AZ h;refine Bx (σ:=(List Abk)×Int×Value×(List Value)×Nat) (fun⟨g,a,k,e,n⟩=>[(1,(Abj a1)),(2,j),(7,k),(11,c),(12,No (a0.length:Int)),(13,No a)]) (fun⟨g,a,k,e,n⟩ wr=>DF w [.row k 9 1 (g).length e] wr fun Oz=>AJ .st (gz H w wr Oz) g e/\F6 (Cw a0 a1 a2 self1) n (g,a)=some r) (fun⟨g,a,k,e,n⟩=>n) (([]:List Abk),0,Aa8,[],ah) (Sub.of rfl) ⟨bc,bd,h⟩ ?_;rintro⟨g,a,k,e,nn79⟩ bm ⟨aa,b,h⟩;obtain⟨ah,be,rfl,h,ai⟩:=AY h;refine AD 1 rfl<|A7<|AM rfl h (fun a6 h=>?_) (fun a6 h=>?_)
  ·refine Av<|Ao<|A7<|A5<|Am<|Az h fun aj h=>Bf rfl rfl Afy AO p a.toNat (EX aj) (Ba aj) rfl ?_;rintro bx _ e83t0 a7;obtain⟨_,_,rfl,rfl,⟨_,_,rfl,⟨e83v1,rfl,e83h1⟩,⟨_,_,rfl,rfl,⟨_,_,rfl,⟨e83v3,rfl,e83h3⟩,⟨_,_,rfl,rfl,⟨_,_,rfl,rfl,⟨e83v6,rfl,e83h6⟩⟩⟩⟩⟩⟩⟩:=Go.E.Rp.Dh e83t0;refine Ag (C9 rfl AcF rfl AO a7 (hH.trans aa.arg)) rfl<|AH AO rfl rfl aa fun bz bf a8 s _=>Ah 0 rfl AO a8 rfl (AU rfl (AU e83h1.one (AU rfl (AU e83h3.one (AU rfl (AU rfl (AU e83h6.one Hj))))))) fun b0 ab t=>Ac<|Am<|Ag (AE 0 rfl AcF rfl AO ab rfl) rfl<|Ay h fun a5 a9 h=>AA rfl rfl ab (hself1 (a0:=(a0.getD a.toNat default)) _ _ (Ar hH ab) (hU.mono (Aj hH)) (e83h1.mono (Aj hH)) (e83h3.mono (Aj hH)) (e83h6.mono (Aj hH)) a9) fun b1 bn ac u=>A4 1 rfl ?_
   refine Bo (σ:=Abk) (fun d=>[(1,(Abj a1)),(2,j),(7,k),(10,(Abj d)),(11,c),(12,No (a0.length:Int)),(13,No a)]) (fun d wr=>DF w [.box bf [No ((a0.getD a.toNat default).f.1),e83v1,.string ⟨((a0.getD a.toNat default).f.2.2.1).toArray⟩,e83v3,No ((a0.getD a.toNat default).f.2.2.2.2.1),No ((a0.getD a.toNat default).f.2.2.2.2.2.1),e83v6] 26,.row k 9 1 (g).length e] wr fun Oz=>AJ .st (gz H w wr Oz) g e/\(D3 g a) d=some be) ?_ ?_
   ·refine Bi 1 rfl<|Ag (Ae rfl AcF rfl Cj) rfl<|Ag (Af 0 rfl Abn rfl ac rfl) rfl<|Ay h fun bo am h=>AA rfl rfl ac (Ir _ _ (Ar hH ac) (ag.mono (Aj hH)) am) fun bp bi ad z=>Ac<|Bb rfl h (fun an h=>?_) (fun an h=>?_)
    ·refine Aw<|As 1 rfl<|Az h fun ao h=>Ag (Dx rfl rfl ao) rfl<|Az h fun ap h=>Ag (Dx rfl rfl ap) rfl<|As 1 rfl<|AK ?_;have b:=b.mono (Ab hH (s.trans (t.trans (u.trans z))));refine A8 ((([40]:Abk)++a5)++([41]:Abk)) (Sub.of rfl) ⟨ad,b,h⟩
    refine Av ?_;have b:=b.mono (Ab hH (s.trans (t.trans (u.trans z))));refine A8 a5 (Sub.of rfl) ⟨ad,b,h⟩
   have b:=b.mono (Ab hH (s.trans (t.trans u)));rintro d bq ⟨ba,b,h⟩;refine Aw<|As 2 rfl<|Bp (r:=.st) (l:=[d]) rfl (fun _=>N1 _ rfl _) rfl (leMax 1) hH ba (.c1 rfl .nil) fun br bs bj aq ak ar=>Az h fun au h=>?_;have b:=b.mono (Ab hH ak);refine Bt (r:=.st) (l:=g) (m:=[d]) 1 rfl rfl Ac7 EZ rfl (by decide) rfl hH aq rfl b ar au fun bb bt av aw bg x=>As 1 rfl<|AK<|AF<|Ao<|Aw<|Az h fun ax h=>Ag (A1 rfl ax) rfl<|As 1 rfl<|AK ?_;have ay:=aw.AQ (i:=0) rfl;have h:=BP.again h ai;have x:=x.mono (Ab hH (Au (i:=0) rfl));refine AN ((g++[d]),(a+1),bb,av,ah) (Sub.of rfl) ⟨ay,x,h⟩ (Nat.lt_succ_self _)
  refine Br<|AG<|A6 ?_;have h:=BP.out h ai;refine Be<|A8 (g,k,e) (Sub.of rfl) ⟨aa,b,h⟩
 rintro⟨y,q,o⟩ bu ⟨al,az,h⟩;refine Bi 2 rfl<|Ay h fun bv a3 h=>AA rfl rfl al (Vc _ _ (Le.refl _) (al.UD hH (i:=0) rfl az) a3) fun bw bk a4 bh=>A4 1 rfl<|Ax ?_
 cases h
 refine Ak rfl ⟨a4.ext,rfl⟩
def BG:Nat->(Go.L.Qv->Option Abk)×((List Go.L.Qv)->Abk->(List Int)->Option Abk)
 | 0=>(fun _=>none,fun _ _ _=>none)
 | n+1=>(Em ((BG n).1) ((BG n).2),DW ((BG n).1) ((BG n).2))
def M7:Go.L.Qv->Option Abk:=(BG 1000).1
theorem PX(n:Nat):(∀ (w:World) (H:PH) (hH:Le H (hp w)) (hU:Eg H) {a0:Go.L.Qv} {a:Value} {b:Value} {c:Value} (e:AI .st H a (a0.f.2.1)) (g:AI .byte H b (a0.f.2.2.2.1)) (i:AI .Bg H c (a0.f.2.2.2.2.2.2)) {r:Abk} (h:((BG n).1) a0=some r),Ok prog 33 [.agg #[No a0.f.1,a,Abj a0.f.2.2.1,b,No a0.f.2.2.2.2.1,No a0.f.2.2.2.2.2.1,c]] w (fun v w'=>Ext w w'/\v=(Abj r)))/\(∀ (w:World) (H:PH) (hH:Le H (hp w)) (hU:Eg H) {a0:List Go.L.Qv} {a1:Abk} {a2:List Int} {a:Value} {d:Value} (e:AI .Bg H a a0) (j:AI (.int .i64) H d a2) {r:Abk} (h:((BG n).2) a0 a1 a2=some r),Ok prog 66 [a,Abj a1,d] w (fun v w'=>Ext w w'/\v=(Abj r))):=by
 induction n with
 | zero=>exact⟨(by intros;rename_i h;cases h),(by intros;rename_i h;cases h)⟩
 | succ n ih=>exact⟨Pw ih.1 ih.2,OJ ih.1 ih.2⟩
theorem Tk(w:World)(H:PH)(hH:Le H (hp w))(hU:Eg H){a0:Go.L.Qv}{a b c:Value}(d:AI .st H a (a0.f.2.1))(e:AI .byte H b (a0.f.2.2.2.1))(g:AI .Bg H c (a0.f.2.2.2.2.2.2)){r:Abk}(h:M7 a0=some r):Ok prog 33 [.agg #[No a0.f.1,a,Abj a0.f.2.2.1,b,No a0.f.2.2.2.2.1,No a0.f.2.2.2.2.2.1,c]] w (fun v w'=>Ext w w'/\v=(Abj r)):=(PX 1000).1 w H hH hU d e g h
def Ev(a0:Go.L.Qv):Option (Abk×(Int×Int)):=
 Option.bind (Kj a0 (0:Int) (1:Int)) (fun a=>if a.2.1=0/\a.2.2=0 then Option.bind (M7 a0) (fun b=>if 200<(b.length:Int) then Option.bind (DT (14:Int) (-1:Int)) (fun c=>some (([]:Abk),(c.1,c.2))) else some (b,(0,0))) else some (([]:Abk),(a.2.1,a.2.2)))
theorem Jz(w:World)(H:PH)(hH:Le H (hp w))(hU:Eg H){a0:Go.L.Qv}{b c d:Value}(g:AI .st H b (a0.f.2.1))(j:AI .byte H c (a0.f.2.2.2.1))(k:AI .Bg H d (a0.f.2.2.2.2.2.2)){r:Abk×(Int×Int)}(h:Ev a0=some r):
  Ok prog 11 [.agg #[No a0.f.1,b,Abj a0.f.2.2.1,c,No a0.f.2.2.2.2.1,No a0.f.2.2.2.2.2.1,d]] w (fun v w'=>Ext w w'/\v=.tuple #[Abj r.1,.agg #[No r.2.1,No r.2.2]]):=by
 refine A3 (n:=24) [(0,.agg #[No a0.f.1,b,Abj a0.f.2.2.1,c,No a0.f.2.2.2.2.1,No a0.f.2.2.2.2.2.1,d])] func11 rfl fun hL=>Am<|CY (t:=26) rfl rfl rfl hL fun w1 b1 ac an _=>As 1 rfl<|AH AW rfl rfl ac fun w2 b2 l ao _=>Ac<|A7<|Am<|Ag (AE 1 rfl AcF rfl AO l rfl) rfl<|Ay h fun x3 ad h=>AA rfl rfl l (RV (a0:=a0) _ _ (Ar hH l) (hU.mono (Aj hH)) (g.mono (Aj hH)) (j.mono (Aj hH)) (k.mono (Aj hH)) ad) fun w4 aw ae ap=>As 3 rfl<|AH AW rfl rfl ae fun w5 b5 af aq _=>As 1 rfl<|Ah 0 rfl AW af rfl (Bc rfl) fun w6 a ar=>Ac<|Am<|Ag (AE 0 rfl Ack rfl AW a rfl) rfl<|Ag (AR rfl (fun _=>Cf _)) rfl<|Ag (Lh rfl rfl JF (MY _ _ _ _)) rfl<|Ac<|BV rfl h (fun ag h=>?_) (fun ag h=>?_)
 ·refine DD (.q 0 (.q 1 (.tail 2))) mixed (by kernel_rfl) (fun w9 ah=>?_);have m:=a.call ah;refine BQ (AE 0 rfl Ack rfl AW m rfl) rfl rfl<|Df 1 rfl<|Cd (fun ax u=>?_);have x:=m.call u;refine Ah 1 rfl AW x rfl (Bc rfl) fun ay o ai=>Ac<|Ax<|An ?_
  cases h
  refine Bz rfl (.tmp rfl) (.cell rfl Ack rfl AW (AL (i:=1) o rfl)) ⟨o.ext,rfl⟩
 refine Av<|Ao<|Am<|Ag (AE 2 rfl AcF rfl AO a rfl) rfl<|Ay h fun az y h=>AA rfl rfl a (Tk (a0:=a0) _ _ (Ar hH a) (hU.mono (Aj hH)) (g.mono (Aj hH)) (j.mono (Aj hH)) (k.mono (Aj hH)) y) fun a1 au e aj=>A4 1 rfl<|A7<|Bi 1 rfl<|Ag (Cv rfl Ab1) rfl<|A4 1 rfl<|AM rfl h (fun z h=>?_) (fun z h=>?_)
 ·refine Am<|Ay h fun a2 aa h=>AA rfl rfl e (EU _ _ (Ar hH e) aa) fun a3 av ab ak=>As 1 rfl<|Ah 1 rfl AW ab rfl (Bc rfl) fun a4 p al=>Ac<|Ax<|An ?_
  cases h
  refine Bz rfl (.tmp rfl) (.cell rfl Ack rfl AW (AL (i:=1) p rfl)) ⟨p.ext,rfl⟩
 refine Av<|Ao<|Bi 1 rfl<|Ag (AR rfl (fun _=>Cf _)) rfl<|As 1 rfl<|Ah 1 rfl AW e rfl (Bc rfl) fun a5 s am=>Ac<|Ax ?_
 cases h
 refine Bz rfl (.tmp rfl) (.cell rfl Ack rfl AW (AL (i:=1) s rfl)) ⟨s.ext,rfl⟩
def Gj(a0:Go.L.Qv):Option ((Int×Int)):=
 Option.bind (Ev a0) (fun a=>some ((a.2.1,a.2.2)))
theorem JB(w:World)(H:PH)(hH:Le H (hp w))(hU:Eg H){a0:Go.L.Qv}{a b c:Value}(j:AI .st H a (a0.f.2.1))(k:AI .byte H b (a0.f.2.2.2.1))(l:AI .Bg H c (a0.f.2.2.2.2.2.2)){r:(Int×Int)}(h:Gj a0=some r):
  Ok prog 14 [.agg #[No a0.f.1,a,Abj a0.f.2.2.1,b,No a0.f.2.2.2.2.1,No a0.f.2.2.2.2.2.1,c]] w (fun v w'=>Ext w w'/\v=.agg #[No r.1,No r.2]):=by
 refine A3 (n:=11) [(0,.agg #[No a0.f.1,a,Abj a0.f.2.2.1,b,No a0.f.2.2.2.2.1,No a0.f.2.2.2.2.2.1,c])] func14 rfl fun hL=>Am<|CY (t:=26) rfl rfl rfl hL fun w1 b1 m s _=>AH AW rfl rfl m fun w2 b2 d u _=>Ac<|Am<|Ag (AE 1 rfl AcF rfl AO d rfl) rfl<|Ay h fun x3 o h=>AA rfl rfl d (Jz (a0:=a0) _ _ (Ar hH d) (hU.mono (Aj hH)) (j.mono (Aj hH)) (k.mono (Aj hH)) (l.mono (Aj hH)) o) fun w4 ab p x=>As 3 rfl<|AH AW rfl rfl p fun w5 b5 q y _=>As 1 rfl<|Ah 0 rfl AW q rfl (Bc rfl) fun w6 e z=>Ac<|Am<|Ag (AE 0 rfl Ack rfl AW e rfl) rfl<|Ah 1 rfl AW e rfl (Bc rfl) fun w7 g aa=>Ac<|Ax ?_
 cases h
 refine BH rfl (.cell rfl Ack rfl AW (AL (i:=1) g rfl)) ⟨g.ext,rfl⟩
def KD(a0:Go.L.Qv):Option (Go.L.Qv×(Int×Int)):=
 Option.bind (Gj a0) (fun c=>if c.1=0/\c.2=0 then Option.bind (KC a0 false) (fun a=>Option.bind (Gj a) (fun b=>if b.1=0/\b.2=0 then some (a,(0,0)) else none)) else none)
theorem Rf(w:World)(H:PH)(hH:Le H (hp w))(hU:Eg H){a0:Go.L.Qv}{l m o:Value}(u:AI .st H l (a0.f.2.1))(x:AI .byte H m (a0.f.2.2.2.1))(y:AI .Bg H o (a0.f.2.2.2.2.2.2)){r:Go.L.Qv×(Int×Int)}(h:KD a0=some r):
  Ok prog 27 [.agg #[No a0.f.1,l,Abj a0.f.2.2.1,m,No a0.f.2.2.2.2.1,No a0.f.2.2.2.2.2.1,o]] w (fun v w'=>Ext w w'/\∃ u0 u1 u2,v=.tuple #[.agg #[No r.1.f.1,u0,Abj r.1.f.2.2.1,u1,No r.1.f.2.2.2.2.1,No r.1.f.2.2.2.2.2.1,u2],.agg #[No r.2.1,No r.2.2]]/\AI .st (un H (nw w w')) u0 (r.1.f.2.1)/\AI .byte (un H (nw w w')) u1 (r.1.f.2.2.2.1)/\AI .Bg (un H (nw w w')) u2 (r.1.f.2.2.2.2.2.2)):=by
 refine A3 (n:=25) [(0,.agg #[No a0.f.1,l,Abj a0.f.2.2.1,m,No a0.f.2.2.2.2.1,No a0.f.2.2.2.2.2.1,o])] func27 rfl fun hL=>Am<|CY (t:=26) rfl rfl rfl hL fun w1 b1 av a7 _=>AH AO rfl rfl av fun w2 b2 aw a8 _=>AH AW rfl rfl aw fun w3 b3 z a9 _=>Ac<|A7<|Am<|Ag (AE 2 rfl AcF rfl AO z rfl) rfl<|Ay h fun x4 ax h=>AA rfl rfl z (JB (a0:=a0) _ _ (Ar hH z) (hU.mono (Aj hH)) (u.mono (Aj hH)) (x.mono (Aj hH)) (y.mono (Aj hH)) ax) fun w5 be ay ba=>AH AW rfl rfl ay fun w6 b6 az bb _=>Ah 0 rfl AW az rfl (Bc rfl) fun w7 e bc=>Ac<|Am<|Ag (AE 0 rfl Ack rfl AW e rfl) rfl<|Ag (AR rfl (fun _=>Cf _)) rfl<|Ag (Lh rfl rfl JF (MY _ _ _ _)) rfl<|Ac<|BV rfl h (fun a1 h=>?_) (fun a1 h=>?_)
 ·cases h
 refine Av<|Ao<|Am<|Ag (AE 3 rfl AcF rfl AO e rfl) rfl<|Ay h fun a2 ai h=>Bn rfl rfl e (Re (a0:=a0) _ _ (Ar hH e) (u.mono (Aj hH)) (x.mono (Aj hH)) (y.mono (Aj hH)) ai) ?_;rintro _ bf ⟨a3,a4,a5,rfl,aa,ab,ac⟩ p aj a6;have b:=aa.mono (Cm hH e p);have c:=ab.mono (Cm hH e p);have d:=ac.mono (Cm hH e p);refine AH AO rfl rfl aj fun bg bh ak g _=>Ah 0 rfl AO ak rfl (AU rfl (AU b.one (AU rfl (AU c.one (AU rfl (AU rfl (AU d.one Hj))))))) fun bi j k=>Ac<|A7 ?_;have a:=j.rG H;refine Am<|Ag (AE 0 rfl AcF rfl AO j rfl) rfl<|Ay h fun bj al h=>?_;have b:=b.mono (Ab hH (g.trans k));have c:=c.mono (Ab hH (g.trans k));have d:=d.mono (Ab hH (g.trans k));refine AA rfl rfl j (JB (a0:=a2) _ _ (Ar hH j) (hU.mono (Aj hH)) (b.mono a) (c.mono a) (d.mono a) al) fun bk bd am ad=>AH AW rfl rfl am fun bl bm an ae _=>Ah 0 rfl AW an rfl (Bc rfl) fun bn q af=>Ac<|Am ?_
 refine Ag (AE 0 rfl Ack rfl AW q rfl) rfl<|Ag (AR rfl (fun _=>Cf _)) rfl<|Ag (Lh rfl rfl JF (MY _ _ _ _)) rfl<|Ac<|BV rfl h (fun ao h=>?_) (fun ao h=>?_)
 ·cases h
 refine Av<|Ao<|Am<|Ag (AE 1 rfl AcF rfl AO q rfl) rfl<|Ag (AR rfl (fun _=>Cf _)) rfl ?_;have a:=a.trans (Ab hH (ad.trans (ae.trans af)));refine Ah 4 rfl AO q rfl (AU rfl (AU (b.mono a).one (AU rfl (AU (c.mono a).one (AU rfl (AU rfl (AU (d.mono a).one Hj))))))) fun bo ap ag=>Ah 3 rfl AW ap rfl (Bc rfl) fun bp s ah=>Ac<|Ax ?_
 cases h
 refine Bz rfl (.cell rfl AcF rfl AO (AL (i:=4) s rfl)) (.cell rfl Ack rfl AW (AL (i:=3) s rfl)) ?_;have a:=a.trans (Ab hH (ag.trans ah));exact⟨s.ext,_,_,_,rfl,((b.mono a).mono (B5 hH)),((c.mono a).mono (B5 hH)),((d.mono a).mono (B5 hH))⟩
def Bl(a0:Abk×Int)(a1:Abk):Option (Bool×(Abk×Int)):=
 Option.bind (DQ a0.1 a1) (fun a=>if a.2 then some (a.2,(a.1,a0.2)) else some (a.2,(a0.1,a0.2)))
theorem B4{c w:World}{H:PH}(hH:Le H (hp c)){O:List BS}{a0:Abk×Int}{a1:Abk}{ba0:Nat}(hL:Bd c (Ha [.box ba0 [Abj a0.1,No a0.2] 86] O) w){r:Bool×(Abk×Int)}(h:Bl a0 a1=some r):
  Ok prog 111 [Abi ba0,Abj a1] w (fun v w'=>v=.bool r.1/\Bd c (Ha [.box ba0 [Abj r.2.1,No r.2.2] 86] O) w'/\Le (fz w (Ha [.box ba0 [Abj a0.1,No a0.2] 86] O)) (fz w' (Ha [.box ba0 [Abj r.2.1,No r.2.2] 86] O))):=by
 refine Ez (n:=22) [(0,(Abi ba0)),(1,(Abj a1))] func111 rfl rfl rfl rfl rfl ?_;have hT:=Le.refl (fz w (Ha [.box ba0 [Abj a0.1,No a0.2] 86] O));refine AD 1 rfl<|Bi 1 rfl<|Ag (CB rfl) rfl<|Ag (Ae rfl Af9 rfl EZ) rfl<|Ag (Af 0 rfl Ab1 rfl hL rfl) rfl<|As 1 rfl<|Ay h fun j e h=>AA rfl rfl hL (OB _ _ (Ar hH hL) e) fun k i b a=>A4 5 rfl<|A7<|AD 1 rfl<|Bb rfl h (fun f h=>?_) (fun f h=>?_)
 ·refine Aw<|As 2 rfl<|Ag (CB rfl) rfl<|Ag (Ae rfl Af9 rfl EZ) rfl<|Bm 0 rfl rfl rfl EZ b rfl rfl fun l g d=>AK<|Ao<|AD 2 rfl<|Ax ?_
  cases h
  refine Ak rfl ?_;have hT:=hT.trans (a.trans d);exact⟨rfl,g,hT⟩
 refine Av<|Ao<|AD 2 rfl<|Ax ?_
 cases h
 refine Ak rfl ?_;have hT:=hT.trans a;exact⟨rfl,b,hT⟩
def CT(a1:Int)(y8:Go.L.Qv×(Abk×Int))(a:List Go.L.Qv)(b:Abk)(c:Int):Option (Option (Go.L.Qv×(Abk×Int))):=
 if(a.length:Int)=1 then some (some (y8.1,(b,c))) else some (some ((Go.L.Qv.mk a1 ([]) ([]:Abk) ([]) (0:Int) (0:Int) a),(b,c)))
def BK(a1:Int)(a2:Abk)(self:(Abk×Int)->Option (Option (Go.L.Qv×(Abk×Int))))(y8:Go.L.Qv×(Abk×Int)):(List Go.L.Qv)×Abk×Int->Option (((List Go.L.Qv)×Abk×Int) ⊕ (Option (Go.L.Qv×(Abk×Int)))):=fun⟨b,c,d⟩=>
 Option.bind (Bl (c,d) a2) (fun a=>if a.1 then Option.bind (self (a.2.1,a.2.2)) (fun e=>QP e (Option.map Sum.inr (some none)) (fun y86=>AS (Go.E.J3 112 (b.length+([y86.1]).length)) (some (Sum.inl ((b++[y86.1]),y86.2.1,y86.2.2))))) else Option.map Sum.inr ((CT a1 y8) b a.2.1 a.2.2))
def Ci(a1:Int)(a2:Abk)(self:(Abk×Int)->Option (Option (Go.L.Qv×(Abk×Int))))(y8:Go.L.Qv×(Abk×Int))(s:(List Go.L.Qv)×Abk×Int):Option (Option (Go.L.Qv×(Abk×Int))):=Go.L.run (BK a1 a2 self y8) s
def C3(self:(Abk×Int)->Option (Option (Go.L.Qv×(Abk×Int))))(a0:Abk×Int)(a1:Int)(a2:Abk):Option (Option (Go.L.Qv×(Abk×Int))):=
 Option.bind (self (a0.1,a0.2)) (fun a=>QP a (some none) (fun y8=>(Ci a1 a2 self y8) ([y8.1],y8.2.1,y8.2.2)))
theorem Mc{self:(Abk×Int)->Option (Option (Go.L.Qv×(Abk×Int)))}(hself:∀ {a w:World} {H:PH} (hH:Le H (hp a)) (hU:Eg H) {O:List BS} {a0:Abk×Int} {ba0:Nat} (hL:Bd a (Ha [.box ba0 [Abj a0.1,No a0.2] 86] O) w) {r:Option (Go.L.Qv×(Abk×Int))} (h:self a0=some r),SA prog 70 [Abi ba0] w (.iface 82 (.agg #[])) (fun v w'=>Ua r v (fun r v=>∃ (u1:Value) (u3:Value) (u6:Value),v=.agg #[No r.1.f.1,u1,Abj r.1.f.2.2.1,u3,No r.1.f.2.2.2.2.1,No r.1.f.2.2.2.2.2.1,u6]/\Bd a (Ha [.box ba0 [Abj r.2.1,No r.2.2] 86] O) w'/\Le (fz w (Ha [.box ba0 [Abj a0.1,No a0.2] 86] O)) (fz w' (Ha [.box ba0 [Abj r.2.1,No r.2.2] 86] O))/\AI .st (gz H a w' (Ha [.box ba0 [Abj r.2.1,No r.2.2] 86] O)) u1 (r.1.f.2.1)/\AI .byte (gz H a w' (Ha [.box ba0 [Abj r.2.1,No r.2.2] 86] O)) u3 (r.1.f.2.2.2.1)/\AI .Bg (gz H a w' (Ha [.box ba0 [Abj r.2.1,No r.2.2] 86] O)) u6 (r.1.f.2.2.2.2.2.2)) (Bd a O w'/\Le (fz w (Ha [.box ba0 [Abj a0.1,No a0.2] 86] O)) (fz w' O)))){a w:World}{H:PH}(hH:Le H (hp a))(hU:Eg H){O:List BS}{a0:Abk×Int}{a1:Int}{a2:Abk}{ba0:Nat}(hL:Bd a (Ha [.box ba0 [Abj a0.1,No a0.2] 86] O) w){r:Option (Go.L.Qv×(Abk×Int))}(h:C3 self a0 a1 a2=some r):
  SA prog 69 [Abi ba0,No a1,Abj a2,.func (.func 70) #[Abi ba0] #[]] w (.iface 82 (.agg #[])) (fun v w'=>Ua r v (fun r v=>∃ (u1:Value) (u3:Value) (u6:Value),v=.agg #[No r.1.f.1,u1,Abj r.1.f.2.2.1,u3,No r.1.f.2.2.2.2.1,No r.1.f.2.2.2.2.2.1,u6]/\Bd a (Ha [.box ba0 [Abj r.2.1,No r.2.2] 86] O) w'/\Le (fz w (Ha [.box ba0 [Abj a0.1,No a0.2] 86] O)) (fz w' (Ha [.box ba0 [Abj r.2.1,No r.2.2] 86] O))/\AI .st (gz H a w' (Ha [.box ba0 [Abj r.2.1,No r.2.2] 86] O)) u1 (r.1.f.2.1)/\AI .byte (gz H a w' (Ha [.box ba0 [Abj r.2.1,No r.2.2] 86] O)) u3 (r.1.f.2.2.2.1)/\AI .Bg (gz H a w' (Ha [.box ba0 [Abj r.2.1,No r.2.2] 86] O)) u6 (r.1.f.2.2.2.2.2.2)) (Bd a O w'/\Le (fz w (Ha [.box ba0 [Abj a0.1,No a0.2] 86] O)) (fz w' O))):=by
 refine I4 (n:=30) [(0,(Abi ba0)),(1,No a1),(2,(Abj a2)),(3,.func (.func 70) #[Abi ba0] #[])] func69 rfl rfl rfl rfl rfl ?_;have hT:=Le.refl (fz w (Ha [.box ba0 [Abj a0.1,No a0.2] 86] O));refine Am<|AH AO rfl rfl hL fun w1 b1 bz aw _=>Ac<|Bi 1 rfl ?_;have b0:Bd a (Ha [.box ba0 [Abj a0.1,No a0.2] 86,.box b1 Abl 26] O) w1:=bz.CC [1] rfl;have ax:=BC [1] bz b0 rfl;refine Ay h fun x3 cn h=>Ql [Abi ba0] [] rfl rfl rfl (hself (a0:=(a0.1,a0.2)) (O:=(Ha [.box b1 Abl 26] O)) hH hU b0 cn) ?_ ?_
 ·rintro rfl w5 ⟨co,b3⟩;have h:=DG h;refine B6 ?_
  cases h
  refine DJ ?_;have cp:=co.AQ (i:=0) rfl;have hT:=hT.trans (aw.trans (ax.trans (b3.trans (Au (i:=0) rfl))));exact CM ⟨cp,hT⟩
 rintro y8 rfl _ w4 ⟨g,j,k,rfl,cq,bh,s,t,u⟩;have h:=DH h;refine AH AO rfl rfl cq fun w9 b9 cr ac _=>Ah 0 rfl AO cr rfl (AU rfl (AU s.one (AU rfl (AU t.one (AU rfl (AU rfl (AU u.one Hj))))))) fun c2 ay x=>Ac ?_;have p:=ay.rG H;refine Am<|Ag (AE 0 rfl AcF rfl AO ay rfl) rfl ?_;have s:=s.mono (Ab hH (ac.trans x));have t:=t.mono (Ab hH (ac.trans x));have u:=u.mono (Ab hH (ac.trans x));refine Kt (r:=.Bg) (l:=[y8.1]) rfl (fun _=>K5 _ _ _ _ _ _ _ _) rfl (leMax 1) hH ay (.c7 (Go.E.Rp.F4 ⟨_,_,rfl,rfl,⟨_,_,rfl,⟨_,rfl,(s.mono p)⟩,⟨_,_,rfl,rfl,⟨_,_,rfl,⟨_,rfl,(t.mono p)⟩,⟨_,_,rfl,rfl,⟨_,_,rfl,rfl,⟨_,rfl,(u.mono p)⟩⟩⟩⟩⟩⟩⟩) .nil) fun cs c3 b4 b5 ai b6=>A4 1 rfl ?_
 refine Bo (σ:=(List Go.L.Qv)×Abk×Int×Value×(List Value)) (fun⟨am,a6,a7,ad,aa⟩=>[(1,No a1),(8,(Abi b1)),(9,(Abi b9)),(10,ad)]) (fun⟨am,a6,a7,ad,aa⟩ wr=>DF a (Ha [.row ad 26 7 (am).length aa,.box b9 [No y8.1.f.1,g,Abj y8.1.f.2.2.1,j,No y8.1.f.2.2.2.2.1,No y8.1.f.2.2.2.2.2.1,k] 26,.box ba0 [Abj a6,No a7] 86,.box b1 Abl 26] O) wr fun Oz=>AJ .Bg (gz H a wr Oz) am aa/\AI .st (gz H a wr Oz) g (y8.1.f.2.1)/\AI .byte (gz H a wr Oz) j (y8.1.f.2.2.2.1)/\AI .Bg (gz H a wr Oz) k (y8.1.f.2.2.2.2.2.2)/\Le (fz w (Ha [.box ba0 [Abj a0.1,No a0.2] 86] O)) (fz wr Oz)/\(CT a1 y8) am a6 a7=some r) ?_ ?_
 ·refine A5 ?_;obtain⟨bi,h⟩:=AZ h;have hT:=hT.trans (aw.trans (ax.trans (bh.trans (ac.trans (x.trans ai)))));have p:=p.trans (Ab hH ai)
  refine Bx (σ:=(List Go.L.Qv)×Abk×Int×Value×(List Value)×Nat) (fun⟨e,ae,af,o,c,n⟩=>[(0,(Abi ba0)),(1,No a1),(2,(Abj a2)),(3,.func (.func 70) #[Abi ba0] #[]),(8,(Abi b1)),(9,(Abi b9)),(10,o)]) (fun⟨e,ae,af,o,c,n⟩ wr=>DF a (Ha [.row o 26 7 (e).length c,.box b9 [No y8.1.f.1,g,Abj y8.1.f.2.2.1,j,No y8.1.f.2.2.2.2.1,No y8.1.f.2.2.2.2.2.1,k] 26,.box ba0 [Abj ae,No af] 86,.box b1 Abl 26] O) wr fun Oz=>AJ .Bg (gz H a wr Oz) e c/\AI .st (gz H a wr Oz) g (y8.1.f.2.1)/\AI .byte (gz H a wr Oz) j (y8.1.f.2.2.2.1)/\AI .Bg (gz H a wr Oz) k (y8.1.f.2.2.2.2.2.2)/\Le (fz w (Ha [.box ba0 [Abj a0.1,No a0.2] 86] O)) (fz wr Oz)/\F6 (BK a1 a2 self y8) n (e,ae,af)=some r) (fun⟨e,ae,af,o,c,n⟩=>n) ([y8.1],y8.2.1,y8.2.2,cs,b4,bi) (Sub.of rfl) ⟨b5,b6,(s.mono p),(t.mono p),(u.mono p),hT,h⟩ ?_;rintro⟨e,ae,af,o,c,nn71⟩ b7 ⟨az,a8,an,ao,ap,hT,h⟩
  obtain⟨bi,c4,rfl,h,a3⟩:=AY h;refine A7 ?_;have b:=az.rG H;refine Bi 2 rfl ?_;have bj:Bd a (Ha [.box ba0 [Abj ae,No af] 86,.row o 26 7 (e).length c,.box b9 [No y8.1.f.1,g,Abj y8.1.f.2.2.1,j,No y8.1.f.2.2.2.2.1,No y8.1.f.2.2.2.2.2.1,k] 26,.box b1 Abl 26] O) b7:=az.CC [2] rfl;have y:=BC [2] az bj rfl;refine Ay h fun ag b8 h=>DC rfl rfl (B4 (a0:=(ae,af)) (a1:=a2) (O:=(Ha [.row o 26 7 (e).length c,.box b9 [No y8.1.f.1,g,Abj y8.1.f.2.2.1,j,No y8.1.f.2.2.2.2.1,No y8.1.f.2.2.2.2.2.1,k] 26,.box b1 Abl 26] O)) hH bj b8) ?_;rintro _ ct ⟨rfl,a4,z⟩;refine Ac<|Bb rfl h (fun ca h=>?_) (fun ca h=>?_)
  ·refine Av<|Ao<|A5<|Aw<|As 2 rfl<|Ay h fun c5 cb h=>Ql [Abi ba0] [] rfl rfl rfl (hself (a0:=(ag.2.1,ag.2.2)) (O:=(Ha [.row o 26 7 (e).length c,.box b9 [No y8.1.f.1,g,Abj y8.1.f.2.2.1,j,No y8.1.f.2.2.2.2.1,No y8.1.f.2.2.2.2.2.1,k] 26,.box b1 Abl 26] O)) hH hU a4 cb) ?_ ?_
   ·rintro rfl c6 ⟨cc,bs⟩;have h:=DG h;refine BD<|Jc ?_;have h:=BP.out h a3;refine BD<|Fh ?_
    cases h
    refine DJ ?_;have cd:=cc.AQ (i:=0) rfl;have ce:=cd.AQ (i:=0) rfl;have cf:=ce.AQ (i:=0) rfl;have hT:=hT.trans (y.trans (z.trans (bs.trans ((Au (i:=0) rfl).trans ((Au (i:=0) rfl).trans (Au (i:=0) rfl))))));exact CM ⟨cf,hT⟩
   rintro y86 rfl _ c8 ⟨cv,cw,cx,rfl,cg,a9,bk,bl,bm⟩;have h:=DH h;refine Bp (r:=.Bg) (l:=[y86.1]) rfl (fun _=>K5 _ _ _ _ _ _ _ _) rfl (leMax 1) hH cg (.c7 (Go.E.Rp.F4 ⟨_,_,rfl,rfl,⟨_,_,rfl,⟨_,rfl,bk⟩,⟨_,_,rfl,rfl,⟨_,_,rfl,⟨_,rfl,bl⟩,⟨_,_,rfl,rfl,⟨_,_,rfl,rfl,⟨_,rfl,bm⟩⟩⟩⟩⟩⟩⟩) .nil) fun c9 da cz ch ba ci=>Az h fun cj h=>?_;have b:=b.trans (Ab hH (y.trans (z.trans (a9.trans ba))));refine Bt (r:=.Bg) (l:=e) (m:=[y86.1]) 1 rfl rfl Afy AO rfl (by decide) rfl hH ch rfl (a8.mono b) ci cj fun b2 cu bn bo bb a5=>As 1 rfl<|AK<|AF ?_;have bp:Bd a (Ha [.row b2 26 7 ((e++[y86.1])).length bn,.box b9 [No y8.1.f.1,g,Abj y8.1.f.2.2.1,j,No y8.1.f.2.2.2.2.1,No y8.1.f.2.2.2.2.2.1,k] 26,.box ba0 [Abj y86.2.1,No y86.2.2] 86,.box b1 Abl 26] O) cu:=bo.CC [2,2] rfl;have aj:=BC [2,2] bo bp rfl;have h:=BP.again h a3;have hT:=hT.trans (y.trans (z.trans (a9.trans (ba.trans (bb.trans aj)))))
   have b:=b.trans (Ab hH (bb.trans aj));have a5:=a5.mono (Ab hH aj);refine AN ((e++[y86.1]),y86.2.1,y86.2.2,b2,bn,bi) (Sub.of rfl) ⟨bp,a5,(an.mono b),(ao.mono b),(ap.mono b),hT,h⟩ (Nat.lt_succ_self _)
  refine Br<|AG<|A6 ?_;have h:=BP.out h a3;refine Be ?_;have bq:Bd a (Ha [.row o 26 7 (e).length c,.box b9 [No y8.1.f.1,g,Abj y8.1.f.2.2.1,j,No y8.1.f.2.2.2.2.1,No y8.1.f.2.2.2.2.2.1,k] 26,.box ba0 [Abj ag.2.1,No ag.2.2] 86,.box b1 Abl 26] O) ct:=a4.CC [2,2] rfl;have bc:=BC [2,2] a4 bq rfl;have b:=b.trans (Ab hH (y.trans (z.trans bc)));have hT:=hT.trans (y.trans (z.trans bc));refine A8 (e,ag.2.1,ag.2.2,o,c) (Sub.of rfl) ⟨bq,(a8.mono b),(an.mono b),(ao.mono b),(ap.mono b),hT,h⟩
 have hT:=hT.trans (aw.trans (ax.trans (bh.trans (ac.trans (x.trans ai)))));rintro⟨am,a6,a7,ad,aa⟩ c0 ⟨q,bt,aq,ar,au,hT,h⟩;refine A7 ?_;have d:=q.rG H;refine Bi 1 rfl<|Ag (Om (i:=0) rfl Afy q rfl) rfl<|A4 1 rfl<|AM rfl h (fun ck h=>?_) (fun ck h=>?_)
 ·refine Am<|Ag (AE 1 rfl AcF rfl AO q rfl) rfl<|Ah 3 rfl AO q rfl (AU rfl (AU (aq.mono d).one (AU rfl (AU (ar.mono d).one (AU rfl (AU rfl (AU (au.mono d).one Hj))))))) fun db br bd=>Ac<|Ax<|An ?_
  cases h
  refine FR<|BH rfl (.cell rfl AcF rfl AO (AL (i:=3) br rfl)) ?_;have cl:=br.AQ (i:=0) rfl;have cm:=cl.AQ (i:=0) rfl;have bu:=cm.AQ (i:=1) rfl;have d:=d.trans (Ab hH (bd.trans ((Au (i:=0) rfl).trans ((Au (i:=0) rfl).trans (Au (i:=1) rfl)))));have hT:=hT.trans (bd.trans ((Au (i:=0) rfl).trans ((Au (i:=0) rfl).trans (Au (i:=1) rfl))));exact DI ⟨g,j,k,rfl,bu,hT,(aq.mono d),(ar.mono d),(au.mono d)⟩
 refine Av<|Ao<|Bi 2 rfl<|Ag (AR rfl (fun _=>L5 _ _ (row_one (q.at (i:=0) rfl)) _)) rfl<|Ah 3 rfl AO q rfl (AU rfl (AU rfl (AU rfl (AU rfl (AU rfl (AU rfl (AU (row_one (q.at (i:=0) rfl)) Hj))))))) fun c1 ak av=>Ac<|Ax ?_
 cases h
 refine FR<|BH rfl (.cell rfl AcF rfl AO (AL (i:=3) ak rfl)) ?_;have d:=d.trans (Ab hH av);have al:=ak.Cz hH (i:=0) rfl (bt.mono d);have bv:=ak.AQ (i:=0) rfl;have bw:=bv.AQ (i:=0) rfl;have bx:=bw.AQ (i:=1) rfl;have hT:=hT.trans (av.trans ((Au (i:=0) rfl).trans ((Au (i:=0) rfl).trans (Au (i:=1) rfl))));have al:=al.mono (Ab hH ((Au (i:=0) rfl).trans (Au (i:=1) rfl)));exact DI ⟨Aa8,Aa8,ad,rfl,bx,hT,(AI.nil _ _),(AI.nil _ _),al⟩
def Cx(self:(Abk×Int)->Option (Option (Go.L.Qv×(Abk×Int))))(a0_0:Abk×Int):Option (Option (Go.L.Qv×(Abk×Int))):=
 Option.bind (C3 self (a0_0.1,a0_0.2) (8:Int) ([38]:Abk)) (fun a=>QP a (some none) (fun y9=>some (some (y9.1,(y9.2.1,y9.2.2)))))
theorem Jj{self:(Abk×Int)->Option (Option (Go.L.Qv×(Abk×Int)))}(hself:∀ {a w:World} {H:PH} (hH:Le H (hp a)) (hU:Eg H) {O:List BS} {a0:Abk×Int} {ba0:Nat} (hL:Bd a (Ha [.box ba0 [Abj a0.1,No a0.2] 86] O) w) {r:Option (Go.L.Qv×(Abk×Int))} (h:self a0=some r),SA prog 70 [Abi ba0] w (.iface 82 (.agg #[])) (fun v w'=>Ua r v (fun r v=>∃ (j:Value) (k:Value) (l:Value),v=.agg #[No r.1.f.1,j,Abj r.1.f.2.2.1,k,No r.1.f.2.2.2.2.1,No r.1.f.2.2.2.2.2.1,l]/\Bd a (Ha [.box ba0 [Abj r.2.1,No r.2.2] 86] O) w'/\Le (fz w (Ha [.box ba0 [Abj a0.1,No a0.2] 86] O)) (fz w' (Ha [.box ba0 [Abj r.2.1,No r.2.2] 86] O))/\AI .st (gz H a w' (Ha [.box ba0 [Abj r.2.1,No r.2.2] 86] O)) j (r.1.f.2.1)/\AI .byte (gz H a w' (Ha [.box ba0 [Abj r.2.1,No r.2.2] 86] O)) k (r.1.f.2.2.2.1)/\AI .Bg (gz H a w' (Ha [.box ba0 [Abj r.2.1,No r.2.2] 86] O)) l (r.1.f.2.2.2.2.2.2)) (Bd a O w'/\Le (fz w (Ha [.box ba0 [Abj a0.1,No a0.2] 86] O)) (fz w' O)))){a w:World}{H:PH}(hH:Le H (hp a))(hU:Eg H){O:List BS}{a0_0:Abk×Int}{ba0 ba0_0:Nat}(hL:Bd a (Ha [.box ba0 [Abi ba0_0] 84,.box ba0_0 [Abj a0_0.1,No a0_0.2] 86] O) w){r:Option (Go.L.Qv×(Abk×Int))}(h:Cx self a0_0=some r):
  SA prog 68 [Abi ba0] w (.iface 82 (.agg #[])) (fun v w'=>Ua r v (fun r v=>∃ (j:Value) (k:Value) (l:Value),v=.agg #[No r.1.f.1,j,Abj r.1.f.2.2.1,k,No r.1.f.2.2.2.2.1,No r.1.f.2.2.2.2.2.1,l]/\Bd a (Ha [.box ba0 [Abi ba0_0] 84,.box ba0_0 [Abj r.2.1,No r.2.2] 86] O) w'/\Le (fz w (Ha [.box ba0 [Abi ba0_0] 84,.box ba0_0 [Abj a0_0.1,No a0_0.2] 86] O)) (fz w' (Ha [.box ba0 [Abi ba0_0] 84,.box ba0_0 [Abj r.2.1,No r.2.2] 86] O))/\AI .st (gz H a w' (Ha [.box ba0 [Abi ba0_0] 84,.box ba0_0 [Abj r.2.1,No r.2.2] 86] O)) j (r.1.f.2.1)/\AI .byte (gz H a w' (Ha [.box ba0 [Abi ba0_0] 84,.box ba0_0 [Abj r.2.1,No r.2.2] 86] O)) k (r.1.f.2.2.2.1)/\AI .Bg (gz H a w' (Ha [.box ba0 [Abi ba0_0] 84,.box ba0_0 [Abj r.2.1,No r.2.2] 86] O)) l (r.1.f.2.2.2.2.2.2)) (Bd a O w'/\Le (fz w (Ha [.box ba0 [Abi ba0_0] 84,.box ba0_0 [Abj a0_0.1,No a0_0.2] 86] O)) (fz w' O))):=by
 refine I4 (n:=6) [(0,(Abi ba0))] func68 rfl rfl rfl rfl rfl ?_;have hT:=Le.refl (fz w (Ha [.box ba0 [Abi ba0_0] 84,.box ba0_0 [Abj a0_0.1,No a0_0.2] 86] O));refine Am<|AH AO rfl rfl hL fun w1 b1 m o _=>Ac<|Am ?_
 iterate 2 refine Ag (Af 1 rfl AfA rfl m rfl) rfl ?_
 refine As 1 rfl ?_;have u:Bd a (Ha [.box ba0_0 [Abj a0_0.1,No a0_0.2] 86,.box b1 Abl 26,.box ba0 [Abi ba0_0] 84] O) w1:=m.CC [2] rfl;have p:=BC [2] m u rfl;refine Ay h fun x3 ad h=>FA rfl rfl (Mc (hself:=hself) (a0:=(a0_0.1,a0_0.2)) (a1:=8) (a2:=([38]:Abk)) (O:=(Ha [.box b1 Abl 26,.box ba0 [Abi ba0_0] 84] O)) hH hU u ad) ?_ ?_
 ·rintro rfl w5 ⟨ae,x⟩;have h:=DG h;refine B6 ?_
  cases h
  refine DJ ?_;have af:=ae.AQ (i:=0) rfl;have ag:=af.AQ (i:=0) rfl;have hT:=hT.trans (o.trans (p.trans (x.trans ((Au (i:=0) rfl).trans (Au (i:=0) rfl)))));exact CM ⟨ag,hT⟩
 rintro y9 rfl _ w4 ⟨y,z,aa,rfl,ah,ab,b,c,d⟩;have h:=DH h;refine Ah 1 rfl AO ah rfl (AU rfl (AU b.one (AU rfl (AU c.one (AU rfl (AU rfl (AU d.one Hj))))))) fun ai q e=>Ac<|Ax ?_
 cases h
 refine FR<|BH rfl (.cell rfl AcF rfl AO (AL (i:=1) q rfl)) ?_;have s:=q.AQ (i:=1) rfl;have t:Bd a (Ha [.box ba0 [Abi ba0_0] 84,.box ba0_0 [Abj y9.2.1,No y9.2.2] 86] O) ai:=s.CC [1] rfl;have g:=BC [1] s t rfl;have hT:=hT.trans (o.trans (p.trans (ab.trans (e.trans ((Au (i:=1) rfl).trans g)))));have b:=b.mono (Ab hH (e.trans ((Au (i:=1) rfl).trans g)));have c:=c.mono (Ab hH (e.trans ((Au (i:=1) rfl).trans g)));have d:=d.mono (Ab hH (e.trans ((Au (i:=1) rfl).trans g)));exact DI ⟨y,z,aa,rfl,t,hT,b,c,d⟩
def EP(a1:Int)(y8:Go.L.Qv×(Abk×Int))(a:List Go.L.Qv)(b:Abk)(c:Int):Option (Option (Go.L.Qv×(Abk×Int))):=
 if(a.length:Int)=1 then some (some (y8.1,(b,c))) else some (some ((Go.L.Qv.mk a1 ([]) ([]:Abk) ([]) (0:Int) (0:Int) a),(b,c)))
def Ew(a1:Int)(a2:Abk)(self:(Abk×Int)->Option (Option (Go.L.Qv×(Abk×Int))))(y8:Go.L.Qv×(Abk×Int)):(List Go.L.Qv)×Abk×Int->Option (((List Go.L.Qv)×Abk×Int) ⊕ (Option (Go.L.Qv×(Abk×Int)))):=fun⟨b,c,d⟩=>
 Option.bind (Bl (c,d) a2) (fun a=>if a.1 then Option.bind (Cx self (a.2.1,a.2.2)) (fun e=>QP e (Option.map Sum.inr (some none)) (fun y90=>AS (Go.E.J3 112 (b.length+([y90.1]).length)) (some (Sum.inl ((b++[y90.1]),y90.2.1,y90.2.2))))) else Option.map Sum.inr ((EP a1 y8) b a.2.1 a.2.2))
def Hf(a1:Int)(a2:Abk)(self:(Abk×Int)->Option (Option (Go.L.Qv×(Abk×Int))))(y8:Go.L.Qv×(Abk×Int))(s:(List Go.L.Qv)×Abk×Int):Option (Option (Go.L.Qv×(Abk×Int))):=Go.L.run (Ew a1 a2 self y8) s
def EA(self:(Abk×Int)->Option (Option (Go.L.Qv×(Abk×Int))))(a0:Abk×Int)(a1:Int)(a2:Abk):Option (Option (Go.L.Qv×(Abk×Int))):=
 Option.bind (Cx self (a0.1,a0.2)) (fun a=>QP a (some none) (fun y8=>(Hf a1 a2 self y8) ([y8.1],y8.2.1,y8.2.2)))
theorem Np{self:(Abk×Int)->Option (Option (Go.L.Qv×(Abk×Int)))}(hself:∀ {a w:World} {H:PH} (hH:Le H (hp a)) (hU:Eg H) {O:List BS} {a0:Abk×Int} {ba0:Nat} (hL:Bd a (Ha [.box ba0 [Abj a0.1,No a0.2] 86] O) w) {r:Option (Go.L.Qv×(Abk×Int))} (h:self a0=some r),SA prog 70 [Abi ba0] w (.iface 82 (.agg #[])) (fun v w'=>Ua r v (fun r v=>∃ (u1:Value) (u3:Value) (u6:Value),v=.agg #[No r.1.f.1,u1,Abj r.1.f.2.2.1,u3,No r.1.f.2.2.2.2.1,No r.1.f.2.2.2.2.2.1,u6]/\Bd a (Ha [.box ba0 [Abj r.2.1,No r.2.2] 86] O) w'/\Le (fz w (Ha [.box ba0 [Abj a0.1,No a0.2] 86] O)) (fz w' (Ha [.box ba0 [Abj r.2.1,No r.2.2] 86] O))/\AI .st (gz H a w' (Ha [.box ba0 [Abj r.2.1,No r.2.2] 86] O)) u1 (r.1.f.2.1)/\AI .byte (gz H a w' (Ha [.box ba0 [Abj r.2.1,No r.2.2] 86] O)) u3 (r.1.f.2.2.2.1)/\AI .Bg (gz H a w' (Ha [.box ba0 [Abj r.2.1,No r.2.2] 86] O)) u6 (r.1.f.2.2.2.2.2.2)) (Bd a O w'/\Le (fz w (Ha [.box ba0 [Abj a0.1,No a0.2] 86] O)) (fz w' O)))){a w:World}{H:PH}(hH:Le H (hp a))(hU:Eg H){O:List BS}{a0:Abk×Int}{a1:Int}{a2:Abk}{ba0 ba3_c0:Nat}(hL:Bd a (Ha [.box ba0 [Abj a0.1,No a0.2] 86,.box ba3_c0 [Abi ba0] 84] O) w){r:Option (Go.L.Qv×(Abk×Int))}(h:EA self a0 a1 a2=some r):
  SA prog 69 [Abi ba0,No a1,Abj a2,.func (.func 68) #[] #[Abi ba3_c0]] w (.iface 82 (.agg #[])) (fun v w'=>Ua r v (fun r v=>∃ (u1:Value) (u3:Value) (u6:Value),v=.agg #[No r.1.f.1,u1,Abj r.1.f.2.2.1,u3,No r.1.f.2.2.2.2.1,No r.1.f.2.2.2.2.2.1,u6]/\Bd a (Ha [.box ba0 [Abj r.2.1,No r.2.2] 86,.box ba3_c0 [Abi ba0] 84] O) w'/\Le (fz w (Ha [.box ba0 [Abj a0.1,No a0.2] 86,.box ba3_c0 [Abi ba0] 84] O)) (fz w' (Ha [.box ba0 [Abj r.2.1,No r.2.2] 86,.box ba3_c0 [Abi ba0] 84] O))/\AI .st (gz H a w' (Ha [.box ba0 [Abj r.2.1,No r.2.2] 86,.box ba3_c0 [Abi ba0] 84] O)) u1 (r.1.f.2.1)/\AI .byte (gz H a w' (Ha [.box ba0 [Abj r.2.1,No r.2.2] 86,.box ba3_c0 [Abi ba0] 84] O)) u3 (r.1.f.2.2.2.1)/\AI .Bg (gz H a w' (Ha [.box ba0 [Abj r.2.1,No r.2.2] 86,.box ba3_c0 [Abi ba0] 84] O)) u6 (r.1.f.2.2.2.2.2.2)) (Bd a O w'/\Le (fz w (Ha [.box ba0 [Abj a0.1,No a0.2] 86,.box ba3_c0 [Abi ba0] 84] O)) (fz w' O))):=by
 refine I4 (n:=30) [(0,(Abi ba0)),(1,No a1),(2,(Abj a2)),(3,.func (.func 68) #[] #[Abi ba3_c0])] func69 rfl rfl rfl rfl rfl ?_;have hT:=Le.refl (fz w (Ha [.box ba0 [Abj a0.1,No a0.2] 86,.box ba3_c0 [Abi ba0] 84] O));refine Am<|AH AO rfl rfl hL fun w1 b1 cd a6 _=>Ac<|Bi 1 rfl ?_;have ce:Bd a (Ha [.box ba3_c0 [Abi ba0] 84,.box ba0 [Abj a0.1,No a0.2] 86,.box b1 Abl 26] O) w1:=cd.CC [1,2] rfl;have a7:=BC [1,2] cd ce rfl;refine Ay h fun x3 cy h=>Ql [] [Abi ba3_c0] rfl rfl rfl (Jj (hself:=hself) (a0_0:=(a0.1,a0.2)) (O:=(Ha [.box b1 Abl 26] O)) hH hU ce cy) ?_ ?_
 ·rintro rfl w5 ⟨cz,cg⟩;have h:=DG h;refine B6 ?_
  cases h
  refine DJ ?_;have c0:=cz.AQ (i:=0) rfl;have hT:=hT.trans (a6.trans (a7.trans (cg.trans (Au (i:=0) rfl))));exact CM ⟨c0,hT⟩
 rintro y8 rfl _ w4 ⟨d,e,g,rfl,c1,br,t,u,x⟩;have h:=DH h;refine AH AO rfl rfl c1 fun w9 b9 c2 ae _=>Ah 0 rfl AO c2 rfl (AU rfl (AU t.one (AU rfl (AU u.one (AU rfl (AU rfl (AU x.one Hj))))))) fun dc a8 y=>Ac ?_;have p:=a8.rG H;refine Am<|Ag (AE 0 rfl AcF rfl AO a8 rfl) rfl ?_;have t:=t.mono (Ab hH (ae.trans y));have u:=u.mono (Ab hH (ae.trans y));have x:=x.mono (Ab hH (ae.trans y));refine Kt (r:=.Bg) (l:=[y8.1]) rfl (fun _=>K5 _ _ _ _ _ _ _ _) rfl (leMax 1) hH a8 (.c7 (Go.E.Rp.F4 ⟨_,_,rfl,rfl,⟨_,_,rfl,⟨_,rfl,(t.mono p)⟩,⟨_,_,rfl,rfl,⟨_,_,rfl,⟨_,rfl,(u.mono p)⟩,⟨_,_,rfl,rfl,⟨_,_,rfl,rfl,⟨_,rfl,(x.mono p)⟩⟩⟩⟩⟩⟩⟩) .nil) fun c3 dd ch ci ak cj=>A4 1 rfl ?_
 refine Bo (σ:=(List Go.L.Qv)×Abk×Int×Value×(List Value)) (fun⟨aq,ai,aj,af,ac⟩=>[(1,No a1),(8,(Abi b1)),(9,(Abi b9)),(10,af)]) (fun⟨aq,ai,aj,af,ac⟩ wr=>DF a (Ha [.row af 26 7 (aq).length ac,.box b9 [No y8.1.f.1,d,Abj y8.1.f.2.2.1,e,No y8.1.f.2.2.2.2.1,No y8.1.f.2.2.2.2.2.1,g] 26,.box ba3_c0 [Abi ba0] 84,.box ba0 [Abj ai,No aj] 86,.box b1 Abl 26] O) wr fun Oz=>AJ .Bg (gz H a wr Oz) aq ac/\AI .st (gz H a wr Oz) d (y8.1.f.2.1)/\AI .byte (gz H a wr Oz) e (y8.1.f.2.2.2.1)/\AI .Bg (gz H a wr Oz) g (y8.1.f.2.2.2.2.2.2)/\Le (fz w (Ha [.box ba0 [Abj a0.1,No a0.2] 86,.box ba3_c0 [Abi ba0] 84] O)) (fz wr Oz)/\(EP a1 y8) aq ai aj=some r) ?_ ?_
 ·refine A5 ?_;obtain⟨bs,h⟩:=AZ h;have hT:=hT.trans (a6.trans (a7.trans (br.trans (ae.trans (y.trans ak)))));have p:=p.trans (Ab hH ak)
  refine Bx (σ:=(List Go.L.Qv)×Abk×Int×Value×(List Value)×Nat) (fun⟨k,ag,ah,j,b,n⟩=>[(0,(Abi ba0)),(1,No a1),(2,(Abj a2)),(3,.func (.func 68) #[] #[Abi ba3_c0]),(8,(Abi b1)),(9,(Abi b9)),(10,j)]) (fun⟨k,ag,ah,j,b,n⟩ wr=>DF a (Ha [.row j 26 7 (k).length b,.box b9 [No y8.1.f.1,d,Abj y8.1.f.2.2.1,e,No y8.1.f.2.2.2.2.1,No y8.1.f.2.2.2.2.2.1,g] 26,.box ba3_c0 [Abi ba0] 84,.box ba0 [Abj ag,No ah] 86,.box b1 Abl 26] O) wr fun Oz=>AJ .Bg (gz H a wr Oz) k b/\AI .st (gz H a wr Oz) d (y8.1.f.2.1)/\AI .byte (gz H a wr Oz) e (y8.1.f.2.2.2.1)/\AI .Bg (gz H a wr Oz) g (y8.1.f.2.2.2.2.2.2)/\Le (fz w (Ha [.box ba0 [Abj a0.1,No a0.2] 86,.box ba3_c0 [Abi ba0] 84] O)) (fz wr Oz)/\F6 (Ew a1 a2 self y8) n (k,ag,ah)=some r) (fun⟨k,ag,ah,j,b,n⟩=>n) ([y8.1],y8.2.1,y8.2.2,c3,ch,bs) (Sub.of rfl) ⟨ci,cj,(t.mono p),(u.mono p),(x.mono p),hT,h⟩ ?_
  rintro⟨k,ag,ah,j,b,nn74⟩ ck ⟨a9,bd,ar,au,av,hT,h⟩;obtain⟨bs,de,rfl,h,ba⟩:=AY h;refine A7 ?_;have c:=a9.rG H;refine Bi 2 rfl ?_;have bt:Bd a (Ha [.box ba0 [Abj ag,No ah] 86,.row j 26 7 (k).length b,.box b9 [No y8.1.f.1,d,Abj y8.1.f.2.2.1,e,No y8.1.f.2.2.2.2.1,No y8.1.f.2.2.2.2.2.1,g] 26,.box ba3_c0 [Abi ba0] 84,.box b1 Abl 26] O) ck:=a9.CC [3] rfl;have z:=BC [3] a9 bt rfl;refine Ay h fun q cl h=>DC rfl rfl (B4 (a0:=(ag,ah)) (a1:=a2) (O:=(Ha [.row j 26 7 (k).length b,.box b9 [No y8.1.f.1,d,Abj y8.1.f.2.2.1,e,No y8.1.f.2.2.2.2.1,No y8.1.f.2.2.2.2.2.1,g] 26,.box ba3_c0 [Abi ba0] 84,.box b1 Abl 26] O)) hH bt cl) ?_;rintro _ bu ⟨rfl,al,aa⟩;refine Ac<|Bb rfl h (fun cm h=>?_) (fun cm h=>?_)
  ·refine Av<|Ao<|A5<|Aw<|As 2 rfl ?_;have bv:Bd a (Ha [.box ba3_c0 [Abi ba0] 84,.box ba0 [Abj q.2.1,No q.2.2] 86,.row j 26 7 (k).length b,.box b9 [No y8.1.f.1,d,Abj y8.1.f.2.2.1,e,No y8.1.f.2.2.2.2.1,No y8.1.f.2.2.2.2.2.1,g] 26,.box b1 Abl 26] O) bu:=al.CC [3] rfl;have am:=BC [3] al bv rfl;refine Ay h fun df cn h=>Ql [] [Abi ba3_c0] rfl rfl rfl (Jj (hself:=hself) (a0_0:=(q.2.1,q.2.2)) (O:=(Ha [.row j 26 7 (k).length b,.box b9 [No y8.1.f.1,d,Abj y8.1.f.2.2.1,e,No y8.1.f.2.2.2.2.1,No y8.1.f.2.2.2.2.2.1,g] 26,.box b1 Abl 26] O)) hH hU bv cn) ?_ ?_
   ·rintro rfl dg ⟨co,b5⟩;have h:=DG h;refine BD<|Jc ?_;have h:=BP.out h ba;refine BD<|Fh ?_
    cases h
    refine DJ ?_;have cp:=co.AQ (i:=0) rfl;have cq:=cp.AQ (i:=0) rfl;have cr:=cq.AQ (i:=0) rfl;have hT:=hT.trans (z.trans (aa.trans (am.trans (b5.trans ((Au (i:=0) rfl).trans ((Au (i:=0) rfl).trans (Au (i:=0) rfl)))))));exact CM ⟨cr,hT⟩
   rintro y90 rfl _ dh ⟨c5,c6,c8,rfl,cs,be,bw,bx,bz⟩;have h:=DH h;refine Bp (r:=.Bg) (l:=[y90.1]) rfl (fun _=>K5 _ _ _ _ _ _ _ _) rfl (leMax 1) hH cs (.c7 (Go.E.Rp.F4 ⟨_,_,rfl,rfl,⟨_,_,rfl,⟨_,rfl,bw⟩,⟨_,_,rfl,rfl,⟨_,_,rfl,⟨_,rfl,bx⟩,⟨_,_,rfl,rfl,⟨_,_,rfl,rfl,⟨_,rfl,bz⟩⟩⟩⟩⟩⟩⟩) .nil) fun di dj da ct bf cu=>Az h fun cv h=>?_;have c:=c.trans (Ab hH (z.trans (aa.trans (am.trans (be.trans bf)))));refine Bt (r:=.Bg) (l:=k) (m:=[y90.1]) 2 rfl rfl Afy AO rfl (by decide) rfl hH ct rfl (bd.mono c) cu cv fun cf c4 b0 b2 bg bb=>As 1 rfl<|AK<|AF ?_;have b3:Bd a (Ha [.row cf 26 7 ((k++[y90.1])).length b0,.box b9 [No y8.1.f.1,d,Abj y8.1.f.2.2.1,e,No y8.1.f.2.2.2.2.1,No y8.1.f.2.2.2.2.2.1,g] 26,.box ba3_c0 [Abi ba0] 84,.box ba0 [Abj y90.2.1,No y90.2.2] 86,.box b1 Abl 26] O) c4:=b2.CC [3,3] rfl;have an:=BC [3,3] b2 b3 rfl;have h:=BP.again h ba
   have hT:=hT.trans (z.trans (aa.trans (am.trans (be.trans (bf.trans (bg.trans an))))));have c:=c.trans (Ab hH (bg.trans an));have bb:=bb.mono (Ab hH an);refine AN ((k++[y90.1]),y90.2.1,y90.2.2,cf,b0,bs) (Sub.of rfl) ⟨b3,bb,(ar.mono c),(au.mono c),(av.mono c),hT,h⟩ (Nat.lt_succ_self _)
  refine Br<|AG<|A6 ?_;have h:=BP.out h ba;refine Be ?_;have bc:Bd a (Ha [.box b9 [No y8.1.f.1,d,Abj y8.1.f.2.2.1,e,No y8.1.f.2.2.2.2.1,No y8.1.f.2.2.2.2.2.1,g] 26,.box ba3_c0 [Abi ba0] 84,.box ba0 [Abj q.2.1,No q.2.2] 86,.row j 26 7 (k).length b,.box b1 Abl 26] O) bu:=al.CC [3,3] rfl;have bh:=BC [3,3] al bc rfl;have b4:Bd a (Ha [.row j 26 7 (k).length b,.box b9 [No y8.1.f.1,d,Abj y8.1.f.2.2.1,e,No y8.1.f.2.2.2.2.1,No y8.1.f.2.2.2.2.2.1,g] 26,.box ba3_c0 [Abi ba0] 84,.box ba0 [Abj q.2.1,No q.2.2] 86,.box b1 Abl 26] O) bu:=bc.CC [3] rfl;have bi:=BC [3] bc b4 rfl;have c:=c.trans (Ab hH (z.trans (aa.trans (bh.trans bi))));have hT:=hT.trans (z.trans (aa.trans (bh.trans bi)))
  refine A8 (k,q.2.1,q.2.2,j,b) (Sub.of rfl) ⟨b4,(bd.mono c),(ar.mono c),(au.mono c),(av.mono c),hT,h⟩
 have hT:=hT.trans (a6.trans (a7.trans (br.trans (ae.trans (y.trans ak)))));rintro⟨aq,ai,aj,af,ac⟩ db ⟨s,b6,aw,ax,ay,hT,h⟩;refine A7 ?_;have o:=s.rG H;refine Bi 1 rfl<|Ag (Om (i:=0) rfl Afy s rfl) rfl<|A4 1 rfl<|AM rfl h (fun b7 h=>?_) (fun b7 h=>?_)
 ·refine Am<|Ag (AE 1 rfl AcF rfl AO s rfl) rfl<|Ah 4 rfl AO s rfl (AU rfl (AU (aw.mono o).one (AU rfl (AU (ax.mono o).one (AU rfl (AU rfl (AU (ay.mono o).one Hj))))))) fun cw bj az=>Ac<|Ax<|An ?_
  cases h
  refine FR<|BH rfl (.cell rfl AcF rfl AO (AL (i:=4) bj rfl)) ?_;have b8:=bj.AQ (i:=0) rfl;have ca:=b8.AQ (i:=0) rfl;have bk:=ca.AQ (i:=2) rfl;have bl:Bd a (Ha [.box ba0 [Abj ai,No aj] 86,.box ba3_c0 [Abi ba0] 84] O) cw:=bk.CC [1] rfl;have a3:=BC [1] bk bl rfl;have o:=o.trans (Ab hH (az.trans ((Au (i:=0) rfl).trans ((Au (i:=0) rfl).trans ((Au (i:=2) rfl).trans a3)))));have hT:=hT.trans (az.trans ((Au (i:=0) rfl).trans ((Au (i:=0) rfl).trans ((Au (i:=2) rfl).trans a3))));exact DI ⟨d,e,g,rfl,bl,hT,(aw.mono o),(ax.mono o),(ay.mono o)⟩
 refine Av<|Ao<|Bi 2 rfl<|Ag (AR rfl (fun _=>L5 _ _ (row_one (s.at (i:=0) rfl)) _)) rfl<|Ah 4 rfl AO s rfl (AU rfl (AU rfl (AU rfl (AU rfl (AU rfl (AU rfl (AU (row_one (s.at (i:=0) rfl)) Hj))))))) fun cx ao a4=>Ac<|Ax ?_
 cases h
 refine FR<|BH rfl (.cell rfl AcF rfl AO (AL (i:=4) ao rfl)) ?_;have o:=o.trans (Ab hH a4);have ap:=ao.Cz hH (i:=0) rfl (b6.mono o);have cb:=ao.AQ (i:=0) rfl;have cc:=cb.AQ (i:=0) rfl;have bm:=cc.AQ (i:=2) rfl;have bn:Bd a (Ha [.box ba0 [Abj ai,No aj] 86,.box ba3_c0 [Abi ba0] 84] O) cx:=bm.CC [1] rfl;have a5:=BC [1] bm bn rfl;have hT:=hT.trans (a4.trans ((Au (i:=0) rfl).trans ((Au (i:=0) rfl).trans ((Au (i:=2) rfl).trans a5))));have ap:=ap.mono (Ab hH ((Au (i:=0) rfl).trans ((Au (i:=2) rfl).trans a5)));exact DI ⟨Aa8,Aa8,af,rfl,bn,hT,(AI.nil _ _),(AI.nil _ _),ap⟩
def CF(self:(Abk×Int)->Option (Option (Go.L.Qv×(Abk×Int))))(a0:Abk×Int):Option (Option (Go.L.Qv×(Abk×Int))):=
 Option.bind (EA self (a0.1,a0.2) (9:Int) ([124]:Abk)) (fun a=>QP a (some none) (fun y9=>some (some (y9.1,(y9.2.1,y9.2.2)))))
theorem Km{self:(Abk×Int)->Option (Option (Go.L.Qv×(Abk×Int)))}(hself:∀ {a w:World} {H:PH} (hH:Le H (hp a)) (hU:Eg H) {O:List BS} {a0:Abk×Int} {ba0:Nat} (hL:Bd a (Ha [.box ba0 [Abj a0.1,No a0.2] 86] O) w) {r:Option (Go.L.Qv×(Abk×Int))} (h:self a0=some r),SA prog 70 [Abi ba0] w (.iface 82 (.agg #[])) (fun v w'=>Ua r v (fun r v=>∃ (g:Value) (j:Value) (k:Value),v=.agg #[No r.1.f.1,g,Abj r.1.f.2.2.1,j,No r.1.f.2.2.2.2.1,No r.1.f.2.2.2.2.2.1,k]/\Bd a (Ha [.box ba0 [Abj r.2.1,No r.2.2] 86] O) w'/\Le (fz w (Ha [.box ba0 [Abj a0.1,No a0.2] 86] O)) (fz w' (Ha [.box ba0 [Abj r.2.1,No r.2.2] 86] O))/\AI .st (gz H a w' (Ha [.box ba0 [Abj r.2.1,No r.2.2] 86] O)) g (r.1.f.2.1)/\AI .byte (gz H a w' (Ha [.box ba0 [Abj r.2.1,No r.2.2] 86] O)) j (r.1.f.2.2.2.1)/\AI .Bg (gz H a w' (Ha [.box ba0 [Abj r.2.1,No r.2.2] 86] O)) k (r.1.f.2.2.2.2.2.2)) (Bd a O w'/\Le (fz w (Ha [.box ba0 [Abj a0.1,No a0.2] 86] O)) (fz w' O)))){a w:World}{H:PH}(hH:Le H (hp a))(hU:Eg H){O:List BS}{a0:Abk×Int}{ba0:Nat}(hL:Bd a (Ha [.box ba0 [Abj a0.1,No a0.2] 86] O) w){r:Option (Go.L.Qv×(Abk×Int))}(h:CF self a0=some r):
  SA prog 39 [Abi ba0] w (.iface 82 (.agg #[])) (fun v w'=>Ua r v (fun r v=>∃ (g:Value) (j:Value) (k:Value),v=.agg #[No r.1.f.1,g,Abj r.1.f.2.2.1,j,No r.1.f.2.2.2.2.1,No r.1.f.2.2.2.2.2.1,k]/\Bd a (Ha [.box ba0 [Abj r.2.1,No r.2.2] 86] O) w'/\Le (fz w (Ha [.box ba0 [Abj a0.1,No a0.2] 86] O)) (fz w' (Ha [.box ba0 [Abj r.2.1,No r.2.2] 86] O))/\AI .st (gz H a w' (Ha [.box ba0 [Abj r.2.1,No r.2.2] 86] O)) g (r.1.f.2.1)/\AI .byte (gz H a w' (Ha [.box ba0 [Abj r.2.1,No r.2.2] 86] O)) j (r.1.f.2.2.2.1)/\AI .Bg (gz H a w' (Ha [.box ba0 [Abj r.2.1,No r.2.2] 86] O)) k (r.1.f.2.2.2.2.2.2)) (Bd a O w'/\Le (fz w (Ha [.box ba0 [Abj a0.1,No a0.2] 86] O)) (fz w' O))):=by
 refine I4 (n:=8) [(0,(Abi ba0))] func39 rfl rfl rfl rfl rfl ?_;have hT:=Le.refl (fz w (Ha [.box ba0 [Abj a0.1,No a0.2] 86] O));refine Am<|UG (t:=84) rfl rfl rfl hL fun w1 b1 ad l _=>AH AO rfl rfl ad fun w2 b2 m o _=>Ac<|AD 2 rfl<|Am<|Ag (Af 1 rfl AfA rfl m rfl) rfl<|As 1 rfl ?_;have s:Bd a (Ha [.box ba0 [Abj a0.1,No a0.2] 86,.box b1 [Abi ba0] 84,.box b2 Abl 26] O) w2:=m.CC [1,2] rfl;have p:=BC [1,2] m s rfl;refine Ay h fun x4 af h=>FA rfl rfl (Np (hself:=hself) (a0:=(a0.1,a0.2)) (a1:=9) (a2:=([124]:Abk)) (O:=(Ha [.box b2 Abl 26] O)) hH hU s af) ?_ ?_
 ·rintro rfl w6 ⟨ag,u⟩;have h:=DG h;refine B6 ?_
  cases h
  refine DJ ?_;have ah:=ag.AQ (i:=0) rfl;have hT:=hT.trans (l.trans (o.trans (p.trans (u.trans (Au (i:=0) rfl)))));exact CM ⟨ah,hT⟩
 rintro y9 rfl _ w5 ⟨x,y,z,rfl,ai,aa,b,c,d⟩;have h:=DH h;refine Ah 2 rfl AO ai rfl (AU rfl (AU b.one (AU rfl (AU c.one (AU rfl (AU rfl (AU d.one Hj))))))) fun al q e=>Ac<|Ax ?_
 cases h
 refine FR<|BH rfl (.cell rfl AcF rfl AO (AL (i:=2) q rfl)) ?_;have ab:=q.AQ (i:=1) rfl;have ac:=ab.AQ (i:=1) rfl;have hT:=hT.trans (l.trans (o.trans (p.trans (aa.trans (e.trans ((Au (i:=1) rfl).trans (Au (i:=1) rfl)))))));have b:=b.mono (Ab hH (e.trans ((Au (i:=1) rfl).trans (Au (i:=1) rfl))));have c:=c.mono (Ab hH (e.trans ((Au (i:=1) rfl).trans (Au (i:=1) rfl))));have d:=d.mono (Ab hH (e.trans ((Au (i:=1) rfl).trans (Au (i:=1) rfl))));exact DI ⟨x,y,z,rfl,ac,hT,b,c,d⟩
def B7(a0:Abk×Int)(a1:Abk):Option (Option ((Abk×Int))):=
 Option.bind (Bl (a0.1,a0.2) a1) (fun a=>if !a.1 then some none else some (some ((a.2.1,a.2.2))))
theorem ER{b w:World}{H:PH}(hH:Le H (hp b)){O:List BS}{a0:Abk×Int}{a1:Abk}{ba0:Nat}(hL:Bd b (Ha [.box ba0 [Abj a0.1,No a0.2] 86] O) w){r:Option ((Abk×Int))}(h:B7 a0 a1=some r):
  SA prog 112 [Abi ba0,Abj a1] w (.iface 82 (.agg #[])) (fun v w'=>Ua r v (fun r v=>v=.tuple #[]/\Bd b (Ha [.box ba0 [Abj r.1,No r.2] 86] O) w'/\Le (fz w (Ha [.box ba0 [Abj a0.1,No a0.2] 86] O)) (fz w' (Ha [.box ba0 [Abj r.1,No r.2] 86] O))) (Bd b O w'/\Le (fz w (Ha [.box ba0 [Abj a0.1,No a0.2] 86] O)) (fz w' O))):=by
 refine I4 (n:=10) [(0,(Abi ba0)),(1,(Abj a1))] func112 rfl rfl rfl rfl rfl ?_;have hT:=Le.refl (fz w (Ha [.box ba0 [Abj a0.1,No a0.2] 86] O));refine Bi 2 rfl<|Ay h fun g d h=>DC rfl rfl (B4 (a0:=(a0.1,a0.2)) (a1:=a1) (O:=(Ha [] O)) hH hL d) ?_;rintro _ j ⟨rfl,c,a⟩;refine A4 1 rfl<|Bb rfl h (fun e h=>?_) (fun e h=>?_)
 ·refine Aw<|Ag (AR rfl (fun _=>OY _)) rfl<|Ag (Ub rfl AfB rfl) rfl<|OS rfl rfl ?_
  cases h
  refine DJ ?_;have f:=c.AQ (i:=0) rfl;have hT:=hT.trans (a.trans (Au (i:=0) rfl));exact CM ⟨f,hT⟩
 refine Av ?_
 cases h
 refine Ab6<|JO rfl ?_;have hT:=hT.trans a;exact DI ⟨rfl,c,hT⟩
def Dd(a0:Abk×Int)(a:Int):Option (Abk×(Abk×Int)):=
 AS (0<=a/\a<=(a0.1.length:Int)) (AS (0<=a/\a<=(a0.1.length:Int)) (some ((a0.1.take a.toNat),((a0.1.drop a.toNat),a0.2))))
def Cn(a0:Abk×Int)(a1:Abk):Option (Abk×(Abk×Int)):=
 Option.bind (NH a0.1 a1) (fun a=>if a<0 then(Dd a0) (a0.1.length:Int) else(Dd a0) a)
theorem Fy{e w:World}{H:PH}(hH:Le H (hp e)){O:List BS}{a0:Abk×Int}{a1:Abk}{ba0:Nat}(hL:Bd e (Ha [.box ba0 [Abj a0.1,No a0.2] 86] O) w){r:Abk×(Abk×Int)}(h:Cn a0 a1=some r):
  Ok prog 114 [Abi ba0,Abj a1] w (fun v w'=>v=(Abj r.1)/\Bd e (Ha [.box ba0 [Abj r.2.1,No r.2.2] 86] O) w'/\Le (fz w (Ha [.box ba0 [Abj a0.1,No a0.2] 86] O)) (fz w' (Ha [.box ba0 [Abj r.2.1,No r.2.2] 86] O))):=by
 refine Ez (n:=36) [(0,(Abi ba0)),(1,(Abj a1))] func114 rfl rfl rfl rfl rfl ?_;have hT:=Le.refl (fz w (Ha [.box ba0 [Abj a0.1,No a0.2] 86] O));refine AD 1 rfl<|Bi 1 rfl<|Ag (CB rfl) rfl<|Ag (Ae rfl Af9 rfl EZ) rfl<|Ag (Af 0 rfl Ab1 rfl hL rfl) rfl<|As 1 rfl<|Ay h fun m l h=>AA rfl rfl hL (YE _ _ (Ar hH hL) l) fun s o c b=>A4 1 rfl<|Bo (σ:=Int) (fun a=>[(0,(Abi ba0)),(5,No a)]) (fun a wr=>DF e (Ha [.box ba0 [Abj a0.1,No a0.2] 86] O) wr fun Oz=>Le (fz w (Ha [.box ba0 [Abj a0.1,No a0.2] 86] O)) (fz wr Oz)/\(Dd a0) a=some r) ?_ ?_
 ·refine AD 2 rfl<|AM rfl h (fun g h=>?_) (fun g h=>?_)
  ·refine Aw<|As 1 rfl<|Ag (CB rfl) rfl<|Ag (Ae rfl Af9 rfl EZ) rfl<|Ag (Af 0 rfl Ab1 rfl c rfl) rfl<|Ag (Cv rfl Ab1) rfl<|As 1 rfl<|AK ?_;have hT:=hT.trans b;refine A8 (a0.1.length:Int) (Sub.of rfl) ⟨c,hT,h⟩
  refine Av ?_;have hT:=hT.trans b;refine A8 m (Sub.of rfl) ⟨c,hT,h⟩
 have hT:=hT.trans b;rintro a p ⟨d,hT,h⟩;refine Bi 1 rfl<|Ag (CB rfl) rfl<|Ag (Ae rfl Af9 rfl EZ) rfl<|Ag (Af 0 rfl Ab1 rfl d rfl) rfl<|As 1 rfl<|Az h fun i h=>Ag (WV rfl rfl Ab1 i) rfl<|A4 1 rfl<|Bi 2 rfl<|Ag (CB rfl) rfl<|Ag (Ae rfl Af9 rfl EZ) rfl<|Ag (Af 0 rfl Ab1 rfl d rfl) rfl<|As 1 rfl<|Az h fun j h=>Ag (QU rfl rfl Ab1 j) rfl<|Ag (CB rfl) rfl<|Ag (Ae rfl Af9 rfl EZ) rfl<|Bm 0 rfl rfl rfl EZ d rfl rfl fun q k f=>Ac<|AD 2 rfl<|Ax ?_
 cases h
 refine Ak rfl ?_;have hT:=hT.trans f;exact⟨rfl,k,hT⟩
def C4(b:Abk)(c:Bool×(Abk×Int))(d:Abk)(a:UInt8):Option ((Abk×Abk×Int) ⊕ (Option (Abk×(Abk×Int)))):=
 AS (Go.E.J3 1 (b.length+([a]).length)) (some (Sum.inl ((b++[a]),d,c.2.2)))
def D4(d:Abk)(b:Bool×(Abk×Int))(a c:Int):Option ((Abk×Abk×Int) ⊕ (Option (Abk×(Abk×Int)))):=
 AS (B0 (a * 16)) (AS ((0<=(a * 16)/\(a * 16)<2 ^ 63)/\(0<=c/\c<2 ^ 63)) (AS (0<=(2:Int)/\(2:Int)<=((b.2.1.drop (1:Int).toNat).length:Int)) ((C4 d b) ((b.2.1.drop (1:Int).toNat).drop (2:Int).toNat) (Go.L.u8 (((a * 16).toNat ||| c.toNat:Nat):Int)))))
def D5(d:Abk)(a:Bool×(Abk×Int)):Option ((Abk×Abk×Int) ⊕ (Option (Abk×(Abk×Int)))):=
 AS (0<=(0:Int)/\(0:Int)<((a.2.1.drop (1:Int).toNat).length:Int)) (Option.bind (OA ([48,49,50,51,52,53,54,55,56,57,97,98,99,100,101,102]:Abk) ((a.2.1.drop (1:Int).toNat).getD (0:Int).toNat default)) (fun b=>AS (0<=(1:Int)/\(1:Int)<((a.2.1.drop (1:Int).toNat).length:Int)) (Option.bind (OA ([48,49,50,51,52,53,54,55,56,57,97,98,99,100,101,102]:Abk) ((a.2.1.drop (1:Int).toNat).getD (1:Int).toNat default)) (fun c=>if(b<0)\/(c<0) then Option.map Sum.inr (some none) else(D4 d a b c)))))
def CK(b:Abk)(a:Bool×(Abk×Int)):Option ((Abk×Abk×Int) ⊕ (Option (Abk×(Abk×Int)))):=
 AS (0<=(0:Int)/\(0:Int)<(a.2.1.length:Int)) (AS (0<=(1:Int)/\(1:Int)<=(a.2.1.length:Int)) (if((a.2.1.getD (0:Int).toNat default).toNat:Int)=92 then(if((a.2.1.drop (1:Int).toNat).length:Int)<2 then Option.map Sum.inr (some none) else(D5 b a)) else(C4 b a) (a.2.1.drop (1:Int).toNat) (a.2.1.getD (0:Int).toNat default)))
def ES(a:Abk)(b:Abk)(c:Int):Option (Option (Abk×(Abk×Int))):=
 some (some (a,(b,c)))
def Ca:Abk×Abk×Int->Option ((Abk×Abk×Int) ⊕ (Option (Abk×(Abk×Int)))):=fun⟨b,c,d⟩=>
 Option.bind (Bl (c,d) ([39]:Abk)) (fun a=>if !a.1 then(if a.2.1=([]:Abk) then Option.map Sum.inr (some none) else(CK b a)) else Option.map Sum.inr (ES b a.2.1 a.2.2))
def D6(s:Abk×Abk×Int):Option (Option (Abk×(Abk×Int))):=Go.L.run Ca s
def D7(a0:Abk×Int):Option (Option (Abk×(Abk×Int))):=
 D6 (([]:Abk),a0.1,a0.2)
theorem JI{p w:World}{H:PH}(hH:Le H (hp p)){O:List BS}{a0:Abk×Int}{ba0:Nat}(hL:Bd p (Ha [.box ba0 [Abj a0.1,No a0.2] 86] O) w){r:Option (Abk×(Abk×Int))}(h:D7 a0=some r):
  SA prog 115 [Abi ba0] w (.iface 82 (.agg #[])) (fun v w'=>Ua r v (fun r v=>∃ (u0:Value) (y0:List Value),v=u0/\Bd p (Ha [.row u0 5 1 (r.1).length y0,.box ba0 [Abj r.2.1,No r.2.2] 86] O) w'/\Le (fz w (Ha [.box ba0 [Abj a0.1,No a0.2] 86] O)) (fz w' (Ha [.row u0 5 1 (r.1).length y0,.box ba0 [Abj r.2.1,No r.2.2] 86] O))/\AJ .byte (gz H p w' (Ha [.row u0 5 1 (r.1).length y0,.box ba0 [Abj r.2.1,No r.2.2] 86] O)) (r.1) y0) (Bd p O w'/\Le (fz w (Ha [.box ba0 [Abj a0.1,No a0.2] 86] O)) (fz w' O))):=by
 refine I4 (n:=78) [(0,(Abi ba0))] func115 rfl rfl rfl rfl rfl ?_;have hT:=Le.refl (fz w (Ha [.box ba0 [Abj a0.1,No a0.2] 86] O));refine AD 1 rfl<|Bi 1 rfl ?_;obtain⟨b7,a8,b8⟩:=C0 .byte H 5 hL;refine Ac<|Bo (σ:=Abk×Abk×Int×Value×(List Value)) (fun⟨af,ag,ah,z,s⟩=>[(3,z)]) (fun⟨af,ag,ah,z,s⟩ wr=>DF p (Ha [.row z 5 1 (af).length s,.box ba0 [Abj ag,No ah] 86] O) wr fun Oz=>AJ .byte (gz H p wr Oz) af s/\Le (fz w (Ha [.box ba0 [Abj a0.1,No a0.2] 86] O)) (fz wr Oz)/\ES af ag ah=some r) ?_ ?_
 ·refine A5 ?_;obtain⟨ap,h⟩:=AZ h;have hT:=hT.trans a8;refine Bx (σ:=Abk×Abk×Int×Value×(List Value)×Nat) (fun⟨d,x,y,e,b,n⟩=>[(0,(Abi ba0)),(3,e)]) (fun⟨d,x,y,e,b,n⟩ wr=>DF p (Ha [.row e 5 1 (d).length b,.box ba0 [Abj x,No y] 86] O) wr fun Oz=>AJ .byte (gz H p wr Oz) d b/\Le (fz w (Ha [.box ba0 [Abj a0.1,No a0.2] 86] O)) (fz wr Oz)/\F6 Ca n (d,x,y)=some r) (fun⟨d,x,y,e,b,n⟩=>n) (([]:Abk),a0.1,a0.2,Aa8,[],ap) (Sub.of rfl) ⟨b7,b8,hT,h⟩ ?_;rintro⟨d,x,y,e,b,nn155⟩ bd ⟨au,a,hT,h⟩;obtain⟨ap,ai,rfl,h,aa⟩:=AY h;refine A7<|Bi 1 rfl ?_;have av:Bd p (Ha [.box ba0 [Abj x,No y] 86,.row e 5 1 (d).length b] O) bd:=au.CC [1] rfl;have k:=BC [1] au av rfl;refine Ay h fun f be h=>DC rfl rfl (B4 (a0:=(x,y)) (a1:=([39]:Abk)) (O:=(Ha [.row e 5 1 (d).length b] O)) hH av be) ?_;rintro _ b5 ⟨rfl,ab,o⟩;refine A4 1 rfl<|Bb rfl h (fun bf h=>?_) (fun bf h=>?_)
  ·refine Av<|Ao<|A5<|Bo (σ:=Unit) (fun(_:Unit)=>[(0,(Abi ba0)),(3,e)]) (fun(_:Unit) wr=>DF p (Ha [.box ba0 [Abj f.2.1,No f.2.2] 86,.row e 5 1 (d).length b] O) wr fun Oz=>AJ .byte (gz H p wr Oz) d b/\Le (fz w (Ha [.box ba0 [Abj a0.1,No a0.2] 86] O)) (fz wr Oz)/\(CK d f)=some ai) ?_ ?_
   ·refine Bi 1 rfl<|Ag (CB rfl) rfl<|Ag (Ae rfl Af9 rfl EZ) rfl<|Ag (Af 0 rfl Ab1 rfl ab rfl) rfl<|Ag (Mm rfl rfl) rfl<|Ac<|AM rfl h (fun bg h=>?_) (fun bg h=>?_)
    ·refine Aw<|Ag (AR rfl (fun _=>OY _)) rfl<|Ag (Ub rfl AfB rfl) rfl<|OS rfl rfl<|Fh<|BD<|Jc ?_;have h:=BP.out h aa;refine BD<|Fh ?_
     cases h
     refine DJ ?_;have bh:=ab.AQ (i:=0) rfl;have bi:=bh.AQ (i:=0) rfl;have hT:=hT.trans (k.trans (o.trans ((Au (i:=0) rfl).trans (Au (i:=0) rfl))));exact CM ⟨bi,hT⟩
    refine Av ?_;have a:=a.mono (Ab hH (k.trans o));have hT:=hT.trans (k.trans o);refine A8 () (Sub.of rfl) ⟨ab,a,hT,h⟩
   have a:=a.mono (Ab hH (k.trans o));have hT:=hT.trans (k.trans o);rintro _ b9 ⟨aj,a,hT,h⟩;refine Bi 1 rfl<|Ag (CB rfl) rfl<|Ag (Ae rfl Af9 rfl EZ) rfl<|Ag (Af 0 rfl Ab1 rfl aj rfl) rfl<|Az h fun bj h=>Ag (Dz rfl rfl Ab1 bj) rfl<|A4 1 rfl<|Bi 2 rfl<|Ag (CB rfl) rfl<|Ag (Ae rfl Af9 rfl EZ) rfl<|Ag (Af 0 rfl Ab1 rfl aj rfl) rfl<|Az h fun bk h=>Ag (QU rfl rfl Ab1 bk) rfl<|Ag (CB rfl) rfl<|Ag (Ae rfl Af9 rfl EZ) rfl<|Bm 0 rfl rfl rfl EZ aj rfl rfl fun ch ad g=>Ac<|Bo (σ:=Abk×UInt8) (fun⟨ac,j⟩=>[(0,(Abi ba0)),(3,e),(4,.int .u8 (j.toNat:Int))]) (fun⟨ac,j⟩ wr=>DF p (Ha [.box ba0 [Abj ac,No f.2.2] 86,.row e 5 1 (d).length b] O) wr fun Oz=>AJ .byte (gz H p wr Oz) d b/\Le (fz w (Ha [.box ba0 [Abj a0.1,No a0.2] 86] O)) (fz wr Oz)/\(C4 d f) ac j=some ai) ?_ ?_
   ·refine AD 2 rfl<|AM rfl h (fun bl h=>?_) (fun bl h=>?_)
    ·refine Bo (σ:=Unit) (fun(_:Unit)=>[(0,(Abi ba0)),(3,e)]) (fun(_:Unit) wr=>DF p (Ha [.box ba0 [.string ⟨((f.2.1.drop (1:Int).toNat)).toArray⟩,No f.2.2] 86,.row e 5 1 (d).length b] O) wr fun Oz=>AJ .byte (gz H p wr Oz) d b/\Le (fz w (Ha [.box ba0 [Abj a0.1,No a0.2] 86] O)) (fz wr Oz)/\(D5 d f)=some ai) ?_ ?_
     ·refine Bi 1 rfl<|Ag (CB rfl) rfl<|Ag (Ae rfl Af9 rfl EZ) rfl<|Ag (Af 0 rfl Ab1 rfl ad rfl) rfl<|Ag (Cv rfl Ab1) rfl<|A4 1 rfl<|AM rfl h (fun bm h=>?_) (fun bm h=>?_)
      ·refine Aw<|Ag (AR rfl (fun _=>OY _)) rfl<|Ag (Ub rfl AfB rfl) rfl<|OS rfl rfl ?_
       iterate 2 refine Fh ?_
       refine BD<|Jc ?_;have h:=BP.out h aa;refine BD<|Fh ?_
       cases h
       refine DJ ?_;have bn:=ad.AQ (i:=0) rfl;have bo:=bn.AQ (i:=0) rfl;have hT:=hT.trans (g.trans ((Au (i:=0) rfl).trans (Au (i:=0) rfl)));exact CM ⟨bo,hT⟩
      refine Av ?_;have a:=a.mono (Ab hH g);have hT:=hT.trans g;refine A8 () (Sub.of rfl) ⟨ad,a,hT,h⟩
     have a:=a.mono (Ab hH g);have hT:=hT.trans g;rintro _ ca ⟨aw,a,hT,h⟩;refine DD (.q 0 (.q 1 (.q 2 (.q 3 (.q 4 (.q 5 (.q 6 (.q 7 (.q 8 (.q 9 (.q 10 (.q 11 (.q 12 (.q 13 (.tail 14))))))))))))))) mixed (by kernel_rfl) (fun ci ax=>?_);have ae:=aw.call ax;have t:=AT aw ax;refine Df 1 rfl<|BQ (CB rfl) rfl rfl<|BQ (Ae rfl Af9 rfl EZ) rfl rfl<|BQ (Af 0 rfl Ab1 rfl ae rfl) rfl rfl<|Az h fun bp h=>BQ (Dz rfl rfl Ab1 bp) rfl rfl<|Ay h fun aq bq h=>Ec rfl rfl rfl (fun cj cb=>Sk _ _ (Le.refl _) bq)<|Df 1 rfl<|BQ (CB rfl) rfl rfl<|BQ (Ae rfl Af9 rfl EZ) rfl rfl<|BQ (Af 0 rfl Ab1 rfl ae rfl) rfl rfl<|Az h fun br h=>BQ (Dz rfl rfl Ab1 br) rfl rfl<|Ay h fun ar bs h=>Ec rfl rfl rfl (fun ck cc=>Sk _ _ (Le.refl _) bs)<|Df 2 rfl<|Cd (fun cl ay=>?_);have az:=ae.call ay;have u:=AT ae ay;refine Ac ?_
     refine Bo (σ:=Unit) (fun(_:Unit)=>[(0,(Abi ba0)),(3,e),(5,No aq),(6,No ar)]) (fun(_:Unit) wr=>DF p (Ha [.box ba0 [.string ⟨((f.2.1.drop (1:Int).toNat)).toArray⟩,No f.2.2] 86,.row e 5 1 (d).length b] O) wr fun Oz=>AJ .byte (gz H p wr Oz) d b/\Le (fz w (Ha [.box ba0 [Abj a0.1,No a0.2] 86] O)) (fz wr Oz)/\(D4 d f aq ar)=some ai) ?_ ?_
     ·refine Bi 3 rfl<|MT 2 2 rfl rfl rfl rfl rfl rfl<|Ac<|AM rfl h (fun bt h=>?_) (fun bt h=>?_)
      ·refine Aw<|Ag (AR rfl (fun _=>OY _)) rfl<|Ag (Ub rfl AfB rfl) rfl<|OS rfl rfl ?_
       iterate 2 refine Fh ?_
       refine BD<|Jc ?_;have h:=BP.out h aa;refine BD<|Fh ?_
       cases h
       refine DJ ?_;have bu:=az.AQ (i:=0) rfl;have bv:=bu.AQ (i:=0) rfl;have hT:=hT.trans (t.trans (u.trans ((Au (i:=0) rfl).trans (Au (i:=0) rfl))));exact CM ⟨bv,hT⟩
      refine Av ?_;have a:=a.mono (Ab hH (t.trans u));have hT:=hT.trans (t.trans u);refine A8 () (Sub.of rfl) ⟨az,a,hT,h⟩
     have a:=a.mono (Ab hH (t.trans u));have hT:=hT.trans (t.trans u);rintro _ cd ⟨a2,a,hT,h⟩;refine Bi 1 rfl<|Az h fun a3 h=>Ag (AcC (c:=4) (m:=16) rfl rfl rfl (by decide) (wrap64 a3.1 a3.2)) rfl<|As 1 rfl<|Az h fun bw h=>Ag (Adh rfl rfl rfl bw) rfl<|Ag (DE Abn Ac5 rfl (Hm _)) rfl<|A4 1 rfl<|Aw<|As 2 rfl<|Ag (CB rfl) rfl<|Ag (Ae rfl Af9 rfl EZ) rfl<|Ag (Af 0 rfl Ab1 rfl a2 rfl) rfl<|Az h fun bx h=>Ag (QU rfl rfl Ab1 bx) rfl<|Ag (CB rfl) rfl<|Ag (Ae rfl Af9 rfl EZ) rfl<|Bm 0 rfl rfl rfl EZ a2 rfl rfl fun cm bz al=>AK ?_;have a:=a.mono (Ab hH al);have hT:=hT.trans al;refine A8 (((f.2.1.drop (1:Int).toNat).drop (2:Int).toNat),(Go.L.u8 (((aq * 16).toNat ||| ar.toNat:Nat):Int))) (Sub.of rfl) ⟨bz,a,hT,h⟩
    refine Av ?_;have a:=a.mono (Ab hH g);have hT:=hT.trans g;refine A8 ((f.2.1.drop (1:Int).toNat),(f.2.1.getD (0:Int).toNat default)) (Sub.of rfl) ⟨ad,a,hT,h⟩
   have a:=a.mono (Ab hH g);have hT:=hT.trans g;rintro⟨ac,j⟩ ce ⟨b0,a,hT,h⟩;refine Aw<|As 2 rfl<|Bp (r:=.byte) (l:=[j]) rfl (fun _=>EC _ _) rfl (leMax 1) hH b0 (.c1 rfl .nil) fun cn co cf b1 am b2=>Az h fun b3 h=>?_;have a:=a.mono (Ab hH am);refine Bt (r:=.byte) (l:=d) (m:=[j]) 1 rfl rfl AbF LH rfl (by decide) rfl hH b1 rfl a b2 b3 fun a9 b6 a4 a5 ba ak=>As 1 rfl<|AK<|AF ?_;have a6:Bd p (Ha [.row a9 5 1 ((d++[j])).length a4,.box ba0 [Abj ac,No f.2.2] 86] O) b6:=a5.CC [1] rfl;have an:=BC [1] a5 a6 rfl;have h:=BP.again h aa;have hT:=hT.trans (am.trans (ba.trans an));have ak:=ak.mono (Ab hH an);refine AN ((d++[j]),ac,f.2.2,a9,a4,ap) (Sub.of rfl) ⟨a6,ak,hT,h⟩ (Nat.lt_succ_self _)
  refine Br<|AG<|A6 ?_;have h:=BP.out h aa;refine Be ?_;have a7:Bd p (Ha [.row e 5 1 (d).length b,.box ba0 [Abj f.2.1,No f.2.2] 86] O) b5:=ab.CC [1] rfl;have ao:=BC [1] ab a7 rfl;have a:=a.mono (Ab hH (k.trans (o.trans ao)));have hT:=hT.trans (k.trans (o.trans ao));refine A8 (d,f.2.1,f.2.2,e,b) (Sub.of rfl) ⟨a7,a,hT,h⟩
 have hT:=hT.trans a8;rintro⟨af,ag,ah,z,s⟩ cg ⟨b4,bb,hT,h⟩;refine AD 2 rfl<|Ax ?_
 cases h
 refine FR<|Ak rfl<|DI ⟨z,s,rfl,b4,hT,bb⟩
def D8(a0:Abk×Int)(a:Int)(b:Int×Bool):Option (Option (Int×(Abk×Int))):=
 AS (0<=a/\a<=(a0.1.length:Int)) (some (some (b.1,((a0.1.drop a.toNat),a0.2))))
def BE(a0:Abk×Int)(a:Int):Option (Option (Int×(Abk×Int))):=
 AS (0<=a/\a<=(a0.1.length:Int)) (Option.bind (XW (a0.1.take a.toNat)) (fun b=>if b.2 then(D8 a0 a b) else some none))
def B9(a0:Abk×Int):Int->Option ((Int) ⊕ (Option (Int×(Abk×Int)))):=fun a=>
 if a<(a0.1.length:Int) then AS (0<=a/\a<(a0.1.length:Int)) (if 48<=((a0.1.getD a.toNat default).toNat:Int) then AS (0<=a/\a<(a0.1.length:Int)) (if((a0.1.getD a.toNat default).toNat:Int)<=57 then AS (B0 (a+1)) (some (Sum.inl (a+1))) else if a=0 then AS (0<=a/\a<(a0.1.length:Int)) (if((a0.1.getD a.toNat default).toNat:Int)=45 then AS (B0 (a+1)) (some (Sum.inl (a+1))) else Option.map Sum.inr ((BE a0) a)) else Option.map Sum.inr ((BE a0) a)) else if a=0 then AS (0<=a/\a<(a0.1.length:Int)) (if((a0.1.getD a.toNat default).toNat:Int)=45 then AS (B0 (a+1)) (some (Sum.inl (a+1))) else Option.map Sum.inr ((BE a0) a)) else Option.map Sum.inr ((BE a0) a)) else Option.map Sum.inr ((BE a0) a)
def C5(a0:Abk×Int)(s:Int):Option (Option (Int×(Abk×Int))):=Go.L.run (B9 a0) s
def Cc(a0:Abk×Int):Option (Option (Int×(Abk×Int))):=
 (C5 a0) (0:Int)
theorem Hg{p w:World}{H:PH}(hH:Le H (hp p))(hU:Eg H){O:List BS}{a0:Abk×Int}{ba0:Nat}(hL:Bd p (Ha [.box ba0 [Abj a0.1,No a0.2] 86] O) w){r:Option (Int×(Abk×Int))}(h:Cc a0=some r):
  SA prog 117 [Abi ba0] w (.iface 82 (.agg #[])) (fun v w'=>Ua r v (fun r v=>v=No r.1/\Bd p (Ha [.box ba0 [Abj r.2.1,No r.2.2] 86] O) w'/\Le (fz w (Ha [.box ba0 [Abj a0.1,No a0.2] 86] O)) (fz w' (Ha [.box ba0 [Abj r.2.1,No r.2.2] 86] O))) (Bd p O w'/\Le (fz w (Ha [.box ba0 [Abj a0.1,No a0.2] 86] O)) (fz w' O))):=by
 refine I4 (n:=70) [(0,(Abi ba0))] func117 rfl rfl rfl rfl rfl ?_;have hT:=Le.refl (fz w (Ha [.box ba0 [Abj a0.1,No a0.2] 86] O));refine AD 1 rfl<|AD 1 rfl<|Bo (σ:=Int) (fun k=>[(0,(Abi ba0)),(3,No k)]) (fun k wr=>DF p (Ha [.box ba0 [Abj a0.1,No a0.2] 86] O) wr fun Oz=>Le (fz w (Ha [.box ba0 [Abj a0.1,No a0.2] 86] O)) (fz wr Oz)/\(BE a0) k=some r) ?_ ?_
 ·refine A5 ?_;obtain⟨o,h⟩:=AZ h;refine Bx (σ:=Int×Nat) (fun⟨b,n⟩=>[(0,(Abi ba0)),(3,No b)]) (fun⟨b,n⟩ wr=>DF p (Ha [.box ba0 [Abj a0.1,No a0.2] 86] O) wr fun Oz=>Le (fz w (Ha [.box ba0 [Abj a0.1,No a0.2] 86] O)) (fz wr Oz)/\F6 (B9 a0) n b=some r) (fun⟨b,n⟩=>n) (0,o) (Sub.of rfl) ⟨hL,hT,h⟩ ?_;rintro⟨b,nn94⟩ ar ⟨f,hT,h⟩;obtain⟨o,a1,rfl,h,j⟩:=AY h;refine A7<|Bi 2 rfl<|Ag (CB rfl) rfl<|Ag (Ae rfl Af9 rfl EZ) rfl<|Ag (Af 0 rfl Ab1 rfl f rfl) rfl<|Ag (Cv rfl Ab1) rfl<|As 2 rfl<|AP (s:=13) rfl (fun a=>?_) (fun a=>?_)
  ·have h:=BI (of_decide_eq_true a) h;refine Aa rfl a<|Ag (Ad rfl) rfl<|Aa rfl a<|Ag (CB rfl) rfl<|Aa rfl a<|Ag (Ae rfl Af9 rfl EZ) rfl<|Aa rfl a<|Ag (Af 0 rfl Ab1 rfl f rfl) rfl<|Aa rfl a<|Ag (Ad rfl) rfl<|Aa rfl a<|Az h fun ao h=>Ag (Dz rfl rfl Ab1 ao) rfl<|Aa rfl a<|Ag (Ad rfl) rfl<|Aa rfl a<|Ag (Ad rfl) rfl<|AP (s:=21) rfl (fun g=>?_) (fun g=>?_)
   ·have h:=BI (of_decide_eq_true g) h;refine Aa rfl g<|Ag (Ad rfl) rfl<|Aa rfl g<|Ag (CB rfl) rfl<|Aa rfl g<|Ag (Ae rfl Af9 rfl EZ) rfl<|Aa rfl g<|Ag (Af 0 rfl Ab1 rfl f rfl) rfl<|Aa rfl g<|Ag (Ad rfl) rfl<|Aa rfl g<|Az h fun z h=>Ag (Dz rfl rfl Ab1 z) rfl<|Aa rfl g<|Ag (Ad rfl) rfl<|Aa rfl a<|Ag (A2 rfl g rfl) rfl<|Aa rfl a<|Ag (Ad rfl) rfl<|AP (s:=30) rfl (fun c=>?_) (fun c=>?_)
    ·have h:=BI (of_decide_eq_true c) h
     iterate 3 refine Ai rfl c rfl ?_
     iterate 7 refine Cl rfl rfl rfl ?_
     refine Ai rfl c rfl<|Aa rfl a<|Ag (A2 rfl c rfl) rfl<|Ag (A2 rfl a rfl) rfl<|Ac<|Cg rfl<|Av<|Ao<|A5<|Aw<|As 1 rfl<|Az h fun aa h=>Ag (A1 rfl aa) rfl<|As 1 rfl<|AK<|AF ?_;have h:=BP.again h j;refine AN ((b+1),o) (Sub.of rfl) ⟨f,hT,h⟩ (Nat.lt_succ_self _)
    have h:=BJ (of_decide_eq_false c) h;refine Aa rfl c<|Ag (Ad rfl) rfl<|Aa rfl c<|Ag (Ad rfl) rfl<|Aa rfl c<|Ag (Ad rfl) rfl<|AP (s:=33) rfl (fun d=>?_) (fun d=>?_)
    ·have h:=BI (of_decide_eq_true d) h;refine Aa rfl d<|Ag (Ad rfl) rfl<|Aa rfl d<|Ag (CB rfl) rfl<|Aa rfl d<|Ag (Ae rfl Af9 rfl EZ) rfl<|Aa rfl d<|Ag (Af 0 rfl Ab1 rfl f rfl) rfl<|Aa rfl d<|Ag (Ad rfl) rfl<|Aa rfl d<|Az h fun ab h=>Ag (Dz rfl rfl Ab1 ab) rfl<|Aa rfl d<|Ag (Ad rfl) rfl<|Aa rfl c<|Ag (A2 rfl d rfl) rfl<|Aa rfl a<|Ag (A9 rfl c rfl) rfl<|Ag (A2 rfl a rfl) rfl<|Ac<|AM rfl h (fun ac h=>?_) (fun ac h=>?_)
     ·refine Av<|Ao<|A5<|Aw<|As 1 rfl<|Az h fun ad h=>Ag (A1 rfl ad) rfl<|As 1 rfl<|AK<|AF ?_;have h:=BP.again h j;refine AN ((b+1),o) (Sub.of rfl) ⟨f,hT,h⟩ (Nat.lt_succ_self _)
     refine Br<|AG<|A6 ?_;have h:=BP.out h j;refine Be<|A8 b (Sub.of rfl) ⟨f,hT,h⟩
    have h:=BJ (of_decide_eq_false d) h
    iterate 7 refine Ai rfl d rfl ?_
    refine Aa rfl c<|Ag (A9 rfl d rfl) rfl<|Aa rfl a<|Ag (A9 rfl c rfl) rfl<|Ag (A2 rfl a rfl) rfl<|Ac<|Cr rfl<|Br<|AG<|A6 ?_;have h:=BP.out h j;refine Be<|A8 b (Sub.of rfl) ⟨f,hT,h⟩
   have h:=BJ (of_decide_eq_false g) h
   iterate 7 refine Ai rfl g rfl ?_
   refine Aa rfl a<|Ag (A9 rfl g rfl) rfl<|Aa rfl a<|Ag (Ad rfl) rfl<|Aa rfl rfl<|Ag (Ad rfl) rfl<|Aa rfl rfl<|Ag (Ad rfl) rfl<|Aa rfl rfl<|Ag (Ad rfl) rfl<|AP (s:=33) rfl (fun e=>?_) (fun e=>?_)
   ·have h:=BI (of_decide_eq_true e) h;refine Aa rfl e<|Ag (Ad rfl) rfl<|Aa rfl e<|Ag (CB rfl) rfl<|Aa rfl e<|Ag (Ae rfl Af9 rfl EZ) rfl<|Aa rfl e<|Ag (Af 0 rfl Ab1 rfl f rfl) rfl<|Aa rfl e<|Ag (Ad rfl) rfl<|Aa rfl e<|Az h fun ae h=>Ag (Dz rfl rfl Ab1 ae) rfl<|Aa rfl e<|Ag (Ad rfl) rfl<|Aa rfl rfl<|Ag (A2 rfl e rfl) rfl<|Aa rfl a<|Ag (A9 rfl rfl rfl) rfl<|Ag (A2 rfl a rfl) rfl<|Ac<|AM rfl h (fun af h=>?_) (fun af h=>?_)
    ·refine Av<|Ao<|A5<|Aw<|As 1 rfl<|Az h fun ag h=>Ag (A1 rfl ag) rfl<|As 1 rfl<|AK<|AF ?_;have h:=BP.again h j;refine AN ((b+1),o) (Sub.of rfl) ⟨f,hT,h⟩ (Nat.lt_succ_self _)
    refine Br<|AG<|A6 ?_;have h:=BP.out h j;refine Be<|A8 b (Sub.of rfl) ⟨f,hT,h⟩
   have h:=BJ (of_decide_eq_false e) h
   iterate 7 refine Ai rfl e rfl ?_
   refine Aa rfl rfl<|Ag (A9 rfl e rfl) rfl<|Aa rfl a<|Ag (A9 rfl rfl rfl) rfl<|Ag (A2 rfl a rfl) rfl<|Ac<|Cr rfl<|Br<|AG<|A6 ?_;have h:=BP.out h j;refine Be<|A8 b (Sub.of rfl) ⟨f,hT,h⟩
  have h:=BJ (of_decide_eq_false a) h
  iterate 8 refine Ai rfl a rfl ?_
  iterate 7 refine Cl rfl rfl rfl ?_
  iterate 2 refine Ai rfl a rfl ?_
  iterate 11 refine Cl rfl rfl rfl ?_
  refine Ai rfl a rfl<|Ag (A9 rfl a rfl) rfl<|Ac<|Cr rfl<|Br<|AG<|A6 ?_;have h:=BP.out h j;refine Be<|A8 b (Sub.of rfl) ⟨f,hT,h⟩
 rintro k au ⟨q,hT,h⟩;refine Bi 1 rfl<|Ag (CB rfl) rfl<|Ag (Ae rfl Af9 rfl EZ) rfl<|Ag (Af 0 rfl Ab1 rfl q rfl) rfl<|As 1 rfl<|Az h fun ah h=>Ag (WV rfl rfl Ab1 ah) rfl<|Ay h fun t ai h=>Bn rfl rfl q (Acd _ _ (Ar hH q) (hU.mono (Aj hH)) ai) ?_;rintro _ av ⟨aw,rfl,aj,ak⟩ ap u m;refine Y2 t.2 (fun l=>?_) (fun l=>?_)
 ·obtain rfl:=aj l;have h:=HA l h;refine A4 5 rfl<|Bo (σ:=Unit) (fun(_:Unit)=>[(0,(Abi ba0)),(3,No k),(4,No t.1)]) (fun(_:Unit) wr=>DF p (Ha [.box ba0 [Abj a0.1,No a0.2] 86] O) wr fun Oz=>Le (fz w (Ha [.box ba0 [Abj a0.1,No a0.2] 86] O)) (fz wr Oz)/\(D8 a0 k t)=some r) ?_ ?_
  ·refine Bi 1 rfl<|Ag (AcE rfl AdW) rfl<|Ac<|Cr rfl<|Av ?_;have hT:=hT.trans m;refine A8 () (Sub.of rfl) ⟨u,hT,h⟩
  have hT:=hT.trans m;rintro _ aq ⟨x,hT,h⟩;refine Bi 2 rfl<|Ag (CB rfl) rfl<|Ag (Ae rfl Af9 rfl EZ) rfl<|Ag (Af 0 rfl Ab1 rfl x rfl) rfl<|As 1 rfl<|Az h fun al h=>Ag (QU rfl rfl Ab1 al) rfl<|Ag (CB rfl) rfl<|Ag (Ae rfl Af9 rfl EZ) rfl<|Bm 0 rfl rfl rfl EZ x rfl rfl fun ax am y=>Ac<|AD 2 rfl<|Ax ?_
  cases h
  refine FR<|Ak rfl ?_;have hT:=hT.trans y;exact DI ⟨rfl,am,hT⟩
 obtain⟨ay,az,rfl⟩:=ak l;have h:=HB l h;refine A4 5 rfl<|A7<|Bi 1 rfl<|Ag (Zz rfl AdW) rfl<|Ac<|Cg rfl<|Aw<|Ag (AR rfl (fun _=>OY _)) rfl<|Ag (Ub rfl AfB rfl) rfl<|OS rfl rfl<|B6 ?_
 cases h
 refine DJ ?_;have an:=u.AQ (i:=0) rfl;have hT:=hT.trans (m.trans (Au (i:=0) rfl));exact CM ⟨an,hT⟩
def En(a0:Abk×Int):Option (Option (Go.L.Qv×(Abk×Int))):=
 Option.bind (Cn (a0.1,a0.2) ([61,38,124,41]:Abk)) (fun b=>Option.bind (Bl (b.2.1,b.2.2) ([61]:Abk)) (fun c=>if !c.1 then some (some ((Go.L.Qv.mk (5:Int) ([]) b.1 ([]:Abk) (0:Int) (0:Int) ([])),(c.2.1,c.2.2))) else Option.bind (Bl (c.2.1,c.2.2) ([39]:Abk)) (fun a=>if a.1 then Option.bind (D7 (a.2.1,a.2.2)) (fun d=>QP d (some none) (fun y27=>some (some ((Go.L.Qv.mk (7:Int) ([]) b.1 y27.1 (0:Int) (0:Int) ([])),(y27.2.1,y27.2.2))))) else Option.bind (Cc (a.2.1,a.2.2)) (fun e=>QP e (some none) (fun y40=>Option.bind (B7 (y40.2.1,y40.2.2) ([46,46]:Abk)) (fun f=>QP f (some none) (fun y49=>Option.bind (Cc (y49.1,y49.2)) (fun g=>QP g (some none) (fun y56=>some (some ((Go.L.Qv.mk (6:Int) ([]) b.1 ([]:Abk) y40.1 y56.1 ([])),(y56.2.1,y56.2.2))))))))))))
theorem Oc{o w:World}{H:PH}(hH:Le H (hp o))(hU:Eg H){O:List BS}{a0:Abk×Int}{ba0:Nat}(hL:Bd o (Ha [.box ba0 [Abj a0.1,No a0.2] 86] O) w){r:Option (Go.L.Qv×(Abk×Int))}(h:En a0=some r):
  SA prog 116 [Abi ba0] w (.iface 82 (.agg #[])) (fun v w'=>Ua r v (fun r v=>∃ (u1:Value) (u3:Value) (y3:List Value) (u6:Value),v=.agg #[No r.1.f.1,u1,Abj r.1.f.2.2.1,u3,No r.1.f.2.2.2.2.1,No r.1.f.2.2.2.2.2.1,u6]/\Bd o (Ha [.row u3 5 1 (r.1.f.2.2.2.1).length y3,.box ba0 [Abj r.2.1,No r.2.2] 86] O) w'/\Le (fz w (Ha [.box ba0 [Abj a0.1,No a0.2] 86] O)) (fz w' (Ha [.row u3 5 1 (r.1.f.2.2.2.1).length y3,.box ba0 [Abj r.2.1,No r.2.2] 86] O))/\AI .st (gz H o w' (Ha [.row u3 5 1 (r.1.f.2.2.2.1).length y3,.box ba0 [Abj r.2.1,No r.2.2] 86] O)) u1 (r.1.f.2.1)/\AJ .byte (gz H o w' (Ha [.row u3 5 1 (r.1.f.2.2.2.1).length y3,.box ba0 [Abj r.2.1,No r.2.2] 86] O)) (r.1.f.2.2.2.1) y3/\AI .Bg (gz H o w' (Ha [.row u3 5 1 (r.1.f.2.2.2.1).length y3,.box ba0 [Abj r.2.1,No r.2.2] 86] O)) u6 (r.1.f.2.2.2.2.2.2)) (Bd o O w'/\Le (fz w (Ha [.box ba0 [Abj a0.1,No a0.2] 86] O)) (fz w' O))):=by
 refine I4 (n:=28) [(0,(Abi ba0))] func116 rfl rfl rfl rfl rfl ?_;have hT:=Le.refl (fz w (Ha [.box ba0 [Abj a0.1,No a0.2] 86] O));refine Am<|AH AO rfl rfl hL fun w1 p a3 b _=>Ac<|Bi 1 rfl ?_;have a4:Bd o (Ha [.box ba0 [Abj a0.1,No a0.2] 86,.box p Abl 26] O) w1:=a3.CC [1] rfl;have c:=BC [1] a3 a4 rfl;refine Ay h fun l b9 h=>DC rfl rfl (Fy (a0:=(a0.1,a0.2)) (a1:=([61,38,124,41]:Abk)) (O:=(Ha [.box p Abl 26] O)) hH a4 b9) ?_;rintro _ w4 ⟨rfl,ca,d⟩;refine Ag (AR rfl (fun _=>Uk _ _ rfl _)) rfl<|AH AO rfl rfl ca fun w5 u cb e _=>Ah 0 rfl AO cb rfl (Bc rfl) fun w6 a5 g=>Ac<|A7<|A5<|Bi 1 rfl ?_
 have a6:Bd o (Ha [.box ba0 [Abj l.2.1,No l.2.2] 86,.box u [No 5,Aa8,Abj l.1,Aa8,No 0,No 0,Aa8] 26,.box p Abl 26] O) w6:=a5.CC [1] rfl;have j:=BC [1] a5 a6 rfl;refine Ay h fun x8 cd h=>DC rfl rfl (B4 (a0:=(l.2.1,l.2.2)) (a1:=([61]:Abk)) (O:=(Ha [.box u [No 5,Aa8,Abj l.1,Aa8,No 0,No 0,Aa8] 26,.box p Abl 26] O)) hH a6 cd) ?_;rintro _ w9 ⟨rfl,ag,k⟩;refine A4 2 rfl<|Bb rfl h (fun a7 h=>?_) (fun a7 h=>?_)
 ·refine Av<|AF<|Ao<|Am<|Ag (AE 1 rfl AcF rfl AO ag rfl) rfl<|Ah 2 rfl AO ag rfl (Bc rfl) fun cg ah an=>Ac<|Ax ?_
  cases h
  refine FR<|BH rfl (.cell rfl AcF rfl AO (AL (i:=2) ah rfl)) ?_;obtain⟨a8,ao,x⟩:=C0 .byte H 5 ah;have a9:=a8.AQ (i:=2) rfl;have ba:=a9.AQ (i:=2) rfl;have hT:=hT.trans (b.trans (c.trans (d.trans (e.trans (g.trans (j.trans (k.trans (an.trans (ao.trans ((Au (i:=2) rfl).trans (Au (i:=2) rfl)))))))))));have x:=x.mono (Ab hH ((Au (i:=2) rfl).trans (Au (i:=2) rfl)));exact DI ⟨Aa8,Aa8,[],Aa8,rfl,ba,hT,(AI.nil _ _),x,(AI.nil _ _)⟩
 refine Bi 1 rfl<|Ay h fun aa bb h=>DC rfl rfl (B4 (a0:=(x8.2.1,x8.2.2)) (a1:=([39]:Abk)) (O:=(Ha [.box u [No 5,Aa8,Abj l.1,Aa8,No 0,No 0,Aa8] 26,.box p Abl 26] O)) hH ag bb) ?_;rintro _ ch ⟨rfl,ai,a⟩;refine A4 1 rfl<|Bb rfl h (fun bc h=>?_) (fun bc h=>?_)
 ·refine Aw<|As 1 rfl<|Ay h fun ci bd h=>FA rfl rfl (JI (a0:=(aa.2.1,aa.2.2)) (O:=(Ha [.box u [No 5,Aa8,Abj l.1,Aa8,No 0,No 0,Aa8] 26,.box p Abl 26] O)) hH ai bd) ?_ ?_
  ·rintro rfl cj ⟨be,ap⟩;have h:=DG h;refine BD<|B6 ?_
   cases h
   refine DJ ?_;have bf:=be.AQ (i:=0) rfl;have bg:=bf.AQ (i:=0) rfl;have hT:=hT.trans (b.trans (c.trans (d.trans (e.trans (g.trans (j.trans (k.trans (a.trans (ap.trans ((Au (i:=0) rfl).trans (Au (i:=0) rfl)))))))))));exact CM ⟨bg,hT⟩
  rintro y27 rfl aq ck ⟨_,y22_0,rfl,bh,ar,m⟩;have h:=DH h;refine Ag (Ae rfl AcF rfl Cj) rfl<|Bm 2 rfl rfl rfl Cj bh rfl rfl fun cl aj ab=>Ag (Ae rfl AcF rfl F7) rfl<|Bm 2 rfl rfl (row_one (aj.at (i:=0) rfl)) F7 aj rfl rfl fun cm y ac=>AK<|AF<|Ao<|Am<|Ag (AE 2 rfl AcF rfl AO y rfl) rfl<|Ah 3 rfl AO y rfl (AU rfl (AU rfl (AU rfl (AU (row_one (y.at (i:=0) rfl)) (Bc rfl))))) fun cn ak ad=>Ac<|Ax ?_
  cases h
  refine FR<|BH rfl (.cell rfl AcF rfl AO (AL (i:=3) ak rfl)) ?_;have bi:=ak.AQ (i:=2) rfl;have bj:=bi.AQ (i:=2) rfl;have hT:=hT.trans (b.trans (c.trans (d.trans (e.trans (g.trans (j.trans (k.trans (a.trans (ar.trans (ab.trans (ac.trans (ad.trans ((Au (i:=2) rfl).trans (Au (i:=2) rfl))))))))))))));have m:=m.mono (Ab hH (ab.trans (ac.trans (ad.trans ((Au (i:=2) rfl).trans (Au (i:=2) rfl))))));exact DI ⟨Aa8,aq,y22_0,Aa8,rfl,bj,hT,(AI.nil _ _),m,(AI.nil _ _)⟩
 refine Bi 1 rfl<|Ay h fun co bk h=>FA rfl rfl (Hg (a0:=(aa.2.1,aa.2.2)) (O:=(Ha [.box u [No 5,Aa8,Abj l.1,Aa8,No 0,No 0,Aa8] 26,.box p Abl 26] O)) hH hU ai bk) ?_ ?_
 ·rintro rfl cp ⟨bl,au⟩;have h:=DG h;refine B6<|BD<|B6 ?_
  cases h
  refine DJ ?_;have bm:=bl.AQ (i:=0) rfl;have bn:=bm.AQ (i:=0) rfl;have hT:=hT.trans (b.trans (c.trans (d.trans (e.trans (g.trans (j.trans (k.trans (a.trans (au.trans ((Au (i:=0) rfl).trans (Au (i:=0) rfl)))))))))));exact CM ⟨bn,hT⟩
 rintro y40 rfl _ cq ⟨rfl,bo,q⟩;have h:=DH h;refine Ag (Ae rfl AcF rfl Cj) rfl<|Bm 1 rfl rfl rfl Cj bo rfl rfl fun cr bp s=>Ag (Ae rfl AcF rfl Cj) rfl<|Bm 1 rfl rfl rfl Cj bp rfl rfl fun cs bq t=>Ac<|Bi 1 rfl<|Ay h fun ct br h=>FA rfl rfl (ER (a0:=(y40.2.1,y40.2.2)) (a1:=([46,46]:Abk)) (O:=(Ha [.box u [No 6,Aa8,Abj l.1,Aa8,No y40.1,No 0,Aa8] 26,.box p Abl 26] O)) hH bq br) ?_ ?_
 ·rintro rfl cu ⟨bs,av⟩;have h:=DG h;refine B6<|BD<|B6 ?_
  cases h
  refine DJ ?_;have bt:=bs.AQ (i:=0) rfl;have bu:=bt.AQ (i:=0) rfl;have hT:=hT.trans (b.trans (c.trans (d.trans (e.trans (g.trans (j.trans (k.trans (a.trans (q.trans (s.trans (t.trans (av.trans ((Au (i:=0) rfl).trans (Au (i:=0) rfl))))))))))))));exact CM ⟨bu,hT⟩
 rintro y49 rfl _ cv ⟨rfl,bv,ae⟩;have h:=DH h;refine Ac<|Aw<|As 1 rfl<|Ay h fun cw bw h=>FA rfl rfl (Hg (a0:=(y49.1,y49.2)) (O:=(Ha [.box u [No 6,Aa8,Abj l.1,Aa8,No y40.1,No 0,Aa8] 26,.box p Abl 26] O)) hH hU bv bw) ?_ ?_
 ·rintro rfl cx ⟨bx,aw⟩;have h:=DG h;refine BD<|B6 ?_
  cases h
  refine DJ ?_;have bz:=bx.AQ (i:=0) rfl;have b0:=bz.AQ (i:=0) rfl;have hT:=hT.trans (b.trans (c.trans (d.trans (e.trans (g.trans (j.trans (k.trans (a.trans (q.trans (s.trans (t.trans (ae.trans (aw.trans ((Au (i:=0) rfl).trans (Au (i:=0) rfl)))))))))))))));exact CM ⟨b0,hT⟩
 rintro y56 rfl _ cy ⟨rfl,b2,ax⟩;have h:=DH h;refine Ag (Ae rfl AcF rfl Cj) rfl<|Bm 1 rfl rfl rfl Cj b2 rfl rfl fun cz al ay=>AK<|AF<|Ao<|Am<|Ag (AE 1 rfl AcF rfl AO al rfl) rfl<|Ah 2 rfl AO al rfl (Bc rfl) fun c0 am az=>Ac<|Ax ?_
 cases h
 refine FR<|BH rfl (.cell rfl AcF rfl AO (AL (i:=2) am rfl)) ?_;obtain⟨b3,a2,z⟩:=C0 .byte H 5 am;have b4:=b3.AQ (i:=2) rfl;have b6:=b4.AQ (i:=2) rfl;have hT:=hT.trans (b.trans (c.trans (d.trans (e.trans (g.trans (j.trans (k.trans (a.trans (q.trans (s.trans (t.trans (ae.trans (ax.trans (ay.trans (az.trans (a2.trans ((Au (i:=2) rfl).trans (Au (i:=2) rfl))))))))))))))))));have z:=z.mono (Ab hH ((Au (i:=2) rfl).trans (Au (i:=2) rfl)));exact DI ⟨Aa8,Aa8,[],Aa8,rfl,b6,hT,(AI.nil _ _),z,(AI.nil _ _)⟩
def CA(self:(Abk×Int)->Option (Option (Go.L.Qv×(Abk×Int))))(a0:Abk×Int):Option (Option (Go.L.Qv×(Abk×Int))):=
 Option.bind (Bl (a0.1,a0.2) ([33]:Abk)) (fun h=>if h.1 then Option.bind (self (h.2.1,h.2.2)) (fun r=>QP r (some none) (fun y12=>some (some ((Go.L.Qv.mk (10:Int) ([]) ([]:Abk) ([]) (0:Int) (0:Int) ([y12.1])),(y12.2.1,y12.2.2))))) else Option.bind (Bl (h.2.1,h.2.2) ([40]:Abk)) (fun a=>if a.1 then Option.bind (CF self (a.2.1,a.2.2)) (fun k=>QP k (some none) (fun y26=>Option.bind (B7 (y26.2.1,y26.2.2) ([41]:Abk)) (fun l=>QP l (some none) (fun y37=>some (some (y26.1,(y37.1,y37.2))))))) else Option.bind (Bl (a.2.1,a.2.2) ([34]:Abk)) (fun b=>if b.1 then Option.bind (Cn (b.2.1,b.2.2) ([34]:Abk)) (fun i=>Option.bind (strings_Split i.1 ([32]:Abk)) (fun m=>Option.bind (B7 (i.2.1,i.2.2) ([34]:Abk)) (fun n=>QP n (some none) (fun y55=>some (some ((Go.L.Qv.mk (2:Int) m ([]:Abk) ([]) (0:Int) (0:Int) ([])),(y55.1,y55.2))))))) else Option.bind (Bl (b.2.1,b.2.2) ([39]:Abk)) (fun c=>if c.1 then Option.bind (D7 (c.2.1,c.2.2)) (fun o=>QP o (some none) (fun y68=>some (some ((Go.L.Qv.mk (4:Int) ([]) ([]:Abk) y68.1 (0:Int) (0:Int) ([])),(y68.2.1,y68.2.2))))) else Option.bind (Bl (c.2.1,c.2.2) ([47]:Abk)) (fun d=>if d.1 then Option.bind (En (d.2.1,d.2.2)) (fun p=>QP p (some none) (fun y82=>some (some (y82.1,(y82.2.1,y82.2.2))))) else Option.bind (Cn (d.2.1,d.2.2) ([126,38,124,41]:Abk)) (fun g=>Option.bind (Bl (g.2.1,g.2.2) ([126]:Abk)) (fun e=>if !e.1 then some (some ((Go.L.Qv.mk (1:Int) ([g.1]) ([]:Abk) ([]) (0:Int) (0:Int) ([])),(e.2.1,e.2.2))) else Option.bind (Cc (e.2.1,e.2.2)) (fun q=>QP q (some none) (fun y102=>Option.bind (B7 (y102.2.1,y102.2.2) ([126]:Abk)) (fun j=>QP j (some none) (fun y112=>Option.bind (Cn (y112.1,y112.2) ([126,38,124,41]:Abk)) (fun f=>some (some ((Go.L.Qv.mk (3:Int) ([g.1,f.1]) ([]:Abk) ([]) y102.1 (0:Int) ([])),(f.2.1,f.2.2)))))))))))))))
theorem Mg{self:(Abk×Int)->Option (Option (Go.L.Qv×(Abk×Int)))}(hself:∀ {m w:World} {H:PH} (hH:Le H (hp m)) (hU:Eg H) {O:List BS} {a0:Abk×Int} {ba0:Nat} (hL:Bd m (Ha [.box ba0 [Abj a0.1,No a0.2] 86] O) w) {r:Option (Go.L.Qv×(Abk×Int))} (h:self a0=some r),SA prog 70 [Abi ba0] w (.iface 82 (.agg #[])) (fun v w'=>Ua r v (fun r v=>∃ (u1:Value) (u3:Value) (u6:Value),v=.agg #[No r.1.f.1,u1,Abj r.1.f.2.2.1,u3,No r.1.f.2.2.2.2.1,No r.1.f.2.2.2.2.2.1,u6]/\Bd m (Ha [.box ba0 [Abj r.2.1,No r.2.2] 86] O) w'/\Le (fz w (Ha [.box ba0 [Abj a0.1,No a0.2] 86] O)) (fz w' (Ha [.box ba0 [Abj r.2.1,No r.2.2] 86] O))/\AI .st (gz H m w' (Ha [.box ba0 [Abj r.2.1,No r.2.2] 86] O)) u1 (r.1.f.2.1)/\AI .byte (gz H m w' (Ha [.box ba0 [Abj r.2.1,No r.2.2] 86] O)) u3 (r.1.f.2.2.2.1)/\AI .Bg (gz H m w' (Ha [.box ba0 [Abj r.2.1,No r.2.2] 86] O)) u6 (r.1.f.2.2.2.2.2.2)) (Bd m O w'/\Le (fz w (Ha [.box ba0 [Abj a0.1,No a0.2] 86] O)) (fz w' O)))){m w:World}{H:PH}(hH:Le H (hp m))(hU:Eg H){O:List BS}{a0:Abk×Int}{ba0:Nat}(hL:Bd m (Ha [.box ba0 [Abj a0.1,No a0.2] 86] O) w){r:Option (Go.L.Qv×(Abk×Int))}(h:CA self a0=some r):
  SA prog 70 [Abi ba0] w (.iface 82 (.agg #[])) (fun v w'=>Ua r v (fun r v=>∃ (u1:Value) (u3:Value) (u6:Value),v=.agg #[No r.1.f.1,u1,Abj r.1.f.2.2.1,u3,No r.1.f.2.2.2.2.1,No r.1.f.2.2.2.2.2.1,u6]/\Bd m (Ha [.box ba0 [Abj r.2.1,No r.2.2] 86] O) w'/\Le (fz w (Ha [.box ba0 [Abj a0.1,No a0.2] 86] O)) (fz w' (Ha [.box ba0 [Abj r.2.1,No r.2.2] 86] O))/\AI .st (gz H m w' (Ha [.box ba0 [Abj r.2.1,No r.2.2] 86] O)) u1 (r.1.f.2.1)/\AI .byte (gz H m w' (Ha [.box ba0 [Abj r.2.1,No r.2.2] 86] O)) u3 (r.1.f.2.2.2.1)/\AI .Bg (gz H m w' (Ha [.box ba0 [Abj r.2.1,No r.2.2] 86] O)) u6 (r.1.f.2.2.2.2.2.2)) (Bd m O w'/\Le (fz w (Ha [.box ba0 [Abj a0.1,No a0.2] 86] O)) (fz w' O))):=by
 refine I4 (n:=62) [(0,(Abi ba0))] func70 rfl rfl rfl rfl rfl ?_;have hT:=Le.refl (fz w (Ha [.box ba0 [Abj a0.1,No a0.2] 86] O));refine Am<|AH AO rfl rfl hL fun w1 k c5 b _=>Ac<|A7<|A5<|Bi 1 rfl ?_;have c6:Bd m (Ha [.box ba0 [Abj a0.1,No a0.2] 86,.box k Abl 26] O) w1:=c5.CC [1] rfl;have c:=BC [1] c5 c6 rfl;refine Ay h fun x3 ew h=>DC rfl rfl (B4 (a0:=(a0.1,a0.2)) (a1:=([33]:Abk)) (O:=(Ha [.box k Abl 26] O)) hH c6 ew) ?_;rintro _ w4 ⟨rfl,c8,d⟩;refine A4 1 rfl<|Bb rfl h (fun ex h=>?_) (fun ex h=>?_)
 ·refine Bi 1 rfl<|Ay h fun x7 ey h=>FA rfl rfl (hself (a0:=(x3.2.1,x3.2.2)) (O:=(Ha [.box k Abl 26] O)) hH hU c8 ey) ?_ ?_
  ·rintro rfl w9 ⟨ez,dc⟩;have h:=DG h;refine B6<|BD<|B6 ?_
   cases h
   refine DJ ?_;have dd:=ez.AQ (i:=0) rfl;have hT:=hT.trans (b.trans (c.trans (d.trans (dc.trans (Au (i:=0) rfl)))));exact CM ⟨dd,hT⟩
  rintro y12 rfl _ w8 ⟨e6,e7,e8,rfl,e0,de,ca,cb,cc⟩;have h:=DH h;refine Bp (r:=.Bg) (l:=[y12.1]) rfl (fun _=>K5 _ _ _ _ _ _ _ _) rfl (leMax 1) hH e0 (.c7 (Go.E.Rp.F4 ⟨_,_,rfl,rfl,⟨_,_,rfl,⟨_,rfl,ca⟩,⟨_,_,rfl,rfl,⟨_,_,rfl,⟨_,rfl,cb⟩,⟨_,_,rfl,rfl,⟨_,_,rfl,rfl,⟨_,rfl,cc⟩⟩⟩⟩⟩⟩⟩) .nil) fun e1 fj e9 df cd ae=>Ag (AR rfl (fun _=>L5 _ _ ae.one _)) rfl<|Ah 1 rfl AO df rfl (AU rfl (AU rfl (AU rfl (AU rfl (AU rfl (AU rfl (AU ae.one Hj))))))) fun fk bq a3=>Ac<|Ax<|Aq<|An ?_
  cases h
  refine FR<|BH rfl (.cell rfl AcF rfl AO (AL (i:=1) bq rfl)) ?_;have dg:=bq.AQ (i:=1) rfl;have hT:=hT.trans (b.trans (c.trans (d.trans (de.trans (cd.trans (a3.trans (Au (i:=1) rfl)))))));have ae:=ae.mono (Ab hH (a3.trans (Au (i:=1) rfl)));exact DI ⟨Aa8,Aa8,e1,rfl,dg,hT,(AI.nil _ _),(AI.nil _ _),ae⟩
 refine Bi 1 rfl<|Ay h fun a4 dh h=>DC rfl rfl (B4 (a0:=(x3.2.1,x3.2.2)) (a1:=([40]:Abk)) (O:=(Ha [.box k Abl 26] O)) hH c8 dh) ?_;rintro _ fl ⟨rfl,br,a⟩;refine A4 1 rfl<|Bb rfl h (fun di h=>?_) (fun di h=>?_)
 ·refine Bi 1 rfl<|Ay h fun fm dj h=>FA rfl rfl (Km (hself:=hself) (a0:=(a4.2.1,a4.2.2)) (O:=(Ha [.box k Abl 26] O)) hH hU br dj) ?_ ?_
  ·rintro rfl fn ⟨dk,ce⟩;have h:=DG h;refine B6<|BD<|B6 ?_
   cases h
   refine DJ ?_;have dl:=dk.AQ (i:=0) rfl;have hT:=hT.trans (b.trans (c.trans (d.trans (a.trans (ce.trans (Au (i:=0) rfl))))));exact CM ⟨dl,hT⟩
  rintro y26 rfl _ fo ⟨ai,aj,ak,rfl,dm,a5,o,p,q⟩;have h:=DH h;refine AH AO rfl rfl dm fun fp c9 dn u _=>Ah 0 rfl AO dn rfl (AU rfl (AU o.one (AU rfl (AU p.one (AU rfl (AU rfl (AU q.one Hj))))))) fun e2 ar x=>Ac ?_;have j:=ar.rG H;refine Bi 1 rfl ?_;have bs:Bd m (Ha [.box ba0 [Abj y26.2.1,No y26.2.2] 86,.box c9 [No y26.1.f.1,ai,Abj y26.1.f.2.2.1,aj,No y26.1.f.2.2.2.2.1,No y26.1.f.2.2.2.2.2.1,ak] 26,.box k Abl 26] O) e2:=ar.CC [1] rfl;have al:=BC [1] ar bs rfl;refine Ay h fun fq dp h=>FA rfl rfl (ER (a0:=(y26.2.1,y26.2.2)) (a1:=([41]:Abk)) (O:=(Ha [.box c9 [No y26.1.f.1,ai,Abj y26.1.f.2.2.1,aj,No y26.1.f.2.2.2.2.1,No y26.1.f.2.2.2.2.2.1,ak] 26,.box k Abl 26] O)) hH bs dp) ?_ ?_
  ·rintro rfl fr ⟨dq,cf⟩;have h:=DG h;refine B6<|BD<|B6 ?_
   cases h
   refine DJ ?_;have dr:=dq.AQ (i:=0) rfl;have ds:=dr.AQ (i:=0) rfl;have hT:=hT.trans (b.trans (c.trans (d.trans (a.trans (a5.trans (u.trans (x.trans (al.trans (cf.trans ((Au (i:=0) rfl).trans (Au (i:=0) rfl)))))))))));exact CM ⟨ds,hT⟩
  rintro y37 rfl _ fs ⟨rfl,bt,a6⟩;have h:=DH h;refine Ac<|Am<|Ag (AE 1 rfl AcF rfl AO bt rfl) rfl ?_;have o:=o.mono (Ab hH (u.trans x));have p:=p.mono (Ab hH (u.trans x));have q:=q.mono (Ab hH (u.trans x));have j:=j.trans (Ab hH (al.trans a6));refine Ah 2 rfl AO bt rfl (AU rfl (AU (o.mono j).one (AU rfl (AU (p.mono j).one (AU rfl (AU rfl (AU (q.mono j).one Hj))))))) fun ft bu a7=>Ac<|Ax<|Aq<|An ?_
  cases h
  refine FR<|BH rfl (.cell rfl AcF rfl AO (AL (i:=2) bu rfl)) ?_;have dt:=bu.AQ (i:=1) rfl;have du:=dt.AQ (i:=1) rfl;have hT:=hT.trans (b.trans (c.trans (d.trans (a.trans (a5.trans (u.trans (x.trans (al.trans (a6.trans (a7.trans ((Au (i:=1) rfl).trans (Au (i:=1) rfl))))))))))));have j:=j.trans (Ab hH (a7.trans ((Au (i:=1) rfl).trans (Au (i:=1) rfl))));exact DI ⟨ai,aj,ak,rfl,du,hT,(o.mono j),(p.mono j),(q.mono j)⟩
 refine Bi 1 rfl<|Ay h fun a8 dv h=>DC rfl rfl (B4 (a0:=(a4.2.1,a4.2.2)) (a1:=([34]:Abk)) (O:=(Ha [.box k Abl 26] O)) hH br dv) ?_;rintro _ fu ⟨rfl,bv,e⟩;refine A4 1 rfl<|Bb rfl h (fun dw h=>?_) (fun dw h=>?_)
 ·refine Bi 1 rfl<|Ay h fun da dx h=>DC rfl rfl (Fy (a0:=(a8.2.1,a8.2.2)) (a1:=([34]:Abk)) (O:=(Ha [.box k Abl 26] O)) hH bv dx) ?_;rintro _ fv ⟨rfl,au,a9⟩;refine Ay h fun fw dy h=>Bn rfl rfl au (Nk _ _ (Ar hH au) dy) ?_;rintro cg fx ⟨_,rfl,bw⟩ dz d0 ba;have s:=bw.Cz hH au dz;refine A4 1 rfl<|Bi 1 rfl<|Ay h fun fy d1 h=>FA rfl rfl (ER (a0:=(da.2.1,da.2.2)) (a1:=([34]:Abk)) (O:=(Ha [.box k Abl 26] O)) hH d0 d1) ?_ ?_
  ·rintro rfl f0 ⟨d2,ch⟩;have h:=DG h;refine B6<|BD<|B6 ?_
   cases h
   refine DJ ?_;have d3:=d2.AQ (i:=0) rfl;have hT:=hT.trans (b.trans (c.trans (d.trans (a.trans (e.trans (a9.trans (ba.trans (ch.trans (Au (i:=0) rfl)))))))));exact CM ⟨d3,hT⟩
  rintro y55 rfl _ f1 ⟨rfl,d4,bb⟩;have h:=DH h;refine Ac<|Bi 1 rfl<|Ag (AR rfl (fun _=>OW _ _ s.one _)) rfl<|Ah 1 rfl AO d4 rfl (AU rfl (AU s.one (Bc rfl))) fun f2 bx bc=>Ac<|Ax<|Aq<|An ?_
  cases h
  refine FR<|BH rfl (.cell rfl AcF rfl AO (AL (i:=1) bx rfl)) ?_;have d5:=bx.AQ (i:=1) rfl;have hT:=hT.trans (b.trans (c.trans (d.trans (a.trans (e.trans (a9.trans (ba.trans (bb.trans (bc.trans (Au (i:=1) rfl))))))))));have s:=s.mono (Ab hH (bb.trans (bc.trans (Au (i:=1) rfl))));exact DI ⟨cg,Aa8,Aa8,rfl,d5,hT,s,(AI.nil _ _),(AI.nil _ _)⟩
 refine Bi 1 rfl<|Ay h fun bd d6 h=>DC rfl rfl (B4 (a0:=(a8.2.1,a8.2.2)) (a1:=([39]:Abk)) (O:=(Ha [.box k Abl 26] O)) hH bv d6) ?_;rintro _ f3 ⟨rfl,bz,g⟩;refine A4 1 rfl<|Bb rfl h (fun d7 h=>?_) (fun d7 h=>?_)
 ·refine Bi 1 rfl<|Ay h fun f4 d8 h=>FA rfl rfl (JI (a0:=(bd.2.1,bd.2.2)) (O:=(Ha [.box k Abl 26] O)) hH bz d8) ?_ ?_
  ·rintro rfl f5 ⟨d9,ci⟩;have h:=DG h;refine B6<|BD<|B6 ?_
   cases h
   refine DJ ?_;have ea:=d9.AQ (i:=0) rfl;have hT:=hT.trans (b.trans (c.trans (d.trans (a.trans (e.trans (g.trans (ci.trans (Au (i:=0) rfl))))))));exact CM ⟨ea,hT⟩
  rintro y68 rfl cj f6 ⟨_,y64_0,rfl,av,ck,af⟩;have h:=DH h;refine Ag (AR rfl (fun _=>Ul _ _ (row_one (av.at (i:=0) rfl)) _)) rfl<|Ah 2 rfl AO av rfl (AU rfl (AU rfl (AU rfl (AU (row_one (av.at (i:=0) rfl)) (Bc rfl))))) fun f7 aw be=>Ac<|Ax<|Aq<|An ?_
  cases h
  refine FR<|BH rfl (.cell rfl AcF rfl AO (AL (i:=2) aw rfl)) ?_;have af:=af.mono (Ab hH be);have ax:=aw.Cz hH (i:=0) rfl af;have eb:=aw.AQ (i:=0) rfl;have ec:=eb.AQ (i:=1) rfl;have hT:=hT.trans (b.trans (c.trans (d.trans (a.trans (e.trans (g.trans (ck.trans (be.trans ((Au (i:=0) rfl).trans (Au (i:=1) rfl))))))))));have ax:=ax.mono (Ab hH (Au (i:=1) rfl));exact DI ⟨Aa8,cj,Aa8,rfl,ec,hT,(AI.nil _ _),ax,(AI.nil _ _)⟩
 refine Bi 1 rfl<|Ay h fun bf ed h=>DC rfl rfl (B4 (a0:=(bd.2.1,bd.2.2)) (a1:=([47]:Abk)) (O:=(Ha [.box k Abl 26] O)) hH bz ed) ?_;rintro _ f8 ⟨rfl,b0,t⟩;refine A4 1 rfl<|Bb rfl h (fun ee h=>?_) (fun ee h=>?_)
 ·refine Bi 1 rfl<|Ay h fun f9 ef h=>FA rfl rfl (Oc (a0:=(bf.2.1,bf.2.2)) (O:=(Ha [.box k Abl 26] O)) hH hU b0 ef) ?_ ?_
  ·rintro rfl ga ⟨eg,cl⟩;have h:=DG h;refine B6<|BD<|B6 ?_
   cases h
   refine DJ ?_;have eh:=eg.AQ (i:=0) rfl;have hT:=hT.trans (b.trans (c.trans (d.trans (a.trans (e.trans (g.trans (t.trans (cl.trans (Au (i:=0) rfl)))))))));exact CM ⟨eh,hT⟩
  rintro y82 rfl _ gb ⟨cm,cn,y78_3,co,rfl,b2,cp,y,ag,z⟩;have h:=DH h;refine Ah 2 rfl AO b2 rfl (AU rfl (AU y.one (AU rfl (AU (row_one (b2.at (i:=0) rfl)) (AU rfl (AU rfl (AU z.one Hj))))))) fun gc ay ab=>Ac<|Ax<|Aq<|An ?_
  cases h
  refine FR<|BH rfl (.cell rfl AcF rfl AO (AL (i:=2) ay rfl)) ?_;have ag:=ag.mono (Ab hH ab);have az:=ay.Cz hH (i:=0) rfl ag;have ei:=ay.AQ (i:=0) rfl;have ej:=ei.AQ (i:=1) rfl;have hT:=hT.trans (b.trans (c.trans (d.trans (a.trans (e.trans (g.trans (t.trans (cp.trans (ab.trans ((Au (i:=0) rfl).trans (Au (i:=1) rfl)))))))))));have y:=y.mono (Ab hH (ab.trans ((Au (i:=0) rfl).trans (Au (i:=1) rfl))));have z:=z.mono (Ab hH (ab.trans ((Au (i:=0) rfl).trans (Au (i:=1) rfl))));have az:=az.mono (Ab hH (Au (i:=1) rfl));exact DI ⟨cm,cn,co,rfl,ej,hT,y,az,z⟩
 refine Av<|AF<|Ao<|Bi 1 rfl<|Ay h fun bg ek h=>DC rfl rfl (Fy (a0:=(bf.2.1,bf.2.2)) (a1:=([126,38,124,41]:Abk)) (O:=(Ha [.box k Abl 26] O)) hH b0 ek) ?_;rintro _ gd ⟨rfl,el,ac⟩;refine A4 1 rfl<|A7<|Bi 1 rfl<|Ay h fun db em h=>DC rfl rfl (B4 (a0:=(bg.2.1,bg.2.2)) (a1:=([126]:Abk)) (O:=(Ha [.box k Abl 26] O)) hH el em) ?_;rintro _ ge ⟨rfl,b3,ad⟩;refine A4 1 rfl<|Bb rfl h (fun en h=>?_) (fun en h=>?_)
 ·refine Bi 1 rfl<|Bp (r:=.st) (l:=[bg.1]) rfl (fun _=>N1 _ rfl _) rfl (leMax 1) hH b3 (.c1 rfl .nil) fun e3 gf fa eo cq ah=>Ag (AR rfl (fun _=>OW _ _ ah.one _)) rfl<|Ah 1 rfl AO eo rfl (AU rfl (AU ah.one (Bc rfl))) fun gg b4 bh=>Ac<|Ax<|An ?_
  cases h
  refine FR<|BH rfl (.cell rfl AcF rfl AO (AL (i:=1) b4 rfl)) ?_;have ep:=b4.AQ (i:=1) rfl;have hT:=hT.trans (b.trans (c.trans (d.trans (a.trans (e.trans (g.trans (t.trans (ac.trans (ad.trans (cq.trans (bh.trans (Au (i:=1) rfl))))))))))));have ah:=ah.mono (Ab hH (bh.trans (Au (i:=1) rfl)));exact DI ⟨e3,Aa8,Aa8,rfl,ep,hT,ah,(AI.nil _ _),(AI.nil _ _)⟩
 refine Av<|Ao<|Bi 1 rfl<|Ay h fun gh eq h=>FA rfl rfl (Hg (a0:=(db.2.1,db.2.2)) (O:=(Ha [.box k Abl 26] O)) hH hU b3 eq) ?_ ?_
 ·rintro rfl gi ⟨er,cr⟩;have h:=DG h;refine B6 ?_
  cases h
  refine DJ ?_;have cs:=er.AQ (i:=0) rfl;have hT:=hT.trans (b.trans (c.trans (d.trans (a.trans (e.trans (g.trans (t.trans (ac.trans (ad.trans (cr.trans (Au (i:=0) rfl)))))))))));exact CM ⟨cs,hT⟩
 rintro y102 rfl _ gj ⟨rfl,es,bi⟩;have h:=DH h;refine Ag (AR rfl (fun _=>Y0 _ _ _)) rfl<|AH AO rfl rfl es fun fb a2 ct am _=>Ah 0 rfl AO ct rfl (Bc rfl) fun et bj an=>Ac<|Bi 1 rfl ?_;have bk:Bd m (Ha [.box ba0 [Abj y102.2.1,No y102.2.2] 86,.box a2 [No 3,Aa8,(Abj []),Aa8,No y102.1,No 0,Aa8] 26,.box k Abl 26] O) et:=bj.CC [1] rfl;have ao:=BC [1] bj bk rfl;refine Ay h fun fc cu h=>FA rfl rfl (ER (a0:=(y102.2.1,y102.2.2)) (a1:=([126]:Abk)) (O:=(Ha [.box a2 [No 3,Aa8,(Abj []),Aa8,No y102.1,No 0,Aa8] 26,.box k Abl 26] O)) hH bk cu) ?_ ?_
 ·rintro rfl fd ⟨cv,b5⟩;have h:=DG h;refine B6 ?_
  cases h
  refine DJ ?_;have cw:=cv.AQ (i:=0) rfl;have cx:=cw.AQ (i:=0) rfl;have hT:=hT.trans (b.trans (c.trans (d.trans (a.trans (e.trans (g.trans (t.trans (ac.trans (ad.trans (bi.trans (am.trans (an.trans (ao.trans (b5.trans ((Au (i:=0) rfl).trans (Au (i:=0) rfl))))))))))))))));exact CM ⟨cx,hT⟩
 rintro y112 rfl _ fe ⟨rfl,cy,b6⟩;have h:=DH h;refine Ac<|Bi 2 rfl<|Ay h fun eu cz h=>DC rfl rfl (Fy (a0:=(y112.1,y112.2)) (a1:=([126,38,124,41]:Abk)) (O:=(Ha [.box a2 [No 3,Aa8,(Abj []),Aa8,No y102.1,No 0,Aa8] 26,.box k Abl 26] O)) hH cy cz) ?_;rintro _ ff ⟨rfl,c0,b7⟩;refine Bp (r:=.st) (l:=[bg.1,eu.1]) rfl (fun _=>UT _ rfl _ rfl _) rfl (leMax 2) hH c0 (.c1 rfl (.c1 rfl .nil)) fun ev fg e4 c2 b8 aa=>Ag (Ae rfl AcF rfl IW) rfl<|Bm 1 rfl rfl aa.one IW c2 rfl rfl fun fh bl ap=>Ac<|Am<|Ag (AE 1 rfl AcF rfl AO bl rfl) rfl<|Ah 2 rfl AO bl rfl (AU rfl (AU aa.one (Bc rfl))) fun fi bm aq=>Ac<|Ax ?_
 cases h
 refine FR<|BH rfl (.cell rfl AcF rfl AO (AL (i:=2) bm rfl)) ?_;have c3:=bm.AQ (i:=1) rfl;have c4:=c3.AQ (i:=1) rfl;have hT:=hT.trans (b.trans (c.trans (d.trans (a.trans (e.trans (g.trans (t.trans (ac.trans (ad.trans (bi.trans (am.trans (an.trans (ao.trans (b6.trans (b7.trans (b8.trans (ap.trans (aq.trans ((Au (i:=1) rfl).trans (Au (i:=1) rfl))))))))))))))))))));have aa:=aa.mono (Ab hH (ap.trans (aq.trans ((Au (i:=1) rfl).trans (Au (i:=1) rfl)))));exact DI ⟨ev,Aa8,Aa8,rfl,c4,hT,aa,(AI.nil _ _),(AI.nil _ _)⟩
def Cy:Nat->(Abk×Int)->Option (Option (Go.L.Qv×(Abk×Int)))
 | 0=>fun _=>none
 | n+1=>CA (Cy n)
def G2:(Abk×Int)->Option (Option (Go.L.Qv×(Abk×Int))):=Cy 1000
theorem NJ(n:Nat):∀ {a w:World} {H:PH} (hH:Le H (hp a)) (hU:Eg H) {O:List BS} {a0:Abk×Int} {ba0:Nat} (hL:Bd a (Ha [.box ba0 [Abj a0.1,No a0.2] 86] O) w) {r:Option (Go.L.Qv×(Abk×Int))} (h:Cy n a0=some r),SA prog 70 [Abi ba0] w (.iface 82 (.agg #[])) (fun v w'=>Ua r v (fun r v=>∃ (b:Value) (c:Value) (d:Value),v=.agg #[No r.1.f.1,b,Abj r.1.f.2.2.1,c,No r.1.f.2.2.2.2.1,No r.1.f.2.2.2.2.2.1,d]/\Bd a (Ha [.box ba0 [Abj r.2.1,No r.2.2] 86] O) w'/\Le (fz w (Ha [.box ba0 [Abj a0.1,No a0.2] 86] O)) (fz w' (Ha [.box ba0 [Abj r.2.1,No r.2.2] 86] O))/\AI .st (gz H a w' (Ha [.box ba0 [Abj r.2.1,No r.2.2] 86] O)) b (r.1.f.2.1)/\AI .byte (gz H a w' (Ha [.box ba0 [Abj r.2.1,No r.2.2] 86] O)) c (r.1.f.2.2.2.1)/\AI .Bg (gz H a w' (Ha [.box ba0 [Abj r.2.1,No r.2.2] 86] O)) d (r.1.f.2.2.2.2.2.2)) (Bd a O w'/\Le (fz w (Ha [.box ba0 [Abj a0.1,No a0.2] 86] O)) (fz w' O))):=by
 induction n with
 | zero=>intros;rename_i h;cases h
 | succ n ih=>exact @Mg (Cy n) ih
theorem OK:∀ {a w:World} {H:PH} (hH:Le H (hp a)) (hU:Eg H) {O:List BS} {a0:Abk×Int} {ba0:Nat} (hL:Bd a (Ha [.box ba0 [Abj a0.1,No a0.2] 86] O) w) {r:Option (Go.L.Qv×(Abk×Int))} (h:G2 a0=some r),SA prog 70 [Abi ba0] w (.iface 82 (.agg #[])) (fun v w'=>Ua r v (fun r v=>∃ (b:Value) (c:Value) (d:Value),v=.agg #[No r.1.f.1,b,Abj r.1.f.2.2.1,c,No r.1.f.2.2.2.2.1,No r.1.f.2.2.2.2.2.1,d]/\Bd a (Ha [.box ba0 [Abj r.2.1,No r.2.2] 86] O) w'/\Le (fz w (Ha [.box ba0 [Abj a0.1,No a0.2] 86] O)) (fz w' (Ha [.box ba0 [Abj r.2.1,No r.2.2] 86] O))/\AI .st (gz H a w' (Ha [.box ba0 [Abj r.2.1,No r.2.2] 86] O)) b (r.1.f.2.1)/\AI .byte (gz H a w' (Ha [.box ba0 [Abj r.2.1,No r.2.2] 86] O)) c (r.1.f.2.2.2.1)/\AI .Bg (gz H a w' (Ha [.box ba0 [Abj r.2.1,No r.2.2] 86] O)) d (r.1.f.2.2.2.2.2.2)) (Bd a O w'/\Le (fz w (Ha [.box ba0 [Abj a0.1,No a0.2] 86] O)) (fz w' O))):=NJ 1000
end Go.Proofs.YtekmbcbgknmhiaaGreatDoor
end
noncomputable section
namespace Go.L
open Go
def bt(l:List UInt8)(k:Nat):Nat:=(l.getD k default).toNat
def cont(l:List UInt8)(k:Nat):Bool:=decide (k<l.length/\128<=bt l k/\bt l k<=191)
def pt3(l:List UInt8):Nat:=((bt l 0 - 224) * 64+(bt l 1 - 128)) * 64+(bt l 2 - 128)
def pt4(l:List UInt8):Nat:=(((bt l 0 - 240) * 64+(bt l 1 - 128)) * 64+(bt l 2 - 128)) * 64+(bt l 3 - 128)
def T7(l:List UInt8):Nat:=
 if 194<=bt l 0/\bt l 0<=223 then(if cont l 1 then 2 else 0)
 else if 224<=bt l 0/\bt l 0<=239 then(if cont l 1/\cont l 2/\2048<=pt3 l/\¬ (55296<=pt3 l/\pt3 l<=57343) then 3 else 0)
 else if 240<=bt l 0/\bt l 0<=244 then(if cont l 1/\cont l 2/\cont l 3/\65536<=pt4 l/\pt4 l<=1114111 then 4 else 0)
 else 0
def asc(c:Nat):Bool:=decide ((48<=c/\c<=57)\/(97<=c/\c<=122)\/(65<=c/\c<=90))
def NT(l:List UInt8):Nat:=if asc (bt l 0) then 1 else T7 l
def Jk(c:UInt8):UInt8:=if 65<=(c.toNat:Int)/\(c.toNat:Int)<=90 then c+32 else c
theorem XY{c:UInt8}(h:128<=c.toNat):Jk c=c:=by unfold Jk;rw [if_neg (by omega)]
theorem Ach(a:List UInt8)(i k:Nat):bt (a.drop i) k=bt a (i+k):=by
 unfold bt;rw [List.getD_eq_getElem?_getD,List.getD_eq_getElem?_getD,List.getElem?_drop]
theorem Aam(l:List UInt8)(h:l≠[]):T7 l<=l.length:=by
 have hl:=List.length_pos_iff.2 h;unfold T7 cont
 split
 ·split
  ·rename_i a;have:=of_decide_eq_true a;omega
  ·omega
 ·split
  ·split
   ·rename_i a;have:=of_decide_eq_true a.2.1;omega
   ·omega
  ·split
   ·split
    ·rename_i a;have:=of_decide_eq_true a.2.2.1;omega
    ·omega
   ·omega
theorem Aan(l:List UInt8)(h:l≠[]):NT l<=l.length:=by
 have hl:=List.length_pos_iff.2 h;unfold NT
 split
 ·omega
 ·exact Aam l h
theorem Aci{l:List UInt8}(h:bt l 0<128):T7 l=0:=by
 unfold T7;rw [if_neg (by omega),if_neg (by omega),if_neg (by omega)]
theorem Acj{l:List UInt8}(_hs:T7 l≠0):(l.take (T7 l)).map Jk=l.take (T7 l):=by
 have key:∀ k,k<T7 l->128<=bt l k:=by
  intro k hk;unfold T7 at hk;unfold cont at hk
  split at hk
  ·split at hk
   ·rename_i a;have:=of_decide_eq_true a;obtain h | h:k=0\/k=1:=by omega
    all_goals subst h;omega
   ·omega
  ·split at hk
   ·split at hk
    ·rename_i a;have h2:=of_decide_eq_true a.1;have h3:=of_decide_eq_true a.2.1;obtain h | h | h:k=0\/k=1\/k=2:=by omega
     all_goals subst h;omega
    ·omega
   ·split at hk
    ·split at hk
     ·rename_i a;have h2:=of_decide_eq_true a.1;have h3:=of_decide_eq_true a.2.1;have b:=of_decide_eq_true a.2.2.1;obtain h | h | h | h:k=0\/k=1\/k=2\/k=3:=by omega
      all_goals subst h;omega
     ·omega
    ·omega
 apply List.ext_getElem (by simp);intro k a h2;rw [List.getElem_map,List.getElem_take];apply XY;have hk:k<T7 l:=by simp at h2;omega
 have:=key k hk;have hkl:k<l.length:=by simp at h2;omega
 unfold bt at this;rw [List.getD_eq_getElem?_getD,List.getElem?_eq_getElem hkl] at this;exact this
theorem Wr(l:List UInt8)(k:Nat):((ByteArray.mk l.toArray).get! k).toNat=bt l k:=by
 simp [ByteArray.get!,bt,List.getD_eq_getElem?_getD,getElem!_def]
 cases h:l[k]? <;> rfl
theorem Ad5(l:List UInt8)(hne:l≠[])(m:128<=bt l 0):(T7 l=0->Lib.decodeGo ⟨l.toArray⟩=(65533,1))/\(T7 l≠0->(Lib.decodeGo ⟨l.toArray⟩).2=T7 l/\T7 l≠1):=by
 have hsz:(ByteArray.mk l.toArray).size=l.length:=by simp [ByteArray.size]
 have hl:=List.length_pos_iff.2 hne
 have hc:∀ k,(decide (0+k<(ByteArray.mk l.toArray).size)&&((ByteArray.mk l.toArray).get! (0+k)).toNat / 64==2)=cont l k:=by
  intro k;rw [Nat.zero_add,hsz,Wr];unfold cont
  by_cases a:k<l.length
  ·by_cases h2:bt l k / 64=2
   ·rw [decide_eq_true a,Bool.true_and,beq_iff_eq.2 h2,decide_eq_true ⟨a,by omega,by omega⟩]
   ·rw [decide_eq_true a,Bool.true_and,beq_eq_false_iff_ne.2 h2,decide_eq_false (fun h=>h2 (by omega))]
  ·rw [decide_eq_false a,Bool.false_and,decide_eq_false (fun h=>a h.1)]
 unfold Lib.decodeGo;rw [hsz,if_neg (by omega)];unfold Utf8.decode;simp only [hc];simp only [Nat.zero_add,Wr]
 have hv:∀ c:Nat,Utf8.valid c=decide (c<55296\/(57344<=c/\c<=1114111)):=by
  intro c;rw [Bool.eq_iff_iff];unfold Utf8.valid;simp only [Bool.or_eq_true,Bool.and_eq_true,decide_eq_true_eq];omega
 simp only [hv];have f1:cont l 1=true->128<=bt l 1/\bt l 1<=191:=fun h=>(of_decide_eq_true h).2;have f2:cont l 2=true->128<=bt l 2/\bt l 2<=191:=fun h=>(of_decide_eq_true h).2;have f3:cont l 3=true->128<=bt l 3/\bt l 3<=191:=fun h=>(of_decide_eq_true h).2;have hb:bt l 0<256:=UInt8.toNat_lt _;unfold T7 pt3 pt4 Utf8.runeError;generalize bt l 0=b at *;generalize bt l 1=d at *;generalize bt l 2=f at *;generalize bt l 3=g at *;generalize cont l 1=c1 at *;generalize cont l 2=c2 at *;generalize cont l 3=c3 at *;simp only [Bool.and_eq_true,beq_iff_eq,decide_eq_true_eq]
 by_cases hA:194<=b/\b<=223
 ·rw [if_pos hA,if_neg (show ¬ b<128 by omega)]
  by_cases a:c1=true
  ·have:=f1 a;rw [if_pos a,if_pos (show b / 32=6/\c1=true from⟨by omega,a⟩),if_pos (show b % 32 * 64+d % 64>=128 by omega)];exact⟨fun h=>absurd h (by decide),fun _=>⟨rfl,by decide⟩⟩
  ·rw [if_neg a,if_neg (show ¬ (b / 32=6/\c1=true) from fun h=>a h.2),if_neg (show ¬ ((b / 16=14/\c1=true)/\c2=true) from fun h=>by omega),if_neg (show ¬ (((b / 8=30/\c1=true)/\c2=true)/\c3=true) from fun h=>by omega)];exact⟨fun _=>rfl,fun h=>absurd rfl h⟩
 rw [if_neg hA]
 by_cases hB:224<=b/\b<=239
 ·rw [if_pos hB,if_neg (show ¬ b<128 by omega),if_neg (show ¬ (b / 32=6/\c1=true) from fun h=>by omega)]
  by_cases a:c1=true/\c2=true
  ·have i:=f1 a.1;have j:=f2 a.2;rw [if_pos (show(b / 16=14/\c1=true)/\c2=true from⟨⟨by omega,a.1⟩,a.2⟩)];have e:b % 16 * 4096+d % 64 * 64+f % 64=((b - 224) * 64+(d - 128)) * 64+(f - 128):=by omega
   rw [e]
   by_cases h2:2048<=((b - 224) * 64+(d - 128)) * 64+(f - 128)/\¬ (55296<=((b - 224) * 64+(d - 128)) * 64+(f - 128)/\((b - 224) * 64+(d - 128)) * 64+(f - 128)<=57343)
   ·rw [if_pos ⟨a.1,a.2,h2⟩,if_pos ⟨h2.1,(by omega)⟩];exact⟨fun h=>absurd h (by decide),fun _=>⟨rfl,by decide⟩⟩
   ·rw [if_neg (fun h=>h2 h.2.2),if_neg (fun h=>h2 ⟨h.1,by omega⟩)];exact⟨fun _=>rfl,fun h=>absurd rfl h⟩
  ·rw [if_neg (fun h=>a ⟨h.1,h.2.1⟩),if_neg (show ¬ ((b / 16=14/\c1=true)/\c2=true) from fun h=>a ⟨h.1.2,h.2⟩),if_neg (show ¬ (((b / 8=30/\c1=true)/\c2=true)/\c3=true) from fun h=>by omega)];exact⟨fun _=>rfl,fun h=>absurd rfl h⟩
 rw [if_neg hB]
 by_cases hC:240<=b/\b<=244
 ·rw [if_pos hC,if_neg (show ¬ b<128 by omega),if_neg (show ¬ (b / 32=6/\c1=true) from fun h=>by omega),if_neg (show ¬ ((b / 16=14/\c1=true)/\c2=true) from fun h=>by omega)]
  by_cases a:c1=true/\c2=true/\c3=true
  ·have i:=f1 a.1;have j:=f2 a.2.1;have n:=f3 a.2.2;rw [if_pos (show((b / 8=30/\c1=true)/\c2=true)/\c3=true from⟨⟨⟨by omega,a.1⟩,a.2.1⟩,a.2.2⟩)];have e:b % 8 * 262144+d % 64 * 4096+f % 64 * 64+g % 64=(((b - 240) * 64+(d - 128)) * 64+(f - 128)) * 64+(g - 128):=by omega
   rw [e]
   by_cases h2:65536<=(((b - 240) * 64+(d - 128)) * 64+(f - 128)) * 64+(g - 128)/\(((b - 240) * 64+(d - 128)) * 64+(f - 128)) * 64+(g - 128)<=1114111
   ·rw [if_pos ⟨a.1,a.2.1,a.2.2,h2⟩,if_pos ⟨h2.1,by omega⟩];exact⟨fun h=>absurd h (by decide),fun _=>⟨rfl,by decide⟩⟩
   ·rw [if_neg (fun h=>h2 h.2.2.2),if_neg (fun h=>h2 ⟨h.1,by omega⟩)];exact⟨fun _=>rfl,fun h=>absurd rfl h⟩
  ·rw [if_neg (fun h=>a ⟨h.1,h.2.1,h.2.2.1⟩),if_neg (fun h=>a ⟨h.1.1.2,h.1.2,h.2⟩)];exact⟨fun _=>rfl,fun h=>absurd rfl h⟩
 rw [if_neg hC];refine⟨fun _=>?_,fun h=>absurd rfl h⟩;rw [if_neg (show ¬ b<128 by omega)]
 by_cases a:b / 32=6/\c1=true
 ·have:=f1 a.2;rw [if_pos a,if_neg (show ¬ (b % 32 * 64+d % 64>=128) by omega)]
 ·rw [if_neg a,if_neg (show ¬ ((b / 16=14/\c1=true)/\c2=true) from fun h=>by omega)]
  by_cases h2:((b / 8=30/\c1=true)/\c2=true)/\c3=true
  ·have i:=f1 h2.1.1.2;rw [if_pos h2,if_neg (fun h=>by omega)]
  ·rw [if_neg h2]
end Go.L
namespace Go.Proofs.YtekmbcbgknmhiaaGreatDoor
open Go Go.L
theorem YJ{l:List UInt8}(hne:l≠[]):IN l=some (if NT l=0 then([],1) else((l.take (NT l)).map Jk,((NT l:Nat):Int))):=by
 have hl:=List.length_pos_iff.2 hne;obtain⟨c,m,rfl⟩:=List.exists_cons_of_ne_nil hne;have i:(c::m).getD ((0:Int).toNat) default=c:=rfl;have eb:bt (c::m) 0=c.toNat:=rfl;have hc:=c.toNat_lt;unfold IN;rw [Al ⟨by decide,by omega⟩,i]
 have hup:(65<=(c.toNat:Int))/\((c.toNat:Int)<=90)->AS (((c - (65:UInt8))+(97:UInt8)).toNat<128) (some ([((c - (65:UInt8))+(97:UInt8))],(1:Int)))=some (if NT (c::m)=0 then([],1) else(((c::m).take (NT (c::m))).map Jk,((NT (c::m):Nat):Int))):=by
  intro h
  have e:(c - (65:UInt8))+(97:UInt8)=c+32:=by
   apply UInt8.toNat.inj;rw [UInt8.toNat_add,UInt8.toNat_sub,UInt8.toNat_add];have j:(97:UInt8).toNat=97:=rfl;have k:(65:UInt8).toNat=65:=rfl;have g:(32:UInt8).toNat=32:=rfl;omega
  have n:(c+32).toNat=c.toNat+32:=by
   rw [UInt8.toNat_add];have g:(32:UInt8).toNat=32:=rfl;omega
  have d:NT (c::m)=1:=by unfold NT asc;rw [eb,if_pos (decide_eq_true (by omega))]
  rw [e,Al (by omega),d,if_neg (by decide)]
  show some ([c+32],(1:Int))=some ([Jk c],1)
  unfold Jk;rw [if_pos h]
 have hlo:(48<=(c.toNat:Int))/\((c.toNat:Int)<=57)\/(97<=(c.toNat:Int))/\((c.toNat:Int)<=122)->AS (c.toNat<128) (some ([c],(1:Int)))=some (if NT (c::m)=0 then([],1) else(((c::m).take (NT (c::m))).map Jk,((NT (c::m):Nat):Int))):=by
  intro h;have d:NT (c::m)=1:=by unfold NT asc;rw [eb,if_pos (decide_eq_true (by omega))]
  rw [Al (by omega),d,if_neg (by decide)]
  show some ([c],(1:Int))=some ([Jk c],1)
  unfold Jk;rw [if_neg (by omega)]
 have hnon:asc c.toNat=false->(if(c.toNat:Int)<128 then some (([]:List UInt8),(1:Int)) else Option.bind (YD (c::m)) (fun a=>if(a.1=(65533:Int))/\(a.2=(1:Int)) then some (([]:List UInt8),(1:Int)) else Go.L.AS (0<=a.2/\a.2<=((c::m).length:Int)) (some (((c::m).take a.2.toNat),a.2))))=some (if NT (c::m)=0 then([],1) else(((c::m).take (NT (c::m))).map Jk,((NT (c::m):Nat):Int))):=by
  intro h;have d:NT (c::m)=T7 (c::m):=by unfold NT;rw [if_neg (by rw [eb,h];decide)]
  rw [d]
  by_cases b:(c.toNat:Int)<128
  ·rw [if_pos b,Aci (by rw [eb];omega),if_pos rfl]
  ·rw [if_neg b];have hd:=Ad5 (c::m) hne (by rw [eb];omega);unfold YD;rw [Al hne,Option.bind_some]
   by_cases h2:T7 (c::m)=0
   ·rw [hd.1 h2,if_pos ⟨rfl,rfl⟩,if_pos h2]
   ·obtain⟨h3,f⟩:=hd.2 h2;have o:=Aam (c::m) hne;simp only [h3];rw [if_neg (by omega),Al ⟨by omega,by omega⟩,if_neg h2,Int.toNat_natCast,Acj h2]
 by_cases b:(48<=(c.toNat:Int))/\((c.toNat:Int)<=57)
 ·rw [if_pos b];exact hlo (.inl b)
 rw [if_neg b]
 by_cases h2:97<=(c.toNat:Int)
 ·rw [if_pos h2]
  by_cases h3:(c.toNat:Int)<=122
  ·rw [if_pos h3];exact hlo (.inr ⟨h2,h3⟩)
  ·rw [if_neg h3,if_neg (by omega)];exact hnon (decide_eq_false (by omega))
 ·rw [if_neg h2]
  by_cases f:(65<=(c.toNat:Int))/\((c.toNat:Int)<=90)
  ·rw [if_pos f];exact hup f
  ·rw [if_neg f];exact hnon (decide_eq_false (by omega))
end Go.Proofs.YtekmbcbgknmhiaaGreatDoor
namespace Go.L
open Go
abbrev W:=List UInt8×Int×Int
abbrev WS:=(List W×Int) ⊕ List W
def fin(cur:List UInt8)(fr at':Nat):List W:=if cur=[] then[] else[(cur,(fr:Int),(at':Int))]
def V5(a:List UInt8):Nat->Nat->List UInt8->Nat->List W
 | 0,at',cur,fr=>fin cur fr at'
 | f+1,at',cur,fr=>
  if at'<a.length then
   if NT (a.drop at')=0 then fin cur fr at'++V5 a f (at'+1) [] (at'+1)
   else V5 a f (at'+NT (a.drop at')) (cur++((a.drop at').take (NT (a.drop at'))).map Jk) fr
  else fin cur fr at'
def wds(a:List UInt8):List W:=V5 a (a.length+1) 0 [] 0
theorem Pe{a:List UInt8}{f at':Nat}{cur:List UInt8}{fr:Nat}(h:a.length<=at'):V5 a f at' cur fr=fin cur fr at':=by
 cases f with
 | zero=>rfl
 | succ f=>unfold V5;rw [if_neg (by omega)]
theorem Acl(cur:List UInt8)(fr at':Nat):(fin cur fr at').length<=1:=by unfold fin;split <;> simp
theorem Vh{a:List UInt8}{i:Nat}(h:i<a.length):a.drop i≠[]:=fun e=>by
 have:=congrArg List.length e;rw [List.length_drop,List.length_nil] at this;omega
theorem Ws{a:List UInt8}{i:Nat}(h:i<a.length):i+NT (a.drop i)<=a.length:=by
 have:=Aan _ (Vh h);rw [List.length_drop] at this;omega
theorem XZ{a:List UInt8}{i:Nat}(h:i<a.length):(((a.drop i).take (NT (a.drop i))).map Jk).length=NT (a.drop i):=by
 have:=Aan _ (Vh h);rw [List.length_map,List.length_take];omega
end Go.L
namespace Go.Proofs.YtekmbcbgknmhiaaGreatDoor
open Go Go.L
theorem Acm{a:List UInt8}(hs:a.length<=1000000000000):∀ (f at':Nat) (L:List W),a.length<=at'+f->L.length<=at'->at'<=a.length+1->
  run (Cu a) (L,(at':Int))=some (L++V5 a f at' [] at')/\
  ∀
   (cur:List UInt8) (fr:Nat),(at'<a.length\/cur≠[])->at'<=a.length->cur.length<=at'->∃ m,run (Ct a L (fr:Int)) (cur,(at':Int))=some m/\
   (match m with | .inl s=>run (Cu a) s=some (L++V5 a f at' cur fr) | .inr r=>r=L++V5 a f at' cur fr):=by
 intro f
 induction f with
 | zero=>
  intro at' L hf hL ha
  constructor
  ·rw [Pe (by omega)];refine Bh (m:=some (L++fin [] at' at')) ?_;unfold Cu;simp only;rw [if_neg (by omega)];unfold fin;rw [if_pos rfl,List.append_nil]
  ·intro cur fr hc hle hcl;have hc:cur≠[]:=hc.resolve_left (by omega);refine⟨.inr (L++fin cur fr at'),?_,rfl⟩;refine Bh (m:=some (Sum.inr (L++fin cur fr at'):WS)) ?_;unfold Ct F8;simp only;rw [if_neg (by omega),Al (by constructor <;> omega)];unfold fin;rw [if_neg hc]
   rfl
 | succ f ih=>
  intro at' L hf hL ha
  have B:∀ (cur:List UInt8) (fr:Nat),(at'<a.length\/cur≠[])->at'<=a.length->cur.length<=at'->∃ m,run (Ct a L (fr:Int)) (cur,(at':Int))=some m/\
   (match m with | .inl s=>run (Cu a) s=some (L++V5 a (f+1) at' cur fr) | .inr r=>r=L++V5 a (f+1) at' cur fr):=by
   intro cur fr hc hle hcl
   by_cases h:at'<a.length
   ·have hroom:=Ws h;have hlow:=XZ h;have b:=YJ (Vh h);unfold V5;rw [if_pos h]
    by_cases d:NT (a.drop at')=0
    ·rw [if_pos d] at b ⊢;have e:(((at':Nat):Int)+1)=((at'+1:Nat):Int):=by omega
     by_cases hcur:cur=[]
     ·have c:=(ih (at'+1) L (by omega) (by omega) (by omega)).1;refine⟨.inl (L,((at'+1:Nat):Int)),?_,?_⟩
      ·refine Bh (m:=some (Sum.inl (L,((at'+1:Nat):Int)):WS)) ?_;unfold Ct;simp only;rw [if_pos (by omega),Al ⟨by omega,by omega⟩,Int.toNat_natCast,b,Option.bind_some];simp only;rw [if_pos trivial,Al (by constructor <;> omega),if_pos hcur,e]
      ·simp only;rw [c];unfold fin;rw [if_pos hcur,List.nil_append]
     ·have c:=(ih (at'+1) (L++[(cur,(fr:Int),(at':Int))]) (by omega) (by rw [List.length_append,List.length_singleton];omega) (by omega)).1;refine⟨.inl (L++[(cur,(fr:Int),(at':Int))],((at'+1:Nat):Int)),?_,?_⟩
      ·refine Bh (m:=some (Sum.inl (L++[(cur,(fr:Int),(at':Int))],((at'+1:Nat):Int)):WS)) ?_;unfold Ct;simp only;rw [if_pos (by omega),Al ⟨by omega,by omega⟩,Int.toNat_natCast,b,Option.bind_some];simp only;rw [if_pos trivial,Al (by constructor <;> omega),if_neg hcur,Al (by constructor <;> omega),e]
      ·simp only;rw [c];unfold fin;rw [if_neg hcur,List.append_assoc]
    ·rw [if_neg d] at b ⊢;have hne:((a.drop at').take (NT (a.drop at'))).map Jk≠[]:=fun e=>by rw [e,List.length_nil] at hlow;omega
     obtain⟨m,c,h2⟩:=(ih (at'+NT (a.drop at')) L (by omega) (by omega) (by omega)).2 (cur++((a.drop at').take (NT (a.drop at'))).map Jk) fr (.inr (fun e=>hne (List.append_eq_nil_iff.1 e).2)) hroom (by rw [List.length_append,hlow];omega);refine⟨m,?_,h2⟩;rw [<- c];refine B2 ?_;unfold Ct;simp only;rw [if_pos (by omega),Al ⟨by omega,by omega⟩,Int.toNat_natCast,b,Option.bind_some];simp only;rw [if_neg hne,Al (by omega),Al (by constructor <;> omega)]
     rfl
   ·have hc:cur≠[]:=hc.resolve_left h;rw [Pe (by omega)];refine⟨.inr (L++fin cur fr at'),?_,rfl⟩;refine Bh (m:=some (Sum.inr (L++fin cur fr at'):WS)) ?_;unfold Ct F8;simp only;rw [if_neg (by omega),Al (by constructor <;> omega)];unfold fin;rw [if_neg hc]
    rfl
  refine⟨?_,B⟩
  by_cases h:at'<a.length
  ·obtain⟨m,c,h2⟩:=B [] at' (.inl h) (by omega) (by simp)
   have hb:Cu a (L,(at':Int))=some m:=by
    unfold Cu;simp only;rw [if_pos (by omega)];exact c
   cases m with
   | inl s=>rw [B2 hb];exact h2
   | inr r=>rw [Bh (m:=some r) hb,h2]
  ·rw [Pe (by omega)];refine Bh (m:=some (L++fin [] at' at')) ?_;unfold Cu;simp only;rw [if_neg (by omega)];unfold fin;rw [if_pos rfl,List.append_nil]
theorem Wt{a:List UInt8}(hs:a.length<=1000000000000):Nl a=some (wds a):=by
 have:=(Acm hs (a.length+1) 0 [] (by omega) (by simp) (by omega)).1;rw [List.nil_append] at this;exact this
theorem YK{a:List UInt8}(hs:a.length<=1000000000000):IP a=some (decide ((wds a).map Prod.fst=[a])):=by
 unfold IP;rw [Al (by omega),Wt hs,Option.bind_some];generalize wds a=l
 match l with
 | []=>rw [if_neg (by simp)];simp
 | [x]=>rw [if_pos (show(([x].length:Nat):Int)=1 from rfl),Al (by simp)];simp
 | x::y::z=>rw [if_neg (by simp;omega)];simp
end Go.Proofs.YtekmbcbgknmhiaaGreatDoor
end
noncomputable section
namespace Go.Proofs.YtekmbcbgknmhiaaGreatDoor
open Go Go.L
theorem NU(x y z:Int):ED x y z=some (decide (y<=x/\x<=z)):=rfl
theorem Vi{a:List UInt8}{i:Nat}(k:Nat){z:Int}(hz:z=((i+k:Nat):Int)):((a.getD z.toNat default).toNat:Int)=((bt (a.drop i) k:Nat):Int):=by
 subst hz;rw [Ach,Int.toNat_natCast]
 rfl
theorem L7{a:List UInt8}(hs:a.length<=1000000000000){i k:Nat}(n:Nat)(p:Nat)(hp:p<=1000000000)(hk:k<n)(_h4:n<=4)(hlen:i+n<=a.length):
  HM a (i:Int) (n:Int) ((p:Int),(k:Int))=if cont (a.drop i) k then some (.inl (((p * 64+(bt (a.drop i) k - 128):Nat):Int),((k+1:Nat):Int))) else some (.inr 0):=by
 unfold HM;have hb:bt (a.drop i) k<256:=UInt8.toNat_lt _;have hg:=Vi (a:=a) (i:=i) k (z:=(i:Int)+(k:Int)) (by omega);simp only;rw [if_pos (by omega),Al (by constructor <;> omega),Al ⟨by omega,by omega⟩,hg,NU,Option.bind_some]
 have hc:cont (a.drop i) k=decide ((128:Int)<=((bt (a.drop i) k:Nat):Int)/\((bt (a.drop i) k:Nat):Int)<=191):=by
  unfold cont;rw [List.length_drop]
  congr 1
  apply propext
  constructor
  ·rintro⟨_,h2,h3⟩;exact⟨by omega,by omega⟩
  ·rintro⟨h2,h3⟩;exact⟨by omega,by omega,by omega⟩
 rw [hc]
 by_cases h:(128:Int)<=((bt (a.drop i) k:Nat):Int)/\((bt (a.drop i) k:Nat):Int)<=191
 ·rw [decide_eq_true h,if_neg (by decide),if_pos rfl,Al (by constructor <;> omega),Al (by constructor <;> omega),Al (by constructor <;> omega),Al (by constructor <;> omega)]
  congr 3
  ·omega
 ·rw [decide_eq_false h,if_pos (by decide),if_neg (by decide)]
  rfl
theorem Rg{a:List UInt8}{i:Nat}(n:Nat)(p:Nat):HM a (i:Int) (n:Int) ((p:Int),(n:Int))=(I8 (n:Int) (p:Int)).map Sum.inr:=by
 unfold HM;simp only;rw [if_neg (by omega)]
theorem size_eq{a:List UInt8}(hs:a.length<=1000000000000){i:Nat}(hi:i<a.length):Pc a (i:Int)=some ((T7 (a.drop i):Nat):Int):=by
 have o:bt (a.drop i) 0<256:=UInt8.toNat_lt _;have hg:=Vi (a:=a) (i:=i) 0 (z:=(i:Int)) (by omega);have k3z:∀ s,Gn a (i:Int) 0 s=some 0:=fun s=>by unfold Gn;rw [if_pos rfl]
 -- the loop for n bytes
 have hc:∀ k,cont (a.drop i) k=true->i+k<a.length:=fun k h=>by
  have:=(of_decide_eq_true h).1;rw [List.length_drop] at this;omega
 unfold Pc;rw [Al ⟨by omega,by omega⟩,hg,NU,Option.bind_some];unfold T7
 by_cases hA:194<=bt (a.drop i) 0/\bt (a.drop i) 0<=223
 ·rw [decide_eq_true ⟨by omega,by omega⟩,if_pos rfl,Al (by constructor <;> omega),if_pos hA];unfold JQ I9 Gn;rw [hg,NU,Option.bind_some,decide_eq_false (by omega),if_neg (by decide),NU,Option.bind_some,decide_eq_false (by omega),if_neg (by decide),if_neg (by decide),Al (by constructor <;> omega)]
  by_cases h2:i+2<=a.length
  ·rw [if_neg (by omega)];have e:((bt (a.drop i) 0:Nat):Int) - 192=((bt (a.drop i) 0 - 192:Nat):Int):=by omega
   rw [e];unfold Lq;have s1:=L7 hs (i:=i) (k:=1) 2 (bt (a.drop i) 0 - 192) (by omega) (by decide) (by decide) h2
   by_cases c1:cont (a.drop i) 1=true
   ·rw [if_pos c1] at s1 ⊢;refine(B2 s1).trans (Bh (m:=some 2) ((Rg 2 _).trans ?_));unfold I8;rw [if_neg (by decide),if_neg (by decide)]
    rfl
   ·rw [if_neg c1] at s1 ⊢;exact Bh (m:=some 0) s1
  ·rw [if_pos (by omega),if_neg (fun h=>by have:=hc 1 h;omega)]
   rfl
 rw [decide_eq_false (by omega),if_neg (by decide),if_neg hA];unfold JQ;rw [hg,NU,Option.bind_some]
 by_cases hB:224<=bt (a.drop i) 0/\bt (a.drop i) 0<=239
 ·rw [decide_eq_true ⟨by omega,by omega⟩,if_pos rfl,Al (by constructor <;> omega),if_pos hB];unfold I9 Gn;rw [hg,NU,Option.bind_some,decide_eq_false (by omega),if_neg (by decide),if_neg (by decide),Al (by constructor <;> omega)]
  by_cases h2:i+3<=a.length
  ·rw [if_neg (by omega)];have e:((bt (a.drop i) 0:Nat):Int) - 224=((bt (a.drop i) 0 - 224:Nat):Int):=by omega
   rw [e];unfold Lq;have g:bt (a.drop i) 1<256:=UInt8.toNat_lt _;have j:bt (a.drop i) 2<256:=UInt8.toNat_lt _;have s1:=L7 hs (i:=i) (k:=1) 3 (bt (a.drop i) 0 - 224) (by omega) (by decide) (by decide) h2;have b:=L7 hs (i:=i) (k:=2) 3 ((bt (a.drop i) 0 - 224) * 64+(bt (a.drop i) 1 - 128)) (by omega) (by decide) (by decide) h2
   by_cases c1:cont (a.drop i) 1=true
   ·rw [if_pos c1] at s1;refine(B2 s1).trans ?_
    by_cases c2:cont (a.drop i) 2=true
    ·rw [if_pos c2] at b;refine(B2 b).trans (Bh (m:=some _) ((Rg 3 _).trans (congrArg _ ?_)));have f:((bt (a.drop i) 0 - 224) * 64+(bt (a.drop i) 1 - 128)) * 64+(bt (a.drop i) 2 - 128)=pt3 (a.drop i):=rfl;rw [f];unfold I8;rw [if_pos (by decide)]
     by_cases c:2048<=pt3 (a.drop i)
     ·rw [if_neg (by omega),NU,Option.bind_some]
      by_cases l:55296<=pt3 (a.drop i)/\pt3 (a.drop i)<=57343
      ·rw [decide_eq_true ⟨by omega,by omega⟩,if_pos rfl,if_neg (fun h=>h.2.2.2 l)];rfl
      ·rw [decide_eq_false (by omega),if_neg (by decide),if_neg (by decide),if_pos ⟨c1,c2,c,l⟩]
     ·rw [if_pos (by omega),if_neg (fun h=>c h.2.2.1)];rfl
    ·rw [if_neg c2] at b;rw [if_neg (fun h=>c2 h.2.1)];exact Bh (m:=some 0) b
   ·rw [if_neg c1] at s1;rw [if_neg (fun h=>c1 h.1)];exact Bh (m:=some 0) s1
  ·rw [if_pos (by omega),if_neg (fun h=>by have:=hc 2 h.2.1;omega)]
   rfl
 rw [decide_eq_false (by omega),if_neg (by decide),if_neg hB];unfold I9;rw [hg,NU,Option.bind_some]
 by_cases hC:240<=bt (a.drop i) 0/\bt (a.drop i) 0<=244
 ·rw [decide_eq_true ⟨by omega,by omega⟩,if_pos rfl,Al (by constructor <;> omega),if_pos hC];unfold Gn;rw [if_neg (by decide),Al (by constructor <;> omega)]
  by_cases h2:i+4<=a.length
  ·rw [if_neg (by omega)];have e:((bt (a.drop i) 0:Nat):Int) - 240=((bt (a.drop i) 0 - 240:Nat):Int):=by omega
   rw [e];unfold Lq;have g:bt (a.drop i) 1<256:=UInt8.toNat_lt _;have j:bt (a.drop i) 2<256:=UInt8.toNat_lt _;have p:bt (a.drop i) 3<256:=UInt8.toNat_lt _;have s1:=L7 hs (i:=i) (k:=1) 4 (bt (a.drop i) 0 - 240) (by omega) (by decide) (by decide) h2;have b:=L7 hs (i:=i) (k:=2) 4 ((bt (a.drop i) 0 - 240) * 64+(bt (a.drop i) 1 - 128)) (by omega) (by decide) (by decide) h2;have d:=L7 hs (i:=i) (k:=3) 4 (((bt (a.drop i) 0 - 240) * 64+(bt (a.drop i) 1 - 128)) * 64+(bt (a.drop i) 2 - 128)) (by omega) (by decide) (by decide) h2
   by_cases c1:cont (a.drop i) 1=true
   ·rw [if_pos c1] at s1;refine(B2 s1).trans ?_
    by_cases c2:cont (a.drop i) 2=true
    ·rw [if_pos c2] at b;refine(B2 b).trans ?_
     by_cases c3:cont (a.drop i) 3=true
     ·rw [if_pos c3] at d;refine(B2 d).trans (Bh (m:=some _) ((Rg 4 _).trans (congrArg _ ?_)));have f:(((bt (a.drop i) 0 - 240) * 64+(bt (a.drop i) 1 - 128)) * 64+(bt (a.drop i) 2 - 128)) * 64+(bt (a.drop i) 3 - 128)=pt4 (a.drop i):=rfl;rw [f];unfold I8;rw [if_neg (by decide),if_pos (by decide),NU,Option.bind_some]
      by_cases c:65536<=pt4 (a.drop i)/\pt4 (a.drop i)<=1114111
      ·rw [decide_eq_true ⟨by omega,by omega⟩,if_neg (by decide),if_pos ⟨c1,c2,c3,c⟩]
      ·rw [decide_eq_false (by omega),if_pos (by decide),if_neg (fun h=>c h.2.2.2)];rfl
     ·rw [if_neg c3] at d;rw [if_neg (fun h=>c3 h.2.2.1)];exact Bh (m:=some 0) d
    ·rw [if_neg c2] at b;rw [if_neg (fun h=>c2 h.2.1)];exact Bh (m:=some 0) b
   ·rw [if_neg c1] at s1;rw [if_neg (fun h=>c1 h.1)];exact Bh (m:=some 0) s1
  ·rw [if_pos (by omega),if_neg (fun h=>by have:=hc 3 h.2.2.1;omega)]
   rfl
 rw [decide_eq_false (by omega),if_neg (by decide),if_neg hC,k3z]
 rfl
theorem Xk{a:List UInt8}(hs:a.length<=1000000000000){i:Nat}(hi:i<a.length):KN a (i:Int)=some ((NT (a.drop i):Nat):Int):=by
 have hg:=Vi (a:=a) (i:=i) 0 (z:=(i:Int)) (by omega);unfold KN;rw [Al ⟨by omega,by omega⟩,hg,NU,Option.bind_some];unfold NT asc
 by_cases b:48<=bt (a.drop i) 0/\bt (a.drop i) 0<=57
 ·rw [decide_eq_true ⟨by omega,by omega⟩,if_pos rfl,if_pos (decide_eq_true (.inl b))];rfl
 rw [decide_eq_false (by omega),if_neg (by decide),NU,Option.bind_some]
 by_cases h2:97<=bt (a.drop i) 0/\bt (a.drop i) 0<=122
 ·rw [decide_eq_true ⟨by omega,by omega⟩,if_pos rfl,if_pos (decide_eq_true (.inr (.inl h2)))];rfl
 rw [decide_eq_false (by omega),if_neg (by decide),NU,Option.bind_some]
 by_cases h3:65<=bt (a.drop i) 0/\bt (a.drop i) 0<=90
 ·rw [decide_eq_true ⟨by omega,by omega⟩,if_pos rfl,if_pos (decide_eq_true (.inr (.inr h3)))];rfl
 rw [decide_eq_false (by omega),if_neg (by decide),size_eq hs hi,Option.bind_some,if_neg (fun h=>by have:=of_decide_eq_true h;omega)]
end Go.Proofs.YtekmbcbgknmhiaaGreatDoor
namespace Go.Proofs.YtekmbcbgknmhiaaGreatDoor
open Go Go.L
theorem Aao{a:List UInt8}{e j:Nat}(h:e+j<a.length):((a.drop e).take (j+1)).map Jk=((a.drop e).take j).map Jk++[Jk (a.getD (e+j) default)]:=by
 have b:(a.drop e)[j]? = some (a.getD (e+j) default):=by
  rw [List.getElem?_drop,List.getD_eq_getElem?_getD,List.getElem?_eq_getElem h]
  rfl
 rw [List.take_add_one,b,List.map_append]
 rfl
theorem Aap{a:List UInt8}(hs:a.length<=1000000000000){e n:Nat}(h:e+n<=a.length)(low:List UInt8)(hl:low.length<=e):
  MI a (e:Int) (n:Int) (low,(e:Int))=some (.inl (low++((a.drop e).take n).map Jk,((e+n:Nat):Int))):=by
 unfold MI
 have key:=QM (b:=Iq a (e:Int) (n:Int)) (m:=some (.inl (low++((a.drop e).take n).map Jk,((e+n:Nat):Int)))) (fun j=>(low++((a.drop e).take j).map Jk,((e+j:Nat):Int))) n (fun j hj=>by
  unfold Iq;simp only;rw [Al (by constructor <;> omega),if_pos (by omega),Al ⟨by omega,by omega⟩,Int.toNat_natCast]
  have hlen:(low++((a.drop e).take j).map Jk).length+[Jk (a.getD (e+j) default)].length<=2000000000002:=by
   rw [List.length_append,List.length_map,List.length_take,List.length_drop,List.length_singleton];omega
  have hk:Jf (low++((a.drop e).take j).map Jk) ((e+j:Nat):Int) (Jk (a.getD (e+j) default))=some (.inl (low++((a.drop e).take (j+1)).map Jk,((e+(j+1):Nat):Int))):=by
   unfold Jf;rw [Al (by constructor <;> omega),Al (by constructor <;> omega),Aao (by omega),List.append_assoc]
   congr 3
  rw [<- hk];unfold Jk
  split
  ·rfl
  ·rfl) (by
  unfold Iq MH;simp only;rw [Al (by constructor <;> omega),if_neg (by omega),Al (by constructor <;> omega)]
  congr 3) 0 (by omega)
 simp only [List.take_zero,List.map_nil,List.append_nil,Nat.add_zero] at key;exact key
theorem Vj{a:List UInt8}{at':Nat}(h:a.length<=at')(L:List W):run (Dt a) (L,(at':Int))=some L:=by
 refine Bh (m:=some L) ?_;unfold Dt MJ;simp only;rw [if_neg (by omega)]
theorem Aaq{a:List UInt8}(hs:a.length<=1000000000000)(L:List W){fr at':Nat}(hL:L.length<=at')(ha:at'<=a.length)(cur:List UInt8)(hfr:fr<=at')(hc:cur=[]↔fr=at'):
  Jg L (fr:Int) cur (at':Int)=some (.inl (L++fin cur fr at',((at'+1:Nat):Int))):=by
 unfold Jg fin
 by_cases h:fr=at'
 ·rw [if_neg (by omega),Al (by constructor <;> omega),if_pos (hc.2 h),List.append_nil]
  congr 3
 ·rw [if_pos (by omega),Al (by rw [List.length_singleton];constructor <;> omega),Al (by constructor <;> omega),if_neg (fun e=>h (hc.1 e))]
  congr 3
theorem Acn{a:List UInt8}(hs:a.length<=1000000000000):∀ (f at':Nat) (L:List W),a.length<=at'+f->L.length<=at'->at'<=a.length+1->
  run (Dt a) (L,(at':Int))=some (L++V5 a f at' [] at')/\
  ∀
   (cur:List UInt8) (fr:Nat),at'<=a.length->fr<=at'->cur.length<=at'->(cur=[]↔fr=at')->∃ s,run (E2 a L (fr:Int)) (cur,(at':Int))=some (.inl s)/\
   run (Dt a) s=some (L++V5 a f at' cur fr):=by
 have E:∀ (f at':Nat) (L:List W),a.length<=at'->L.length<=at'->∀ (cur:List UInt8) (fr:Nat),at'<=a.length->fr<=at'->(cur=[]↔fr=at')->∃ s,run (E2 a L (fr:Int)) (cur,(at':Int))=some (.inl s)/\
   run (Dt a) s=some (L++V5 a f at' cur fr):=by
  intro f at' L h hL cur fr hle hfr hc;refine⟨(L++fin cur fr at',((at'+1:Nat):Int)),?_,?_⟩
  ·refine Bh (m:=some (Sum.inl (L++fin cur fr at',((at'+1:Nat):Int)):WS)) ?_;unfold E2;simp only;rw [if_neg (by omega),Aaq hs L hL hle cur hfr hc]
  ·rw [Vj (by omega),Pe h]
 intro f
 induction f with
 | zero=>
  intro at' L hf hL ha
  constructor
  ·rw [Vj (by omega),Pe (by omega)];unfold fin;rw [if_pos rfl,List.append_nil]
  ·intro cur fr hle hfr _ hc;exact E 0 at' L (by omega) hL cur fr hle hfr hc
 | succ f ih=>
  intro at' L hf hL ha
  have B:∀ (cur:List UInt8) (fr:Nat),at'<=a.length->fr<=at'->cur.length<=at'->(cur=[]↔fr=at')->∃ s,run (E2 a L (fr:Int)) (cur,(at':Int))=some (.inl s)/\
   run (Dt a) s=some (L++V5 a (f+1) at' cur fr):=by
   intro cur fr hle hfr hcl hc
   by_cases h:at'<a.length
   ·have hroom:=Ws h;have hlow:=XZ h;have hl:=Xk hs h;unfold V5;rw [if_pos h]
    by_cases c:NT (a.drop at')=0
    ·rw [if_pos c];refine⟨(L++fin cur fr at',((at'+1:Nat):Int)),?_,?_⟩
     ·refine Bh (m:=some (Sum.inl (L++fin cur fr at',((at'+1:Nat):Int)):WS)) ?_;unfold E2;simp only;rw [if_pos (by omega),hl,Option.bind_some,if_neg (by omega),Aaq hs L hL hle cur hfr hc]
     ·have b:=(ih (at'+1) (L++fin cur fr at') (by omega) (by rw [List.length_append];have:=Acl cur fr at';omega) (by omega)).1;rw [b,List.append_assoc]
    ·rw [if_neg c];have hne:((a.drop at').take (NT (a.drop at'))).map Jk≠[]:=fun e=>by rw [e,List.length_nil] at hlow;omega
     obtain⟨s,b,h2⟩:=(ih (at'+NT (a.drop at')) L (by omega) (by omega) (by omega)).2 (cur++((a.drop at').take (NT (a.drop at'))).map Jk) fr hroom (by omega) (by rw [List.length_append,hlow];omega) ⟨fun e=>absurd (List.append_eq_nil_iff.1 e).2 hne,fun e=>by omega⟩;refine⟨s,?_,h2⟩;rw [<- b];refine B2 ?_;unfold E2;simp only;rw [if_pos (by omega),hl,Option.bind_some,if_pos (by omega),Option.bind_some,Aap hs hroom cur hcl]
   ·exact E (f+1) at' L (by omega) hL cur fr hle hfr hc
  refine⟨?_,B⟩
  by_cases h:at'<a.length
  ·obtain⟨s,b,h2⟩:=B [] at' (by omega) (by omega) (by simp) ⟨fun _=>rfl,fun _=>rfl⟩
   have hb:Dt a (L,(at':Int))=some (.inl s):=by
    unfold Dt;simp only;rw [if_pos (by omega)];exact b
   rw [B2 hb];exact h2
  ·rw [Vj (by omega),Pe (by omega)];unfold fin;rw [if_pos rfl,List.append_nil]
theorem YL{a:List UInt8}(hs:a.length<=1000000000000):PQ a=some (wds a):=by
 have:=(Acn hs (a.length+1) 0 [] (by omega) (by simp) (by omega)).1;rw [List.nil_append] at this;exact this
def wf(a:List UInt8):Int×Int:=if 64<a.length then(3,-1) else if(wds a).map Prod.fst=[a] then(0,0) else(6,-1)
theorem Aar(a:List UInt8):Iy a=some (wf a):=by
 unfold Iy wf
 by_cases h:64<a.length
 ·rw [if_pos (by omega),if_pos h];rfl
 ·rw [if_neg (by omega),if_neg h,YK (by omega),Option.bind_some]
  by_cases b:(wds a).map Prod.fst=[a]
  ·rw [decide_eq_true b,if_neg (by decide),if_pos b]
  ·rw [decide_eq_false b,if_pos (by decide),if_neg b];rfl
theorem Vk(a:List UInt8):JR a=some (wf a):=by
 unfold JR wf
 by_cases h:64<a.length
 ·rw [if_pos (by omega),if_pos h];rfl
 ·rw [if_neg (by omega),if_neg h,Al (by omega),YL (by omega),Option.bind_some];generalize wds a=l
  match l with
  | []=>rw [if_neg (by simp),if_neg (by simp)];rfl
  | [x]=>
   rw [if_pos (show(([x].length:Nat):Int)=1 from rfl),Al (by simp)]
   show(if x.1=a then _ else _)=_
   by_cases b:x.1=a
   ·rw [if_pos b,if_pos (by simp [b])]
   ·rw [if_neg b,if_neg (by simp [b])];rfl
  | x::y::z=>rw [if_neg (by simp;omega),if_neg (by simp)];rfl
end Go.Proofs.YtekmbcbgknmhiaaGreatDoor
end
noncomputable section
namespace Go.L
def Sm:List UInt8->List UInt8->List (List UInt8)
 | cur,[]=>[cur]
 | cur,c::s=>if c=47 then cur::Sm [] s else Sm (cur++[c]) s
theorem Vl:∀ (s cur:List UInt8),Sm cur s=(cur++(Sm [] s).headD [])::(Sm [] s).tail
 | [],cur=>by simp [Sm]
 | c::s,cur=>by
  unfold Sm
  by_cases h:c=47
  ·rw [if_pos h,if_pos h];simp
  ·rw [if_neg h,if_neg h,Vl s (cur++[c]),Vl s ([]++[c])];simp
def V6:List (List UInt8)->Nat
 | []=>0
 | x::l=>x.length+1+V6 l
theorem Vm:∀ (s cur:List UInt8),V6 (Sm cur s)=cur.length+s.length+1
 | [],cur=>by simp [Sm,V6]
 | c::s,cur=>by
  unfold Sm
  split
  ·unfold V6;rw [Vm s []];simp only [List.length_cons,List.length_nil];omega
  ·rw [Vm s];simp only [List.length_append,List.length_cons,List.length_nil];omega
theorem Tl:∀ s:List UInt8,Lib.splitK [47] 0 (s.count 47) s=Sm [] s
 | []=>rfl
 | c::s=>by
  have ih:=Tl s
  have hi:Lib.index (c::s) [47]=if c==47 then 0 else if Lib.index s [47] == -1 then -1 else Lib.index s [47]+1:=by
   rw [Lib.index_one,Lib.index_one];rfl
  by_cases h:c=47
  ·subst h;rw [List.count_cons_self];unfold Lib.splitK Sm;rw [hi];simp [ih]
  ·have hb:(c==47)=false:=by simpa using h
   rw [List.count_cons_of_ne (fun e=>h e)]
   have hp:Sm [] (c::s)=([c]++(Sm [] s).headD [])::(Sm [] s).tail:=by
    conv=>lhs;unfold Sm
    rw [if_neg h,Vl s ([]++[c])];rfl
   rw [hp,<- ih]
   cases hk:s.count 47 with
   | zero=>rfl
   | succ k=>
    unfold Lib.splitK;rw [hi,hb]
    by_cases a:(Lib.index s [47] == -1)=true
    ·simp [a]
    ·have hge : -1<=Lib.index s [47]:=Lib.index_ge s [47];have h2:0<=Lib.index s [47]:=by have:Lib.index s [47]≠-1:=fun e=>a (by simp [e]);omega
     obtain⟨i,b⟩:=Int.eq_ofNat_of_zero_le h2;have h3:((i:Int)+1 == -1)=false:=by simp;omega
     have d:((i:Int) == -1)=false:=by simp
     rw [b] at a ⊢;simp [h3,d,show((i:Int)+1).toNat=i+1 by omega]
def sl(s:List UInt8):List (List UInt8):=if s=[] then[] else Sm [] s
theorem Aas(s:List UInt8):V6 (sl s)<=s.length+1:=by unfold sl;split;simp [V6];rw [Vm];simp
theorem Vn:∀ {l:List (List UInt8)} {x:List UInt8},x∈l->x.length<V6 l
 | y::l,x,h=>by
  unfold V6
  rcases List.mem_cons.1 h with rfl | h
  ·omega
  ·have:=Vn h;omega
def V7(c:UInt8):Bool:=decide ((97<=c.toNat/\c.toNat<=122)\/(48<=c.toNat/\c.toNat<=57)\/c.toNat=45\/c.toNat=95\/c.toNat=46)
def YM(s:List UInt8):Bool:=decide (1<=s.length/\s.length<=32/\97<=(s.getD 0 default).toNat/\(s.getD 0 default).toNat<=122)&&s.all V7
def wr(w:Bool):Int->List (List UInt8)->Int
 | _,[]=>-1
 | a,x::l=>if(YM x||decide (x=[35])||(w&&(decide (x=[42])||decide (x=[42,42]))))=true then wr w (a+x.length+1) l else a
theorem drop_cons{α:Type}[Inhabited α]{l:List α}{i:Nat}(h:i<l.length):l.drop i=l.getD i default::l.drop (i+1):=by
 rw [List.drop_eq_getElem_cons h];simp [List.getD_eq_getElem?_getD,List.getElem?_eq_getElem h]
theorem Wu{α:Type}[Inhabited α]{l:List α}{i:Nat}(h:i<l.length):l.getD i default∈l:=by
 rw [List.getD_eq_getElem?_getD,List.getElem?_eq_getElem h];exact List.getElem_mem h
end Go.L
namespace Go.Proofs.YtekmbcbgknmhiaaGreatDoor
open Go Go.L
theorem Aat{s:List UInt8}(h:s.length<4294967281):IG s=some (sl s):=by
 unfold IG sl
 by_cases hs:s=[]
 ·rw [if_pos hs,if_pos hs]
 ·rw [if_neg hs,if_neg hs];unfold strings_Split Nj;rw [Al ⟨h,rfl,rfl,rfl⟩]
  show some (pieces s)=some (Sm [] s)
  unfold pieces Lib.split;rw [Lib.count_one,Tl]
theorem TQ{s:List UInt8}(hs:s.length<=1000000000000):∀ (d i f:Nat) (L:List (List UInt8)),i+d=s.length->f<=i->L.length<=i->
  Go.L.run (Ds s) (L,(f:Int),(i:Int))=some (L++Sm ((s.drop f).take (i - f)) (s.drop i)):=by
 intro d
 induction d with
 | zero=>
  intro i f L hi hf hL
  have a:Ds s (L,(f:Int),(i:Int))=some (.inl (L++[(s.drop f).take (i - f)],((i+1:Nat):Int),((i+1:Nat):Int))):=by
   unfold Ds;simp only [Int.toNat_natCast];rw [if_pos (by omega),if_pos (by omega),Al (by omega),Al (by unfold Go.E.J3;simp;omega),Al (by unfold B0;omega),Al (by unfold B0;omega)]
   rfl
  rw [B2 a,Bh (m:=some (L++[(s.drop f).take (i - f)]))]
  ·rw [List.drop_eq_nil_of_le (by omega:s.length<=i)];rfl
  ·unfold Ds;dsimp only;rw [if_neg (by omega)]
   rfl
 | succ d ih=>
  intro i f L hi hf hL;have hil:i<s.length:=by omega
  have hd:=drop_cons hil
  by_cases hc:s.getD i default=47
  ·have a:Ds s (L,(f:Int),(i:Int))=some (.inl (L++[(s.drop f).take (i - f)],((i+1:Nat):Int),((i+1:Nat):Int))):=by
    unfold Ds;simp only [Int.toNat_natCast];rw [if_pos (by omega),if_neg (by omega),Al (by omega),if_pos (by rw [hc];rfl),Al (by omega),Al (by unfold Go.E.J3;simp;omega),Al (by unfold B0;omega),Al (by unfold B0;omega)]
    rfl
   rw [B2 a,ih (i+1) (i+1) _ (by omega) (Nat.le_refl _) (by simp;omega),hd]
   conv=>rhs;unfold Sm
   rw [if_pos hc,Nat.sub_self,List.take_zero,List.append_assoc]
   rfl
  ·have a:Ds s (L,(f:Int),(i:Int))=some (.inl (L,(f:Int),((i+1:Nat):Int))):=by
    unfold Ds;simp only [Int.toNat_natCast];rw [if_pos (by omega),if_neg (by omega),Al (by omega),if_neg (fun e=>hc (UInt8.toNat.inj (show(s.getD i default).toNat=47 by omega))),Al (by unfold B0;omega)]
    rfl
   rw [B2 a,ih (i+1) f _ (by omega) (by omega) (by omega),hd]
   conv=>rhs;unfold Sm
   rw [if_neg hc]
   congr 2
   rw [show i+1 - f=(i - f)+1 by omega,List.take_add_one,List.getElem?_drop,show f+(i - f)=i by omega,List.getElem?_eq_getElem hil];simp [List.getD_eq_getElem?_getD,List.getElem?_eq_getElem hil]
theorem YN{s:List UInt8}(hs:s.length<=1000000000000):N7 s=some (sl s):=by
 unfold N7 sl
 split
 ·rfl
 ·have:=TQ hs s.length 0 0 [] (by omega) (Nat.le_refl _) (Nat.le_refl _);exact this
theorem Xl{s:List UInt8}(hs:s.length<=1000000000000):∀ (d i:Nat),i+d=s.length->1<=i->Go.L.run (CV s) (i:Int)=some ((s.drop i).all V7&&decide (1<=s.length/\s.length<=32)):=by
 intro d
 induction d with
 | zero=>
  intro i hi h;refine Bh ?_;unfold CV LM ED;rw [if_neg (by omega),List.drop_eq_nil_of_le (by omega:s.length<=i)];simp only [Option.bind_some,Option.map_some,List.all_nil,Bool.true_and]
  congr 2
  rw [decide_eq_decide];omega
 | succ d ih=>
  intro i hi h;have hil:i<s.length:=by omega
  rw [drop_cons hil,List.all_cons]
  have hstep:CV s (i:Int)=if V7 (s.getD i default) then some (.inl ((i+1:Nat):Int)) else some (.inr false):=by
   unfold CV ED V7;rw [if_pos (by omega),Al (by omega),Int.toNat_natCast];have hk:B0 ((i:Int)+1):=by unfold B0;omega
   have hz : ¬ ((i:Int)=0):=by omega
   simp only [Option.bind_some,Al hk,if_neg hz];generalize (s.getD i default).toNat=c;have j:(decide ((97:Int)<=(c:Int)/\(c:Int)<=122))=decide (97<=c/\c<=122):=by rw [decide_eq_decide];omega
   have k:(decide ((48:Int)<=(c:Int)/\(c:Int)<=57))=decide (48<=c/\c<=57):=by rw [decide_eq_decide];omega
   rw [j,k]
   by_cases a:97<=c/\c<=122
   ·simp [a]
   ·by_cases b:48<=c/\c<=57
    ·simp [a,b]
    ·by_cases e:c=45
     ·subst e;simp
     ·by_cases f:c=95
      ·subst f;simp
      ·by_cases g:c=46
       ·subst g;simp
       ·have k3' : ¬ ((c:Int)=45):=by omega
        have k4' : ¬ ((c:Int)=95):=by omega
        have k5' : ¬ ((c:Int)=46):=by omega
        simp [a,b,e,f,g,k3',k4',k5']
  by_cases hn:V7 (s.getD i default)=true
  ·rw [if_pos hn] at hstep;rw [B2 hstep,ih (i+1) (by omega) (by omega),hn,Bool.true_and]
  ·rw [if_neg hn] at hstep;have hn':V7 (s.getD i default)=false:=by simpa using hn
   rw [Bh (m:=some false) hstep,hn',Bool.false_and,Bool.false_and]
theorem YO{s:List UInt8}(hs:s.length<=1000000000000):Mr s=some (YM s):=by
 unfold Mr Ox
 by_cases b:s=[]
 ·subst b;refine Bh ?_
  rfl
 ·have hl:0<s.length:=List.length_pos_iff.2 b;have hd:s=s.getD 0 default::s.drop 1:=by have:=drop_cons hl;simpa using this
  by_cases hc:97<=(s.getD 0 default).toNat/\(s.getD 0 default).toNat<=122
  ·have a:CV s (0:Int)=some (.inl ((1:Nat):Int)):=by
    unfold CV ED;rw [if_pos (by omega),Al (by omega)];simp only [Option.bind_some,Int.toNat_zero];have hh:(decide ((97:Int)<=((s.getD 0 default).toNat:Int)/\((s.getD 0 default).toNat:Int)<=122))=true:=by rw [decide_eq_true_eq];omega
    rw [hh,if_neg (by decide),Al (by unfold B0;omega)]
    rfl
   rw [B2 a,Xl hs (s.length - 1) 1 (by omega) (Nat.le_refl _)];unfold YM;have hn:V7 (s.getD 0 default)=true:=by unfold V7;rw [decide_eq_true_eq];exact .inl hc
   have ha:s.all V7=(s.drop 1).all V7:=by conv=>lhs;rw [hd,List.all_cons,hn,Bool.true_and]
   rw [ha,Bool.and_comm]
   congr 2
   rw [decide_eq_decide]
   constructor
   ·intro h;exact⟨h.1,h.2,hc.1,hc.2⟩
   ·intro h;exact⟨h.1,h.2.1⟩
  ·have a:CV s (0:Int)=some (.inr false):=by
    unfold CV ED;rw [if_pos (by omega),Al (by omega)];simp only [Option.bind_some,Int.toNat_zero];have hh:(decide ((97:Int)<=((s.getD 0 default).toNat:Int)/\((s.getD 0 default).toNat:Int)<=122))=false:=by rw [decide_eq_false_iff_not];omega
    rw [hh]
    rfl
   rw [Bh (m:=some false) a];unfold YM;rw [show(decide (1<=s.length/\s.length<=32/\97<=(s.getD 0 default).toNat/\(s.getD 0 default).toNat<=122))=false by rw [decide_eq_false_iff_not];intro h;exact hc ⟨h.2.2.1,h.2.2.2⟩]
   rfl
theorem Uu(l:List UInt8)(k:Nat):((ByteArray.mk l.toArray).get! k).toNat=(l.getD k default).toNat:=by
 simp [ByteArray.get!,List.getD_eq_getElem?_getD,getElem!_def]
 cases l[k]? <;> rfl
theorem Aco{l:List UInt8}{p:Nat}(h:(l.getD p default).toNat<128):Utf8.decode ⟨l.toArray⟩ p=((l.getD p default).toNat,1):=by
 unfold Utf8.decode;simp only [Nat.add_zero,Uu];rw [if_pos h]
theorem Aau{l:List UInt8}{p:Nat}(h : ¬ (l.getD p default).toNat<128):128<=(Utf8.decode ⟨l.toArray⟩ p).1:=by
 unfold Utf8.decode;simp only [Nat.add_zero,Uu];rw [if_neg h]
 split
 ·split
  ·rename_i h2;simpa using h2
  ·decide
 ·split
  ·split
   ·rename_i h2;simp only [ge_iff_le,Bool.and_eq_true,decide_eq_true_eq] at h2;show 128<=_;omega
   ·decide
  ·split
   ·split
    ·rename_i h2;simp only [ge_iff_le,Bool.and_eq_true,decide_eq_true_eq] at h2;show 128<=_;omega
    ·decide
   ·decide
theorem Aav(c:UInt8):Vd c.toNat = !(V7 c):=by
 unfold Vd V7;generalize c.toNat=n;rw [Bool.eq_iff_iff];simp;omega
theorem Aaw{a:List UInt8}:∀ (f p:Nat),a.length<=p+f->(0<=Lib.idxFuncFrom Vd true ⟨a.toArray⟩ f p↔(a.drop p).all V7=false)
 | 0,p,h=>by
  rw [List.drop_eq_nil_of_le (by omega)];simp [Lib.idxFuncFrom]
 | f+1,p,h=>by
  have hsz:(ByteArray.mk a.toArray).size=a.length:=by simp [ByteArray.size]
  unfold Lib.idxFuncFrom;rw [hsz]
  by_cases hp:p<a.length
  ·rw [if_pos hp,drop_cons hp,List.all_cons]
   by_cases hc:(a.getD p default).toNat<128
   ·rw [Aco hc];simp only [Aav]
    by_cases hn:V7 (a.getD p default)=true
    ·rw [hn,if_neg (by decide),Bool.true_and];exact Aaw f (p+1) (by omega)
    ·have hn':V7 (a.getD p default)=false:=by simpa using hn
     rw [hn',if_pos (by decide)];simp
   ·have hb:Vd (Utf8.decode ⟨a.toArray⟩ p).1=true:=by
     have:=Aau hc;unfold Vd;simp;omega
    have hn:V7 (a.getD p default)=false:=by
     unfold V7;rw [decide_eq_false_iff_not];omega
    rw [hb,if_pos rfl,hn];simp
  ·rw [if_neg hp,List.drop_eq_nil_of_le (by omega)];simp
theorem YP(a:List UInt8):Tc a=some (!(a.all V7)):=by
 unfold Tc Lib.idxFunc
 congr 1
 have:=Aaw (a:=a) (ByteArray.mk a.toArray).size 0 (by simp [ByteArray.size]);rw [List.drop_zero] at this;rw [Bool.eq_iff_iff,decide_eq_true_eq,this];simp
theorem Acp(s:List UInt8):J7 s=some (YM s):=by
 unfold J7 YM
 by_cases a:s=[]
 ·subst a;rfl
 ·have hl:0<s.length:=List.length_pos_iff.2 a;rw [if_neg a]
  by_cases b:(32:Int)<(s.length:Int)
  ·rw [if_pos b,show decide (1<=s.length/\s.length<=32/\97<=(s.getD 0 default).toNat/\(s.getD 0 default).toNat<=122)=false by rw [decide_eq_false_iff_not];omega]
   rfl
  ·rw [if_neg b,Al (by omega),Int.toNat_zero]
   by_cases h2:((s.getD 0 default).toNat:Int)<97
   ·rw [if_pos h2,show decide (1<=s.length/\s.length<=32/\97<=(s.getD 0 default).toNat/\(s.getD 0 default).toNat<=122)=false by rw [decide_eq_false_iff_not];omega]
    rfl
   ·rw [if_neg h2,Al (by omega)]
    by_cases h3:122<((s.getD 0 default).toNat:Int)
    ·rw [if_pos h3,show decide (1<=s.length/\s.length<=32/\97<=(s.getD 0 default).toNat/\(s.getD 0 default).toNat<=122)=false by rw [decide_eq_false_iff_not];omega]
     rfl
    ·rw [if_neg h3,YP,show decide (1<=s.length/\s.length<=32/\97<=(s.getD 0 default).toNat/\(s.getD 0 default).toNat<=122)=true by rw [decide_eq_true_eq];omega];simp
theorem YQ{w:Bool}{l:List (List UInt8)}(hl:V6 l<=1000000000000):∀ (d i a:Nat),i+d=l.length->a+V6 (l.drop i)<=2000000000000->
  Go.L.run (FD w l) ((a:Int),(i:Int))=some (wr w (a:Int) (l.drop i)):=by
 intro d
 induction d with
 | zero=>
  intro i a hi ha;rw [List.drop_eq_nil_of_le (by omega)];refine Bh ?_;unfold FD;dsimp only;rw [if_neg (by omega)]
  rfl
 | succ d ih=>
  intro i a hi ha;have hil:i<l.length:=by omega
  have hlt:l.length<=1000000000000:=by
   have:∀ m:List (List UInt8),m.length<=V6 m:=fun m=>by
    induction m with
    | nil=>exact Nat.zero_le _
    | cons x m ih=>simp only [List.length_cons,V6];omega
   exact Nat.le_trans (this l) hl
  have hx:=Vn (Wu hil);rw [drop_cons hil] at ha ⊢;unfold wr;unfold V6 at ha;generalize hX:l.getD i default=x at *;have c:B0 ((a:Int)+(x.length:Int)):=by unfold B0;omega
  have e:B0 ((a:Int)+(x.length:Int)+1):=by unfold B0;omega
  have f:B0 ((i:Int)+1):=by unfold B0;omega
  have b:0<=(i:Int)/\(i:Int)<(l.length:Int):=by omega
  have hgo:Go.L.run (FD w l) ((a:Int)+(x.length:Int)+1,(i:Int)+1)=some (wr w ((a:Int)+(x.length:Int)+1) (l.drop (i+1))):=by
   have:=ih (i+1) (a+x.length+1) (by omega) (by omega)
   simpa using this
  have hb:FD w l ((a:Int),(i:Int))=if(YM x||decide (x=[35])||(w&&(decide (x=[42])||decide (x=[42,42]))))=true then some (.inl ((a:Int)+(x.length:Int)+1,(i:Int)+1)) else some (.inr (a:Int)):=by
   unfold FD;simp only [Int.toNat_natCast,hX];rw [if_pos (by omega),Al b,YO (by omega)];simp only [Option.bind_some,Al b,Al c,Al e,Al f]
   cases hn:YM x <;> by_cases g:x=[35] <;> cases w <;> by_cases h2:x=[42] <;> by_cases h3:x=[42,42] <;> simp_all
  by_cases hc:(YM x||decide (x=[35])||(w&&(decide (x=[42])||decide (x=[42,42]))))=true
  ·rw [if_pos hc] at hb ⊢;rw [B2 hb,hgo]
  ·rw [if_neg hc] at hb ⊢;exact Bh (m:=some (a:Int)) hb
theorem Aax{s:List UInt8}(hs:s.length<=100000000000)(w:Bool):LN s w=some (wr w 0 (sl s)):=by
 unfold LN;rw [YN (by omega),Option.bind_some];have a:=Aas s;have:=YQ (w:=w) (l:=sl s) (by omega) (sl s).length 0 0 (by omega) (by simp;omega);rw [List.drop_zero] at this;exact this
def pf(s:List UInt8):Int×Int:=if 64<s.length then(3,-1) else if 0<=wr true 0 (sl s) then(1,wr true 0 (sl s)) else(0,0)
theorem YR(s:List UInt8):HZ s=some (pf s):=by
 unfold HZ pf
 by_cases h:64<s.length
 ·rw [if_pos (by omega),if_pos h];rfl
 ·rw [if_neg (by omega),if_neg h,Aax (by omega)];simp only [Option.bind_some]
  split <;> rfl
theorem YS{l:List (List UInt8)}(hl:V6 l<=1000000000000):∀ (d i a:Nat),i+d=l.length->a+V6 (l.drop i)<=2000000000000->
  Go.L.run (Db l) ((a:Int),(i:Int))=some (if 0<=wr true (a:Int) (l.drop i) then(1,wr true (a:Int) (l.drop i)) else(0,0)):=by
 intro d
 induction d with
 | zero=>
  intro i a hi ha;rw [List.drop_eq_nil_of_le (by omega)];refine Bh ?_;unfold Db;dsimp only;rw [if_neg (by omega)]
  rfl
 | succ d ih=>
  intro i a hi ha;have hil:i<l.length:=by omega
  have hlt:l.length<=1000000000000:=by
   have:∀ m:List (List UInt8),m.length<=V6 m:=fun m=>by
    induction m with
    | nil=>exact Nat.zero_le _
    | cons x m ih=>simp only [List.length_cons,V6];omega
   exact Nat.le_trans (this l) hl
  have hx:=Vn (Wu hil);rw [drop_cons hil] at ha ⊢;unfold wr;unfold V6 at ha;generalize hX:l.getD i default=x at *;have b:B0 ((x.length:Int)+1):=by unfold B0;omega
  have c:B0 ((a:Int)+((x.length:Int)+1)):=by unfold B0;omega
  have e:B0 ((i:Int)+1):=by unfold B0;omega
  have f:0<=(i:Int)/\(i:Int)<(l.length:Int):=by omega
  have hgo:Go.L.run (Db l) ((a:Int)+((x.length:Int)+1),(i:Int)+1)=some (if 0<=wr true ((a:Int)+(x.length:Int)+1) (l.drop (i+1)) then(1,wr true ((a:Int)+(x.length:Int)+1) (l.drop (i+1))) else(0,0)):=by
   have:=ih (i+1) (a+x.length+1) (by omega) (by omega);rw [show((a:Int)+((x.length:Int)+1))=((a+x.length+1:Nat):Int) by omega,show((a:Int)+(x.length:Int)+1)=((a+x.length+1:Nat):Int) by omega];exact this
  have hb:Db l ((a:Int),(i:Int))=if(YM x||decide (x=[35])||(true&&(decide (x=[42])||decide (x=[42,42]))))=true then some (.inl ((a:Int)+((x.length:Int)+1),(i:Int)+1)) else some (.inr (1,(a:Int))):=by
   unfold Db;simp only [Int.toNat_natCast,hX];rw [if_pos (by omega),Al f,Acp];simp only [Option.bind_some,Al b,Al c,Al e]
   cases hn:YM x <;> by_cases g:x=[35] <;> by_cases h2:x=[42] <;> by_cases h3:x=[42,42] <;> simp_all [IF]
  by_cases hc:(YM x||decide (x=[35])||(true&&(decide (x=[42])||decide (x=[42,42]))))=true
  ·rw [if_pos hc] at hb ⊢;rw [B2 hb,hgo]
  ·rw [if_neg hc] at hb ⊢;rw [if_pos (by omega)];exact Bh (m:=some (1,(a:Int))) hb
theorem YT(s:List UInt8):IH s=some (pf s):=by
 unfold IH pf
 by_cases h:64<s.length
 ·rw [if_pos (by omega),if_pos h];rfl
 ·rw [if_neg (by omega),if_neg h,Aat (by omega),Option.bind_some];have a:=Aas s;have:=YS (l:=sl s) (by omega) (sl s).length 0 0 (by omega) (by simp;omega);rw [List.drop_zero] at this;exact this
end Go.Proofs.YtekmbcbgknmhiaaGreatDoor
end
