/- Texts of a claim, merged. -/
import Derived.Test.YtekmbcbgknmhiaaGreatDoorLe4
import Derived.KernelRfl
set_option linter.unusedVariables false
set_option linter.unusedSimpArgs false
open _root_.Go.Proofs.Tryz renaming underlying58→Aa8,underlying3→AaA,underlying9→AaQ,underlying22→Ab1,underlying23→Abj,underlying4→Aby,underlying28→AcP,underlying64→AcQ,underlying26→AcR,underlying109→AcS,underlying98→AcU,underlying46→AcY,underlying21→Acp,underlying5→Acu,underlying137→Adb,underlying94→Adc,underlying62→Ade,underlying24→Adj,underlying42→Adk,underlying52→Adl,underlying66→Adm,underlying50→Adn,underlying43→Ado
noncomputable section
namespace Go.Proofs.YtekmbcbgknmhiaaGreatDoor
open Go Go.E Go.RowKit Go.L
set_option maxHeartbeats 1000000
set_option maxRecDepth 10000
open _root_.Go.Proofs.Tryz
def BI(a0 a1:Int):Option ((Int×Int)):=
 some ((a0,a1))
theorem Cj(w:World)(H:PH)(_hH:Le H (hp w)){a0 a1:Int}{r:(Int×Int)}(h:BI a0 a1=some r):
  Ok prog 34 [No a0,No a1] w (fun v w'=>Ext w w'/\v=.agg #[No r.1,No r.2]):=by
 refine Aw (n:=8) [(0,No a0),(1,No a1)] func34 rfl fun hL=>Ai<|A3 AI rfl rfl hL fun e f b c _=>Ac<|Bs 2 rfl<|Ah (AN rfl (fun _=>Jv _ _ _)) rfl<|Ad 0 rfl AI b rfl (AT rfl) fun g a d=>Ac<|Ax ?_
 cases h
 refine CM rfl (.cell rfl AcP rfl AI (AG (i:=0) a rfl)) ⟨a.ext,rfl⟩
def Hi(a0:Int):Option Bool:=
 some (decide ((1<=a0)/\(a0<=7)))
theorem J5(w:World)(H:PH)(_hH:Le H (hp w)){a0:Int}{r:Bool}(h:Hi a0=some r):
  Ok prog 90 [No a0] w (fun v w'=>Ext w w'/\v=.bool r):=by
 refine Aw (n:=9) [(0,No a0)] func90 rfl fun hL=>AD 1 rfl<|Bs 3 rfl<|Ns 2 2 rfl rfl rfl rfl rfl rfl<|A4 1 rfl<|Ax ?_
 cases h
 refine Am rfl ⟨hL.ext,rfl⟩
def Iz(a0:Go.L.Qv)(a1:Go.L.Qv):Option (Bool×Go.L.Qv):=
 some (decide (a0.f.1=a1.f.1),a1)
theorem NG{a w:World}{H:PH}(hH:Le H (hp a)){O:List BE}{a0 a1:Go.L.Qv}{va0_1 va0_3 va0_6:Value}{ba1:Nat}{va1_1 va1_3 va1_6:Value}(hL:AU a (Ha [.box ba1 [No a1.f.1,va1_1,Aat a1.f.2.2.1,va1_3,No a1.f.2.2.2.2.1,No a1.f.2.2.2.2.2.1,va1_6] 26] O) w)(_ha0_1:AA .st (gz H a w (Ha [.box ba1 [No a1.f.1,va1_1,Aat a1.f.2.2.1,va1_3,No a1.f.2.2.2.2.1,No a1.f.2.2.2.2.2.1,va1_6] 26] O)) va0_1 (a0.f.2.1))(_ha0_3:AA .byte (gz H a w (Ha [.box ba1 [No a1.f.1,va1_1,Aat a1.f.2.2.1,va1_3,No a1.f.2.2.2.2.1,No a1.f.2.2.2.2.2.1,va1_6] 26] O)) va0_3 (a0.f.2.2.2.1))(_ha0_6:AA .Bg (gz H a w (Ha [.box ba1 [No a1.f.1,va1_1,Aat a1.f.2.2.1,va1_3,No a1.f.2.2.2.2.1,No a1.f.2.2.2.2.2.1,va1_6] 26] O)) va0_6 (a0.f.2.2.2.2.2.2))(k:AA .st (gz H a w (Ha [.box ba1 [No a1.f.1,va1_1,Aat a1.f.2.2.1,va1_3,No a1.f.2.2.2.2.1,No a1.f.2.2.2.2.2.1,va1_6] 26] O)) va1_1 (a1.f.2.1))(l:AA .byte (gz H a w (Ha [.box ba1 [No a1.f.1,va1_1,Aat a1.f.2.2.1,va1_3,No a1.f.2.2.2.2.1,No a1.f.2.2.2.2.2.1,va1_6] 26] O)) va1_3 (a1.f.2.2.2.1))(m:AA .Bg (gz H a w (Ha [.box ba1 [No a1.f.1,va1_1,Aat a1.f.2.2.1,va1_3,No a1.f.2.2.2.2.1,No a1.f.2.2.2.2.2.1,va1_6] 26] O)) va1_6 (a1.f.2.2.2.2.2.2)){r:Bool×Go.L.Qv}(h:Iz a0 a1=some r):
  Ok prog 156 [.agg #[No a0.f.1,va0_1,Aat a0.f.2.2.1,va0_3,No a0.f.2.2.2.2.1,No a0.f.2.2.2.2.2.1,va0_6],Aas ba1] w (fun v w'=>∃ (c:Value) (d:Value) (e:Value),v=.bool r.1/\AU a (Ha [.box ba1 [No r.2.f.1,c,Aat r.2.f.2.2.1,d,No r.2.f.2.2.2.2.1,No r.2.f.2.2.2.2.2.1,e] 26] O) w'/\Le (fz w (Ha [.box ba1 [No a1.f.1,va1_1,Aat a1.f.2.2.1,va1_3,No a1.f.2.2.2.2.1,No a1.f.2.2.2.2.2.1,va1_6] 26] O)) (fz w' (Ha [.box ba1 [No r.2.f.1,c,Aat r.2.f.2.2.1,d,No r.2.f.2.2.2.2.1,No r.2.f.2.2.2.2.2.1,e] 26] O))/\AA .st (gz H a w' (Ha [.box ba1 [No r.2.f.1,c,Aat r.2.f.2.2.1,d,No r.2.f.2.2.2.2.1,No r.2.f.2.2.2.2.2.1,e] 26] O)) c (r.2.f.2.1)/\AA .byte (gz H a w' (Ha [.box ba1 [No r.2.f.1,c,Aat r.2.f.2.2.1,d,No r.2.f.2.2.2.2.1,No r.2.f.2.2.2.2.2.1,e] 26] O)) d (r.2.f.2.2.2.1)/\AA .Bg (gz H a w' (Ha [.box ba1 [No r.2.f.1,c,Aat r.2.f.2.2.1,d,No r.2.f.2.2.2.2.1,No r.2.f.2.2.2.2.2.1,e] 26] O)) e (r.2.f.2.2.2.2.2.2)):=by
 refine Ey (n:=9) [(0,.agg #[No a0.f.1,va0_1,Aat a0.f.2.2.1,va0_3,No a0.f.2.2.2.2.1,No a0.f.2.2.2.2.2.1,va0_6]),(1,(Aas ba1))] func156 rfl rfl rfl rfl rfl ?_;have hT:=Le.refl (fz w (Ha [.box ba1 [No a1.f.1,va1_1,Aat a1.f.2.2.1,va1_3,No a1.f.2.2.2.2.1,No a1.f.2.2.2.2.2.1,va1_6] 26] O));have b:=hL.rG H;refine Ai<|Dq (t:=26) rfl rfl rfl hL fun p q g j _=>A4 1 rfl<|Ai<|Ah (Af rfl AcR rfl Dd) rfl<|Ah (Ag 0 rfl AaA rfl g rfl) rfl<|Ah (Af rfl AcR rfl Dd) rfl<|Ah (Ag 1 rfl AaA rfl g rfl) rfl<|A4 2 rfl<|Ax ?_
 cases h
 refine Am rfl ?_;have o:=g.AV (i:=0) rfl;have b:=b.trans (Aa hH (j.trans (An (i:=0) rfl)));have hT:=hT.trans (j.trans (An (i:=0) rfl));exact⟨va1_1,va1_3,va1_6,rfl,o,hT,(k.mono b),(l.mono b),(m.mono b)⟩
def BT(a:Int)(b:List Aaz)(c:Aaz)(d:Aaz)(e f:Int)(g:List Go.L.Qv):Option (Int×Go.L.Qv):=
 some ((-1),(Go.L.Qv.mk a b c d e f g))
def BM(a0:List Go.L.Qv):Int×(List Aaz)×Aaz×Aaz×Int×Int×(List Go.L.Qv)×Int->Option ((Int×(List Aaz)×Aaz×Aaz×Int×Int×(List Go.L.Qv)×Int) ⊕ (Int×Go.L.Qv)):=fun⟨c,d,e,g,h,i,j,a⟩=>
 if a<(a0.length:Int) then Bh (0<=a/\a<(a0.length:Int)) (Option.bind (Iz (a0.getD a.toNat default) (Go.L.Qv.mk c d e g h i j)) (fun b=>if b.1 then Option.map Sum.inr (some (a,b.2)) else Bh (C0 (a+1)) (some (Sum.inl (b.2.f.1,b.2.f.2.1,b.2.f.2.2.1,b.2.f.2.2.2.1,b.2.f.2.2.2.2.1,b.2.f.2.2.2.2.2.1,b.2.f.2.2.2.2.2.2,(a+1)))))) else Option.map Sum.inr (BT c d e g h i j)
def C9(a0:List Go.L.Qv)(s:Int×(List Aaz)×Aaz×Aaz×Int×Int×(List Go.L.Qv)×Int):Option (Int×Go.L.Qv):=Go.L.run (BM a0) s
def Ci(a0:List Go.L.Qv)(a1_c0:Go.L.Qv):Option (Int×Go.L.Qv):=
 (C9 a0) (a1_c0.f.1,a1_c0.f.2.1,a1_c0.f.2.2.1,a1_c0.f.2.2.2.1,a1_c0.f.2.2.2.2.1,a1_c0.f.2.2.2.2.2.1,a1_c0.f.2.2.2.2.2.2,0)
theorem Ht{c w:World}{H:PH}(hH:Le H (hp c)){O:List BE}{a0:List Go.L.Qv}{a1_c0:Go.L.Qv}{va0:Value}{ba1_c0:Nat}{va1_c0_1 va1_c0_3 va1_c0_6:Value}(hL:AU c (Ha [.box ba1_c0 [No a1_c0.f.1,va1_c0_1,Aat a1_c0.f.2.2.1,va1_c0_3,No a1_c0.f.2.2.2.2.1,No a1_c0.f.2.2.2.2.2.1,va1_c0_6] 26] O) w)(a9:AA .Bg (gz H c w (Ha [.box ba1_c0 [No a1_c0.f.1,va1_c0_1,Aat a1_c0.f.2.2.1,va1_c0_3,No a1_c0.f.2.2.2.2.1,No a1_c0.f.2.2.2.2.2.1,va1_c0_6] 26] O)) va0 a0)(ha1_c0_1:AA .st (gz H c w (Ha [.box ba1_c0 [No a1_c0.f.1,va1_c0_1,Aat a1_c0.f.2.2.1,va1_c0_3,No a1_c0.f.2.2.2.2.1,No a1_c0.f.2.2.2.2.2.1,va1_c0_6] 26] O)) va1_c0_1 (a1_c0.f.2.1))(ha1_c0_3:AA .byte (gz H c w (Ha [.box ba1_c0 [No a1_c0.f.1,va1_c0_1,Aat a1_c0.f.2.2.1,va1_c0_3,No a1_c0.f.2.2.2.2.1,No a1_c0.f.2.2.2.2.2.1,va1_c0_6] 26] O)) va1_c0_3 (a1_c0.f.2.2.2.1))(ha1_c0_6:AA .Bg (gz H c w (Ha [.box ba1_c0 [No a1_c0.f.1,va1_c0_1,Aat a1_c0.f.2.2.1,va1_c0_3,No a1_c0.f.2.2.2.2.1,No a1_c0.f.2.2.2.2.2.1,va1_c0_6] 26] O)) va1_c0_6 (a1_c0.f.2.2.2.2.2.2)){r:Int×Go.L.Qv}(h:Ci a0 a1_c0=some r):
  Ok prog 204 [va0,.func (.func 156) #[] #[Aas ba1_c0]] w (fun v w'=>∃ (u2:Value) (u4:Value) (u7:Value),v=No r.1/\AU c (Ha [.box ba1_c0 [No r.2.f.1,u2,Aat r.2.f.2.2.1,u4,No r.2.f.2.2.2.2.1,No r.2.f.2.2.2.2.2.1,u7] 26] O) w'/\Le (fz w (Ha [.box ba1_c0 [No a1_c0.f.1,va1_c0_1,Aat a1_c0.f.2.2.1,va1_c0_3,No a1_c0.f.2.2.2.2.1,No a1_c0.f.2.2.2.2.2.1,va1_c0_6] 26] O)) (fz w' (Ha [.box ba1_c0 [No r.2.f.1,u2,Aat r.2.f.2.2.1,u4,No r.2.f.2.2.2.2.1,No r.2.f.2.2.2.2.2.1,u7] 26] O))/\AA .st (gz H c w' (Ha [.box ba1_c0 [No r.2.f.1,u2,Aat r.2.f.2.2.1,u4,No r.2.f.2.2.2.2.1,No r.2.f.2.2.2.2.2.1,u7] 26] O)) u2 (r.2.f.2.1)/\AA .byte (gz H c w' (Ha [.box ba1_c0 [No r.2.f.1,u2,Aat r.2.f.2.2.1,u4,No r.2.f.2.2.2.2.1,No r.2.f.2.2.2.2.2.1,u7] 26] O)) u4 (r.2.f.2.2.2.1)/\AA .Bg (gz H c w' (Ha [.box ba1_c0 [No r.2.f.1,u2,Aat r.2.f.2.2.1,u4,No r.2.f.2.2.2.2.1,No r.2.f.2.2.2.2.2.1,u7] 26] O)) u7 (r.2.f.2.2.2.2.2.2)):=by
 refine Ey (n:=19) [(0,va0),(1,.func (.func 156) #[] #[Aas ba1_c0])] func204 rfl rfl rfl rfl rfl ?_;have hT:=Le.refl (fz w (Ha [.box ba1_c0 [No a1_c0.f.1,va1_c0_1,Aat a1_c0.f.2.2.1,va1_c0_3,No a1_c0.f.2.2.2.2.1,No a1_c0.f.2.2.2.2.2.1,va1_c0_6] 26] O));have ab:=hL.rG H;refine AD 1 rfl<|Bw (σ:=Int×(List Aaz)×Aaz×Aaz×Int×Int×(List Go.L.Qv)×Value×Value×Value) (fun⟨aj,ak,al,am,an,ao,ap,i,j,k⟩=>[]) (fun⟨aj,ak,al,am,an,ao,ap,i,j,k⟩ wr=>FL c (Ha [.box ba1_c0 [No aj,i,Aat al,j,No an,No ao,k] 26] O) wr fun Oz=>AA .st (gz H c wr Oz) i ak/\AA .byte (gz H c wr Oz) j am/\AA .Bg (gz H c wr Oz) k ap/\Le (fz w (Ha [.box ba1_c0 [No a1_c0.f.1,va1_c0_1,Aat a1_c0.f.2.2.1,va1_c0_3,No a1_c0.f.2.2.2.2.1,No a1_c0.f.2.2.2.2.2.1,va1_c0_6] 26] O)) (fz wr Oz)/\BT aj ak al am an ao ap=some r) ?_ ?_
 ·refine Bs 1 rfl<|Ah (Bj rfl Adj (a9.mono ab)) rfl<|A4 1 rfl<|A2 ?_;obtain⟨a3,h⟩:=AY h
  refine B8 (σ:=Int×(List Aaz)×Aaz×Aaz×Int×Int×(List Go.L.Qv)×Int×Value×Value×Value×Nat) (fun⟨l,m,o,p,q,s,t,a,d,e,g,n⟩=>[(0,va0),(1,.func (.func 156) #[] #[Aas ba1_c0]),(7,No (a0.length:Int)),(8,No a)]) (fun⟨l,m,o,p,q,s,t,a,d,e,g,n⟩ wr=>FL c (Ha [.box ba1_c0 [No l,d,Aat o,e,No q,No s,g] 26] O) wr fun Oz=>AA .Bg (gz H c wr Oz) va0 a0/\AA .st (gz H c wr Oz) d m/\AA .byte (gz H c wr Oz) e p/\AA .Bg (gz H c wr Oz) g t/\Le (fz w (Ha [.box ba1_c0 [No a1_c0.f.1,va1_c0_1,Aat a1_c0.f.2.2.1,va1_c0_3,No a1_c0.f.2.2.2.2.1,No a1_c0.f.2.2.2.2.2.1,va1_c0_6] 26] O)) (fz wr Oz)/\GR (BM a0) n (l,m,o,p,q,s,t,a)=some r) (fun⟨l,m,o,p,q,s,t,a,d,e,g,n⟩=>n) (a1_c0.f.1,a1_c0.f.2.1,a1_c0.f.2.2.1,a1_c0.f.2.2.2.1,a1_c0.f.2.2.2.2.1,a1_c0.f.2.2.2.2.2.1,a1_c0.f.2.2.2.2.2.2,0,va1_c0_1,va1_c0_3,va1_c0_6,a3) (Sub.of rfl) ⟨hL,(a9.mono ab),(ha1_c0_1.mono ab),(ha1_c0_3.mono ab),(ha1_c0_6.mono ab),hT,h⟩ ?_;rintro⟨l,m,o,p,q,s,t,a,d,e,g,nn71⟩ bf ⟨x,ac,aq,ar,au,hT,h⟩
  obtain⟨a3,bh,rfl,h,ag⟩:=AX h;have b:=x.rG H;refine AD 1 rfl<|A9<|AO rfl h (fun ba h=>?_) (fun ba h=>?_)
  ·refine Au<|Ar<|A9<|A2<|AD 2 rfl<|Bs 3 rfl<|AB h fun a4 h=>Be rfl rfl Adj Bm (ac.mono b) a.toNat (Hc a4) (Ba a4) rfl ?_;rintro bi _ e76t0 bb;obtain⟨_,_,rfl,rfl,⟨_,_,rfl,⟨e76v1,rfl,e76h1⟩,⟨_,_,rfl,rfl,⟨_,_,rfl,⟨e76v3,rfl,e76h3⟩,⟨_,_,rfl,rfl,⟨_,_,rfl,rfl,⟨e76v6,rfl,e76h6⟩⟩⟩⟩⟩⟩⟩:=Go.E.Rp.Gm e76t0;refine Ah (C7 rfl AcR rfl Bm bb (Al hH x)) rfl<|Aq h fun u bc h=>Es rfl rfl rfl (NG (a0:=(a0.getD a.toNat default)) (a1:=(Go.L.Qv.mk l m o p q s t)) (O:=(Ha [] O)) hH x e76h1 e76h3 e76h6 (aq.mono b) (ar.mono b) (au.mono b) bc) ?_;rintro _ bj ⟨av,aw,ax,rfl,y,z,ad,ae,af⟩;refine Ac<|By rfl h (fun bd h=>?_) (fun bd h=>?_)
   ·have ah:=y.rG H;refine AD 2 rfl<|Ax<|Az<|Ay<|Cv ?_;have h:=CV.out h ag;refine Az<|BH ?_
    cases h
    refine Am rfl ?_;have hT:=hT.trans z;exact⟨av,aw,ax,rfl,y,hT,(ad.mono ah),(ae.mono ah),(af.mono ah)⟩
   refine Au<|AJ<|Ar ?_;have aa:=y.rG H;refine Av<|AB h fun be h=>Ah (AK rfl be) rfl<|As 1 rfl<|AQ ?_;have h:=CV.again h ag;have b:=b.trans (Aa hH z);have hT:=hT.trans z;refine AW (u.2.f.1,u.2.f.2.1,u.2.f.2.2.1,u.2.f.2.2.2.1,u.2.f.2.2.2.2.1,u.2.f.2.2.2.2.2.1,u.2.f.2.2.2.2.2.2,(a+1),av,aw,ax,a3) (Sub.of rfl) ⟨y,((ac.mono b).mono aa),(ad.mono aa),(ae.mono aa),(af.mono aa),hT,h⟩ (Nat.lt_succ_self _)
  refine B5<|AE<|A7 ?_;have h:=CV.out h ag;refine Bk<|A6 (l,m,o,p,q,s,t,d,e,g) (Sub.nil _) ⟨x,(aq.mono b),(ar.mono b),(au.mono b),hT,h⟩
 rintro⟨aj,ak,al,am,an,ao,ap,i,j,k⟩ bg ⟨a5,a6,a7,a8,hT,h⟩;have ai:=a5.rG H;refine AD 1 rfl<|Ax ?_
 cases h
 refine Am rfl ⟨i,j,k,rfl,a5,hT,(a6.mono ai),(a7.mono ai),(a8.mono ai)⟩
def AR(a0:List Go.L.Qv)(a1_c0:Go.L.Qv):Option (Bool×Go.L.Qv):=
 Option.bind (Ci a0 a1_c0) (fun a=>some (decide (0<=a.1),a.2))
theorem Bc{a w:World}{H:PH}(hH:Le H (hp a)){O:List BE}{a0:List Go.L.Qv}{a1_c0:Go.L.Qv}{va0:Value}{ba1_c0:Nat}{va1_c0_1 va1_c0_3 va1_c0_6:Value}(hL:AU a (Ha [.box ba1_c0 [No a1_c0.f.1,va1_c0_1,Aat a1_c0.f.2.2.1,va1_c0_3,No a1_c0.f.2.2.2.2.1,No a1_c0.f.2.2.2.2.2.1,va1_c0_6] 26] O) w)(p:AA .Bg (gz H a w (Ha [.box ba1_c0 [No a1_c0.f.1,va1_c0_1,Aat a1_c0.f.2.2.1,va1_c0_3,No a1_c0.f.2.2.2.2.1,No a1_c0.f.2.2.2.2.2.1,va1_c0_6] 26] O)) va0 a0)(ha1_c0_1:AA .st (gz H a w (Ha [.box ba1_c0 [No a1_c0.f.1,va1_c0_1,Aat a1_c0.f.2.2.1,va1_c0_3,No a1_c0.f.2.2.2.2.1,No a1_c0.f.2.2.2.2.2.1,va1_c0_6] 26] O)) va1_c0_1 (a1_c0.f.2.1))(ha1_c0_3:AA .byte (gz H a w (Ha [.box ba1_c0 [No a1_c0.f.1,va1_c0_1,Aat a1_c0.f.2.2.1,va1_c0_3,No a1_c0.f.2.2.2.2.1,No a1_c0.f.2.2.2.2.2.1,va1_c0_6] 26] O)) va1_c0_3 (a1_c0.f.2.2.2.1))(ha1_c0_6:AA .Bg (gz H a w (Ha [.box ba1_c0 [No a1_c0.f.1,va1_c0_1,Aat a1_c0.f.2.2.1,va1_c0_3,No a1_c0.f.2.2.2.2.1,No a1_c0.f.2.2.2.2.2.1,va1_c0_6] 26] O)) va1_c0_6 (a1_c0.f.2.2.2.2.2.2)){r:Bool×Go.L.Qv}(h:AR a0 a1_c0=some r):
  Ok prog 155 [va0,.func (.func 156) #[] #[Aas ba1_c0]] w (fun v w'=>∃ (c:Value) (d:Value) (e:Value),v=.bool r.1/\AU a (Ha [.box ba1_c0 [No r.2.f.1,c,Aat r.2.f.2.2.1,d,No r.2.f.2.2.2.2.1,No r.2.f.2.2.2.2.2.1,e] 26] O) w'/\Le (fz w (Ha [.box ba1_c0 [No a1_c0.f.1,va1_c0_1,Aat a1_c0.f.2.2.1,va1_c0_3,No a1_c0.f.2.2.2.2.1,No a1_c0.f.2.2.2.2.2.1,va1_c0_6] 26] O)) (fz w' (Ha [.box ba1_c0 [No r.2.f.1,c,Aat r.2.f.2.2.1,d,No r.2.f.2.2.2.2.1,No r.2.f.2.2.2.2.2.1,e] 26] O))/\AA .st (gz H a w' (Ha [.box ba1_c0 [No r.2.f.1,c,Aat r.2.f.2.2.1,d,No r.2.f.2.2.2.2.1,No r.2.f.2.2.2.2.2.1,e] 26] O)) c (r.2.f.2.1)/\AA .byte (gz H a w' (Ha [.box ba1_c0 [No r.2.f.1,c,Aat r.2.f.2.2.1,d,No r.2.f.2.2.2.2.1,No r.2.f.2.2.2.2.2.1,e] 26] O)) d (r.2.f.2.2.2.1)/\AA .Bg (gz H a w' (Ha [.box ba1_c0 [No r.2.f.1,c,Aat r.2.f.2.2.1,d,No r.2.f.2.2.2.2.1,No r.2.f.2.2.2.2.2.1,e] 26] O)) e (r.2.f.2.2.2.2.2.2)):=by
 refine Ey (n:=9) [(0,va0),(1,.func (.func 156) #[] #[Aas ba1_c0])] func155 rfl rfl rfl rfl rfl ?_;have hT:=Le.refl (fz w (Ha [.box ba1_c0 [No a1_c0.f.1,va1_c0_1,Aat a1_c0.f.2.2.1,va1_c0_3,No a1_c0.f.2.2.2.2.1,No a1_c0.f.2.2.2.2.2.1,va1_c0_6] 26] O));have b:=hL.rG H;refine AD 1 rfl<|Bs 2 rfl<|Aq h fun t q h=>EL rfl rfl (Ht (a0:=a0) (a1_c0:=a1_c0) (O:=(Ha [] O)) hH hL (p.mono b) (ha1_c0_1.mono b) (ha1_c0_3.mono b) (ha1_c0_6.mono b) q) ?_;rintro _ u ⟨k,l,m,rfl,s,o,g,i,j⟩;refine A4 2 rfl<|Ax ?_
 cases h
 refine Am rfl ?_;have hT:=hT.trans o;exact⟨k,l,m,rfl,s,hT,g,i,j⟩
def Fu(a0:Go.L.Qv)(b c a:Int):Option Bool:=
 if((decide ((a0.f.2.1.length:Int)<b))||(decide (c<(a0.f.2.1.length:Int)))) then(if((decide ((a0.f.2.1.length:Int)<b))||(decide (c<(a0.f.2.1.length:Int)))) then none else(if !((decide (a0.f.1=8))||(decide (a0.f.1=9))) then some true else Option.bind (AR a0.f.2.2.2.2.2.2 a0) (fun i=>some (!i.1)))) else(if(a0.f.2.2.2.2.2.2.length:Int)<a then(if(a0.f.2.2.2.2.2.2.length:Int)<a then none else(if !((decide (a0.f.1=8))||(decide (a0.f.1=9))) then some true else Option.bind (AR a0.f.2.2.2.2.2.2 a0) (fun j=>some (!j.1)))) else(if(bif !((decide (a0.f.1=8))||(decide (a0.f.1=9))) then decide (a<(a0.f.2.2.2.2.2.2.length:Int)) else false) then(if(bif !((decide (a0.f.1=8))||(decide (a0.f.1=9))) then decide (a<(a0.f.2.2.2.2.2.2.length:Int)) else false) then none else(if !((decide (a0.f.1=8))||(decide (a0.f.1=9))) then some true else Option.bind (AR a0.f.2.2.2.2.2.2 a0) (fun k=>some (!k.1)))) else(if([]:Aaz)=a0.f.2.2.1 then(if 0=a0.f.2.2.2.2.1 then(if 0=a0.f.2.2.2.2.2.1 then(if 0=(a0.f.2.2.2.1.length:Int) then(if !((decide (a0.f.1=8))||(decide (a0.f.1=9))) then some true else Option.bind (AR a0.f.2.2.2.2.2.2 a0) (fun d=>some (!d.1))) else none) else(if 0=a0.f.2.2.2.2.2.1 then(if !((decide (a0.f.1=8))||(decide (a0.f.1=9))) then some true else Option.bind (AR a0.f.2.2.2.2.2.2 a0) (fun e=>some (!e.1))) else none)) else(if 0=a0.f.2.2.2.2.1 then(if !((decide (a0.f.1=8))||(decide (a0.f.1=9))) then some true else Option.bind (AR a0.f.2.2.2.2.2.2 a0) (fun g=>some (!g.1))) else none)) else(if([]:Aaz)=a0.f.2.2.1 then(if !((decide (a0.f.1=8))||(decide (a0.f.1=9))) then some true else Option.bind (AR a0.f.2.2.2.2.2.2 a0) (fun h=>some (!h.1))) else none))))
def JC(a0:Go.L.Qv):Option Bool:=
 if a0.f.1=1 then(Fu a0) (1:Int) (1:Int) (0:Int) else(if a0.f.1=2 then none else(if a0.f.1=3 then none else(if a0.f.1=4 then none else(if a0.f.1=5 then none else(if a0.f.1=6 then none else(if a0.f.1=7 then none else(if a0.f.1=10 then(Fu a0) (0:Int) (0:Int) (1:Int) else(Fu a0) (0:Int) (0:Int) (2:Int))))))))
theorem OW(w:World)(H:PH)(hH:Le H (hp w)){a0:Go.L.Qv}{b k c:Value}(l:AA .st H b (a0.f.2.1))(x:AA .byte H k (a0.f.2.2.2.1))(d:AA .Bg H c (a0.f.2.2.2.2.2.2)){r:Bool}(h:JC a0=some r):
  Ok prog 101 [.agg #[No a0.f.1,b,Aat a0.f.2.2.1,k,No a0.f.2.2.2.2.1,No a0.f.2.2.2.2.2.1,c]] w (fun v w'=>Ext w w'/\v=.bool r):=by
 refine Aw (n:=123) [(0,.agg #[No a0.f.1,b,Aat a0.f.2.2.1,k,No a0.f.2.2.2.2.1,No a0.f.2.2.2.2.2.1,c])] func101 rfl fun hL=>Ai<|Dq (t:=26) rfl rfl rfl hL fun w1 b1 ae c8 _=>A4 1 rfl<|Ai<|Ah (Af rfl AcR rfl Dd) rfl<|Ah (Ag 0 rfl AaA rfl ae rfl) rfl<|Ah (Af rfl AcR rfl LC) rfl<|Ah (Ag 0 rfl Ab1 rfl ae rfl) rfl<|Ah (Af rfl AcR rfl Jo) rfl<|Ah (Ag 0 rfl Adj rfl ae rfl) rfl<|Ah (AN rfl (fun _=>T3 _ _ l.one _ d.one _)) rfl<|A3 Bm rfl rfl ae fun w2 y b6 c9 _=>Ad 0 rfl Bm b6 rfl (Bb rfl (Bb l.one (Bb rfl (Bb rfl (Bb rfl (Bb rfl (Bb d.one I8))))))) fun w3 af da=>Ac<|AD 2 rfl<|AD 1 rfl ?_
 refine Bw (σ:=Int×Int×Int) (fun⟨aa,ab,ac⟩=>[(1,(Aas b1)),(3,(Aas y)),(4,No aa),(5,No ab),(6,No ac)]) (fun⟨aa,ab,ac⟩ wr=>AU w [.box y [No a0.f.1,b,(Aat []),Aaq,No 0,No 0,c] 26,.box b1 [No a0.f.1,b,Aat a0.f.2.2.1,k,No a0.f.2.2.2.2.1,No a0.f.2.2.2.2.2.1,c] 26] wr/\(Fu a0) aa ab ac=some r) ?_ ?_
 ·refine Ai<|Ah (Af rfl AcR rfl Dd) rfl<|Ah (Ag 1 rfl AaA rfl af rfl) rfl<|Ac<|A2<|AD 2 rfl<|AO rfl h (fun a2 h=>?_) (fun a2 h=>?_)
  ·refine Av<|As 2 rfl<|AQ<|AJ<|A6 (1,1,0) (Sub.of rfl) ⟨af,h⟩
  refine AD 2 rfl<|AO rfl h (fun a3 h=>?_) (fun a3 h=>?_)
  ·cases h
  refine AD 2 rfl<|AO rfl h (fun a4 h=>?_) (fun a4 h=>?_)
  ·cases h
  refine AD 2 rfl<|AO rfl h (fun a5 h=>?_) (fun a5 h=>?_)
  ·cases h
  refine AD 2 rfl<|AO rfl h (fun a6 h=>?_) (fun a6 h=>?_)
  ·cases h
  refine AD 2 rfl<|AO rfl h (fun a7 h=>?_) (fun a7 h=>?_)
  ·cases h
  refine AD 2 rfl<|AO rfl h (fun a8 h=>?_) (fun a8 h=>?_)
  ·cases h
  refine AD 2 rfl<|AO rfl h (fun a9 h=>?_) (fun a9 h=>?_)
  ·refine Av<|As 1 rfl<|AQ<|AJ<|A6 (0,0,1) (Sub.of rfl) ⟨af,h⟩
  refine Av<|As 1 rfl<|AQ<|AJ<|A6 (0,0,2) (Sub.of rfl) ⟨af,h⟩
 rintro⟨aa,ab,ac⟩ z ⟨a,h⟩;refine Ai<|Ah (Af rfl AcR rfl Jo) rfl<|Ah (Ag 1 rfl Adj rfl a rfl) rfl<|Ah (Bj rfl Adj d) rfl<|A4 1 rfl<|Ai<|Ah (Af rfl AcR rfl Dd) rfl<|Ah (Ag 1 rfl AaA rfl a rfl) rfl<|As 2 rfl<|Li 4 68 (.bool ((decide (a0.f.1=8))||(decide (a0.f.1=9)))) (fun ag=>?_) ?_
 ·refine Bl (s:=64) rfl (fun u=>?_) (fun u=>?_)
  ·iterate 3 refine Ao rfl u rfl ?_
   refine Ah (AH rfl u rfl) rfl<|ag.to 3 (Rv u) rfl rfl
  refine Ab rfl u<|Ah (Af rfl AcR rfl Dd) rfl<|Ab rfl u<|Ah (Ag 1 rfl AaA rfl a rfl) rfl<|Ab rfl u<|Ah (Aj rfl) rfl<|Ah (AS rfl u rfl) rfl<|ag.to 3 (Rw u) rfl rfl
 refine A4 1 rfl<|A9<|A2<|A9<|Ai<|Ah (Af rfl AcR rfl LC) rfl<|Ah (Ag 1 rfl Ab1 rfl a rfl) rfl<|Ah (Bj rfl Ab1 l) rfl<|As 3 rfl<|Li 6 81 (.bool ((decide ((a0.f.2.1.length:Int)<aa))||(decide (ab<(a0.f.2.1.length:Int))))) (fun ah=>?_) ?_
 ·refine Bl (s:=75) rfl (fun m=>?_) (fun m=>?_)
  ·iterate 5 refine Ao rfl m rfl ?_
   refine Ah (AH rfl m rfl) rfl<|ah.to 5 (Rv m) rfl rfl
  refine Ab rfl m<|Ah (Af rfl AcR rfl LC) rfl<|Ab rfl m<|Ah (Ag 1 rfl Ab1 rfl a rfl) rfl<|Ab rfl m<|Ah (Bj rfl Ab1 l) rfl<|Ab rfl m<|Ah (Aj rfl) rfl<|Ab rfl m<|Ah (Aj rfl) rfl<|Ah (AS rfl m rfl) rfl<|ah.to 5 (Rw m) rfl rfl
 refine A4 1 rfl<|By rfl h (fun ba h=>?_) (fun ba h=>?_)
 ·refine Au<|Ar<|By rfl h (fun bb h=>?_) (fun bb h=>?_)
  ·cases h
  refine Au<|AJ<|Ar<|Bs 3 rfl<|Bl (s:=116) rfl (fun o=>?_) (fun o=>?_)
  ·have h:=IU o h
   iterate 5 refine Ao rfl o rfl ?_
   refine Ah (AH rfl o rfl) rfl<|A4 1 rfl<|Ax ?_
   cases h
   refine Am rfl ⟨a.ext,rfl⟩
  have h:=IV o h;refine Ab rfl o<|Ah (Af rfl AcR rfl Jo) rfl<|Ab rfl o<|Ah (Ag 1 rfl Adj rfl a rfl) rfl<|Ab rfl o<|Ah (Aj rfl) rfl<|Ab rfl o ?_;have bc:AU w [.box b1 [No a0.f.1,b,Aat a0.f.2.2.1,k,No a0.f.2.2.2.2.1,No a0.f.2.2.2.2.2.1,c] 26,.box y [No a0.f.1,b,(Aat []),Aaq,No 0,No 0,c] 26] z:=a.CW [1] rfl;refine Aq h fun dj bd h=>EL rfl rfl (Bc (a0:=a0.f.2.2.2.2.2.2) (a1_c0:=a0) (O:=[.box y [No a0.f.1,b,(Aat []),Aaq,No 0,No 0,c] 26]) hH bc (d.mono (Ae hH)) (l.mono (Ae hH)) (x.mono (Ae hH)) (d.mono (Ae hH)) bd) ?_;rintro _ dk ⟨cw,cx,cy,rfl,be,cz,b7,b8,b9⟩;refine Ab rfl o<|Ah (Aj rfl) rfl<|Ah (AS rfl o rfl) rfl<|A4 1 rfl<|Ax ?_
  cases h
  refine Am rfl ⟨be.ext,rfl⟩
 refine AD 4 rfl<|AO rfl h (fun bf h=>?_) (fun bf h=>?_)
 ·refine Au<|Ar<|AO rfl h (fun bg h=>?_) (fun bg h=>?_)
  ·cases h
  refine Au<|AJ<|Ar<|Bs 3 rfl<|Bl (s:=116) rfl (fun p=>?_) (fun p=>?_)
  ·have h:=IU p h
   iterate 5 refine Ao rfl p rfl ?_
   refine Ah (AH rfl p rfl) rfl<|A4 1 rfl<|Ax ?_
   cases h
   refine Am rfl ⟨a.ext,rfl⟩
  have h:=IV p h;refine Ab rfl p<|Ah (Af rfl AcR rfl Jo) rfl<|Ab rfl p<|Ah (Ag 1 rfl Adj rfl a rfl) rfl<|Ab rfl p<|Ah (Aj rfl) rfl<|Ab rfl p ?_;have bh:AU w [.box b1 [No a0.f.1,b,Aat a0.f.2.2.1,k,No a0.f.2.2.2.2.1,No a0.f.2.2.2.2.2.1,c] 26,.box y [No a0.f.1,b,(Aat []),Aaq,No 0,No 0,c] 26] z:=a.CW [1] rfl;refine Aq h fun dl bi h=>EL rfl rfl (Bc (a0:=a0.f.2.2.2.2.2.2) (a1_c0:=a0) (O:=[.box y [No a0.f.1,b,(Aat []),Aaq,No 0,No 0,c] 26]) hH bh (d.mono (Ae hH)) (l.mono (Ae hH)) (x.mono (Ae hH)) (d.mono (Ae hH)) bi) ?_;rintro _ dm ⟨c0,c1,c2,rfl,bj,c3,ca,cb,cc⟩;refine Ab rfl p<|Ah (Aj rfl) rfl<|Ah (AS rfl p rfl) rfl<|A4 1 rfl<|Ax ?_
  cases h
  refine Am rfl ⟨bj.ext,rfl⟩
 refine Bs 3 rfl<|Sk 3 2 rfl rfl rfl rfl rfl rfl rfl<|A4 1 rfl<|By rfl h (fun bk h=>?_) (fun bk h=>?_)
 ·refine Au<|Ar<|By rfl h (fun bl h=>?_) (fun bl h=>?_)
  ·cases h
  refine Au<|AJ<|Ar<|Bs 3 rfl<|Bl (s:=116) rfl (fun q=>?_) (fun q=>?_)
  ·have h:=IU q h
   iterate 5 refine Ao rfl q rfl ?_
   refine Ah (AH rfl q rfl) rfl<|A4 1 rfl<|Ax ?_
   cases h
   refine Am rfl ⟨a.ext,rfl⟩
  have h:=IV q h;refine Ab rfl q<|Ah (Af rfl AcR rfl Jo) rfl<|Ab rfl q<|Ah (Ag 1 rfl Adj rfl a rfl) rfl<|Ab rfl q<|Ah (Aj rfl) rfl<|Ab rfl q ?_;have bm:AU w [.box b1 [No a0.f.1,b,Aat a0.f.2.2.1,k,No a0.f.2.2.2.2.1,No a0.f.2.2.2.2.2.1,c] 26,.box y [No a0.f.1,b,(Aat []),Aaq,No 0,No 0,c] 26] z:=a.CW [1] rfl;refine Aq h fun dn bn h=>EL rfl rfl (Bc (a0:=a0.f.2.2.2.2.2.2) (a1_c0:=a0) (O:=[.box y [No a0.f.1,b,(Aat []),Aaq,No 0,No 0,c] 26]) hH bm (d.mono (Ae hH)) (l.mono (Ae hH)) (x.mono (Ae hH)) (d.mono (Ae hH)) bn) ?_;rintro _ dp ⟨c4,c5,c6,rfl,bo,c7,cd,ce,cf⟩;refine Ab rfl q<|Ah (Aj rfl) rfl<|Ah (AS rfl q rfl) rfl<|A4 1 rfl<|Ax ?_
  cases h
  refine Am rfl ⟨bo.ext,rfl⟩
 refine Ai<|Ah (Af rfl AcR rfl Kq) rfl<|Ah (Ag 0 rfl AaQ rfl a rfl) rfl<|Ah (Af rfl AcR rfl Kq) rfl<|Ah (Ag 1 rfl AaQ rfl a rfl) rfl<|Ah (R7 rfl rfl) rfl<|A4 1 rfl<|Cf rfl h (fun bp h=>?_) (fun bp h=>?_)
 ·refine Au<|Ar<|Cf rfl h (fun bq h=>?_) (fun bq h=>?_)
  ·cases h
  refine Au<|AJ<|Ar<|Bs 3 rfl<|Bl (s:=116) rfl (fun e=>?_) (fun e=>?_)
  ·have h:=IU e h
   iterate 5 refine Ao rfl e rfl ?_
   refine Ah (AH rfl e rfl) rfl<|A4 1 rfl<|Ax ?_
   cases h
   refine Am rfl ⟨a.ext,rfl⟩
  have h:=IV e h;refine Ab rfl e<|Ah (Af rfl AcR rfl Jo) rfl<|Ab rfl e<|Ah (Ag 1 rfl Adj rfl a rfl) rfl<|Ab rfl e<|Ah (Aj rfl) rfl<|Ab rfl e ?_;have ai:AU w [.box b1 [No a0.f.1,b,Aat a0.f.2.2.1,k,No a0.f.2.2.2.2.1,No a0.f.2.2.2.2.2.1,c] 26,.box y [No a0.f.1,b,(Aat []),Aaq,No 0,No 0,c] 26] z:=a.CW [1] rfl;refine Aq h fun db aj h=>EL rfl rfl (Bc (a0:=a0.f.2.2.2.2.2.2) (a1_c0:=a0) (O:=[.box y [No a0.f.1,b,(Aat []),Aaq,No 0,No 0,c] 26]) hH ai (d.mono (Ae hH)) (l.mono (Ae hH)) (x.mono (Ae hH)) (d.mono (Ae hH)) aj) ?_;rintro _ dc ⟨cg,ch,ci,rfl,ak,cj,br,bs,bt⟩;refine Ab rfl e<|Ah (Aj rfl) rfl<|Ah (AS rfl e rfl) rfl<|A4 1 rfl<|Ax ?_
  cases h
  refine Am rfl ⟨ak.ext,rfl⟩
 refine Ai<|Ah (Af rfl AcR rfl Dd) rfl<|Ah (Ag 0 rfl AaA rfl a rfl) rfl<|Ah (Af rfl AcR rfl Dd) rfl<|Ah (Ag 1 rfl AaA rfl a rfl) rfl<|A4 2 rfl<|Cf rfl h (fun al h=>?_) (fun al h=>?_)
 ·refine Au<|Ar<|Cf rfl h (fun am h=>?_) (fun am h=>?_)
  ·cases h
  refine Au<|AJ<|Ar<|Bs 3 rfl<|Bl (s:=116) rfl (fun g=>?_) (fun g=>?_)
  ·have h:=IU g h
   iterate 5 refine Ao rfl g rfl ?_
   refine Ah (AH rfl g rfl) rfl<|A4 1 rfl<|Ax ?_
   cases h
   refine Am rfl ⟨a.ext,rfl⟩
  have h:=IV g h;refine Ab rfl g<|Ah (Af rfl AcR rfl Jo) rfl<|Ab rfl g<|Ah (Ag 1 rfl Adj rfl a rfl) rfl<|Ab rfl g<|Ah (Aj rfl) rfl<|Ab rfl g ?_;have an:AU w [.box b1 [No a0.f.1,b,Aat a0.f.2.2.1,k,No a0.f.2.2.2.2.1,No a0.f.2.2.2.2.2.1,c] 26,.box y [No a0.f.1,b,(Aat []),Aaq,No 0,No 0,c] 26] z:=a.CW [1] rfl;refine Aq h fun dd ao h=>EL rfl rfl (Bc (a0:=a0.f.2.2.2.2.2.2) (a1_c0:=a0) (O:=[.box y [No a0.f.1,b,(Aat []),Aaq,No 0,No 0,c] 26]) hH an (d.mono (Ae hH)) (l.mono (Ae hH)) (x.mono (Ae hH)) (d.mono (Ae hH)) ao) ?_;rintro _ de ⟨ck,cl,cm,rfl,ap,cn,bu,bv,bw⟩;refine Ab rfl g<|Ah (Aj rfl) rfl<|Ah (AS rfl g rfl) rfl<|A4 1 rfl<|Ax ?_
  cases h
  refine Am rfl ⟨ap.ext,rfl⟩
 refine Ai<|Ah (Af rfl AcR rfl Dd) rfl<|Ah (Ag 0 rfl AaA rfl a rfl) rfl<|Ah (Af rfl AcR rfl Dd) rfl<|Ah (Ag 1 rfl AaA rfl a rfl) rfl<|A4 2 rfl<|Cf rfl h (fun aq h=>?_) (fun aq h=>?_)
 ·refine Au<|Ar<|Cf rfl h (fun ar h=>?_) (fun ar h=>?_)
  ·cases h
  refine Au<|AJ<|Ar<|Bs 3 rfl<|Bl (s:=116) rfl (fun i=>?_) (fun i=>?_)
  ·have h:=IU i h
   iterate 5 refine Ao rfl i rfl ?_
   refine Ah (AH rfl i rfl) rfl<|A4 1 rfl<|Ax ?_
   cases h
   refine Am rfl ⟨a.ext,rfl⟩
  have h:=IV i h;refine Ab rfl i<|Ah (Af rfl AcR rfl Jo) rfl<|Ab rfl i<|Ah (Ag 1 rfl Adj rfl a rfl) rfl<|Ab rfl i<|Ah (Aj rfl) rfl<|Ab rfl i ?_;have au:AU w [.box b1 [No a0.f.1,b,Aat a0.f.2.2.1,k,No a0.f.2.2.2.2.1,No a0.f.2.2.2.2.2.1,c] 26,.box y [No a0.f.1,b,(Aat []),Aaq,No 0,No 0,c] 26] z:=a.CW [1] rfl;refine Aq h fun df av h=>EL rfl rfl (Bc (a0:=a0.f.2.2.2.2.2.2) (a1_c0:=a0) (O:=[.box y [No a0.f.1,b,(Aat []),Aaq,No 0,No 0,c] 26]) hH au (d.mono (Ae hH)) (l.mono (Ae hH)) (x.mono (Ae hH)) (d.mono (Ae hH)) av) ?_;rintro _ dg ⟨co,cp,cq,rfl,aw,cr,bx,bz,b0⟩;refine Ab rfl i<|Ah (Aj rfl) rfl<|Ah (AS rfl i rfl) rfl<|A4 1 rfl<|Ax ?_
  cases h
  refine Am rfl ⟨aw.ext,rfl⟩
 refine Av<|Ah (Af rfl AcR rfl Hv) rfl<|Ah (Ag 0 rfl Abj rfl a rfl) rfl<|Ah (O6 rfl Abj) rfl<|Ah (Af rfl AcR rfl Hv) rfl<|Ah (Ag 1 rfl Abj rfl a rfl) rfl<|Ah (Bj rfl Abj x) rfl<|As 2 rfl<|AQ<|Ar<|Cf rfl h (fun ax h=>?_) (fun ax h=>?_)
 ·cases h
 refine Au<|AJ<|Ar<|Bs 3 rfl<|Bl (s:=116) rfl (fun j=>?_) (fun j=>?_)
 ·have h:=IU j h
  iterate 5 refine Ao rfl j rfl ?_
  refine Ah (AH rfl j rfl) rfl<|A4 1 rfl<|Ax ?_
  cases h
  refine Am rfl ⟨a.ext,rfl⟩
 have h:=IV j h;refine Ab rfl j<|Ah (Af rfl AcR rfl Jo) rfl<|Ab rfl j<|Ah (Ag 1 rfl Adj rfl a rfl) rfl<|Ab rfl j<|Ah (Aj rfl) rfl<|Ab rfl j ?_;have ay:AU w [.box b1 [No a0.f.1,b,Aat a0.f.2.2.1,k,No a0.f.2.2.2.2.1,No a0.f.2.2.2.2.2.1,c] 26,.box y [No a0.f.1,b,(Aat []),Aaq,No 0,No 0,c] 26] z:=a.CW [1] rfl;refine Aq h fun dh az h=>EL rfl rfl (Bc (a0:=a0.f.2.2.2.2.2.2) (a1_c0:=a0) (O:=[.box y [No a0.f.1,b,(Aat []),Aaq,No 0,No 0,c] 26]) hH ay (d.mono (Ae hH)) (l.mono (Ae hH)) (x.mono (Ae hH)) (d.mono (Ae hH)) az) ?_;rintro _ di ⟨cs,ct,cu,rfl,a1,cv,b3,b4,b5⟩;refine Ab rfl j<|Ah (Aj rfl) rfl<|Ah (AS rfl j rfl) rfl<|A4 1 rfl<|Ax ?_
 cases h
 refine Am rfl ⟨a1.ext,rfl⟩
def EY(a0:Go.L.Qv)(a:Bool):Option Int:=
 if a then none else(if((decide (a0.f.1=4))&&(decide ((a0.f.2.2.2.1.length:Int)=0))) then none else(if 64<(a0.f.2.2.2.1.length:Int) then none else some (0)))
def Gr(a0:Go.L.Qv):Option Int:=
 Option.bind (Kn a0.f.2.2.1) (fun a=>if a.1=0/\a.2=0 then(if((decide (a0.f.1=3))&&((decide (a0.f.2.2.2.2.1<1))||(decide (2048<a0.f.2.2.2.2.1)))) then(EY a0) ((decide (a0.f.1=3))&&((decide (a0.f.2.2.2.2.1<1))||(decide (2048<a0.f.2.2.2.2.1)))) else(EY a0) ((decide (a0.f.1=6))&&(decide (a0.f.2.2.2.2.2.1<a0.f.2.2.2.2.1)))) else none)
def Ga(a0:Go.L.Qv):Int->Option ((Int) ⊕ (Int)):=fun a=>
 if a<(a0.f.2.1.length:Int) then Bh (0<=a/\a<(a0.f.2.1.length:Int)) (Option.bind (JR (a0.f.2.1.getD a.toNat default)) (fun b=>if b.1=0/\b.2=0 then Bh (C0 (a+1)) (some (Sum.inl (a+1))) else none)) else Option.map Sum.inr ((Gr a0))
def Ih(a0:Go.L.Qv)(s:Int):Option Int:=Go.L.run (Ga a0) s
def HY(a0:Go.L.Qv):Option Int:=
 if((decide (a0.f.1<1))||(decide (10<a0.f.1))) then none else Option.bind (JC a0) (fun a=>if !a then none else(Ih a0) (0:Int))
theorem Nl(w:World)(H:PH)(hH:Le H (hp w))(hU:EE H){a0:Go.L.Qv}{j m o:Value}(x:AA .st H j (a0.f.2.1))(y:AA .byte H m (a0.f.2.2.2.1))(ao:AA .Bg H o (a0.f.2.2.2.2.2.2)){r:Int}(h:HY a0=some r):
  Ok prog 62 [.agg #[No a0.f.1,j,Aat a0.f.2.2.1,m,No a0.f.2.2.2.2.1,No a0.f.2.2.2.2.2.1,o]] w (fun v w'=>Ext w w'/\v=No r):=by
 refine Aw (n:=80) [(0,.agg #[No a0.f.1,j,Aat a0.f.2.2.1,m,No a0.f.2.2.2.2.1,No a0.f.2.2.2.2.2.1,o])] func62 rfl fun hL=>Ai<|Dq (t:=26) rfl rfl rfl hL fun w1 b1 u bg _=>A4 1 rfl<|A9<|Ai<|Ah (Af rfl AcR rfl Dd) rfl<|Ah (Ag 0 rfl AaA rfl u rfl) rfl<|As 2 rfl<|Li 4 14 (.bool ((decide (a0.f.1<1))||(decide (10<a0.f.1)))) (fun al=>?_) ?_
 ·refine Bl (s:=10) rfl (fun k=>?_) (fun k=>?_)
  ·iterate 3 refine Ao rfl k rfl ?_
   refine Ah (AH rfl k rfl) rfl<|al.to 3 (Rv k) rfl rfl
  refine Ab rfl k<|Ah (Af rfl AcR rfl Dd) rfl<|Ab rfl k<|Ah (Ag 0 rfl AaA rfl u rfl) rfl<|Ab rfl k<|Ah (Aj rfl) rfl<|Ah (AS rfl k rfl) rfl<|al.to 3 (Rw k) rfl rfl
 refine Ac<|By rfl h (fun a6 h=>?_) (fun a6 h=>?_)
 ·cases h
 refine Au<|Ar<|A9<|Ai<|Ah (A5 0 rfl AcR rfl Bm u rfl) rfl<|Aq h fun x6 a7 h=>A8 rfl rfl u (OW (a0:=a0) _ _ (Al hH u) (x.mono (Ae hH)) (y.mono (Ae hH)) (ao.mono (Ae hH)) a7) fun w7 bn am bh=>A4 1 rfl<|By rfl h (fun a8 h=>?_) (fun a8 h=>?_)
 ·cases h
 refine Au<|Ar<|Bw (σ:=Unit) (fun(_:Unit)=>[(1,(Aas b1))]) (fun(_:Unit) wr=>AU w [.box b1 [No a0.f.1,j,Aat a0.f.2.2.1,m,No a0.f.2.2.2.2.1,No a0.f.2.2.2.2.2.1,o] 26] wr/\(Gr a0)=some r) ?_ ?_
 ·refine Ai<|Ah (Af rfl AcR rfl LC) rfl<|Ah (Ag 0 rfl Ab1 rfl am rfl) rfl<|Ah (Bj rfl Ab1 x) rfl<|A4 1 rfl<|A2 ?_;obtain⟨ac,h⟩:=AY h;refine B8 (σ:=Int×Nat) (fun⟨c,n⟩=>[(1,(Aas b1)),(19,j),(20,No (a0.f.2.1.length:Int)),(21,No c)]) (fun⟨c,n⟩ wr=>AU w [.box b1 [No a0.f.1,j,Aat a0.f.2.2.1,m,No a0.f.2.2.2.2.1,No a0.f.2.2.2.2.2.1,o] 26] wr/\GR (Ga a0) n c=some r) (fun⟨c,n⟩=>n) (0,ac) (Sub.of rfl) ⟨am,h⟩ ?_;rintro⟨c,nn58⟩ bi ⟨p,h⟩;obtain⟨ac,bo,rfl,h,ad⟩:=AX h;refine AD 1 rfl<|A9<|AO rfl h (fun ap h=>?_) (fun ap h=>?_)
  ·refine Au<|Ar<|A9<|A2<|Ai<|AB h fun ae h=>Be rfl rfl Ab1 Kq x c.toNat (Hc ae) (Ba ae) rfl ?_;rintro bp _ rfl aq;refine Ah (Bu rfl AaQ rfl aq (hH.trans p.arg)) rfl<|A4 1 rfl<|Bs 1 rfl<|Aq h fun bq ar h=>A8 rfl rfl p (MC _ _ (Al hH p) (hU.mono (Ae hH)) ar) fun br bj au ba=>A3 AI rfl rfl au fun bs bt av bb _=>Ad 0 rfl AI av rfl (AT rfl) fun bu af bc=>Ac<|Ai<|Ah (A5 0 rfl AcP rfl AI af rfl) rfl<|Ah (AN rfl (fun _=>BL _)) rfl<|Ah (JJ rfl rfl ID (Ld _ _ _ _)) rfl<|Ac<|Cf rfl h (fun aw h=>?_) (fun aw h=>?_)
   ·cases h
   refine Au<|AJ<|Ar<|Av<|AB h fun ax h=>Ah (AK rfl ax) rfl<|As 1 rfl<|AQ ?_;have ay:=af.AV (i:=0) rfl;have h:=CV.again h ad;refine AW ((c+1),ac) (Sub.of rfl) ⟨ay,h⟩ (Nat.lt_succ_self _)
  refine B5<|AE<|A7 ?_;have h:=CV.out h ad;refine Bk<|A6 () (Sub.of rfl) ⟨p,h⟩
 rintro _ bk ⟨z,h⟩;refine A9<|Ai<|Ah (Af rfl AcR rfl Kq) rfl<|Ah (Ag 0 rfl AaQ rfl z rfl) rfl<|Aq h fun an az h=>A8 rfl rfl z (P6 _ _ (Al hH z) az) fun bv bl a1 bd=>A3 AI rfl rfl a1 fun bw a9 a2 be _=>Ad 0 rfl AI a2 rfl (AT rfl) fun bx e bf=>Ac<|Ai<|Ah (A5 0 rfl AcP rfl AI e rfl) rfl<|Ah (AN rfl (fun _=>BL _)) rfl<|Ah (JJ rfl rfl ID (Ld _ _ _ _)) rfl<|Ac<|Cf rfl h (fun a3 h=>?_) (fun a3 h=>?_)
 ·cases h
 refine Au<|Ar<|A9<|A2<|Bw (σ:=Bool) (fun l=>[(1,(Aas b1)),(41,.bool l)]) (fun l wr=>AU w [.box a9 [No an.1,No an.2] 28,.box b1 [No a0.f.1,j,Aat a0.f.2.2.1,m,No a0.f.2.2.2.2.1,No a0.f.2.2.2.2.2.1,o] 26] wr/\(EY a0) l=some r) ?_ ?_
 ·refine Ai<|Ah (Af rfl AcR rfl Dd) rfl<|Ah (Ag 1 rfl AaA rfl e rfl) rfl<|As 2 rfl<|Li 9 54 (.bool ((decide (a0.f.1=3))&&((decide (a0.f.2.2.2.2.1<1))||(decide (2048<a0.f.2.2.2.2.1))))) (fun ag=>?_) ?_
  ·refine Bl (s:=45) rfl (fun a=>?_) (fun a=>?_)
   ·refine Ab rfl a<|Ah (Af rfl AcR rfl Dd) rfl<|Ab rfl a<|Ah (Ag 1 rfl AaA rfl e rfl) rfl<|Ab rfl a<|Ah (Aj rfl) rfl<|Ab rfl a<|Ah (Aj rfl) rfl<|Li 4 53 (.bool ((decide (a0.f.2.2.2.2.1<1))||(decide (2048<a0.f.2.2.2.2.1)))) (fun ah=>?_) ?_
    ·refine Bl (s:=49) rfl (fun g=>?_) (fun g=>?_)
     ·iterate 3 refine Ao rfl g rfl ?_
      refine Ab rfl a<|Ah (AH rfl g rfl) rfl<|ah.to 3 (Rv g) rfl rfl
     refine Ab rfl g<|Ah (Af rfl AcR rfl Dd) rfl<|Ab rfl g<|Ah (Ag 1 rfl AaA rfl e rfl) rfl<|Ab rfl g<|Ah (Aj rfl) rfl<|Ab rfl a<|Ah (AS rfl g rfl) rfl<|ah.to 3 (Rw g) rfl rfl
    refine Ah (AH rfl a rfl) rfl<|ag.to 5 (XE a) rfl rfl
   iterate 4 refine Ao rfl a rfl ?_
   iterate 3 refine Mu rfl rfl rfl ?_
   refine Ao rfl a rfl<|Ah (AS rfl a rfl) rfl<|ag.to 8 (XF a) rfl rfl
  refine A4 1 rfl<|By rfl h (fun a4 h=>?_) (fun a4 h=>?_)
  ·refine Au<|A6 ((decide (a0.f.1=3))&&((decide (a0.f.2.2.2.2.1<1))||(decide (2048<a0.f.2.2.2.2.1)))) (Sub.of rfl) ⟨e,h⟩
  refine Av<|Ah (Af rfl AcR rfl Dd) rfl<|Ah (Ag 1 rfl AaA rfl e rfl) rfl<|As 2 rfl<|Li 6 64 (.bool ((decide (a0.f.1=6))&&(decide (a0.f.2.2.2.2.2.1<a0.f.2.2.2.2.1)))) (fun ai=>?_) ?_
  ·refine Bl (s:=58) rfl (fun d=>?_) (fun d=>?_)
   ·refine Ab rfl d<|Ah (Af rfl AcR rfl Dd) rfl<|Ab rfl d<|Ah (Ag 1 rfl AaA rfl e rfl) rfl<|Ab rfl d<|Ah (Af rfl AcR rfl Dd) rfl<|Ab rfl d<|Ah (Ag 1 rfl AaA rfl e rfl) rfl<|Ab rfl d<|Ah (Aj rfl) rfl<|Ah (AH rfl d rfl) rfl<|ai.to 5 (XE d) rfl rfl
   iterate 5 refine Ao rfl d rfl ?_
   refine Ah (AS rfl d rfl) rfl<|ai.to 5 (XF d) rfl rfl
  refine As 1 rfl<|AQ<|A6 ((decide (a0.f.1=6))&&(decide (a0.f.2.2.2.2.2.1<a0.f.2.2.2.2.1))) (Sub.of rfl) ⟨e,h⟩
 rintro l bm ⟨q,h⟩;refine By rfl h (fun a5 h=>?_) (fun a5 h=>?_)
 ·cases h
 refine Ai<|Ah (Af rfl AcR rfl Dd) rfl<|Ah (Ag 1 rfl AaA rfl q rfl) rfl<|As 2 rfl<|Li 5 74 (.bool ((decide (a0.f.1=4))&&(decide ((a0.f.2.2.2.1.length:Int)=0)))) (fun aa=>?_) ?_
 ·refine Bl (s:=69) rfl (fun b=>?_) (fun b=>?_)
  ·refine Ab rfl b<|Ah (Af rfl AcR rfl Hv) rfl<|Ab rfl b<|Ah (Ag 1 rfl Abj rfl q rfl) rfl<|Ab rfl b<|Ah (Bj rfl Abj y) rfl<|Ab rfl b<|Ah (Aj rfl) rfl<|Ah (AH rfl b rfl) rfl<|aa.to 4 (XE b) rfl rfl
  iterate 4 refine Ao rfl b rfl ?_
  refine Ah (AS rfl b rfl) rfl<|aa.to 4 (XF b) rfl rfl
 refine A4 1 rfl<|By rfl h (fun aj h=>?_) (fun aj h=>?_)
 ·cases h
 refine Ai<|Ah (Af rfl AcR rfl Hv) rfl<|Ah (Ag 1 rfl Abj rfl q rfl) rfl<|Ah (Bj rfl Abj y) rfl<|A4 2 rfl<|AO rfl h (fun ak h=>?_) (fun ak h=>?_)
 ·cases h
 refine Au<|AJ<|Ar<|AD 1 rfl<|Ax ?_
 cases h
 refine Am rfl ⟨q.ext,rfl⟩
def Gb(a:Int):Option Adz:=
 some (a,(0,0))
def FD(a0:Go.L.Qv)(a2:Int)(self:Go.L.Qv->Int->Int->Option Adz):Int×Int->Option ((Int×Int) ⊕ Adz):=fun⟨b,a⟩=>
 if a<(a0.f.2.2.2.2.2.2.length:Int) then Bh (0<=a/\a<(a0.f.2.2.2.2.2.2.length:Int)) (Bh (C0 (a2+1)) (Option.bind (self (a0.f.2.2.2.2.2.2.getD a.toNat default) b (a2+1)) (fun c=>if c.2.1=0/\c.2.2=0 then Bh (C0 (a+1)) (some (Sum.inl (c.1,(a+1)))) else none))) else Option.map Sum.inr (Gb b)
def HC(a0:Go.L.Qv)(a2:Int)(self:Go.L.Qv->Int->Int->Option Adz)(s:Int×Int):Option Adz:=Go.L.run (FD a0 a2 self) s
def Gc(self:Go.L.Qv->Int->Int->Option Adz)(a0:Go.L.Qv)(a1 a2:Int):Option Adz:=
 if(40<=a1)\/(8<a2) then none else Option.bind (HY a0) (fun a=>if a=0 then Bh (C0 (a1+1)) ((HC a0 a2 self) ((a1+1),0)) else none)
def HD(self:Go.L.Qv->Int->Int->Option Adz):Prop:=∀ (w:World) (H:PH) (hH:Le H (hp w)) (hU:EE H) {a0:Go.L.Qv} {a1:Int} {a2:Int} {a:Value} {b:Value} {c:Value} (d:AA .st H a (a0.f.2.1)) (e:AA .byte H b (a0.f.2.2.2.1)) (g:AA .Bg H c (a0.f.2.2.2.2.2.2)) {r:Int×(Int×Int)} (h:self a0 a1 a2=some r),Ok prog 32 [.agg #[No a0.f.1,a,Aat a0.f.2.2.1,b,No a0.f.2.2.2.2.1,No a0.f.2.2.2.2.2.1,c],No a1,No a2] w (fun v w'=>Ext w w'/\v=.tuple #[No r.1,.agg #[No r.2.1,No r.2.2]])
def G4:Nat->Go.L.Qv->Int->Int->Option Adz
 | 0=>fun _ _ _=>none
 | n+1=>Gc (G4 n)
def Ko:Go.L.Qv->Int->Int->Option Adz:=G4 1000
theorem MK(self:Go.L.Qv->Int->Int->Option Adz)(hself:HD self):HD (Gc self):=by
 intro w H hH hU a0 a1 a2 e g d y z j r h;unfold HD at hself;refine Aw (n:=52) [(0,.agg #[No a0.f.1,e,Aat a0.f.2.2.1,g,No a0.f.2.2.2.2.1,No a0.f.2.2.2.2.2.1,d]),(1,No a1),(2,No a2)] func32 rfl fun hL=>Ai<|Dq (t:=26) rfl rfl rfl hL fun w1 b1 ao a4 _=>As 1 rfl<|A3 AI rfl rfl ao fun w2 v m a5 _=>Ac<|A9<|Bs 3 rfl<|WQ 2 2 rfl rfl rfl rfl rfl rfl<|Ac<|AO rfl h (fun ap h=>?_) (fun ap h=>?_)
 ·cases h
 refine Au<|Ar<|A9<|Ai<|Ah (A5 1 rfl AcR rfl Bm m rfl) rfl<|Aq h fun x6 aq h=>A8 rfl rfl m (Nl (a0:=a0) _ _ (Al hH m) (hU.mono (Ae hH)) (y.mono (Ae hH)) (z.mono (Ae hH)) (j.mono (Ae hH)) aq) fun w7 ba x a6=>A4 1 rfl<|AD 2 rfl<|Cf rfl h (fun ar h=>?_) (fun ar h=>?_)
 ·cases h
 refine Au<|Ar<|Bs 1 rfl<|AB h fun aa h=>Ah (AK rfl aa) rfl<|A4 1 rfl<|Bw (σ:=Int) (fun c=>[(7,(Aas v)),(9,No c)]) (fun c wr=>AU w [.box v [No 0,No 0] 28,.box b1 [No a0.f.1,e,Aat a0.f.2.2.1,g,No a0.f.2.2.2.2.1,No a0.f.2.2.2.2.2.1,d] 26] wr/\Gb c=some r) ?_ ?_
 ·refine Ai<|Ah (Af rfl AcR rfl Jo) rfl<|Ah (Ag 1 rfl Adj rfl x rfl) rfl<|Ah (Bj rfl Adj j) rfl<|A4 1 rfl<|A2 ?_;obtain⟨o,h⟩:=AY h;refine B8 (σ:=Int×Int×Nat) (fun⟨b,a,n⟩=>[(2,No a2),(7,(Aas v)),(9,No b),(31,d),(32,No (a0.f.2.2.2.2.2.2.length:Int)),(33,No a)]) (fun⟨b,a,n⟩ wr=>AU w [.box v [No 0,No 0] 28,.box b1 [No a0.f.1,e,Aat a0.f.2.2.1,g,No a0.f.2.2.2.2.1,No a0.f.2.2.2.2.2.1,d] 26] wr/\GR (FD a0 a2 self) n (b,a)=some r) (fun⟨b,a,n⟩=>n) ((a1+1),0,o) (Sub.of rfl) ⟨x,h⟩ ?_;rintro⟨b,a,nn71⟩ a7 ⟨k,h⟩;obtain⟨o,bb,rfl,h,p⟩:=AX h;refine AD 1 rfl<|A9<|AO rfl h (fun ab h=>?_) (fun ab h=>?_)
  ·refine Au<|Ar<|A9<|A2<|Ai<|AB h fun q h=>Be rfl rfl Adj Bm j a.toNat (Hc q) (Ba q) rfl ?_;rintro bc _ e75t0 ac;obtain⟨_,_,rfl,rfl,⟨_,_,rfl,⟨e75v1,rfl,e75h1⟩,⟨_,_,rfl,rfl,⟨_,_,rfl,⟨e75v3,rfl,e75h3⟩,⟨_,_,rfl,rfl,⟨_,_,rfl,rfl,⟨e75v6,rfl,e75h6⟩⟩⟩⟩⟩⟩⟩:=Go.E.Rp.Gm e75t0;refine Ah (C7 rfl AcR rfl Bm ac (hH.trans k.arg)) rfl<|A3 Bm rfl rfl k fun bd be ad av _=>Ad 0 rfl Bm ad rfl (Bb rfl (Bb e75h1.one (Bb rfl (Bb e75h3.one (Bb rfl (Bb rfl (Bb e75h6.one I8))))))) fun bf ae aw=>Ac<|Ai<|A3 AI rfl rfl ae fun bg bh l ax _=>Ac<|Ai<|Ah (A5 1 rfl AcR rfl Bm l rfl) rfl<|As 2 rfl<|AB h fun af h=>Ah (AK rfl af) rfl<|Aq h fun au ag h=>A8 rfl rfl l (hself _ _ (Al hH l) (hU.mono (Ae hH)) (e75h1.mono (Ae hH)) (e75h3.mono (Ae hH)) (e75h6.mono (Ae hH)) ag) fun bi a8 ah ay=>As 4 rfl<|Ad 0 rfl AI ah rfl (AT rfl) fun bj s az=>Ac<|Ai<|Ah (A5 0 rfl AcP rfl AI s rfl) rfl ?_
   refine Ah (AN rfl (fun _=>BL _)) rfl<|Ah (JJ rfl rfl ID (Ld _ _ _ _)) rfl<|Ac<|Cf rfl h (fun ai h=>?_) (fun ai h=>?_)
   ·cases h
   refine Au<|AJ<|Ar<|Av<|AB h fun aj h=>Ah (AK rfl aj) rfl<|As 1 rfl<|AQ ?_;have ak:=s.AV (i:=0) rfl;have al:=ak.AV (i:=0) rfl;have h:=CV.again h p;refine AW (au.1,(a+1),o) (Sub.of rfl) ⟨al,h⟩ (Nat.lt_succ_self _)
  refine B5<|AE<|A7 ?_;have h:=CV.out h p;refine Bk<|A6 b (Sub.of rfl) ⟨k,h⟩
 rintro c a9 ⟨am,h⟩;refine Bs 1 rfl<|Ah (AN rfl (fun _=>BL _)) rfl<|As 1 rfl<|Ad 0 rfl AI am rfl (AT rfl) fun bk u a3=>Ac<|Ax ?_
 cases h
 refine B0 rfl (.tmp rfl) (.cell rfl AcP rfl AI (AG (i:=0) u rfl)) ⟨u.ext,rfl⟩
theorem Ou(n:Nat):HD (G4 n):=by
 induction n with
 | zero=>unfold HD;intros;rename_i h;cases h
 | succ n ih=>exact MK (G4 n) ih
theorem PD(w:World)(H:PH)(hH:Le H (hp w))(hU:EE H){a0:Go.L.Qv}{a1 a2:Int}{a b c:Value}(d:AA .st H a (a0.f.2.1))(e:AA .byte H b (a0.f.2.2.2.1))(g:AA .Bg H c (a0.f.2.2.2.2.2.2)){r:Int×(Int×Int)}(h:Ko a0 a1 a2=some r):Ok prog 32 [.agg #[No a0.f.1,a,Aat a0.f.2.2.1,b,No a0.f.2.2.2.2.1,No a0.f.2.2.2.2.2.1,c],No a1,No a2] w (fun v w'=>Ext w w'/\v=.tuple #[No r.1,.agg #[No r.2.1,No r.2.2]]):=Ou 1000 w H hH hU d e g h
def Gd(a0:Go.L.Qv)(a:(List Aaz))(b:Aaz):Option (Go.L.Qv):=
 some ((Go.L.Qv.mk a0.f.1 a a0.f.2.2.1 b a0.f.2.2.2.2.1 a0.f.2.2.2.2.2.1 ([])))
def FE(a0:Go.L.Qv)(b:(List Aaz))(c:Aaz):Int->Option ((Int) ⊕ (Go.L.Qv)):=fun a=>
 if a<(a0.f.2.2.2.2.2.2.length:Int) then Bh (0<=a/\a<(a0.f.2.2.2.2.2.2.length:Int)) none else Option.map Sum.inr ((Gd a0 b c))
def HE(a0:Go.L.Qv)(a:(List Aaz))(b:Aaz)(s:Int):Option (Go.L.Qv):=Go.L.run (FE a0 a b) s
def Ge(_self:Go.L.Qv->Option (Go.L.Qv))(a0:Go.L.Qv):Option (Go.L.Qv):=
 Option.bind (Cn a0.f.2.1) (fun a=>Option.bind (CP a0.f.2.2.2.1) (fun b=>(HE a0 a b) (0:Int)))
def Jj(self:Go.L.Qv->Option (Go.L.Qv)):Prop:=∀ (w:World) (H:PH) (hH:Le H (hp w)) {a0:Go.L.Qv} {a:Value} {b:Value} {c:Value} (i:AA .st H a (a0.f.2.1)) (j:AA .byte H b (a0.f.2.2.2.1)) (k:AA .Bg H c (a0.f.2.2.2.2.2.2)) {r:Go.L.Qv} (h:self a0=some r),Ok prog 96 [.agg #[No a0.f.1,a,Aat a0.f.2.2.1,b,No a0.f.2.2.2.2.1,No a0.f.2.2.2.2.2.1,c]] w (fun v w'=>Ext w w'/\∃ d e g,v=.agg #[No r.f.1,d,Aat r.f.2.2.1,e,No r.f.2.2.2.2.1,No r.f.2.2.2.2.2.1,g]/\AA .st (un H (nw w w')) d (r.f.2.1)/\AA .byte (un H (nw w w')) e (r.f.2.2.2.1)/\Ck 26 .Bg H w w' g (r.f.2.2.2.2.2.2))
def G5:Nat->Go.L.Qv->Option (Go.L.Qv)
 | 0=>fun _=>none
 | n+1=>Ge (G5 n)
def Jk:Go.L.Qv->Option (Go.L.Qv):=G5 1000
theorem ML(self:Go.L.Qv->Option (Go.L.Qv))(_hself:Jj self):Jj (Ge self):=by
 intro w H hH a0 a1 a2 ad a3 a4 ae r h;refine Aw (n:=32) [(0,.agg #[No a0.f.1,a1,Aat a0.f.2.2.1,a2,No a0.f.2.2.2.2.1,No a0.f.2.2.2.2.2.1,ad])] func96 rfl fun hL=>Ai<|Dq (t:=26) rfl rfl rfl hL fun w1 b1 bc bi _=>A3 Bm rfl rfl bc fun w2 b2 bd bj _=>Ac<|IQ (.q 0 (.q 1 (.q 3 (.q 4 (.h 2 (.q 6 (.h 5 (.tail 7)))))))) mixed (by kernel_rfl) (fun w3 be=>?_);have u:=bd.call be;refine FK (Af rfl AcR rfl LC) rfl rfl<|FK (Ag 1 rfl Ab1 rfl u rfl) rfl rfl<|FK (Af rfl AcR rfl Hv) rfl rfl<|FK (Ag 1 rfl Abj rfl u rfl) rfl rfl<|Aq h fun x5 bf h=>BV rfl rfl rfl (fun w7 af=>E4 _ _ (Al hH (u.call af)) (a3.mono (Ae hH)) bf) ?_;rintro w7 l w6 af ag ⟨_,rfl,av⟩;have ah:=u.call af;have ai:=ah.call ag;have bl:=AP ah ag;have a:=av.C8 hH ah ag;refine FK (Af rfl AcR rfl LC) rfl rfl<|Aq h fun x9 bg h=>BV rfl rfl rfl (fun bh m=>Ia _ _ (Al hH (ai.call m)) (a4.mono (Ae hH)) bg) ?_;rintro bh k bp m o ⟨_,rfl,aj⟩;have p:=ai.call m;have ax:=AP ai m;have a:=a.mono (Aa hH ax)
 have ak:=p.call o;have ay:=AP p o;have b:=aj.C8 hH p o;have a:=a.mono (Aa hH ay);refine DX (fun bq al=>?_);have a5:=ak.call al;have v:=AP ak al;have a:=a.mono (Aa hH v);have b:=b.mono (Aa hH v);refine B6 1 rfl rfl a.one LC a5 rfl rfl ?_;intro br a6 x;have a:=a.mono (Aa hH x);have b:=b.mono (Aa hH x);refine Ah (Af rfl AcR rfl Hv) rfl<|B6 1 rfl rfl b.one Hv a6 rfl rfl ?_;intro bs am y;have a:=a.mono (Aa hH y);have b:=b.mono (Aa hH y);refine Ac<|Ai<|Ah (Af rfl AcR rfl Jo) rfl<|Ah (Ag 1 rfl Adj rfl am rfl) rfl<|A4 1 rfl<|Ai<|Ah (Af rfl AcR rfl Jo) rfl<|B6 1 rfl rfl rfl Jo am rfl rfl ?_;intro bt a7 z;have a:=a.mono (Aa hH z);have b:=b.mono (Aa hH z);refine Ac ?_
 refine Bw (σ:=Unit) (fun(_:Unit)=>[(1,(Aas b1)),(2,(Aas b2))]) (fun(_:Unit) wr=>FL w [.box b2 Aa1 26,.box b1 [No a0.f.1,l,Aat a0.f.2.2.1,k,No a0.f.2.2.2.2.1,No a0.f.2.2.2.2.2.1,Aaq] 26] wr fun Oz=>AA .st (gz H w wr Oz) l x5/\AA .byte (gz H w wr Oz) k x9/\(Gd a0 x5 x9)=some r) ?_ ?_
 ·refine Bs 1 rfl<|Ah (Bj rfl Adj ae) rfl<|A4 1 rfl<|A2 ?_;obtain⟨az,h⟩:=AY h;refine B8 (σ:=Int×Nat) (fun⟨c,n⟩=>[(1,(Aas b1)),(2,(Aas b2)),(17,ad),(18,No (a0.f.2.2.2.2.2.2.length:Int)),(19,No c)]) (fun⟨c,n⟩ wr=>FL w [.box b2 Aa1 26,.box b1 [No a0.f.1,l,Aat a0.f.2.2.1,k,No a0.f.2.2.2.2.1,No a0.f.2.2.2.2.2.1,Aaq] 26] wr fun Oz=>AA .st (gz H w wr Oz) l x5/\AA .byte (gz H w wr Oz) k x9/\GR (FE a0 x5 x9) n c=some r) (fun⟨c,n⟩=>n) (0,az) (Sub.of rfl) ⟨a7,a,b,h⟩ ?_;rintro⟨c,nn47⟩ bm ⟨s,d,e,h⟩;obtain⟨az,bu,rfl,h,a8⟩:=AX h;refine AD 1 rfl<|A9<|AO rfl h (fun a9 h=>?_) (fun a9 h=>?_)
  ·refine Au<|Ar<|A9<|A2<|Ai<|AB h fun an h=>Be rfl rfl Adj Bm ae c.toNat (Hc an) (Ba an) rfl ?_;rintro bv _ e51t0 ba;obtain⟨_,_,rfl,rfl,⟨_,_,rfl,⟨e51v1,rfl,e51h1⟩,⟨_,_,rfl,rfl,⟨_,_,rfl,⟨e51v3,rfl,e51h3⟩,⟨_,_,rfl,rfl,⟨_,_,rfl,rfl,⟨e51v6,rfl,e51h6⟩⟩⟩⟩⟩⟩⟩:=Go.E.Rp.Gm e51t0;refine Ah (C7 rfl AcR rfl Bm ba (hH.trans s.arg)) rfl<|A3 Bm rfl rfl s ?_;intro bw bx bb aa _;have d:=d.mono (Aa hH aa);have e:=e.mono (Aa hH aa);refine Ad 0 rfl Bm bb rfl (Bb rfl (Bb e51h1.one (Bb rfl (Bb e51h3.one (Bb rfl (Bb rfl (Bb e51h6.one I8))))))) ?_;intro bz bn ab;have d:=d.mono (Aa hH ab);have e:=e.mono (Aa hH ab);refine Ac ?_
   cases h
  refine B5<|AE<|A7 ?_;have h:=CV.out h a8;refine Bk<|A6 () (Sub.of rfl) ⟨s,d,e,h⟩
 rintro _ bo ⟨ao,g,j,h⟩;refine Ai<|Ah (A5 1 rfl AcR rfl Bm ao rfl) rfl<|Ad 0 rfl Bm ao rfl (Bb rfl (Bb g.one (Bb rfl (Bb j.one (AT rfl))))) ?_;intro b0 ap ac;have g:=g.mono (Aa hH ac);have j:=j.mono (Aa hH ac);refine Ac<|Ax ?_
 cases h
 refine CM rfl (.cell rfl AcR rfl Bm (AG (i:=0) ap rfl)) ⟨ap.ext,_,_,_,rfl,(g.mono (Dg hH)),(j.mono (Dg hH)),Ck.nil⟩
theorem Ov(n:Nat):Jj (G5 n):=by
 induction n with
 | zero=>unfold Jj;intros;rename_i h;cases h
 | succ n ih=>exact ML (G5 n) ih
theorem Me(w:World)(H:PH)(hH:Le H (hp w)){a0:Go.L.Qv}{a b c:Value}(d:AA .st H a (a0.f.2.1))(e:AA .byte H b (a0.f.2.2.2.1))(g:AA .Bg H c (a0.f.2.2.2.2.2.2)){r:Go.L.Qv}(h:Jk a0=some r):Ok prog 96 [.agg #[No a0.f.1,a,Aat a0.f.2.2.1,b,No a0.f.2.2.2.2.1,No a0.f.2.2.2.2.2.1,c]] w (fun v w'=>Ext w w'/\∃ i j k,v=.agg #[No r.f.1,i,Aat r.f.2.2.1,j,No r.f.2.2.2.2.1,No r.f.2.2.2.2.2.1,k]/\AA .st (un H (nw w w')) i (r.f.2.1)/\AA .byte (un H (nw w w')) j (r.f.2.2.2.1)/\Ck 26 .Bg H w w' k (r.f.2.2.2.2.2.2)):=Ov 1000 w H hH d e g h
def FF(a:Int)(b:List Go.L.Qv):Option (Go.L.Qv):=
 some ((Go.L.Qv.mk a ([]) ([]:Aaz) ([]) (0:Int) (0:Int) b))
def Fj(a0:Go.L.Qv)(a1:Bool)(d:Int)(self:Go.L.Qv->Bool->Option (Go.L.Qv)):(List Go.L.Qv)×Int->Option (((List Go.L.Qv)×Int) ⊕ (Go.L.Qv)):=fun⟨b,a⟩=>
 if a<(a0.f.2.2.2.2.2.2.length:Int) then Bh (0<=a/\a<(a0.f.2.2.2.2.2.2.length:Int)) (Option.bind (self (a0.f.2.2.2.2.2.2.getD a.toNat default) a1) (fun c=>if c.f.1=d then none else Bh (Go.E.Ij 112 (b.length+([c]).length)) (Bh (C0 (a+1)) (some (Sum.inl ((b++[c]),(a+1))))))) else Option.map Sum.inr ((FF d) b)
def Hk(a0:Go.L.Qv)(a1:Bool)(a:Int)(self:Go.L.Qv->Bool->Option (Go.L.Qv))(s:(List Go.L.Qv)×Int):Option (Go.L.Qv):=Go.L.run (Fj a0 a1 a self) s
def Eb(a0:Go.L.Qv)(a1:Bool)(self:Go.L.Qv->Bool->Option (Go.L.Qv))(a:Int):Option (Go.L.Qv):=
 (Hk a0 a1 a self) (([]:List Go.L.Qv),0)
def F5(self:Go.L.Qv->Bool->Option (Go.L.Qv))(a0:Go.L.Qv)(a1:Bool):Option (Go.L.Qv):=
 if a0.f.1=10 then Bh (0<=(0:Int)/\(0:Int)<(a0.f.2.2.2.2.2.2.length:Int)) (Option.bind (self (a0.f.2.2.2.2.2.2.getD ((0:Int).toNat) default) (!a1)) (fun e=>some e)) else Option.bind (Hi a0.f.1) (fun a=>if(bif a then !a1 else false) then Option.bind (Jk a0) (fun b=>some b) else Option.bind (Hi a0.f.1) (fun c=>if c then Option.bind (Jk a0) (fun d=>some ((Go.L.Qv.mk (10:Int) ([]) ([]:Aaz) ([]) (0:Int) (0:Int) ([d])))) else(if a1 then Bh (C0 (17 - a0.f.1)) ((Eb a0 a1 self) (17 - a0.f.1)) else(Eb a0 a1 self) a0.f.1)))
def GX(self:Go.L.Qv->Bool->Option (Go.L.Qv)):Prop:=∀ (w:World) (H:PH) (hH:Le H (hp w)) {a0:Go.L.Qv} {a1:Bool} {a:Value} {b:Value} {c:Value} (i:AA .st H a (a0.f.2.1)) (j:AA .byte H b (a0.f.2.2.2.1)) (k:AA .Bg H c (a0.f.2.2.2.2.2.2)) {r:Go.L.Qv} (h:self a0 a1=some r),Ok prog 58 [.agg #[No a0.f.1,a,Aat a0.f.2.2.1,b,No a0.f.2.2.2.2.1,No a0.f.2.2.2.2.2.1,c],.bool a1] w (fun v w'=>Ext w w'/\∃ d e g,v=.agg #[No r.f.1,d,Aat r.f.2.2.1,e,No r.f.2.2.2.2.1,No r.f.2.2.2.2.2.1,g]/\AA .st (un H (nw w w')) d (r.f.2.1)/\AA .byte (un H (nw w w')) e (r.f.2.2.2.1)/\AA .Bg (un H (nw w w')) g (r.f.2.2.2.2.2.2))
def FP:Nat->Go.L.Qv->Bool->Option (Go.L.Qv)
 | 0=>fun _ _=>none
 | n+1=>F5 (FP n)
def JD:Go.L.Qv->Bool->Option (Go.L.Qv):=FP 1000
theorem Mo(self:Go.L.Qv->Bool->Option (Go.L.Qv))(hself:GX self):GX (F5 self):=by
 intro w H hH a0 a1 au av an bl bm ao r h;unfold GX at hself;refine Aw (n:=75) [(0,.agg #[No a0.f.1,au,Aat a0.f.2.2.1,av,No a0.f.2.2.2.2.1,No a0.f.2.2.2.2.2.1,an]),(1,.bool a1)] func58 rfl fun hL=>Ai<|Dq (t:=26) rfl rfl rfl hL fun w1 b1 c5 dw _=>A3 Bm rfl rfl c5 fun w2 b2 q dx _=>Ac<|A9<|A2<|Ai<|Ah (Af rfl AcR rfl Dd) rfl<|Ah (Ag 1 rfl AaA rfl q rfl) rfl<|A4 2 rfl<|AO rfl h (fun c6 h=>?_) (fun c6 h=>?_)
 ·refine Ai<|Ah (Af rfl AcR rfl Jo) rfl<|Ah (Ag 1 rfl Adj rfl q rfl) rfl<|AB h fun cp h=>Be rfl rfl Adj Bm ao ((0:Int).toNat) (Hc cp) (Ba cp) rfl ?_;rintro p5 _ e5t0 c8;obtain⟨_,_,rfl,rfl,⟨_,_,rfl,⟨e5v1,rfl,e5h1⟩,⟨_,_,rfl,rfl,⟨_,_,rfl,⟨e5v3,rfl,e5h3⟩,⟨_,_,rfl,rfl,⟨_,_,rfl,rfl,⟨e5v6,rfl,e5h6⟩⟩⟩⟩⟩⟩⟩:=Go.E.Rp.Gm e5t0;refine Ah (C7 rfl AcR rfl Bm c8 (hH.trans q.arg)) rfl<|As 2 rfl<|Aq h fun x7 c9 h=>Bf rfl rfl q (hself _ _ (Al hH q) (e5h1.mono (Ae hH)) (e5h3.mono (Ae hH)) (e5h6.mono (Ae hH)) c9) ?_;rintro _ w8 ⟨dy,dz,d0,rfl,b6,b7,b8⟩ bn da d1;have ai:=b6.mono (Ds hH q bn);have aj:=b7.mono (Ds hH q bn);have ak:=b8.mono (Ds hH q bn);refine Ad 0 rfl Bm da rfl (Bb rfl (Bb ai.one (Bb rfl (Bb aj.one (Bb rfl (Bb rfl (Bb ak.one I8))))))) ?_;intro w9 cq a7;have ai:=ai.mono (Aa hH a7);have aj:=aj.mono (Aa hH a7);have ak:=ak.mono (Aa hH a7);refine Ac<|Ax<|Az<|Ay ?_
  cases h
  refine CM rfl (.cell rfl AcR rfl Bm (AG (i:=0) cq rfl)) ⟨cq.ext,_,_,_,rfl,(ai.mono (Dg hH)),(aj.mono (Dg hH)),(ak.mono (Dg hH))⟩
 refine Ai<|Ah (Af rfl AcR rfl Dd) rfl<|Ah (Ag 1 rfl AaA rfl q rfl) rfl<|Aq h fun el cr h=>A8 rfl rfl q (J5 _ _ (Al hH q) cr) fun em d2 k dg=>As 1 rfl<|Sk 2 3 rfl rfl rfl rfl rfl rfl rfl<|A4 1 rfl<|By rfl h (fun cs h=>?_) (fun cs h=>?_)
 ·refine Ai<|Ah (A5 1 rfl AcR rfl Bm k rfl) rfl<|Aq h fun en ct h=>Bf rfl rfl k (Me (a0:=a0) _ _ (Al hH k) (bl.mono (Ae hH)) (bm.mono (Ae hH)) (ao.mono (Ae hH)) ct) ?_;rintro _ eo ⟨dh,di,dj,rfl,bo,bp,bq⟩ a8 cu dk;have ab:=bo.mono (Ds hH k a8);have ac:=bp.mono (Ds hH k a8);have ad:=bq.C8 hH k a8;refine Ad 0 rfl Bm cu rfl (Bb rfl (Bb ab.one (Bb rfl (Bb ac.one (Bb rfl (Bb rfl (Bb ad.one I8))))))) ?_;intro ep br aw;have ab:=ab.mono (Aa hH aw);have ac:=ac.mono (Aa hH aw);have ad:=ad.mono (Aa hH aw);refine Ac<|Ax<|Az<|Ay ?_
  cases h
  refine CM rfl (.cell rfl AcR rfl Bm (AG (i:=0) br rfl)) ⟨br.ext,_,_,_,rfl,(ab.mono (Dg hH)),(ac.mono (Dg hH)),(ad.mono (Dg hH))⟩
 refine Ai<|Ah (Af rfl AcR rfl Dd) rfl<|Ah (Ag 1 rfl AaA rfl k rfl) rfl<|Aq h fun eq cv h=>A8 rfl rfl k (J5 _ _ (Al hH k) cv) fun er d3 s dl=>A4 1 rfl<|By rfl h (fun cw h=>?_) (fun cw h=>?_)
 ·refine Ai<|Ah (A5 1 rfl AcR rfl Bm s rfl) rfl<|Aq h fun db cx h=>Bf rfl rfl s (Me (a0:=a0) _ _ (Al hH s) (bl.mono (Ae hH)) (bm.mono (Ae hH)) (ao.mono (Ae hH)) cx) ?_;rintro _ es ⟨dm,dn,dp,rfl,bs,bt,bu⟩ a9 cy dq;have u:=bs.mono (Ds hH s a9);have v:=bt.mono (Ds hH s a9);have x:=bu.C8 hH s a9;refine Br (r:=.Bg) (l:=[db]) rfl (fun _=>KE _ _ _ _ _ _ _ _) rfl (B2 1) hH cy (.c7 (Go.E.Rp.GA ⟨_,_,rfl,rfl,⟨_,_,rfl,⟨_,rfl,u⟩,⟨_,_,rfl,rfl,⟨_,_,rfl,⟨_,rfl,v⟩,⟨_,_,rfl,rfl,⟨_,_,rfl,rfl,⟨_,rfl,x⟩⟩⟩⟩⟩⟩⟩) .nil) ?_;intro et eu d4 cz ax ap;have u:=u.mono (Aa hH ax);have v:=v.mono (Aa hH ax);have x:=x.mono (Aa hH ax);refine Ah (AN rfl (fun _=>Lc _ _ ap.one _)) rfl<|Ad 0 rfl Bm cz rfl (Bb rfl (Bb rfl (Bb rfl (Bb rfl (Bb rfl (Bb rfl (Bb ap.one I8))))))) ?_;intro ev bv al;have u:=u.mono (Aa hH al);have v:=v.mono (Aa hH al);have x:=x.mono (Aa hH al);have ap:=ap.mono (Aa hH al);refine Ac<|Ax<|Az<|Ay ?_
  cases h
  refine CM rfl (.cell rfl AcR rfl Bm (AG (i:=0) bv rfl)) ⟨bv.ext,_,_,_,rfl,(AA.nil _ _),(AA.nil _ _),(ap.mono (Dg hH))⟩
 refine Au<|AJ<|Ar<|Ai<|Ah (Af rfl AcR rfl Dd) rfl<|Ah (Ag 1 rfl AaA rfl s rfl) rfl<|Ah (AN rfl (fun _=>Zy _ _)) rfl<|A3 Bm rfl rfl s fun ew ar c0 dr _=>Ad 0 rfl Bm c0 rfl (AT rfl) fun ex ba ds=>Ac<|Bw (σ:=Int) (fun ah=>[(1,.bool a1),(2,(Aas b1)),(4,(Aas b2)),(5,(Aas ar))]) (fun ah wr=>AU w [.box ar [No ah,Aaq,(Aat []),Aaq,No 0,No 0,Aaq] 26,.box b2 Aa1 26,.box b1 [No a0.f.1,au,Aat a0.f.2.2.1,av,No a0.f.2.2.2.2.1,No a0.f.2.2.2.2.2.1,an] 26] wr/\(Eb a0 a1 self) ah=some r) ?_ ?_
 ·refine AD 1 rfl<|By rfl h (fun c1 h=>?_) (fun c1 h=>?_)
  ·refine Av<|Ah (Af rfl AcR rfl Dd) rfl<|Ah (Ag 2 rfl AaA rfl ba rfl) rfl<|AB h fun c2 h=>Ah (AK rfl c2) rfl<|Ah (Af rfl AcR rfl Dd) rfl<|B6 0 rfl rfl rfl Dd ba rfl rfl fun ey c3 dt=>AQ<|A6 (17 - a0.f.1) (Sub.of rfl) ⟨c3,h⟩
  refine Au<|A6 a0.f.1 (Sub.of rfl) ⟨ba,h⟩
 rintro ah d5 ⟨bw,h⟩;refine Bw (σ:=(List Go.L.Qv)×Value×(List Value)) (fun⟨a5,ay,am⟩=>[(4,(Aas b2)),(5,(Aas ar))]) (fun⟨a5,ay,am⟩ wr=>FL w [.row ay 26 7 (a5).length am,.box ar [No ah,Aaq,(Aat []),Aaq,No 0,No 0,ay] 26,.box b2 Aa1 26,.box b1 [No a0.f.1,au,Aat a0.f.2.2.1,av,No a0.f.2.2.2.2.1,No a0.f.2.2.2.2.2.1,an] 26] wr fun Oz=>AF .Bg (gz H w wr Oz) a5 am/\(FF ah) a5=some r) ?_ ?_
 ·refine Ai<|Ah (Af rfl AcR rfl Jo) rfl<|Ah (Ag 2 rfl Adj rfl bw rfl) rfl<|Ah (Bj rfl Adj ao) rfl<|A4 1 rfl<|A2 ?_;obtain⟨b9,dc,ca⟩:=Ez .Bg H 26 bw;obtain⟨bb,h⟩:=AY h;refine B8 (σ:=(List Go.L.Qv)×Int×Value×(List Value)×Nat) (fun⟨o,c,y,j,n⟩=>[(1,.bool a1),(4,(Aas b2)),(5,(Aas ar)),(47,an),(48,No (a0.f.2.2.2.2.2.2.length:Int)),(49,No c)]) (fun⟨o,c,y,j,n⟩ wr=>FL w [.row y 26 7 (o).length j,.box ar [No ah,Aaq,(Aat []),Aaq,No 0,No 0,y] 26,.box b2 Aa1 26,.box b1 [No a0.f.1,au,Aat a0.f.2.2.1,av,No a0.f.2.2.2.2.1,No a0.f.2.2.2.2.2.1,an] 26] wr fun Oz=>AF .Bg (gz H w wr Oz) o j/\GR (Fj a0 a1 ah self) n (o,c)=some r) (fun⟨o,c,y,j,n⟩=>n) (([]:List Go.L.Qv),0,Aaq,[],bb) (Sub.of rfl) ⟨b9,ca,h⟩ ?_;rintro⟨o,c,y,j,nn121⟩ du ⟨az,a,h⟩
  obtain⟨bb,d6,rfl,h,be⟩:=AX h;refine AD 1 rfl<|A9<|AO rfl h (fun cb h=>?_) (fun cb h=>?_)
  ·refine Au<|Ar<|A9<|A2<|Ai<|AB h fun bf h=>Be rfl rfl Adj Bm ao c.toNat (Hc bf) (Ba bf) rfl ?_;rintro d7 _ e126t0 cc;obtain⟨_,_,rfl,rfl,⟨_,_,rfl,⟨e126v1,rfl,e126h1⟩,⟨_,_,rfl,rfl,⟨_,_,rfl,⟨e126v3,rfl,e126h3⟩,⟨_,_,rfl,rfl,⟨_,_,rfl,rfl,⟨e126v6,rfl,e126h6⟩⟩⟩⟩⟩⟩⟩:=Go.E.Rp.Gm e126t0;refine Ah (C7 rfl AcR rfl Bm cc (hH.trans az.arg)) rfl<|A3 Bm rfl rfl az ?_;intro d8 d9 cd bx _;have a:=a.mono (Aa hH bx);refine Ad 0 rfl Bm cd rfl (Bb rfl (Bb e126h1.one (Bb rfl (Bb e126h3.one (Bb rfl (Bb rfl (Bb e126h6.one I8))))))) ?_;intro ea z bz;have a:=a.mono (Aa hH bz);refine Ac<|Ai<|Ah (A5 0 rfl AcR rfl Bm z rfl) rfl<|As 1 rfl<|Aq h fun bc ce h=>Bf rfl rfl z (hself _ _ (Al hH z) (e126h1.mono (Ae hH)) (e126h3.mono (Ae hH)) (e126h6.mono (Ae hH)) ce) ?_;rintro _ eb ⟨dd,de,df,rfl,bi,bj,bk⟩ a2 cf b0;have d:=bi.mono (Ds hH z a2);have e:=bj.mono (Ds hH z a2);have g:=bk.mono (Ds hH z a2);have a:=a.mono (Aa hH b0)
   refine A3 Bm rfl rfl cf ?_;intro ec ed cg ae _;have a:=a.mono (Aa hH ae);have d:=d.mono (Aa hH ae);have e:=e.mono (Aa hH ae);have g:=g.mono (Aa hH ae);refine Ad 0 rfl Bm cg rfl (Bb rfl (Bb d.one (Bb rfl (Bb e.one (Bb rfl (Bb rfl (Bb g.one I8))))))) ?_;intro ee aa af;have a:=a.mono (Aa hH af);have d:=d.mono (Aa hH af);have e:=e.mono (Aa hH af);have g:=g.mono (Aa hH af);refine Ac ?_;have b:=aa.rG H;refine Ai<|Ah (Af rfl AcR rfl Dd) rfl<|Ah (Ag 0 rfl AaA rfl aa rfl) rfl<|Ah (Af rfl AcR rfl Dd) rfl<|Ah (Ag 3 rfl AaA rfl aa rfl) rfl<|A4 1 rfl<|AO rfl h (fun ch h=>?_) (fun ch h=>?_)
   ·cases h
   refine Av<|Ah (Af rfl AcR rfl Jo) rfl<|Ah (Ag 3 rfl Adj rfl aa rfl) rfl<|Ah (A5 0 rfl AcR rfl Bm aa rfl) rfl<|Br (r:=.Bg) (l:=[bc]) rfl (fun _=>KE _ _ _ _ _ _ _ _) rfl (B2 1) hH aa (.c7 (Go.E.Rp.GA ⟨_,_,rfl,rfl,⟨_,_,rfl,⟨_,rfl,(d.mono b)⟩,⟨_,_,rfl,rfl,⟨_,_,rfl,⟨_,rfl,(e.mono b)⟩,⟨_,_,rfl,rfl,⟨_,_,rfl,rfl,⟨_,rfl,(g.mono b)⟩⟩⟩⟩⟩⟩⟩) .nil) ?_;intro ef eg dv ci b3 ag;have b:=b.trans (Aa hH b3);refine AB h fun cj h=>Bi (r:=.Bg) (l:=o) (m:=[bc]) 2 rfl rfl Adj Bm rfl (by decide) rfl hH ci rfl (a.mono b) ag cj ?_;intro c4 eh ck bg a6 p;have ag:=ag.mono (Aa hH a6);have b:=b.trans (Aa hH a6);refine Ah (Af rfl AcR rfl Jo) rfl<|B6 3 rfl rfl (row_one (bg.at (i:=2) rfl)) Jo bg rfl rfl ?_;intro ei cl aq;have ag:=ag.mono (Aa hH aq);have p:=p.mono (Aa hH aq);have b:=b.trans (Aa hH aq);refine AQ<|AJ<|Ar<|Av<|AB h fun cm h=>Ah (AK rfl cm) rfl<|As 1 rfl<|AQ ?_;have cn:=cl.AV (i:=0) rfl
   have p:=p.mono (Aa hH (An (i:=0) rfl));have b:=b.trans (Aa hH (An (i:=0) rfl));have co:=cn.AV (i:=0) rfl;have p:=p.mono (Aa hH (An (i:=0) rfl));have b:=b.trans (Aa hH (An (i:=0) rfl));have h:=CV.again h be;refine AW ((o++[bc]),(c+1),c4,ck,bb) (Sub.of rfl) ⟨co,p,h⟩ (Nat.lt_succ_self _)
  refine B5<|AE<|A7 ?_;have h:=CV.out h be;refine Bk<|A6 (o,y,j) (Sub.of rfl) ⟨az,a,h⟩
 rintro⟨a5,ay,am⟩ ej ⟨bd,a3,h⟩;refine Ai<|Ah (A5 1 rfl AcR rfl Bm bd rfl) rfl<|Ad 2 rfl Bm bd rfl (Bb rfl (Bb rfl (Bb rfl (Bb rfl (Bb rfl (Bb rfl (Bb (row_one (bd.at (i:=0) rfl)) I8))))))) ?_;intro ek a4 b4;have a3:=a3.mono (Aa hH b4);refine Ac<|Ax ?_
 cases h
 refine CM rfl (.cell rfl AcR rfl Bm (AG (i:=2) a4 rfl)) ⟨a4.ext,_,_,_,rfl,(AA.nil _ _),(AA.nil _ _),((a4.GS hH (i:=0) rfl a3).vec hH)⟩
theorem NH(n:Nat):GX (FP n):=by
 induction n with
 | zero=>unfold GX;intros;rename_i h;cases h
 | succ n ih=>exact Mo (FP n) ih
theorem OX(w:World)(H:PH)(hH:Le H (hp w)){a0:Go.L.Qv}{a1:Bool}{a b c:Value}(d:AA .st H a (a0.f.2.1))(e:AA .byte H b (a0.f.2.2.2.1))(g:AA .Bg H c (a0.f.2.2.2.2.2.2)){r:Go.L.Qv}(h:JD a0 a1=some r):Ok prog 58 [.agg #[No a0.f.1,a,Aat a0.f.2.2.1,b,No a0.f.2.2.2.2.1,No a0.f.2.2.2.2.2.1,c],.bool a1] w (fun v w'=>Ext w w'/\∃ i j k,v=.agg #[No r.f.1,i,Aat r.f.2.2.1,j,No r.f.2.2.2.2.1,No r.f.2.2.2.2.2.1,k]/\AA .st (un H (nw w w')) i (r.f.2.1)/\AA .byte (un H (nw w w')) j (r.f.2.2.2.1)/\AA .Bg (un H (nw w w')) k (r.f.2.2.2.2.2.2)):=NH 1000 w H hH d e g h
def G6(_self1:Go.L.Qv->Option Aaz)(self2:(List Go.L.Qv)->Aaz->(List Int)->Option Aaz)(a0:Go.L.Qv):Option Aaz:=
 if a0.f.1=1 then Bh (0<=(0:Int)/\(0:Int)<(a0.f.2.1.length:Int)) (some (a0.f.2.1.getD ((0:Int).toNat) default)) else(if a0.f.1=2 then none else(if a0.f.1=3 then none else(if a0.f.1=4 then none else(if a0.f.1=5 then none else(if a0.f.1=6 then none else(if a0.f.1=7 then none else(if a0.f.1=8 then Option.bind (self2 a0.f.2.2.2.2.2.2 ([38]:Aaz) ([9])) (fun b=>some b) else(if a0.f.1=9 then Option.bind (self2 a0.f.2.2.2.2.2.2 ([124]:Aaz) ([])) (fun c=>some c) else Option.bind (self2 a0.f.2.2.2.2.2.2 ([]:Aaz) ([8,9])) (fun a=>Bh (([33]:Aaz).length+a.length<=9223372036854775807) (some ((([33]:Aaz)++a))))))))))))
theorem Nn{self1:Go.L.Qv->Option Aaz}{self2:(List Go.L.Qv)->Aaz->(List Int)->Option Aaz}(_hself1:∀ (w:World) (H:PH) (hH:Le H (hp w)) (hU:EE H) {a0:Go.L.Qv} {a:Value} {c:Value} {d:Value} (g:AA .st H a (a0.f.2.1)) (_h0_1:AA .byte H c (a0.f.2.2.2.1)) (e:AA .Bg H d (a0.f.2.2.2.2.2.2)) {r:Aaz} (h:self1 a0=some r),Ok prog 33 [.agg #[No a0.f.1,a,Aat a0.f.2.2.1,c,No a0.f.2.2.2.2.1,No a0.f.2.2.2.2.2.1,d]] w (fun v w'=>Ext w w'/\v=(Aat r)))(hself2:∀ (w:World) (H:PH) (hH:Le H (hp w)) (hU:EE H) {a0:List Go.L.Qv} {a1:Aaz} {a2:List Int} {a:Value} {i:Value} (g:AA .Bg H a a0) (_h2_0:AA (.int .i64) H i a2) {r:Aaz} (h:self2 a0 a1 a2=some r),Ok prog 66 [a,Aat a1,i] w (fun v w'=>Ext w w'/\v=(Aat r)))(w:World)(H:PH)(hH:Le H (hp w))(hU:EE H){a0:Go.L.Qv}{a c d:Value}(g:AA .st H a (a0.f.2.1))(_h0_1:AA .byte H c (a0.f.2.2.2.1))(e:AA .Bg H d (a0.f.2.2.2.2.2.2)){r:Aaz}(h:G6 self1 self2 a0=some r):
  Ok prog 33 [.agg #[No a0.f.1,a,Aat a0.f.2.2.1,c,No a0.f.2.2.2.2.1,No a0.f.2.2.2.2.2.1,d]] w (fun v w'=>Ext w w'/\v=(Aat r)):=by
 refine Aw (n:=86) [(0,.agg #[No a0.f.1,a,Aat a0.f.2.2.1,c,No a0.f.2.2.2.2.1,No a0.f.2.2.2.2.2.1,d])] func33 rfl fun hL=>Ai<|Dq (t:=26) rfl rfl rfl hL fun w1 b1 b aq _=>A4 1 rfl<|A9<|Ai<|Ah (Af rfl AcR rfl Dd) rfl<|Ah (Ag 0 rfl AaA rfl b rfl) rfl<|Ac<|A2<|AD 2 rfl<|AO rfl h (fun ai h=>?_) (fun ai h=>?_)
 ·refine Ai<|Ah (Af rfl AcR rfl LC) rfl<|Ah (Ag 0 rfl Ab1 rfl b rfl) rfl<|AB h fun m h=>Be rfl rfl Ab1 Kq g ((0:Int).toNat) (Hc m) (Ba m) rfl ?_;rintro p4 _ rfl aj;refine Ah (Bu rfl AaQ rfl aj (hH.trans b.arg)) rfl<|A4 1 rfl<|Ax<|Az<|Ay ?_
  cases h
  refine Am rfl ⟨b.ext,rfl⟩
 refine AD 2 rfl<|AO rfl h (fun ak h=>?_) (fun ak h=>?_)
 ·cases h
 refine AD 2 rfl<|AO rfl h (fun o h=>?_) (fun o h=>?_)
 ·cases h
 refine AD 2 rfl<|AO rfl h (fun p h=>?_) (fun p h=>?_)
 ·cases h
 refine AD 2 rfl<|AO rfl h (fun q h=>?_) (fun q h=>?_)
 ·cases h
 refine AD 2 rfl<|AO rfl h (fun s h=>?_) (fun s h=>?_)
 ·cases h
 refine AD 2 rfl<|AO rfl h (fun u h=>?_) (fun u h=>?_)
 ·cases h
 refine AD 2 rfl<|AO rfl h (fun x h=>?_) (fun x h=>?_)
 ·refine Ai<|Ah (Af rfl AcR rfl Jo) rfl<|Ah (Ag 0 rfl Adj rfl b rfl) rfl<|Br (r:=(.int .i64)) (l:=[9]) rfl (fun _=>HJ _ _) rfl (B2 1) hH b (.c1 rfl .nil) fun ay az ar j al y=>Aq h fun a3 z h=>A8 rfl rfl j (hself2 _ _ (Al hH j) (hU.mono (Ae hH)) (e.mono (Ae hH)) y z) fun a4 au aa am=>A4 1 rfl<|Ax<|Az<|Ay ?_
  cases h
  refine Am rfl ⟨aa.ext,rfl⟩
 refine AD 2 rfl<|AO rfl h (fun ab h=>?_) (fun ab h=>?_)
 ·refine Ai<|Ah (Af rfl AcR rfl Jo) rfl<|Ah (Ag 0 rfl Adj rfl b rfl) rfl<|Aq h fun a5 ac h=>A8 rfl rfl b (hself2 _ _ (Al hH b) (hU.mono (Ae hH)) (e.mono (Ae hH)) (AA.nil _ _) ac) fun a6 av ad an=>A4 1 rfl<|Ax<|Az<|Ay ?_
  cases h
  refine Am rfl ⟨ad.ext,rfl⟩
 refine Au<|AJ<|Ar<|Ai<|Ah (Af rfl AcR rfl Jo) rfl<|Ah (Ag 0 rfl Adj rfl b rfl) rfl<|Br (r:=(.int .i64)) (l:=[8,9]) rfl (fun _=>Vy _ _ _) rfl (B2 2) hH b (.c1 rfl (.c1 rfl .nil)) fun a7 a8 aw k ao ae=>Aq h fun a9 af h=>A8 rfl rfl k (hself2 _ _ (Al hH k) (hU.mono (Ae hH)) (e.mono (Ae hH)) ae af) fun ba ax ag ap=>AB h fun ah h=>Ah (Vh rfl rfl ah) rfl<|A4 1 rfl<|Ax ?_
 cases h
 refine Am rfl ⟨ag.ext,rfl⟩
def EC(c:List Aaz)(a:Int)(b:Aaz):Option (((List Aaz)×Int) ⊕ (Aaz)):=
 Bh (Go.E.Ij 16 (c.length+([b]).length)) (Bh (C0 (a+1)) (some (Sum.inl ((c++[b]),(a+1)))))
def Gf(a1:Aaz)(b:List Aaz):Option Aaz:=
 Option.bind (TU b a1) (fun a=>some a)
def FG(a0:List Go.L.Qv)(a1:Aaz)(a2:List Int)(self1:Go.L.Qv->Option Aaz):(List Aaz)×Int->Option (((List Aaz)×Int) ⊕ (Aaz)):=fun⟨c,a⟩=>
 if a<(a0.length:Int) then Bh (0<=a/\a<(a0.length:Int)) (Option.bind (self1 (a0.getD a.toNat default)) (fun b=>Option.bind (Cm a2 ((a0.getD a.toNat default).f.1)) (fun d=>if d then Bh (([40]:Aaz).length+b.length<=9223372036854775807) (Bh ((([40]:Aaz)++b).length+([41]:Aaz).length<=9223372036854775807) ((EC c a) ((([40]:Aaz)++b)++([41]:Aaz)))) else(EC c a) b))) else Option.map Sum.inr ((Gf a1) c)
def HF(a0:List Go.L.Qv)(a1:Aaz)(a2:List Int)(self1:Go.L.Qv->Option Aaz)(s:(List Aaz)×Int):Option Aaz:=Go.L.run (FG a0 a1 a2 self1) s
def Gg(self1:Go.L.Qv->Option Aaz)(_self2:(List Go.L.Qv)->Aaz->(List Int)->Option Aaz)(a0:List Go.L.Qv)(a1:Aaz)(a2:List Int):Option Aaz:=
 (HF a0 a1 a2 self1) (([]:List Aaz),0)
theorem MM{self1:Go.L.Qv->Option Aaz}{self2:(List Go.L.Qv)->Aaz->(List Int)->Option Aaz}(hself1:∀ (w:World) (H:PH) (hH:Le H (hp w)) (hU:EE H) {a0:Go.L.Qv} {c:Value} {ae:Value} {af:Value} (p:AA .st H c (a0.f.2.1)) (_h0_1:AA .byte H ae (a0.f.2.2.2.1)) (_h0_2:AA .Bg H af (a0.f.2.2.2.2.2.2)) {r:Aaz} (h:self1 a0=some r),Ok prog 33 [.agg #[No a0.f.1,c,Aat a0.f.2.2.1,ae,No a0.f.2.2.2.2.1,No a0.f.2.2.2.2.2.1,af]] w (fun v w'=>Ext w w'/\v=(Aat r)))(_hself2:∀ (w:World) (H:PH) (hH:Le H (hp w)) (hU:EE H) {a0:List Go.L.Qv} {a1:Aaz} {a2:List Int} {c:Value} {j:Value} (p:AA .Bg H c a0) (ag:AA (.int .i64) H j a2) {r:Aaz} (h:self2 a0 a1 a2=some r),Ok prog 66 [c,Aat a1,j] w (fun v w'=>Ext w w'/\v=(Aat r)))(w:World)(H:PH)(hH:Le H (hp w))(hU:EE H){a0:List Go.L.Qv}{a1:Aaz}{a2:List Int}{c j:Value}(p:AA .Bg H c a0)(ag:AA (.int .i64) H j a2){r:Aaz}(h:Gg self1 self2 a0 a1 a2=some r):
  Ok prog 66 [c,Aat a1,j] w (fun v w'=>Ext w w'/\v=(Aat r)):=by
 refine Aw (n:=34) [(0,c),(1,(Aat a1)),(2,j)] func66 rfl fun hL=>AD 1 rfl<|Bs 1 rfl ?_;obtain⟨bc,bl,bd⟩:=Ez .st H 9 hL;refine Ac<|Bw (σ:=(List Aaz)×Value×(List Value)) (fun⟨y,q,o⟩=>[(1,(Aat a1)),(7,q)]) (fun⟨y,q,o⟩ wr=>FL w [.row q 9 1 (y).length o] wr fun Oz=>AF .st (gz H w wr Oz) y o/\(Gf a1) y=some r) ?_ ?_
 ·refine Bs 1 rfl<|Ah (Bj rfl Adj p) rfl<|A4 1 rfl<|A2 ?_;obtain⟨ah,h⟩:=AY h;refine B8 (σ:=(List Aaz)×Int×Value×(List Value)×Nat) (fun⟨g,a,k,e,n⟩=>[(1,(Aat a1)),(2,j),(7,k),(11,c),(12,No (a0.length:Int)),(13,No a)]) (fun⟨g,a,k,e,n⟩ wr=>FL w [.row k 9 1 (g).length e] wr fun Oz=>AF .st (gz H w wr Oz) g e/\GR (FG a0 a1 a2 self1) n (g,a)=some r) (fun⟨g,a,k,e,n⟩=>n) (([]:List Aaz),0,Aaq,[],ah) (Sub.of rfl) ⟨bc,bd,h⟩ ?_;rintro⟨g,a,k,e,nn79⟩ bm ⟨aa,b,h⟩;obtain⟨ah,be,rfl,h,ai⟩:=AX h;refine AD 1 rfl<|A9<|AO rfl h (fun a6 h=>?_) (fun a6 h=>?_)
  ·refine Au<|Ar<|A9<|A2<|Ai<|AB h fun aj h=>Be rfl rfl Adj Bm p a.toNat (Hc aj) (Ba aj) rfl ?_;rintro bx _ e83t0 a7;obtain⟨_,_,rfl,rfl,⟨_,_,rfl,⟨e83v1,rfl,e83h1⟩,⟨_,_,rfl,rfl,⟨_,_,rfl,⟨e83v3,rfl,e83h3⟩,⟨_,_,rfl,rfl,⟨_,_,rfl,rfl,⟨e83v6,rfl,e83h6⟩⟩⟩⟩⟩⟩⟩:=Go.E.Rp.Gm e83t0;refine Ah (C7 rfl AcR rfl Bm a7 (hH.trans aa.arg)) rfl<|A3 Bm rfl rfl aa fun bz bf a8 s _=>Ad 0 rfl Bm a8 rfl (Bb rfl (Bb e83h1.one (Bb rfl (Bb e83h3.one (Bb rfl (Bb rfl (Bb e83h6.one I8))))))) fun b0 ab t=>Ac<|Ai<|Ah (A5 0 rfl AcR rfl Bm ab rfl) rfl<|Aq h fun a5 a9 h=>A8 rfl rfl ab (hself1 (a0:=(a0.getD a.toNat default)) _ _ (Al hH ab) (hU.mono (Ae hH)) (e83h1.mono (Ae hH)) (e83h3.mono (Ae hH)) (e83h6.mono (Ae hH)) a9) fun b1 bn ac u=>A4 1 rfl ?_
   refine Bw (σ:=Aaz) (fun d=>[(1,(Aat a1)),(2,j),(7,k),(10,(Aat d)),(11,c),(12,No (a0.length:Int)),(13,No a)]) (fun d wr=>FL w [.box bf [No ((a0.getD a.toNat default).f.1),e83v1,.string ⟨((a0.getD a.toNat default).f.2.2.1).toArray⟩,e83v3,No ((a0.getD a.toNat default).f.2.2.2.2.1),No ((a0.getD a.toNat default).f.2.2.2.2.2.1),e83v6] 26,.row k 9 1 (g).length e] wr fun Oz=>AF .st (gz H w wr Oz) g e/\(EC g a) d=some be) ?_ ?_
   ·refine Bs 1 rfl<|Ah (Af rfl AcR rfl Dd) rfl<|Ah (Ag 0 rfl AaA rfl ac rfl) rfl<|Aq h fun bo am h=>A8 rfl rfl ac (Hx _ _ (Al hH ac) (ag.mono (Ae hH)) am) fun bp bi ad z=>Ac<|By rfl h (fun an h=>?_) (fun an h=>?_)
    ·refine Av<|As 1 rfl<|AB h fun ao h=>Ah (Vh rfl rfl ao) rfl<|AB h fun ap h=>Ah (Vh rfl rfl ap) rfl<|As 1 rfl<|AQ ?_;have b:=b.mono (Aa hH (s.trans (t.trans (u.trans z))));refine A6 ((([40]:Aaz)++a5)++([41]:Aaz)) (Sub.of rfl) ⟨ad,b,h⟩
    refine Au ?_;have b:=b.mono (Aa hH (s.trans (t.trans (u.trans z))));refine A6 a5 (Sub.of rfl) ⟨ad,b,h⟩
   have b:=b.mono (Aa hH (s.trans (t.trans u)));rintro d bq ⟨ba,b,h⟩;refine Av<|As 2 rfl<|Br (r:=.st) (l:=[d]) rfl (fun _=>NT _ rfl _) rfl (B2 1) hH ba (.c1 rfl .nil) fun br bs bj aq ak ar=>AB h fun au h=>?_;have b:=b.mono (Aa hH ak);refine Bi (r:=.st) (l:=g) (m:=[d]) 1 rfl rfl Ab1 Kq rfl (by decide) rfl hH aq rfl b ar au fun bb bt av aw bg x=>As 1 rfl<|AQ<|AJ<|Ar<|Av<|AB h fun ax h=>Ah (AK rfl ax) rfl<|As 1 rfl<|AQ ?_;have ay:=aw.AV (i:=0) rfl;have h:=CV.again h ai;have x:=x.mono (Aa hH (An (i:=0) rfl));refine AW ((g++[d]),(a+1),bb,av,ah) (Sub.of rfl) ⟨ay,x,h⟩ (Nat.lt_succ_self _)
  refine B5<|AE<|A7 ?_;have h:=CV.out h ai;refine Bk<|A6 (g,k,e) (Sub.of rfl) ⟨aa,b,h⟩
 rintro⟨y,q,o⟩ bu ⟨al,az,h⟩;refine Bs 2 rfl<|Aq h fun bv a3 h=>A8 rfl rfl al (VG _ _ (Le.refl _) (al.Zi hH (i:=0) rfl az) a3) fun bw bk a4 bh=>A4 1 rfl<|Ax ?_
 cases h
 refine Am rfl ⟨a4.ext,rfl⟩
def BU:Nat->(Go.L.Qv->Option Aaz)×((List Go.L.Qv)->Aaz->(List Int)->Option Aaz)
 | 0=>(fun _=>none,fun _ _ _=>none)
 | n+1=>(G6 ((BU n).1) ((BU n).2),Gg ((BU n).1) ((BU n).2))
def MN:Go.L.Qv->Option Aaz:=(BU 1000).1
theorem NI(n:Nat):(∀ (w:World) (H:PH) (hH:Le H (hp w)) (hU:EE H) {a0:Go.L.Qv} {a:Value} {b:Value} {c:Value} (e:AA .st H a (a0.f.2.1)) (g:AA .byte H b (a0.f.2.2.2.1)) (i:AA .Bg H c (a0.f.2.2.2.2.2.2)) {r:Aaz} (h:((BU n).1) a0=some r),Ok prog 33 [.agg #[No a0.f.1,a,Aat a0.f.2.2.1,b,No a0.f.2.2.2.2.1,No a0.f.2.2.2.2.2.1,c]] w (fun v w'=>Ext w w'/\v=(Aat r)))/\(∀ (w:World) (H:PH) (hH:Le H (hp w)) (hU:EE H) {a0:List Go.L.Qv} {a1:Aaz} {a2:List Int} {a:Value} {d:Value} (e:AA .Bg H a a0) (j:AA (.int .i64) H d a2) {r:Aaz} (h:((BU n).2) a0 a1 a2=some r),Ok prog 66 [a,Aat a1,d] w (fun v w'=>Ext w w'/\v=(Aat r))):=by
 induction n with
 | zero=>exact⟨(by intros;rename_i h;cases h),(by intros;rename_i h;cases h)⟩
 | succ n ih=>exact⟨Nn ih.1 ih.2,MM ih.1 ih.2⟩
theorem Ri(w:World)(H:PH)(hH:Le H (hp w))(hU:EE H){a0:Go.L.Qv}{a b c:Value}(d:AA .st H a (a0.f.2.1))(e:AA .byte H b (a0.f.2.2.2.1))(g:AA .Bg H c (a0.f.2.2.2.2.2.2)){r:Aaz}(h:MN a0=some r):Ok prog 33 [.agg #[No a0.f.1,a,Aat a0.f.2.2.1,b,No a0.f.2.2.2.2.1,No a0.f.2.2.2.2.2.1,c]] w (fun v w'=>Ext w w'/\v=(Aat r)):=(NI 1000).1 w H hH hU d e g h
def GK(a0:Go.L.Qv):Option (Aaz×(Int×Int)):=
 Option.bind (Ko a0 (0:Int) (1:Int)) (fun b=>if b.2.1=0/\b.2.2=0 then Option.bind (MN a0) (fun a=>if 200<(a.length:Int) then none else some (a,(0,0))) else none)
theorem I0(w:World)(H:PH)(hH:Le H (hp w))(hU:EE H){a0:Go.L.Qv}{a b c:Value}(e:AA .st H a (a0.f.2.1))(g:AA .byte H b (a0.f.2.2.2.1))(j:AA .Bg H c (a0.f.2.2.2.2.2.2)){r:Aaz×(Int×Int)}(h:GK a0=some r):
  Ok prog 11 [.agg #[No a0.f.1,a,Aat a0.f.2.2.1,b,No a0.f.2.2.2.2.1,No a0.f.2.2.2.2.2.1,c]] w (fun v w'=>Ext w w'/\v=.tuple #[Aat r.1,.agg #[No r.2.1,No r.2.2]]):=by
 refine Aw (n:=24) [(0,.agg #[No a0.f.1,a,Aat a0.f.2.2.1,b,No a0.f.2.2.2.2.1,No a0.f.2.2.2.2.2.1,c])] func11 rfl fun hL=>Ai<|Dq (t:=26) rfl rfl rfl hL fun w1 b1 q ab _=>As 1 rfl<|A3 AI rfl rfl q fun w2 b2 k ac _=>Ac<|A9<|Ai<|Ah (A5 1 rfl AcR rfl Bm k rfl) rfl<|Aq h fun x3 s h=>A8 rfl rfl k (PD (a0:=a0) _ _ (Al hH k) (hU.mono (Ae hH)) (e.mono (Ae hH)) (g.mono (Ae hH)) (j.mono (Ae hH)) s) fun w4 ah u ad=>As 3 rfl<|A3 AI rfl rfl u fun w5 b5 x ae _=>As 1 rfl<|Ad 0 rfl AI x rfl (AT rfl) fun w6 d af=>Ac<|Ai<|Ah (A5 0 rfl AcP rfl AI d rfl) rfl<|Ah (AN rfl (fun _=>BL _)) rfl<|Ah (JJ rfl rfl ID (Ld _ _ _ _)) rfl<|Ac<|Cf rfl h (fun y h=>?_) (fun y h=>?_)
 ·cases h
 refine Au<|Ar<|Ai<|Ah (A5 2 rfl AcR rfl Bm d rfl) rfl<|Aq h fun ai m h=>A8 rfl rfl d (Ri (a0:=a0) _ _ (Al hH d) (hU.mono (Ae hH)) (e.mono (Ae hH)) (g.mono (Ae hH)) (j.mono (Ae hH)) m) fun aj ag o z=>A4 1 rfl<|A9<|Bs 1 rfl<|Ah (Ib rfl AaQ) rfl<|A4 1 rfl<|AO rfl h (fun p h=>?_) (fun p h=>?_)
 ·cases h
 refine Au<|Ar<|Bs 1 rfl<|Ah (AN rfl (fun _=>BL _)) rfl<|As 1 rfl<|Ad 1 rfl AI o rfl (AT rfl) fun ak l aa=>Ac<|Ax ?_
 cases h
 refine B0 rfl (.tmp rfl) (.cell rfl AcP rfl AI (AG (i:=1) l rfl)) ⟨l.ext,rfl⟩
def FQ(a0:Go.L.Qv):Option ((Int×Int)):=
 Option.bind (GK a0) (fun a=>some ((a.2.1,a.2.2)))
theorem I7(w:World)(H:PH)(hH:Le H (hp w))(hU:EE H){a0:Go.L.Qv}{a b c:Value}(j:AA .st H a (a0.f.2.1))(k:AA .byte H b (a0.f.2.2.2.1))(l:AA .Bg H c (a0.f.2.2.2.2.2.2)){r:(Int×Int)}(h:FQ a0=some r):
  Ok prog 14 [.agg #[No a0.f.1,a,Aat a0.f.2.2.1,b,No a0.f.2.2.2.2.1,No a0.f.2.2.2.2.2.1,c]] w (fun v w'=>Ext w w'/\v=.agg #[No r.1,No r.2]):=by
 refine Aw (n:=11) [(0,.agg #[No a0.f.1,a,Aat a0.f.2.2.1,b,No a0.f.2.2.2.2.1,No a0.f.2.2.2.2.2.1,c])] func14 rfl fun hL=>Ai<|Dq (t:=26) rfl rfl rfl hL fun w1 b1 m s _=>A3 AI rfl rfl m fun w2 b2 d u _=>Ac<|Ai<|Ah (A5 1 rfl AcR rfl Bm d rfl) rfl<|Aq h fun x3 o h=>A8 rfl rfl d (I0 (a0:=a0) _ _ (Al hH d) (hU.mono (Ae hH)) (j.mono (Ae hH)) (k.mono (Ae hH)) (l.mono (Ae hH)) o) fun w4 ab p x=>As 3 rfl<|A3 AI rfl rfl p fun w5 b5 q y _=>As 1 rfl<|Ad 0 rfl AI q rfl (AT rfl) fun w6 e z=>Ac<|Ai<|Ah (A5 0 rfl AcP rfl AI e rfl) rfl<|Ad 1 rfl AI e rfl (AT rfl) fun w7 g aa=>Ac<|Ax ?_
 cases h
 refine CM rfl (.cell rfl AcP rfl AI (AG (i:=1) g rfl)) ⟨g.ext,rfl⟩
def JE(a0:Go.L.Qv):Option (Go.L.Qv×(Int×Int)):=
 Option.bind (FQ a0) (fun c=>if c.1=0/\c.2=0 then Option.bind (JD a0 false) (fun a=>Option.bind (FQ a) (fun b=>if b.1=0/\b.2=0 then some (a,(0,0)) else none)) else none)
theorem OY(w:World)(H:PH)(hH:Le H (hp w))(hU:EE H){a0:Go.L.Qv}{l m o:Value}(u:AA .st H l (a0.f.2.1))(x:AA .byte H m (a0.f.2.2.2.1))(y:AA .Bg H o (a0.f.2.2.2.2.2.2)){r:Go.L.Qv×(Int×Int)}(h:JE a0=some r):
  Ok prog 27 [.agg #[No a0.f.1,l,Aat a0.f.2.2.1,m,No a0.f.2.2.2.2.1,No a0.f.2.2.2.2.2.1,o]] w (fun v w'=>Ext w w'/\∃ u0 u1 u2,v=.tuple #[.agg #[No r.1.f.1,u0,Aat r.1.f.2.2.1,u1,No r.1.f.2.2.2.2.1,No r.1.f.2.2.2.2.2.1,u2],.agg #[No r.2.1,No r.2.2]]/\AA .st (un H (nw w w')) u0 (r.1.f.2.1)/\AA .byte (un H (nw w w')) u1 (r.1.f.2.2.2.1)/\AA .Bg (un H (nw w w')) u2 (r.1.f.2.2.2.2.2.2)):=by
 refine Aw (n:=25) [(0,.agg #[No a0.f.1,l,Aat a0.f.2.2.1,m,No a0.f.2.2.2.2.1,No a0.f.2.2.2.2.2.1,o])] func27 rfl fun hL=>Ai<|Dq (t:=26) rfl rfl rfl hL fun w1 b1 av a7 _=>A3 Bm rfl rfl av fun w2 b2 aw a8 _=>A3 AI rfl rfl aw fun w3 b3 z a9 _=>Ac<|A9<|Ai<|Ah (A5 2 rfl AcR rfl Bm z rfl) rfl<|Aq h fun x4 ax h=>A8 rfl rfl z (I7 (a0:=a0) _ _ (Al hH z) (hU.mono (Ae hH)) (u.mono (Ae hH)) (x.mono (Ae hH)) (y.mono (Ae hH)) ax) fun w5 be ay ba=>A3 AI rfl rfl ay fun w6 b6 az bb _=>Ad 0 rfl AI az rfl (AT rfl) fun w7 e bc=>Ac<|Ai<|Ah (A5 0 rfl AcP rfl AI e rfl) rfl<|Ah (AN rfl (fun _=>BL _)) rfl<|Ah (JJ rfl rfl ID (Ld _ _ _ _)) rfl<|Ac<|Cf rfl h (fun a1 h=>?_) (fun a1 h=>?_)
 ·cases h
 refine Au<|Ar<|Ai<|Ah (A5 3 rfl AcR rfl Bm e rfl) rfl<|Aq h fun a2 ai h=>Bf rfl rfl e (OX (a0:=a0) _ _ (Al hH e) (u.mono (Ae hH)) (x.mono (Ae hH)) (y.mono (Ae hH)) ai) ?_;rintro _ bf ⟨a3,a4,a5,rfl,aa,ab,ac⟩ p aj a6;have b:=aa.mono (Ds hH e p);have c:=ab.mono (Ds hH e p);have d:=ac.mono (Ds hH e p);refine A3 Bm rfl rfl aj fun bg bh ak g _=>Ad 0 rfl Bm ak rfl (Bb rfl (Bb b.one (Bb rfl (Bb c.one (Bb rfl (Bb rfl (Bb d.one I8))))))) fun bi j k=>Ac<|A9 ?_;have a:=j.rG H;refine Ai<|Ah (A5 0 rfl AcR rfl Bm j rfl) rfl<|Aq h fun bj al h=>?_;have b:=b.mono (Aa hH (g.trans k));have c:=c.mono (Aa hH (g.trans k));have d:=d.mono (Aa hH (g.trans k));refine A8 rfl rfl j (I7 (a0:=a2) _ _ (Al hH j) (hU.mono (Ae hH)) (b.mono a) (c.mono a) (d.mono a) al) fun bk bd am ad=>A3 AI rfl rfl am fun bl bm an ae _=>Ad 0 rfl AI an rfl (AT rfl) fun bn q af=>Ac<|Ai ?_
 refine Ah (A5 0 rfl AcP rfl AI q rfl) rfl<|Ah (AN rfl (fun _=>BL _)) rfl<|Ah (JJ rfl rfl ID (Ld _ _ _ _)) rfl<|Ac<|Cf rfl h (fun ao h=>?_) (fun ao h=>?_)
 ·cases h
 refine Au<|Ar<|Ai<|Ah (A5 1 rfl AcR rfl Bm q rfl) rfl<|Ah (AN rfl (fun _=>BL _)) rfl ?_;have a:=a.trans (Aa hH (ad.trans (ae.trans af)));refine Ad 4 rfl Bm q rfl (Bb rfl (Bb (b.mono a).one (Bb rfl (Bb (c.mono a).one (Bb rfl (Bb rfl (Bb (d.mono a).one I8))))))) fun bo ap ag=>Ad 3 rfl AI ap rfl (AT rfl) fun bp s ah=>Ac<|Ax ?_
 cases h
 refine B0 rfl (.cell rfl AcR rfl Bm (AG (i:=4) s rfl)) (.cell rfl AcP rfl AI (AG (i:=3) s rfl)) ?_;have a:=a.trans (Aa hH (ag.trans ah));exact⟨s.ext,_,_,_,rfl,((b.mono a).mono (Dg hH)),((c.mono a).mono (Dg hH)),((d.mono a).mono (Dg hH))⟩
end Go.Proofs.YtekmbcbgknmhiaaGreatDoor
end
noncomputable section
namespace Go
abbrev Ad2:=Go.E.Rp.pair (Go.E.Rp.vec (Go.E.Rp.int .i64)) (Go.E.Rp.pair (Go.E.Rp.vec (Go.E.Rp.int .i64)) (Go.E.Rp.vec (Go.E.Rp.int .i64)))
end Go
namespace Go
abbrev Ady:=(Int×Adt)×Adv×(List Ads)
end Go
namespace Go.Proofs.YtekmbcbgknmhiaaGreatDoor
open Go Go.E Go.RowKit Go.L
set_option maxHeartbeats 1000000
set_option maxRecDepth 10000
open _root_.Go.Proofs.Tryz
def GY(a:Int)(b:List Ads)(c:List Go.L.Pv)(d:List Aaz):Option (((List Go.L.Pv)×(List Aaz)×(List Ads)×Int) ⊕ (Ady×(Int×Int))):=
 Bh (C0 (a+1)) (some (Sum.inl (c,d,b,(a+1))))
def ER(h:List Ads)(b c d:Int)(e:List (Aaz×Adw))(f:Int)(g:List Adu):Option (Ady×(Int×Int)):=
 if b=0/\c=0 then some (((d,e),(f,g),h),(0,0)) else Option.bind (BI (14:Int) (-1:Int)) (fun a=>some (((0,[]),(0,[]),[]),(a.1,a.2)))
def FR(d:List Go.L.Pv)(e:List Aaz)(c:List Ads):Option (Ady×(Int×Int)):=
 Option.bind (GC e) (fun a=>if a.2.1=0/\a.2.2=0 then Option.bind (HV d) (fun b=>(ER c) b.2.1 b.2.2 a.1.1 a.1.2 b.1.1 b.1.2) else(ER c) a.2.1 a.2.2 a.1.1 a.1.2 (0:Int) ([]))
def Cs(a0:List (Aaz×Go.L.Pv)):(List Go.L.Pv)×(List Aaz)×(List Ads)×Int->Option (((List Go.L.Pv)×(List Aaz)×(List Ads)×Int) ⊕ (Ady×(Int×Int))):=fun⟨c,d,e,a⟩=>
 if a<(a0.length:Int) then Bh (0<=a/\a<(a0.length:Int)) (Option.bind (Hf ((a0.getD a.toNat default).1)) (fun b=>if b.2.1=0/\b.2.2=0 then Option.bind (Dj ((a0.getD a.toNat default).2)) (fun f=>if f.1=0/\f.2=0 then Bh (Go.E.Ij 72 (e.length+([(b.1.1,b.1.2.1,b.1.2.2)]).length)) (Bh (Go.E.Ij 24 (d.length+([(a0.getD a.toNat default).1]).length)) (Bh (Go.E.Ij 88 (c.length+([((a0.getD a.toNat default).2)]).length)) ((GY a) (e++[(b.1.1,b.1.2.1,b.1.2.2)]) (c++[((a0.getD a.toNat default).2)]) (d++[(a0.getD a.toNat default).1])))) else Option.bind (BI f.1 a) (fun g=>Option.map Sum.inr (some (((0,[]),(0,[]),[]),(g.1,g.2))))) else Option.bind (BI b.2.1 a) (fun h=>Option.map Sum.inr (some (((0,[]),(0,[]),[]),(h.1,h.2)))))) else Option.map Sum.inr (FR c d e)
def GZ(a0:List (Aaz×Go.L.Pv))(s:(List Go.L.Pv)×(List Aaz)×(List Ads)×Int):Option (Ady×(Int×Int)):=Go.L.run (Cs a0) s
def GL(a0:List (Aaz×Go.L.Pv)):Option (Ady×(Int×Int)):=
 if 64<(a0.length:Int) then Option.bind (BI (2:Int) (-1:Int)) (fun a=>some (((0,[]),(0,[]),[]),(a.1,a.2))) else(GZ a0) (([]:List Go.L.Pv),([]:List Aaz),([]:List Ads),0)
theorem Mf(w:World)(H:PH)(hH:Le H (hp w))(hU:EE H){a0:List (Aaz×Go.L.Pv)}{e3:Value}(iv:AA (.pair (.vec .byte) .tree) H e3 a0){r:Ady×(Int×Int)}(h:GL a0=some r):
  Ok prog 20 [e3] w (fun v w'=>Ext w w'/\∃ u0 u1 u2,v=.tuple #[.agg #[No r.1.1.1,u0,No r.1.2.1.1,u1,u2],.agg #[No r.2.1,No r.2.2]]/\AA (.pair .st (.vec Ad4)) (un H (nw w w')) u0 (r.1.1.2)/\AA Ad3 (un H (nw w w')) u1 (r.1.2.1.2)/\Ck 98 Ad2 H w w' u2 (r.1.2.2)):=by
 refine Aw (n:=89) [(0,e3)] func20 rfl fun hL=>Ai<|A3 I3 rfl rfl hL fun w1 b1 oc p3 _=>A3 AI rfl rfl oc fun w2 b2 ji p4 _=>Ac<|A9<|Bs 1 rfl<|Ah (Bj rfl Adk iv) rfl<|A4 1 rfl<|AO rfl h (fun od h=>?_) (fun od h=>?_)
 ·refine Ai<|Ah (AN rfl (fun _=>PN _)) rfl<|Aq h fun x5 oe h=>A8 rfl rfl ji (Cj _ _ (Al hH ji) oe) fun w6 tw og p5=>Ad 1 rfl I3 og rfl (AT rfl) fun w7 oh p6=>Ad 0 rfl AI oh rfl (AT rfl) fun w8 jj p7=>Ac<|Ax<|Ay ?_
  cases h
  refine B0 rfl (.cell rfl Adl rfl I3 (AG (i:=1) jj rfl)) (.cell rfl AcP rfl AI (AG (i:=0) jj rfl)) ⟨jj.ext,_,_,_,rfl,(AA.nil _ _),(AA.nil _ _),Ck.nil⟩
 refine Au<|Ar<|Ai<|A3 I3 rfl rfl ji fun tx ch mv os _=>Ac<|Bs 1 rfl ?_;obtain⟨mw,ot,iw⟩:=Ez (.vec .byte) H 23 mv;refine Ac<|Bs 1 rfl ?_;obtain⟨mx,kf,ix⟩:=Ez .tree H 64 mw;refine Ac<|Bw (σ:=(List Go.L.Pv)×(List Aaz)×(List Ads)×Value×(List Value)×Value×(List Value)×Value×(List Value)) (fun⟨e4,e5,a8,ep,ci,eq,cj,bg,a3⟩=>[(2,(Aas b1)),(3,(Aas b2)),(4,(Aas ch)),(5,eq),(6,ep)]) (fun⟨e4,e5,a8,ep,ci,eq,cj,bg,a3⟩ wr=>FL w [.row bg 98 3 (a8).length a3,.row ep 64 5 (e4).length ci,.row eq 23 1 (e5).length cj,.box ch [No 0,Aaq,No 0,Aaq,bg] 52,.box b2 [No 0,No 0] 28,.box b1 [No 0,Aaq,No 0,Aaq,Aaq] 52] wr fun Oz=>AF Ad2 (gz H w wr Oz) a8 a3/\AF .tree (gz H w wr Oz) e4 ci/\AF (.vec .byte) (gz H w wr Oz) e5 cj/\FR e4 e5 a8=some r) ?_ ?_
 ·refine Bs 1 rfl<|Ah (Bj rfl Adk iv) rfl<|A4 1 rfl<|A2 ?_;obtain⟨kg,ij,kh⟩:=Ez Ad2 H 98 mx;obtain⟨iy,h⟩:=AY h;have iw:=iw.mono (Aa hH (kf.trans ij));have ix:=ix.mono (Aa hH ij)
  refine B8 (σ:=(List Go.L.Pv)×(List Aaz)×(List Ads)×Int×Value×(List Value)×Value×(List Value)×Value×(List Value)×Nat) (fun⟨x,y,aa,b,a4,av,a5,aw,ap,ax,n⟩=>[(2,(Aas b1)),(3,(Aas b2)),(4,(Aas ch)),(5,a5),(6,a4),(18,e3),(19,No (a0.length:Int)),(20,No b)]) (fun⟨x,y,aa,b,a4,av,a5,aw,ap,ax,n⟩ wr=>FL w [.row ap 98 3 (aa).length ax,.row a4 64 5 (x).length av,.row a5 23 1 (y).length aw,.box ch [No 0,Aaq,No 0,Aaq,ap] 52,.box b2 [No 0,No 0] 28,.box b1 [No 0,Aaq,No 0,Aaq,Aaq] 52] wr fun Oz=>AF Ad2 (gz H w wr Oz) aa ax/\AF .tree (gz H w wr Oz) x av/\AF (.vec .byte) (gz H w wr Oz) y aw/\GR (Cs a0) n (x,y,aa,b)=some r) (fun⟨x,y,aa,b,a4,av,a5,aw,ap,ax,n⟩=>n) (([]:List Go.L.Pv),([]:List Aaz),([]:List Ads),0,Aaq,[],Aaq,[],Aaq,[],iy) (Sub.of rfl) ⟨kg,kh,ix,iw,h⟩ ?_
  rintro⟨x,y,aa,b,a4,av,a5,aw,ap,ax,nn640⟩ ou ⟨er,ai,ae,af,h⟩;obtain⟨iy,my,rfl,h,es⟩:=AX h;have e:=er.rG H;refine AD 1 rfl<|A9<|AO rfl h (fun ki h=>?_) (fun ki h=>?_)
  ·refine Au<|Ar<|A9<|A2<|Bs 1 rfl<|AB h fun i4 h=>Be rfl rfl Adk U0 iv b.toNat (Hc i4) (Ba i4) rfl ?_;rintro p8 _ ⟨_,_,rfl,⟨e646v0,rfl,e646h0⟩,e646t1⟩ kj;obtain⟨_,_,rfl,rfl,⟨_,_,rfl,rfl,⟨_,_,rfl,⟨e646v3,rfl,e646h3⟩,⟨_,_,rfl,⟨e646v4,rfl,e646h4⟩,⟨e646v5,rfl,e646h5⟩⟩⟩⟩⟩:=Go.E.Rp.IA e646t1;refine Ah (C7 rfl Adm rfl U0 kj (hH.trans er.arg)) rfl<|A3 U0 rfl rfl er fun p9 iz kk aj _=>As 1 rfl<|Ad 0 rfl U0 kk rfl (Bb e646h0.one (Bb rfl (Bb rfl (Bb e646h3.one (Bb e646h4.one (Bb e646h5.one I8)))))) fun qa bh ak=>Ac<|Ai<|Ah (Af rfl Adm rfl Hv) rfl<|Ah (Ag 0 rfl Abj rfl bh rfl) rfl<|Aq h fun d kl h=>Bf rfl rfl bh (ON _ _ (Al hH bh) (e646h0.mono (Ae hH)) kl) ?_;rintro _ qb ⟨ck,cl,cm,rfl,jb,jc,jd⟩ gy km al;have g:=jb.mono (Ds hH bh gy);have k:=jc.mono (Ds hH bh gy);have o:=jd.mono (Ds hH bh gy);refine As 3 rfl<|A3 Fq rfl rfl km fun qc i0 kn p _=>A3 AI rfl rfl kn ?_;intro qd jk ko q _
   refine Ad 1 rfl Fq ko rfl (Bb g.one (Bb k.one (Bb o.one I8))) fun qe kp t=>Ad 0 rfl AI kp rfl (AT rfl) fun qf a1 u=>Ac<|A9 ?_;have c:=a1.rG H;refine Ai<|Ah (A5 0 rfl AcP rfl AI a1 rfl) rfl<|Ah (AN rfl (fun _=>BL _)) rfl<|Ah (JJ rfl rfl ID (Ld _ _ _ _)) rfl<|Ac<|Cf rfl h (fun kq h=>?_) (fun kq h=>?_)
   ·refine Ai<|Ah (AN rfl (fun _=>PN _)) rfl<|Ah (Af rfl AcP rfl Dd) rfl<|Ah (Ag 0 rfl AaA rfl a1 rfl) rfl<|As 1 rfl<|Aq h fun qg kr h=>A8 rfl rfl a1 (Cj _ _ (Al hH a1) kr) fun qh ov ks oi=>Ad 8 rfl I3 ks rfl (AT rfl) fun qi kt oj=>Ad 7 rfl AI kt rfl (AT rfl) fun qj g0 ok=>Ac<|Ax<|Ay<|Az<|Ay<|Cv ?_;have h:=CV.out h es;refine Az<|BH ?_
    cases h
    refine B0 rfl (.cell rfl Adl rfl I3 (AG (i:=8) g0 rfl)) (.cell rfl AcP rfl AI (AG (i:=7) g0 rfl)) ⟨g0.ext,_,_,_,rfl,(AA.nil _ _),(AA.nil _ _),Ck.nil⟩
   refine Au<|Ar<|A9<|Ai<|Ah (Af rfl Adm rfl Fz) rfl<|Ah (Qn 2 5 rfl AcQ rfl Fz a1 rfl rfl) rfl<|Aq h fun g1 ku h=>A8 rfl rfl a1 (KH (a0:=((a0.getD b.toNat default).2)) _ _ (Al hH a1) (e646h3.mono (Ae hH)) (e646h4.mono (Ae hH)) (e646h5.mono (Ae hH)) ku) fun qk ow kv a9=>A3 AI rfl rfl kv fun ql jl kw ba _=>Ad 0 rfl AI kw rfl (AT rfl) fun qm bi bb=>Ac<|Ai<|Ah (A5 0 rfl AcP rfl AI bi rfl) rfl<|Ah (AN rfl (fun _=>BL _)) rfl<|Ah (JJ rfl rfl ID (Ld _ _ _ _)) rfl<|Ac<|Cf rfl h (fun kx h=>?_) (fun kx h=>?_)
   ·refine Ai<|Ah (AN rfl (fun _=>PN _)) rfl<|Ah (Af rfl AcP rfl Dd) rfl<|Ah (Ag 0 rfl AaA rfl bi rfl) rfl<|As 1 rfl<|Aq h fun qn ky h=>A8 rfl rfl bi (Cj _ _ (Al hH bi) ky) fun qo ox kz ol=>Ad 9 rfl I3 kz rfl (AT rfl) fun qp k0 om=>Ad 8 rfl AI k0 rfl (AT rfl) fun qq g2 oo=>Ac<|Ax<|Ay<|Az<|Ay<|Cv ?_;have h:=CV.out h es;refine Az<|BH ?_
    cases h
    refine B0 rfl (.cell rfl Adl rfl I3 (AG (i:=9) g2 rfl)) (.cell rfl AcP rfl AI (AG (i:=8) g2 rfl)) ⟨g2.ext,_,_,_,rfl,(AA.nil _ _),(AA.nil _ _),Ck.nil⟩
   refine Au<|Ar ?_
   refine Abc (σ:=(List Ads)×(List Go.L.Pv)×(List Aaz)×Value×(List Value)×Value×(List Value)×Value×(List Value)) (fun⟨ek,el,em,cn,bc,co,bd,cp,be⟩=>[(2,(Aas b1)),(3,(Aas b2)),(4,(Aas ch)),(5,cp),(6,co),(18,e3),(19,No (a0.length:Int)),(20,No b)]) (fun⟨ek,el,em,cn,bc,co,bd,cp,be⟩ wr=>FL w [.box jl [No g1.1,No g1.2] 28,.box jk [No d.2.1,No d.2.2] 28,.box i0 [ck,cl,cm] 98,.box iz [e646v0,No (((a0.getD b.toNat default).2).f.1),No (((a0.getD b.toNat default).2).f.2.1),e646v3,e646v4,e646v5] 66,.row cn 98 3 (ek).length bc,.row co 64 5 (el).length bd,.row cp 23 1 (em).length be,.box ch [No 0,Aaq,No 0,Aaq,cn] 52,.box b2 [No 0,No 0] 28,.box b1 [No 0,Aaq,No 0,Aaq,Aaq] 52] wr fun Oz=>AA (.int .i64) (gz H w wr Oz) ck (d.1.1)/\AA (.int .i64) (gz H w wr Oz) cl (d.1.2.1)/\AA (.int .i64) (gz H w wr Oz) cm (d.1.2.2)/\AF Ad2 (gz H w wr Oz) ek bc/\AF .tree (gz H w wr Oz) el bd/\AF (.vec .byte) (gz H w wr Oz) em be/\(GY b) ek el em=some my) ?_ ?_
   ·refine Jw (M4 (Ik (Qm (NQ (Ik (M4 L6)))))) (fun z0 z=>Le (gz H w z0 [.box jl [No g1.1,No g1.2] 28,.box jk [No d.2.1,No d.2.2] 28,.box i0 [ck,cl,cm] 98,.box iz [e646v0,No (((a0.getD b.toNat default).2).f.1),No (((a0.getD b.toNat default).2).f.2.1),e646v3,e646v4,e646v5] 66,.row ap 98 3 (aa).length ax,.row a4 64 5 (x).length av,.row a5 23 1 (y).length aw,.box ch [No 0,Aaq,No 0,Aaq,ap] 52,.box b2 [No 0,No 0] 28,.box b1 [No 0,Aaq,No 0,Aaq,Aaq] 52]) (hp z)/\z.heap[i0]? = some (.cells [ck,cl,cm].toArray 98 (0,0))/\z.heap[iz]? = some (.cells [e646v0,No (((a0.getD b.toNat default).2).f.1),No (((a0.getD b.toNat default).2).f.2.1),e646v3,e646v4,e646v5].toArray 66 (0,0))/\z.heap[ch]? = some (.cells [No 0,Aaq,No 0,Aaq,ap].toArray 52 (0,0))) mixed rfl (fun ad qs i5=>?_);have a2:=bi.call i5;have bf:=AP bi i5;have a:=a2.rG H;refine LI ⟨a.trans (Al hH a2),a2.at (i:=2) rfl,a2.at (i:=3) rfl,a2.at (i:=7) rfl⟩ fun kI840=>?_
    refine A1 0 ad kI840 (by kernel_rfl) rfl (fun _ _=>Af rfl Adl rfl IJ) rfl<|A1 1 ad kI840 (by kernel_rfl) rfl (fun _ hI=>M6 rfl Adn rfl hI.2.2.2 rfl) rfl<|A1 2 ad kI840 (by kernel_rfl) rfl (fun _ hI=>JL rfl AcU rfl Fq hI.2.1) rfl<|A1 5 ad kI840 (by kernel_rfl) rfl (fun _ _=>Aj rfl) rfl<|A1 6 ad kI840 (by kernel_rfl) rfl (fun _ _=>Af rfl Adm rfl Hv) rfl<|A1 7 ad kI840 (by kernel_rfl) rfl (fun _ hI=>M6 rfl Abj rfl hI.2.2.1 rfl) rfl<|A1 10 ad kI840 (by kernel_rfl) rfl (fun _ _=>Aj rfl) rfl<|A1 11 ad kI840 (by kernel_rfl) rfl (fun _ _=>Af rfl Adm rfl Fz) rfl<|A1 12 ad kI840 (by kernel_rfl) rfl (fun _ hI=>XA 5 rfl AcQ rfl Fz hI.2.2.1 rfl) rfl<|NI3 (i:=3) (j:=8) (s:=13) (by kernel_rfl) rfl rfl rfl ?_ ?_ ?_
    ·have g:=g.mono (Aa hH (p.trans (q.trans (t.trans u))));have k:=k.mono (Aa hH (p.trans (q.trans (t.trans u))));have o:=o.mono (Aa hH (p.trans (q.trans (t.trans u))));have c:=c.trans (Aa hH (a9.trans (ba.trans (bb.trans bf))));refine Br (r:=Ad2) (l:=[(d.1.1,d.1.2.1,d.1.2.2)]) rfl (fun _=>NU _ _ _ _) rfl (B2 1) hH a2 (.c3 ⟨_,_,rfl,⟨_,rfl,((g.mono c).mono a)⟩,⟨_,_,rfl,⟨_,rfl,((k.mono c).mono a)⟩,⟨_,rfl,((o.mono c).mono a)⟩⟩⟩ .nil) ?_;intro qt qu oy a6 jm am;have a:=a.trans (Aa hH jm);refine AL ⟨a.trans (Al hH a6),a6.at (i:=2) rfl,a6.at (i:=3) rfl,a6.at (i:=7) rfl⟩ fun kI842=>NI3 (i:=4) (j:=8) (s:=13) (by kernel_rfl) rfl rfl rfl ?_ ?_ ?_
     ·refine AB h fun ah h=>?_;have e:=e.trans (Aa hH (aj.trans (ak.trans (al.trans (p.trans (q.trans (t.trans u)))))));refine Bi (r:=Ad2) (l:=aa) (m:=[(d.1.1,d.1.2.1,d.1.2.2)]) 4 rfl rfl Adn Fq rfl (by decide) rfl hH a6 rfl (((ai.mono e).mono c).mono a) am ah ?_;intro i1 qv g3 bj jn aq;have a:=a.trans (Aa hH jn);refine AL ⟨a.trans (Al hH bj),bj.at (i:=2) rfl,bj.at (i:=3) rfl,bj.at (i:=7) rfl⟩ fun kI845=>A1 15 ad kI845 (by kernel_rfl) rfl (fun _ _=>Af rfl Adl rfl IJ) rfl<|WH (i:=8) (j:=13) (by kernel_rfl) rfl rfl ?_ ?_
      ·refine Br (r:=(.vec .byte)) (l:=[(a0.getD b.toNat default).1]) rfl (fun _=>Kg _ e646h0.one _) rfl (B2 1) hH bj (.c1 ⟨_,rfl,(e646h0.mono (Ae hH))⟩ .nil) ?_;intro qw qx oz bk e6 et;have a:=a.trans (Aa hH e6);refine AL ⟨a.trans (Al hH bk),bk.at (i:=2) rfl,bk.at (i:=3) rfl,bk.at (i:=7) rfl⟩ fun kI847=>WH (i:=9) (j:=13) (by kernel_rfl) rfl rfl ?_ ?_
       ·refine AB h fun ab h=>Bi (r:=(.vec .byte)) (l:=y) (m:=[(a0.getD b.toNat default).1]) 6 rfl rfl Adc Hv rfl (by decide) rfl hH bk rfl (((af.mono e).mono c).mono a) et ab ?_;intro mz qy k1 cq ik g4;have a:=a.trans (Aa hH ik);refine AL ⟨a.trans (Al hH cq),cq.at (i:=2) rfl,cq.at (i:=3) rfl,cq.at (i:=7) rfl⟩ fun kI850=>Er (i:=13) (by kernel_rfl) rfl<|Br (r:=.tree) (l:=[((a0.getD b.toNat default).2)]) rfl (fun _=>Iu _ _ _ _ _ _) rfl (B2 1) hH cq (.c5 (Go.E.Rp.Dt ⟨_,_,rfl,rfl,⟨_,_,rfl,rfl,⟨_,_,rfl,⟨_,rfl,(e646h3.mono (Ae hH))⟩,⟨_,_,rfl,⟨_,rfl,(e646h4.mono (Ae hH))⟩,⟨_,rfl,(e646h5.mono (Ae hH))⟩⟩⟩⟩⟩) .nil) ?_;intro qz q0 o0 cr e7 k2;have a:=a.trans (Aa hH e7);refine AL ⟨a.trans (Al hH cr),cr.at (i:=2) rfl,cr.at (i:=3) rfl,cr.at (i:=7) rfl⟩ fun kI852=>Er (i:=14) (by kernel_rfl) rfl<|AB h fun ac h=>Bi (r:=.tree) (l:=x) (m:=[((a0.getD b.toNat default).2)]) 5 rfl rfl Ade Fz rfl (by decide) rfl hH cr rfl (((ae.mono e).mono c).mono a) k2 ac ?_;intro m0 q1 k3 bl e8 g5;have a:=a.trans (Aa hH e8)
        refine AL ⟨a.trans (Al hH bl),bl.at (i:=2) rfl,bl.at (i:=3) rfl,bl.at (i:=7) rfl⟩ fun kI855=>Er (i:=16) (by kernel_rfl) rfl<|B6 7 rfl rfl (row_one (bl.at (i:=4) rfl)) IJ bl rfl rfl fun q2 k4 cs=>C1 [0,1,2,3,4,5,6,7,8,9,10,11,12,13,14,15] (by kernel_rfl)<|Er (i:=17) (by kernel_rfl) rfl<|As 1 rfl<|C1 [0,1,2,3,4,5,6,7,8,9,10,11,12,13,14,15,16] (by kernel_rfl)<|Er (i:=18) (by kernel_rfl) rfl<|As 1 rfl<|F9 (by kernel_rfl)<|D6 (by kernel_rfl) ?_;have aq:=aq.mono (Aa hH (e6.trans (ik.trans (e7.trans (e8.trans cs)))));have g4:=g4.mono (Aa hH (e7.trans (e8.trans cs)));have g5:=g5.mono (Aa hH cs);have a:=a.trans (Aa hH cs);refine A6 ((aa++[(d.1.1,d.1.2.1,d.1.2.2)]),(x++[((a0.getD b.toNat default).2)]),(y++[(a0.getD b.toNat default).1]),i1,g3,m0,k3,mz,k1) (Sub.of rfl) ⟨k4,((g.mono c).mono a),((k.mono c).mono a),((o.mono c).mono a),aq,g5,g4,h⟩
       refine AB h fun ab h=>AB h fun ac h=>Br (r:=.tree) (l:=[((a0.getD b.toNat default).2)]) rfl (fun _=>Iu _ _ _ _ _ _) rfl (B2 1) hH bk (.c5 (Go.E.Rp.Dt ⟨_,_,rfl,rfl,⟨_,_,rfl,rfl,⟨_,_,rfl,⟨_,rfl,(e646h3.mono (Ae hH))⟩,⟨_,_,rfl,⟨_,rfl,(e646h4.mono (Ae hH))⟩,⟨_,rfl,(e646h5.mono (Ae hH))⟩⟩⟩⟩⟩) .nil) ?_;intro q3 q4 o1 ct e9 g6;have a:=a.trans (Aa hH e9);refine AL ⟨a.trans (Al hH ct),ct.at (i:=2) rfl,ct.at (i:=3) rfl,ct.at (i:=7) rfl⟩ fun kI858=>Er (i:=9) (by kernel_rfl) rfl ?_;have et:=et.mono (Aa hH e9);refine Bi (r:=(.vec .byte)) (l:=y) (m:=[(a0.getD b.toNat default).1]) 6 rfl rfl Adc Hv rfl (by decide) rfl hH ct rfl (((af.mono e).mono c).mono a) et ab ?_;intro m1 q5 k5 cu fa g7;have a:=a.trans (Aa hH fa);refine AL ⟨a.trans (Al hH cu),cu.at (i:=2) rfl,cu.at (i:=3) rfl,cu.at (i:=7) rfl⟩ fun kI860=>Er (i:=14) (by kernel_rfl) rfl ?_;have g6:=g6.mono (Aa hH fa);refine Bi (r:=.tree) (l:=x) (m:=[((a0.getD b.toNat default).2)]) 5 rfl rfl Ade Fz rfl (by decide) rfl hH cu rfl (((ae.mono e).mono c).mono a) g6 ac ?_
       intro m2 q6 k6 bm fb g8;have a:=a.trans (Aa hH fb);refine AL ⟨a.trans (Al hH bm),bm.at (i:=2) rfl,bm.at (i:=3) rfl,bm.at (i:=7) rfl⟩ fun kI862=>Er (i:=16) (by kernel_rfl) rfl<|B6 7 rfl rfl (row_one (bm.at (i:=4) rfl)) IJ bm rfl rfl fun q7 k7 cv=>C1 [0,1,2,3,4,5,6,7,8,9,10,11,12,13,14,15] (by kernel_rfl)<|Er (i:=17) (by kernel_rfl) rfl<|As 1 rfl<|C1 [0,1,2,3,4,5,6,7,8,9,10,11,12,13,14,15,16] (by kernel_rfl)<|Er (i:=18) (by kernel_rfl) rfl<|As 1 rfl<|F9 (by kernel_rfl)<|D6 (by kernel_rfl) ?_;have aq:=aq.mono (Aa hH (e6.trans (e9.trans (fa.trans (fb.trans cv)))));have g7:=g7.mono (Aa hH (fb.trans cv));have g8:=g8.mono (Aa hH cv);have a:=a.trans (Aa hH cv);refine A6 ((aa++[(d.1.1,d.1.2.1,d.1.2.2)]),(x++[((a0.getD b.toNat default).2)]),(y++[(a0.getD b.toNat default).1]),i1,g3,m2,k6,m1,k5) (Sub.of rfl) ⟨k7,((g.mono c).mono a),((k.mono c).mono a),((o.mono c).mono a),aq,g8,g7,h⟩
      refine AB h fun ab h=>AB h fun ac h=>Br (r:=.tree) (l:=[((a0.getD b.toNat default).2)]) rfl (fun _=>Iu _ _ _ _ _ _) rfl (B2 1) hH bj (.c5 (Go.E.Rp.Dt ⟨_,_,rfl,rfl,⟨_,_,rfl,rfl,⟨_,_,rfl,⟨_,rfl,(e646h3.mono (Ae hH))⟩,⟨_,_,rfl,⟨_,rfl,(e646h4.mono (Ae hH))⟩,⟨_,rfl,(e646h5.mono (Ae hH))⟩⟩⟩⟩⟩) .nil) ?_;intro q8 q9 o2 cw il g9;have a:=a.trans (Aa hH il);refine AL ⟨a.trans (Al hH cw),cw.at (i:=2) rfl,cw.at (i:=3) rfl,cw.at (i:=7) rfl⟩ fun kI865=>Er (i:=8) (by kernel_rfl) rfl<|Br (r:=(.vec .byte)) (l:=[(a0.getD b.toNat default).1]) rfl (fun _=>Kg _ e646h0.one _) rfl (B2 1) hH cw (.c1 ⟨_,rfl,(e646h0.mono (Ae hH))⟩ .nil) ?_;intro ra rb o3 cx fc k8;have a:=a.trans (Aa hH fc);refine AL ⟨a.trans (Al hH cx),cx.at (i:=2) rfl,cx.at (i:=3) rfl,cx.at (i:=7) rfl⟩ fun kI867=>Er (i:=9) (by kernel_rfl) rfl<|Bi (r:=(.vec .byte)) (l:=y) (m:=[(a0.getD b.toNat default).1]) 6 rfl rfl Adc Hv rfl (by decide) rfl hH cx rfl (((af.mono e).mono c).mono a) k8 ab ?_;intro m3 rc k9 cy fd ha;have a:=a.trans (Aa hH fd)
      refine AL ⟨a.trans (Al hH cy),cy.at (i:=2) rfl,cy.at (i:=3) rfl,cy.at (i:=7) rfl⟩ fun kI869=>Er (i:=14) (by kernel_rfl) rfl ?_;have g9:=g9.mono (Aa hH (fc.trans fd));refine Bi (r:=.tree) (l:=x) (m:=[((a0.getD b.toNat default).2)]) 5 rfl rfl Ade Fz rfl (by decide) rfl hH cy rfl (((ae.mono e).mono c).mono a) g9 ac ?_;intro m4 rd la bn fe hb;have a:=a.trans (Aa hH fe);refine AL ⟨a.trans (Al hH bn),bn.at (i:=2) rfl,bn.at (i:=3) rfl,bn.at (i:=7) rfl⟩ fun kI871=>Er (i:=16) (by kernel_rfl) rfl<|B6 7 rfl rfl (row_one (bn.at (i:=4) rfl)) IJ bn rfl rfl fun re lb cz=>C1 [0,1,2,3,4,5,6,7,8,9,10,11,12,13,14,15] (by kernel_rfl)<|Er (i:=17) (by kernel_rfl) rfl<|As 1 rfl<|C1 [0,1,2,3,4,5,6,7,8,9,10,11,12,13,14,15,16] (by kernel_rfl)<|Er (i:=18) (by kernel_rfl) rfl<|As 1 rfl<|F9 (by kernel_rfl)<|D6 (by kernel_rfl) ?_;have aq:=aq.mono (Aa hH (il.trans (fc.trans (fd.trans (fe.trans cz)))));have ha:=ha.mono (Aa hH (fe.trans cz));have hb:=hb.mono (Aa hH cz);have a:=a.trans (Aa hH cz)
      refine A6 ((aa++[(d.1.1,d.1.2.1,d.1.2.2)]),(x++[((a0.getD b.toNat default).2)]),(y++[(a0.getD b.toNat default).1]),i1,g3,m4,la,m3,k9) (Sub.of rfl) ⟨lb,((g.mono c).mono a),((k.mono c).mono a),((o.mono c).mono a),aq,hb,ha,h⟩
     ·refine AB h fun ah h=>AB h fun ab h=>AB h fun ac h=>Br (r:=(.vec .byte)) (l:=[(a0.getD b.toNat default).1]) rfl (fun _=>Kg _ e646h0.one _) rfl (B2 1) hH a6 (.c1 ⟨_,rfl,(e646h0.mono (Ae hH))⟩ .nil) ?_;intro rf rg o4 bo ff ar;have a:=a.trans (Aa hH ff);refine AL ⟨a.trans (Al hH bo),bo.at (i:=2) rfl,bo.at (i:=3) rfl,bo.at (i:=7) rfl⟩ fun kI874=>WH (i:=4) (j:=13) (by kernel_rfl) rfl rfl ?_ ?_
      ·have e:=e.trans (Aa hH (aj.trans (ak.trans (al.trans (p.trans (q.trans (t.trans u)))))));have am:=am.mono (Aa hH ff);refine Bi (r:=Ad2) (l:=aa) (m:=[(d.1.1,d.1.2.1,d.1.2.2)]) 4 rfl rfl Adn Fq rfl (by decide) rfl hH bo rfl (((ai.mono e).mono c).mono a) am ah ?_;intro jo rh i6 bp fg bq;have a:=a.trans (Aa hH fg);refine AL ⟨a.trans (Al hH bp),bp.at (i:=2) rfl,bp.at (i:=3) rfl,bp.at (i:=7) rfl⟩ fun kI876=>A1 15 ad kI876 (by kernel_rfl) rfl (fun _ _=>Af rfl Adl rfl IJ) rfl<|WH (i:=9) (j:=13) (by kernel_rfl) rfl rfl ?_ ?_
       ·have ar:=ar.mono (Aa hH fg);refine Bi (r:=(.vec .byte)) (l:=y) (m:=[(a0.getD b.toNat default).1]) 6 rfl rfl Adc Hv rfl (by decide) rfl hH bp rfl (((af.mono e).mono c).mono a) ar ab ?_;intro m5 ri lc c0 im hc;have a:=a.trans (Aa hH im);refine AL ⟨a.trans (Al hH c0),c0.at (i:=2) rfl,c0.at (i:=3) rfl,c0.at (i:=7) rfl⟩ fun kI878=>Er (i:=13) (by kernel_rfl) rfl<|Br (r:=.tree) (l:=[((a0.getD b.toNat default).2)]) rfl (fun _=>Iu _ _ _ _ _ _) rfl (B2 1) hH c0 (.c5 (Go.E.Rp.Dt ⟨_,_,rfl,rfl,⟨_,_,rfl,rfl,⟨_,_,rfl,⟨_,rfl,(e646h3.mono (Ae hH))⟩,⟨_,_,rfl,⟨_,rfl,(e646h4.mono (Ae hH))⟩,⟨_,rfl,(e646h5.mono (Ae hH))⟩⟩⟩⟩⟩) .nil) ?_;intro rj rk o5 c2 fh ld;have a:=a.trans (Aa hH fh);refine AL ⟨a.trans (Al hH c2),c2.at (i:=2) rfl,c2.at (i:=3) rfl,c2.at (i:=7) rfl⟩ fun kI880=>Er (i:=14) (by kernel_rfl) rfl<|Bi (r:=.tree) (l:=x) (m:=[((a0.getD b.toNat default).2)]) 5 rfl rfl Ade Fz rfl (by decide) rfl hH c2 rfl (((ae.mono e).mono c).mono a) ld ac ?_;intro m6 rl le br fi hd;have a:=a.trans (Aa hH fi)
        refine AL ⟨a.trans (Al hH br),br.at (i:=2) rfl,br.at (i:=3) rfl,br.at (i:=7) rfl⟩ fun kI882=>Er (i:=16) (by kernel_rfl) rfl<|B6 7 rfl rfl (row_one (br.at (i:=4) rfl)) IJ br rfl rfl fun rm lf c4=>C1 [0,1,2,3,4,5,6,7,8,9,10,11,12,13,14,15] (by kernel_rfl)<|Er (i:=17) (by kernel_rfl) rfl<|As 1 rfl<|C1 [0,1,2,3,4,5,6,7,8,9,10,11,12,13,14,15,16] (by kernel_rfl)<|Er (i:=18) (by kernel_rfl) rfl<|As 1 rfl<|F9 (by kernel_rfl)<|D6 (by kernel_rfl) ?_;have bq:=bq.mono (Aa hH (im.trans (fh.trans (fi.trans c4))));have hc:=hc.mono (Aa hH (fh.trans (fi.trans c4)));have hd:=hd.mono (Aa hH c4);have a:=a.trans (Aa hH c4);refine A6 ((aa++[(d.1.1,d.1.2.1,d.1.2.2)]),(x++[((a0.getD b.toNat default).2)]),(y++[(a0.getD b.toNat default).1]),jo,i6,m6,le,m5,lc) (Sub.of rfl) ⟨lf,((g.mono c).mono a),((k.mono c).mono a),((o.mono c).mono a),bq,hd,hc,h⟩
       refine Br (r:=.tree) (l:=[((a0.getD b.toNat default).2)]) rfl (fun _=>Iu _ _ _ _ _ _) rfl (B2 1) hH bp (.c5 (Go.E.Rp.Dt ⟨_,_,rfl,rfl,⟨_,_,rfl,rfl,⟨_,_,rfl,⟨_,rfl,(e646h3.mono (Ae hH))⟩,⟨_,_,rfl,⟨_,rfl,(e646h4.mono (Ae hH))⟩,⟨_,rfl,(e646h5.mono (Ae hH))⟩⟩⟩⟩⟩) .nil) ?_;intro rn ro o6 c6 fj he;have a:=a.trans (Aa hH fj);refine AL ⟨a.trans (Al hH c6),c6.at (i:=2) rfl,c6.at (i:=3) rfl,c6.at (i:=7) rfl⟩ fun kI885=>Er (i:=9) (by kernel_rfl) rfl ?_;have ar:=ar.mono (Aa hH (fg.trans fj));refine Bi (r:=(.vec .byte)) (l:=y) (m:=[(a0.getD b.toNat default).1]) 6 rfl rfl Adc Hv rfl (by decide) rfl hH c6 rfl (((af.mono e).mono c).mono a) ar ab ?_;intro m7 rp lg c7 fk hf;have a:=a.trans (Aa hH fk);refine AL ⟨a.trans (Al hH c7),c7.at (i:=2) rfl,c7.at (i:=3) rfl,c7.at (i:=7) rfl⟩ fun kI887=>Er (i:=14) (by kernel_rfl) rfl ?_;have he:=he.mono (Aa hH fk);refine Bi (r:=.tree) (l:=x) (m:=[((a0.getD b.toNat default).2)]) 5 rfl rfl Ade Fz rfl (by decide) rfl hH c7 rfl (((ae.mono e).mono c).mono a) he ac ?_;intro m8 rq lh bs fl hg;have a:=a.trans (Aa hH fl)
       refine AL ⟨a.trans (Al hH bs),bs.at (i:=2) rfl,bs.at (i:=3) rfl,bs.at (i:=7) rfl⟩ fun kI889=>Er (i:=16) (by kernel_rfl) rfl<|B6 7 rfl rfl (row_one (bs.at (i:=4) rfl)) IJ bs rfl rfl fun rr li c8=>C1 [0,1,2,3,4,5,6,7,8,9,10,11,12,13,14,15] (by kernel_rfl)<|Er (i:=17) (by kernel_rfl) rfl<|As 1 rfl<|C1 [0,1,2,3,4,5,6,7,8,9,10,11,12,13,14,15,16] (by kernel_rfl)<|Er (i:=18) (by kernel_rfl) rfl<|As 1 rfl<|F9 (by kernel_rfl)<|D6 (by kernel_rfl) ?_;have bq:=bq.mono (Aa hH (fj.trans (fk.trans (fl.trans c8))));have hf:=hf.mono (Aa hH (fl.trans c8));have hg:=hg.mono (Aa hH c8);have a:=a.trans (Aa hH c8);refine A6 ((aa++[(d.1.1,d.1.2.1,d.1.2.2)]),(x++[((a0.getD b.toNat default).2)]),(y++[(a0.getD b.toNat default).1]),jo,i6,m8,lh,m7,lg) (Sub.of rfl) ⟨li,((g.mono c).mono a),((k.mono c).mono a),((o.mono c).mono a),bq,hg,hf,h⟩
      refine Br (r:=.tree) (l:=[((a0.getD b.toNat default).2)]) rfl (fun _=>Iu _ _ _ _ _ _) rfl (B2 1) hH bo (.c5 (Go.E.Rp.Dt ⟨_,_,rfl,rfl,⟨_,_,rfl,rfl,⟨_,_,rfl,⟨_,rfl,(e646h3.mono (Ae hH))⟩,⟨_,_,rfl,⟨_,rfl,(e646h4.mono (Ae hH))⟩,⟨_,rfl,(e646h5.mono (Ae hH))⟩⟩⟩⟩⟩) .nil) ?_;intro rs rt o7 c9 fm hh;have a:=a.trans (Aa hH fm);refine AL ⟨a.trans (Al hH c9),c9.at (i:=2) rfl,c9.at (i:=3) rfl,c9.at (i:=7) rfl⟩ fun kI892=>Er (i:=4) (by kernel_rfl) rfl ?_;have e:=e.trans (Aa hH (aj.trans (ak.trans (al.trans (p.trans (q.trans (t.trans u)))))));have am:=am.mono (Aa hH (ff.trans fm));refine Bi (r:=Ad2) (l:=aa) (m:=[(d.1.1,d.1.2.1,d.1.2.2)]) 4 rfl rfl Adn Fq rfl (by decide) rfl hH c9 rfl (((ai.mono e).mono c).mono a) am ah ?_;intro m9 ru lj da fn hi;have a:=a.trans (Aa hH fn);refine AL ⟨a.trans (Al hH da),da.at (i:=2) rfl,da.at (i:=3) rfl,da.at (i:=7) rfl⟩ fun kI894=>A1 15 ad kI894 (by kernel_rfl) rfl (fun _ _=>Af rfl Adl rfl IJ) rfl<|Er (i:=9) (by kernel_rfl) rfl ?_
      have ar:=ar.mono (Aa hH (fm.trans fn));refine Bi (r:=(.vec .byte)) (l:=y) (m:=[(a0.getD b.toNat default).1]) 6 rfl rfl Adc Hv rfl (by decide) rfl hH da rfl (((af.mono e).mono c).mono a) ar ab ?_;intro na rv lk db fo hj;have a:=a.trans (Aa hH fo);refine AL ⟨a.trans (Al hH db),db.at (i:=2) rfl,db.at (i:=3) rfl,db.at (i:=7) rfl⟩ fun kI896=>Er (i:=14) (by kernel_rfl) rfl ?_;have hh:=hh.mono (Aa hH (fn.trans fo));refine Bi (r:=.tree) (l:=x) (m:=[((a0.getD b.toNat default).2)]) 5 rfl rfl Ade Fz rfl (by decide) rfl hH db rfl (((ae.mono e).mono c).mono a) hh ac ?_;intro nb rx ll bt fp hk;have a:=a.trans (Aa hH fp);refine AL ⟨a.trans (Al hH bt),bt.at (i:=2) rfl,bt.at (i:=3) rfl,bt.at (i:=7) rfl⟩ fun kI898=>Er (i:=16) (by kernel_rfl) rfl<|B6 7 rfl rfl (row_one (bt.at (i:=4) rfl)) IJ bt rfl rfl fun ry lm dc=>C1 [0,1,2,3,4,5,6,7,8,9,10,11,12,13,14,15] (by kernel_rfl)<|Er (i:=17) (by kernel_rfl) rfl<|As 1 rfl<|C1 [0,1,2,3,4,5,6,7,8,9,10,11,12,13,14,15,16] (by kernel_rfl)<|Er (i:=18) (by kernel_rfl) rfl<|As 1 rfl ?_
      refine F9 (by kernel_rfl)<|D6 (by kernel_rfl) ?_;have hi:=hi.mono (Aa hH (fo.trans (fp.trans dc)));have hj:=hj.mono (Aa hH (fp.trans dc));have hk:=hk.mono (Aa hH dc);have a:=a.trans (Aa hH dc);refine A6 ((aa++[(d.1.1,d.1.2.1,d.1.2.2)]),(x++[((a0.getD b.toNat default).2)]),(y++[(a0.getD b.toNat default).1]),m9,lj,nb,ll,na,lk) (Sub.of rfl) ⟨lm,((g.mono c).mono a),((k.mono c).mono a),((o.mono c).mono a),hi,hk,hj,h⟩
     refine AB h fun ah h=>AB h fun ab h=>AB h fun ac h=>Br (r:=.tree) (l:=[((a0.getD b.toNat default).2)]) rfl (fun _=>Iu _ _ _ _ _ _) rfl (B2 1) hH a6 (.c5 (Go.E.Rp.Dt ⟨_,_,rfl,rfl,⟨_,_,rfl,rfl,⟨_,_,rfl,⟨_,rfl,(e646h3.mono (Ae hH))⟩,⟨_,_,rfl,⟨_,rfl,(e646h4.mono (Ae hH))⟩,⟨_,rfl,(e646h5.mono (Ae hH))⟩⟩⟩⟩⟩) .nil) ?_;intro rz r0 o8 bu fq bv;have a:=a.trans (Aa hH fq);refine AL ⟨a.trans (Al hH bu),bu.at (i:=2) rfl,bu.at (i:=3) rfl,bu.at (i:=7) rfl⟩ fun kI901=>WH (i:=4) (j:=8) (by kernel_rfl) rfl rfl ?_ ?_
     ·have e:=e.trans (Aa hH (aj.trans (ak.trans (al.trans (p.trans (q.trans (t.trans u)))))));have am:=am.mono (Aa hH fq);refine Bi (r:=Ad2) (l:=aa) (m:=[(d.1.1,d.1.2.1,d.1.2.2)]) 4 rfl rfl Adn Fq rfl (by decide) rfl hH bu rfl (((ai.mono e).mono c).mono a) am ah ?_;intro nc r1 ln dd io hl;have a:=a.trans (Aa hH io);refine AL ⟨a.trans (Al hH dd),dd.at (i:=2) rfl,dd.at (i:=3) rfl,dd.at (i:=7) rfl⟩ fun kI903=>A1 15 ad kI903 (by kernel_rfl) rfl (fun _ _=>Af rfl Adl rfl IJ) rfl<|Er (i:=8) (by kernel_rfl) rfl<|Br (r:=(.vec .byte)) (l:=[(a0.getD b.toNat default).1]) rfl (fun _=>Kg _ e646h0.one _) rfl (B2 1) hH dd (.c1 ⟨_,rfl,(e646h0.mono (Ae hH))⟩ .nil) ?_;intro r2 r3 o9 de fr lo;have a:=a.trans (Aa hH fr);refine AL ⟨a.trans (Al hH de),de.at (i:=2) rfl,de.at (i:=3) rfl,de.at (i:=7) rfl⟩ fun kI905=>Er (i:=9) (by kernel_rfl) rfl<|Bi (r:=(.vec .byte)) (l:=y) (m:=[(a0.getD b.toNat default).1]) 6 rfl rfl Adc Hv rfl (by decide) rfl hH de rfl (((af.mono e).mono c).mono a) lo ab ?_
      intro nd r4 lp df fs hm;have a:=a.trans (Aa hH fs);refine AL ⟨a.trans (Al hH df),df.at (i:=2) rfl,df.at (i:=3) rfl,df.at (i:=7) rfl⟩ fun kI907=>Er (i:=14) (by kernel_rfl) rfl ?_;have bv:=bv.mono (Aa hH (io.trans (fr.trans fs)));refine Bi (r:=.tree) (l:=x) (m:=[((a0.getD b.toNat default).2)]) 5 rfl rfl Ade Fz rfl (by decide) rfl hH df rfl (((ae.mono e).mono c).mono a) bv ac ?_;intro nf r5 lq bw ft hn;have a:=a.trans (Aa hH ft);refine AL ⟨a.trans (Al hH bw),bw.at (i:=2) rfl,bw.at (i:=3) rfl,bw.at (i:=7) rfl⟩ fun kI909=>Er (i:=16) (by kernel_rfl) rfl<|B6 7 rfl rfl (row_one (bw.at (i:=4) rfl)) IJ bw rfl rfl fun r6 lr dg=>C1 [0,1,2,3,4,5,6,7,8,9,10,11,12,13,14,15] (by kernel_rfl)<|Er (i:=17) (by kernel_rfl) rfl<|As 1 rfl<|C1 [0,1,2,3,4,5,6,7,8,9,10,11,12,13,14,15,16] (by kernel_rfl)<|Er (i:=18) (by kernel_rfl) rfl<|As 1 rfl<|F9 (by kernel_rfl)<|D6 (by kernel_rfl) ?_;have hl:=hl.mono (Aa hH (fr.trans (fs.trans (ft.trans dg))));have hm:=hm.mono (Aa hH (ft.trans dg))
      have hn:=hn.mono (Aa hH dg);have a:=a.trans (Aa hH dg);refine A6 ((aa++[(d.1.1,d.1.2.1,d.1.2.2)]),(x++[((a0.getD b.toNat default).2)]),(y++[(a0.getD b.toNat default).1]),nc,ln,nf,lq,nd,lp) (Sub.of rfl) ⟨lr,((g.mono c).mono a),((k.mono c).mono a),((o.mono c).mono a),hl,hn,hm,h⟩
     refine Br (r:=(.vec .byte)) (l:=[(a0.getD b.toNat default).1]) rfl (fun _=>Kg _ e646h0.one _) rfl (B2 1) hH bu (.c1 ⟨_,rfl,(e646h0.mono (Ae hH))⟩ .nil) ?_;intro r7 r8 pa dh fu ho;have a:=a.trans (Aa hH fu);refine AL ⟨a.trans (Al hH dh),dh.at (i:=2) rfl,dh.at (i:=3) rfl,dh.at (i:=7) rfl⟩ fun kI912=>Er (i:=4) (by kernel_rfl) rfl ?_;have e:=e.trans (Aa hH (aj.trans (ak.trans (al.trans (p.trans (q.trans (t.trans u)))))));have am:=am.mono (Aa hH (fq.trans fu));refine Bi (r:=Ad2) (l:=aa) (m:=[(d.1.1,d.1.2.1,d.1.2.2)]) 4 rfl rfl Adn Fq rfl (by decide) rfl hH dh rfl (((ai.mono e).mono c).mono a) am ah ?_;intro ng r9 ls di fv hq;have a:=a.trans (Aa hH fv);refine AL ⟨a.trans (Al hH di),di.at (i:=2) rfl,di.at (i:=3) rfl,di.at (i:=7) rfl⟩ fun kI914=>A1 15 ad kI914 (by kernel_rfl) rfl (fun _ _=>Af rfl Adl rfl IJ) rfl<|Er (i:=9) (by kernel_rfl) rfl ?_;have ho:=ho.mono (Aa hH fv)
     refine Bi (r:=(.vec .byte)) (l:=y) (m:=[(a0.getD b.toNat default).1]) 6 rfl rfl Adc Hv rfl (by decide) rfl hH di rfl (((af.mono e).mono c).mono a) ho ab ?_;intro nh sa lt dj fw hr;have a:=a.trans (Aa hH fw);refine AL ⟨a.trans (Al hH dj),dj.at (i:=2) rfl,dj.at (i:=3) rfl,dj.at (i:=7) rfl⟩ fun kI916=>Er (i:=14) (by kernel_rfl) rfl ?_;have bv:=bv.mono (Aa hH (fu.trans (fv.trans fw)));refine Bi (r:=.tree) (l:=x) (m:=[((a0.getD b.toNat default).2)]) 5 rfl rfl Ade Fz rfl (by decide) rfl hH dj rfl (((ae.mono e).mono c).mono a) bv ac ?_;intro ni sb lu bx fx hs;have a:=a.trans (Aa hH fx);refine AL ⟨a.trans (Al hH bx),bx.at (i:=2) rfl,bx.at (i:=3) rfl,bx.at (i:=7) rfl⟩ fun kI918=>Er (i:=16) (by kernel_rfl) rfl<|B6 7 rfl rfl (row_one (bx.at (i:=4) rfl)) IJ bx rfl rfl fun sc lv dk=>C1 [0,1,2,3,4,5,6,7,8,9,10,11,12,13,14,15] (by kernel_rfl)<|Er (i:=17) (by kernel_rfl) rfl<|As 1 rfl<|C1 [0,1,2,3,4,5,6,7,8,9,10,11,12,13,14,15,16] (by kernel_rfl)<|Er (i:=18) (by kernel_rfl) rfl<|As 1 rfl<|F9 (by kernel_rfl) ?_
     refine D6 (by kernel_rfl) ?_;have hq:=hq.mono (Aa hH (fw.trans (fx.trans dk)));have hr:=hr.mono (Aa hH (fx.trans dk));have hs:=hs.mono (Aa hH dk);have a:=a.trans (Aa hH dk);refine A6 ((aa++[(d.1.1,d.1.2.1,d.1.2.2)]),(x++[((a0.getD b.toNat default).2)]),(y++[(a0.getD b.toNat default).1]),ng,ls,ni,lu,nh,lt) (Sub.of rfl) ⟨lv,((g.mono c).mono a),((k.mono c).mono a),((o.mono c).mono a),hq,hs,hr,h⟩
    ·refine AB h fun ah h=>AB h fun ab h=>AB h fun ac h=>Br (r:=(.vec .byte)) (l:=[(a0.getD b.toNat default).1]) rfl (fun _=>Kg _ e646h0.one _) rfl (B2 1) hH a2 (.c1 ⟨_,rfl,(e646h0.mono (Ae hH))⟩ .nil) ?_;intro sd se pb bz jp an;have a:=a.trans (Aa hH jp);refine AL ⟨a.trans (Al hH bz),bz.at (i:=2) rfl,bz.at (i:=3) rfl,bz.at (i:=7) rfl⟩ fun kI921=>WH (i:=3) (j:=13) (by kernel_rfl) rfl rfl ?_ ?_
     ·have g:=g.mono (Aa hH (p.trans (q.trans (t.trans u))));have k:=k.mono (Aa hH (p.trans (q.trans (t.trans u))));have o:=o.mono (Aa hH (p.trans (q.trans (t.trans u))));have c:=c.trans (Aa hH (a9.trans (ba.trans (bb.trans bf))));refine Br (r:=Ad2) (l:=[(d.1.1,d.1.2.1,d.1.2.2)]) rfl (fun _=>NU _ _ _ _) rfl (B2 1) hH bz (.c3 ⟨_,_,rfl,⟨_,rfl,((g.mono c).mono a)⟩,⟨_,_,rfl,⟨_,rfl,((k.mono c).mono a)⟩,⟨_,rfl,((o.mono c).mono a)⟩⟩⟩ .nil) ?_;intro sf sg pc b0 dl eu;have a:=a.trans (Aa hH dl);refine AL ⟨a.trans (Al hH b0),b0.at (i:=2) rfl,b0.at (i:=3) rfl,b0.at (i:=7) rfl⟩ fun kI923=>WH (i:=4) (j:=13) (by kernel_rfl) rfl rfl ?_ ?_
      ·have e:=e.trans (Aa hH (aj.trans (ak.trans (al.trans (p.trans (q.trans (t.trans u)))))));refine Bi (r:=Ad2) (l:=aa) (m:=[(d.1.1,d.1.2.1,d.1.2.2)]) 4 rfl rfl Adn Fq rfl (by decide) rfl hH b0 rfl (((ai.mono e).mono c).mono a) eu ah ?_;intro jq sh i7 b3 fy b4;have a:=a.trans (Aa hH fy);refine AL ⟨a.trans (Al hH b3),b3.at (i:=2) rfl,b3.at (i:=3) rfl,b3.at (i:=7) rfl⟩ fun kI925=>A1 15 ad kI925 (by kernel_rfl) rfl (fun _ _=>Af rfl Adl rfl IJ) rfl<|WH (i:=9) (j:=13) (by kernel_rfl) rfl rfl ?_ ?_
       ·have an:=an.mono (Aa hH (dl.trans fy));refine Bi (r:=(.vec .byte)) (l:=y) (m:=[(a0.getD b.toNat default).1]) 6 rfl rfl Adc Hv rfl (by decide) rfl hH b3 rfl (((af.mono e).mono c).mono a) an ab ?_;intro nj si lw dm ip ht;have a:=a.trans (Aa hH ip);refine AL ⟨a.trans (Al hH dm),dm.at (i:=2) rfl,dm.at (i:=3) rfl,dm.at (i:=7) rfl⟩ fun kI927=>Er (i:=13) (by kernel_rfl) rfl<|Br (r:=.tree) (l:=[((a0.getD b.toNat default).2)]) rfl (fun _=>Iu _ _ _ _ _ _) rfl (B2 1) hH dm (.c5 (Go.E.Rp.Dt ⟨_,_,rfl,rfl,⟨_,_,rfl,rfl,⟨_,_,rfl,⟨_,rfl,(e646h3.mono (Ae hH))⟩,⟨_,_,rfl,⟨_,rfl,(e646h4.mono (Ae hH))⟩,⟨_,rfl,(e646h5.mono (Ae hH))⟩⟩⟩⟩⟩) .nil) ?_;intro sj sk pd dn fz lx;have a:=a.trans (Aa hH fz);refine AL ⟨a.trans (Al hH dn),dn.at (i:=2) rfl,dn.at (i:=3) rfl,dn.at (i:=7) rfl⟩ fun kI929=>Er (i:=14) (by kernel_rfl) rfl<|Bi (r:=.tree) (l:=x) (m:=[((a0.getD b.toNat default).2)]) 5 rfl rfl Ade Fz rfl (by decide) rfl hH dn rfl (((ae.mono e).mono c).mono a) lx ac ?_;intro nk sl ly b5 f0 hu;have a:=a.trans (Aa hH f0)
        refine AL ⟨a.trans (Al hH b5),b5.at (i:=2) rfl,b5.at (i:=3) rfl,b5.at (i:=7) rfl⟩ fun kI931=>Er (i:=16) (by kernel_rfl) rfl<|B6 7 rfl rfl (row_one (b5.at (i:=4) rfl)) IJ b5 rfl rfl fun sm lz dp=>C1 [0,1,2,3,4,5,6,7,8,9,10,11,12,13,14,15] (by kernel_rfl)<|Er (i:=17) (by kernel_rfl) rfl<|As 1 rfl<|C1 [0,1,2,3,4,5,6,7,8,9,10,11,12,13,14,15,16] (by kernel_rfl)<|Er (i:=18) (by kernel_rfl) rfl<|As 1 rfl<|F9 (by kernel_rfl)<|D6 (by kernel_rfl) ?_;have b4:=b4.mono (Aa hH (ip.trans (fz.trans (f0.trans dp))));have ht:=ht.mono (Aa hH (fz.trans (f0.trans dp)));have hu:=hu.mono (Aa hH dp);have a:=a.trans (Aa hH dp);refine A6 ((aa++[(d.1.1,d.1.2.1,d.1.2.2)]),(x++[((a0.getD b.toNat default).2)]),(y++[(a0.getD b.toNat default).1]),jq,i7,nk,ly,nj,lw) (Sub.of rfl) ⟨lz,((g.mono c).mono a),((k.mono c).mono a),((o.mono c).mono a),b4,hu,ht,h⟩
       refine Br (r:=.tree) (l:=[((a0.getD b.toNat default).2)]) rfl (fun _=>Iu _ _ _ _ _ _) rfl (B2 1) hH b3 (.c5 (Go.E.Rp.Dt ⟨_,_,rfl,rfl,⟨_,_,rfl,rfl,⟨_,_,rfl,⟨_,rfl,(e646h3.mono (Ae hH))⟩,⟨_,_,rfl,⟨_,rfl,(e646h4.mono (Ae hH))⟩,⟨_,rfl,(e646h5.mono (Ae hH))⟩⟩⟩⟩⟩) .nil) ?_;intro sn so pe dq f1 hv;have a:=a.trans (Aa hH f1);refine AL ⟨a.trans (Al hH dq),dq.at (i:=2) rfl,dq.at (i:=3) rfl,dq.at (i:=7) rfl⟩ fun kI934=>Er (i:=9) (by kernel_rfl) rfl ?_;have an:=an.mono (Aa hH (dl.trans (fy.trans f1)));refine Bi (r:=(.vec .byte)) (l:=y) (m:=[(a0.getD b.toNat default).1]) 6 rfl rfl Adc Hv rfl (by decide) rfl hH dq rfl (((af.mono e).mono c).mono a) an ab ?_;intro nl sp l0 dr f2 hw;have a:=a.trans (Aa hH f2);refine AL ⟨a.trans (Al hH dr),dr.at (i:=2) rfl,dr.at (i:=3) rfl,dr.at (i:=7) rfl⟩ fun kI936=>Er (i:=14) (by kernel_rfl) rfl ?_;have hv:=hv.mono (Aa hH f2);refine Bi (r:=.tree) (l:=x) (m:=[((a0.getD b.toNat default).2)]) 5 rfl rfl Ade Fz rfl (by decide) rfl hH dr rfl (((ae.mono e).mono c).mono a) hv ac ?_;intro nm sq l1 b6 f3 hx
       have a:=a.trans (Aa hH f3);refine AL ⟨a.trans (Al hH b6),b6.at (i:=2) rfl,b6.at (i:=3) rfl,b6.at (i:=7) rfl⟩ fun kI938=>Er (i:=16) (by kernel_rfl) rfl<|B6 7 rfl rfl (row_one (b6.at (i:=4) rfl)) IJ b6 rfl rfl fun sr l2 ds=>C1 [0,1,2,3,4,5,6,7,8,9,10,11,12,13,14,15] (by kernel_rfl)<|Er (i:=17) (by kernel_rfl) rfl<|As 1 rfl<|C1 [0,1,2,3,4,5,6,7,8,9,10,11,12,13,14,15,16] (by kernel_rfl)<|Er (i:=18) (by kernel_rfl) rfl<|As 1 rfl<|F9 (by kernel_rfl)<|D6 (by kernel_rfl) ?_;have b4:=b4.mono (Aa hH (f1.trans (f2.trans (f3.trans ds))));have hw:=hw.mono (Aa hH (f3.trans ds));have hx:=hx.mono (Aa hH ds);have a:=a.trans (Aa hH ds);refine A6 ((aa++[(d.1.1,d.1.2.1,d.1.2.2)]),(x++[((a0.getD b.toNat default).2)]),(y++[(a0.getD b.toNat default).1]),jq,i7,nm,l1,nl,l0) (Sub.of rfl) ⟨l2,((g.mono c).mono a),((k.mono c).mono a),((o.mono c).mono a),b4,hx,hw,h⟩
      refine Br (r:=.tree) (l:=[((a0.getD b.toNat default).2)]) rfl (fun _=>Iu _ _ _ _ _ _) rfl (B2 1) hH b0 (.c5 (Go.E.Rp.Dt ⟨_,_,rfl,rfl,⟨_,_,rfl,rfl,⟨_,_,rfl,⟨_,rfl,(e646h3.mono (Ae hH))⟩,⟨_,_,rfl,⟨_,rfl,(e646h4.mono (Ae hH))⟩,⟨_,rfl,(e646h5.mono (Ae hH))⟩⟩⟩⟩⟩) .nil) ?_;intro ss su pf dt f4 hy;have a:=a.trans (Aa hH f4);refine AL ⟨a.trans (Al hH dt),dt.at (i:=2) rfl,dt.at (i:=3) rfl,dt.at (i:=7) rfl⟩ fun kI941=>Er (i:=4) (by kernel_rfl) rfl ?_;have e:=e.trans (Aa hH (aj.trans (ak.trans (al.trans (p.trans (q.trans (t.trans u)))))));have eu:=eu.mono (Aa hH f4);refine Bi (r:=Ad2) (l:=aa) (m:=[(d.1.1,d.1.2.1,d.1.2.2)]) 4 rfl rfl Adn Fq rfl (by decide) rfl hH dt rfl (((ai.mono e).mono c).mono a) eu ah ?_;intro nn sv l3 du f5 hz;have a:=a.trans (Aa hH f5);refine AL ⟨a.trans (Al hH du),du.at (i:=2) rfl,du.at (i:=3) rfl,du.at (i:=7) rfl⟩ fun kI943=>A1 15 ad kI943 (by kernel_rfl) rfl (fun _ _=>Af rfl Adl rfl IJ) rfl<|Er (i:=9) (by kernel_rfl) rfl ?_
      have an:=an.mono (Aa hH (dl.trans (f4.trans f5)));refine Bi (r:=(.vec .byte)) (l:=y) (m:=[(a0.getD b.toNat default).1]) 6 rfl rfl Adc Hv rfl (by decide) rfl hH du rfl (((af.mono e).mono c).mono a) an ab ?_;intro no sw l4 dv f6 h0;have a:=a.trans (Aa hH f6);refine AL ⟨a.trans (Al hH dv),dv.at (i:=2) rfl,dv.at (i:=3) rfl,dv.at (i:=7) rfl⟩ fun kI945=>Er (i:=14) (by kernel_rfl) rfl ?_;have hy:=hy.mono (Aa hH (f5.trans f6));refine Bi (r:=.tree) (l:=x) (m:=[((a0.getD b.toNat default).2)]) 5 rfl rfl Ade Fz rfl (by decide) rfl hH dv rfl (((ae.mono e).mono c).mono a) hy ac ?_;intro np sx l5 b7 f7 h1;have a:=a.trans (Aa hH f7);refine AL ⟨a.trans (Al hH b7),b7.at (i:=2) rfl,b7.at (i:=3) rfl,b7.at (i:=7) rfl⟩ fun kI947=>Er (i:=16) (by kernel_rfl) rfl<|B6 7 rfl rfl (row_one (b7.at (i:=4) rfl)) IJ b7 rfl rfl fun sy l6 dw=>C1 [0,1,2,3,4,5,6,7,8,9,10,11,12,13,14,15] (by kernel_rfl)<|Er (i:=17) (by kernel_rfl) rfl<|As 1 rfl<|C1 [0,1,2,3,4,5,6,7,8,9,10,11,12,13,14,15,16] (by kernel_rfl)<|Er (i:=18) (by kernel_rfl) rfl ?_
      refine As 1 rfl<|F9 (by kernel_rfl)<|D6 (by kernel_rfl) ?_;have hz:=hz.mono (Aa hH (f6.trans (f7.trans dw)));have h0:=h0.mono (Aa hH (f7.trans dw));have h1:=h1.mono (Aa hH dw);have a:=a.trans (Aa hH dw);refine A6 ((aa++[(d.1.1,d.1.2.1,d.1.2.2)]),(x++[((a0.getD b.toNat default).2)]),(y++[(a0.getD b.toNat default).1]),nn,l3,np,l5,no,l4) (Sub.of rfl) ⟨l6,((g.mono c).mono a),((k.mono c).mono a),((o.mono c).mono a),hz,h1,h0,h⟩
     refine Br (r:=.tree) (l:=[((a0.getD b.toNat default).2)]) rfl (fun _=>Iu _ _ _ _ _ _) rfl (B2 1) hH bz (.c5 (Go.E.Rp.Dt ⟨_,_,rfl,rfl,⟨_,_,rfl,rfl,⟨_,_,rfl,⟨_,rfl,(e646h3.mono (Ae hH))⟩,⟨_,_,rfl,⟨_,rfl,(e646h4.mono (Ae hH))⟩,⟨_,rfl,(e646h5.mono (Ae hH))⟩⟩⟩⟩⟩) .nil) ?_;intro sz s0 pg dx iq h2;have a:=a.trans (Aa hH iq);refine AL ⟨a.trans (Al hH dx),dx.at (i:=2) rfl,dx.at (i:=3) rfl,dx.at (i:=7) rfl⟩ fun kI950=>Er (i:=3) (by kernel_rfl) rfl ?_;have g:=g.mono (Aa hH (p.trans (q.trans (t.trans u))));have k:=k.mono (Aa hH (p.trans (q.trans (t.trans u))));have o:=o.mono (Aa hH (p.trans (q.trans (t.trans u))));have c:=c.trans (Aa hH (a9.trans (ba.trans (bb.trans bf))));refine Br (r:=Ad2) (l:=[(d.1.1,d.1.2.1,d.1.2.2)]) rfl (fun _=>NU _ _ _ _) rfl (B2 1) hH dx (.c3 ⟨_,_,rfl,⟨_,rfl,((g.mono c).mono a)⟩,⟨_,_,rfl,⟨_,rfl,((k.mono c).mono a)⟩,⟨_,rfl,((o.mono c).mono a)⟩⟩⟩ .nil) ?_;intro s1 s2 ph dy f8 l7;have a:=a.trans (Aa hH f8)
     refine AL ⟨a.trans (Al hH dy),dy.at (i:=2) rfl,dy.at (i:=3) rfl,dy.at (i:=7) rfl⟩ fun kI952=>Er (i:=4) (by kernel_rfl) rfl ?_;have e:=e.trans (Aa hH (aj.trans (ak.trans (al.trans (p.trans (q.trans (t.trans u)))))));refine Bi (r:=Ad2) (l:=aa) (m:=[(d.1.1,d.1.2.1,d.1.2.2)]) 4 rfl rfl Adn Fq rfl (by decide) rfl hH dy rfl (((ai.mono e).mono c).mono a) l7 ah ?_;intro nq s3 l8 dz f9 h3;have a:=a.trans (Aa hH f9);refine AL ⟨a.trans (Al hH dz),dz.at (i:=2) rfl,dz.at (i:=3) rfl,dz.at (i:=7) rfl⟩ fun kI954=>A1 15 ad kI954 (by kernel_rfl) rfl (fun _ _=>Af rfl Adl rfl IJ) rfl<|Er (i:=9) (by kernel_rfl) rfl ?_;have an:=an.mono (Aa hH (iq.trans (f8.trans f9)));refine Bi (r:=(.vec .byte)) (l:=y) (m:=[(a0.getD b.toNat default).1]) 6 rfl rfl Adc Hv rfl (by decide) rfl hH dz rfl (((af.mono e).mono c).mono a) an ab ?_;intro nr s4 l9 d0 ga h4;have a:=a.trans (Aa hH ga);refine AL ⟨a.trans (Al hH d0),d0.at (i:=2) rfl,d0.at (i:=3) rfl,d0.at (i:=7) rfl⟩ fun kI956=>?_
     refine Er (i:=14) (by kernel_rfl) rfl ?_;have h2:=h2.mono (Aa hH (f8.trans (f9.trans ga)));refine Bi (r:=.tree) (l:=x) (m:=[((a0.getD b.toNat default).2)]) 5 rfl rfl Ade Fz rfl (by decide) rfl hH d0 rfl (((ae.mono e).mono c).mono a) h2 ac ?_;intro ns s5 ma b8 gb h5;have a:=a.trans (Aa hH gb);refine AL ⟨a.trans (Al hH b8),b8.at (i:=2) rfl,b8.at (i:=3) rfl,b8.at (i:=7) rfl⟩ fun kI958=>Er (i:=16) (by kernel_rfl) rfl<|B6 7 rfl rfl (row_one (b8.at (i:=4) rfl)) IJ b8 rfl rfl fun s6 mb d1=>C1 [0,1,2,3,4,5,6,7,8,9,10,11,12,13,14,15] (by kernel_rfl)<|Er (i:=17) (by kernel_rfl) rfl<|As 1 rfl<|C1 [0,1,2,3,4,5,6,7,8,9,10,11,12,13,14,15,16] (by kernel_rfl)<|Er (i:=18) (by kernel_rfl) rfl<|As 1 rfl<|F9 (by kernel_rfl)<|D6 (by kernel_rfl) ?_;have h3:=h3.mono (Aa hH (ga.trans (gb.trans d1)));have h4:=h4.mono (Aa hH (gb.trans d1));have h5:=h5.mono (Aa hH d1);have a:=a.trans (Aa hH d1)
     refine A6 ((aa++[(d.1.1,d.1.2.1,d.1.2.2)]),(x++[((a0.getD b.toNat default).2)]),(y++[(a0.getD b.toNat default).1]),nq,l8,ns,ma,nr,l9) (Sub.of rfl) ⟨mb,((g.mono c).mono a),((k.mono c).mono a),((o.mono c).mono a),h3,h5,h4,h⟩
    refine AB h fun ah h=>AB h fun ab h=>AB h fun ac h=>Br (r:=.tree) (l:=[((a0.getD b.toNat default).2)]) rfl (fun _=>Iu _ _ _ _ _ _) rfl (B2 1) hH a2 (.c5 (Go.E.Rp.Dt ⟨_,_,rfl,rfl,⟨_,_,rfl,rfl,⟨_,_,rfl,⟨_,rfl,(e646h3.mono (Ae hH))⟩,⟨_,_,rfl,⟨_,rfl,(e646h4.mono (Ae hH))⟩,⟨_,rfl,(e646h5.mono (Ae hH))⟩⟩⟩⟩⟩) .nil) ?_;intro s7 s8 pi b9 jr au;have a:=a.trans (Aa hH jr);refine AL ⟨a.trans (Al hH b9),b9.at (i:=2) rfl,b9.at (i:=3) rfl,b9.at (i:=7) rfl⟩ fun kI961=>WH (i:=3) (j:=8) (by kernel_rfl) rfl rfl ?_ ?_
    ·have g:=g.mono (Aa hH (p.trans (q.trans (t.trans u))));have k:=k.mono (Aa hH (p.trans (q.trans (t.trans u))));have o:=o.mono (Aa hH (p.trans (q.trans (t.trans u))));have c:=c.trans (Aa hH (a9.trans (ba.trans (bb.trans bf))));refine Br (r:=Ad2) (l:=[(d.1.1,d.1.2.1,d.1.2.2)]) rfl (fun _=>NU _ _ _ _) rfl (B2 1) hH b9 (.c3 ⟨_,_,rfl,⟨_,rfl,((g.mono c).mono a)⟩,⟨_,_,rfl,⟨_,rfl,((k.mono c).mono a)⟩,⟨_,rfl,((o.mono c).mono a)⟩⟩⟩ .nil) ?_;intro s9 ta pj ca gc ev;have a:=a.trans (Aa hH gc);refine AL ⟨a.trans (Al hH ca),ca.at (i:=2) rfl,ca.at (i:=3) rfl,ca.at (i:=7) rfl⟩ fun kI963=>WH (i:=4) (j:=8) (by kernel_rfl) rfl rfl ?_ ?_
     ·have e:=e.trans (Aa hH (aj.trans (ak.trans (al.trans (p.trans (q.trans (t.trans u)))))));refine Bi (r:=Ad2) (l:=aa) (m:=[(d.1.1,d.1.2.1,d.1.2.2)]) 4 rfl rfl Adn Fq rfl (by decide) rfl hH ca rfl (((ai.mono e).mono c).mono a) ev ah ?_;intro nt tb mc d2 ir h6;have a:=a.trans (Aa hH ir);refine AL ⟨a.trans (Al hH d2),d2.at (i:=2) rfl,d2.at (i:=3) rfl,d2.at (i:=7) rfl⟩ fun kI965=>A1 15 ad kI965 (by kernel_rfl) rfl (fun _ _=>Af rfl Adl rfl IJ) rfl<|Er (i:=8) (by kernel_rfl) rfl<|Br (r:=(.vec .byte)) (l:=[(a0.getD b.toNat default).1]) rfl (fun _=>Kg _ e646h0.one _) rfl (B2 1) hH d2 (.c1 ⟨_,rfl,(e646h0.mono (Ae hH))⟩ .nil) ?_;intro tc td pk d3 gd md;have a:=a.trans (Aa hH gd);refine AL ⟨a.trans (Al hH d3),d3.at (i:=2) rfl,d3.at (i:=3) rfl,d3.at (i:=7) rfl⟩ fun kI967=>Er (i:=9) (by kernel_rfl) rfl<|Bi (r:=(.vec .byte)) (l:=y) (m:=[(a0.getD b.toNat default).1]) 6 rfl rfl Adc Hv rfl (by decide) rfl hH d3 rfl (((af.mono e).mono c).mono a) md ab ?_;intro nu te me d4 ge h7
      have a:=a.trans (Aa hH ge);refine AL ⟨a.trans (Al hH d4),d4.at (i:=2) rfl,d4.at (i:=3) rfl,d4.at (i:=7) rfl⟩ fun kI969=>Er (i:=14) (by kernel_rfl) rfl ?_;have au:=au.mono (Aa hH (gc.trans (ir.trans (gd.trans ge))));refine Bi (r:=.tree) (l:=x) (m:=[((a0.getD b.toNat default).2)]) 5 rfl rfl Ade Fz rfl (by decide) rfl hH d4 rfl (((ae.mono e).mono c).mono a) au ac ?_;intro nv tf mf cb gf h8;have a:=a.trans (Aa hH gf);refine AL ⟨a.trans (Al hH cb),cb.at (i:=2) rfl,cb.at (i:=3) rfl,cb.at (i:=7) rfl⟩ fun kI971=>Er (i:=16) (by kernel_rfl) rfl<|B6 7 rfl rfl (row_one (cb.at (i:=4) rfl)) IJ cb rfl rfl fun tg mg d5=>C1 [0,1,2,3,4,5,6,7,8,9,10,11,12,13,14,15] (by kernel_rfl)<|Er (i:=17) (by kernel_rfl) rfl<|As 1 rfl<|C1 [0,1,2,3,4,5,6,7,8,9,10,11,12,13,14,15,16] (by kernel_rfl)<|Er (i:=18) (by kernel_rfl) rfl<|As 1 rfl<|F9 (by kernel_rfl)<|D6 (by kernel_rfl) ?_;have h6:=h6.mono (Aa hH (gd.trans (ge.trans (gf.trans d5))));have h7:=h7.mono (Aa hH (gf.trans d5));have h8:=h8.mono (Aa hH d5)
      have a:=a.trans (Aa hH d5);refine A6 ((aa++[(d.1.1,d.1.2.1,d.1.2.2)]),(x++[((a0.getD b.toNat default).2)]),(y++[(a0.getD b.toNat default).1]),nt,mc,nv,mf,nu,me) (Sub.of rfl) ⟨mg,((g.mono c).mono a),((k.mono c).mono a),((o.mono c).mono a),h6,h8,h7,h⟩
     refine Br (r:=(.vec .byte)) (l:=[(a0.getD b.toNat default).1]) rfl (fun _=>Kg _ e646h0.one _) rfl (B2 1) hH ca (.c1 ⟨_,rfl,(e646h0.mono (Ae hH))⟩ .nil) ?_;intro th ti pl d6 gg h9;have a:=a.trans (Aa hH gg);refine AL ⟨a.trans (Al hH d6),d6.at (i:=2) rfl,d6.at (i:=3) rfl,d6.at (i:=7) rfl⟩ fun kI974=>Er (i:=4) (by kernel_rfl) rfl ?_;have e:=e.trans (Aa hH (aj.trans (ak.trans (al.trans (p.trans (q.trans (t.trans u)))))));have ev:=ev.mono (Aa hH gg);refine Bi (r:=Ad2) (l:=aa) (m:=[(d.1.1,d.1.2.1,d.1.2.2)]) 4 rfl rfl Adn Fq rfl (by decide) rfl hH d6 rfl (((ai.mono e).mono c).mono a) ev ah ?_;intro nx tj mh d7 gh ia;have a:=a.trans (Aa hH gh);refine AL ⟨a.trans (Al hH d7),d7.at (i:=2) rfl,d7.at (i:=3) rfl,d7.at (i:=7) rfl⟩ fun kI976=>A1 15 ad kI976 (by kernel_rfl) rfl (fun _ _=>Af rfl Adl rfl IJ) rfl<|Er (i:=9) (by kernel_rfl) rfl ?_;have h9:=h9.mono (Aa hH gh)
     refine Bi (r:=(.vec .byte)) (l:=y) (m:=[(a0.getD b.toNat default).1]) 6 rfl rfl Adc Hv rfl (by decide) rfl hH d7 rfl (((af.mono e).mono c).mono a) h9 ab ?_;intro ny tk mi d8 gi ib;have a:=a.trans (Aa hH gi);refine AL ⟨a.trans (Al hH d8),d8.at (i:=2) rfl,d8.at (i:=3) rfl,d8.at (i:=7) rfl⟩ fun kI978=>Er (i:=14) (by kernel_rfl) rfl ?_;have au:=au.mono (Aa hH (gc.trans (gg.trans (gh.trans gi))));refine Bi (r:=.tree) (l:=x) (m:=[((a0.getD b.toNat default).2)]) 5 rfl rfl Ade Fz rfl (by decide) rfl hH d8 rfl (((ae.mono e).mono c).mono a) au ac ?_;intro nz tl mj cc gj ic;have a:=a.trans (Aa hH gj);refine AL ⟨a.trans (Al hH cc),cc.at (i:=2) rfl,cc.at (i:=3) rfl,cc.at (i:=7) rfl⟩ fun kI980=>Er (i:=16) (by kernel_rfl) rfl<|B6 7 rfl rfl (row_one (cc.at (i:=4) rfl)) IJ cc rfl rfl fun tm mk d9=>C1 [0,1,2,3,4,5,6,7,8,9,10,11,12,13,14,15] (by kernel_rfl)<|Er (i:=17) (by kernel_rfl) rfl<|As 1 rfl<|C1 [0,1,2,3,4,5,6,7,8,9,10,11,12,13,14,15,16] (by kernel_rfl)<|Er (i:=18) (by kernel_rfl) rfl<|As 1 rfl<|F9 (by kernel_rfl) ?_
     refine D6 (by kernel_rfl) ?_;have ia:=ia.mono (Aa hH (gi.trans (gj.trans d9)));have ib:=ib.mono (Aa hH (gj.trans d9));have ic:=ic.mono (Aa hH d9);have a:=a.trans (Aa hH d9);refine A6 ((aa++[(d.1.1,d.1.2.1,d.1.2.2)]),(x++[((a0.getD b.toNat default).2)]),(y++[(a0.getD b.toNat default).1]),nx,mh,nz,mj,ny,mi) (Sub.of rfl) ⟨mk,((g.mono c).mono a),((k.mono c).mono a),((o.mono c).mono a),ia,ic,ib,h⟩
    refine Br (r:=(.vec .byte)) (l:=[(a0.getD b.toNat default).1]) rfl (fun _=>Kg _ e646h0.one _) rfl (B2 1) hH b9 (.c1 ⟨_,rfl,(e646h0.mono (Ae hH))⟩ .nil) ?_;intro tn tp pm ea is ie;have a:=a.trans (Aa hH is);refine AL ⟨a.trans (Al hH ea),ea.at (i:=2) rfl,ea.at (i:=3) rfl,ea.at (i:=7) rfl⟩ fun kI983=>Er (i:=3) (by kernel_rfl) rfl ?_;have g:=g.mono (Aa hH (p.trans (q.trans (t.trans u))));have k:=k.mono (Aa hH (p.trans (q.trans (t.trans u))));have o:=o.mono (Aa hH (p.trans (q.trans (t.trans u))));have c:=c.trans (Aa hH (a9.trans (ba.trans (bb.trans bf))));refine Br (r:=Ad2) (l:=[(d.1.1,d.1.2.1,d.1.2.2)]) rfl (fun _=>NU _ _ _ _) rfl (B2 1) hH ea (.c3 ⟨_,_,rfl,⟨_,rfl,((g.mono c).mono a)⟩,⟨_,_,rfl,⟨_,rfl,((k.mono c).mono a)⟩,⟨_,rfl,((o.mono c).mono a)⟩⟩⟩ .nil) ?_;intro tq tr pn eb gk ml;have a:=a.trans (Aa hH gk);refine AL ⟨a.trans (Al hH eb),eb.at (i:=2) rfl,eb.at (i:=3) rfl,eb.at (i:=7) rfl⟩ fun kI985=>Er (i:=4) (by kernel_rfl) rfl ?_
    have e:=e.trans (Aa hH (aj.trans (ak.trans (al.trans (p.trans (q.trans (t.trans u)))))));refine Bi (r:=Ad2) (l:=aa) (m:=[(d.1.1,d.1.2.1,d.1.2.2)]) 4 rfl rfl Adn Fq rfl (by decide) rfl hH eb rfl (((ai.mono e).mono c).mono a) ml ah ?_;intro n0 ts mm ec gl ig;have a:=a.trans (Aa hH gl);refine AL ⟨a.trans (Al hH ec),ec.at (i:=2) rfl,ec.at (i:=3) rfl,ec.at (i:=7) rfl⟩ fun kI987=>A1 15 ad kI987 (by kernel_rfl) rfl (fun _ _=>Af rfl Adl rfl IJ) rfl<|Er (i:=9) (by kernel_rfl) rfl ?_;have ie:=ie.mono (Aa hH (gk.trans gl));refine Bi (r:=(.vec .byte)) (l:=y) (m:=[(a0.getD b.toNat default).1]) 6 rfl rfl Adc Hv rfl (by decide) rfl hH ec rfl (((af.mono e).mono c).mono a) ie ab ?_;intro n1 tt mn ed gm ih;have a:=a.trans (Aa hH gm);refine AL ⟨a.trans (Al hH ed),ed.at (i:=2) rfl,ed.at (i:=3) rfl,ed.at (i:=7) rfl⟩ fun kI989=>Er (i:=14) (by kernel_rfl) rfl ?_;have au:=au.mono (Aa hH (is.trans (gk.trans (gl.trans gm))))
    refine Bi (r:=.tree) (l:=x) (m:=[((a0.getD b.toNat default).2)]) 5 rfl rfl Ade Fz rfl (by decide) rfl hH ed rfl (((ae.mono e).mono c).mono a) au ac ?_;intro n2 tu mo cd gn ii;have a:=a.trans (Aa hH gn);refine AL ⟨a.trans (Al hH cd),cd.at (i:=2) rfl,cd.at (i:=3) rfl,cd.at (i:=7) rfl⟩ fun kI991=>Er (i:=16) (by kernel_rfl) rfl<|B6 7 rfl rfl (row_one (cd.at (i:=4) rfl)) IJ cd rfl rfl fun tv mp ee=>C1 [0,1,2,3,4,5,6,7,8,9,10,11,12,13,14,15] (by kernel_rfl)<|Er (i:=17) (by kernel_rfl) rfl<|As 1 rfl<|C1 [0,1,2,3,4,5,6,7,8,9,10,11,12,13,14,15,16] (by kernel_rfl)<|Er (i:=18) (by kernel_rfl) rfl<|As 1 rfl<|F9 (by kernel_rfl)<|D6 (by kernel_rfl) ?_;have ig:=ig.mono (Aa hH (gm.trans (gn.trans ee)));have ih:=ih.mono (Aa hH (gn.trans ee));have ii:=ii.mono (Aa hH ee);have a:=a.trans (Aa hH ee)
    refine A6 ((aa++[(d.1.1,d.1.2.1,d.1.2.2)]),(x++[((a0.getD b.toNat default).2)]),(y++[(a0.getD b.toNat default).1]),n0,mm,n2,mo,n1,mn) (Sub.of rfl) ⟨mp,((g.mono c).mono a),((k.mono c).mono a),((o.mono c).mono a),ig,ii,ih,h⟩
   rintro⟨ek,el,em,cn,bc,co,bd,cp,be⟩ po ⟨i8,n3,n4,n5,js,jt,ju,h⟩;refine AJ<|Ar ?_;have ef:=i8.rG H;refine Av<|AB h fun mq h=>Ah (AK rfl mq) rfl<|As 1 rfl<|AQ ?_;have mr:=i8.AV (i:=0) rfl;have ms:=mr.AV (i:=0) rfl;have mt:=ms.AV (i:=0) rfl;have mu:=mt.AV (i:=0) rfl;have h:=CV.again h es;have ef:=ef.trans (Aa hH ((An (i:=0) rfl).trans ((An (i:=0) rfl).trans ((An (i:=0) rfl).trans (An (i:=0) rfl)))));refine AW (el,em,ek,(b+1),co,bd,cp,be,cn,bc,iy) (Sub.of rfl) ⟨mu,(js.mono ef),(jt.mono ef),(ju.mono ef),h⟩ (Nat.lt_succ_self _)
  refine B5<|AE<|A7 ?_;have h:=CV.out h es;refine Bk<|A6 (x,y,aa,a4,av,a5,aw,ap,ax) (Sub.of rfl) ⟨er,(ai.mono e),(ae.mono e),(af.mono e),h⟩
 rintro⟨e4,e5,a8,ep,ci,eq,cj,bg,a3⟩ pp ⟨i9,it,jv,jw,h⟩;have ag:=i9.rG H;refine Ai<|A3 AI rfl rfl i9 fun pq ja iu je _=>Ac<|Bw (σ:=Int×Int×Int×Adt×Int×(List Adu)×Value×Value) (fun⟨ew,ex,ey,ez,e0,e1,eg,eh⟩=>[(2,(Aas b1)),(3,(Aas b2)),(4,(Aas ch)),(12,(Aas ja))]) (fun⟨ew,ex,ey,ez,e0,e1,eg,eh⟩ wr=>FL w [.box ja [No ew,No ex] 28,.row bg 98 3 (a8).length a3,.box ch [No ey,eg,No e0,eh,bg] 52,.box b2 [No 0,No 0] 28,.box b1 [No 0,Aaq,No 0,Aaq,Aaq] 52] wr fun Oz=>AF Ad2 (gz H w wr Oz) a8 a3/\AA (.pair .st (.vec Ad4)) (gz H w wr Oz) eg ez/\AA Ad3 (gz H w wr Oz) eh e1/\(ER a8) ew ex ey ez e0 e1=some r) ?_ ?_
 ·refine Bs 1 rfl ?_;have ag:=ag.trans (Aa hH je);have jx:=iu.C8 hH (i:=3) rfl (jw.mono ag);have go:=iu.AV (i:=3) rfl;refine Aq h fun ce jy h=>Bf rfl rfl go (QM _ _ (Al hH go) (hU.mono (Ae hH)) jx jy) ?_;rintro _ pr ⟨gr,rfl,i2⟩ jz j0 gs;have ao:=i2.mono (Ds hH go jz);refine As 3 rfl<|Ah (Af rfl Adl rfl KN) rfl<|RM 3 0 rfl rfl rfl KN j0 rfl rfl rfl (Bb rfl (Bb ao.one I8)) fun ps j1 cf=>Ad 0 rfl AI j1 rfl (AT rfl) fun pt ei cg=>Ac<|Ai<|Ah (A5 0 rfl AcP rfl AI ei rfl) rfl<|Ah (AN rfl (fun _=>BL _)) rfl<|Ah (WZ rfl rfl ID (Ld _ _ _ _)) rfl<|Ac<|AO rfl h (fun j2 h=>?_) (fun j2 h=>?_)
  ·refine Av<|As 1 rfl ?_;have ag:=ag.trans (Aa hH ((An (i:=3) rfl).trans (gs.trans (cf.trans cg))));have j3:=ei.C8 hH (i:=2) rfl (jv.mono ag);have gp:=ei.AV (i:=2) rfl;refine Aq h fun e2 j4 h=>Bf rfl rfl gp (PC _ _ (Al hH gp) j3 j4) ?_;rintro _ pu ⟨jf,rfl,i3⟩ j5 j6 gt;have a7:=i3.mono (Ds hH gp j5);refine As 3 rfl<|Ah (Af rfl Adl rfl Mj) rfl<|RM 2 2 rfl rfl rfl Mj j6 rfl rfl rfl (Bb rfl (Bb a7.one I8)) fun pv j7 en=>Ad 0 rfl AI j7 rfl (AT rfl) fun pw j8 eo=>AQ ?_;have ao:=ao.mono (Aa hH (cf.trans (cg.trans ((An (i:=2) rfl).trans (gt.trans (en.trans eo))))));have ag:=ag.trans (Aa hH ((An (i:=2) rfl).trans (gt.trans (en.trans eo))));have a7:=a7.mono (Aa hH (en.trans eo));refine A6 (e2.2.1,e2.2.2,ce.1.1,ce.1.2,e2.1.1,e2.1.2,gr,jf) (Sub.of rfl) ⟨j8,(it.mono ag),ao,a7,h⟩
  refine Au ?_;have ag:=ag.trans (Aa hH ((An (i:=3) rfl).trans (gs.trans (cf.trans cg))));have j9:=ei.AV (i:=2) rfl;have ao:=ao.mono (Aa hH (cf.trans (cg.trans (An (i:=2) rfl))));have ag:=ag.trans (Aa hH (An (i:=2) rfl));refine A6 (ce.2.1,ce.2.2,ce.1.1,ce.1.2,0,[],gr,Aaq) (Sub.of rfl) ⟨j9,(it.mono ag),ao,(AA.nil _ _),h⟩
 rintro⟨ew,ex,ey,ez,e0,e1,eg,eh⟩ op ⟨ay,he1024_j424,gu,gv,h⟩;refine A9 ?_;have az:=ay.rG H;refine Ai<|Ah (A5 0 rfl AcP rfl AI ay rfl) rfl<|Ah (AN rfl (fun _=>BL _)) rfl<|Ah (JJ rfl rfl ID (Ld _ _ _ _)) rfl<|Ac<|Cf rfl h (fun ka h=>?_) (fun ka h=>?_)
 ·refine Ai<|Ah (AN rfl (fun _=>PN _)) rfl<|Aq h fun px kb h=>A8 rfl rfl ay (Cj _ _ (Al hH ay) kb) fun py oq kc n6=>Ad 4 rfl I3 kc rfl (AT rfl) fun pz kd n7=>Ad 3 rfl AI kd rfl (AT rfl) fun p0 gq n8=>Ac<|Ax<|Ay ?_
  cases h
  refine B0 rfl (.cell rfl Adl rfl I3 (AG (i:=4) gq rfl)) (.cell rfl AcP rfl AI (AG (i:=3) gq rfl)) ⟨gq.ext,_,_,_,rfl,(AA.nil _ _),(AA.nil _ _),Ck.nil⟩
 refine Au<|Ar<|Ai<|Ah (A5 2 rfl Adl rfl I3 ay rfl) rfl<|Ah (AN rfl (fun _=>BL _)) rfl<|Ad 4 rfl I3 ay rfl (Bb rfl (Bb (gu.mono az).one (Bb rfl (Bb (gv.mono az).one (Bb (row_one (ay.at (i:=1) rfl)) I8))))) fun p1 ke jg=>Ad 3 rfl AI ke rfl (AT rfl) fun p2 ej jh=>Ac<|Ax ?_
 cases h
 refine B0 rfl (.cell rfl Adl rfl I3 (AG (i:=4) ej rfl)) (.cell rfl AcP rfl AI (AG (i:=3) ej rfl)) ?_;have az:=az.trans (Aa hH (jg.trans jh));exact⟨ej.ext,_,_,_,rfl,((gu.mono az).mono (Dg hH)),((gv.mono az).mono (Dg hH)),(ej.GS hH (i:=1) rfl (he1024_j424.mono az))⟩
def BC(a0:(Int×Adt)×Adv×(List Ads)):Option Int:=
 some ((a0.2.2.length:Int))
theorem CB(w:World)(H:PH)(_hH:Le H (hp w)){a0:(Int×Adt)×Adv×(List Ads)}{a b c:Value}(_h0_0:AA (.pair .st (.vec Ad4)) H a (a0.1.2))(_h0_1:AA Ad3 H b (a0.2.1.2))(e:AA Ad2 H c (a0.2.2)){r:Int}(h:BC a0=some r):
  Ok prog 22 [.agg #[No a0.1.1,a,No a0.2.1.1,b,c]] w (fun v w'=>Ext w w'/\v=No r):=by
 refine Aw (n:=6) [(0,.agg #[No a0.1.1,a,No a0.2.1.1,b,c])] func22 rfl fun hL=>Ai<|Dq (t:=52) rfl rfl rfl hL fun g i d f _=>A4 1 rfl<|Ai<|Ah (Af rfl Adl rfl IJ) rfl<|Ah (Ag 0 rfl Adn rfl d rfl) rfl<|Ah (Bj rfl Adn e) rfl<|A4 1 rfl<|Ax ?_
 cases h
 refine Am rfl ⟨d.ext,rfl⟩
def FH(a:List Bool):Option ((List Bool)):=
 some a
def Fk(a1:List Int):(List Bool)×Int->Option (((List Bool)×Int) ⊕ ((List Bool))):=fun⟨b,a⟩=>
 if a<(a1.length:Int) then Bh (0<=a/\a<(a1.length:Int)) (Bh (0<=a1.getD a.toNat default/\a1.getD a.toNat default<(b.length:Int)) (Bh (C0 (a+1)) (some (Sum.inl ((b.set ((a1.getD a.toNat default).toNat) true),(a+1)))))) else Option.map Sum.inr (FH b)
def Hl(a1:List Int)(s:(List Bool)×Int):Option ((List Bool)):=Go.L.run (Fk a1) s
def GM(a0:(Int×Adt)×Adv×(List Ads))(a1:List Int):Option ((List Bool)):=
 Option.bind (BC ((a0.1.1,a0.1.2),(a0.2.1.1,a0.2.1.2),a0.2.2)) (fun a=>Bh (0<=a/\((1:Nat):Int) * a<=281474976710656/\a<=9223372036854775807) ((Hl a1) ((List.replicate a.toNat (false:Bool)),0)))
theorem Mp(w:World)(H:PH)(hH:Le H (hp w)){a0:(Int×Adt)×Adv×(List Ads)}{a1:List Int}{e f g k:Value}(ad:AA (.pair .st (.vec Ad4)) H e (a0.1.2))(ae:AA Ad3 H f (a0.2.1.2))(af:AA Ad2 H g (a0.2.2))(q:AA (.int .i64) H k a1){r:(List Bool)}(h:GM a0 a1=some r):
  Ok prog 91 [.agg #[No a0.1.1,e,No a0.2.1.1,f,g],k] w (fun v w'=>Ext w w'/\∃ u0,v=u0/\Ck 4 .bool H w w' u0 r):=by
 refine Aw (n:=22) [(0,.agg #[No a0.1.1,e,No a0.2.1.1,f,g]),(1,k)] func91 rfl fun hL=>Ai<|Dq (t:=52) rfl rfl rfl hL fun w1 b1 s ay _=>A4 1 rfl<|Ai<|Ah (A5 0 rfl Adl rfl I3 s rfl) rfl<|Aq h fun x2 ap h=>A8 rfl rfl s (CB (a0:=((a0.1.1,a0.1.2),(a0.2.1.1,a0.2.1.2),a0.2.2)) _ _ (Al hH s) (ad.mono (Ae hH)) (ae.mono (Ae hH)) (af.mono (Ae hH)) ap) fun w3 a6 aq a2=>AB h fun ar h=>St (r:=.bool) (z:=(false:Bool)) rfl rfl rfl Ado YQ rfl (fun _=>rfl) rfl hH aq ar fun v4 w4 au av a3 aw=>A4 1 rfl<|Bw (σ:=(List Bool)×(List Value)) (fun⟨m,d⟩=>[(5,v4)]) (fun⟨m,d⟩ wr=>FL w [.row v4 4 1 (m).length d,.box b1 [No a0.1.1,e,No a0.2.1.1,f,g] 52] wr fun Oz=>AF .bool (gz H w wr Oz) m d/\FH m=some r) ?_ ?_
 ·refine Bs 1 rfl<|Ah (Bj rfl Aa8 q) rfl<|A4 1 rfl<|A2 ?_;obtain⟨u,h⟩:=AY h;refine B8 (σ:=(List Bool)×Int×(List Value)×Nat) (fun⟨c,a,b,n⟩=>[(5,v4),(11,k),(12,No (a1.length:Int)),(13,No a)]) (fun⟨c,a,b,n⟩ wr=>FL w [.row v4 4 1 (c).length b,.box b1 [No a0.1.1,e,No a0.2.1.1,f,g] 52] wr fun Oz=>AF .bool (gz H w wr Oz) c b/\GR (Fk a1) n (c,a)=some r) (fun⟨c,a,b,n⟩=>n) ((List.replicate x2.toNat (false:Bool)),0,au,u) (Sub.of rfl) ⟨av,aw,h⟩ ?_;rintro⟨c,a,b,nn44⟩ a4 ⟨l,p,h⟩;obtain⟨u,a7,rfl,h,x⟩:=AX h;refine AD 1 rfl<|A9<|AO rfl h (fun ag h=>?_) (fun ag h=>?_)
  ·refine Au<|Ar<|A9<|A2<|Ai<|AB h fun y h=>Be rfl rfl Aa8 Dd q a.toNat (Hc y) (Ba y) rfl ?_;rintro a8 _ rfl ah;refine Ah (Bu rfl AaA rfl ah (hH.trans l.arg)) rfl<|A4 1 rfl<|Av<|As 2 rfl<|AB h fun o h=>Kv 0 rfl rfl Ado YQ l rfl ((a1.getD a.toNat default).toNat) (Hc o) (Ba o) rfl fun a9 ai=>Kw (z:=true) (j:=(a1.getD a.toNat default).toNat) 0 rfl rfl rfl YQ hH l rfl p ai rfl (Ba o) rfl fun ba aj ak ax al=>AQ<|AJ<|Ar<|Av<|AB h fun am h=>Ah (AK rfl am) rfl<|As 1 rfl<|AQ ?_;have h:=CV.again h x;refine AW ((c.set ((a1.getD a.toNat default).toNat) true),(a+1),aj,u) (Sub.of rfl) ⟨ak,al,h⟩ (Nat.lt_succ_self _)
  refine B5<|AE<|A7 ?_;have h:=CV.out h x;refine Bk<|A6 (c,b) (Sub.of rfl) ⟨l,p,h⟩
 rintro⟨m,d⟩ a5 ⟨aa,ac,h⟩;refine AD 2 rfl<|Ax ?_
 cases h
 refine Am rfl ⟨aa.ext,_,rfl,(aa.GS hH (i:=0) rfl ac)⟩
def HZ(a:List Int):Option ((List Int)):=
 some a
def Hp(a0:List (Int×Int)):(List Int)×Int->Option (((List Int)×Int) ⊕ ((List Int))):=fun⟨b,a⟩=>
 if a<(a0.length:Int) then Bh (0<=a/\a<(a0.length:Int)) (Bh (Go.E.Ij 8 (b.length+([(a0.getD a.toNat default).1]).length)) (Bh (C0 (a+1)) (some (Sum.inl ((b++[(a0.getD a.toNat default).1]),(a+1)))))) else Option.map Sum.inr (HZ b)
def J6(a0:List (Int×Int))(s:(List Int)×Int):Option ((List Int)):=Go.L.run (Hp a0) s
def JF(a0:List (Int×Int)):Option ((List Int)):=
 (J6 a0) (([]:List Int),0)
theorem OZ(w:World)(H:PH)(hH:Le H (hp w)){a0:List (Int×Int)}{g:Value}(q:AA Ad4 H g a0){r:(List Int)}(h:JF a0=some r):
  Ok prog 145 [g] w (fun v w'=>Ext w w'/\∃ u0,v=u0/\Ck 3 (.int .i64) H w w' u0 r):=by
 refine Aw (n:=19) [(0,g)] func145 rfl fun hL=>AD 1 rfl<|Bs 1 rfl ?_;obtain⟨ao,au,ap⟩:=Ez (.int .i64) H 3 hL;refine Ac<|Bw (σ:=(List Int)×Value×(List Value)) (fun⟨k,j,e⟩=>[(3,j)]) (fun⟨k,j,e⟩ wr=>FL w [.row j 3 1 (k).length e] wr fun Oz=>AF (.int .i64) (gz H w wr Oz) k e/\HZ k=some r) ?_ ?_
 ·refine Bs 1 rfl<|Ah (Bj rfl AcS q) rfl<|A4 1 rfl<|A2 ?_;obtain⟨s,h⟩:=AY h;refine B8 (σ:=(List Int)×Int×Value×(List Value)×Nat) (fun⟨c,a,d,b,n⟩=>[(3,d),(6,g),(7,No (a0.length:Int)),(8,No a)]) (fun⟨c,a,d,b,n⟩ wr=>FL w [.row d 3 1 (c).length b] wr fun Oz=>AF (.int .i64) (gz H w wr Oz) c b/\GR (Hp a0) n (c,a)=some r) (fun⟨c,a,d,b,n⟩=>n) (([]:List Int),0,Aaq,[],s) (Sub.of rfl) ⟨ao,ap,h⟩ ?_;rintro⟨c,a,d,b,nn46⟩ av ⟨o,f,h⟩;obtain⟨s,ay,rfl,h,t⟩:=AX h;refine AD 1 rfl<|A9<|AO rfl h (fun ad h=>?_) (fun ad h=>?_)
  ·refine Au<|Ar<|A9<|A2<|Ai<|AB h fun u h=>Be rfl rfl AcS Kb q a.toNat (Hc u) (Ba u) rfl ?_;rintro az _ ⟨_,_,rfl,rfl,rfl⟩ ae;refine Ah (C7 rfl Adb rfl Kb ae (hH.trans o.arg)) rfl<|A3 Kb rfl rfl o fun a1 a2 af z _=>Ad 0 rfl Kb af rfl (AT rfl) fun a3 x aa=>Ac<|Av<|As 1 rfl<|Ah (Af rfl Adb rfl Dd) rfl<|Ah (Ag 0 rfl AaA rfl x rfl) rfl<|Br (r:=(.int .i64)) (l:=[(a0.getD a.toNat default).1]) rfl (fun _=>HJ _ _) rfl (B2 1) hH x (.c1 rfl .nil) fun a4 a5 aw ag ab ah=>AB h fun ai h=>?_;have f:=f.mono (Aa hH (z.trans (aa.trans ab)));refine Bi (r:=(.int .i64)) (l:=c) (m:=[(a0.getD a.toNat default).1]) 1 rfl rfl Aa8 Dd rfl (by decide) rfl hH ag rfl f ah ai fun aq a6 aj ak ar p=>As 1 rfl<|AQ<|AJ<|Ar<|Av<|AB h fun al h=>Ah (AK rfl al) rfl<|As 1 rfl<|AQ ?_;have am:=ak.AV (i:=0) rfl;have h:=CV.again h t;have p:=p.mono (Aa hH (An (i:=0) rfl))
   refine AW ((c++[(a0.getD a.toNat default).1]),(a+1),aq,aj,s) (Sub.of rfl) ⟨am,p,h⟩ (Nat.lt_succ_self _)
  refine B5<|AE<|A7 ?_;have h:=CV.out h t;refine Bk<|A6 (c,d,b) (Sub.of rfl) ⟨o,f,h⟩
 rintro⟨k,j,e⟩ ax ⟨y,ac,h⟩;refine AD 2 rfl<|Ax ?_
 cases h
 refine Am rfl ⟨y.ext,_,rfl,(y.GS hH (i:=0) rfl ac)⟩
def Fl(a:List (Int×Int)):Option ((List Int)):=
 Option.bind (JF a) (fun b=>some b)
def Gs(a0:(Int×Adt)×Adv×(List Ads))(a1:Go.L.Qv):Option ((List Int)):=
 if a1.f.1=1 then Bh (0<=(0:Int)/\(0:Int)<(a1.f.2.1.length:Int)) (Option.bind (HX (a0.1.1,a0.1.2) (a1.f.2.1.getD ((0:Int).toNat) default)) (fun a=>Fl a.1)) else(if a1.f.1=2 then none else(if a1.f.1=3 then none else(if a1.f.1=4 then none else(if a1.f.1=5 then none else(if a1.f.1=6 then none else(if a1.f.1=7 then none else some ([])))))))
theorem LV(w:World)(H:PH)(hH:Le H (hp w))(hU:EE H){a0:(Int×Adt)×Adv×(List Ads)}{a1:Go.L.Qv}{g j k l m o:Value}(aa:AA (.pair .st (.vec Ad4)) H g (a0.1.2))(_h0_1:AA Ad3 H j (a0.2.1.2))(_h0_2:AA Ad2 H k (a0.2.2))(a2:AA .st H l (a1.f.2.1))(_h1_1:AA .byte H m (a1.f.2.2.2.1))(_h1_2:AA .Bg H o (a1.f.2.2.2.2.2.2)){r:(List Int)}(h:Gs a0 a1=some r):
  Ok prog 92 [.agg #[No a0.1.1,g,No a0.2.1.1,j,k],.agg #[No a1.f.1,l,Aat a1.f.2.2.1,m,No a1.f.2.2.2.2.1,No a1.f.2.2.2.2.2.1,o]] w (fun v w'=>Ext w w'/\∃ u0,v=u0/\Ck 3 (.int .i64) H w w' u0 r):=by
 refine Aw (n:=121) [(0,.agg #[No a0.1.1,g,No a0.2.1.1,j,k]),(1,.agg #[No a1.f.1,l,Aat a1.f.2.2.1,m,No a1.f.2.2.2.2.1,No a1.f.2.2.2.2.2.1,o])] func92 rfl fun hL=>Ai<|Dq (t:=52) rfl rfl rfl hL fun w1 b1 bm bt _=>Dq (t:=26) rfl rfl rfl bm fun w2 b2 ab bv _=>A4 1 rfl<|AD 1 rfl<|A9<|Ai<|Ah (Af rfl AcR rfl Dd) rfl<|Ah (Ag 0 rfl AaA rfl ab rfl) rfl<|Ac<|A2<|AD 2 rfl<|AO rfl h (fun bn h=>?_) (fun bn h=>?_)
 ·refine Bw (σ:=Adw×Value) (fun⟨c,a⟩=>[(6,a)]) (fun⟨c,a⟩ wr=>FL w [.box b2 [No a1.f.1,l,Aat a1.f.2.2.1,m,No a1.f.2.2.2.2.1,No a1.f.2.2.2.2.2.1,o] 26,.box b1 [No a0.1.1,g,No a0.2.1.1,j,k] 52] wr fun Oz=>AA Ad4 (gz H w wr Oz) a c/\Fl c=some r) ?_ ?_
  ·refine Sn (.q 0 (.q 1 (.q 2 (.q 3 (.q 4 (.q 5 (.h2 6 (.q 7 (.q 8 (.q 9 (.h 10 (.q 11 (.tail 12)))))) 10 (.h 6 (.q 7 (.q 8 (.q 9 (.q 11 (.tail 12))))))))))))) mixed (by kernel_rfl) (fun bz a3=>?_);have b:=ab.call a3;refine FK (Af rfl Adl rfl KN) rfl rfl<|FK (Qn 1 2 rfl AcY rfl KN b rfl rfl) rfl rfl<|FK (Af rfl AcR rfl LC) rfl rfl<|FK (Ag 0 rfl Ab1 rfl b rfl) rfl rfl<|AB h fun ac h=>L3 rfl rfl rfl Ab1 Kq a2 ((0:Int).toNat) (Hc ac) (Ba ac) rfl ?_;rintro b0 _ rfl a4;refine FK (Bu rfl AaQ rfl a4 (hH.trans b.arg)) rfl rfl<|Tl ?_ ?_
   ·refine Aq h fun ad p h=>BV rfl rfl rfl (fun bo s=>Kc _ _ (Al hH (b.call s)) (hU.mono (Ae hH)) (aa.mono (Ae hH)) p) ?_;rintro bo _ b3 s ae ⟨aq,rfl,af⟩;have ag:=b.call s;have a5:=ag.call ae;have d:=af.C8 hH ag ae;refine GQ 3 rfl<|L5 rfl AI rfl rfl a5 fun b4 b5 ah ar=>GQ 1 rfl<|DX (fun b6 ai=>?_);have a6:=ah.call ai;have au:=AP ah ai;refine Ad 0 rfl AI a6 rfl (AT rfl) fun b7 a7 av=>AQ ?_;have a8:=a7.AV (i:=0) rfl;have d:=d.mono (Aa hH (ar.trans (au.trans (av.trans (An (i:=0) rfl)))));refine A6 (ad.1,aq) (Sub.of rfl) ⟨a8,d,h⟩
   refine Aq h fun ad p h=>L5 rfl AI rfl rfl b fun b8 b9 aj bq=>BV rfl rfl rfl (fun bp u=>Kc _ _ (Al hH (aj.call u)) (hU.mono (Ae hH)) (aa.mono (Ae hH)) p) ?_;rintro bp _ ca u ak ⟨aw,rfl,al⟩;have am:=aj.call u;have an:=am.call ak;have e:=al.C8 hH am ak;refine GQ 4 rfl<|DX (fun cb ao=>?_);have a9:=an.call ao;have ax:=AP an ao;refine Ad 0 rfl AI a9 rfl (AT rfl) fun cc ba ay=>AQ ?_;have bb:=ba.AV (i:=0) rfl;have e:=e.mono (Aa hH (ax.trans (ay.trans (An (i:=0) rfl))));refine A6 (ad.1,aw) (Sub.of rfl) ⟨bb,e,h⟩
  rintro⟨c,a⟩ bw ⟨x,z,h⟩;refine Av<|As 1 rfl<|Aq h fun cd bc h=>Bf rfl rfl x (OZ _ _ (Al hH x) z bc) ?_;rintro br ce ⟨_,rfl,ap⟩ bd y az;obtain⟨bx,y,az,be⟩:=ap.take hH x bd;refine As 1 rfl<|AQ<|AJ<|Ar<|AD 2 rfl<|Ax ?_
  cases h
  refine Am rfl ⟨y.ext,_,rfl,(y.GS hH (i:=0) rfl be)⟩
 refine AD 2 rfl<|AO rfl h (fun bf h=>?_) (fun bf h=>?_)
 ·cases h
 refine AD 2 rfl<|AO rfl h (fun bg h=>?_) (fun bg h=>?_)
 ·cases h
 refine AD 2 rfl<|AO rfl h (fun bh h=>?_) (fun bh h=>?_)
 ·cases h
 refine AD 2 rfl<|AO rfl h (fun bi h=>?_) (fun bi h=>?_)
 ·cases h
 refine AD 2 rfl<|AO rfl h (fun bj h=>?_) (fun bj h=>?_)
 ·cases h
 refine AD 2 rfl<|AO rfl h (fun bk h=>?_) (fun bk h=>?_)
 ·cases h
 refine Au<|AJ<|Ar<|AD 2 rfl<|Ax ?_
 cases h
 refine Am rfl ⟨ab.ext,_,rfl,Ck.nil⟩
def Dp(a:List Bool):Option ((List Bool)):=
 some a
def Db(a1:Go.L.Qv)(b:List Bool):Int->Option ((Int) ⊕ ((List Bool))):=fun a=>
 if a<((a1.f.2.2.2.2.2.2.drop (1:Int).toNat).length:Int) then Bh (0<=a/\a<((a1.f.2.2.2.2.2.2.drop (1:Int).toNat).length:Int)) none else Option.map Sum.inr ((Dp b))
def ES(a1:Go.L.Qv)(a:List Bool)(s:Int):Option ((List Bool)):=Go.L.run (Db a1 a) s
def Cz(a1:Go.L.Qv)(a:List Bool):Option ((List Bool)):=
 Bh (0<=(1:Int)/\(1:Int)<=(a1.f.2.2.2.2.2.2.length:Int)) ((ES a1 a) (0:Int))
def Dc(a1:Go.L.Qv)(c:(List Bool)):(List Bool)×Int->Option (((List Bool)×Int) ⊕ ((List Bool))):=fun⟨b,a⟩=>
 if a<(c.length:Int) then Bh (0<=a/\a<(b.length:Int)) (Bh (0<=a/\a<(b.length:Int)) (Bh (C0 (a+1)) (some (Sum.inl ((b.set a.toNat (!(b.getD a.toNat default))),(a+1)))))) else Option.map Sum.inr ((Cz a1) b)
def ET(a1:Go.L.Qv)(a:(List Bool))(s:(List Bool)×Int):Option ((List Bool)):=Go.L.run (Dc a1 a) s
def CX(self:Ady->Go.L.Qv->Option ((List Bool)))(a0:(Int×Adt)×Adv×(List Ads))(a1:Go.L.Qv):Option ((List Bool)):=
 Option.bind (Hi a1.f.1) (fun c=>if c then Option.bind (Gs ((a0.1.1,a0.1.2),(a0.2.1.1,a0.2.1.2),a0.2.2) a1) (fun d=>Option.bind (GM ((a0.1.1,a0.1.2),(a0.2.1.1,a0.2.1.2),a0.2.2) d) (fun b=>some b)) else Bh (0<=(0:Int)/\(0:Int)<(a1.f.2.2.2.2.2.2.length:Int)) (Option.bind (self ((a0.1.1,a0.1.2),(a0.2.1.1,a0.2.1.2),a0.2.2) (a1.f.2.2.2.2.2.2.getD ((0:Int).toNat) default)) (fun a=>if a1.f.1=10 then(ET a1 a) (a,0) else(Cz a1) a)))
def DM(self:Ady->Go.L.Qv->Option ((List Bool))):Prop:=∀ (w:World) (H:PH) (hH:Le H (hp w)) (hU:EE H) {a0:(Int×Adt)×Adv×(List Ads)} {a1:Go.L.Qv} {a:Value} {b:Value} {c:Value} {d:Value} {e:Value} {g:Value} (j:AA (.pair .st (.vec Ad4)) H a (a0.1.2)) (k:AA Ad3 H b (a0.2.1.2)) (l:AA Ad2 H c (a0.2.2)) (m:AA .st H d (a1.f.2.1)) (n:AA .byte H e (a1.f.2.2.2.1)) (o:AA .Bg H g (a1.f.2.2.2.2.2.2)) {r:(List Bool)} (h:self a0 a1=some r),Ok prog 51 [.agg #[No a0.1.1,a,No a0.2.1.1,b,c],.agg #[No a1.f.1,d,Aat a1.f.2.2.1,e,No a1.f.2.2.2.2.1,No a1.f.2.2.2.2.2.1,g]] w (fun v w'=>Ext w w'/\∃ i,v=i/\Ck 4 .bool H w w' i r)
def CS:Nat->Ady->Go.L.Qv->Option ((List Bool))
 | 0=>fun _ _=>none
 | n+1=>CX (CS n)
def Gh:Ady->Go.L.Qv->Option ((List Bool)):=CS 1000
theorem JZ(self:Ady->Go.L.Qv->Option ((List Bool)))(hself:DM self):DM (CX self):=by
 intro w H hH hU a0 a1 o p s u v x ag ah ai bs bt aj r h;unfold DM at hself;refine Aw (n:=88) [(0,.agg #[No a0.1.1,o,No a0.2.1.1,p,s]),(1,.agg #[No a1.f.1,u,Aat a1.f.2.2.1,v,No a1.f.2.2.2.2.1,No a1.f.2.2.2.2.2.1,x])] func51 rfl fun hL=>Ai<|Dq (t:=52) rfl rfl rfl hL fun w1 b1 ca co _=>Dq (t:=26) rfl rfl rfl ca fun w2 b2 a4 cp _=>A4 1 rfl<|A9<|Ai<|Ah (Af rfl AcR rfl Dd) rfl<|Ah (Ag 0 rfl AaA rfl a4 rfl) rfl<|Aq h fun x3 cb h=>A8 rfl rfl a4 (J5 _ _ (Al hH a4) cb) fun w4 cz y cq=>Ac<|By rfl h (fun cc h=>?_) (fun cc h=>?_)
 ·refine IQ (.q 0 (.q 1 (.q 2 (.h 3 (.h 4 (.q 5 (.tail 6))))))) mixed (by kernel_rfl) (fun w7 cd=>?_);have au:=y.call cd
  iterate 2 refine FK (A5 1 rfl Adl rfl I3 au rfl) rfl rfl ?_
  refine FK (A5 0 rfl AcR rfl Bm au rfl) rfl rfl<|Aq h fun x9 ce h=>BV rfl rfl rfl (fun cf ak=>LV _ _ (Al hH (au.call ak)) (hU.mono (Ae hH)) (ag.mono (Ae hH)) (ah.mono (Ae hH)) (ai.mono (Ae hH)) (bs.mono (Ae hH)) (bt.mono (Ae hH)) (aj.mono (Ae hH)) ce) ?_;rintro cf ch c0 ak al ⟨_,rfl,a5⟩;have am:=au.call ak;have ac:=am.call al;have ci:=AP am al;have d:=a5.C8 hH am al;refine Aq h fun c1 bu h=>BV rfl rfl rfl (fun cg aa=>Mp _ _ (Al hH (ac.call aa)) (ag.mono (Ae hH)) (ah.mono (Ae hH)) (ai.mono (Ae hH)) (d.mono (Aa hH (AP ac aa))) bu) ?_;rintro cg cj c2 aa an ⟨_,rfl,a6⟩;have ao:=ac.call aa;have bl:=AP ac aa;have d:=d.mono (Aa hH bl);have ap:=ao.call an;have av:=AP ao an;obtain⟨cr,ap,av,aq⟩:=a6.take hH ao an;have d:=d.mono (Aa hH av);refine GQ 1 rfl<|DX (fun c3 a7=>?_);have a8:=ap.call a7;have aw:=AP ap a7;have d:=d.mono (Aa hH aw);have aq:=aq.mono (Aa hH aw);refine Ac<|Ax<|Ay ?_
  cases h
  refine Am rfl ⟨a8.ext,_,rfl,(a8.GS hH (i:=0) rfl aq)⟩
 refine Au<|Ar<|Ai<|Ah (A5 1 rfl Adl rfl I3 y rfl) rfl<|A4 2 rfl<|Bs 1 rfl<|Ah (Af rfl AcR rfl Jo) rfl<|Ah (Ag 0 rfl Adj rfl y rfl) rfl<|AB h fun a9 h=>Be rfl rfl Adj Bm aj ((0:Int).toNat) (Hc a9) (Ba a9) rfl ?_;rintro c4 _ e20t0 bv;obtain⟨_,_,rfl,rfl,⟨_,_,rfl,⟨e20v1,rfl,e20h1⟩,⟨_,_,rfl,rfl,⟨_,_,rfl,⟨e20v3,rfl,e20h3⟩,⟨_,_,rfl,rfl,⟨_,_,rfl,rfl,⟨e20v6,rfl,e20h6⟩⟩⟩⟩⟩⟩⟩:=Go.E.Rp.Gm e20t0;refine Ah (C7 rfl AcR rfl Bm bv (hH.trans y.arg)) rfl<|Aq h fun ax bw h=>XC [.agg #[No a0.1.1,o,No a0.2.1.1,p,s]] [] rfl rfl rfl y (hself _ _ (Al hH y) (hU.mono (Ae hH)) (ag.mono (Ae hH)) (ah.mono (Ae hH)) (ai.mono (Ae hH)) (e20h1.mono (Ae hH)) (e20h3.mono (Ae hH)) (e20h6.mono (Ae hH)) bw) ?_;rintro e c5 ⟨_,rfl,ba⟩ bx ab bm;obtain⟨bb,ab,bm,bc⟩:=ba.take hH y bx;refine A4 1 rfl ?_
 refine Bw (σ:=(List Bool)×(List Value)) (fun⟨k,g⟩=>[(3,(Aas b2)),(6,e)]) (fun⟨k,g⟩ wr=>FL w [.row e 4 1 (k).length g,.box b2 [No a1.f.1,u,Aat a1.f.2.2.1,v,No a1.f.2.2.2.2.1,No a1.f.2.2.2.2.2.1,x] 26,.box b1 [No a0.1.1,o,No a0.2.1.1,p,s] 52] wr fun Oz=>AF .bool (gz H w wr Oz) k g/\(Cz a1) k=some r) ?_ ?_
 ·refine Ai<|Ah (Af rfl AcR rfl Dd) rfl<|Ah (Ag 1 rfl AaA rfl ab rfl) rfl<|A4 1 rfl<|AO rfl h (fun bz h=>?_) (fun bz h=>?_)
  ·refine Bs 1 rfl<|Ah (O7 (i:=0) rfl Ado ab rfl) rfl<|A4 1 rfl<|A2 ?_;obtain⟨bd,h⟩:=AY h;refine B8 (σ:=(List Bool)×Int×(List Value)×Nat) (fun⟨m,a,l,n⟩=>[(3,(Aas b2)),(6,e),(32,No (ax.length:Int)),(33,No a)]) (fun⟨m,a,l,n⟩ wr=>FL w [.row e 4 1 (m).length l,.box b2 [No a1.f.1,u,Aat a1.f.2.2.1,v,No a1.f.2.2.2.2.1,No a1.f.2.2.2.2.2.1,x] 26,.box b1 [No a0.1.1,o,No a0.2.1.1,p,s] 52] wr fun Oz=>AF .bool (gz H w wr Oz) m l/\GR (Dc a1 ax) n (m,a)=some r) (fun⟨m,a,l,n⟩=>n) (ax,0,bb,bd) (Sub.of rfl) ⟨ab,bc,h⟩ ?_;rintro⟨m,a,l,nn67⟩ cs ⟨ad,ae,h⟩;obtain⟨bd,c6,rfl,h,be⟩:=AX h;refine AD 1 rfl<|A9<|AO rfl h (fun b0 h=>?_) (fun b0 h=>?_)
   ·refine Au<|Ar<|A9<|A2<|AD 2 rfl<|Av<|As 4 rfl<|AB h fun bf h=>Be rfl rfl Ado YQ (ad.Zi hH (i:=0) rfl ae) a.toNat (Hc bf) (Ba bf) rfl ?_;rintro c7 _ rfl b3;refine Ah (Bu rfl Aby rfl b3 (Le.refl _)) rfl<|As 1 rfl<|AB h fun ar h=>Kv 0 rfl rfl Ado YQ ad rfl a.toNat (Hc ar) (Ba ar) rfl fun c8 b4=>Kw (z:=!(m.getD a.toNat default)) (j:=a.toNat) 0 rfl rfl rfl YQ hH ad rfl ae b4 rfl (Ba ar) rfl fun c9 b5 b6 ck b7=>AQ<|AJ<|Ar<|Av<|AB h fun b8 h=>Ah (AK rfl b8) rfl<|As 1 rfl<|AQ ?_;have h:=CV.again h be;refine AW ((m.set a.toNat (!(m.getD a.toNat default))),(a+1),b5,bd) (Sub.of rfl) ⟨b6,b7,h⟩ (Nat.lt_succ_self _)
   refine B5<|AE<|A7 ?_;have h:=CV.out h be;refine Bk<|A6 (m,l) (Sub.of rfl) ⟨ad,ae,h⟩
  refine Au<|A6 (ax,bb) (Sub.of rfl) ⟨ab,bc,h⟩
 rintro⟨k,g⟩ ct ⟨bg,b,h⟩;refine Bw (σ:=Unit) (fun(_:Unit)=>[(6,e)]) (fun(_:Unit) wr=>FL w [.row e 4 1 (k).length g,.box b2 [No a1.f.1,u,Aat a1.f.2.2.1,v,No a1.f.2.2.2.2.1,No a1.f.2.2.2.2.2.1,x] 26,.box b1 [No a0.1.1,o,No a0.2.1.1,p,s] 52] wr fun Oz=>AF .bool (gz H w wr Oz) k g/\(Dp k)=some r) ?_ ?_
 ·refine Ai<|Ah (Af rfl AcR rfl Jo) rfl<|Ah (Ag 1 rfl Adj rfl bg rfl) rfl<|AB h fun bn h=>Tt rfl rfl Adj Bm aj bn rfl fun b9 ay=>Ah (Bj rfl Adj ay) rfl<|A4 1 rfl<|A2 ?_;obtain⟨bh,h⟩:=AY h;refine B8 (σ:=Int×Nat) (fun⟨c,n⟩=>[(6,e),(47,b9),(48,No ((a1.f.2.2.2.2.2.2.drop (1:Int).toNat).length:Int)),(49,No c)]) (fun⟨c,n⟩ wr=>FL w [.row e 4 1 (k).length g,.box b2 [No a1.f.1,u,Aat a1.f.2.2.1,v,No a1.f.2.2.2.2.1,No a1.f.2.2.2.2.2.1,x] 26,.box b1 [No a0.1.1,o,No a0.2.1.1,p,s] 52] wr fun Oz=>AF .bool (gz H w wr Oz) k g/\GR (Db a1 k) n c=some r) (fun⟨c,n⟩=>n) (0,bh) (Sub.of rfl) ⟨bg,b,h⟩ ?_;rintro⟨c,nn113⟩ cl ⟨af,b,h⟩;obtain⟨bh,cu,rfl,h,bo⟩:=AX h;refine AD 1 rfl<|A9<|AO rfl h (fun bp h=>?_) (fun bp h=>?_)
  ·refine Au<|Ar<|A9<|A2<|Ai<|AB h fun az h=>Be rfl rfl Adj Bm ay c.toNat (Hc az) (Ba az) rfl ?_;rintro cv _ e117t0 bq;obtain⟨_,_,rfl,rfl,⟨_,_,rfl,⟨e117v1,rfl,e117h1⟩,⟨_,_,rfl,rfl,⟨_,_,rfl,⟨e117v3,rfl,e117h3⟩,⟨_,_,rfl,rfl,⟨_,_,rfl,rfl,⟨e117v6,rfl,e117h6⟩⟩⟩⟩⟩⟩⟩:=Go.E.Rp.Gm e117t0;refine Ah (C7 rfl AcR rfl Bm bq (hH.trans af.arg)) rfl<|A3 Bm rfl rfl af ?_;intro cw cx br bi _;have b:=b.mono (Aa hH bi);refine Ad 0 rfl Bm br rfl (Bb rfl (Bb e117h1.one (Bb rfl (Bb e117h3.one (Bb rfl (Bb rfl (Bb e117h6.one I8))))))) ?_;intro cy cm bj;have b:=b.mono (Aa hH bj);refine Ac ?_
   cases h
  refine B5<|AE<|A7 ?_;have h:=CV.out h bo;refine Bk<|A6 () (Sub.of rfl) ⟨af,b,h⟩
 rintro _ cn ⟨a2,b,h⟩;refine AD 2 rfl<|Ax ?_
 cases h
 refine Am rfl ⟨a2.ext,_,rfl,(a2.GS hH (i:=0) rfl b)⟩
theorem KB(n:Nat):DM (CS n):=by
 induction n with
 | zero=>unfold DM;intros;rename_i h;cases h
 | succ n ih=>exact JZ (CS n) ih
theorem Lu(w:World)(H:PH)(hH:Le H (hp w))(hU:EE H){a0:(Int×Adt)×Adv×(List Ads)}{a1:Go.L.Qv}{a b c d e g:Value}(i:AA (.pair .st (.vec Ad4)) H a (a0.1.2))(j:AA Ad3 H b (a0.2.1.2))(k:AA Ad2 H c (a0.2.2))(l:AA .st H d (a1.f.2.1))(m:AA .byte H e (a1.f.2.2.2.1))(n:AA .Bg H g (a1.f.2.2.2.2.2.2)){r:(List Bool)}(h:Gh a0 a1=some r):Ok prog 51 [.agg #[No a0.1.1,a,No a0.2.1.1,b,c],.agg #[No a1.f.1,d,Aat a1.f.2.2.1,e,No a1.f.2.2.2.2.1,No a1.f.2.2.2.2.2.1,g]] w (fun v w'=>Ext w w'/\∃ o,v=o/\Ck 4 .bool H w w' o r):=KB 1000 w H hH hU i j k l m n h
def FI(a:List Int):Option ((List Int)×(Int×Int)):=
 some (a,(0,0))
def Fm(a2:List Bool)(c:(List Bool)):(List Int)×Int->Option (((List Int)×Int) ⊕ ((List Int)×(Int×Int))):=fun⟨b,a⟩=>
 if a<(c.length:Int) then Bh (0<=a/\a<(c.length:Int)) (if c.getD a.toNat default then Bh (0<=a/\a<(a2.length:Int)) (if a2.getD a.toNat default then Bh (Go.E.Ij 8 (b.length+([a]).length)) (Bh (C0 (a+1)) (some (Sum.inl ((b++[a]),(a+1))))) else Bh (C0 (a+1)) (some (Sum.inl (b,(a+1))))) else Bh (C0 (a+1)) (some (Sum.inl (b,(a+1))))) else Option.map Sum.inr (FI b)
def Hm(a2:List Bool)(a:(List Bool))(s:(List Int)×Int):Option ((List Int)×(Int×Int)):=Go.L.run (Fm a2 a) s
def F6(a0:(Int×Adt)×Adv×(List Ads))(a1:Go.L.Qv)(a2:List Bool):Option ((List Int)×(Int×Int)):=
 Option.bind (FQ a1) (fun a=>if a.1=0/\a.2=0 then Option.bind (BC ((a0.1.1,a0.1.2),(a0.2.1.1,a0.2.1.2),a0.2.2)) (fun b=>if(a2.length:Int)=b then Option.bind (Gh ((a0.1.1,a0.1.2),(a0.2.1.1,a0.2.1.2),a0.2.2) a1) (fun c=>(Hm a2 c) (([]:List Int),0)) else none) else none)
theorem Jr(w:World)(H:PH)(hH:Le H (hp w))(hU:EE H){a0:(Int×Adt)×Adv×(List Ads)}{a1:Go.L.Qv}{a2:List Bool}{p q u x y z ab:Value}(an:AA (.pair .st (.vec Ad4)) H p (a0.1.2))(ao:AA Ad3 H q (a0.2.1.2))(ap:AA Ad2 H u (a0.2.2))(aq:AA .st H x (a1.f.2.1))(ar:AA .byte H y (a1.f.2.2.2.1))(au:AA .Bg H z (a1.f.2.2.2.2.2.2))(av:AA .bool H ab a2){r:(List Int)×(Int×Int)}(h:F6 a0 a1 a2=some r):
  Ok prog 24 [.agg #[No a0.1.1,p,No a0.2.1.1,q,u],.agg #[No a1.f.1,x,Aat a1.f.2.2.1,y,No a1.f.2.2.2.2.1,No a1.f.2.2.2.2.2.1,z],ab] w (fun v w'=>Ext w w'/\∃ u0,v=.tuple #[u0,.agg #[No r.2.1,No r.2.2]]/\Ck 3 (.int .i64) H w w' u0 (r.1)):=by
 refine Aw (n:=47) [(0,.agg #[No a0.1.1,p,No a0.2.1.1,q,u]),(1,.agg #[No a1.f.1,x,Aat a1.f.2.2.1,y,No a1.f.2.2.2.2.1,No a1.f.2.2.2.2.2.1,z]),(2,ab)] func24 rfl fun hL=>Ai<|Dq (t:=52) rfl rfl rfl hL fun w1 b1 bw cc _=>Dq (t:=26) rfl rfl rfl bw fun w2 b2 bz cd _=>As 1 rfl<|A3 AI rfl rfl bz fun w3 b3 aw ce _=>Ac<|A9<|Ai<|Ah (A5 1 rfl AcR rfl Bm aw rfl) rfl<|Aq h fun x4 b0 h=>A8 rfl rfl aw (I7 (a0:=a1) _ _ (Al hH aw) (hU.mono (Ae hH)) (aq.mono (Ae hH)) (ar.mono (Ae hH)) (au.mono (Ae hH)) b0) fun w5 cp b4 cf=>A3 AI rfl rfl b4 fun w6 b6 b7 cg _=>Ad 0 rfl AI b7 rfl (AT rfl) fun w7 al ch=>Ac<|Ai<|Ah (A5 0 rfl AcP rfl AI al rfl) rfl<|Ah (AN rfl (fun _=>BL _)) rfl<|Ah (JJ rfl rfl ID (Ld _ _ _ _)) rfl<|Ac<|Cf rfl h (fun b8 h=>?_) (fun b8 h=>?_)
 ·cases h
 refine Au<|Ar<|A9<|Bs 1 rfl<|Ah (Bj rfl Ado av) rfl<|Ah (A5 3 rfl Adl rfl I3 al rfl) rfl<|Aq h fun cq bi h=>A8 rfl rfl al (CB (a0:=((a0.1.1,a0.1.2),(a0.2.1.1,a0.2.1.2),a0.2.2)) _ _ (Al hH al) (an.mono (Ae hH)) (ao.mono (Ae hH)) (ap.mono (Ae hH)) bi) fun cr ci bj b9=>A4 1 rfl<|Cf rfl h (fun bk h=>?_) (fun bk h=>?_)
 ·cases h
 refine Au<|Ar<|Bs 1 rfl ?_;obtain⟨aa,ca,ak⟩:=Ez (.int .i64) H 3 bj;refine Ac<|Bw (σ:=(List Int)×Value×(List Value)) (fun⟨ag,ac,o⟩=>[(7,(Aas b3)),(9,ac)]) (fun⟨ag,ac,o⟩ wr=>FL w [.row ac 3 1 (ag).length o,.box b6 [No x4.1,No x4.2] 28,.box b3 [No 0,No 0] 28,.box b2 [No a1.f.1,x,Aat a1.f.2.2.1,y,No a1.f.2.2.2.2.1,No a1.f.2.2.2.2.2.1,z] 26,.box b1 [No a0.1.1,p,No a0.2.1.1,q,u] 52] wr fun Oz=>AF (.int .i64) (gz H w wr Oz) ag o/\FI ag=some r) ?_ ?_
 ·refine Ai<|Ah (A5 4 rfl Adl rfl I3 aa rfl) rfl<|Ah (A5 3 rfl AcR rfl Bm aa rfl) rfl<|Aq h fun ax bl h=>Bf rfl rfl aa (Lu (a0:=((a0.1.1,a0.1.2),(a0.2.1.1,a0.2.1.2),a0.2.2)) (a1:=a1) _ _ (Al hH aa) (hU.mono (Ae hH)) (an.mono (Ae hH)) (ao.mono (Ae hH)) (ap.mono (Ae hH)) (aq.mono (Ae hH)) (ar.mono (Ae hH)) (au.mono (Ae hH)) bl) ?_;rintro am cs ⟨_,rfl,ay⟩ bm bn a8;have ah:=ay.C8 hH aa bm;refine Ah (Bj rfl Ado ah) rfl<|A4 1 rfl<|A2 ?_;obtain⟨ai,h⟩:=AY h;have ak:=ak.mono (Aa hH a8)
  refine B8 (σ:=(List Int)×Int×Value×(List Value)×Nat) (fun⟨e,a,g,b,n⟩=>[(2,ab),(7,(Aas b3)),(9,g),(26,am),(27,No (ax.length:Int)),(28,No a)]) (fun⟨e,a,g,b,n⟩ wr=>FL w [.row g 3 1 (e).length b,.box b6 [No x4.1,No x4.2] 28,.box b3 [No 0,No 0] 28,.box b2 [No a1.f.1,x,Aat a1.f.2.2.1,y,No a1.f.2.2.2.2.1,No a1.f.2.2.2.2.2.1,z] 26,.box b1 [No a0.1.1,p,No a0.2.1.1,q,u] 52] wr fun Oz=>AA .bool (gz H w wr Oz) am ax/\AF (.int .i64) (gz H w wr Oz) e b/\GR (Fm a2 ax) n (e,a)=some r) (fun⟨e,a,g,b,n⟩=>n) (([]:List Int),0,Aaq,[],ai) (Sub.of rfl) ⟨bn,ah,ak,h⟩ ?_;rintro⟨e,a,g,b,nn89⟩ cj ⟨k,d,j,h⟩;obtain⟨ai,ct,rfl,h,ad⟩:=AX h;refine AD 1 rfl<|A9<|AO rfl h (fun bo h=>?_) (fun bo h=>?_)
  ·refine Au<|Ar<|A9<|A2<|Bs 1 rfl<|AB h fun az h=>Be rfl rfl Ado YQ d a.toNat (Hc az) (Ba az) rfl ?_;rintro cu _ rfl bp;refine Ah (Bu rfl Aby rfl bp (Al hH k)) rfl<|A4 2 rfl<|Bs 2 rfl<|Bl (s:=34) rfl (fun c=>?_) (fun c=>?_)
   ·have h:=IU c h;refine Ab rfl c<|Ah (Aj rfl) rfl<|Ab rfl c<|Ah (Aj rfl) rfl<|Ab rfl c<|AB h fun a3 h=>Be rfl rfl Ado YQ av a.toNat (Hc a3) (Ba a3) rfl ?_;rintro cv _ rfl bq;refine Ab rfl c<|Ah (Bu rfl Aby rfl bq (hH.trans k.arg)) rfl<|Ah (AH rfl c rfl) rfl<|Ac<|By rfl h (fun br h=>?_) (fun br h=>?_)
    ·refine Av<|As 2 rfl<|Br (r:=(.int .i64)) (l:=[a]) rfl (fun _=>HJ _ _) rfl (B2 1) hH k (.c1 rfl .nil) fun ck cl cb a9 aj ba=>AB h fun bb h=>?_;have j:=j.mono (Aa hH aj);refine Bi (r:=(.int .i64)) (l:=e) (m:=[a]) 0 rfl rfl Aa8 Dd rfl (by decide) rfl hH a9 rfl j ba bb fun bs cm bc bd a4 be=>As 1 rfl<|AQ<|AJ<|Ar<|Av<|AB h fun bf h=>Ah (AK rfl bf) rfl<|As 1 rfl<|AQ ?_;have h:=CV.again h ad;have d:=d.mono (Aa hH (aj.trans a4));refine AW ((e++[a]),(a+1),bs,bc,ai) (Sub.of rfl) ⟨bd,d,be,h⟩ (Nat.lt_succ_self _)
    refine Au<|AJ<|Ar<|Av<|AB h fun bg h=>Ah (AK rfl bg) rfl<|As 1 rfl<|AQ ?_;have h:=CV.again h ad;refine AW (e,(a+1),g,b,ai) (Sub.of rfl) ⟨k,d,j,h⟩ (Nat.lt_succ_self _)
   have h:=IV c h
   iterate 4 refine Ao rfl c rfl ?_
   refine Ah (AS rfl c rfl) rfl<|Ac<|Hn rfl<|Au<|AJ<|Ar<|Av<|AB h fun bh h=>Ah (AK rfl bh) rfl<|As 1 rfl<|AQ ?_;have h:=CV.again h ad;refine AW (e,(a+1),g,b,ai) (Sub.of rfl) ⟨k,d,j,h⟩ (Nat.lt_succ_self _)
  refine B5<|AE<|A7 ?_;have h:=CV.out h ad;refine Bk<|A6 (e,g,b) (Sub.of rfl) ⟨k,j,h⟩
 rintro⟨ag,ac,o⟩ cn ⟨bt,ae,h⟩;refine Bs 1 rfl<|Ah (AN rfl (fun _=>BL _)) rfl<|As 1 rfl<|Ad 2 rfl AI bt rfl (AT rfl) fun co af a5=>Ac<|Ax ?_
 cases h
 refine B0 rfl (.tmp rfl) (.cell rfl AcP rfl AI (AG (i:=2) af rfl)) ?_;have ae:=ae.mono (Aa hH a5);exact⟨af.ext,_,rfl,(af.GS hH (i:=0) rfl ae)⟩
def Ec(a0:Aaz):Option Aaz:=
 some a0
theorem KT(w:World)(H:PH)(hH:Le H (hp w)){a0:Aaz}{a:Value}(b:AA .byte H a a0){r:Aaz}(h:Ec a0=some r):
  Ok prog 61 [a] w (fun v w'=>Ext w w'/\∃ c,v=c/\AA .byte (un H (nw w w')) c r):=by
 refine Aw (n:=9) [(0,a)] func61 rfl fun hL=>AD 1 rfl<|Bs 2 rfl<|Ah (Bj rfl Abj b) rfl<|As 1 rfl<|Ah (Bj rfl Abj b) rfl<|Abb rfl rfl rfl Abj NK b rfl fun e d=>A4 1 rfl<|Ax ?_
 cases h
 refine Am rfl ⟨hL.ext,_,rfl,(d.mono (Js hH))⟩
def DN(a0:(Int×Adt)×Adv×(List Ads))(a1 a2 a3:Int):Option (Aaz×(Int×Int)):=
 Bh (0<=a1/\a1<(a0.2.2.length:Int)) (Option.bind (B3 ((a0.2.2.getD a1.toNat default).1,(a0.2.2.getD a1.toNat default).2.1,(a0.2.2.getD a1.toNat default).2.2)) (fun a=>if(a2<0)\/(a<a2) then Option.bind (BI (4:Int) (-2:Int)) (fun b=>some ([],(b.1,b.2))) else(if(a3<a2)\/(a<a3) then Option.bind (BI (4:Int) (-3:Int)) (fun c=>some ([],(c.1,c.2))) else Bh (0<=a1/\a1<(a0.2.2.length:Int)) (Option.bind (C5 ((a0.2.2.getD a1.toNat default).1,(a0.2.2.getD a1.toNat default).2.1,(a0.2.2.getD a1.toNat default).2.2) a2 a3) (fun d=>Option.bind (Ec d.1) (fun e=>some (e,(0,0))))))))
def Cy(a0:(Int×Adt)×Adv×(List Ads))(a1 a2 a3:Int)(a4:List Bool)(a:Bool):Option (Aaz×(Int×Int)):=
 if a then Option.bind (BI (4:Int) (-1:Int)) (fun b=>some ([],(b.1,b.2))) else Option.bind (BC ((a0.1.1,a0.1.2),(a0.2.1.1,a0.2.1.2),a0.2.2)) (fun e=>if(a4.length:Int)=e then Bh (0<=a1/\a1<(a4.length:Int)) (if !(a4.getD a1.toNat default) then Option.bind (BI (20:Int) (-1:Int)) (fun c=>some ([],(c.1,c.2))) else(DN a0 a1 a2 a3)) else Option.bind (BI (9:Int) (-4:Int)) (fun d=>some ([],(d.1,d.2))))
def BR(a0:(Int×Adt)×Adv×(List Ads))(a1 a2 a3:Int)(a4:List Bool):Option (Aaz×(Int×Int)):=
 if a1<0 then(Cy a0 a1 a2 a3 a4) true else Option.bind (BC ((a0.1.1,a0.1.2),(a0.2.1.1,a0.2.1.2),a0.2.2)) (fun a=>(Cy a0 a1 a2 a3 a4) (decide (a<=a1)))
theorem GN(w:World)(H:PH)(hH:Le H (hp w)){a0:(Int×Adt)×Adv×(List Ads)}{a1 a2 a3:Int}{a4:List Bool}{e f g m:Value}(x:AA (.pair .st (.vec Ad4)) H e (a0.1.2))(y:AA Ad3 H f (a0.2.1.2))(o:AA Ad2 H g (a0.2.2))(z:AA .bool H m a4){r:Aaz×(Int×Int)}(h:BR a0 a1 a2 a3 a4=some r):
  Ok prog 29 [.agg #[No a0.1.1,e,No a0.2.1.1,f,g],No a1,No a2,No a3,m] w (fun v w'=>Ext w w'/\∃ u0,v=.tuple #[u0,.agg #[No r.2.1,No r.2.2]]/\AA .byte (un H (nw w w')) u0 (r.1)):=by
 refine Aw (n:=78) [(0,.agg #[No a0.1.1,e,No a0.2.1.1,f,g]),(1,No a1),(2,No a2),(3,No a3),(4,m)] func29 rfl fun hL=>Ai<|Dq (t:=52) rfl rfl rfl hL fun w1 b1 br cd _=>As 1 rfl<|A3 AI rfl rfl br fun w2 b2 u ce _=>Ac<|Bw (σ:=Unit) (fun(_:Unit)=>[(1,No a1),(2,No a2),(3,No a3),(5,(Aas b1)),(11,(Aas b2))]) (fun(_:Unit) wr=>AU w [.box b2 [No 0,No 0] 28,.box b1 [No a0.1.1,e,No a0.2.1.1,f,g] 52] wr/\(DN a0 a1 a2 a3)=some r) ?_ ?_
 ·refine A2<|Bw (σ:=Bool) (fun c=>[(1,No a1),(2,No a2),(3,No a3),(4,m),(5,(Aas b1)),(11,(Aas b2)),(15,.bool c)]) (fun c wr=>AU w [.box b2 [No 0,No 0] 28,.box b1 [No a0.1.1,e,No a0.2.1.1,f,g] 52] wr/\(Cy a0 a1 a2 a3 a4) c=some r) ?_ ?_
  ·refine Av<|As 3 rfl<|Bl (s:=18) rfl (fun a=>?_) (fun a=>?_)
   ·have h:=Eo (of_decide_eq_true a) h
    iterate 4 refine Ao rfl a rfl ?_
    refine Ah (AH rfl a rfl) rfl<|As 1 rfl<|AQ<|A6 true (Sub.of rfl) ⟨u,h⟩
   have h:=Ep (of_decide_eq_false a) h;refine Ab rfl a<|Ah (Aj rfl) rfl<|Ab rfl a<|Ah (A5 1 rfl Adl rfl I3 u rfl) rfl<|Ab rfl a<|Aq h fun bs aq h=>A8 rfl rfl u (CB (a0:=((a0.1.1,a0.1.2),(a0.2.1.1,a0.2.1.2),a0.2.2)) _ _ (Al hH u) (x.mono (Ae hH)) (y.mono (Ae hH)) (o.mono (Ae hH)) aq) fun cp cf ar bt=>Ab rfl a<|Ah (Aj rfl) rfl<|Ah (AS rfl a rfl) rfl<|As 1 rfl<|AQ<|A6 (decide (bs<=a1)) (Sub.of rfl) ⟨ar,h⟩
  rintro c cg ⟨j,h⟩;refine By rfl h (fun au h=>?_) (fun au h=>?_)
  ·refine Ai<|Aq h fun cq av h=>A8 rfl rfl j (Cj _ _ (Al hH j) av) fun cr ch aw bu=>As 1 rfl<|Ad 0 rfl AI aw rfl (AT rfl) fun cs aa bv=>Ac<|Ax<|Az<|BH ?_
   cases h
   refine B0 rfl (.tmp rfl) (.cell rfl AcP rfl AI (AG (i:=0) aa rfl)) ⟨aa.ext,_,rfl,(AA.nil _ _)⟩
  refine Bs 1 rfl<|Ah (Bj rfl Ado z) rfl<|Ah (A5 1 rfl Adl rfl I3 j rfl) rfl<|Aq h fun ct ax h=>A8 rfl rfl j (CB (a0:=((a0.1.1,a0.1.2),(a0.2.1.1,a0.2.1.2),a0.2.2)) _ _ (Al hH j) (x.mono (Ae hH)) (y.mono (Ae hH)) (o.mono (Ae hH)) ax) fun cu ci d bw=>A4 2 rfl<|Cf rfl h (fun ay h=>?_) (fun ay h=>?_)
  ·refine Ai<|Aq h fun cv az h=>A8 rfl rfl d (Cj _ _ (Al hH d) az) fun cw cj a5 bx=>As 1 rfl<|Ad 0 rfl AI a5 rfl (AT rfl) fun cx ab bz=>Ac<|Ax<|Az<|BH ?_
   cases h
   refine B0 rfl (.tmp rfl) (.cell rfl AcP rfl AI (AG (i:=0) ab rfl)) ⟨ab.ext,_,rfl,(AA.nil _ _)⟩
  refine Bs 2 rfl<|AB h fun ac h=>Be rfl rfl Ado YQ z a1.toNat (Hc ac) (Ba ac) rfl ?_;rintro cy _ rfl a6;refine Ah (Bu rfl Aby rfl a6 (hH.trans d.arg)) rfl<|A4 2 rfl<|By rfl h (fun a7 h=>?_) (fun a7 h=>?_)
  ·refine Ai<|Aq h fun cz a8 h=>A8 rfl rfl d (Cj _ _ (Al hH d) a8) fun c0 ck a9 b0=>As 1 rfl<|Ad 0 rfl AI a9 rfl (AT rfl) fun c1 ad b3=>Ac<|Ax<|Az<|BH ?_
   cases h
   refine B0 rfl (.tmp rfl) (.cell rfl AcP rfl AI (AG (i:=0) ad rfl)) ⟨ad.ext,_,rfl,(AA.nil _ _)⟩
  refine Au<|AJ<|A6 () (Sub.of rfl) ⟨d,h⟩
 rintro _ cl ⟨p,h⟩;refine Ai<|Ah (Af rfl Adl rfl IJ) rfl<|Ah (Ag 1 rfl Adn rfl p rfl) rfl<|As 1 rfl<|AB h fun ae h=>Be rfl rfl Adn Fq o a1.toNat (Hc ae) (Ba ae) rfl ?_;rintro c2 _ ⟨_,_,rfl,⟨e73v0,rfl,e73h0⟩,⟨_,_,rfl,⟨e73v1,rfl,e73h1⟩,⟨e73v2,rfl,e73h2⟩⟩⟩ ba;refine Ah (C7 rfl AcU rfl Fq ba (hH.trans p.arg)) rfl<|Aq h fun c3 bb h=>A8 rfl rfl p (EG (a0:=((a0.2.2.getD a1.toNat default).1,(a0.2.2.getD a1.toNat default).2.1,(a0.2.2.getD a1.toNat default).2.2)) _ _ (Al hH p) (e73h0.mono (Ae hH)) (e73h1.mono (Ae hH)) (e73h2.mono (Ae hH)) bb) fun c4 cm b b4=>A4 1 rfl<|A9<|A2<|Bs 3 rfl<|WQ 3 2 rfl rfl rfl rfl rfl rfl<|A4 1 rfl<|AO rfl h (fun bc h=>?_) (fun bc h=>?_)
 ·refine Ai<|Aq h fun c5 bd h=>A8 rfl rfl b (Cj _ _ (Al hH b) bd) fun c6 cn be b5=>As 1 rfl<|Ad 0 rfl AI be rfl (AT rfl) fun c7 af b6=>Ac<|Ax<|Az<|Ay ?_
  cases h
  refine B0 rfl (.tmp rfl) (.cell rfl AcP rfl AI (AG (i:=0) af rfl)) ⟨af.ext,_,rfl,(AA.nil _ _)⟩
 refine Bs 4 rfl<|WQ 3 3 rfl rfl rfl rfl rfl rfl<|A4 1 rfl<|AO rfl h (fun bf h=>?_) (fun bf h=>?_)
 ·refine Ai<|Aq h fun c8 bg h=>A8 rfl rfl b (Cj _ _ (Al hH b) bg) fun c9 co bh b7=>As 1 rfl<|Ad 0 rfl AI bh rfl (AT rfl) fun da ag b8=>Ac<|Ax<|Az<|Ay ?_
  cases h
  refine B0 rfl (.tmp rfl) (.cell rfl AcP rfl AI (AG (i:=0) ag rfl)) ⟨ag.ext,_,rfl,(AA.nil _ _)⟩
 refine Au<|AJ<|Ar<|Ai<|Ah (Af rfl Adl rfl IJ) rfl<|Ah (Ag 1 rfl Adn rfl b rfl) rfl<|As 1 rfl<|AB h fun ah h=>Be rfl rfl Adn Fq o a1.toNat (Hc ah) (Ba ah) rfl ?_;rintro db _ ⟨_,_,rfl,⟨e89v0,rfl,e89h0⟩,⟨_,_,rfl,⟨e89v1,rfl,e89h1⟩,⟨e89v2,rfl,e89h2⟩⟩⟩ bi;refine Ah (C7 rfl AcU rfl Fq bi (hH.trans b.arg)) rfl<|As 2 rfl<|Aq h fun dc bj h=>Bf rfl rfl b (KQ (a0:=((a0.2.2.getD a1.toNat default).1,(a0.2.2.getD a1.toNat default).2.1,(a0.2.2.getD a1.toNat default).2.2)) _ _ (Al hH b) (e89h0.mono (Ae hH)) (e89h1.mono (Ae hH)) (e89h2.mono (Ae hH)) bj) ?_;rintro _ dd ⟨b9,rfl,ai⟩ bk bl ca;have k:=ai.C8 hH b bk;refine As 3 rfl<|A3 AI rfl rfl bl fun de df bm an _=>As 1 rfl<|Ad 0 rfl AI bm rfl (AT rfl) fun dg q ao=>Ac<|Bs 1 rfl<|Aq h fun dh bn h=>?_;have k:=k.mono (Aa hH (an.trans ao));refine Bf rfl rfl q (KT _ _ (Al hH q) k bn) ?_;rintro cb di ⟨_,rfl,aj⟩ bo bp cc;have l:=aj.mono (Ds hH q bo)
 refine Ah (AN rfl (fun _=>BL _)) rfl<|As 1 rfl<|Ad 1 rfl AI bp rfl (AT rfl) fun dj ak ap=>Ac<|Ax ?_
 cases h
 refine B0 rfl (.tmp rfl) (.cell rfl AcP rfl AI (AG (i:=1) ak rfl)) ?_;have l:=l.mono (Aa hH ap);exact⟨ak.ext,_,rfl,(l.mono (Dg hH))⟩
end Go.Proofs.YtekmbcbgknmhiaaGreatDoor
end
noncomputable section
namespace Go.Proofs.YtekmbcbgknmhiaaGreatDoor
open Go Go.L
def Sd(d:List UInt8×Pv):Prop:=d.1.length<=1048576/\Sm 1048576 10 d.2
theorem YH{items:List (List UInt8)}(hn:items.length<=64)(ht:∀ t∈items,t.length<=2048):∃ r,GC items=some r:=by
 have hl:Kl 0 items=none:=by
  have key:∀ (i:Nat) (l:List (List UInt8)),(∀ t∈l,t.length<=2048)->Kl i l=none:=by
   intro i l
   induction l generalizing i with
   | nil=>intro _;rfl
   | cons a l ih=>
    intro h;have:=h a (List.mem_cons_self ..);unfold Kl;rw [if_neg (by omega)];exact ih _ fun t ht=>h t (List.mem_cons_of_mem _ ht)
  exact key 0 items ht
 rw [Yg hn ht hl]
 split
 ·exact⟨_,rfl⟩
 ·exact⟨_,rfl⟩
def Rj:((Int×(List ((List UInt8)×(List (Int×Int)))))×(Int×(List (((List UInt8)×Int×Int×(List UInt8))×(List Int))))×(List (((List Int))×(List Int)×(List Int)))):=(((0:Int),[]),((0:Int),[]),[])
theorem WB{l:List (List UInt8×Pv)}(hl:l.length<=64)(hs:∀ d∈l,Sd d)(ht:∀ d∈l,d.1.length<=2048):∃ r,FR (l.map Prod.snd) (l.map Prod.fst) (l.map fun d=>idx d.1)=some r/\(r.2.1=0/\r.1.2.2=l.map (fun d=>idx d.1)\/r.2.1≠0/\r.1=Rj):=by
 have h:∀ (p:List (((List Int))×(List Int)×(List Int))) (a b c e:Int) (f:List ((List UInt8)×(List (Int×Int)))) (g:List (((List UInt8)×Int×Int×(List UInt8))×(List Int))),∃ r,ER p a b c f e g=some r/\(r.2.1=0/\r.1.2.2=p\/r.2.1≠0/\r.1=Rj):=fun p a b c e f g=>by
  unfold ER BI
  split
  ·exact⟨_,rfl,.inl ⟨rfl,rfl⟩⟩
  ·exact⟨_,rfl,.inr ⟨(show(14:Int)≠0 by decide),rfl⟩⟩
 unfold FR;obtain⟨w,hw⟩:=YH (items:=l.map Prod.fst) (by simpa using hl) (fun t ht'=>by obtain⟨d,hd,rfl⟩:=List.mem_map.1 ht';exact ht d hd);obtain⟨s,hsb,_⟩:=YF (a:=l.map Prod.snd) (fun v hv=>by obtain⟨d,hd,rfl⟩:=List.mem_map.1 hv;exact(hs d hd).2);rw [hw,Option.bind_some,hsb]
 split
 ·exact h _ _ _ _ _ _ _
 ·exact h _ _ _ _ _ _ _
theorem Rk{l:List (List UInt8×Pv)}(hl:l.length<=64)(hs:∀ d∈l,Sd d):∀ (d i:Nat),i+d=l.length->(∀ x∈l.take i,x.1.length<=2048)->
  ∃ r,GZ l ((l.take i).map Prod.snd,(l.take i).map Prod.fst,(l.take i).map (fun d=>idx d.1),(i:Int))=some r/\(r.2.1=0/\(∀ d∈l,d.1.length<=2048)/\r.1.2.2=l.map (fun d=>idx d.1)\/r.2.1≠0/\r.1=Rj)
 | 0,i,hi,ht=>by
  have he:l.take i=l:=List.take_of_length_le (by omega);rw [he] at ht ⊢;obtain⟨r,a,h2⟩:=WB hl hs ht;refine⟨r,?_,h2.imp (fun h=>⟨h.1,ht,h.2⟩) id⟩;rw [<- a];refine BD ?_;unfold Cs;simp only;rw [if_neg (by omega)]
 | d+1,i,hi,ht=>by
  have hil:i<l.length:=by omega
  have hg:l.getD ((i:Int)).toNat default=l[i]:=by rw [Int.toNat_natCast,List.getD_eq_getElem?_getD,List.getElem?_eq_getElem hil];rfl
  have hm:l[i]∈l:=List.getElem_mem _;have hlt:(l.take i).length<=64:=by rw [List.length_take];omega
  have hc:∀ (n b:Nat),n<=64->b<=100->Go.E.Ij b (n+1):=fun n b hn hb=>by
   unfold Go.E.Ij;have:=Nat.mul_le_mul (show n+1<=65 by omega) hb;exact⟨by omega,by omega⟩
  unfold GZ
  by_cases h2:l[i].1.length<=2048
  ·obtain⟨f,hf,hv⟩:=Pu (B:=1048576) (by omega) (hs _ hm).2
   by_cases h3:f.1=0/\f.2=0
   ·have hb:Cs l ((l.take i).map Prod.snd,(l.take i).map Prod.fst,(l.take i).map (fun d=>idx d.1),(i:Int))=some (.inl ((l.take i).map Prod.snd++[l[i].2],(l.take i).map Prod.fst++[l[i].1],(l.take i).map (fun d=>idx d.1)++[idx l[i].1],((i+1:Nat):Int))):=by
     unfold Cs;simp only;rw [if_pos (by omega),Ak (by omega),hg,QI,Option.bind_some,if_pos h2];simp only [and_self,if_true];rw [hf,Option.bind_some,if_pos h3,Ak (by rw [List.length_map];exact hc _ _ hlt (by omega)),Ak (by rw [List.length_map];exact hc _ _ hlt (by omega)),Ak (by rw [List.length_map];exact hc _ _ hlt (by omega))];unfold GY;rw [Ak (by unfold C0;omega)]
     rfl
    have e:l.take (i+1)=l.take i++[l[i]]:=(List.take_append_getElem hil).symm
    have ih:=Rk hl hs d (i+1) (by omega) (fun x hx=>by
     rw [e] at hx
     rcases List.mem_append.1 hx with hx | hx
     ·exact ht x hx
     ·obtain rfl:=List.mem_singleton.1 hx;exact h2)
    rw [Cu hb];rw [e,List.map_append,List.map_append,List.map_append] at ih;exact ih
   ·have hb:Cs l ((l.take i).map Prod.snd,(l.take i).map Prod.fst,(l.take i).map (fun d=>idx d.1),(i:Int))=some (.inr (Rj,(f.1,(i:Int)))):=by
     unfold Cs;simp only;rw [if_pos (by omega),Ak (by omega),hg,QI,Option.bind_some,if_pos h2];simp only [and_self,if_true];rw [hf,Option.bind_some,if_neg h3]
     rfl
    refine⟨(Rj,(f.1,(i:Int))),BD (m:=some (Rj,(f.1,(i:Int)))) hb,.inr ⟨?_,rfl⟩⟩;intro c
    rcases hv with ⟨rfl,_⟩ | hv
    ·exact h3 ⟨rfl,rfl⟩
    ·exact hv c
  ·have hb:Cs l ((l.take i).map Prod.snd,(l.take i).map Prod.fst,(l.take i).map (fun d=>idx d.1),(i:Int))=some (.inr (Rj,(3,(i:Int)))):=by
    unfold Cs;simp only;rw [if_pos (by omega),Ak (by omega),hg,QI,Option.bind_some,if_neg h2]
    rfl
   exact⟨(Rj,(3,(i:Int))),BD (m:=some (Rj,(3,(i:Int)))) hb,.inr ⟨(show(3:Int)≠0 by decide),rfl⟩⟩
theorem WC{l:List (List UInt8×Pv)}(hs:∀ d∈l,Sd d):∃ r,GL l=some r/\(r.2.1=0/\l.length<=64/\(∀ d∈l,d.1.length<=2048)/\r.1.2.2=l.map (fun d=>idx d.1)\/r.2.1≠0/\r.1=Rj):=by
 unfold GL
 by_cases h:64<l.length
 ·rw [if_pos (by omega)];exact⟨(Rj,(2,-1)),rfl,.inr ⟨(show(2:Int)≠0 by decide),rfl⟩⟩
 ·rw [if_neg (by omega)];obtain⟨r,a,h2⟩:=Rk (l:=l) (by omega) hs l.length 0 (by omega) (by simp);exact⟨r,a,h2.imp (fun x=>⟨x.1,by omega,x.2⟩) id⟩
end Go.Proofs.YtekmbcbgknmhiaaGreatDoor
end
noncomputable section
namespace Go.Proofs.YtekmbcbgknmhiaaGreatDoor
open Go Go.E Go.RowKit Go.L
set_option maxHeartbeats 1000000
set_option maxRecDepth 10000
open _root_.Go.Proofs.Tryz
def EZ(a0:Aaz)(a:Int):Option Int:=
 Option.bind (Da a0 a) (fun b=>some b)
def Gt:Option Int:=
 some ((-1))
def Gi(a0:Aaz)(a1:Aaz):Nat->Option ((Nat) ⊕ (Int)):=fun a=>
 if a<a0.length then Option.bind (Da a1 ((OI a0 a).1:Int)) (fun b=>if 0<=b then Option.map Sum.inr (some ((a:Int))) else some (Sum.inl (a+(OI a0 a).2))) else Option.map Sum.inr Gt
def Ii(a0:Aaz)(a1:Aaz)(s:Nat):Option Int:=Go.L.run (Gi a0 a1) s
def Gu(a0:Aaz)(a1:Aaz):Option Int:=
 (Ii a0 a1) (0:Nat)
def strings_IndexAny(a0:Aaz)(a1:Aaz):Option Int:=
 if a1=([]:Aaz) then some ((-1)) else(if(a1.length:Int)=1 then Bh (0<=(0:Int)/\(0:Int)<(a1.length:Int)) (if 128<=(IntKind.i32.wrap ((a1.getD (0:Int).toNat default).toNat:Int)) then(EZ a0) (65533:Int) else(EZ a0) (IntKind.i32.wrap ((a1.getD (0:Int).toNat default).toNat:Int))) else(if 8<(a0.length:Int) then none else(Gu a0 a1)))
theorem Np(w:World)(H:PH)(hH:Le H (hp w)){a0 a1:Aaz}{r:Int}(h:strings_IndexAny a0 a1=some r):
  Ok prog 167 [Aat a0,Aat a1] w (fun v w'=>Ext w w'/\v=No r):=by
 refine Aw (n:=55) [(0,(Aat a0)),(1,(Aat a1))] func167 rfl fun hL=>AD 1 rfl<|A9<|Bs 1 rfl<|Ah (Nu rfl rfl) rfl<|Ac<|AO rfl h (fun ad h=>?_) (fun ad h=>?_)
 ·refine AD 1 rfl<|Ax<|Ay ?_
  cases h
  refine Am rfl ⟨hL.ext,rfl⟩
 refine Au<|Ar<|A9<|Bs 1 rfl<|Ah (Ib rfl AaQ) rfl<|A4 1 rfl<|AO rfl h (fun ae h=>?_) (fun ae h=>?_)
 ·refine Bs 1 rfl<|AB h fun af h=>Ah (L7 rfl rfl AaQ af) rfl<|Ah (IS Acu Acp rfl rfl) rfl<|A4 1 rfl<|Bw (σ:=Int) (fun b=>[(0,(Aat a0)),(5,.int .i32 b)]) (fun b wr=>AU w [] wr/\(EZ a0) b=some r) ?_ ?_
  ·refine AD 2 rfl<|AO rfl h (fun o h=>?_) (fun o h=>?_)
   ·refine Av<|As 1 rfl<|AQ<|A6 (65533:Int) (Sub.of rfl) ⟨hL,h⟩
   refine Au<|A6 (IntKind.i32.wrap ((a1.getD (0:Int).toNat default).toNat:Int)) (Sub.of rfl) ⟨hL,h⟩
  rintro b al ⟨e,h⟩;refine Bs 2 rfl<|Aq h fun au q h=>A8 rfl rfl e (H4 _ _ (Al hH e) q) fun av am s ag=>A4 1 rfl<|Ax<|Ay ?_
  cases h
  refine Am rfl ⟨s.ext,rfl⟩
 refine Au<|Ar<|Bw (σ:=Unit) (fun(_:Unit)=>[(0,(Aat a0)),(1,(Aat a1))]) (fun(_:Unit) wr=>AU w [] wr/\(Gu a0 a1)=some r) ?_ ?_
 ·refine Bs 1 rfl<|Ah (Ib rfl AaQ) rfl<|A8 rfl rfl hL (YG _ _ (Al hH hL)) fun aw an t ah=>Ac<|AO rfl h (fun u h=>?_) (fun u h=>?_)
  ·refine Ai ?_
   cases h
  refine Au<|A6 () (Sub.of rfl) ⟨t,h⟩
 rintro _ ao ⟨x,h⟩;refine Bw (σ:=Unit) (fun(_:Unit)=>[]) (fun(_:Unit) wr=>AU w [] wr/\Gt=some r) ?_ ?_
 ·refine Bs 1 rfl<|T5 rfl AaQ rfl x fun ax m y ai=>Ac<|A2 ?_;obtain⟨f,h⟩:=AY h;refine B8 (σ:=Nat×Nat) (fun⟨a,n⟩=>[(1,(Aat a1)),(45,(Aas m))]) (fun⟨a,n⟩ wr=>AU w [.obj m (.stringIter ⟨(a0).toArray⟩ a)] wr/\GR (Gi a0 a1) n a=some r) (fun⟨a,n⟩=>n) ((0:Nat),f) (Sub.of rfl) ⟨y,h⟩ ?_;rintro⟨a,nn67⟩ ap ⟨g,h⟩;obtain⟨f,ay,rfl,h,c⟩:=AX h;refine Ai<|V0 (l:=a0) (p:=a) 0 rfl rfl g rfl (fun d=>?_) (fun d=>?_)
  ·have h:=Eo d h;intro az j aj;refine A4 1 rfl<|A9<|DW rfl<|Au<|Ar<|A2<|AD 4 rfl<|Bs 2 rfl<|Aq h fun a2 z h=>A8 rfl rfl j (H4 _ _ (Al hH j) z) fun a3 aq k ak=>A4 1 rfl<|AO rfl h (fun aa h=>?_) (fun aa h=>?_)
   ·refine AD 2 rfl<|Ax<|Az<|Cv ?_;have h:=CV.out h c;refine Az<|BH ?_
    cases h
    refine Am rfl ⟨k.ext,rfl⟩
   refine Au<|AJ ?_;have h:=CV.again h c;refine AW ((a+(OI a0 a).2),f) (Sub.of rfl) ⟨k,h⟩ (Nat.lt_succ_self _)
  have h:=Ep d h;refine A4 1 rfl<|A9<|Hn rfl<|B5<|AE<|A7 ?_;have h:=CV.out h c;refine Bk ?_;have ab:=g.AV (i:=0) rfl;refine A6 () (Sub.nil _) ⟨ab,h⟩
 rintro _ ar ⟨ac,h⟩;refine AD 1 rfl<|Ax ?_
 cases h
 refine Am rfl ⟨ac.ext,rfl⟩
def CT(a0:Aaz)(a1:Aaz):Option Bool:=
 if(a1.length:Int)<=(a0.length:Int) then Bh (0<=(a1.length:Int)/\(a1.length:Int)<=(a0.length:Int)) (some (decide ((a0.take (a1.length:Int).toNat)=a1))) else some false
theorem IL(w:World)(H:PH)(_hH:Le H (hp w)){a0 a1:Aaz}{r:Bool}(h:CT a0 a1=some r):
  Ok prog 262 [Aat a0,Aat a1] w (fun v w'=>Ext w w'/\v=.bool r):=by
 refine Aw (n:=18) [(0,(Aat a0)),(1,(Aat a1))] func262 rfl fun hL=>AD 1 rfl<|Bs 1 rfl<|Ah (Ib rfl AaQ) rfl<|As 1 rfl<|Ah (Ib rfl AaQ) rfl<|As 2 rfl<|Bl (s:=10) rfl (fun a=>?_) (fun a=>?_)
 ·have h:=Eo (of_decide_eq_true a) h;refine Ab rfl a<|Ah (Aj rfl) rfl<|Ab rfl a<|Ah (Aj rfl) rfl<|Ab rfl a<|Ah (Ib rfl AaQ) rfl<|Ab rfl a<|AB h fun b h=>Ah (Xz rfl rfl AaQ b) rfl<|Ab rfl a<|Ah (Aj rfl) rfl<|Ab rfl a<|Ah (Nu rfl rfl) rfl<|Ah (AH rfl a rfl) rfl<|A4 1 rfl<|Ax ?_
  cases h
  refine Am rfl ⟨hL.ext,rfl⟩
 have h:=Ep (of_decide_eq_false a) h
 iterate 6 refine Ao rfl a rfl ?_
 refine Ah (AS rfl a rfl) rfl<|A4 1 rfl<|Ax ?_
 cases h
 refine Am rfl ⟨hL.ext,rfl⟩
def CU(a0:Aaz)(a1:Aaz):Option (Aaz×Bool):=
 Option.bind (CT a0 a1) (fun a=>if !a then some (a0,false) else Bh (0<=(a1.length:Int)/\(a1.length:Int)<=(a0.length:Int)) (some ((a0.drop (a1.length:Int).toNat),true)))
theorem IM(w:World)(H:PH)(hH:Le H (hp w)){a0 a1:Aaz}{r:Aaz×Bool}(h:CU a0 a1=some r):
  Ok prog 215 [Aat a0,Aat a1] w (fun v w'=>Ext w w'/\v=.tuple #[Aat r.1,.bool r.2]):=by
 refine Aw (n:=15) [(0,(Aat a0)),(1,(Aat a1))] func215 rfl fun hL=>AD 2 rfl<|A9<|Bs 2 rfl<|Aq h fun g b h=>A8 rfl rfl hL (IL _ _ (Al hH hL) b) fun i f a e=>A4 1 rfl<|By rfl h (fun c h=>?_) (fun c h=>?_)
 ·refine AD 3 rfl<|Ax<|Ay ?_
  cases h
  refine Am rfl ⟨a.ext,rfl⟩
 refine Au<|Ar<|Bs 2 rfl<|Ah (Ib rfl AaQ) rfl<|AB h fun d h=>Ah (Uy rfl rfl AaQ d) rfl<|A4 2 rfl<|Ax ?_
 cases h
 refine Am rfl ⟨a.ext,rfl⟩
def Hq(a0:Aaz)(a1:Aaz):Option (Aaz×Bool):=
 Option.bind (CU a0 a1) (fun a=>some (a.1,a.2))
theorem MO(w:World)(H:PH)(hH:Le H (hp w)){a0 a1:Aaz}{r:Aaz×Bool}(h:Hq a0 a1=some r):
  Ok prog 165 [Aat a0,Aat a1] w (fun v w'=>Ext w w'/\v=.tuple #[Aat r.1,.bool r.2]):=by
 refine Aw (n:=11) [(0,(Aat a0)),(1,(Aat a1))] func165 rfl fun hL=>AD 2 rfl<|Bs 2 rfl<|Aq h fun e a h=>A8 rfl rfl hL (IM _ _ (Al hH hL) a) fun f d b c=>A4 4 rfl<|Ax ?_
 cases h
 refine Am rfl ⟨b.ext,rfl⟩
end Go.Proofs.YtekmbcbgknmhiaaGreatDoor
end
noncomputable section
namespace Go.Proofs.YtekmbcbgknmhiaaGreatDoor
open Go Go.E Go.RowKit Go.Shelf
def Ow(s c:List UInt8):Option Int:=if 8<s.length\/c.length=1 then Go.L.Bh (s.length<4294967281/\1<=c.length/\c.length<4294967281/\∀ b∈c,b.toNat<128) (some (Lib.indexAny s c)) else strings_IndexAny s c
theorem WD(w:World)(H:PH)(hH:Le H (hp w)){a0 a1:List UInt8}{r:Int}(h:Ow a0 a1=some r):Ok Tryz.prog 167 [.string ⟨a0.toArray⟩,.string ⟨a1.toArray⟩] w (fun v w'=>Ext w w'/\v=.int .i64 r):=by
 unfold Ow at h;have hs:(ByteArray.mk a0.toArray).size=a0.length:=by simp [ByteArray.size]
 have hc:(ByteArray.mk a1.toArray).size=a1.length:=by simp [ByteArray.size]
 split at h
 ·rename_i hor;obtain⟨⟨c,k,d,f⟩,h⟩:=Go.L.Fw h;obtain rfl:=Option.some.inj h
  have hac:∀ (j:Nat) b,(ByteArray.mk a1.toArray).data.toList[j]? = some b->b.toNat<128:=fun j b hj=>f b (by
   have:=List.mem_of_getElem? hj
   simpa using this)
  refine⟨⟨Tryz.f167,_,Tryz.func167,rfl,rfl⟩,?_⟩
  by_cases g:a1.length=1
  ·refine(Any.strings_IndexAny_one (P:=Tryz.prog) Tryz.XH ⟨a0.toArray⟩ ⟨a1.toArray⟩ w (by rw [hc];exact g) hac).mono fun e w' he=>?_;obtain⟨rfl,rfl⟩:=he;exact⟨_,rfl,Ext.refl _,by simp⟩
  ·have a:(Tryz.prog.info? (Tryz.OK.t 116)).map (fun i=>(i.zero,i.size))=some (some (.agg (Array.replicate 256 (.bool false))),256):=by kernel_rfl
   refine(Any.strings_IndexAny_long (P:=Tryz.prog) Tryz.XH (zero_of_info a).1 (zero_of_info a).2 ⟨a0.toArray⟩ ⟨a1.toArray⟩ w (by rw [hc];omega) (by rw [hs];omega) (by rw [hs];exact c) (by rw [hc];exact d) hac).mono fun e w' he=>?_;obtain⟨rfl,rfl⟩:=he;exact⟨_,rfl,(C2 _ _).trans (C2 _ _),by simp⟩
 ·exact Np w H hH h
end Go.Proofs.YtekmbcbgknmhiaaGreatDoor
end
