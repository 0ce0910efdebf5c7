/- Texts of a claim, merged. -/
import Derived.Test.YtekmbcbgknmhiaaGreatDoorLb4
import Derived.KernelRfl
import Derived.Shelf.SlSortCmp.NoneTotal
set_option linter.unusedVariables false
set_option linter.unusedSimpArgs false
open _root_.Go.Proofs.Tryz renaming underlying58→AaR,underlying3→AaT,underlying5→Ab9,underlying26→AbP,underlying9→Abb,underlying23→Abe,underlying28→Abs,underlying135→AcQ,underlying131→AcR,underlying24→AcV,underlying86→AcW,underlying84→AcZ,underlying82→Ada,underlying167→Adb,underlying96→Adc,underlying98→Ade,underlying180→Adf
noncomputable section
namespace Go.Proofs.YtekmbcbgknmhiaaGreatDoor
open Go Go.E Go.RowKit Go.L
set_option maxHeartbeats 1000000
set_option maxRecDepth 10000
open _root_.Go.Proofs.Tryz
def Bg(a0:AaK×Int)(a1:AaK):Option (Bool×(AaK×Int)):=
 Option.bind (DH a0.1 a1) (fun a=>if a.2 then some (a.2,(a.1,a0.2)) else some (a.2,(a0.1,a0.2)))
theorem Bz{c w:World}{H:PH}(hH:Le H (hp c)){O:List BG}{a0:AaK×Int}{a1:AaK}{ba0:Nat}(hL:AO c (Ha [.box ba0 [AaJ a0.1,No a0.2] 86] O) w){r:Bool×(AaK×Int)}(h:Bg a0 a1=some r):
  Ok Tryz.prog 111 [AaH ba0,AaJ a1] w (fun v w'=>v=.bool r.1∧AO c (Ha [.box ba0 [AaJ r.2.1,No r.2.2] 86] O) w'∧Le (fz w (Ha [.box ba0 [AaJ a0.1,No a0.2] 86] O)) (fz w' (Ha [.box ba0 [AaJ r.2.1,No r.2.2] 86] O))):=by
 refine A4 (n:=22) [(0,(AaH ba0)),(1,(AaJ a1))] func111 rfl rfl rfl rfl rfl ?_;have hT:=Le.refl (fz w (Ha [.box ba0 [AaJ a0.1,No a0.2] 86] O));refine A9 1 rfl<|Bk 1 rfl<|Ae (C4 rfl) rfl<|Ae (Af rfl AcW rfl Fu (by decide)) rfl<|Ae (Ag 0 rfl Abb rfl hL rfl rfl) rfl<|Aq 1 rfl ?_;refine Ax h fun j e h=>?_;refine AF rfl rfl hL (N0 _ _ (As hH hL) e) fun k i b a=>AA 5 rfl<|A7<|A9 1 rfl<|Bl rfl h (fun f h=>?_) (fun f h=>?_)
 ·refine Ar<|Aq 2 rfl<|Ae (C4 rfl) rfl<|Ae (Af rfl AcW rfl Fu (by decide)) rfl<|Bi 0 rfl rfl rfl Fu b rfl rfl fun l g d=>AL<|Ao<|A9 2 rfl<|Ay ?_
  cases h
  refine Am rfl rfl ?_;have hT:=hT.trans (a.trans d);exact⟨rfl,g,hT⟩
 refine Au<|Ao<|A9 2 rfl<|Ay ?_
 cases h
 refine Am rfl rfl ?_;have hT:=hT.trans a;exact⟨rfl,b,hT⟩
def CQ(a1:Int)(y8:Go.L.Qv×(AaK×Int))(a:List Go.L.Qv)(b:AaK)(c:Int):Option (Option (Go.L.Qv×(AaK×Int))):=
 if(a.length:Int)=(1:Int) then some (some (y8.1,(b,c))) else some (some ((Go.L.Qv.mk a1 ([]) ([]:AaK) ([]) (0:Int) (0:Int) a),(b,c)))
def BC(a1:Int)(a2:AaK)(self:(AaK×Int)→Option (Option (Go.L.Qv×(AaK×Int))))(y8:Go.L.Qv×(AaK×Int)):(List Go.L.Qv)×AaK×Int→Option (((List Go.L.Qv)×AaK×Int) ⊕ (Option (Go.L.Qv×(AaK×Int)))):=fun⟨b,c,d⟩=>
 Option.bind (Bg (c,d) a2) (fun a=>if a.1 then Option.bind (self (a.2.1,a.2.2)) (fun e=>P9 e (Option.map Sum.inr (some none)) (fun y86=>AU (Go.E.JE 112 (b.length+([y86.1]).length)) (some (Sum.inl ((b++[y86.1]),y86.2.1,y86.2.2))))) else Option.map Sum.inr ((CQ a1 y8) b a.2.1 a.2.2))
def Ca(a1:Int)(a2:AaK)(self:(AaK×Int)→Option (Option (Go.L.Qv×(AaK×Int))))(y8:Go.L.Qv×(AaK×Int))(s:(List Go.L.Qv)×AaK×Int):Option (Option (Go.L.Qv×(AaK×Int))):=Go.L.run (BC a1 a2 self y8) s
def Ct(self:(AaK×Int)→Option (Option (Go.L.Qv×(AaK×Int))))(a0:AaK×Int)(a1:Int)(a2:AaK):Option (Option (Go.L.Qv×(AaK×Int))):=
 Option.bind (self (a0.1,a0.2)) (fun a=>P9 a (some none) (fun y8=>(Ca a1 a2 self y8) ([y8.1],y8.2.1,y8.2.2)))
theorem Li{self:(AaK×Int)→Option (Option (Go.L.Qv×(AaK×Int)))}(hself:∀ {a w:World} {H:PH} (hH:Le H (hp a)) (hU:D9 H) {O:List BG} {a0:AaK×Int} {ba0:Nat} (hL:AO a (Ha [.box ba0 [AaJ a0.1,No a0.2] 86] O) w) {r:Option (Go.L.Qv×(AaK×Int))} (h:self a0=some r),Rn Tryz.prog 70 [AaH ba0] w (.iface 82 (.agg #[])) (fun v w'=>S9 r v (fun r v=>∃ (u1:Value) (u3:Value) (u6:Value),v=.agg #[No r.1.f.1,u1,AaJ r.1.f.2.2.1,u3,No r.1.f.2.2.2.2.1,No r.1.f.2.2.2.2.2.1,u6]∧AO a (Ha [.box ba0 [AaJ r.2.1,No r.2.2] 86] O) w'∧Le (fz w (Ha [.box ba0 [AaJ a0.1,No a0.2] 86] O)) (fz w' (Ha [.box ba0 [AaJ r.2.1,No r.2.2] 86] O))∧AI .st (gz H a w' (Ha [.box ba0 [AaJ r.2.1,No r.2.2] 86] O)) u1 (r.1.f.2.1)∧AI .byte (gz H a w' (Ha [.box ba0 [AaJ r.2.1,No r.2.2] 86] O)) u3 (r.1.f.2.2.2.1)∧AI .Bc (gz H a w' (Ha [.box ba0 [AaJ r.2.1,No r.2.2] 86] O)) u6 (r.1.f.2.2.2.2.2.2)) (AO a O w'∧Le (fz w (Ha [.box ba0 [AaJ a0.1,No a0.2] 86] O)) (fz w' O)))){a w:World}{H:PH}(hH:Le H (hp a))(hU:D9 H){O:List BG}{a0:AaK×Int}{a1:Int}{a2:AaK}{ba0:Nat}(hL:AO a (Ha [.box ba0 [AaJ a0.1,No a0.2] 86] O) w){r:Option (Go.L.Qv×(AaK×Int))}(h:Ct self a0 a1 a2=some r):
  Rn Tryz.prog 69 [AaH ba0,No a1,AaJ a2,.func (.func 70) #[AaH ba0] #[]] w (.iface 82 (.agg #[])) (fun v w'=>S9 r v (fun r v=>∃ (u1:Value) (u3:Value) (u6:Value),v=.agg #[No r.1.f.1,u1,AaJ r.1.f.2.2.1,u3,No r.1.f.2.2.2.2.1,No r.1.f.2.2.2.2.2.1,u6]∧AO a (Ha [.box ba0 [AaJ r.2.1,No r.2.2] 86] O) w'∧Le (fz w (Ha [.box ba0 [AaJ a0.1,No a0.2] 86] O)) (fz w' (Ha [.box ba0 [AaJ r.2.1,No r.2.2] 86] O))∧AI .st (gz H a w' (Ha [.box ba0 [AaJ r.2.1,No r.2.2] 86] O)) u1 (r.1.f.2.1)∧AI .byte (gz H a w' (Ha [.box ba0 [AaJ r.2.1,No r.2.2] 86] O)) u3 (r.1.f.2.2.2.1)∧AI .Bc (gz H a w' (Ha [.box ba0 [AaJ r.2.1,No r.2.2] 86] O)) u6 (r.1.f.2.2.2.2.2.2)) (AO a O w'∧Le (fz w (Ha [.box ba0 [AaJ a0.1,No a0.2] 86] O)) (fz w' O))):=by
 refine Ih (n:=30) [(0,(AaH ba0)),(1,No a1),(2,(AaJ a2)),(3,.func (.func 70) #[AaH ba0] #[])] func69 rfl rfl rfl rfl rfl ?_;have hT:=Le.refl (fz w (Ha [.box ba0 [AaJ a0.1,No a0.2] 86] O));refine Ak<|AG Bh rfl rfl hL fun w1 b1 bz aw _=>Ac<|Bk 1 rfl ?_;have b0:AO a (Ha [.box ba0 [AaJ a0.1,No a0.2] 86,.box b1 [No (0:Int),Aat,.string ⟨(([]:AaK)).toArray⟩,Aat,No (0:Int),No (0:Int),Aat] 26] O) w1:=bz.C5 [1] rfl;have ax:=B6 [1] bz b0 rfl;refine Ax h fun x3 cn h=>?_;refine OS [AaH ba0] [] rfl rfl rfl (hself (a0:=(a0.1,a0.2)) (O:=(Ha [.box b1 [No (0:Int),Aat,.string ⟨(([]:AaK)).toArray⟩,Aat,No (0:Int),No (0:Int),Aat] 26] O)) hH hU b0 cn) ?_ ?_
 ·rintro rfl w5 ⟨co,b3⟩;have h:=DB h;refine B0 ?_
  cases h
  refine DE ?_;have cp:=co.AP (i:=0) rfl;have hT:=hT.trans (aw.trans (ax.trans (b3.trans (Al (i:=0) rfl))));exact CL ⟨cp,hT⟩
 rintro y8 rfl _ w4 ⟨g,j,k,rfl,cq,bh,s,t,u⟩;have h:=DC h;refine AG Bh rfl rfl cq fun w9 b9 cr ac _=>Aj 0 rfl rfl rfl Bh cr rfl rfl (AH rfl (AH s.one (AH rfl (AH t.one (AH rfl (AH rfl (AH u.one Cj))))))) fun c2 ay x=>Ac ?_;have p:=ay.rG H;refine Ak<|Ae (AE 0 rfl AbP rfl Bh ay rfl) rfl ?_;have s:=s.mono (Ab hH (ac.trans x));have t:=t.mono (Ab hH (ac.trans x));have u:=u.mono (Ab hH (ac.trans x));refine JK (r:=.Bc) (l:=[y8.1]) rfl (fun _=>Lx _ _ _ _ _ _ _ _) rfl (show 1≤9223372036854775807 by decide) hH ay (.c7 (Go.E.Rp.FZ ⟨_,_,rfl,rfl,⟨_,_,rfl,⟨_,rfl,(s.mono p)⟩,⟨_,_,rfl,rfl,⟨_,_,rfl,⟨_,rfl,(t.mono p)⟩,⟨_,_,rfl,rfl,⟨_,_,rfl,rfl,⟨_,rfl,(u.mono p)⟩⟩⟩⟩⟩⟩⟩) .nil) fun cs c3 b4 b5 ai b6=>AA 1 rfl ?_
 refine Bn (σ:=(List Go.L.Qv)×AaK×Int×Value×(List Value)) (fun⟨am,a6,a7,ad,aa⟩=>[(1,No a1),(8,(AaH b1)),(9,(AaH b9)),(10,ad)]) (fun⟨am,a6,a7,ad,aa⟩ wr=>DZ a (Ha [.row (ad) 26 7 (am).length (aa),.box b9 [No y8.1.f.1,g,AaJ y8.1.f.2.2.1,j,No y8.1.f.2.2.2.2.1,No y8.1.f.2.2.2.2.2.1,k] 26,.box ba0 [AaJ a6,No a7] 86,.box b1 [No (0:Int),Aat,.string ⟨(([]:AaK)).toArray⟩,Aat,No (0:Int),No (0:Int),Aat] 26] O) wr fun Oz=>AJ .Bc (gz H a wr Oz) (am) (aa)∧AI .st (gz H a wr Oz) (g) (y8.1.f.2.1)∧AI .byte (gz H a wr Oz) (j) (y8.1.f.2.2.2.1)∧AI .Bc (gz H a wr Oz) (k) (y8.1.f.2.2.2.2.2.2)∧Le (fz w (Ha [.box ba0 [AaJ a0.1,No a0.2] 86] O)) (fz wr Oz)∧(CQ a1 y8) am a6 a7=some r) ?_ ?_
 ·refine A2 ?_;obtain⟨bi,h⟩:=AY h;have hT:=hT.trans (aw.trans (ax.trans (bh.trans (ac.trans (x.trans ai)))));have p:=p.trans (Ab hH ai)
  refine Bw (σ:=(List Go.L.Qv)×AaK×Int×Value×(List Value)×Nat) (fun⟨e,ae,af,o,c,n⟩=>[(0,(AaH ba0)),(1,No a1),(2,(AaJ a2)),(3,.func (.func 70) #[AaH ba0] #[]),(8,(AaH b1)),(9,(AaH b9)),(10,o)]) (fun⟨e,ae,af,o,c,n⟩ wr=>DZ a (Ha [.row (o) 26 7 (e).length (c),.box b9 [No y8.1.f.1,g,AaJ y8.1.f.2.2.1,j,No y8.1.f.2.2.2.2.1,No y8.1.f.2.2.2.2.2.1,k] 26,.box ba0 [AaJ ae,No af] 86,.box b1 [No (0:Int),Aat,.string ⟨(([]:AaK)).toArray⟩,Aat,No (0:Int),No (0:Int),Aat] 26] O) wr fun Oz=>AJ .Bc (gz H a wr Oz) (e) (c)∧AI .st (gz H a wr Oz) (g) (y8.1.f.2.1)∧AI .byte (gz H a wr Oz) (j) (y8.1.f.2.2.2.1)∧AI .Bc (gz H a wr Oz) (k) (y8.1.f.2.2.2.2.2.2)∧Le (fz w (Ha [.box ba0 [AaJ a0.1,No a0.2] 86] O)) (fz wr Oz)∧FT (BC a1 a2 self y8) n (e,ae,af)=some r) (fun⟨e,ae,af,o,c,n⟩=>n) ([y8.1],y8.2.1,y8.2.2,cs,b4,bi) (Sub.of rfl) ⟨b5,b6,(s.mono p),(t.mono p),(u.mono p),hT,h⟩ ?_;rintro⟨e,ae,af,o,c,nn71⟩ b7 ⟨az,a8,an,ao,ap,hT,h⟩
  obtain⟨bi,c4,rfl,h,a3⟩:=AX h;refine A7 ?_;have b:=az.rG H;refine Bk 2 rfl ?_;have bj:AO a (Ha [.box ba0 [AaJ ae,No af] 86,.row (o) 26 7 (e).length (c),.box b9 [No y8.1.f.1,g,AaJ y8.1.f.2.2.1,j,No y8.1.f.2.2.2.2.1,No y8.1.f.2.2.2.2.2.1,k] 26,.box b1 [No (0:Int),Aat,.string ⟨(([]:AaK)).toArray⟩,Aat,No (0:Int),No (0:Int),Aat] 26] O) b7:=az.C5 [2] rfl;have y:=B6 [2] az bj rfl;refine Ax h fun ag b8 h=>?_;refine DA rfl rfl (Bz (a0:=(ae,af)) (a1:=a2) (O:=(Ha [.row (o) 26 7 (e).length (c),.box b9 [No y8.1.f.1,g,AaJ y8.1.f.2.2.1,j,No y8.1.f.2.2.2.2.1,No y8.1.f.2.2.2.2.2.1,k] 26,.box b1 [No (0:Int),Aat,.string ⟨(([]:AaK)).toArray⟩,Aat,No (0:Int),No (0:Int),Aat] 26] O)) hH bj b8) ?_;rintro _ ct ⟨rfl,a4,z⟩;refine Ac<|Bl rfl h (fun ca h=>?_) (fun ca h=>?_)
  ·refine Au<|Ao<|A2<|Ar<|Aq 2 rfl ?_;refine Ax h fun c5 cb h=>?_;refine OS [AaH ba0] [] rfl rfl rfl (hself (a0:=(ag.2.1,ag.2.2)) (O:=(Ha [.row (o) 26 7 (e).length (c),.box b9 [No y8.1.f.1,g,AaJ y8.1.f.2.2.1,j,No y8.1.f.2.2.2.2.1,No y8.1.f.2.2.2.2.2.1,k] 26,.box b1 [No (0:Int),Aat,.string ⟨(([]:AaK)).toArray⟩,Aat,No (0:Int),No (0:Int),Aat] 26] O)) hH hU a4 cb) ?_ ?_
   ·rintro rfl c6 ⟨cc,bs⟩;have h:=DB h;refine B7<|IC ?_;have h:=BV.out h a3;refine B7<|EW ?_
    cases h
    refine DE ?_;have cd:=cc.AP (i:=0) rfl;have ce:=cd.AP (i:=0) rfl;have cf:=ce.AP (i:=0) rfl;have hT:=hT.trans (y.trans (z.trans (bs.trans ((Al (i:=0) rfl).trans ((Al (i:=0) rfl).trans (Al (i:=0) rfl))))));exact CL ⟨cf,hT⟩
   rintro y86 rfl _ c8 ⟨cv,cw,cx,rfl,cg,a9,bk,bl,bm⟩;have h:=DC h;refine Bu (r:=.Bc) (l:=[y86.1]) rfl (fun _=>Lx _ _ _ _ _ _ _ _) rfl (show 1≤9223372036854775807 by decide) hH cg (.c7 (Go.E.Rp.FZ ⟨_,_,rfl,rfl,⟨_,_,rfl,⟨_,rfl,bk⟩,⟨_,_,rfl,rfl,⟨_,_,rfl,⟨_,rfl,bl⟩,⟨_,_,rfl,rfl,⟨_,_,rfl,rfl,⟨_,rfl,bm⟩⟩⟩⟩⟩⟩⟩) .nil) ?_;intro c9 da cz ch ba ci;refine Az h fun cj h=>?_;have b:=b.trans (Ab hH (y.trans (z.trans (a9.trans ba))));refine Bq (r:=.Bc) (l:=e) (m:=[y86.1]) 1 rfl rfl AcV Bh rfl (by decide) rfl hH ch rfl (a8.mono b) ci cj fun b2 cu bn bo bb a5=>Aq 1 rfl<|AL<|A8 ?_;have bp:AO a (Ha [.row (b2) 26 7 ((e++[y86.1])).length (bn),.box b9 [No y8.1.f.1,g,AaJ y8.1.f.2.2.1,j,No y8.1.f.2.2.2.2.1,No y8.1.f.2.2.2.2.2.1,k] 26,.box ba0 [AaJ y86.2.1,No y86.2.2] 86,.box b1 [No (0:Int),Aat,.string ⟨(([]:AaK)).toArray⟩,Aat,No (0:Int),No (0:Int),Aat] 26] O) cu:=bo.C5 [2,2] rfl;have aj:=B6 [2,2] bo bp rfl;have h:=BV.again h a3;have hT:=hT.trans (y.trans (z.trans (a9.trans (ba.trans (bb.trans aj)))))
   have b:=b.trans (Ab hH (bb.trans aj));have a5:=a5.mono (Ab hH aj);refine AN ((e++[y86.1]),y86.2.1,y86.2.2,b2,bn,bi) (Sub.of rfl) ⟨bp,a5,(an.mono b),(ao.mono b),(ap.mono b),hT,h⟩ (Nat.lt_succ_self _)
  refine Br<|AD<|A5 ?_;have h:=BV.out h a3;refine Bd ?_;have bq:AO a (Ha [.row (o) 26 7 (e).length (c),.box b9 [No y8.1.f.1,g,AaJ y8.1.f.2.2.1,j,No y8.1.f.2.2.2.2.1,No y8.1.f.2.2.2.2.2.1,k] 26,.box ba0 [AaJ ag.2.1,No ag.2.2] 86,.box b1 [No (0:Int),Aat,.string ⟨(([]:AaK)).toArray⟩,Aat,No (0:Int),No (0:Int),Aat] 26] O) ct:=a4.C5 [2,2] rfl;have bc:=B6 [2,2] a4 bq rfl;have b:=b.trans (Ab hH (y.trans (z.trans bc)));have hT:=hT.trans (y.trans (z.trans bc));refine A6 (e,ag.2.1,ag.2.2,o,c) (Sub.of rfl) ⟨bq,(a8.mono b),(an.mono b),(ao.mono b),(ap.mono b),hT,h⟩
 have hT:=hT.trans (aw.trans (ax.trans (bh.trans (ac.trans (x.trans ai)))));rintro⟨am,a6,a7,ad,aa⟩ c0 ⟨q,bt,aq,ar,au,hT,h⟩;refine A7 ?_;have d:=q.rG H;refine Bk 1 rfl<|Ae (P4 (i:=0) rfl AcV q rfl) rfl<|AA 1 rfl<|AM rfl h (fun ck h=>?_) (fun ck h=>?_)
 ·refine Ak<|Ae (AE 1 rfl AbP rfl Bh q rfl) rfl<|Aj 3 rfl rfl rfl Bh q rfl rfl (AH rfl (AH (aq.mono d).one (AH rfl (AH (ar.mono d).one (AH rfl (AH rfl (AH (au.mono d).one Cj))))))) fun db br bd=>Ac<|Ay<|Av ?_
  cases h
  refine FG<|BB rfl (.cell rfl AbP rfl Bh (AT (i:=3) br rfl)) ?_;have cl:=br.AP (i:=0) rfl;have cm:=cl.AP (i:=0) rfl;have bu:=cm.AP (i:=1) rfl;have d:=d.trans (Ab hH (bd.trans ((Al (i:=0) rfl).trans ((Al (i:=0) rfl).trans (Al (i:=1) rfl)))));have hT:=hT.trans (bd.trans ((Al (i:=0) rfl).trans ((Al (i:=0) rfl).trans (Al (i:=1) rfl))));exact DD ⟨g,j,k,rfl,bu,hT,(aq.mono d),(ar.mono d),(au.mono d)⟩
 refine Au<|Ao<|Bk 2 rfl<|Ae (AZ rfl (fun _=>Ma _ _ (row_one (q.at (i:=0) rfl)) _)) rfl<|Aj 3 rfl rfl rfl Bh q rfl rfl (AH rfl (AH rfl (AH rfl (AH rfl (AH rfl (AH rfl (AH (row_one (q.at (i:=0) rfl)) Cj))))))) fun c1 ak av=>Ac<|Ay ?_
 cases h
 refine FG<|BB rfl (.cell rfl AbP rfl Bh (AT (i:=3) ak rfl)) ?_;have d:=d.trans (Ab hH av);have al:=ak.CA hH (i:=0) rfl (bt.mono d);have bv:=ak.AP (i:=0) rfl;have bw:=bv.AP (i:=0) rfl;have bx:=bw.AP (i:=1) rfl;have hT:=hT.trans (av.trans ((Al (i:=0) rfl).trans ((Al (i:=0) rfl).trans (Al (i:=1) rfl))));have al:=al.mono (Ab hH ((Al (i:=0) rfl).trans (Al (i:=1) rfl)));exact DD ⟨Aat,Aat,ad,rfl,bx,hT,(AI.nil _ _),(AI.nil _ _),al⟩
def Cp(self:(AaK×Int)→Option (Option (Go.L.Qv×(AaK×Int))))(a0_0:AaK×Int):Option (Option (Go.L.Qv×(AaK×Int))):=
 Option.bind (Ct self (a0_0.1,a0_0.2) (8:Int) ([38]:AaK)) (fun a=>P9 a (some none) (fun y9=>some (some (y9.1,(y9.2.1,y9.2.2)))))
theorem IH{self:(AaK×Int)→Option (Option (Go.L.Qv×(AaK×Int)))}(hself:∀ {a w:World} {H:PH} (hH:Le H (hp a)) (hU:D9 H) {O:List BG} {a0:AaK×Int} {ba0:Nat} (hL:AO a (Ha [.box ba0 [AaJ a0.1,No a0.2] 86] O) w) {r:Option (Go.L.Qv×(AaK×Int))} (h:self a0=some r),Rn Tryz.prog 70 [AaH ba0] w (.iface 82 (.agg #[])) (fun v w'=>S9 r v (fun r v=>∃ (j:Value) (k:Value) (l:Value),v=.agg #[No r.1.f.1,j,AaJ r.1.f.2.2.1,k,No r.1.f.2.2.2.2.1,No r.1.f.2.2.2.2.2.1,l]∧AO a (Ha [.box ba0 [AaJ r.2.1,No r.2.2] 86] O) w'∧Le (fz w (Ha [.box ba0 [AaJ a0.1,No a0.2] 86] O)) (fz w' (Ha [.box ba0 [AaJ r.2.1,No r.2.2] 86] O))∧AI .st (gz H a w' (Ha [.box ba0 [AaJ r.2.1,No r.2.2] 86] O)) j (r.1.f.2.1)∧AI .byte (gz H a w' (Ha [.box ba0 [AaJ r.2.1,No r.2.2] 86] O)) k (r.1.f.2.2.2.1)∧AI .Bc (gz H a w' (Ha [.box ba0 [AaJ r.2.1,No r.2.2] 86] O)) l (r.1.f.2.2.2.2.2.2)) (AO a O w'∧Le (fz w (Ha [.box ba0 [AaJ a0.1,No a0.2] 86] O)) (fz w' O)))){a w:World}{H:PH}(hH:Le H (hp a))(hU:D9 H){O:List BG}{a0_0:AaK×Int}{ba0:Nat}{ba0_0:Nat}(hL:AO a (Ha [.box ba0 [AaH ba0_0] 84,.box ba0_0 [AaJ a0_0.1,No a0_0.2] 86] O) w){r:Option (Go.L.Qv×(AaK×Int))}(h:Cp self a0_0=some r):
  Rn Tryz.prog 68 [AaH ba0] w (.iface 82 (.agg #[])) (fun v w'=>S9 r v (fun r v=>∃ (j:Value) (k:Value) (l:Value),v=.agg #[No r.1.f.1,j,AaJ r.1.f.2.2.1,k,No r.1.f.2.2.2.2.1,No r.1.f.2.2.2.2.2.1,l]∧AO a (Ha [.box ba0 [AaH ba0_0] 84,.box ba0_0 [AaJ r.2.1,No r.2.2] 86] O) w'∧Le (fz w (Ha [.box ba0 [AaH ba0_0] 84,.box ba0_0 [AaJ a0_0.1,No a0_0.2] 86] O)) (fz w' (Ha [.box ba0 [AaH ba0_0] 84,.box ba0_0 [AaJ r.2.1,No r.2.2] 86] O))∧AI .st (gz H a w' (Ha [.box ba0 [AaH ba0_0] 84,.box ba0_0 [AaJ r.2.1,No r.2.2] 86] O)) j (r.1.f.2.1)∧AI .byte (gz H a w' (Ha [.box ba0 [AaH ba0_0] 84,.box ba0_0 [AaJ r.2.1,No r.2.2] 86] O)) k (r.1.f.2.2.2.1)∧AI .Bc (gz H a w' (Ha [.box ba0 [AaH ba0_0] 84,.box ba0_0 [AaJ r.2.1,No r.2.2] 86] O)) l (r.1.f.2.2.2.2.2.2)) (AO a O w'∧Le (fz w (Ha [.box ba0 [AaH ba0_0] 84,.box ba0_0 [AaJ a0_0.1,No a0_0.2] 86] O)) (fz w' O))):=by
 refine Ih (n:=6) [(0,(AaH ba0))] func68 rfl rfl rfl rfl rfl ?_;have hT:=Le.refl (fz w (Ha [.box ba0 [AaH ba0_0] 84,.box ba0_0 [AaJ a0_0.1,No a0_0.2] 86] O));refine Ak<|AG Bh rfl rfl hL fun w1 b1 m o _=>Ac<|Ak ?_
 iterate 2 refine Ae (Ag 1 rfl AcZ rfl m rfl rfl) rfl ?_
 refine Aq 1 rfl ?_;have u:AO a (Ha [.box ba0_0 [AaJ a0_0.1,No a0_0.2] 86,.box b1 [No (0:Int),Aat,.string ⟨(([]:AaK)).toArray⟩,Aat,No (0:Int),No (0:Int),Aat] 26,.box ba0 [AaH ba0_0] 84] O) w1:=m.C5 [2] rfl;have p:=B6 [2] m u rfl;refine Ax h fun x3 ad h=>?_;refine Fz rfl rfl (Li (hself:=hself) (a0:=(a0_0.1,a0_0.2)) (a1:=(8:Int)) (a2:=([38]:AaK)) (O:=(Ha [.box b1 [No (0:Int),Aat,.string ⟨(([]:AaK)).toArray⟩,Aat,No (0:Int),No (0:Int),Aat] 26,.box ba0 [AaH ba0_0] 84] O)) hH hU u ad) ?_ ?_
 ·rintro rfl w5 ⟨ae,x⟩;have h:=DB h;refine B0 ?_
  cases h
  refine DE ?_;have af:=ae.AP (i:=0) rfl;have ag:=af.AP (i:=0) rfl;have hT:=hT.trans (o.trans (p.trans (x.trans ((Al (i:=0) rfl).trans (Al (i:=0) rfl)))));exact CL ⟨ag,hT⟩
 rintro y9 rfl _ w4 ⟨y,z,aa,rfl,ah,ab,b,c,d⟩;have h:=DC h;refine Aj 1 rfl rfl rfl Bh ah rfl rfl (AH rfl (AH b.one (AH rfl (AH c.one (AH rfl (AH rfl (AH d.one Cj))))))) fun ai q e=>Ac<|Ay ?_
 cases h
 refine FG<|BB rfl (.cell rfl AbP rfl Bh (AT (i:=1) q rfl)) ?_;have s:=q.AP (i:=1) rfl;have t:AO a (Ha [.box ba0 [AaH ba0_0] 84,.box ba0_0 [AaJ y9.2.1,No y9.2.2] 86] O) ai:=s.C5 [1] rfl;have g:=B6 [1] s t rfl;have hT:=hT.trans (o.trans (p.trans (ab.trans (e.trans ((Al (i:=1) rfl).trans g)))));have b:=b.mono (Ab hH (e.trans ((Al (i:=1) rfl).trans g)));have c:=c.mono (Ab hH (e.trans ((Al (i:=1) rfl).trans g)));have d:=d.mono (Ab hH (e.trans ((Al (i:=1) rfl).trans g)));exact DD ⟨y,z,aa,rfl,t,hT,b,c,d⟩
def E8(a1:Int)(y8:Go.L.Qv×(AaK×Int))(a:List Go.L.Qv)(b:AaK)(c:Int):Option (Option (Go.L.Qv×(AaK×Int))):=
 if(a.length:Int)=(1:Int) then some (some (y8.1,(b,c))) else some (some ((Go.L.Qv.mk a1 ([]) ([]:AaK) ([]) (0:Int) (0:Int) a),(b,c)))
def El(a1:Int)(a2:AaK)(self:(AaK×Int)→Option (Option (Go.L.Qv×(AaK×Int))))(y8:Go.L.Qv×(AaK×Int)):(List Go.L.Qv)×AaK×Int→Option (((List Go.L.Qv)×AaK×Int) ⊕ (Option (Go.L.Qv×(AaK×Int)))):=fun⟨b,c,d⟩=>
 Option.bind (Bg (c,d) a2) (fun a=>if a.1 then Option.bind (Cp self (a.2.1,a.2.2)) (fun e=>P9 e (Option.map Sum.inr (some none)) (fun y90=>AU (Go.E.JE 112 (b.length+([y90.1]).length)) (some (Sum.inl ((b++[y90.1]),y90.2.1,y90.2.2))))) else Option.map Sum.inr ((E8 a1 y8) b a.2.1 a.2.2))
def GK(a1:Int)(a2:AaK)(self:(AaK×Int)→Option (Option (Go.L.Qv×(AaK×Int))))(y8:Go.L.Qv×(AaK×Int))(s:(List Go.L.Qv)×AaK×Int):Option (Option (Go.L.Qv×(AaK×Int))):=Go.L.run (El a1 a2 self y8) s
def Ey(self:(AaK×Int)→Option (Option (Go.L.Qv×(AaK×Int))))(a0:AaK×Int)(a1:Int)(a2:AaK):Option (Option (Go.L.Qv×(AaK×Int))):=
 Option.bind (Cp self (a0.1,a0.2)) (fun a=>P9 a (some none) (fun y8=>(GK a1 a2 self y8) ([y8.1],y8.2.1,y8.2.2)))
theorem Mm{self:(AaK×Int)→Option (Option (Go.L.Qv×(AaK×Int)))}(hself:∀ {a w:World} {H:PH} (hH:Le H (hp a)) (hU:D9 H) {O:List BG} {a0:AaK×Int} {ba0:Nat} (hL:AO a (Ha [.box ba0 [AaJ a0.1,No a0.2] 86] O) w) {r:Option (Go.L.Qv×(AaK×Int))} (h:self a0=some r),Rn Tryz.prog 70 [AaH ba0] w (.iface 82 (.agg #[])) (fun v w'=>S9 r v (fun r v=>∃ (u1:Value) (u3:Value) (u6:Value),v=.agg #[No r.1.f.1,u1,AaJ r.1.f.2.2.1,u3,No r.1.f.2.2.2.2.1,No r.1.f.2.2.2.2.2.1,u6]∧AO a (Ha [.box ba0 [AaJ r.2.1,No r.2.2] 86] O) w'∧Le (fz w (Ha [.box ba0 [AaJ a0.1,No a0.2] 86] O)) (fz w' (Ha [.box ba0 [AaJ r.2.1,No r.2.2] 86] O))∧AI .st (gz H a w' (Ha [.box ba0 [AaJ r.2.1,No r.2.2] 86] O)) u1 (r.1.f.2.1)∧AI .byte (gz H a w' (Ha [.box ba0 [AaJ r.2.1,No r.2.2] 86] O)) u3 (r.1.f.2.2.2.1)∧AI .Bc (gz H a w' (Ha [.box ba0 [AaJ r.2.1,No r.2.2] 86] O)) u6 (r.1.f.2.2.2.2.2.2)) (AO a O w'∧Le (fz w (Ha [.box ba0 [AaJ a0.1,No a0.2] 86] O)) (fz w' O)))){a w:World}{H:PH}(hH:Le H (hp a))(hU:D9 H){O:List BG}{a0:AaK×Int}{a1:Int}{a2:AaK}{ba0:Nat}{ba3_c0:Nat}(hL:AO a (Ha [.box ba0 [AaJ a0.1,No a0.2] 86,.box ba3_c0 [AaH ba0] 84] O) w){r:Option (Go.L.Qv×(AaK×Int))}(h:Ey self a0 a1 a2=some r):
  Rn Tryz.prog 69 [AaH ba0,No a1,AaJ a2,.func (.func 68) #[] #[AaH ba3_c0]] w (.iface 82 (.agg #[])) (fun v w'=>S9 r v (fun r v=>∃ (u1:Value) (u3:Value) (u6:Value),v=.agg #[No r.1.f.1,u1,AaJ r.1.f.2.2.1,u3,No r.1.f.2.2.2.2.1,No r.1.f.2.2.2.2.2.1,u6]∧AO a (Ha [.box ba0 [AaJ r.2.1,No r.2.2] 86,.box ba3_c0 [AaH ba0] 84] O) w'∧Le (fz w (Ha [.box ba0 [AaJ a0.1,No a0.2] 86,.box ba3_c0 [AaH ba0] 84] O)) (fz w' (Ha [.box ba0 [AaJ r.2.1,No r.2.2] 86,.box ba3_c0 [AaH ba0] 84] O))∧AI .st (gz H a w' (Ha [.box ba0 [AaJ r.2.1,No r.2.2] 86,.box ba3_c0 [AaH ba0] 84] O)) u1 (r.1.f.2.1)∧AI .byte (gz H a w' (Ha [.box ba0 [AaJ r.2.1,No r.2.2] 86,.box ba3_c0 [AaH ba0] 84] O)) u3 (r.1.f.2.2.2.1)∧AI .Bc (gz H a w' (Ha [.box ba0 [AaJ r.2.1,No r.2.2] 86,.box ba3_c0 [AaH ba0] 84] O)) u6 (r.1.f.2.2.2.2.2.2)) (AO a O w'∧Le (fz w (Ha [.box ba0 [AaJ a0.1,No a0.2] 86,.box ba3_c0 [AaH ba0] 84] O)) (fz w' O))):=by
 refine Ih (n:=30) [(0,(AaH ba0)),(1,No a1),(2,(AaJ a2)),(3,.func (.func 68) #[] #[AaH ba3_c0])] func69 rfl rfl rfl rfl rfl ?_;have hT:=Le.refl (fz w (Ha [.box ba0 [AaJ a0.1,No a0.2] 86,.box ba3_c0 [AaH ba0] 84] O));refine Ak<|AG Bh rfl rfl hL fun w1 b1 cd a6 _=>Ac<|Bk 1 rfl ?_;have ce:AO a (Ha [.box ba3_c0 [AaH ba0] 84,.box ba0 [AaJ a0.1,No a0.2] 86,.box b1 [No (0:Int),Aat,.string ⟨(([]:AaK)).toArray⟩,Aat,No (0:Int),No (0:Int),Aat] 26] O) w1:=cd.C5 [1,2] rfl;have a7:=B6 [1,2] cd ce rfl;refine Ax h fun x3 cy h=>?_;refine OS [] [AaH ba3_c0] rfl rfl rfl (IH (hself:=hself) (a0_0:=(a0.1,a0.2)) (O:=(Ha [.box b1 [No (0:Int),Aat,.string ⟨(([]:AaK)).toArray⟩,Aat,No (0:Int),No (0:Int),Aat] 26] O)) hH hU ce cy) ?_ ?_
 ·rintro rfl w5 ⟨cz,cg⟩;have h:=DB h;refine B0 ?_
  cases h
  refine DE ?_;have c0:=cz.AP (i:=0) rfl;have hT:=hT.trans (a6.trans (a7.trans (cg.trans (Al (i:=0) rfl))));exact CL ⟨c0,hT⟩
 rintro y8 rfl _ w4 ⟨d,e,g,rfl,c1,br,t,u,x⟩;have h:=DC h;refine AG Bh rfl rfl c1 fun w9 b9 c2 ae _=>Aj 0 rfl rfl rfl Bh c2 rfl rfl (AH rfl (AH t.one (AH rfl (AH u.one (AH rfl (AH rfl (AH x.one Cj))))))) fun dc a8 y=>Ac ?_;have p:=a8.rG H;refine Ak<|Ae (AE 0 rfl AbP rfl Bh a8 rfl) rfl ?_;have t:=t.mono (Ab hH (ae.trans y));have u:=u.mono (Ab hH (ae.trans y));have x:=x.mono (Ab hH (ae.trans y));refine JK (r:=.Bc) (l:=[y8.1]) rfl (fun _=>Lx _ _ _ _ _ _ _ _) rfl (show 1≤9223372036854775807 by decide) hH a8 (.c7 (Go.E.Rp.FZ ⟨_,_,rfl,rfl,⟨_,_,rfl,⟨_,rfl,(t.mono p)⟩,⟨_,_,rfl,rfl,⟨_,_,rfl,⟨_,rfl,(u.mono p)⟩,⟨_,_,rfl,rfl,⟨_,_,rfl,rfl,⟨_,rfl,(x.mono p)⟩⟩⟩⟩⟩⟩⟩) .nil) fun c3 dd ch ci ak cj=>AA 1 rfl ?_
 refine Bn (σ:=(List Go.L.Qv)×AaK×Int×Value×(List Value)) (fun⟨aq,ai,aj,af,ac⟩=>[(1,No a1),(8,(AaH b1)),(9,(AaH b9)),(10,af)]) (fun⟨aq,ai,aj,af,ac⟩ wr=>DZ a (Ha [.row (af) 26 7 (aq).length (ac),.box b9 [No y8.1.f.1,d,AaJ y8.1.f.2.2.1,e,No y8.1.f.2.2.2.2.1,No y8.1.f.2.2.2.2.2.1,g] 26,.box ba3_c0 [AaH ba0] 84,.box ba0 [AaJ ai,No aj] 86,.box b1 [No (0:Int),Aat,.string ⟨(([]:AaK)).toArray⟩,Aat,No (0:Int),No (0:Int),Aat] 26] O) wr fun Oz=>AJ .Bc (gz H a wr Oz) (aq) (ac)∧AI .st (gz H a wr Oz) (d) (y8.1.f.2.1)∧AI .byte (gz H a wr Oz) (e) (y8.1.f.2.2.2.1)∧AI .Bc (gz H a wr Oz) (g) (y8.1.f.2.2.2.2.2.2)∧Le (fz w (Ha [.box ba0 [AaJ a0.1,No a0.2] 86,.box ba3_c0 [AaH ba0] 84] O)) (fz wr Oz)∧(E8 a1 y8) aq ai aj=some r) ?_ ?_
 ·refine A2 ?_;obtain⟨bs,h⟩:=AY h;have hT:=hT.trans (a6.trans (a7.trans (br.trans (ae.trans (y.trans ak)))));have p:=p.trans (Ab hH ak)
  refine Bw (σ:=(List Go.L.Qv)×AaK×Int×Value×(List Value)×Nat) (fun⟨k,ag,ah,j,b,n⟩=>[(0,(AaH ba0)),(1,No a1),(2,(AaJ a2)),(3,.func (.func 68) #[] #[AaH ba3_c0]),(8,(AaH b1)),(9,(AaH b9)),(10,j)]) (fun⟨k,ag,ah,j,b,n⟩ wr=>DZ a (Ha [.row (j) 26 7 (k).length (b),.box b9 [No y8.1.f.1,d,AaJ y8.1.f.2.2.1,e,No y8.1.f.2.2.2.2.1,No y8.1.f.2.2.2.2.2.1,g] 26,.box ba3_c0 [AaH ba0] 84,.box ba0 [AaJ ag,No ah] 86,.box b1 [No (0:Int),Aat,.string ⟨(([]:AaK)).toArray⟩,Aat,No (0:Int),No (0:Int),Aat] 26] O) wr fun Oz=>AJ .Bc (gz H a wr Oz) (k) (b)∧AI .st (gz H a wr Oz) (d) (y8.1.f.2.1)∧AI .byte (gz H a wr Oz) (e) (y8.1.f.2.2.2.1)∧AI .Bc (gz H a wr Oz) (g) (y8.1.f.2.2.2.2.2.2)∧Le (fz w (Ha [.box ba0 [AaJ a0.1,No a0.2] 86,.box ba3_c0 [AaH ba0] 84] O)) (fz wr Oz)∧FT (El a1 a2 self y8) n (k,ag,ah)=some r) (fun⟨k,ag,ah,j,b,n⟩=>n) ([y8.1],y8.2.1,y8.2.2,c3,ch,bs) (Sub.of rfl) ⟨ci,cj,(t.mono p),(u.mono p),(x.mono p),hT,h⟩ ?_
  rintro⟨k,ag,ah,j,b,nn74⟩ ck ⟨a9,bd,ar,au,av,hT,h⟩;obtain⟨bs,de,rfl,h,ba⟩:=AX h;refine A7 ?_;have c:=a9.rG H;refine Bk 2 rfl ?_;have bt:AO a (Ha [.box ba0 [AaJ ag,No ah] 86,.row (j) 26 7 (k).length (b),.box b9 [No y8.1.f.1,d,AaJ y8.1.f.2.2.1,e,No y8.1.f.2.2.2.2.1,No y8.1.f.2.2.2.2.2.1,g] 26,.box ba3_c0 [AaH ba0] 84,.box b1 [No (0:Int),Aat,.string ⟨(([]:AaK)).toArray⟩,Aat,No (0:Int),No (0:Int),Aat] 26] O) ck:=a9.C5 [3] rfl;have z:=B6 [3] a9 bt rfl;refine Ax h fun q cl h=>?_;refine DA rfl rfl (Bz (a0:=(ag,ah)) (a1:=a2) (O:=(Ha [.row (j) 26 7 (k).length (b),.box b9 [No y8.1.f.1,d,AaJ y8.1.f.2.2.1,e,No y8.1.f.2.2.2.2.1,No y8.1.f.2.2.2.2.2.1,g] 26,.box ba3_c0 [AaH ba0] 84,.box b1 [No (0:Int),Aat,.string ⟨(([]:AaK)).toArray⟩,Aat,No (0:Int),No (0:Int),Aat] 26] O)) hH bt cl) ?_;rintro _ bu ⟨rfl,al,aa⟩;refine Ac<|Bl rfl h (fun cm h=>?_) (fun cm h=>?_)
  ·refine Au<|Ao<|A2<|Ar<|Aq 2 rfl ?_;have bv:AO a (Ha [.box ba3_c0 [AaH ba0] 84,.box ba0 [AaJ q.2.1,No q.2.2] 86,.row (j) 26 7 (k).length (b),.box b9 [No y8.1.f.1,d,AaJ y8.1.f.2.2.1,e,No y8.1.f.2.2.2.2.1,No y8.1.f.2.2.2.2.2.1,g] 26,.box b1 [No (0:Int),Aat,.string ⟨(([]:AaK)).toArray⟩,Aat,No (0:Int),No (0:Int),Aat] 26] O) bu:=al.C5 [3] rfl;have am:=B6 [3] al bv rfl;refine Ax h fun df cn h=>?_;refine OS [] [AaH ba3_c0] rfl rfl rfl (IH (hself:=hself) (a0_0:=(q.2.1,q.2.2)) (O:=(Ha [.row (j) 26 7 (k).length (b),.box b9 [No y8.1.f.1,d,AaJ y8.1.f.2.2.1,e,No y8.1.f.2.2.2.2.1,No y8.1.f.2.2.2.2.2.1,g] 26,.box b1 [No (0:Int),Aat,.string ⟨(([]:AaK)).toArray⟩,Aat,No (0:Int),No (0:Int),Aat] 26] O)) hH hU bv cn) ?_ ?_
   ·rintro rfl dg ⟨co,b5⟩;have h:=DB h;refine B7<|IC ?_;have h:=BV.out h ba;refine B7<|EW ?_
    cases h
    refine DE ?_;have cp:=co.AP (i:=0) rfl;have cq:=cp.AP (i:=0) rfl;have cr:=cq.AP (i:=0) rfl;have hT:=hT.trans (z.trans (aa.trans (am.trans (b5.trans ((Al (i:=0) rfl).trans ((Al (i:=0) rfl).trans (Al (i:=0) rfl)))))));exact CL ⟨cr,hT⟩
   rintro y90 rfl _ dh ⟨c5,c6,c8,rfl,cs,be,bw,bx,bz⟩;have h:=DC h;refine Bu (r:=.Bc) (l:=[y90.1]) rfl (fun _=>Lx _ _ _ _ _ _ _ _) rfl (show 1≤9223372036854775807 by decide) hH cs (.c7 (Go.E.Rp.FZ ⟨_,_,rfl,rfl,⟨_,_,rfl,⟨_,rfl,bw⟩,⟨_,_,rfl,rfl,⟨_,_,rfl,⟨_,rfl,bx⟩,⟨_,_,rfl,rfl,⟨_,_,rfl,rfl,⟨_,rfl,bz⟩⟩⟩⟩⟩⟩⟩) .nil) ?_;intro di dj da ct bf cu;refine Az h fun cv h=>?_;have c:=c.trans (Ab hH (z.trans (aa.trans (am.trans (be.trans bf)))));refine Bq (r:=.Bc) (l:=k) (m:=[y90.1]) 2 rfl rfl AcV Bh rfl (by decide) rfl hH ct rfl (bd.mono c) cu cv fun cf c4 b0 b2 bg bb=>Aq 1 rfl<|AL<|A8 ?_;have b3:AO a (Ha [.row (cf) 26 7 ((k++[y90.1])).length (b0),.box b9 [No y8.1.f.1,d,AaJ y8.1.f.2.2.1,e,No y8.1.f.2.2.2.2.1,No y8.1.f.2.2.2.2.2.1,g] 26,.box ba3_c0 [AaH ba0] 84,.box ba0 [AaJ y90.2.1,No y90.2.2] 86,.box b1 [No (0:Int),Aat,.string ⟨(([]:AaK)).toArray⟩,Aat,No (0:Int),No (0:Int),Aat] 26] O) c4:=b2.C5 [3,3] rfl;have an:=B6 [3,3] b2 b3 rfl;have h:=BV.again h ba
   have hT:=hT.trans (z.trans (aa.trans (am.trans (be.trans (bf.trans (bg.trans an))))));have c:=c.trans (Ab hH (bg.trans an));have bb:=bb.mono (Ab hH an);refine AN ((k++[y90.1]),y90.2.1,y90.2.2,cf,b0,bs) (Sub.of rfl) ⟨b3,bb,(ar.mono c),(au.mono c),(av.mono c),hT,h⟩ (Nat.lt_succ_self _)
  refine Br<|AD<|A5 ?_;have h:=BV.out h ba;refine Bd ?_;have bc:AO a (Ha [.box b9 [No y8.1.f.1,d,AaJ y8.1.f.2.2.1,e,No y8.1.f.2.2.2.2.1,No y8.1.f.2.2.2.2.2.1,g] 26,.box ba3_c0 [AaH ba0] 84,.box ba0 [AaJ q.2.1,No q.2.2] 86,.row (j) 26 7 (k).length (b),.box b1 [No (0:Int),Aat,.string ⟨(([]:AaK)).toArray⟩,Aat,No (0:Int),No (0:Int),Aat] 26] O) bu:=al.C5 [3,3] rfl;have bh:=B6 [3,3] al bc rfl;have b4:AO a (Ha [.row (j) 26 7 (k).length (b),.box b9 [No y8.1.f.1,d,AaJ y8.1.f.2.2.1,e,No y8.1.f.2.2.2.2.1,No y8.1.f.2.2.2.2.2.1,g] 26,.box ba3_c0 [AaH ba0] 84,.box ba0 [AaJ q.2.1,No q.2.2] 86,.box b1 [No (0:Int),Aat,.string ⟨(([]:AaK)).toArray⟩,Aat,No (0:Int),No (0:Int),Aat] 26] O) bu:=bc.C5 [3] rfl;have bi:=B6 [3] bc b4 rfl;have c:=c.trans (Ab hH (z.trans (aa.trans (bh.trans bi))));have hT:=hT.trans (z.trans (aa.trans (bh.trans bi)))
  refine A6 (k,q.2.1,q.2.2,j,b) (Sub.of rfl) ⟨b4,(bd.mono c),(ar.mono c),(au.mono c),(av.mono c),hT,h⟩
 have hT:=hT.trans (a6.trans (a7.trans (br.trans (ae.trans (y.trans ak)))));rintro⟨aq,ai,aj,af,ac⟩ db ⟨s,b6,aw,ax,ay,hT,h⟩;refine A7 ?_;have o:=s.rG H;refine Bk 1 rfl<|Ae (P4 (i:=0) rfl AcV s rfl) rfl<|AA 1 rfl<|AM rfl h (fun b7 h=>?_) (fun b7 h=>?_)
 ·refine Ak<|Ae (AE 1 rfl AbP rfl Bh s rfl) rfl<|Aj 4 rfl rfl rfl Bh s rfl rfl (AH rfl (AH (aw.mono o).one (AH rfl (AH (ax.mono o).one (AH rfl (AH rfl (AH (ay.mono o).one Cj))))))) fun cw bj az=>Ac<|Ay<|Av ?_
  cases h
  refine FG<|BB rfl (.cell rfl AbP rfl Bh (AT (i:=4) bj rfl)) ?_;have b8:=bj.AP (i:=0) rfl;have ca:=b8.AP (i:=0) rfl;have bk:=ca.AP (i:=2) rfl;have bl:AO a (Ha [.box ba0 [AaJ ai,No aj] 86,.box ba3_c0 [AaH ba0] 84] O) cw:=bk.C5 [1] rfl;have a3:=B6 [1] bk bl rfl;have o:=o.trans (Ab hH (az.trans ((Al (i:=0) rfl).trans ((Al (i:=0) rfl).trans ((Al (i:=2) rfl).trans a3)))));have hT:=hT.trans (az.trans ((Al (i:=0) rfl).trans ((Al (i:=0) rfl).trans ((Al (i:=2) rfl).trans a3))));exact DD ⟨d,e,g,rfl,bl,hT,(aw.mono o),(ax.mono o),(ay.mono o)⟩
 refine Au<|Ao<|Bk 2 rfl<|Ae (AZ rfl (fun _=>Ma _ _ (row_one (s.at (i:=0) rfl)) _)) rfl<|Aj 4 rfl rfl rfl Bh s rfl rfl (AH rfl (AH rfl (AH rfl (AH rfl (AH rfl (AH rfl (AH (row_one (s.at (i:=0) rfl)) Cj))))))) fun cx ao a4=>Ac<|Ay ?_
 cases h
 refine FG<|BB rfl (.cell rfl AbP rfl Bh (AT (i:=4) ao rfl)) ?_;have o:=o.trans (Ab hH a4);have ap:=ao.CA hH (i:=0) rfl (b6.mono o);have cb:=ao.AP (i:=0) rfl;have cc:=cb.AP (i:=0) rfl;have bm:=cc.AP (i:=2) rfl;have bn:AO a (Ha [.box ba0 [AaJ ai,No aj] 86,.box ba3_c0 [AaH ba0] 84] O) cx:=bm.C5 [1] rfl;have a5:=B6 [1] bm bn rfl;have hT:=hT.trans (a4.trans ((Al (i:=0) rfl).trans ((Al (i:=0) rfl).trans ((Al (i:=2) rfl).trans a5))));have ap:=ap.mono (Ab hH ((Al (i:=0) rfl).trans ((Al (i:=2) rfl).trans a5)));exact DD ⟨Aat,Aat,af,rfl,bn,hT,(AI.nil _ _),(AI.nil _ _),ap⟩
def C8(self:(AaK×Int)→Option (Option (Go.L.Qv×(AaK×Int))))(a0:AaK×Int):Option (Option (Go.L.Qv×(AaK×Int))):=
 Option.bind (Ey self (a0.1,a0.2) (9:Int) ([124]:AaK)) (fun a=>P9 a (some none) (fun y9=>some (some (y9.1,(y9.2.1,y9.2.2)))))
theorem J5{self:(AaK×Int)→Option (Option (Go.L.Qv×(AaK×Int)))}(hself:∀ {a w:World} {H:PH} (hH:Le H (hp a)) (hU:D9 H) {O:List BG} {a0:AaK×Int} {ba0:Nat} (hL:AO a (Ha [.box ba0 [AaJ a0.1,No a0.2] 86] O) w) {r:Option (Go.L.Qv×(AaK×Int))} (h:self a0=some r),Rn Tryz.prog 70 [AaH ba0] w (.iface 82 (.agg #[])) (fun v w'=>S9 r v (fun r v=>∃ (g:Value) (j:Value) (k:Value),v=.agg #[No r.1.f.1,g,AaJ r.1.f.2.2.1,j,No r.1.f.2.2.2.2.1,No r.1.f.2.2.2.2.2.1,k]∧AO a (Ha [.box ba0 [AaJ r.2.1,No r.2.2] 86] O) w'∧Le (fz w (Ha [.box ba0 [AaJ a0.1,No a0.2] 86] O)) (fz w' (Ha [.box ba0 [AaJ r.2.1,No r.2.2] 86] O))∧AI .st (gz H a w' (Ha [.box ba0 [AaJ r.2.1,No r.2.2] 86] O)) g (r.1.f.2.1)∧AI .byte (gz H a w' (Ha [.box ba0 [AaJ r.2.1,No r.2.2] 86] O)) j (r.1.f.2.2.2.1)∧AI .Bc (gz H a w' (Ha [.box ba0 [AaJ r.2.1,No r.2.2] 86] O)) k (r.1.f.2.2.2.2.2.2)) (AO a O w'∧Le (fz w (Ha [.box ba0 [AaJ a0.1,No a0.2] 86] O)) (fz w' O)))){a w:World}{H:PH}(hH:Le H (hp a))(hU:D9 H){O:List BG}{a0:AaK×Int}{ba0:Nat}(hL:AO a (Ha [.box ba0 [AaJ a0.1,No a0.2] 86] O) w){r:Option (Go.L.Qv×(AaK×Int))}(h:C8 self a0=some r):
  Rn Tryz.prog 39 [AaH ba0] w (.iface 82 (.agg #[])) (fun v w'=>S9 r v (fun r v=>∃ (g:Value) (j:Value) (k:Value),v=.agg #[No r.1.f.1,g,AaJ r.1.f.2.2.1,j,No r.1.f.2.2.2.2.1,No r.1.f.2.2.2.2.2.1,k]∧AO a (Ha [.box ba0 [AaJ r.2.1,No r.2.2] 86] O) w'∧Le (fz w (Ha [.box ba0 [AaJ a0.1,No a0.2] 86] O)) (fz w' (Ha [.box ba0 [AaJ r.2.1,No r.2.2] 86] O))∧AI .st (gz H a w' (Ha [.box ba0 [AaJ r.2.1,No r.2.2] 86] O)) g (r.1.f.2.1)∧AI .byte (gz H a w' (Ha [.box ba0 [AaJ r.2.1,No r.2.2] 86] O)) j (r.1.f.2.2.2.1)∧AI .Bc (gz H a w' (Ha [.box ba0 [AaJ r.2.1,No r.2.2] 86] O)) k (r.1.f.2.2.2.2.2.2)) (AO a O w'∧Le (fz w (Ha [.box ba0 [AaJ a0.1,No a0.2] 86] O)) (fz w' O))):=by
 refine Ih (n:=8) [(0,(AaH ba0))] func39 rfl rfl rfl rfl rfl ?_;have hT:=Le.refl (fz w (Ha [.box ba0 [AaJ a0.1,No a0.2] 86] O));refine Ak<|Tt (t:=84) rfl rfl rfl hL fun w1 b1 ad l _=>AG Bh rfl rfl ad fun w2 b2 m o _=>Ac<|A9 2 rfl<|Ak<|Ae (Ag 1 rfl AcZ rfl m rfl rfl) rfl<|Aq 1 rfl ?_;have s:AO a (Ha [.box ba0 [AaJ a0.1,No a0.2] 86,.box b1 [AaH ba0] 84,.box b2 [No (0:Int),Aat,.string ⟨(([]:AaK)).toArray⟩,Aat,No (0:Int),No (0:Int),Aat] 26] O) w2:=m.C5 [1,2] rfl;have p:=B6 [1,2] m s rfl;refine Ax h fun x4 af h=>?_;refine Fz rfl rfl (Mm (hself:=hself) (a0:=(a0.1,a0.2)) (a1:=(9:Int)) (a2:=([124]:AaK)) (O:=(Ha [.box b2 [No (0:Int),Aat,.string ⟨(([]:AaK)).toArray⟩,Aat,No (0:Int),No (0:Int),Aat] 26] O)) hH hU s af) ?_ ?_
 ·rintro rfl w6 ⟨ag,u⟩;have h:=DB h;refine B0 ?_
  cases h
  refine DE ?_;have ah:=ag.AP (i:=0) rfl;have hT:=hT.trans (l.trans (o.trans (p.trans (u.trans (Al (i:=0) rfl)))));exact CL ⟨ah,hT⟩
 rintro y9 rfl _ w5 ⟨x,y,z,rfl,ai,aa,b,c,d⟩;have h:=DC h;refine Aj 2 rfl rfl rfl Bh ai rfl rfl (AH rfl (AH b.one (AH rfl (AH c.one (AH rfl (AH rfl (AH d.one Cj))))))) fun al q e=>Ac<|Ay ?_
 cases h
 refine FG<|BB rfl (.cell rfl AbP rfl Bh (AT (i:=2) q rfl)) ?_;have ab:=q.AP (i:=1) rfl;have ac:=ab.AP (i:=1) rfl;have hT:=hT.trans (l.trans (o.trans (p.trans (aa.trans (e.trans ((Al (i:=1) rfl).trans (Al (i:=1) rfl)))))));have b:=b.mono (Ab hH (e.trans ((Al (i:=1) rfl).trans (Al (i:=1) rfl))));have c:=c.mono (Ab hH (e.trans ((Al (i:=1) rfl).trans (Al (i:=1) rfl))));have d:=d.mono (Ab hH (e.trans ((Al (i:=1) rfl).trans (Al (i:=1) rfl))));exact DD ⟨x,y,z,rfl,ac,hT,b,c,d⟩
def B1(a0:AaK×Int)(a1:AaK):Option (Option ((AaK×Int))):=
 Option.bind (Bg (a0.1,a0.2) a1) (fun a=>if !a.1 then some none else some (some ((a.2.1,a.2.2))))
theorem E9{b w:World}{H:PH}(hH:Le H (hp b)){O:List BG}{a0:AaK×Int}{a1:AaK}{ba0:Nat}(hL:AO b (Ha [.box ba0 [AaJ a0.1,No a0.2] 86] O) w){r:Option ((AaK×Int))}(h:B1 a0 a1=some r):
  Rn Tryz.prog 112 [AaH ba0,AaJ a1] w (.iface 82 (.agg #[])) (fun v w'=>S9 r v (fun r v=>v=.tuple #[]∧AO b (Ha [.box ba0 [AaJ r.1,No r.2] 86] O) w'∧Le (fz w (Ha [.box ba0 [AaJ a0.1,No a0.2] 86] O)) (fz w' (Ha [.box ba0 [AaJ r.1,No r.2] 86] O))) (AO b O w'∧Le (fz w (Ha [.box ba0 [AaJ a0.1,No a0.2] 86] O)) (fz w' O))):=by
 refine Ih (n:=10) [(0,(AaH ba0)),(1,(AaJ a1))] func112 rfl rfl rfl rfl rfl ?_;have hT:=Le.refl (fz w (Ha [.box ba0 [AaJ a0.1,No a0.2] 86] O));refine Bk 2 rfl ?_;refine Ax h fun g d h=>?_;refine DA rfl rfl (Bz (a0:=(a0.1,a0.2)) (a1:=a1) (O:=(Ha [] O)) hH hL d) ?_;rintro _ j ⟨rfl,c,a⟩;refine AA 1 rfl<|Bl rfl h (fun e h=>?_) (fun e h=>?_)
 ·refine Ar<|Ae (AZ rfl (fun _=>NV _)) rfl<|Ae (SA rfl Ada rfl) rfl<|NP rfl rfl ?_
  cases h
  refine DE ?_;have f:=c.AP (i:=0) rfl;have hT:=hT.trans (a.trans (Al (i:=0) rfl));exact CL ⟨f,hT⟩
 refine Au ?_
 cases h
 refine ZH<|Ju rfl ?_;have hT:=hT.trans a;exact DD ⟨rfl,c,hT⟩
def Da(a0:AaK×Int)(a:Int):Option (AaK×(AaK×Int)):=
 AU (0≤a∧a≤(a0.1.length:Int)) (AU (0≤a∧a≤(a0.1.length:Int)) (some ((a0.1.take a.toNat),((a0.1.drop a.toNat),a0.2))))
def Cf(a0:AaK×Int)(a1:AaK):Option (AaK×(AaK×Int)):=
 Option.bind (M8 a0.1 a1) (fun a=>if a<(0:Int) then(Da a0) (a0.1.length:Int) else(Da a0) a)
theorem Fc{e w:World}{H:PH}(hH:Le H (hp e)){O:List BG}{a0:AaK×Int}{a1:AaK}{ba0:Nat}(hL:AO e (Ha [.box ba0 [AaJ a0.1,No a0.2] 86] O) w){r:AaK×(AaK×Int)}(h:Cf a0 a1=some r):
  Ok Tryz.prog 114 [AaH ba0,AaJ a1] w (fun v w'=>v=(AaJ r.1)∧AO e (Ha [.box ba0 [AaJ r.2.1,No r.2.2] 86] O) w'∧Le (fz w (Ha [.box ba0 [AaJ a0.1,No a0.2] 86] O)) (fz w' (Ha [.box ba0 [AaJ r.2.1,No r.2.2] 86] O))):=by
 refine A4 (n:=36) [(0,(AaH ba0)),(1,(AaJ a1))] func114 rfl rfl rfl rfl rfl ?_;have hT:=Le.refl (fz w (Ha [.box ba0 [AaJ a0.1,No a0.2] 86] O));refine A9 1 rfl<|Bk 1 rfl<|Ae (C4 rfl) rfl<|Ae (Af rfl AcW rfl Fu (by decide)) rfl<|Ae (Ag 0 rfl Abb rfl hL rfl rfl) rfl<|Aq 1 rfl ?_;refine Ax h fun m l h=>?_;refine AF rfl rfl hL (Xb _ _ (As hH hL) l) fun s o c b=>AA 1 rfl<|Bn (σ:=Int) (fun a=>[(0,(AaH ba0)),(5,No a)]) (fun a wr=>DZ e (Ha [.box ba0 [AaJ a0.1,No a0.2] 86] O) wr fun Oz=>Le (fz w (Ha [.box ba0 [AaJ a0.1,No a0.2] 86] O)) (fz wr Oz)∧(Da a0) a=some r) ?_ ?_
 ·refine A9 2 rfl<|AM rfl h (fun g h=>?_) (fun g h=>?_)
  ·refine Ar<|Aq 1 rfl<|Ae (C4 rfl) rfl<|Ae (Af rfl AcW rfl Fu (by decide)) rfl<|Ae (Ag 0 rfl Abb rfl c rfl rfl) rfl<|Ae (De rfl Abb) rfl<|Aq 1 rfl<|AL ?_;have hT:=hT.trans b;refine A6 (a0.1.length:Int) (Sub.of rfl) ⟨c,hT,h⟩
  refine Au ?_;have hT:=hT.trans b;refine A6 m (Sub.of rfl) ⟨c,hT,h⟩
 have hT:=hT.trans b;rintro a p ⟨d,hT,h⟩;refine Bk 1 rfl<|Ae (C4 rfl) rfl<|Ae (Af rfl AcW rfl Fu (by decide)) rfl<|Ae (Ag 0 rfl Abb rfl d rfl rfl) rfl<|Aq 1 rfl ?_;refine Az h fun i h=>?_;refine Ae (Vs rfl rfl Abb i) rfl<|AA 1 rfl<|Bk 2 rfl<|Ae (C4 rfl) rfl<|Ae (Af rfl AcW rfl Fu (by decide)) rfl<|Ae (Ag 0 rfl Abb rfl d rfl rfl) rfl<|Aq 1 rfl ?_;refine Az h fun j h=>?_;refine Ae (PE rfl rfl Abb j) rfl<|Ae (C4 rfl) rfl<|Ae (Af rfl AcW rfl Fu (by decide)) rfl<|Bi 0 rfl rfl rfl Fu d rfl rfl fun q k f=>Ac<|A9 2 rfl<|Ay ?_
 cases h
 refine Am rfl rfl ?_;have hT:=hT.trans f;exact⟨rfl,k,hT⟩
def Cu(b:AaK)(c:Bool×(AaK×Int))(d:AaK)(a:UInt8):Option ((AaK×AaK×Int) ⊕ (Option (AaK×(AaK×Int)))):=
 AU (Go.E.JE 1 (b.length+([a]).length)) (some (Sum.inl ((b++[a]),d,c.2.2)))
def D1(d:AaK)(b:Bool×(AaK×Int))(a:Int)(c:Int):Option ((AaK×AaK×Int) ⊕ (Option (AaK×(AaK×Int)))):=
 AU (BL (a * 16)) (AU ((0≤(a * 16)∧(a * 16)<2 ^ 63)∧(0≤c∧c<2 ^ 63)) (AU (0≤(2:Int)∧(2:Int)≤((b.2.1.drop (1:Int).toNat).length:Int)) ((Cu d b) ((b.2.1.drop (1:Int).toNat).drop (2:Int).toNat) (Go.L.u8 (((a * 16).toNat ||| c.toNat:Nat):Int)))))
def D2(d:AaK)(a:Bool×(AaK×Int)):Option ((AaK×AaK×Int) ⊕ (Option (AaK×(AaK×Int)))):=
 AU (0≤(0:Int)∧(0:Int)<((a.2.1.drop (1:Int).toNat).length:Int)) (Option.bind (Nv ([48,49,50,51,52,53,54,55,56,57,97,98,99,100,101,102]:AaK) ((a.2.1.drop (1:Int).toNat).getD (0:Int).toNat default)) (fun b=>AU (0≤(1:Int)∧(1:Int)<((a.2.1.drop (1:Int).toNat).length:Int)) (Option.bind (Nv ([48,49,50,51,52,53,54,55,56,57,97,98,99,100,101,102]:AaK) ((a.2.1.drop (1:Int).toNat).getD (1:Int).toNat default)) (fun c=>if(b<(0:Int))∨(c<(0:Int)) then Option.map Sum.inr (some none) else(D1 d a b c)))))
def CG(b:AaK)(a:Bool×(AaK×Int)):Option ((AaK×AaK×Int) ⊕ (Option (AaK×(AaK×Int)))):=
 AU (0≤(0:Int)∧(0:Int)<(a.2.1.length:Int)) (AU (0≤(1:Int)∧(1:Int)≤(a.2.1.length:Int)) (if((a.2.1.getD (0:Int).toNat default).toNat:Int)=92 then(if((a.2.1.drop (1:Int).toNat).length:Int)<(2:Int) then Option.map Sum.inr (some none) else(D2 b a)) else(Cu b a) (a.2.1.drop (1:Int).toNat) (a.2.1.getD (0:Int).toNat default)))
def EA(a:AaK)(b:AaK)(c:Int):Option (Option (AaK×(AaK×Int))):=
 some (some (a,(b,c)))
def BT:AaK×AaK×Int→Option ((AaK×AaK×Int) ⊕ (Option (AaK×(AaK×Int)))):=fun⟨b,c,d⟩=>
 Option.bind (Bg (c,d) ([39]:AaK)) (fun a=>if !a.1 then(if a.2.1=([]:AaK) then Option.map Sum.inr (some none) else(CG b a)) else Option.map Sum.inr (EA b a.2.1 a.2.2))
def D3(s:AaK×AaK×Int):Option (Option (AaK×(AaK×Int))):=Go.L.run (BT) s
def D4(a0:AaK×Int):Option (Option (AaK×(AaK×Int))):=
 D3 (([]:AaK),a0.1,a0.2)
theorem Jl{p w:World}{H:PH}(hH:Le H (hp p)){O:List BG}{a0:AaK×Int}{ba0:Nat}(hL:AO p (Ha [.box ba0 [AaJ a0.1,No a0.2] 86] O) w){r:Option (AaK×(AaK×Int))}(h:D4 a0=some r):
  Rn Tryz.prog 115 [AaH ba0] w (.iface 82 (.agg #[])) (fun v w'=>S9 r v (fun r v=>∃ (u0:Value) (y0:List Value),v=u0∧AO p (Ha [.row u0 5 1 (r.1).length y0,.box ba0 [AaJ r.2.1,No r.2.2] 86] O) w'∧Le (fz w (Ha [.box ba0 [AaJ a0.1,No a0.2] 86] O)) (fz w' (Ha [.row u0 5 1 (r.1).length y0,.box ba0 [AaJ r.2.1,No r.2.2] 86] O))∧AJ .byte (gz H p w' (Ha [.row u0 5 1 (r.1).length y0,.box ba0 [AaJ r.2.1,No r.2.2] 86] O)) (r.1) y0) (AO p O w'∧Le (fz w (Ha [.box ba0 [AaJ a0.1,No a0.2] 86] O)) (fz w' O))):=by
 refine Ih (n:=78) [(0,(AaH ba0))] func115 rfl rfl rfl rfl rfl ?_;have hT:=Le.refl (fz w (Ha [.box ba0 [AaJ a0.1,No a0.2] 86] O));refine A9 1 rfl<|Bk 1 rfl ?_;obtain⟨b7,a8,b8⟩:=CB .byte H 5 hL;refine Ac<|Bn (σ:=AaK×AaK×Int×Value×(List Value)) (fun⟨af,ag,ah,z,s⟩=>[(3,z)]) (fun⟨af,ag,ah,z,s⟩ wr=>DZ p (Ha [.row (z) 5 1 (af).length (s),.box ba0 [AaJ ag,No ah] 86] O) wr fun Oz=>AJ .byte (gz H p wr Oz) (af) (s)∧Le (fz w (Ha [.box ba0 [AaJ a0.1,No a0.2] 86] O)) (fz wr Oz)∧EA af ag ah=some r) ?_ ?_
 ·refine A2 ?_;obtain⟨ap,h⟩:=AY h;have hT:=hT.trans a8;refine Bw (σ:=AaK×AaK×Int×Value×(List Value)×Nat) (fun⟨d,x,y,e,b,n⟩=>[(0,(AaH ba0)),(3,e)]) (fun⟨d,x,y,e,b,n⟩ wr=>DZ p (Ha [.row (e) 5 1 (d).length (b),.box ba0 [AaJ x,No y] 86] O) wr fun Oz=>AJ .byte (gz H p wr Oz) (d) (b)∧Le (fz w (Ha [.box ba0 [AaJ a0.1,No a0.2] 86] O)) (fz wr Oz)∧FT BT n (d,x,y)=some r) (fun⟨d,x,y,e,b,n⟩=>n) (([]:AaK),a0.1,a0.2,Aat,[],ap) (Sub.of rfl) ⟨b7,b8,hT,h⟩ ?_;rintro⟨d,x,y,e,b,nn155⟩ bd ⟨au,a,hT,h⟩;obtain⟨ap,ai,rfl,h,aa⟩:=AX h;refine A7<|Bk 1 rfl ?_;have av:AO p (Ha [.box ba0 [AaJ x,No y] 86,.row (e) 5 1 (d).length (b)] O) bd:=au.C5 [1] rfl;have k:=B6 [1] au av rfl;refine Ax h fun f be h=>?_;refine DA rfl rfl (Bz (a0:=(x,y)) (a1:=([39]:AaK)) (O:=(Ha [.row (e) 5 1 (d).length (b)] O)) hH av be) ?_;rintro _ b5 ⟨rfl,ab,o⟩;refine AA 1 rfl<|Bl rfl h (fun bf h=>?_) (fun bf h=>?_)
  ·refine Au<|Ao<|A2<|Bn (σ:=Unit) (fun(_:Unit)=>[(0,(AaH ba0)),(3,e)]) (fun(_:Unit) wr=>DZ p (Ha [.box ba0 [AaJ f.2.1,No f.2.2] 86,.row (e) 5 1 (d).length (b)] O) wr fun Oz=>AJ .byte (gz H p wr Oz) (d) (b)∧Le (fz w (Ha [.box ba0 [AaJ a0.1,No a0.2] 86] O)) (fz wr Oz)∧(CG d f)=some ai) ?_ ?_
   ·refine Bk 1 rfl<|Ae (C4 rfl) rfl<|Ae (Af rfl AcW rfl Fu (by decide)) rfl<|Ae (Ag 0 rfl Abb rfl ab rfl rfl) rfl<|Ae (KN rfl rfl) rfl<|Ac<|AM rfl h (fun bg h=>?_) (fun bg h=>?_)
    ·refine Ar<|Ae (AZ rfl (fun _=>NV _)) rfl<|Ae (SA rfl Ada rfl) rfl<|NP rfl rfl<|EW<|B7<|IC ?_;have h:=BV.out h aa;refine B7<|EW ?_
     cases h
     refine DE ?_;have bh:=ab.AP (i:=0) rfl;have bi:=bh.AP (i:=0) rfl;have hT:=hT.trans (k.trans (o.trans ((Al (i:=0) rfl).trans (Al (i:=0) rfl))));exact CL ⟨bi,hT⟩
    refine Au ?_;have a:=a.mono (Ab hH (k.trans o));have hT:=hT.trans (k.trans o);refine A6 () (Sub.of rfl) ⟨ab,a,hT,h⟩
   have a:=a.mono (Ab hH (k.trans o));have hT:=hT.trans (k.trans o);rintro _ b9 ⟨aj,a,hT,h⟩;refine Bk 1 rfl<|Ae (C4 rfl) rfl<|Ae (Af rfl AcW rfl Fu (by decide)) rfl<|Ae (Ag 0 rfl Abb rfl aj rfl rfl) rfl ?_;refine Az h fun bj h=>?_;refine Ae (G7 rfl rfl Abb bj) rfl<|AA 1 rfl<|Bk 2 rfl<|Ae (C4 rfl) rfl<|Ae (Af rfl AcW rfl Fu (by decide)) rfl<|Ae (Ag 0 rfl Abb rfl aj rfl rfl) rfl ?_;refine Az h fun bk h=>?_;refine Ae (PE rfl rfl Abb bk) rfl<|Ae (C4 rfl) rfl<|Ae (Af rfl AcW rfl Fu (by decide)) rfl<|Bi 0 rfl rfl rfl Fu aj rfl rfl fun ch ad g=>Ac<|Bn (σ:=AaK×UInt8) (fun⟨ac,j⟩=>[(0,(AaH ba0)),(3,e),(4,.int .u8 (j.toNat:Int))]) (fun⟨ac,j⟩ wr=>DZ p (Ha [.box ba0 [AaJ ac,No f.2.2] 86,.row (e) 5 1 (d).length (b)] O) wr fun Oz=>AJ .byte (gz H p wr Oz) (d) (b)∧Le (fz w (Ha [.box ba0 [AaJ a0.1,No a0.2] 86] O)) (fz wr Oz)∧(Cu d f) ac j=some ai) ?_ ?_
   ·refine A9 2 rfl<|AM rfl h (fun bl h=>?_) (fun bl h=>?_)
    ·refine Bn (σ:=Unit) (fun(_:Unit)=>[(0,(AaH ba0)),(3,e)]) (fun(_:Unit) wr=>DZ p (Ha [.box ba0 [.string ⟨((f.2.1.drop (1:Int).toNat)).toArray⟩,No f.2.2] 86,.row (e) 5 1 (d).length (b)] O) wr fun Oz=>AJ .byte (gz H p wr Oz) (d) (b)∧Le (fz w (Ha [.box ba0 [AaJ a0.1,No a0.2] 86] O)) (fz wr Oz)∧(D2 d f)=some ai) ?_ ?_
     ·refine Bk 1 rfl<|Ae (C4 rfl) rfl<|Ae (Af rfl AcW rfl Fu (by decide)) rfl<|Ae (Ag 0 rfl Abb rfl ad rfl rfl) rfl<|Ae (De rfl Abb) rfl<|AA 1 rfl<|AM rfl h (fun bm h=>?_) (fun bm h=>?_)
      ·refine Ar<|Ae (AZ rfl (fun _=>NV _)) rfl<|Ae (SA rfl Ada rfl) rfl<|NP rfl rfl ?_
       iterate 2 refine EW ?_
       refine B7<|IC ?_;have h:=BV.out h aa;refine B7<|EW ?_
       cases h
       refine DE ?_;have bn:=ad.AP (i:=0) rfl;have bo:=bn.AP (i:=0) rfl;have hT:=hT.trans (g.trans ((Al (i:=0) rfl).trans (Al (i:=0) rfl)));exact CL ⟨bo,hT⟩
      refine Au ?_;have a:=a.mono (Ab hH g);have hT:=hT.trans g;refine A6 () (Sub.of rfl) ⟨ad,a,hT,h⟩
     have a:=a.mono (Ab hH g);have hT:=hT.trans g;rintro _ ca ⟨aw,a,hT,h⟩;refine EH (.q 0 (.q 1 (.q 2 (.q 3 (.q 4 (.q 5 (.q 6 (.q 7 (.q 8 (.q 9 (.q 10 (.q 11 (.q 12 (.q 13 (.tail 14))))))))))))))) mixed (by kernel_rfl) (fun ci ax=>?_);have ae:=aw.call ax;have t:=AV aw ax;refine CD 1 rfl<|BH (C4 rfl) rfl rfl<|BH (Af rfl AcW rfl Fu (by decide)) rfl rfl<|BH (Ag 0 rfl Abb rfl ae rfl rfl) rfl rfl ?_;refine Az h fun bp h=>?_;refine BH (G7 rfl rfl Abb bp) rfl rfl ?_;refine Ax h fun aq bq h=>?_;refine EI rfl rfl rfl (fun cj cb=>QO _ _ (Le.refl _) bq)<|CD 1 rfl<|BH (C4 rfl) rfl rfl<|BH (Af rfl AcW rfl Fu (by decide)) rfl rfl<|BH (Ag 0 rfl Abb rfl ae rfl rfl) rfl rfl ?_;refine Az h fun br h=>?_;refine BH (G7 rfl rfl Abb br) rfl rfl ?_;refine Ax h fun ar bs h=>?_;refine EI rfl rfl rfl (fun ck cc=>QO _ _ (Le.refl _) bs)<|CD 2 rfl<|BQ (fun cl ay=>?_);have az:=ae.call ay;have u:=AV ae ay;refine Ac ?_
     refine Bn (σ:=Unit) (fun(_:Unit)=>[(0,(AaH ba0)),(3,e),(5,No aq),(6,No ar)]) (fun(_:Unit) wr=>DZ p (Ha [.box ba0 [.string ⟨((f.2.1.drop (1:Int).toNat)).toArray⟩,No f.2.2] 86,.row (e) 5 1 (d).length (b)] O) wr fun Oz=>AJ .byte (gz H p wr Oz) (d) (b)∧Le (fz w (Ha [.box ba0 [AaJ a0.1,No a0.2] 86] O)) (fz wr Oz)∧(D1 d f aq ar)=some ai) ?_ ?_
     ·refine Bk 3 rfl<|Si 2 2 rfl rfl rfl rfl rfl rfl<|Ac<|AM rfl h (fun bt h=>?_) (fun bt h=>?_)
      ·refine Ar<|Ae (AZ rfl (fun _=>NV _)) rfl<|Ae (SA rfl Ada rfl) rfl<|NP rfl rfl ?_
       iterate 2 refine EW ?_
       refine B7<|IC ?_;have h:=BV.out h aa;refine B7<|EW ?_
       cases h
       refine DE ?_;have bu:=az.AP (i:=0) rfl;have bv:=bu.AP (i:=0) rfl;have hT:=hT.trans (t.trans (u.trans ((Al (i:=0) rfl).trans (Al (i:=0) rfl))));exact CL ⟨bv,hT⟩
      refine Au ?_;have a:=a.mono (Ab hH (t.trans u));have hT:=hT.trans (t.trans u);refine A6 () (Sub.of rfl) ⟨az,a,hT,h⟩
     have a:=a.mono (Ab hH (t.trans u));have hT:=hT.trans (t.trans u);rintro _ cd ⟨a2,a,hT,h⟩;refine Bk 1 rfl ?_;refine Az h fun a3 h=>?_;refine Ae (AaO (c:=4) (m:=16) rfl rfl rfl (by decide) (wrap64 a3.1 a3.2)) rfl<|Aq 1 rfl ?_;refine Az h fun bw h=>?_;refine Ae (Abo rfl rfl rfl bw) rfl<|Ae (EV AaT Ab9 rfl (HS _)) rfl<|AA 1 rfl<|Ar<|Aq 2 rfl<|Ae (C4 rfl) rfl<|Ae (Af rfl AcW rfl Fu (by decide)) rfl<|Ae (Ag 0 rfl Abb rfl a2 rfl rfl) rfl ?_;refine Az h fun bx h=>?_;refine Ae (PE rfl rfl Abb bx) rfl<|Ae (C4 rfl) rfl<|Ae (Af rfl AcW rfl Fu (by decide)) rfl<|Bi 0 rfl rfl rfl Fu a2 rfl rfl fun cm bz al=>AL ?_;have a:=a.mono (Ab hH al);have hT:=hT.trans al;refine A6 (((f.2.1.drop (1:Int).toNat).drop (2:Int).toNat),(Go.L.u8 (((aq * 16).toNat ||| ar.toNat:Nat):Int))) (Sub.of rfl) ⟨bz,a,hT,h⟩
    refine Au ?_;have a:=a.mono (Ab hH g);have hT:=hT.trans g;refine A6 ((f.2.1.drop (1:Int).toNat),(f.2.1.getD (0:Int).toNat default)) (Sub.of rfl) ⟨ad,a,hT,h⟩
   have a:=a.mono (Ab hH g);have hT:=hT.trans g;rintro⟨ac,j⟩ ce ⟨b0,a,hT,h⟩;refine Ar<|Aq 2 rfl<|Bu (r:=.byte) (l:=[j]) rfl (fun _=>Ik _ _) rfl (show 1≤9223372036854775807 by decide) hH b0 (.c1 rfl .nil) ?_;intro cn co cf b1 am b2;refine Az h fun b3 h=>?_;have a:=a.mono (Ab hH am);refine Bq (r:=.byte) (l:=d) (m:=[j]) 1 rfl rfl Abe Lo rfl (by decide) rfl hH b1 rfl a b2 b3 fun a9 b6 a4 a5 ba ak=>Aq 1 rfl<|AL<|A8 ?_;have a6:AO p (Ha [.row (a9) 5 1 ((d++[j])).length (a4),.box ba0 [AaJ ac,No f.2.2] 86] O) b6:=a5.C5 [1] rfl;have an:=B6 [1] a5 a6 rfl;have h:=BV.again h aa;have hT:=hT.trans (am.trans (ba.trans an));have ak:=ak.mono (Ab hH an);refine AN ((d++[j]),ac,f.2.2,a9,a4,ap) (Sub.of rfl) ⟨a6,ak,hT,h⟩ (Nat.lt_succ_self _)
  refine Br<|AD<|A5 ?_;have h:=BV.out h aa;refine Bd ?_;have a7:AO p (Ha [.row (e) 5 1 (d).length (b),.box ba0 [AaJ f.2.1,No f.2.2] 86] O) b5:=ab.C5 [1] rfl;have ao:=B6 [1] ab a7 rfl;have a:=a.mono (Ab hH (k.trans (o.trans ao)));have hT:=hT.trans (k.trans (o.trans ao));refine A6 (d,f.2.1,f.2.2,e,b) (Sub.of rfl) ⟨a7,a,hT,h⟩
 have hT:=hT.trans a8;rintro⟨af,ag,ah,z,s⟩ cg ⟨b4,bb,hT,h⟩;refine A9 2 rfl<|Ay ?_
 cases h
 refine FG<|Am rfl rfl<|DD ⟨z,s,rfl,b4,hT,bb⟩
def D5(a0:AaK×Int)(a:Int)(b:Int×Bool):Option (Option (Int×(AaK×Int))):=
 AU (0≤a∧a≤(a0.1.length:Int)) (some (some (b.1,((a0.1.drop a.toNat),a0.2))))
def B8(a0:AaK×Int)(a:Int):Option (Option (Int×(AaK×Int))):=
 AU (0≤a∧a≤(a0.1.length:Int)) (Option.bind (Wp (a0.1.take a.toNat)) (fun b=>if b.2 then(D5 a0 a b) else some none))
def B3(a0:AaK×Int):Int→Option ((Int) ⊕ (Option (Int×(AaK×Int)))):=fun a=>
 if a<(a0.1.length:Int) then AU (0≤a∧a<(a0.1.length:Int)) (if 48≤((a0.1.getD a.toNat default).toNat:Int) then AU (0≤a∧a<(a0.1.length:Int)) (if((a0.1.getD a.toNat default).toNat:Int)≤57 then AU (BL (a+(1:Int))) (some (Sum.inl (a+(1:Int)))) else if a=(0:Int) then AU (0≤a∧a<(a0.1.length:Int)) (if((a0.1.getD a.toNat default).toNat:Int)=45 then AU (BL (a+(1:Int))) (some (Sum.inl (a+(1:Int)))) else Option.map Sum.inr ((B8 a0) a)) else Option.map Sum.inr ((B8 a0) a)) else if a=(0:Int) then AU (0≤a∧a<(a0.1.length:Int)) (if((a0.1.getD a.toNat default).toNat:Int)=45 then AU (BL (a+(1:Int))) (some (Sum.inl (a+(1:Int)))) else Option.map Sum.inr ((B8 a0) a)) else Option.map Sum.inr ((B8 a0) a)) else Option.map Sum.inr ((B8 a0) a)
def Cv(a0:AaK×Int)(s:Int):Option (Option (Int×(AaK×Int))):=Go.L.run (B3 a0) s
def BU(a0:AaK×Int):Option (Option (Int×(AaK×Int))):=
 (Cv a0) (0:Int)
theorem GL{p w:World}{H:PH}(hH:Le H (hp p))(hU:D9 H){O:List BG}{a0:AaK×Int}{ba0:Nat}(hL:AO p (Ha [.box ba0 [AaJ a0.1,No a0.2] 86] O) w){r:Option (Int×(AaK×Int))}(h:BU a0=some r):
  Rn Tryz.prog 117 [AaH ba0] w (.iface 82 (.agg #[])) (fun v w'=>S9 r v (fun r v=>v=No r.1∧AO p (Ha [.box ba0 [AaJ r.2.1,No r.2.2] 86] O) w'∧Le (fz w (Ha [.box ba0 [AaJ a0.1,No a0.2] 86] O)) (fz w' (Ha [.box ba0 [AaJ r.2.1,No r.2.2] 86] O))) (AO p O w'∧Le (fz w (Ha [.box ba0 [AaJ a0.1,No a0.2] 86] O)) (fz w' O))):=by
 refine Ih (n:=70) [(0,(AaH ba0))] func117 rfl rfl rfl rfl rfl ?_;have hT:=Le.refl (fz w (Ha [.box ba0 [AaJ a0.1,No a0.2] 86] O));refine A9 1 rfl<|A9 1 rfl<|Bn (σ:=Int) (fun k=>[(0,(AaH ba0)),(3,No k)]) (fun k wr=>DZ p (Ha [.box ba0 [AaJ a0.1,No a0.2] 86] O) wr fun Oz=>Le (fz w (Ha [.box ba0 [AaJ a0.1,No a0.2] 86] O)) (fz wr Oz)∧(B8 a0) k=some r) ?_ ?_
 ·refine A2 ?_;obtain⟨o,h⟩:=AY h;refine Bw (σ:=Int×Nat) (fun⟨b,n⟩=>[(0,(AaH ba0)),(3,No b)]) (fun⟨b,n⟩ wr=>DZ p (Ha [.box ba0 [AaJ a0.1,No a0.2] 86] O) wr fun Oz=>Le (fz w (Ha [.box ba0 [AaJ a0.1,No a0.2] 86] O)) (fz wr Oz)∧FT (B3 a0) n b=some r) (fun⟨b,n⟩=>n) ((0:Int),o) (Sub.of rfl) ⟨hL,hT,h⟩ ?_;rintro⟨b,nn94⟩ ar ⟨f,hT,h⟩;obtain⟨o,a1,rfl,h,j⟩:=AX h;refine A7<|Bk 2 rfl<|Ae (C4 rfl) rfl<|Ae (Af rfl AcW rfl Fu (by decide)) rfl<|Ae (Ag 0 rfl Abb rfl f rfl rfl) rfl<|Ae (De rfl Abb) rfl<|Aq 2 rfl<|AQ (s:=13) rfl (fun a=>?_) (fun a=>?_)
  ·have h:=BO (of_decide_eq_true a) h;refine Aa rfl rfl a<|Ae (Ad rfl) rfl<|Aa rfl rfl a<|Ae (C4 rfl) rfl<|Aa rfl rfl a<|Ae (Af rfl AcW rfl Fu (by decide)) rfl<|Aa rfl rfl a<|Ae (Ag 0 rfl Abb rfl f rfl rfl) rfl<|Aa rfl rfl a<|Ae (Ad rfl) rfl<|Aa rfl rfl a ?_;refine Az h fun ao h=>?_;refine Ae (G7 rfl rfl Abb ao) rfl<|Aa rfl rfl a<|Ae (Ad rfl) rfl<|Aa rfl rfl a<|Ae (Ad rfl) rfl<|AQ (s:=21) rfl (fun g=>?_) (fun g=>?_)
   ·have h:=BO (of_decide_eq_true g) h;refine Aa rfl rfl g<|Ae (Ad rfl) rfl<|Aa rfl rfl g<|Ae (C4 rfl) rfl<|Aa rfl rfl g<|Ae (Af rfl AcW rfl Fu (by decide)) rfl<|Aa rfl rfl g<|Ae (Ag 0 rfl Abb rfl f rfl rfl) rfl<|Aa rfl rfl g<|Ae (Ad rfl) rfl<|Aa rfl rfl g ?_;refine Az h fun z h=>?_;refine Ae (G7 rfl rfl Abb z) rfl<|Aa rfl rfl g<|Ae (Ad rfl) rfl<|Aa rfl rfl a<|Ae (A1 rfl g rfl) rfl<|Aa rfl rfl a<|Ae (Ad rfl) rfl<|AQ (s:=30) rfl (fun c=>?_) (fun c=>?_)
    ·have h:=BO (of_decide_eq_true c) h
     iterate 3 refine Ai rfl rfl c rfl ?_
     iterate 7 refine Ce rfl rfl rfl ?_
     refine Ai rfl rfl c rfl<|Aa rfl rfl a<|Ae (A1 rfl c rfl) rfl<|Ae (A1 rfl a rfl) rfl<|Ac<|Cy rfl<|Au<|Ao<|A2<|Ar<|Aq 1 rfl ?_;refine Az h fun aa h=>?_;refine Ae (AK rfl rfl rfl aa) rfl<|Aq 1 rfl<|AL<|A8 ?_;have h:=BV.again h j;refine AN ((b+(1:Int)),o) (Sub.of rfl) ⟨f,hT,h⟩ (Nat.lt_succ_self _)
    have h:=BP (of_decide_eq_false c) h;refine Aa rfl rfl c<|Ae (Ad rfl) rfl<|Aa rfl rfl c<|Ae (Ad rfl) rfl<|Aa rfl rfl c<|Ae (Ad rfl) rfl<|AQ (s:=33) rfl (fun d=>?_) (fun d=>?_)
    ·have h:=BO (of_decide_eq_true d) h;refine Aa rfl rfl d<|Ae (Ad rfl) rfl<|Aa rfl rfl d<|Ae (C4 rfl) rfl<|Aa rfl rfl d<|Ae (Af rfl AcW rfl Fu (by decide)) rfl<|Aa rfl rfl d<|Ae (Ag 0 rfl Abb rfl f rfl rfl) rfl<|Aa rfl rfl d<|Ae (Ad rfl) rfl<|Aa rfl rfl d ?_;refine Az h fun ab h=>?_;refine Ae (G7 rfl rfl Abb ab) rfl<|Aa rfl rfl d<|Ae (Ad rfl) rfl<|Aa rfl rfl c<|Ae (A1 rfl d rfl) rfl<|Aa rfl rfl a<|Ae (A3 rfl c rfl) rfl<|Ae (A1 rfl a rfl) rfl<|Ac<|AM rfl h (fun ac h=>?_) (fun ac h=>?_)
     ·refine Au<|Ao<|A2<|Ar<|Aq 1 rfl ?_;refine Az h fun ad h=>?_;refine Ae (AK rfl rfl rfl ad) rfl<|Aq 1 rfl<|AL<|A8 ?_;have h:=BV.again h j;refine AN ((b+(1:Int)),o) (Sub.of rfl) ⟨f,hT,h⟩ (Nat.lt_succ_self _)
     refine Br<|AD<|A5 ?_;have h:=BV.out h j;refine Bd<|A6 b (Sub.of rfl) ⟨f,hT,h⟩
    have h:=BP (of_decide_eq_false d) h
    iterate 7 refine Ai rfl rfl d rfl ?_
    refine Aa rfl rfl c<|Ae (A3 rfl d rfl) rfl<|Aa rfl rfl a<|Ae (A3 rfl c rfl) rfl<|Ae (A1 rfl a rfl) rfl<|Ac<|Cw rfl<|Br<|AD<|A5 ?_;have h:=BV.out h j;refine Bd<|A6 b (Sub.of rfl) ⟨f,hT,h⟩
   have h:=BP (of_decide_eq_false g) h
   iterate 7 refine Ai rfl rfl g rfl ?_
   refine Aa rfl rfl a<|Ae (A3 rfl g rfl) rfl<|Aa rfl rfl a<|Ae (Ad rfl) rfl<|Aa rfl rfl rfl<|Ae (Ad rfl) rfl<|Aa rfl rfl rfl<|Ae (Ad rfl) rfl<|Aa rfl rfl rfl<|Ae (Ad rfl) rfl<|AQ (s:=33) rfl (fun e=>?_) (fun e=>?_)
   ·have h:=BO (of_decide_eq_true e) h;refine Aa rfl rfl e<|Ae (Ad rfl) rfl<|Aa rfl rfl e<|Ae (C4 rfl) rfl<|Aa rfl rfl e<|Ae (Af rfl AcW rfl Fu (by decide)) rfl<|Aa rfl rfl e<|Ae (Ag 0 rfl Abb rfl f rfl rfl) rfl<|Aa rfl rfl e<|Ae (Ad rfl) rfl<|Aa rfl rfl e ?_;refine Az h fun ae h=>?_;refine Ae (G7 rfl rfl Abb ae) rfl<|Aa rfl rfl e<|Ae (Ad rfl) rfl<|Aa rfl rfl rfl<|Ae (A1 rfl e rfl) rfl<|Aa rfl rfl a<|Ae (A3 rfl rfl rfl) rfl<|Ae (A1 rfl a rfl) rfl<|Ac<|AM rfl h (fun af h=>?_) (fun af h=>?_)
    ·refine Au<|Ao<|A2<|Ar<|Aq 1 rfl ?_;refine Az h fun ag h=>?_;refine Ae (AK rfl rfl rfl ag) rfl<|Aq 1 rfl<|AL<|A8 ?_;have h:=BV.again h j;refine AN ((b+(1:Int)),o) (Sub.of rfl) ⟨f,hT,h⟩ (Nat.lt_succ_self _)
    refine Br<|AD<|A5 ?_;have h:=BV.out h j;refine Bd<|A6 b (Sub.of rfl) ⟨f,hT,h⟩
   have h:=BP (of_decide_eq_false e) h
   iterate 7 refine Ai rfl rfl e rfl ?_
   refine Aa rfl rfl rfl<|Ae (A3 rfl e rfl) rfl<|Aa rfl rfl a<|Ae (A3 rfl rfl rfl) rfl<|Ae (A1 rfl a rfl) rfl<|Ac<|Cw rfl<|Br<|AD<|A5 ?_;have h:=BV.out h j;refine Bd<|A6 b (Sub.of rfl) ⟨f,hT,h⟩
  have h:=BP (of_decide_eq_false a) h
  iterate 8 refine Ai rfl rfl a rfl ?_
  iterate 7 refine Ce rfl rfl rfl ?_
  iterate 2 refine Ai rfl rfl a rfl ?_
  iterate 11 refine Ce rfl rfl rfl ?_
  refine Ai rfl rfl a rfl<|Ae (A3 rfl a rfl) rfl<|Ac<|Cw rfl<|Br<|AD<|A5 ?_;have h:=BV.out h j;refine Bd<|A6 b (Sub.of rfl) ⟨f,hT,h⟩
 rintro k au ⟨q,hT,h⟩;refine Bk 1 rfl<|Ae (C4 rfl) rfl<|Ae (Af rfl AcW rfl Fu (by decide)) rfl<|Ae (Ag 0 rfl Abb rfl q rfl rfl) rfl<|Aq 1 rfl ?_;refine Az h fun ah h=>?_;refine Ae (Vs rfl rfl Abb ah) rfl ?_;refine Ax h fun t ai h=>?_;refine Bs rfl rfl q (Aah _ _ (As hH q) (hU.mono (Ah hH)) ai) ?_;rintro _ av ⟨aw,rfl,aj,ak⟩ ap u m;refine WU t.2 (fun l=>?_) (fun l=>?_)
 ·obtain rfl:=aj l;have h:=G5 l h;refine AA 5 rfl<|Bn (σ:=Unit) (fun(_:Unit)=>[(0,(AaH ba0)),(3,No k),(4,No t.1)]) (fun(_:Unit) wr=>DZ p (Ha [.box ba0 [AaJ a0.1,No a0.2] 86] O) wr fun Oz=>Le (fz w (Ha [.box ba0 [AaJ a0.1,No a0.2] 86] O)) (fz wr Oz)∧(D5 a0 k t)=some r) ?_ ?_
  ·refine Bk 1 rfl<|Ae (AaQ rfl Adb) rfl<|Ac<|Cw rfl<|Au ?_;have hT:=hT.trans m;refine A6 () (Sub.of rfl) ⟨u,hT,h⟩
  have hT:=hT.trans m;rintro _ aq ⟨x,hT,h⟩;refine Bk 2 rfl<|Ae (C4 rfl) rfl<|Ae (Af rfl AcW rfl Fu (by decide)) rfl<|Ae (Ag 0 rfl Abb rfl x rfl rfl) rfl<|Aq 1 rfl ?_;refine Az h fun al h=>?_;refine Ae (PE rfl rfl Abb al) rfl<|Ae (C4 rfl) rfl<|Ae (Af rfl AcW rfl Fu (by decide)) rfl<|Bi 0 rfl rfl rfl Fu x rfl rfl fun ax am y=>Ac<|A9 2 rfl<|Ay ?_
  cases h
  refine FG<|Am rfl rfl ?_;have hT:=hT.trans y;exact DD ⟨rfl,am,hT⟩
 obtain⟨ay,az,rfl⟩:=ak l;have h:=G6 l h;refine AA 5 rfl<|A7<|Bk 1 rfl<|Ae (XR rfl Adb) rfl<|Ac<|Cy rfl<|Ar<|Ae (AZ rfl (fun _=>NV _)) rfl<|Ae (SA rfl Ada rfl) rfl<|NP rfl rfl<|B0 ?_
 cases h
 refine DE ?_;have an:=u.AP (i:=0) rfl;have hT:=hT.trans (m.trans (Al (i:=0) rfl));exact CL ⟨an,hT⟩
def Eb(a0:AaK×Int):Option (Option (Go.L.Qv×(AaK×Int))):=
 Option.bind (Cf (a0.1,a0.2) ([61,38,124,41]:AaK)) (fun b=>Option.bind (Bg (b.2.1,b.2.2) ([61]:AaK)) (fun c=>if !c.1 then some (some ((Go.L.Qv.mk (5:Int) ([]) b.1 ([]:AaK) (0:Int) (0:Int) ([])),(c.2.1,c.2.2))) else Option.bind (Bg (c.2.1,c.2.2) ([39]:AaK)) (fun a=>if a.1 then Option.bind (D4 (a.2.1,a.2.2)) (fun d=>P9 d (some none) (fun y27=>some (some ((Go.L.Qv.mk (7:Int) ([]) b.1 y27.1 (0:Int) (0:Int) ([])),(y27.2.1,y27.2.2))))) else Option.bind (BU (a.2.1,a.2.2)) (fun e=>P9 e (some none) (fun y40=>Option.bind (B1 (y40.2.1,y40.2.2) ([46,46]:AaK)) (fun f=>P9 f (some none) (fun y49=>Option.bind (BU (y49.1,y49.2)) (fun g=>P9 g (some none) (fun y56=>some (some ((Go.L.Qv.mk (6:Int) ([]) b.1 ([]:AaK) y40.1 y56.1 ([])),(y56.2.1,y56.2.2))))))))))))
theorem MY{o w:World}{H:PH}(hH:Le H (hp o))(hU:D9 H){O:List BG}{a0:AaK×Int}{ba0:Nat}(hL:AO o (Ha [.box ba0 [AaJ a0.1,No a0.2] 86] O) w){r:Option (Go.L.Qv×(AaK×Int))}(h:Eb a0=some r):
  Rn Tryz.prog 116 [AaH ba0] w (.iface 82 (.agg #[])) (fun v w'=>S9 r v (fun r v=>∃ (u1:Value) (u3:Value) (y3:List Value) (u6:Value),v=.agg #[No r.1.f.1,u1,AaJ r.1.f.2.2.1,u3,No r.1.f.2.2.2.2.1,No r.1.f.2.2.2.2.2.1,u6]∧AO o (Ha [.row u3 5 1 (r.1.f.2.2.2.1).length y3,.box ba0 [AaJ r.2.1,No r.2.2] 86] O) w'∧Le (fz w (Ha [.box ba0 [AaJ a0.1,No a0.2] 86] O)) (fz w' (Ha [.row u3 5 1 (r.1.f.2.2.2.1).length y3,.box ba0 [AaJ r.2.1,No r.2.2] 86] O))∧AI .st (gz H o w' (Ha [.row u3 5 1 (r.1.f.2.2.2.1).length y3,.box ba0 [AaJ r.2.1,No r.2.2] 86] O)) u1 (r.1.f.2.1)∧AJ .byte (gz H o w' (Ha [.row u3 5 1 (r.1.f.2.2.2.1).length y3,.box ba0 [AaJ r.2.1,No r.2.2] 86] O)) (r.1.f.2.2.2.1) y3∧AI .Bc (gz H o w' (Ha [.row u3 5 1 (r.1.f.2.2.2.1).length y3,.box ba0 [AaJ r.2.1,No r.2.2] 86] O)) u6 (r.1.f.2.2.2.2.2.2)) (AO o O w'∧Le (fz w (Ha [.box ba0 [AaJ a0.1,No a0.2] 86] O)) (fz w' O))):=by
 refine Ih (n:=28) [(0,(AaH ba0))] func116 rfl rfl rfl rfl rfl ?_;have hT:=Le.refl (fz w (Ha [.box ba0 [AaJ a0.1,No a0.2] 86] O));refine Ak<|AG Bh rfl rfl hL fun w1 p a3 b _=>Ac<|Bk 1 rfl ?_;have a4:AO o (Ha [.box ba0 [AaJ a0.1,No a0.2] 86,.box p [No (0:Int),Aat,.string ⟨(([]:AaK)).toArray⟩,Aat,No (0:Int),No (0:Int),Aat] 26] O) w1:=a3.C5 [1] rfl;have c:=B6 [1] a3 a4 rfl;refine Ax h fun l b9 h=>?_;refine DA rfl rfl (Fc (a0:=(a0.1,a0.2)) (a1:=([61,38,124,41]:AaK)) (O:=(Ha [.box p [No (0:Int),Aat,.string ⟨(([]:AaK)).toArray⟩,Aat,No (0:Int),No (0:Int),Aat] 26] O)) hH a4 b9) ?_;rintro _ w4 ⟨rfl,ca,d⟩;refine Ae (AZ rfl (fun _=>WW _ _ rfl _)) rfl<|AG Bh rfl rfl ca fun w5 u cb e _=>Aj 0 rfl rfl rfl Bh cb rfl rfl (AH rfl (AH rfl (AH rfl (AH rfl (AH rfl (AH rfl (AH rfl Cj))))))) fun w6 a5 g=>Ac<|A7<|A2<|Bk 1 rfl ?_
 have a6:AO o (Ha [.box ba0 [AaJ l.2.1,No l.2.2] 86,.box u [No (5:Int),Aat,AaJ l.1,Aat,No (0:Int),No (0:Int),Aat] 26,.box p [No (0:Int),Aat,.string ⟨(([]:AaK)).toArray⟩,Aat,No (0:Int),No (0:Int),Aat] 26] O) w6:=a5.C5 [1] rfl;have j:=B6 [1] a5 a6 rfl;refine Ax h fun x8 cd h=>?_;refine DA rfl rfl (Bz (a0:=(l.2.1,l.2.2)) (a1:=([61]:AaK)) (O:=(Ha [.box u [No (5:Int),Aat,AaJ l.1,Aat,No (0:Int),No (0:Int),Aat] 26,.box p [No (0:Int),Aat,.string ⟨(([]:AaK)).toArray⟩,Aat,No (0:Int),No (0:Int),Aat] 26] O)) hH a6 cd) ?_;rintro _ w9 ⟨rfl,ag,k⟩;refine AA 2 rfl<|Bl rfl h (fun a7 h=>?_) (fun a7 h=>?_)
 ·refine Au<|A8<|Ao<|Ak<|Ae (AE 1 rfl AbP rfl Bh ag rfl) rfl<|Aj 2 rfl rfl rfl Bh ag rfl rfl (AH rfl (AH rfl (AH rfl (AH rfl (AH rfl (AH rfl (AH rfl Cj))))))) fun cg ah an=>Ac<|Ay ?_
  cases h
  refine FG<|BB rfl (.cell rfl AbP rfl Bh (AT (i:=2) ah rfl)) ?_;obtain⟨a8,ao,x⟩:=CB .byte H 5 ah;have a9:=a8.AP (i:=2) rfl;have ba:=a9.AP (i:=2) rfl;have hT:=hT.trans (b.trans (c.trans (d.trans (e.trans (g.trans (j.trans (k.trans (an.trans (ao.trans ((Al (i:=2) rfl).trans (Al (i:=2) rfl)))))))))));have x:=x.mono (Ab hH ((Al (i:=2) rfl).trans (Al (i:=2) rfl)));exact DD ⟨Aat,Aat,[],Aat,rfl,ba,hT,(AI.nil _ _),x,(AI.nil _ _)⟩
 refine Bk 1 rfl ?_;refine Ax h fun aa bb h=>?_;refine DA rfl rfl (Bz (a0:=(x8.2.1,x8.2.2)) (a1:=([39]:AaK)) (O:=(Ha [.box u [No (5:Int),Aat,AaJ l.1,Aat,No (0:Int),No (0:Int),Aat] 26,.box p [No (0:Int),Aat,.string ⟨(([]:AaK)).toArray⟩,Aat,No (0:Int),No (0:Int),Aat] 26] O)) hH ag bb) ?_;rintro _ ch ⟨rfl,ai,a⟩;refine AA 1 rfl<|Bl rfl h (fun bc h=>?_) (fun bc h=>?_)
 ·refine Ar<|Aq 1 rfl ?_;refine Ax h fun ci bd h=>?_;refine Fz rfl rfl (Jl (a0:=(aa.2.1,aa.2.2)) (O:=(Ha [.box u [No (5:Int),Aat,AaJ l.1,Aat,No (0:Int),No (0:Int),Aat] 26,.box p [No (0:Int),Aat,.string ⟨(([]:AaK)).toArray⟩,Aat,No (0:Int),No (0:Int),Aat] 26] O)) hH ai bd) ?_ ?_
  ·rintro rfl cj ⟨be,ap⟩;have h:=DB h;refine B7<|B0 ?_
   cases h
   refine DE ?_;have bf:=be.AP (i:=0) rfl;have bg:=bf.AP (i:=0) rfl;have hT:=hT.trans (b.trans (c.trans (d.trans (e.trans (g.trans (j.trans (k.trans (a.trans (ap.trans ((Al (i:=0) rfl).trans (Al (i:=0) rfl)))))))))));exact CL ⟨bg,hT⟩
  rintro y27 rfl aq ck ⟨_,y22_0,rfl,bh,ar,m⟩;have h:=DC h;refine Ae (Af rfl AbP rfl Cc (by decide)) rfl<|Bi 2 rfl rfl rfl Cc bh rfl rfl fun cl aj ab=>Ae (Af rfl AbP rfl Fw (by decide)) rfl<|Bi 2 rfl rfl (row_one (aj.at (i:=0) rfl)) Fw aj rfl rfl fun cm y ac=>AL<|A8<|Ao<|Ak<|Ae (AE 2 rfl AbP rfl Bh y rfl) rfl<|Aj 3 rfl rfl rfl Bh y rfl rfl (AH rfl (AH rfl (AH rfl (AH (row_one (y.at (i:=0) rfl)) (AH rfl (AH rfl (AH rfl Cj))))))) fun cn ak ad=>Ac<|Ay ?_
  cases h
  refine FG<|BB rfl (.cell rfl AbP rfl Bh (AT (i:=3) ak rfl)) ?_;have bi:=ak.AP (i:=2) rfl;have bj:=bi.AP (i:=2) rfl;have hT:=hT.trans (b.trans (c.trans (d.trans (e.trans (g.trans (j.trans (k.trans (a.trans (ar.trans (ab.trans (ac.trans (ad.trans ((Al (i:=2) rfl).trans (Al (i:=2) rfl))))))))))))));have m:=m.mono (Ab hH (ab.trans (ac.trans (ad.trans ((Al (i:=2) rfl).trans (Al (i:=2) rfl))))));exact DD ⟨Aat,aq,y22_0,Aat,rfl,bj,hT,(AI.nil _ _),m,(AI.nil _ _)⟩
 refine Bk 1 rfl ?_;refine Ax h fun co bk h=>?_;refine Fz rfl rfl (GL (a0:=(aa.2.1,aa.2.2)) (O:=(Ha [.box u [No (5:Int),Aat,AaJ l.1,Aat,No (0:Int),No (0:Int),Aat] 26,.box p [No (0:Int),Aat,.string ⟨(([]:AaK)).toArray⟩,Aat,No (0:Int),No (0:Int),Aat] 26] O)) hH hU ai bk) ?_ ?_
 ·rintro rfl cp ⟨bl,au⟩;have h:=DB h;refine B0<|B7<|B0 ?_
  cases h
  refine DE ?_;have bm:=bl.AP (i:=0) rfl;have bn:=bm.AP (i:=0) rfl;have hT:=hT.trans (b.trans (c.trans (d.trans (e.trans (g.trans (j.trans (k.trans (a.trans (au.trans ((Al (i:=0) rfl).trans (Al (i:=0) rfl)))))))))));exact CL ⟨bn,hT⟩
 rintro y40 rfl _ cq ⟨rfl,bo,q⟩;have h:=DC h;refine Ae (Af rfl AbP rfl Cc (by decide)) rfl<|Bi 1 rfl rfl rfl Cc bo rfl rfl fun cr bp s=>Ae (Af rfl AbP rfl Cc (by decide)) rfl<|Bi 1 rfl rfl rfl Cc bp rfl rfl fun cs bq t=>Ac<|Bk 1 rfl ?_;refine Ax h fun ct br h=>?_;refine Fz rfl rfl (E9 (a0:=(y40.2.1,y40.2.2)) (a1:=([46,46]:AaK)) (O:=(Ha [.box u [No (6:Int),Aat,AaJ l.1,Aat,No y40.1,No (0:Int),Aat] 26,.box p [No (0:Int),Aat,.string ⟨(([]:AaK)).toArray⟩,Aat,No (0:Int),No (0:Int),Aat] 26] O)) hH bq br) ?_ ?_
 ·rintro rfl cu ⟨bs,av⟩;have h:=DB h;refine B0<|B7<|B0 ?_
  cases h
  refine DE ?_;have bt:=bs.AP (i:=0) rfl;have bu:=bt.AP (i:=0) rfl;have hT:=hT.trans (b.trans (c.trans (d.trans (e.trans (g.trans (j.trans (k.trans (a.trans (q.trans (s.trans (t.trans (av.trans ((Al (i:=0) rfl).trans (Al (i:=0) rfl))))))))))))));exact CL ⟨bu,hT⟩
 rintro y49 rfl _ cv ⟨rfl,bv,ae⟩;have h:=DC h;refine Ac<|Ar<|Aq 1 rfl ?_;refine Ax h fun cw bw h=>?_;refine Fz rfl rfl (GL (a0:=(y49.1,y49.2)) (O:=(Ha [.box u [No (6:Int),Aat,AaJ l.1,Aat,No y40.1,No (0:Int),Aat] 26,.box p [No (0:Int),Aat,.string ⟨(([]:AaK)).toArray⟩,Aat,No (0:Int),No (0:Int),Aat] 26] O)) hH hU bv bw) ?_ ?_
 ·rintro rfl cx ⟨bx,aw⟩;have h:=DB h;refine B7<|B0 ?_
  cases h
  refine DE ?_;have bz:=bx.AP (i:=0) rfl;have b0:=bz.AP (i:=0) rfl;have hT:=hT.trans (b.trans (c.trans (d.trans (e.trans (g.trans (j.trans (k.trans (a.trans (q.trans (s.trans (t.trans (ae.trans (aw.trans ((Al (i:=0) rfl).trans (Al (i:=0) rfl)))))))))))))));exact CL ⟨b0,hT⟩
 rintro y56 rfl _ cy ⟨rfl,b2,ax⟩;have h:=DC h;refine Ae (Af rfl AbP rfl Cc (by decide)) rfl<|Bi 1 rfl rfl rfl Cc b2 rfl rfl fun cz al ay=>AL<|A8<|Ao<|Ak<|Ae (AE 1 rfl AbP rfl Bh al rfl) rfl<|Aj 2 rfl rfl rfl Bh al rfl rfl (AH rfl (AH rfl (AH rfl (AH rfl (AH rfl (AH rfl (AH rfl Cj))))))) fun c0 am az=>Ac<|Ay ?_
 cases h
 refine FG<|BB rfl (.cell rfl AbP rfl Bh (AT (i:=2) am rfl)) ?_;obtain⟨b3,a2,z⟩:=CB .byte H 5 am;have b4:=b3.AP (i:=2) rfl;have b6:=b4.AP (i:=2) rfl;have hT:=hT.trans (b.trans (c.trans (d.trans (e.trans (g.trans (j.trans (k.trans (a.trans (q.trans (s.trans (t.trans (ae.trans (ax.trans (ay.trans (az.trans (a2.trans ((Al (i:=2) rfl).trans (Al (i:=2) rfl))))))))))))))))));have z:=z.mono (Ab hH ((Al (i:=2) rfl).trans (Al (i:=2) rfl)));exact DD ⟨Aat,Aat,[],Aat,rfl,b6,hT,(AI.nil _ _),z,(AI.nil _ _)⟩
def C3(self:(AaK×Int)→Option (Option (Go.L.Qv×(AaK×Int))))(a0:AaK×Int):Option (Option (Go.L.Qv×(AaK×Int))):=
 Option.bind (Bg (a0.1,a0.2) ([33]:AaK)) (fun h=>if h.1 then Option.bind (self (h.2.1,h.2.2)) (fun r=>P9 r (some none) (fun y12=>some (some ((Go.L.Qv.mk (10:Int) ([]) ([]:AaK) ([]) (0:Int) (0:Int) ([y12.1])),(y12.2.1,y12.2.2))))) else Option.bind (Bg (h.2.1,h.2.2) ([40]:AaK)) (fun a=>if a.1 then Option.bind (C8 self (a.2.1,a.2.2)) (fun k=>P9 k (some none) (fun y26=>Option.bind (B1 (y26.2.1,y26.2.2) ([41]:AaK)) (fun l=>P9 l (some none) (fun y37=>some (some (y26.1,(y37.1,y37.2))))))) else Option.bind (Bg (a.2.1,a.2.2) ([34]:AaK)) (fun b=>if b.1 then Option.bind (Cf (b.2.1,b.2.2) ([34]:AaK)) (fun i=>Option.bind (strings_Split i.1 ([32]:AaK)) (fun m=>Option.bind (B1 (i.2.1,i.2.2) ([34]:AaK)) (fun n=>P9 n (some none) (fun y55=>some (some ((Go.L.Qv.mk (2:Int) m ([]:AaK) ([]) (0:Int) (0:Int) ([])),(y55.1,y55.2))))))) else Option.bind (Bg (b.2.1,b.2.2) ([39]:AaK)) (fun c=>if c.1 then Option.bind (D4 (c.2.1,c.2.2)) (fun o=>P9 o (some none) (fun y68=>some (some ((Go.L.Qv.mk (4:Int) ([]) ([]:AaK) y68.1 (0:Int) (0:Int) ([])),(y68.2.1,y68.2.2))))) else Option.bind (Bg (c.2.1,c.2.2) ([47]:AaK)) (fun d=>if d.1 then Option.bind (Eb (d.2.1,d.2.2)) (fun p=>P9 p (some none) (fun y82=>some (some (y82.1,(y82.2.1,y82.2.2))))) else Option.bind (Cf (d.2.1,d.2.2) ([126,38,124,41]:AaK)) (fun g=>Option.bind (Bg (g.2.1,g.2.2) ([126]:AaK)) (fun e=>if !e.1 then some (some ((Go.L.Qv.mk (1:Int) ([g.1]) ([]:AaK) ([]) (0:Int) (0:Int) ([])),(e.2.1,e.2.2))) else Option.bind (BU (e.2.1,e.2.2)) (fun q=>P9 q (some none) (fun y102=>Option.bind (B1 (y102.2.1,y102.2.2) ([126]:AaK)) (fun j=>P9 j (some none) (fun y112=>Option.bind (Cf (y112.1,y112.2) ([126,38,124,41]:AaK)) (fun f=>some (some ((Go.L.Qv.mk (3:Int) ([g.1,f.1]) ([]:AaK) ([]) y102.1 (0:Int) ([])),(f.2.1,f.2.2)))))))))))))))
theorem Lt{self:(AaK×Int)→Option (Option (Go.L.Qv×(AaK×Int)))}(hself:∀ {m w:World} {H:PH} (hH:Le H (hp m)) (hU:D9 H) {O:List BG} {a0:AaK×Int} {ba0:Nat} (hL:AO m (Ha [.box ba0 [AaJ a0.1,No a0.2] 86] O) w) {r:Option (Go.L.Qv×(AaK×Int))} (h:self a0=some r),Rn Tryz.prog 70 [AaH ba0] w (.iface 82 (.agg #[])) (fun v w'=>S9 r v (fun r v=>∃ (u1:Value) (u3:Value) (u6:Value),v=.agg #[No r.1.f.1,u1,AaJ r.1.f.2.2.1,u3,No r.1.f.2.2.2.2.1,No r.1.f.2.2.2.2.2.1,u6]∧AO m (Ha [.box ba0 [AaJ r.2.1,No r.2.2] 86] O) w'∧Le (fz w (Ha [.box ba0 [AaJ a0.1,No a0.2] 86] O)) (fz w' (Ha [.box ba0 [AaJ r.2.1,No r.2.2] 86] O))∧AI .st (gz H m w' (Ha [.box ba0 [AaJ r.2.1,No r.2.2] 86] O)) u1 (r.1.f.2.1)∧AI .byte (gz H m w' (Ha [.box ba0 [AaJ r.2.1,No r.2.2] 86] O)) u3 (r.1.f.2.2.2.1)∧AI .Bc (gz H m w' (Ha [.box ba0 [AaJ r.2.1,No r.2.2] 86] O)) u6 (r.1.f.2.2.2.2.2.2)) (AO m O w'∧Le (fz w (Ha [.box ba0 [AaJ a0.1,No a0.2] 86] O)) (fz w' O)))){m w:World}{H:PH}(hH:Le H (hp m))(hU:D9 H){O:List BG}{a0:AaK×Int}{ba0:Nat}(hL:AO m (Ha [.box ba0 [AaJ a0.1,No a0.2] 86] O) w){r:Option (Go.L.Qv×(AaK×Int))}(h:C3 self a0=some r):
  Rn Tryz.prog 70 [AaH ba0] w (.iface 82 (.agg #[])) (fun v w'=>S9 r v (fun r v=>∃ (u1:Value) (u3:Value) (u6:Value),v=.agg #[No r.1.f.1,u1,AaJ r.1.f.2.2.1,u3,No r.1.f.2.2.2.2.1,No r.1.f.2.2.2.2.2.1,u6]∧AO m (Ha [.box ba0 [AaJ r.2.1,No r.2.2] 86] O) w'∧Le (fz w (Ha [.box ba0 [AaJ a0.1,No a0.2] 86] O)) (fz w' (Ha [.box ba0 [AaJ r.2.1,No r.2.2] 86] O))∧AI .st (gz H m w' (Ha [.box ba0 [AaJ r.2.1,No r.2.2] 86] O)) u1 (r.1.f.2.1)∧AI .byte (gz H m w' (Ha [.box ba0 [AaJ r.2.1,No r.2.2] 86] O)) u3 (r.1.f.2.2.2.1)∧AI .Bc (gz H m w' (Ha [.box ba0 [AaJ r.2.1,No r.2.2] 86] O)) u6 (r.1.f.2.2.2.2.2.2)) (AO m O w'∧Le (fz w (Ha [.box ba0 [AaJ a0.1,No a0.2] 86] O)) (fz w' O))):=by
 refine Ih (n:=62) [(0,(AaH ba0))] func70 rfl rfl rfl rfl rfl ?_;have hT:=Le.refl (fz w (Ha [.box ba0 [AaJ a0.1,No a0.2] 86] O));refine Ak<|AG Bh rfl rfl hL fun w1 k c5 b _=>Ac<|A7<|A2<|Bk 1 rfl ?_;have c6:AO m (Ha [.box ba0 [AaJ a0.1,No a0.2] 86,.box k [No (0:Int),Aat,.string ⟨(([]:AaK)).toArray⟩,Aat,No (0:Int),No (0:Int),Aat] 26] O) w1:=c5.C5 [1] rfl;have c:=B6 [1] c5 c6 rfl;refine Ax h fun x3 ew h=>?_;refine DA rfl rfl (Bz (a0:=(a0.1,a0.2)) (a1:=([33]:AaK)) (O:=(Ha [.box k [No (0:Int),Aat,.string ⟨(([]:AaK)).toArray⟩,Aat,No (0:Int),No (0:Int),Aat] 26] O)) hH c6 ew) ?_;rintro _ w4 ⟨rfl,c8,d⟩;refine AA 1 rfl<|Bl rfl h (fun ex h=>?_) (fun ex h=>?_)
 ·refine Bk 1 rfl ?_;refine Ax h fun x7 ey h=>?_;refine Fz rfl rfl (hself (a0:=(x3.2.1,x3.2.2)) (O:=(Ha [.box k [No (0:Int),Aat,.string ⟨(([]:AaK)).toArray⟩,Aat,No (0:Int),No (0:Int),Aat] 26] O)) hH hU c8 ey) ?_ ?_
  ·rintro rfl w9 ⟨ez,dc⟩;have h:=DB h;refine B0<|B7<|B0 ?_
   cases h
   refine DE ?_;have dd:=ez.AP (i:=0) rfl;have hT:=hT.trans (b.trans (c.trans (d.trans (dc.trans (Al (i:=0) rfl)))));exact CL ⟨dd,hT⟩
  rintro y12 rfl _ w8 ⟨e6,e7,e8,rfl,e0,de,ca,cb,cc⟩;have h:=DC h;refine Bu (r:=.Bc) (l:=[y12.1]) rfl (fun _=>Lx _ _ _ _ _ _ _ _) rfl (show 1≤9223372036854775807 by decide) hH e0 (.c7 (Go.E.Rp.FZ ⟨_,_,rfl,rfl,⟨_,_,rfl,⟨_,rfl,ca⟩,⟨_,_,rfl,rfl,⟨_,_,rfl,⟨_,rfl,cb⟩,⟨_,_,rfl,rfl,⟨_,_,rfl,rfl,⟨_,rfl,cc⟩⟩⟩⟩⟩⟩⟩) .nil) fun e1 fj e9 df cd ae=>Ae (AZ rfl (fun _=>Ma _ _ ae.one _)) rfl<|Aj 1 rfl rfl rfl Bh df rfl rfl (AH rfl (AH rfl (AH rfl (AH rfl (AH rfl (AH rfl (AH ae.one Cj))))))) fun fk bq a3=>Ac<|Ay<|Aw<|Av ?_
  cases h
  refine FG<|BB rfl (.cell rfl AbP rfl Bh (AT (i:=1) bq rfl)) ?_;have dg:=bq.AP (i:=1) rfl;have hT:=hT.trans (b.trans (c.trans (d.trans (de.trans (cd.trans (a3.trans (Al (i:=1) rfl)))))));have ae:=ae.mono (Ab hH (a3.trans (Al (i:=1) rfl)));exact DD ⟨Aat,Aat,e1,rfl,dg,hT,(AI.nil _ _),(AI.nil _ _),ae⟩
 refine Bk 1 rfl ?_;refine Ax h fun a4 dh h=>?_;refine DA rfl rfl (Bz (a0:=(x3.2.1,x3.2.2)) (a1:=([40]:AaK)) (O:=(Ha [.box k [No (0:Int),Aat,.string ⟨(([]:AaK)).toArray⟩,Aat,No (0:Int),No (0:Int),Aat] 26] O)) hH c8 dh) ?_;rintro _ fl ⟨rfl,br,a⟩;refine AA 1 rfl<|Bl rfl h (fun di h=>?_) (fun di h=>?_)
 ·refine Bk 1 rfl ?_;refine Ax h fun fm dj h=>?_;refine Fz rfl rfl (J5 (hself:=hself) (a0:=(a4.2.1,a4.2.2)) (O:=(Ha [.box k [No (0:Int),Aat,.string ⟨(([]:AaK)).toArray⟩,Aat,No (0:Int),No (0:Int),Aat] 26] O)) hH hU br dj) ?_ ?_
  ·rintro rfl fn ⟨dk,ce⟩;have h:=DB h;refine B0<|B7<|B0 ?_
   cases h
   refine DE ?_;have dl:=dk.AP (i:=0) rfl;have hT:=hT.trans (b.trans (c.trans (d.trans (a.trans (ce.trans (Al (i:=0) rfl))))));exact CL ⟨dl,hT⟩
  rintro y26 rfl _ fo ⟨ai,aj,ak,rfl,dm,a5,o,p,q⟩;have h:=DC h;refine AG Bh rfl rfl dm fun fp c9 dn u _=>Aj 0 rfl rfl rfl Bh dn rfl rfl (AH rfl (AH o.one (AH rfl (AH p.one (AH rfl (AH rfl (AH q.one Cj))))))) fun e2 ar x=>Ac ?_;have j:=ar.rG H;refine Bk 1 rfl ?_;have bs:AO m (Ha [.box ba0 [AaJ y26.2.1,No y26.2.2] 86,.box c9 [No y26.1.f.1,ai,AaJ y26.1.f.2.2.1,aj,No y26.1.f.2.2.2.2.1,No y26.1.f.2.2.2.2.2.1,ak] 26,.box k [No (0:Int),Aat,.string ⟨(([]:AaK)).toArray⟩,Aat,No (0:Int),No (0:Int),Aat] 26] O) e2:=ar.C5 [1] rfl;have al:=B6 [1] ar bs rfl;refine Ax h fun fq dp h=>?_;refine Fz rfl rfl (E9 (a0:=(y26.2.1,y26.2.2)) (a1:=([41]:AaK)) (O:=(Ha [.box c9 [No y26.1.f.1,ai,AaJ y26.1.f.2.2.1,aj,No y26.1.f.2.2.2.2.1,No y26.1.f.2.2.2.2.2.1,ak] 26,.box k [No (0:Int),Aat,.string ⟨(([]:AaK)).toArray⟩,Aat,No (0:Int),No (0:Int),Aat] 26] O)) hH bs dp) ?_ ?_
  ·rintro rfl fr ⟨dq,cf⟩;have h:=DB h;refine B0<|B7<|B0 ?_
   cases h
   refine DE ?_;have dr:=dq.AP (i:=0) rfl;have ds:=dr.AP (i:=0) rfl;have hT:=hT.trans (b.trans (c.trans (d.trans (a.trans (a5.trans (u.trans (x.trans (al.trans (cf.trans ((Al (i:=0) rfl).trans (Al (i:=0) rfl)))))))))));exact CL ⟨ds,hT⟩
  rintro y37 rfl _ fs ⟨rfl,bt,a6⟩;have h:=DC h;refine Ac<|Ak<|Ae (AE 1 rfl AbP rfl Bh bt rfl) rfl ?_;have o:=o.mono (Ab hH (u.trans x));have p:=p.mono (Ab hH (u.trans x));have q:=q.mono (Ab hH (u.trans x));have j:=j.trans (Ab hH (al.trans a6));refine Aj 2 rfl rfl rfl Bh bt rfl rfl (AH rfl (AH (o.mono j).one (AH rfl (AH (p.mono j).one (AH rfl (AH rfl (AH (q.mono j).one Cj))))))) fun ft bu a7=>Ac<|Ay<|Aw<|Av ?_
  cases h
  refine FG<|BB rfl (.cell rfl AbP rfl Bh (AT (i:=2) bu rfl)) ?_;have dt:=bu.AP (i:=1) rfl;have du:=dt.AP (i:=1) rfl;have hT:=hT.trans (b.trans (c.trans (d.trans (a.trans (a5.trans (u.trans (x.trans (al.trans (a6.trans (a7.trans ((Al (i:=1) rfl).trans (Al (i:=1) rfl))))))))))));have j:=j.trans (Ab hH (a7.trans ((Al (i:=1) rfl).trans (Al (i:=1) rfl))));exact DD ⟨ai,aj,ak,rfl,du,hT,(o.mono j),(p.mono j),(q.mono j)⟩
 refine Bk 1 rfl ?_;refine Ax h fun a8 dv h=>?_;refine DA rfl rfl (Bz (a0:=(a4.2.1,a4.2.2)) (a1:=([34]:AaK)) (O:=(Ha [.box k [No (0:Int),Aat,.string ⟨(([]:AaK)).toArray⟩,Aat,No (0:Int),No (0:Int),Aat] 26] O)) hH br dv) ?_;rintro _ fu ⟨rfl,bv,e⟩;refine AA 1 rfl<|Bl rfl h (fun dw h=>?_) (fun dw h=>?_)
 ·refine Bk 1 rfl ?_;refine Ax h fun da dx h=>?_;refine DA rfl rfl (Fc (a0:=(a8.2.1,a8.2.2)) (a1:=([34]:AaK)) (O:=(Ha [.box k [No (0:Int),Aat,.string ⟨(([]:AaK)).toArray⟩,Aat,No (0:Int),No (0:Int),Aat] 26] O)) hH bv dx) ?_;rintro _ fv ⟨rfl,au,a9⟩;refine Ax h fun fw dy h=>?_;refine Bs rfl rfl au (Mf _ _ (As hH au) dy) ?_;rintro cg fx ⟨_,rfl,bw⟩ dz d0 ba;have s:=bw.CA hH au dz;refine AA 1 rfl<|Bk 1 rfl ?_;refine Ax h fun fy d1 h=>?_;refine Fz rfl rfl (E9 (a0:=(da.2.1,da.2.2)) (a1:=([34]:AaK)) (O:=(Ha [.box k [No (0:Int),Aat,.string ⟨(([]:AaK)).toArray⟩,Aat,No (0:Int),No (0:Int),Aat] 26] O)) hH d0 d1) ?_ ?_
  ·rintro rfl f0 ⟨d2,ch⟩;have h:=DB h;refine B0<|B7<|B0 ?_
   cases h
   refine DE ?_;have d3:=d2.AP (i:=0) rfl;have hT:=hT.trans (b.trans (c.trans (d.trans (a.trans (e.trans (a9.trans (ba.trans (ch.trans (Al (i:=0) rfl)))))))));exact CL ⟨d3,hT⟩
  rintro y55 rfl _ f1 ⟨rfl,d4,bb⟩;have h:=DC h;refine Ac<|Bk 1 rfl<|Ae (AZ rfl (fun _=>PF _ _ s.one _)) rfl<|Aj 1 rfl rfl rfl Bh d4 rfl rfl (AH rfl (AH s.one (AH rfl (AH rfl (AH rfl (AH rfl (AH rfl Cj))))))) fun f2 bx bc=>Ac<|Ay<|Aw<|Av ?_
  cases h
  refine FG<|BB rfl (.cell rfl AbP rfl Bh (AT (i:=1) bx rfl)) ?_;have d5:=bx.AP (i:=1) rfl;have hT:=hT.trans (b.trans (c.trans (d.trans (a.trans (e.trans (a9.trans (ba.trans (bb.trans (bc.trans (Al (i:=1) rfl))))))))));have s:=s.mono (Ab hH (bb.trans (bc.trans (Al (i:=1) rfl))));exact DD ⟨cg,Aat,Aat,rfl,d5,hT,s,(AI.nil _ _),(AI.nil _ _)⟩
 refine Bk 1 rfl ?_;refine Ax h fun bd d6 h=>?_;refine DA rfl rfl (Bz (a0:=(a8.2.1,a8.2.2)) (a1:=([39]:AaK)) (O:=(Ha [.box k [No (0:Int),Aat,.string ⟨(([]:AaK)).toArray⟩,Aat,No (0:Int),No (0:Int),Aat] 26] O)) hH bv d6) ?_;rintro _ f3 ⟨rfl,bz,g⟩;refine AA 1 rfl<|Bl rfl h (fun d7 h=>?_) (fun d7 h=>?_)
 ·refine Bk 1 rfl ?_;refine Ax h fun f4 d8 h=>?_;refine Fz rfl rfl (Jl (a0:=(bd.2.1,bd.2.2)) (O:=(Ha [.box k [No (0:Int),Aat,.string ⟨(([]:AaK)).toArray⟩,Aat,No (0:Int),No (0:Int),Aat] 26] O)) hH bz d8) ?_ ?_
  ·rintro rfl f5 ⟨d9,ci⟩;have h:=DB h;refine B0<|B7<|B0 ?_
   cases h
   refine DE ?_;have ea:=d9.AP (i:=0) rfl;have hT:=hT.trans (b.trans (c.trans (d.trans (a.trans (e.trans (g.trans (ci.trans (Al (i:=0) rfl))))))));exact CL ⟨ea,hT⟩
  rintro y68 rfl cj f6 ⟨_,y64_0,rfl,av,ck,af⟩;have h:=DC h;refine Ae (AZ rfl (fun _=>WX _ _ (row_one (av.at (i:=0) rfl)) _)) rfl<|Aj 2 rfl rfl rfl Bh av rfl rfl (AH rfl (AH rfl (AH rfl (AH (row_one (av.at (i:=0) rfl)) (AH rfl (AH rfl (AH rfl Cj))))))) fun f7 aw be=>Ac<|Ay<|Aw<|Av ?_
  cases h
  refine FG<|BB rfl (.cell rfl AbP rfl Bh (AT (i:=2) aw rfl)) ?_;have af:=af.mono (Ab hH be);have ax:=aw.CA hH (i:=0) rfl af;have eb:=aw.AP (i:=0) rfl;have ec:=eb.AP (i:=1) rfl;have hT:=hT.trans (b.trans (c.trans (d.trans (a.trans (e.trans (g.trans (ck.trans (be.trans ((Al (i:=0) rfl).trans (Al (i:=1) rfl))))))))));have ax:=ax.mono (Ab hH (Al (i:=1) rfl));exact DD ⟨Aat,cj,Aat,rfl,ec,hT,(AI.nil _ _),ax,(AI.nil _ _)⟩
 refine Bk 1 rfl ?_;refine Ax h fun bf ed h=>?_;refine DA rfl rfl (Bz (a0:=(bd.2.1,bd.2.2)) (a1:=([47]:AaK)) (O:=(Ha [.box k [No (0:Int),Aat,.string ⟨(([]:AaK)).toArray⟩,Aat,No (0:Int),No (0:Int),Aat] 26] O)) hH bz ed) ?_;rintro _ f8 ⟨rfl,b0,t⟩;refine AA 1 rfl<|Bl rfl h (fun ee h=>?_) (fun ee h=>?_)
 ·refine Bk 1 rfl ?_;refine Ax h fun f9 ef h=>?_;refine Fz rfl rfl (MY (a0:=(bf.2.1,bf.2.2)) (O:=(Ha [.box k [No (0:Int),Aat,.string ⟨(([]:AaK)).toArray⟩,Aat,No (0:Int),No (0:Int),Aat] 26] O)) hH hU b0 ef) ?_ ?_
  ·rintro rfl ga ⟨eg,cl⟩;have h:=DB h;refine B0<|B7<|B0 ?_
   cases h
   refine DE ?_;have eh:=eg.AP (i:=0) rfl;have hT:=hT.trans (b.trans (c.trans (d.trans (a.trans (e.trans (g.trans (t.trans (cl.trans (Al (i:=0) rfl)))))))));exact CL ⟨eh,hT⟩
  rintro y82 rfl _ gb ⟨cm,cn,y78_3,co,rfl,b2,cp,y,ag,z⟩;have h:=DC h;refine Aj 2 rfl rfl rfl Bh b2 rfl rfl (AH rfl (AH y.one (AH rfl (AH (row_one (b2.at (i:=0) rfl)) (AH rfl (AH rfl (AH z.one Cj))))))) fun gc ay ab=>Ac<|Ay<|Aw<|Av ?_
  cases h
  refine FG<|BB rfl (.cell rfl AbP rfl Bh (AT (i:=2) ay rfl)) ?_;have ag:=ag.mono (Ab hH ab);have az:=ay.CA hH (i:=0) rfl ag;have ei:=ay.AP (i:=0) rfl;have ej:=ei.AP (i:=1) rfl;have hT:=hT.trans (b.trans (c.trans (d.trans (a.trans (e.trans (g.trans (t.trans (cp.trans (ab.trans ((Al (i:=0) rfl).trans (Al (i:=1) rfl)))))))))));have y:=y.mono (Ab hH (ab.trans ((Al (i:=0) rfl).trans (Al (i:=1) rfl))));have z:=z.mono (Ab hH (ab.trans ((Al (i:=0) rfl).trans (Al (i:=1) rfl))));have az:=az.mono (Ab hH (Al (i:=1) rfl));exact DD ⟨cm,cn,co,rfl,ej,hT,y,az,z⟩
 refine Au<|A8<|Ao<|Bk 1 rfl ?_;refine Ax h fun bg ek h=>?_;refine DA rfl rfl (Fc (a0:=(bf.2.1,bf.2.2)) (a1:=([126,38,124,41]:AaK)) (O:=(Ha [.box k [No (0:Int),Aat,.string ⟨(([]:AaK)).toArray⟩,Aat,No (0:Int),No (0:Int),Aat] 26] O)) hH b0 ek) ?_;rintro _ gd ⟨rfl,el,ac⟩;refine AA 1 rfl<|A7<|Bk 1 rfl ?_;refine Ax h fun db em h=>?_;refine DA rfl rfl (Bz (a0:=(bg.2.1,bg.2.2)) (a1:=([126]:AaK)) (O:=(Ha [.box k [No (0:Int),Aat,.string ⟨(([]:AaK)).toArray⟩,Aat,No (0:Int),No (0:Int),Aat] 26] O)) hH el em) ?_;rintro _ ge ⟨rfl,b3,ad⟩;refine AA 1 rfl<|Bl rfl h (fun en h=>?_) (fun en h=>?_)
 ·refine Bk 1 rfl<|Bu (r:=.st) (l:=[bg.1]) rfl (fun _=>OT _ rfl _) rfl (show 1≤9223372036854775807 by decide) hH b3 (.c1 rfl .nil) fun e3 gf fa eo cq ah=>Ae (AZ rfl (fun _=>PF _ _ ah.one _)) rfl<|Aj 1 rfl rfl rfl Bh eo rfl rfl (AH rfl (AH ah.one (AH rfl (AH rfl (AH rfl (AH rfl (AH rfl Cj))))))) fun gg b4 bh=>Ac<|Ay<|Av ?_
  cases h
  refine FG<|BB rfl (.cell rfl AbP rfl Bh (AT (i:=1) b4 rfl)) ?_;have ep:=b4.AP (i:=1) rfl;have hT:=hT.trans (b.trans (c.trans (d.trans (a.trans (e.trans (g.trans (t.trans (ac.trans (ad.trans (cq.trans (bh.trans (Al (i:=1) rfl))))))))))));have ah:=ah.mono (Ab hH (bh.trans (Al (i:=1) rfl)));exact DD ⟨e3,Aat,Aat,rfl,ep,hT,ah,(AI.nil _ _),(AI.nil _ _)⟩
 refine Au<|Ao<|Bk 1 rfl ?_;refine Ax h fun gh eq h=>?_;refine Fz rfl rfl (GL (a0:=(db.2.1,db.2.2)) (O:=(Ha [.box k [No (0:Int),Aat,.string ⟨(([]:AaK)).toArray⟩,Aat,No (0:Int),No (0:Int),Aat] 26] O)) hH hU b3 eq) ?_ ?_
 ·rintro rfl gi ⟨er,cr⟩;have h:=DB h;refine B0 ?_
  cases h
  refine DE ?_;have cs:=er.AP (i:=0) rfl;have hT:=hT.trans (b.trans (c.trans (d.trans (a.trans (e.trans (g.trans (t.trans (ac.trans (ad.trans (cr.trans (Al (i:=0) rfl)))))))))));exact CL ⟨cs,hT⟩
 rintro y102 rfl _ gj ⟨rfl,es,bi⟩;have h:=DC h;refine Ae (AZ rfl (fun _=>WY _ _ _)) rfl<|AG Bh rfl rfl es fun fb a2 ct am _=>Aj 0 rfl rfl rfl Bh ct rfl rfl (AH rfl (AH rfl (AH rfl (AH rfl (AH rfl (AH rfl (AH rfl Cj))))))) fun et bj an=>Ac<|Bk 1 rfl ?_;have bk:AO m (Ha [.box ba0 [AaJ y102.2.1,No y102.2.2] 86,.box a2 [No (3:Int),Aat,.string ⟨(([]:AaK)).toArray⟩,Aat,No y102.1,No (0:Int),Aat] 26,.box k [No (0:Int),Aat,.string ⟨(([]:AaK)).toArray⟩,Aat,No (0:Int),No (0:Int),Aat] 26] O) et:=bj.C5 [1] rfl;have ao:=B6 [1] bj bk rfl;refine Ax h fun fc cu h=>?_;refine Fz rfl rfl (E9 (a0:=(y102.2.1,y102.2.2)) (a1:=([126]:AaK)) (O:=(Ha [.box a2 [No (3:Int),Aat,.string ⟨(([]:AaK)).toArray⟩,Aat,No y102.1,No (0:Int),Aat] 26,.box k [No (0:Int),Aat,.string ⟨(([]:AaK)).toArray⟩,Aat,No (0:Int),No (0:Int),Aat] 26] O)) hH bk cu) ?_ ?_
 ·rintro rfl fd ⟨cv,b5⟩;have h:=DB h;refine B0 ?_
  cases h
  refine DE ?_;have cw:=cv.AP (i:=0) rfl;have cx:=cw.AP (i:=0) rfl;have hT:=hT.trans (b.trans (c.trans (d.trans (a.trans (e.trans (g.trans (t.trans (ac.trans (ad.trans (bi.trans (am.trans (an.trans (ao.trans (b5.trans ((Al (i:=0) rfl).trans (Al (i:=0) rfl))))))))))))))));exact CL ⟨cx,hT⟩
 rintro y112 rfl _ fe ⟨rfl,cy,b6⟩;have h:=DC h;refine Ac<|Bk 2 rfl ?_;refine Ax h fun eu cz h=>?_;refine DA rfl rfl (Fc (a0:=(y112.1,y112.2)) (a1:=([126,38,124,41]:AaK)) (O:=(Ha [.box a2 [No (3:Int),Aat,.string ⟨(([]:AaK)).toArray⟩,Aat,No y102.1,No (0:Int),Aat] 26,.box k [No (0:Int),Aat,.string ⟨(([]:AaK)).toArray⟩,Aat,No (0:Int),No (0:Int),Aat] 26] O)) hH cy cz) ?_;rintro _ ff ⟨rfl,c0,b7⟩;refine Bu (r:=.st) (l:=[bg.1,eu.1]) rfl (fun _=>Aab _ rfl _ rfl _) rfl (show 2≤9223372036854775807 by decide) hH c0 (.c1 rfl (.c1 rfl .nil)) fun ev fg e4 c2 b8 aa=>Ae (Af rfl AbP rfl Jm (by decide)) rfl<|Bi 1 rfl rfl aa.one Jm c2 rfl rfl fun fh bl ap=>Ac<|Ak<|Ae (AE 1 rfl AbP rfl Bh bl rfl) rfl<|Aj 2 rfl rfl rfl Bh bl rfl rfl (AH rfl (AH aa.one (AH rfl (AH rfl (AH rfl (AH rfl (AH rfl Cj))))))) fun fi bm aq=>Ac<|Ay ?_
 cases h
 refine FG<|BB rfl (.cell rfl AbP rfl Bh (AT (i:=2) bm rfl)) ?_;have c3:=bm.AP (i:=1) rfl;have c4:=c3.AP (i:=1) rfl;have hT:=hT.trans (b.trans (c.trans (d.trans (a.trans (e.trans (g.trans (t.trans (ac.trans (ad.trans (bi.trans (am.trans (an.trans (ao.trans (b6.trans (b7.trans (b8.trans (ap.trans (aq.trans ((Al (i:=1) rfl).trans (Al (i:=1) rfl))))))))))))))))))));have aa:=aa.mono (Ab hH (ap.trans (aq.trans ((Al (i:=1) rfl).trans (Al (i:=1) rfl)))));exact DD ⟨ev,Aat,Aat,rfl,c4,hT,aa,(AI.nil _ _),(AI.nil _ _)⟩
def Cq:Nat→(AaK×Int)→Option (Option (Go.L.Qv×(AaK×Int)))
 | 0=>fun _=>none
 | n+1=>C3 (Cq n)
def Gk:(AaK×Int)→Option (Option (Go.L.Qv×(AaK×Int))):=Cq 1000
theorem MA(n:Nat):∀ {a w:World} {H:PH} (hH:Le H (hp a)) (hU:D9 H) {O:List BG} {a0:AaK×Int} {ba0:Nat} (hL:AO a (Ha [.box ba0 [AaJ a0.1,No a0.2] 86] O) w) {r:Option (Go.L.Qv×(AaK×Int))} (h:Cq n a0=some r),Rn Tryz.prog 70 [AaH ba0] w (.iface 82 (.agg #[])) (fun v w'=>S9 r v (fun r v=>∃ (b:Value) (c:Value) (d:Value),v=.agg #[No r.1.f.1,b,AaJ r.1.f.2.2.1,c,No r.1.f.2.2.2.2.1,No r.1.f.2.2.2.2.2.1,d]∧AO a (Ha [.box ba0 [AaJ r.2.1,No r.2.2] 86] O) w'∧Le (fz w (Ha [.box ba0 [AaJ a0.1,No a0.2] 86] O)) (fz w' (Ha [.box ba0 [AaJ r.2.1,No r.2.2] 86] O))∧AI .st (gz H a w' (Ha [.box ba0 [AaJ r.2.1,No r.2.2] 86] O)) b (r.1.f.2.1)∧AI .byte (gz H a w' (Ha [.box ba0 [AaJ r.2.1,No r.2.2] 86] O)) c (r.1.f.2.2.2.1)∧AI .Bc (gz H a w' (Ha [.box ba0 [AaJ r.2.1,No r.2.2] 86] O)) d (r.1.f.2.2.2.2.2.2)) (AO a O w'∧Le (fz w (Ha [.box ba0 [AaJ a0.1,No a0.2] 86] O)) (fz w' O))):=by
 induction n with
 | zero=>intros;rename_i h;cases h
 | succ n ih=>exact @Lt (Cq n) ih
theorem NC:∀ {a w:World} {H:PH} (hH:Le H (hp a)) (hU:D9 H) {O:List BG} {a0:AaK×Int} {ba0:Nat} (hL:AO a (Ha [.box ba0 [AaJ a0.1,No a0.2] 86] O) w) {r:Option (Go.L.Qv×(AaK×Int))} (h:Gk a0=some r),Rn Tryz.prog 70 [AaH ba0] w (.iface 82 (.agg #[])) (fun v w'=>S9 r v (fun r v=>∃ (b:Value) (c:Value) (d:Value),v=.agg #[No r.1.f.1,b,AaJ r.1.f.2.2.1,c,No r.1.f.2.2.2.2.1,No r.1.f.2.2.2.2.2.1,d]∧AO a (Ha [.box ba0 [AaJ r.2.1,No r.2.2] 86] O) w'∧Le (fz w (Ha [.box ba0 [AaJ a0.1,No a0.2] 86] O)) (fz w' (Ha [.box ba0 [AaJ r.2.1,No r.2.2] 86] O))∧AI .st (gz H a w' (Ha [.box ba0 [AaJ r.2.1,No r.2.2] 86] O)) b (r.1.f.2.1)∧AI .byte (gz H a w' (Ha [.box ba0 [AaJ r.2.1,No r.2.2] 86] O)) c (r.1.f.2.2.2.1)∧AI .Bc (gz H a w' (Ha [.box ba0 [AaJ r.2.1,No r.2.2] 86] O)) d (r.1.f.2.2.2.2.2.2)) (AO a O w'∧Le (fz w (Ha [.box ba0 [AaJ a0.1,No a0.2] 86] O)) (fz w' O))):=MA 1000
end Go.Proofs.YtekmbcbgknmhiaaGreatDoor
end
noncomputable section
namespace Go.L
open Go
def bt(l:List UInt8)(k:Nat):Nat:=(l.getD k default).toNat
def cont(l:List UInt8)(k:Nat):Bool:=decide (k<l.length∧128≤bt l k∧bt l k≤191)
def pt3(l:List UInt8):Nat:=((bt l 0 - 224) * 64+(bt l 1 - 128)) * 64+(bt l 2 - 128)
def pt4(l:List UInt8):Nat:=(((bt l 0 - 240) * 64+(bt l 1 - 128)) * 64+(bt l 2 - 128)) * 64+(bt l 3 - 128)
def Sf(l:List UInt8):Nat:=
 if 194≤bt l 0∧bt l 0≤223 then(if cont l 1 then 2 else 0)
 else if 224≤bt l 0∧bt l 0≤239 then(if cont l 1∧cont l 2∧2048≤pt3 l∧¬ (55296≤pt3 l∧pt3 l≤57343) then 3 else 0)
 else if 240≤bt l 0∧bt l 0≤244 then(if cont l 1∧cont l 2∧cont l 3∧65536≤pt4 l∧pt4 l≤1114111 then 4 else 0)
 else 0
def asc(c:Nat):Bool:=decide ((48≤c∧c≤57)∨(97≤c∧c≤122)∨(65≤c∧c≤90))
def MQ(l:List UInt8):Nat:=if asc (bt l 0) then 1 else Sf l
def II(c:UInt8):UInt8:=if 65≤(c.toNat:Int)∧(c.toNat:Int)≤90 then c+32 else c
theorem Ws{c:UInt8}(h:128≤c.toNat):II c=c:=by unfold II;rw [if_neg (by omega)]
theorem Aaq(a:List UInt8)(i k:Nat):bt (a.drop i) k=bt a (i+k):=by
 unfold bt;rw [List.getD_eq_getElem?_getD,List.getD_eq_getElem?_getD,List.getElem?_drop]
theorem YD(l:List UInt8)(h:l≠[]):Sf l≤l.length:=by
 have hl:=List.length_pos_iff.2 h;unfold Sf cont
 split
 ·split
  ·rename_i a;have:=of_decide_eq_true a;omega
  ·omega
 ·split
  ·split
   ·rename_i a;have:=of_decide_eq_true a.2.1;omega
   ·omega
  ·split
   ·split
    ·rename_i a;have:=of_decide_eq_true a.2.2.1;omega
    ·omega
   ·omega
theorem YE(l:List UInt8)(h:l≠[]):MQ l≤l.length:=by
 have hl:=List.length_pos_iff.2 h;unfold MQ
 split
 ·omega
 ·exact YD l h
theorem Aar{l:List UInt8}(h:bt l 0<128):Sf l=0:=by
 unfold Sf;rw [if_neg (by omega),if_neg (by omega),if_neg (by omega)]
theorem Aas{l:List UInt8}(_hs:Sf l≠0):(l.take (Sf l)).map II=l.take (Sf l):=by
 have key:∀ k,k<Sf l→128≤bt l k:=by
  intro k hk;unfold Sf at hk;unfold cont at hk
  split at hk
  ·split at hk
   ·rename_i a;have:=of_decide_eq_true a;obtain h | h:k=0∨k=1:=by omega
    all_goals subst h;omega
   ·omega
  ·split at hk
   ·split at hk
    ·rename_i a;have h2:=of_decide_eq_true a.1;have h3:=of_decide_eq_true a.2.1;obtain h | h | h:k=0∨k=1∨k=2:=by omega
     all_goals subst h;omega
    ·omega
   ·split at hk
    ·split at hk
     ·rename_i a;have h2:=of_decide_eq_true a.1;have h3:=of_decide_eq_true a.2.1;have b:=of_decide_eq_true a.2.2.1;obtain h | h | h | h:k=0∨k=1∨k=2∨k=3:=by omega
      all_goals subst h;omega
     ·omega
    ·omega
 apply List.ext_getElem (by simp);intro k a h2;rw [List.getElem_map,List.getElem_take];apply Ws;have hk:k<Sf l:=by simp at h2;omega
 have:=key k hk;have hkl:k<l.length:=by simp at h2;omega
 unfold bt at this;rw [List.getD_eq_getElem?_getD,List.getElem?_eq_getElem hkl] at this;exact this
theorem UM(l:List UInt8)(k:Nat):((ByteArray.mk l.toArray).get! k).toNat=bt l k:=by
 simp [ByteArray.get!,bt,List.getD_eq_getElem?_getD,getElem!_def]
 cases h:l[k]? <;> rfl
theorem AbA(l:List UInt8)(hne:l≠[])(m:128≤bt l 0):(Sf l=0→Lib.decodeGo ⟨l.toArray⟩=(65533,1))∧(Sf l≠0→(Lib.decodeGo ⟨l.toArray⟩).2=Sf l∧Sf l≠1):=by
 have hsz:(ByteArray.mk l.toArray).size=l.length:=by simp [ByteArray.size]
 have hl:=List.length_pos_iff.2 hne
 have hc:∀ k,(decide (0+k<(ByteArray.mk l.toArray).size)&&((ByteArray.mk l.toArray).get! (0+k)).toNat / 64==2)=cont l k:=by
  intro k;rw [Nat.zero_add,hsz,UM];unfold cont
  by_cases a:k<l.length
  ·by_cases h2:bt l k / 64=2
   ·rw [decide_eq_true a,Bool.true_and,beq_iff_eq.2 h2,decide_eq_true ⟨a,by omega,by omega⟩]
   ·rw [decide_eq_true a,Bool.true_and,beq_eq_false_iff_ne.2 h2,decide_eq_false (fun h=>h2 (by omega))]
  ·rw [decide_eq_false a,Bool.false_and,decide_eq_false (fun h=>a h.1)]
 unfold Lib.decodeGo;rw [hsz,if_neg (by omega)];unfold Utf8.decode;simp only [hc];simp only [Nat.zero_add,UM]
 have hv:∀ c:Nat,Utf8.valid c=decide (c<55296∨(57344≤c∧c≤1114111)):=by
  intro c;rw [Bool.eq_iff_iff];unfold Utf8.valid;simp only [Bool.or_eq_true,Bool.and_eq_true,decide_eq_true_eq];omega
 simp only [hv];have f1:cont l 1=true→128≤bt l 1∧bt l 1≤191:=fun h=>(of_decide_eq_true h).2;have f2:cont l 2=true→128≤bt l 2∧bt l 2≤191:=fun h=>(of_decide_eq_true h).2;have f3:cont l 3=true→128≤bt l 3∧bt l 3≤191:=fun h=>(of_decide_eq_true h).2;have hb:bt l 0<256:=UInt8.toNat_lt _;unfold Sf pt3 pt4 Utf8.runeError;generalize bt l 0=b at *;generalize bt l 1=d at *;generalize bt l 2=f at *;generalize bt l 3=g at *;generalize cont l 1=c1 at *;generalize cont l 2=c2 at *;generalize cont l 3=c3 at *;simp only [Bool.and_eq_true,beq_iff_eq,decide_eq_true_eq]
 by_cases hA:194≤b∧b≤223
 ·rw [if_pos hA,if_neg (show ¬ b<128 by omega)]
  by_cases a:c1=true
  ·have:=f1 a;rw [if_pos a,if_pos (show b / 32=6∧c1=true from⟨by omega,a⟩),if_pos (show b % 32 * 64+d % 64≥128 by omega)];exact⟨fun h=>absurd h (by decide),fun _=>⟨rfl,by decide⟩⟩
  ·rw [if_neg a,if_neg (show ¬ (b / 32=6∧c1=true) from fun h=>a h.2),if_neg (show ¬ ((b / 16=14∧c1=true)∧c2=true) from fun h=>by omega),if_neg (show ¬ (((b / 8=30∧c1=true)∧c2=true)∧c3=true) from fun h=>by omega)];exact⟨fun _=>rfl,fun h=>absurd rfl h⟩
 rw [if_neg hA]
 by_cases hB:224≤b∧b≤239
 ·rw [if_pos hB,if_neg (show ¬ b<128 by omega),if_neg (show ¬ (b / 32=6∧c1=true) from fun h=>by omega)]
  by_cases a:c1=true∧c2=true
  ·have i:=f1 a.1;have j:=f2 a.2;rw [if_pos (show(b / 16=14∧c1=true)∧c2=true from⟨⟨by omega,a.1⟩,a.2⟩)];have e:b % 16 * 4096+d % 64 * 64+f % 64=((b - 224) * 64+(d - 128)) * 64+(f - 128):=by omega
   rw [e]
   by_cases h2:2048≤((b - 224) * 64+(d - 128)) * 64+(f - 128)∧¬ (55296≤((b - 224) * 64+(d - 128)) * 64+(f - 128)∧((b - 224) * 64+(d - 128)) * 64+(f - 128)≤57343)
   ·rw [if_pos ⟨a.1,a.2,h2⟩,if_pos ⟨h2.1,(by omega)⟩];exact⟨fun h=>absurd h (by decide),fun _=>⟨rfl,by decide⟩⟩
   ·rw [if_neg (fun h=>h2 h.2.2),if_neg (fun h=>h2 ⟨h.1,by omega⟩)];exact⟨fun _=>rfl,fun h=>absurd rfl h⟩
  ·rw [if_neg (fun h=>a ⟨h.1,h.2.1⟩),if_neg (show ¬ ((b / 16=14∧c1=true)∧c2=true) from fun h=>a ⟨h.1.2,h.2⟩),if_neg (show ¬ (((b / 8=30∧c1=true)∧c2=true)∧c3=true) from fun h=>by omega)];exact⟨fun _=>rfl,fun h=>absurd rfl h⟩
 rw [if_neg hB]
 by_cases hC:240≤b∧b≤244
 ·rw [if_pos hC,if_neg (show ¬ b<128 by omega),if_neg (show ¬ (b / 32=6∧c1=true) from fun h=>by omega),if_neg (show ¬ ((b / 16=14∧c1=true)∧c2=true) from fun h=>by omega)]
  by_cases a:c1=true∧c2=true∧c3=true
  ·have i:=f1 a.1;have j:=f2 a.2.1;have n:=f3 a.2.2;rw [if_pos (show((b / 8=30∧c1=true)∧c2=true)∧c3=true from⟨⟨⟨by omega,a.1⟩,a.2.1⟩,a.2.2⟩)];have e:b % 8 * 262144+d % 64 * 4096+f % 64 * 64+g % 64=(((b - 240) * 64+(d - 128)) * 64+(f - 128)) * 64+(g - 128):=by omega
   rw [e]
   by_cases h2:65536≤(((b - 240) * 64+(d - 128)) * 64+(f - 128)) * 64+(g - 128)∧(((b - 240) * 64+(d - 128)) * 64+(f - 128)) * 64+(g - 128)≤1114111
   ·rw [if_pos ⟨a.1,a.2.1,a.2.2,h2⟩,if_pos ⟨h2.1,by omega⟩];exact⟨fun h=>absurd h (by decide),fun _=>⟨rfl,by decide⟩⟩
   ·rw [if_neg (fun h=>h2 h.2.2.2),if_neg (fun h=>h2 ⟨h.1,by omega⟩)];exact⟨fun _=>rfl,fun h=>absurd rfl h⟩
  ·rw [if_neg (fun h=>a ⟨h.1,h.2.1,h.2.2.1⟩),if_neg (fun h=>a ⟨h.1.1.2,h.1.2,h.2⟩)];exact⟨fun _=>rfl,fun h=>absurd rfl h⟩
 rw [if_neg hC];refine⟨fun _=>?_,fun h=>absurd rfl h⟩;rw [if_neg (show ¬ b<128 by omega)]
 by_cases a:b / 32=6∧c1=true
 ·have:=f1 a.2;rw [if_pos a,if_neg (show ¬ (b % 32 * 64+d % 64≥128) by omega)]
 ·rw [if_neg a,if_neg (show ¬ ((b / 16=14∧c1=true)∧c2=true) from fun h=>by omega)]
  by_cases h2:((b / 8=30∧c1=true)∧c2=true)∧c3=true
  ·have i:=f1 h2.1.1.2;rw [if_pos h2,if_neg (fun h=>by omega)]
  ·rw [if_neg h2]
end Go.L
namespace Go.Proofs.YtekmbcbgknmhiaaGreatDoor
open Go Go.L
theorem Xi{l:List UInt8}(hne:l≠[]):Iv l=some (if MQ l=0 then([],1) else((l.take (MQ l)).map II,((MQ l:Nat):Int))):=by
 have hl:=List.length_pos_iff.2 hne;obtain⟨c,m,rfl⟩:=List.exists_cons_of_ne_nil hne;have i:(c::m).getD ((0:Int).toNat) default=c:=rfl;have eb:bt (c::m) 0=c.toNat:=rfl;have hc:=c.toNat_lt;unfold Iv;rw [An ⟨by decide,by omega⟩,i]
 have hup:(65≤(c.toNat:Int))∧((c.toNat:Int)≤90)→AU (((c - (65:UInt8))+(97:UInt8)).toNat<128) (some ([((c - (65:UInt8))+(97:UInt8))],(1:Int)))=some (if MQ (c::m)=0 then([],1) else(((c::m).take (MQ (c::m))).map II,((MQ (c::m):Nat):Int))):=by
  intro h
  have e:(c - (65:UInt8))+(97:UInt8)=c+32:=by
   apply UInt8.toNat.inj;rw [UInt8.toNat_add,UInt8.toNat_sub,UInt8.toNat_add];have j:(97:UInt8).toNat=97:=rfl;have k:(65:UInt8).toNat=65:=rfl;have g:(32:UInt8).toNat=32:=rfl;omega
  have n:(c+32).toNat=c.toNat+32:=by
   rw [UInt8.toNat_add];have g:(32:UInt8).toNat=32:=rfl;omega
  have d:MQ (c::m)=1:=by unfold MQ asc;rw [eb,if_pos (decide_eq_true (by omega))]
  rw [e,An (by omega),d,if_neg (by decide)]
  show some ([c+32],(1:Int))=some ([II c],1)
  unfold II;rw [if_pos h]
 have hlo:(48≤(c.toNat:Int))∧((c.toNat:Int)≤57)∨(97≤(c.toNat:Int))∧((c.toNat:Int)≤122)→AU (c.toNat<128) (some ([c],(1:Int)))=some (if MQ (c::m)=0 then([],1) else(((c::m).take (MQ (c::m))).map II,((MQ (c::m):Nat):Int))):=by
  intro h;have d:MQ (c::m)=1:=by unfold MQ asc;rw [eb,if_pos (decide_eq_true (by omega))]
  rw [An (by omega),d,if_neg (by decide)]
  show some ([c],(1:Int))=some ([II c],1)
  unfold II;rw [if_neg (by omega)]
 have hnon:asc c.toNat=false→(if(c.toNat:Int)<128 then some (([]:List UInt8),(1:Int)) else Option.bind (Xa (c::m)) (fun a=>if(a.1=(65533:Int))∧(a.2=(1:Int)) then some (([]:List UInt8),(1:Int)) else Go.L.AU (0≤a.2∧a.2≤((c::m).length:Int)) (some (((c::m).take a.2.toNat),a.2))))=some (if MQ (c::m)=0 then([],1) else(((c::m).take (MQ (c::m))).map II,((MQ (c::m):Nat):Int))):=by
  intro h;have d:MQ (c::m)=Sf (c::m):=by unfold MQ;rw [if_neg (by rw [eb,h];decide)]
  rw [d]
  by_cases b:(c.toNat:Int)<128
  ·rw [if_pos b,Aar (by rw [eb];omega),if_pos rfl]
  ·rw [if_neg b];have hd:=AbA (c::m) hne (by rw [eb];omega);unfold Xa;rw [An hne,Option.bind_some]
   by_cases h2:Sf (c::m)=0
   ·rw [hd.1 h2,if_pos ⟨rfl,rfl⟩,if_pos h2]
   ·obtain⟨h3,f⟩:=hd.2 h2;have o:=YD (c::m) hne;simp only [h3];rw [if_neg (by omega),An ⟨by omega,by omega⟩,if_neg h2,Int.toNat_natCast,Aas h2]
 by_cases b:(48≤(c.toNat:Int))∧((c.toNat:Int)≤57)
 ·rw [if_pos b];exact hlo (.inl b)
 rw [if_neg b]
 by_cases h2:97≤(c.toNat:Int)
 ·rw [if_pos h2]
  by_cases h3:(c.toNat:Int)≤122
  ·rw [if_pos h3];exact hlo (.inr ⟨h2,h3⟩)
  ·rw [if_neg h3,if_neg (by omega)];exact hnon (decide_eq_false (by omega))
 ·rw [if_neg h2]
  by_cases f:(65≤(c.toNat:Int))∧((c.toNat:Int)≤90)
  ·rw [if_pos f];exact hup f
  ·rw [if_neg f];exact hnon (decide_eq_false (by omega))
end Go.Proofs.YtekmbcbgknmhiaaGreatDoor
namespace Go.L
open Go
abbrev W:=List UInt8×Int×Int
abbrev WS:=(List W×Int) ⊕ List W
def fin(cur:List UInt8)(fr at':Nat):List W:=if cur=[] then[] else[(cur,(fr:Int),(at':Int))]
def Uc(a:List UInt8):Nat→Nat→List UInt8→Nat→List W
 | 0,at',cur,fr=>fin cur fr at'
 | f+1,at',cur,fr=>
  if at'<a.length then
   if MQ (a.drop at')=0 then fin cur fr at'++Uc a f (at'+1) [] (at'+1)
   else Uc a f (at'+MQ (a.drop at')) (cur++((a.drop at').take (MQ (a.drop at'))).map II) fr
  else fin cur fr at'
def wds(a:List UInt8):List W:=Uc a (a.length+1) 0 [] 0
theorem NZ{a:List UInt8}{f at':Nat}{cur:List UInt8}{fr:Nat}(h:a.length≤at'):Uc a f at' cur fr=fin cur fr at':=by
 cases f with
 | zero=>rfl
 | succ f=>unfold Uc;rw [if_neg (by omega)]
theorem Aau(cur:List UInt8)(fr at':Nat):(fin cur fr at').length≤1:=by unfold fin;split <;> simp
theorem TG{a:List UInt8}{i:Nat}(h:i<a.length):a.drop i≠[]:=fun e=>by
 have:=congrArg List.length e;rw [List.length_drop,List.length_nil] at this;omega
theorem UN{a:List UInt8}{i:Nat}(h:i<a.length):i+MQ (a.drop i)≤a.length:=by
 have:=YE _ (TG h);rw [List.length_drop] at this;omega
theorem Wt{a:List UInt8}{i:Nat}(h:i<a.length):(((a.drop i).take (MQ (a.drop i))).map II).length=MQ (a.drop i):=by
 have:=YE _ (TG h);rw [List.length_map,List.length_take];omega
end Go.L
namespace Go.Proofs.YtekmbcbgknmhiaaGreatDoor
open Go Go.L
theorem Aav{a:List UInt8}(hs:a.length≤1000000000000):∀ (f at':Nat) (L:List W),a.length≤at'+f→L.length≤at'→at'≤a.length+1→
  run (Cn a) (L,(at':Int))=some (L++Uc a f at' [] at')∧
  ∀
   (cur:List UInt8) (fr:Nat),(at'<a.length∨cur≠[])→at'≤a.length→cur.length≤at'→∃ m,run (Cm a L (fr:Int)) (cur,(at':Int))=some m∧
   (match m with | .inl s=>run (Cn a) s=some (L++Uc a f at' cur fr) | .inr r=>r=L++Uc a f at' cur fr):=by
 intro f
 induction f with
 | zero=>
  intro at' L hf hL ha
  constructor
  ·rw [NZ (by omega)];refine Bm (m:=some (L++fin [] at' at')) ?_;unfold Cn;simp only;rw [if_neg (by omega)];unfold fin;rw [if_pos rfl,List.append_nil]
  ·intro cur fr hc hle hcl;have hc:cur≠[]:=hc.resolve_left (by omega);refine⟨.inr (L++fin cur fr at'),?_,rfl⟩;refine Bm (m:=some (Sum.inr (L++fin cur fr at'):WS)) ?_;unfold Cm Fx;simp only;rw [if_neg (by omega),An (by constructor <;> omega)];unfold fin;rw [if_neg hc]
   rfl
 | succ f ih=>
  intro at' L hf hL ha
  have B:∀ (cur:List UInt8) (fr:Nat),(at'<a.length∨cur≠[])→at'≤a.length→cur.length≤at'→∃ m,run (Cm a L (fr:Int)) (cur,(at':Int))=some m∧
   (match m with | .inl s=>run (Cn a) s=some (L++Uc a (f+1) at' cur fr) | .inr r=>r=L++Uc a (f+1) at' cur fr):=by
   intro cur fr hc hle hcl
   by_cases h:at'<a.length
   ·have hroom:=UN h;have hlow:=Wt h;have b:=Xi (TG h);unfold Uc;rw [if_pos h]
    by_cases d:MQ (a.drop at')=0
    ·rw [if_pos d] at b ⊢;have e:(((at':Nat):Int)+1)=((at'+1:Nat):Int):=by omega
     by_cases hcur:cur=[]
     ·have c:=(ih (at'+1) L (by omega) (by omega) (by omega)).1;refine⟨.inl (L,((at'+1:Nat):Int)),?_,?_⟩
      ·refine Bm (m:=some (Sum.inl (L,((at'+1:Nat):Int)):WS)) ?_;unfold Cm;simp only;rw [if_pos (by omega),An ⟨by omega,by omega⟩,Int.toNat_natCast,b,Option.bind_some];simp only;rw [if_pos trivial,An (by constructor <;> omega),if_pos hcur,e]
      ·simp only;rw [c];unfold fin;rw [if_pos hcur,List.nil_append]
     ·have c:=(ih (at'+1) (L++[(cur,(fr:Int),(at':Int))]) (by omega) (by rw [List.length_append,List.length_singleton];omega) (by omega)).1;refine⟨.inl (L++[(cur,(fr:Int),(at':Int))],((at'+1:Nat):Int)),?_,?_⟩
      ·refine Bm (m:=some (Sum.inl (L++[(cur,(fr:Int),(at':Int))],((at'+1:Nat):Int)):WS)) ?_;unfold Cm;simp only;rw [if_pos (by omega),An ⟨by omega,by omega⟩,Int.toNat_natCast,b,Option.bind_some];simp only;rw [if_pos trivial,An (by constructor <;> omega),if_neg hcur,An (by constructor <;> omega),e]
      ·simp only;rw [c];unfold fin;rw [if_neg hcur,List.append_assoc]
    ·rw [if_neg d] at b ⊢;have hne:((a.drop at').take (MQ (a.drop at'))).map II≠[]:=fun e=>by rw [e,List.length_nil] at hlow;omega
     obtain⟨m,c,h2⟩:=(ih (at'+MQ (a.drop at')) L (by omega) (by omega) (by omega)).2 (cur++((a.drop at').take (MQ (a.drop at'))).map II) fr (.inr (fun e=>hne (List.append_eq_nil_iff.1 e).2)) hroom (by rw [List.length_append,hlow];omega);refine⟨m,?_,h2⟩;rw [← c];refine BA ?_;unfold Cm;simp only;rw [if_pos (by omega),An ⟨by omega,by omega⟩,Int.toNat_natCast,b,Option.bind_some];simp only;rw [if_neg hne,An (by omega),An (by constructor <;> omega)]
     rfl
   ·have hc:cur≠[]:=hc.resolve_left h;rw [NZ (by omega)];refine⟨.inr (L++fin cur fr at'),?_,rfl⟩;refine Bm (m:=some (Sum.inr (L++fin cur fr at'):WS)) ?_;unfold Cm Fx;simp only;rw [if_neg (by omega),An (by constructor <;> omega)];unfold fin;rw [if_neg hc]
    rfl
  refine⟨?_,B⟩
  by_cases h:at'<a.length
  ·obtain⟨m,c,h2⟩:=B [] at' (.inl h) (by omega) (by simp)
   have hb:Cn a (L,(at':Int))=some m:=by
    unfold Cn;simp only;rw [if_pos (by omega)];exact c
   cases m with
   | inl s=>rw [BA hb];exact h2
   | inr r=>rw [Bm (m:=some r) hb,h2]
  ·rw [NZ (by omega)];refine Bm (m:=some (L++fin [] at' at')) ?_;unfold Cn;simp only;rw [if_neg (by omega)];unfold fin;rw [if_pos rfl,List.append_nil]
theorem UO{a:List UInt8}(hs:a.length≤1000000000000):Mk a=some (wds a):=by
 have:=(Aav hs (a.length+1) 0 [] (by omega) (by simp) (by omega)).1;rw [List.nil_append] at this;exact this
theorem Xj{a:List UInt8}(hs:a.length≤1000000000000):Iw a=some (decide ((wds a).map Prod.fst=[a])):=by
 unfold Iw;rw [An (by omega),UO hs,Option.bind_some];generalize wds a=l
 match l with
 | []=>rw [if_neg (by simp)];simp
 | [x]=>rw [if_pos (show(([x].length:Nat):Int)=1 from rfl),An (by simp)];simp
 | x::y::z=>rw [if_neg (by simp;omega)];simp
end Go.Proofs.YtekmbcbgknmhiaaGreatDoor
end
noncomputable section
namespace Go.Proofs.YtekmbcbgknmhiaaGreatDoor
open Go Go.E Go.RowKit Go.L
set_option maxHeartbeats 1000000
set_option maxRecDepth 10000
open _root_.Go.Proofs.Tryz
def Iz(a:Int)(b:Int):Option (Int):=
 if a=(3:Int) then if b<(2048:Int) then some ((0:Int)) else Option.bind (E2 b (55296:Int) (57343:Int)) (fun c=>if c then some ((0:Int)) else if a=(4:Int) then Option.bind (E2 b (65536:Int) (1114111:Int)) (fun d=>if !d then some ((0:Int)) else some (a)) else some (a)) else if a=(4:Int) then Option.bind (E2 b (65536:Int) (1114111:Int)) (fun e=>if !e then some ((0:Int)) else some (a)) else some (a)
def H7(a0:AaK)(a1:Int)(c:Int):Int×Int→Option ((Int×Int) ⊕ (Int)):=fun⟨b,a⟩=>
 if a<c then AU (BL (a1+a)) (AU (0≤(a1+a)∧(a1+a)<(a0.length:Int)) (Option.bind (E2 ((a0.getD ((a1+a).toNat) default).toNat:Int) (128:Int) (191:Int)) (fun d=>if !d then Option.map Sum.inr (some ((0:Int))) else AU (BL ((64:Int) * b)) (AU (BL (((64:Int) * b)+((a0.getD ((a1+a).toNat) default).toNat:Int))) (AU (BL ((((64:Int) * b)+((a0.getD ((a1+a).toNat) default).toNat:Int)) - (128:Int))) (AU (BL (a+(1:Int))) (some (Sum.inl (((((64:Int) * b)+((a0.getD ((a1+a).toNat) default).toNat:Int)) - (128:Int)),(a+(1:Int))))))))))) else Option.map Sum.inr ((Iz c) b)
def KE(a0:AaK)(a1:Int)(a:Int)(s:Int×Int):Option (Int):=Go.L.run (H7 a0 a1 a) s
def Gl(a0:AaK)(a1:Int)(a:Int)(b:Int):Option (Int):=
 if a=(0:Int) then some ((0:Int)) else AU (BL (a1+a)) (if(a0.length:Int)<(a1+a) then some ((0:Int)) else(KE a0 a1 a) (b,(1:Int)))
def I0(a0:AaK)(a1:Int)(a:Int)(b:Int):Option (Int):=
 Option.bind (E2 ((a0.getD a1.toNat default).toNat:Int) (240:Int) (244:Int)) (fun c=>if c then AU (BL (((a0.getD a1.toNat default).toNat:Int) - (240:Int))) ((Gl a0 a1) (4:Int) (((a0.getD a1.toNat default).toNat:Int) - (240:Int))) else(Gl a0 a1) a b)
def J6(a0:AaK)(a1:Int)(a:Int)(b:Int):Option (Int):=
 Option.bind (E2 ((a0.getD a1.toNat default).toNat:Int) (224:Int) (239:Int)) (fun c=>if c then AU (BL (((a0.getD a1.toNat default).toNat:Int) - (224:Int))) ((I0 a0 a1) (3:Int) (((a0.getD a1.toNat default).toNat:Int) - (224:Int))) else(I0 a0 a1) a b)
def Oa(a0:AaK)(a1:Int):Option (Int):=
 AU (0≤a1∧a1<(a0.length:Int)) (Option.bind (E2 ((a0.getD a1.toNat default).toNat:Int) (194:Int) (223:Int)) (fun a=>if a then AU (BL (((a0.getD a1.toNat default).toNat:Int) - (192:Int))) ((J6 a0 a1) (2:Int) (((a0.getD a1.toNat default).toNat:Int) - (192:Int))) else(J6 a0 a1) (0:Int) (0:Int)))
theorem TH(w:World)(H:PH)(hH:Le H (hp w)){a0:AaK}{a1:Int}{l:Value}(aa:AI .byte H l (a0)){r:Int}(h:Oa a0 a1=some r):
  Ok Tryz.prog 203 [l,No a1] w (fun v w'=>Ext w w'∧v=No r):=by
 refine A4 (n:=79) [(0,l),(1,No a1)] func203 rfl rfl rfl rfl rfl ?_;have hL:=AO.start w;refine A9 1 rfl<|Bk 2 rfl ?_;refine Az h fun a4 h=>?_;refine Bb rfl rfl Abe Lo aa a1.toNat (EM a4) (AW a4) rfl ?_;rintro p1 _ rfl bg;refine Ae (Be rfl Ab9 rfl bg (hH.trans hL.arg)) rfl<|Ae (EV Ab9 AaT rfl (H0 _)) rfl<|AA 1 rfl<|A9 2 rfl<|Bn (σ:=Int×Int) (fun⟨m,o⟩=>[(0,l),(1,No a1),(5,No ((a0.getD a1.toNat default).toNat:Int)),(6,No m),(7,No o)]) (fun⟨m,o⟩ wr=>AO w [] wr∧(J6 a0 a1) m o=some r) ?_ ?_
 ·refine Bk 1 rfl ?_;refine Ax h fun cb a5 h=>?_;refine AF rfl rfl hL (DG _ _ (As hH hL) a5) fun cc bu ah bl=>Ac<|Bl rfl h (fun a6 h=>?_) (fun a6 h=>?_)
  ·refine Ar<|Aq 1 rfl ?_;refine Az h fun a7 h=>?_;refine Ae (AK rfl rfl rfl a7) rfl<|Aq 2 rfl<|AL<|A6 ((2:Int),(((a0.getD a1.toNat default).toNat:Int) - (192:Int))) (Sub.of rfl) ⟨ah,h⟩
  refine Au<|A6 ((0:Int),(0:Int)) (Sub.of rfl) ⟨ah,h⟩
 rintro⟨m,o⟩ bv ⟨ai,h⟩;refine Bn (σ:=Int×Int) (fun⟨p,q⟩=>[(0,l),(1,No a1),(5,No ((a0.getD a1.toNat default).toNat:Int)),(6,No p),(7,No q)]) (fun⟨p,q⟩ wr=>AO w [] wr∧(I0 a0 a1) p q=some r) ?_ ?_
 ·refine Bk 1 rfl ?_;refine Ax h fun cd a8 h=>?_;refine AF rfl rfl ai (DG _ _ (As hH ai) a8) fun ce bw aj bm=>Ac<|Bl rfl h (fun a9 h=>?_) (fun a9 h=>?_)
  ·refine Ar<|Aq 1 rfl ?_;refine Az h fun ba h=>?_;refine Ae (AK rfl rfl rfl ba) rfl<|Aq 2 rfl<|AL<|A6 ((3:Int),(((a0.getD a1.toNat default).toNat:Int) - (224:Int))) (Sub.of rfl) ⟨aj,h⟩
  refine Au<|A6 (m,o) (Sub.of rfl) ⟨aj,h⟩
 rintro⟨p,q⟩ bx ⟨ak,h⟩;refine Bn (σ:=Int×Int) (fun⟨i,t⟩=>[(0,l),(1,No a1),(6,No i),(7,No t)]) (fun⟨i,t⟩ wr=>AO w [] wr∧(Gl a0 a1) i t=some r) ?_ ?_
 ·refine Bk 1 rfl ?_;refine Ax h fun cf bb h=>?_;refine AF rfl rfl ak (DG _ _ (As hH ak) bb) fun cg bz al bn=>Ac<|Bl rfl h (fun bc h=>?_) (fun bc h=>?_)
  ·refine Ar<|Aq 1 rfl ?_;refine Az h fun bd h=>?_;refine Ae (AK rfl rfl rfl bd) rfl<|Aq 2 rfl<|AL<|A6 ((4:Int),(((a0.getD a1.toNat default).toNat:Int) - (240:Int))) (Sub.of rfl) ⟨al,h⟩
  refine Au<|A6 (p,q) (Sub.of rfl) ⟨al,h⟩
 rintro⟨i,t⟩ b0 ⟨ab,h⟩;refine A7<|Bk 3 rfl<|AQ (s:=30) rfl (fun d=>?_) (fun d=>?_)
 ·have h:=BO (of_decide_eq_true d) h
  iterate 6 refine Ai rfl rfl d rfl ?_
  refine Ae (A1 rfl d rfl) rfl<|Ac<|Cy rfl<|A9 1 rfl<|Ay<|Av ?_
  cases h
  refine Am rfl rfl ?_;exact⟨ab.ext,rfl⟩
 have h:=BP (of_decide_eq_false d) h;refine Aa rfl rfl d<|Ae (Ad rfl) rfl<|Aa rfl rfl d<|Ae (Ad rfl) rfl<|Aa rfl rfl d ?_;refine Az h fun be h=>?_;refine Ae (AK rfl rfl rfl be) rfl<|Aa rfl rfl d<|Ae (Ad rfl) rfl<|Aa rfl rfl d<|Ae (Bo rfl Abe aa) rfl<|Aa rfl rfl d<|Ae (Ad rfl) rfl<|Ae (A3 rfl d rfl) rfl<|Ac<|AM rfl h (fun bf h=>?_) (fun bf h=>?_)
 ·refine A9 1 rfl<|Ay<|Av ?_
  cases h
  refine Am rfl rfl ?_;exact⟨ab.ext,rfl⟩
 refine Au<|Ao<|A9 2 rfl<|Bn (σ:=Int) (fun u=>[(6,No i),(8,No u)]) (fun u wr=>AO w [] wr∧(Iz i) u=some r) ?_ ?_
 ·refine A9 1 rfl<|A2 ?_;obtain⟨ac,h⟩:=AY h;refine Bw (σ:=Int×Int×Nat) (fun⟨g,c,n⟩=>[(0,l),(1,No a1),(6,No i),(8,No g),(9,No c)]) (fun⟨g,c,n⟩ wr=>AO w [] wr∧FT (H7 a0 a1 i) n (g,c)=some r) (fun⟨g,c,n⟩=>n) (t,(1:Int),ac) (Sub.of rfl) ⟨ab,h⟩ ?_;rintro⟨g,c,nn120⟩ bo ⟨x,h⟩;obtain⟨ac,b1,rfl,h,z⟩:=AX h;refine A7<|A9 3 rfl<|AM rfl h (fun am h=>?_) (fun am h=>?_)
  ·refine Au<|Ao<|A7<|A2<|Bk 3 rfl ?_;refine Az h fun an h=>?_;refine Ae (AK rfl rfl rfl an) rfl ?_;refine Az h fun ad h=>?_;refine Bb rfl rfl Abe Lo aa ((a1+c).toNat) (EM ad) (AW ad) rfl ?_;rintro b2 _ rfl ao;refine Ae (Be rfl Ab9 rfl ao (hH.trans x.arg)) rfl<|Ae (EV Ab9 AaT rfl (H0 _)) rfl<|AA 1 rfl<|A7<|Bk 1 rfl ?_;refine Ax h fun b3 ap h=>?_;refine AF rfl rfl x (DG _ _ (As hH x) ap) fun b4 bp ae bh=>AA 1 rfl<|Bl rfl h (fun aq h=>?_) (fun aq h=>?_)
   ·refine A9 1 rfl<|Ay<|Av<|Aw<|Av<|BK ?_;have h:=BV.out h z;refine Aw<|Bt ?_
    cases h
    refine Am rfl rfl ?_;exact⟨ae.ext,rfl⟩
   refine Au<|Ao<|Ar<|Aq 1 rfl ?_;refine Az h fun ar h=>?_;refine Ae (AK rfl rfl rfl ar) rfl<|Aq 1 rfl ?_;refine Az h fun au h=>?_;refine Ae (AK rfl rfl rfl au) rfl ?_;refine Az h fun av h=>?_;refine Ae (AK rfl rfl rfl av) rfl<|Aq 1 rfl<|AL<|A8<|Ao<|Ar<|Aq 1 rfl ?_;refine Az h fun aw h=>?_;refine Ae (AK rfl rfl rfl aw) rfl<|Aq 1 rfl<|AL ?_;have h:=BV.again h z;refine AN (((((64:Int) * g)+((a0.getD ((a1+c).toNat) default).toNat:Int)) - (128:Int)),(c+(1:Int)),ac) (Sub.of rfl) ⟨ae,h⟩ (Nat.lt_succ_self _)
  refine Br<|AD<|A5 ?_;have h:=BV.out h z;refine Bd<|A6 g (Sub.of rfl) ⟨x,h⟩
 rintro u bq ⟨k,h⟩;refine A7<|Bk 3 rfl<|AQ (s:=61) rfl (fun a=>?_) (fun a=>?_)
 ·have h:=BO (of_decide_eq_true a) h;refine Aa rfl rfl a<|Ae (Ad rfl) rfl<|Aa rfl rfl a<|Ae (Ad rfl) rfl<|Aa rfl rfl a<|Ae (Ad rfl) rfl<|AQ (s:=64) rfl (fun j=>?_) (fun j=>?_)
  ·have h:=BO (of_decide_eq_true j) h
   iterate 2 refine Ai rfl rfl j rfl ?_
   refine Aa rfl rfl a<|Ae (A1 rfl j rfl) rfl<|Ae (A1 rfl a rfl) rfl<|Aq 1 rfl ?_
   iterate 3 refine Ai rfl rfl rfl rfl ?_
   iterate 3 refine Ce rfl rfl rfl ?_
   refine Ai rfl rfl rfl rfl<|Ae (A1 rfl rfl rfl) rfl<|Ac<|Cy rfl<|A9 1 rfl<|Ay<|Av ?_
   cases h
   refine Am rfl rfl ?_;exact⟨k.ext,rfl⟩
  have h:=BP (of_decide_eq_false j) h;refine Aa rfl rfl j<|Ae (Ad rfl) rfl<|Aa rfl rfl j ?_;refine Ax h fun b5 ax h=>?_;refine AF rfl rfl k (DG _ _ (As hH k) ax) fun b6 br y bi=>Aa rfl rfl a<|Ae (A3 rfl j rfl) rfl<|Ae (A1 rfl a rfl) rfl<|Aq 1 rfl<|AQ (s:=69) rfl (fun b=>?_) (fun b=>?_)
  ·have h:=G5 b h
   iterate 3 refine Ai rfl rfl b rfl ?_
   iterate 3 refine Ce rfl rfl rfl ?_
   refine Ai rfl rfl b rfl<|Ae (A1 rfl b rfl) rfl<|Ac<|Cy rfl<|A9 1 rfl<|Ay<|Av ?_
   cases h
   refine Am rfl rfl ?_;exact⟨y.ext,rfl⟩
  have h:=G6 b h;refine Aa rfl rfl b<|Ae (Ad rfl) rfl<|Aa rfl rfl b<|Ae (Ad rfl) rfl<|Aa rfl rfl b<|Ae (Ad rfl) rfl<|AQ (s:=72) rfl (fun e=>?_) (fun e=>?_)
  ·have h:=BO (of_decide_eq_true e) h;refine Aa rfl rfl e<|Ae (Ad rfl) rfl<|Aa rfl rfl e ?_;refine Ax h fun b7 ay h=>?_;refine AF rfl rfl y (DG _ _ (As hH y) ay) fun b8 bs af bj=>Aa rfl rfl e<|Ae (Ad rfl) rfl<|Aa rfl rfl b<|Ae (A1 rfl e rfl) rfl<|Ae (A3 rfl b rfl) rfl<|Ac<|Bl rfl h (fun az h=>?_) (fun az h=>?_)
   ·refine A9 1 rfl<|Ay<|Av ?_
    cases h
    refine Am rfl rfl ?_;exact⟨af.ext,rfl⟩
   refine Au<|Ao<|A9 2 rfl<|Ay ?_
   cases h
   refine Am rfl rfl ?_;exact⟨af.ext,rfl⟩
  have h:=BP (of_decide_eq_false e) h
  iterate 3 refine Ai rfl rfl e rfl ?_
  refine Aa rfl rfl b<|Ae (A3 rfl e rfl) rfl<|Ae (A3 rfl b rfl) rfl<|Ac<|Cw rfl<|Au<|Ao<|A9 2 rfl<|Ay ?_
  cases h
  refine Am rfl rfl ?_;exact⟨y.ext,rfl⟩
 have h:=BP (of_decide_eq_false a) h
 iterate 3 refine Ai rfl rfl a rfl ?_
 iterate 2 refine Ce rfl rfl rfl ?_
 refine Ai rfl rfl a rfl<|Ae (A3 rfl a rfl) rfl<|Aq 1 rfl<|Aa rfl rfl rfl<|Ae (Ad rfl) rfl<|Aa rfl rfl rfl<|Ae (Ad rfl) rfl<|Aa rfl rfl rfl<|Ae (Ad rfl) rfl<|AQ (s:=72) rfl (fun f=>?_) (fun f=>?_)
 ·have h:=BO (of_decide_eq_true f) h;refine Aa rfl rfl f<|Ae (Ad rfl) rfl<|Aa rfl rfl f ?_;refine Ax h fun b9 a2 h=>?_;refine AF rfl rfl k (DG _ _ (As hH k) a2) fun ca bt ag bk=>Aa rfl rfl f<|Ae (Ad rfl) rfl<|Aa rfl rfl rfl<|Ae (A1 rfl f rfl) rfl<|Ae (A3 rfl rfl rfl) rfl<|Ac<|Bl rfl h (fun a3 h=>?_) (fun a3 h=>?_)
  ·refine A9 1 rfl<|Ay<|Av ?_
   cases h
   refine Am rfl rfl ?_;exact⟨ag.ext,rfl⟩
  refine Au<|Ao<|A9 2 rfl<|Ay ?_
  cases h
  refine Am rfl rfl ?_;exact⟨ag.ext,rfl⟩
 have h:=BP (of_decide_eq_false f) h
 iterate 3 refine Ai rfl rfl f rfl ?_
 refine Aa rfl rfl rfl<|Ae (A3 rfl f rfl) rfl<|Ae (A3 rfl rfl rfl) rfl<|Ac<|Cw rfl<|Au<|Ao<|A9 2 rfl<|Ay ?_
 cases h
 refine Am rfl rfl ?_;exact⟨k.ext,rfl⟩
def Kp(a0:AaK)(a1:Int):Option (Int):=
 AU (0≤a1∧a1<(a0.length:Int)) (Option.bind (E2 ((a0.getD a1.toNat default).toNat:Int) (48:Int) (57:Int)) (fun c=>if c then some ((1:Int)) else Option.bind (E2 ((a0.getD a1.toNat default).toNat:Int) (97:Int) (122:Int)) (fun d=>if d then some ((1:Int)) else Option.bind (E2 ((a0.getD a1.toNat default).toNat:Int) (65:Int) (90:Int)) (fun a=>if a then some ((1:Int)) else Option.bind (Oa a0 a1) (fun b=>some (b))))))
theorem ND(w:World)(H:PH)(hH:Le H (hp w)){a0:AaK}{a1:Int}{c:Value}(e:AI .byte H c (a0)){r:Int}(h:Kp a0 a1=some r):
  Ok Tryz.prog 152 [c,No a1] w (fun v w'=>Ext w w'∧v=No r):=by
 refine A4 (n:=24) [(0,c),(1,No a1)] func152 rfl rfl rfl rfl rfl ?_;have hL:=AO.start w;refine A9 1 rfl<|Bk 2 rfl ?_;refine Az h fun i h=>?_;refine Bb rfl rfl Abe Lo e a1.toNat (EM i) (AW i) rfl ?_;rintro p1 _ rfl o;refine Ae (Be rfl Ab9 rfl o (hH.trans hL.arg)) rfl<|Ae (EV Ab9 AaT rfl (H0 _)) rfl<|AA 1 rfl<|A7<|Bk 1 rfl ?_;refine Ax h fun x3 p h=>?_;refine AF rfl rfl hL (DG _ _ (As hH hL) p) fun w4 ab f x=>Aq 1 rfl<|AQ (s:=13) rfl (fun b=>?_) (fun b=>?_)
 ·have h:=G5 b h
  iterate 2 refine Ai rfl rfl b rfl ?_
  refine Ae (A1 rfl b rfl) rfl<|Aq 1 rfl ?_
  iterate 2 refine Ai rfl rfl rfl rfl ?_
  refine Ae (A1 rfl rfl rfl) rfl<|Ac<|Cy rfl<|A9 1 rfl<|Ay<|Av ?_
  cases h
  refine Am rfl rfl ?_;exact⟨f.ext,rfl⟩
 have h:=G6 b h;refine Aa rfl rfl b<|Ae (Ad rfl) rfl<|Aa rfl rfl b ?_;refine Ax h fun x8 q h=>?_;refine AF rfl rfl f (DG _ _ (As hH f) q) fun w9 ac g y=>Ae (A3 rfl b rfl) rfl<|Aq 1 rfl<|AQ (s:=17) rfl (fun a=>?_) (fun a=>?_)
 ·have h:=G5 a h
  iterate 2 refine Ai rfl rfl a rfl ?_
  refine Ae (A1 rfl a rfl) rfl<|Ac<|Cy rfl<|A9 1 rfl<|Ay<|Av ?_
  cases h
  refine Am rfl rfl ?_;exact⟨g.ext,rfl⟩
 have h:=G6 a h;refine Aa rfl rfl a<|Ae (Ad rfl) rfl<|Aa rfl rfl a ?_;refine Ax h fun ad j h=>?_;refine AF rfl rfl g (DG _ _ (As hH g) j) fun ae z d t=>Ae (A3 rfl a rfl) rfl<|Ac<|Bl rfl h (fun k h=>?_) (fun k h=>?_)
 ·refine A9 1 rfl<|Ay<|Av ?_
  cases h
  refine Am rfl rfl ?_;exact⟨d.ext,rfl⟩
 refine Au<|Ao<|Bk 2 rfl ?_;refine Ax h fun af l h=>?_;refine AF rfl rfl d (TH _ _ (As hH d) (e.mono (Ah hH)) l) fun ag aa m u=>AA 1 rfl<|Ay ?_
 cases h
 refine Am rfl rfl ?_;exact⟨m.ext,rfl⟩
def IJ(c:AaK)(a:Int)(b:UInt8):Option ((AaK×Int) ⊕ ((AaK×Int) ⊕ (((List (AaK×Int×Int))×Int) ⊕ ((List (AaK×Int×Int)))))):=
 AU (Go.E.JE 1 (c.length+([b]).length)) (AU (BL (a+(1:Int))) (some (Sum.inl ((c++[b]),(a+(1:Int))))))
def LL(a:Int)(b:Int)(c:AaK):Option ((AaK×Int) ⊕ (((List (AaK×Int×Int))×Int) ⊕ ((List (AaK×Int×Int))))):=
 AU (BL (a+b)) (some (Sum.inl (c,(a+b))))
def Ic(a0:AaK)(b:Int)(c:Int):AaK×Int→Option ((AaK×Int) ⊕ ((AaK×Int) ⊕ (((List (AaK×Int×Int))×Int) ⊕ ((List (AaK×Int×Int)))))):=fun⟨d,a⟩=>
 AU (BL (b+c)) (if a<(b+c) then AU (0≤a∧a<(a0.length:Int)) (if(65≤((a0.getD a.toNat default).toNat:Int))∧(((a0.getD a.toNat default).toNat:Int)≤90) then(IJ d a) (a0.getD a.toNat default+(32:UInt8)) else(IJ d a) (a0.getD a.toNat default)) else Option.map Sum.inr ((LL b c) d))
def LM(a0:AaK)(a:Int)(b:Int)(s:AaK×Int):Option ((AaK×Int) ⊕ (((List (AaK×Int×Int))×Int) ⊕ ((List (AaK×Int×Int))))):=Go.L.run (Ic a0 a b) s
def IK(c:List (AaK×Int×Int))(b:Int)(d:AaK)(a:Int):Option (((List (AaK×Int×Int))×Int) ⊕ ((List (AaK×Int×Int)))):=
 if b<a then AU (Go.E.JE 32 (c.length+([(d,b,a)]).length)) (AU (BL (a+(1:Int))) (some (Sum.inl ((c++[(d,b,a)]),(a+(1:Int)))))) else AU (BL (a+(1:Int))) (some (Sum.inl (c,(a+(1:Int)))))
def Ez(a0:AaK)(d:List (AaK×Int×Int))(b:Int):AaK×Int→Option ((AaK×Int) ⊕ (((List (AaK×Int×Int))×Int) ⊕ ((List (AaK×Int×Int))))):=fun⟨c,a⟩=>
 if a<(a0.length:Int) then Option.bind (Kp a0 a) (fun e=>if(0:Int)<e then Option.bind (Kp a0 a) (fun f=>(LM a0 a f) (c,a)) else Option.map Sum.inr ((IK d b) c a)) else Option.map Sum.inr ((IK d b) c a)
def Sw(a0:AaK)(b:List (AaK×Int×Int))(a:Int)(s:AaK×Int):Option (((List (AaK×Int×Int))×Int) ⊕ ((List (AaK×Int×Int)))):=Go.L.run (Ez a0 b a) s
def LN(a:List (AaK×Int×Int)):Option ((List (AaK×Int×Int))):=
 some (a)
def Dq(a0:AaK):(List (AaK×Int×Int))×Int→Option (((List (AaK×Int×Int))×Int) ⊕ ((List (AaK×Int×Int)))):=fun⟨b,a⟩=>
 if a<(a0.length:Int) then(Sw a0 b a) (([]:AaK),a) else Option.map Sum.inr (LN b)
def Sx(a0:AaK)(s:(List (AaK×Int×Int))×Int):Option ((List (AaK×Int×Int))):=Go.L.run (Dq a0) s
def OH(a0:AaK):Option ((List (AaK×Int×Int))):=
 (Sx a0) (([]:List (AaK×Int×Int)),(0:Int))
theorem Sy(w:World)(H:PH)(hH:Le H (hp w)){a0:AaK}{ab:Value}(ao:AI .byte H ab (a0)){r:(List (AaK×Int×Int))}(h:OH a0=some r):
  Ok Tryz.prog 93 [ab] w (fun v w'=>Ext w w'∧∃ u0,v=u0∧C2 135 (.pair .st (.pair (.int .i64) (.int .i64))) H w w' u0 (r)):=by
 refine A4 (n:=69) [(0,ab)] func93 rfl rfl rfl rfl rfl ?_;have hL:=AO.start w;refine A9 1 rfl<|Bk 1 rfl ?_;obtain⟨cg,cu,ch⟩:=CB (.pair .st (.pair (.int .i64) (.int .i64))) H 135 hL;refine Ac<|A9 1 rfl<|Bn (σ:=(List (AaK×Int×Int))×Value×(List Value)) (fun⟨ap,al,ag⟩=>[(3,al)]) (fun⟨ap,al,ag⟩ wr=>DZ w [.row (al) 135 3 (ap).length (ag)] wr fun Oz=>AJ (.pair .st (.pair (.int .i64) (.int .i64))) (gz H w wr Oz) (ap) (ag)∧LN ap=some r) ?_ ?_
 ·refine A2 ?_;obtain⟨ar,h⟩:=AY h;refine Bw (σ:=(List (AaK×Int×Int))×Int×Value×(List Value)×Nat) (fun⟨e,d,f,c,n⟩=>[(0,ab),(3,f),(4,No d)]) (fun⟨e,d,f,c,n⟩ wr=>DZ w [.row (f) 135 3 (e).length (c)] wr fun Oz=>AJ (.pair .st (.pair (.int .i64) (.int .i64))) (gz H w wr Oz) (e) (c)∧FT (Dq a0) n (e,d)=some r) (fun⟨e,d,f,c,n⟩=>n) (([]:List (AaK×Int×Int)),(0:Int),Aat,[],ar) (Sub.of rfl) ⟨cg,ch,h⟩ ?_;rintro⟨e,d,f,c,nn352⟩ cj ⟨a5,a,h⟩;obtain⟨ar,a9,rfl,h,au⟩:=AX h;refine A7<|Bk 2 rfl<|Ae (Bo rfl Abe ao) rfl<|AA 1 rfl<|AM rfl h (fun bg h=>?_) (fun bg h=>?_)
  ·refine Au<|Ao<|A2<|A9 2 rfl<|Bk 1 rfl ?_;obtain⟨bh,a1,bi⟩:=CB .byte H 5 a5;refine Ac<|Bn (σ:=AaK×Int×Value×(List Value)) (fun⟨ad,k,am,ah⟩=>[(0,ab),(3,f),(4,No d),(5,No k),(6,am)]) (fun⟨ad,k,am,ah⟩ wr=>DZ w [.row (am) 5 1 (ad).length (ah),.row (f) 135 3 (e).length (c)] wr fun Oz=>AJ .byte (gz H w wr Oz) (ad) (ah)∧AJ (.pair .st (.pair (.int .i64) (.int .i64))) (gz H w wr Oz) (e) (c)∧(IK e d) ad k=some a9) ?_ ?_
   ·refine A2 ?_;obtain⟨a3,h⟩:=AY h;have a:=a.mono (Ab hH a1);refine Bw (σ:=AaK×Int×Value×(List Value)×Nat) (fun⟨ac,g,z,p,n⟩=>[(0,ab),(3,f),(4,No d),(5,No g),(6,z)]) (fun⟨ac,g,z,p,n⟩ wr=>DZ w [.row (z) 5 1 (ac).length (p),.row (f) 135 3 (e).length (c)] wr fun Oz=>AJ .byte (gz H w wr Oz) (ac) (p)∧AJ (.pair .st (.pair (.int .i64) (.int .i64))) (gz H w wr Oz) (e) (c)∧FT (Ez a0 e d) n (ac,g)=some a9) (fun⟨ac,g,z,p,n⟩=>n) (([]:AaK),d,Aat,[],a3) (Sub.of rfl) ⟨bh,bi,a,h⟩ ?_;rintro⟨ac,g,z,p,nn510⟩ ck ⟨av,u,a,h⟩;obtain⟨a3,ba,rfl,h,aw⟩:=AX h;refine A7<|Bk 2 rfl<|Ae (Bo rfl Abe ao) rfl<|Aq 2 rfl<|AQ (s:=19) rfl (fun o=>?_) (fun o=>?_)
    ·have h:=BO (of_decide_eq_true o) h;refine Aa rfl rfl o<|Ae (Ad rfl) rfl<|Aa rfl rfl o<|Ae (Ad rfl) rfl<|Aa rfl rfl o ?_;refine Ax h fun cv bj h=>?_;refine AF rfl rfl av (ND _ _ (As hH av) (ao.mono (Ah hH)) bj) fun cw cl ax ae=>Aa rfl rfl o<|Ae (Ad rfl) rfl<|Ae (A1 rfl o rfl) rfl<|Ac<|AM rfl h (fun bk h=>?_) (fun bk h=>?_)
     ·refine Au<|Ao<|A2<|Bk 2 rfl ?_;refine Ax h fun aj bl h=>?_;refine AF rfl rfl ax (ND _ _ (As hH ax) (ao.mono (Ah hH)) bl) fun cx cm bm aq=>AA 1 rfl<|Bn (σ:=AaK×Value×(List Value)) (fun⟨ak,ai,af⟩=>[(0,ab),(3,f),(4,No d),(5,No g),(6,ai),(7,No aj)]) (fun⟨ak,ai,af⟩ wr=>DZ w [.row (ai) 5 1 (ak).length (af),.row (f) 135 3 (e).length (c)] wr fun Oz=>AJ .byte (gz H w wr Oz) (ak) (af)∧AJ (.pair .st (.pair (.int .i64) (.int .i64))) (gz H w wr Oz) (e) (c)∧(LL g aj) ak=some ba) ?_ ?_
      ·refine A9 2 rfl<|A2 ?_;obtain⟨a4,h⟩:=AY h;have u:=u.mono (Ab hH (ae.trans aq));have a:=a.mono (Ab hH (ae.trans aq));refine Bw (σ:=AaK×Int×Value×(List Value)×Nat) (fun⟨t,j,aa,q,n⟩=>[(0,ab),(3,f),(4,No d),(5,No g),(6,aa),(7,No aj),(8,No j)]) (fun⟨t,j,aa,q,n⟩ wr=>DZ w [.row (aa) 5 1 (t).length (q),.row (f) 135 3 (e).length (c)] wr fun Oz=>AJ .byte (gz H w wr Oz) (t) (q)∧AJ (.pair .st (.pair (.int .i64) (.int .i64))) (gz H w wr Oz) (e) (c)∧FT (Ic a0 g aj) n (t,j)=some ba) (fun⟨t,j,aa,q,n⟩=>n) (ac,g,z,p,a4) (Sub.of rfl) ⟨bm,u,a,h⟩ ?_;rintro⟨t,j,aa,q,nn576⟩ cn ⟨an,x,a,h⟩;obtain⟨a4,cc,rfl,h,a6⟩:=AX h;refine A7<|Bk 3 rfl ?_;refine Az h fun bn h=>?_;refine Ae (AK rfl rfl rfl bn) rfl<|AA 1 rfl<|AM rfl h (fun bo h=>?_) (fun bo h=>?_)
       ·refine Au<|Ao<|A7<|A2<|Bk 2 rfl ?_;refine Az h fun a7 h=>?_;refine Bb rfl rfl Abe Lo ao j.toNat (EM a7) (AW a7) rfl ?_;rintro cy _ rfl bp;refine Ae (Be rfl Ab9 rfl bp (hH.trans an.arg)) rfl<|AA 1 rfl<|Bn (σ:=UInt8) (fun y=>[(0,ab),(3,f),(4,No d),(5,No g),(6,aa),(7,No aj),(8,No j),(9,.int .u8 (y.toNat:Int))]) (fun y wr=>DZ w [.row (aa) 5 1 (t).length (q),.row (f) 135 3 (e).length (c)] wr fun Oz=>AJ .byte (gz H w wr Oz) (t) (q)∧AJ (.pair .st (.pair (.int .i64) (.int .i64))) (gz H w wr Oz) (e) (c)∧(IJ t j) y=some cc) ?_ ?_
        ·refine Bk 3 rfl<|Nh 2 2 rfl rfl rfl rfl rfl rfl<|Ac<|AM rfl h (fun bq h=>?_) (fun bq h=>?_)
         ·refine Ar<|Aq 1 rfl<|Ae (Uv (b:=32) rfl rfl rfl) rfl<|Aq 1 rfl<|AL<|A6 (a0.getD j.toNat default+(32:UInt8)) (Sub.of rfl) ⟨an,x,a,h⟩
         refine Au<|A6 (a0.getD j.toNat default) (Sub.of rfl) ⟨an,x,a,h⟩
        rintro y co ⟨br,x,a,h⟩;refine Ar<|Aq 2 rfl<|Bu (r:=.byte) (l:=[y]) rfl (fun _=>Ik _ _) rfl (show 1≤9223372036854775807 by decide) hH br (.c1 rfl .nil) ?_;intro cz c0 cp bs a2 bt;refine Az h fun bu h=>?_;have x:=x.mono (Ab hH a2);refine Bq (r:=.byte) (l:=t) (m:=[y]) 0 rfl rfl Abe Lo rfl (by decide) rfl hH bs rfl x bt bu fun cd c2 bv bw bb bx=>Aq 1 rfl<|AL<|A8<|Ao<|Ar<|Aq 1 rfl ?_;refine Az h fun bz h=>?_;refine Ae (AK rfl rfl rfl bz) rfl<|Aq 1 rfl<|AL ?_;have h:=BV.again h a6;have a:=a.mono (Ab hH (a2.trans bb));refine AN ((t++[y]),(j+(1:Int)),cd,bv,a4) (Sub.of rfl) ⟨bw,bx,a,h⟩ (Nat.lt_succ_self _)
       refine Br<|AD<|A5 ?_;have h:=BV.out h a6;refine Bd<|A6 (t,aa,q) (Sub.of rfl) ⟨an,x,a,h⟩
      have a:=a.mono (Ab hH (ae.trans aq));rintro⟨ak,ai,af⟩ cq ⟨b0,bc,a,h⟩;refine Ar<|Aq 2 rfl ?_;refine Az h fun b1 h=>?_;refine Ae (AK rfl rfl rfl b1) rfl<|Aq 1 rfl<|AL<|A8 ?_;have h:=BV.again h aw;refine AN (ak,(g+aj),ai,af,a3) (Sub.of rfl) ⟨b0,bc,a,h⟩ (Nat.lt_succ_self _)
     refine Br<|AD<|A5 ?_;have h:=BV.out h aw;refine Bd ?_;have u:=u.mono (Ab hH ae);have a:=a.mono (Ab hH ae);refine A6 (ac,g,z,p) (Sub.of rfl) ⟨ax,u,a,h⟩
    have h:=BP (of_decide_eq_false o) h
    iterate 4 refine Ai rfl rfl o rfl ?_
    refine Ae (A3 rfl o rfl) rfl<|Ac<|Cw rfl<|Br<|AD<|A5 ?_;have h:=BV.out h aw;refine Bd<|A6 (ac,g,z,p) (Sub.of rfl) ⟨av,u,a,h⟩
   have a:=a.mono (Ab hH a1);rintro⟨ad,k,am,ah⟩ cr ⟨ay,bd,a,h⟩;refine A7<|A9 3 rfl<|AM rfl h (fun b2 h=>?_) (fun b2 h=>?_)
   ·refine Ar<|Aq 2 rfl<|Ae (MJ rfl Abe Ab9 Abb (ay.Tp hH (i:=0) rfl bd) (Le.refl _)) rfl<|Aq 2 rfl<|Ae (AZ rfl (fun _=>T6 _ rfl _ _ _)) rfl<|Bu (r:=(.pair .st (.pair (.int .i64) (.int .i64)))) (l:=[(ad,d,k)]) rfl (fun _=>U9 _ _ _ _) rfl (show 1≤9223372036854775807 by decide) hH ay (.c3 ⟨_,_,rfl,rfl,⟨_,_,rfl,rfl,rfl⟩⟩ .nil) ?_;intro c4 c5 cs b3 be b4;refine Az h fun b5 h=>?_;have a:=a.mono (Ab hH be);refine Bq (r:=(.pair .st (.pair (.int .i64) (.int .i64)))) (l:=e) (m:=[(ad,d,k)]) 1 rfl rfl AcR KR rfl (by decide) rfl hH b3 rfl a b4 b5 fun ce c6 b6 b7 ci az=>Aq 1 rfl<|AL<|Ao<|Ar<|Aq 1 rfl ?_;refine Az h fun b8 h=>?_;refine Ae (AK rfl rfl rfl b8) rfl<|Aq 1 rfl<|AL<|A8 ?_;have b9:=b7.AP (i:=0) rfl;have h:=BV.again h au;have az:=az.mono (Ab hH (Al (i:=0) rfl));refine AN ((e++[(ad,d,k)]),(k+(1:Int)),ce,b6,ar) (Sub.of rfl) ⟨b9,az,h⟩ (Nat.lt_succ_self _)
   refine Au<|Ao<|Ar<|Aq 1 rfl ?_;refine Az h fun ca h=>?_;refine Ae (AK rfl rfl rfl ca) rfl<|Aq 1 rfl<|AL<|A8 ?_;have cb:=ay.AP (i:=0) rfl;have h:=BV.again h au;have a:=a.mono (Ab hH (Al (i:=0) rfl));refine AN (e,(k+(1:Int)),f,c,ar) (Sub.of rfl) ⟨cb,a,h⟩ (Nat.lt_succ_self _)
  refine Br<|AD<|A5 ?_;have h:=BV.out h au;refine Bd<|A6 (e,f,c) (Sub.of rfl) ⟨a5,a,h⟩
 rintro⟨ap,al,ag⟩ ct ⟨a8,bf,h⟩;refine A9 2 rfl<|Ay ?_
 cases h
 refine Am rfl rfl ?_;exact⟨a8.ext,_,rfl,(a8.GQ hH (i:=0) rfl bf)⟩
def J7(a0:AaK):Option ((Int×Int)):=
 if(64:Int)<(a0.length:Int) then Option.bind (IM (3:Int) (-1:Int)) (fun d=>some ((d.1,d.2))) else AU (a0.length≤9223372036854775807) (Option.bind (OH a0) (fun a=>if(a.length:Int)=(1:Int) then AU (0≤(0:Int)∧(0:Int)<(a.length:Int)) (if(a.getD ((0:Int).toNat) default).1=a0 then some (((0:Int),(0:Int))) else Option.bind (IM (6:Int) (-1:Int)) (fun b=>some ((b.1,b.2)))) else Option.bind (IM (6:Int) (-1:Int)) (fun c=>some ((c.1,c.2)))))
theorem Pj(w:World)(H:PH)(hH:Le H (hp w)){a0:AaK}{r:(Int×Int)}(h:J7 a0=some r):
  Ok Tryz.prog 109 [AaJ a0] w (fun v w'=>Ext w w'∧v=.agg #[No r.1,No r.2]):=by
 refine A4 (n:=24) [(0,(AaJ a0))] func109 rfl rfl rfl rfl rfl ?_;have hL:=AO.start w;refine Ak<|AG AR rfl rfl hL fun w1 b1 d an _=>Ac<|A7<|Bk 1 rfl<|Ae (De rfl Abb) rfl<|AA 1 rfl<|AM rfl h (fun ab h=>?_) (fun ab h=>?_)
 ·refine Ak ?_;refine Ax h fun x4 ac h=>?_;refine AF rfl rfl d (GY _ _ (As hH d) ac) fun w5 av ad ao=>Aj 0 rfl rfl rfl AR ad rfl rfl (AH rfl (AH rfl Cj)) fun w6 m ap=>Ac<|Ay<|Av ?_
  cases h
  refine BB rfl (.cell rfl Abs rfl AR (AT (i:=0) m rfl)) ?_;exact⟨m.ext,rfl⟩
 refine Au<|Ao<|Bk 1 rfl ?_;refine Az h fun ae h=>?_;refine XQ (H:=H) rfl Abb Abe Ab9 rfl d ae ?_;intro v8 w8 aw e aq af;refine Ax h fun ax o h=>?_;refine Bs rfl rfl e (Sy _ _ (As hH e) af o) ?_;rintro ag ay ⟨_,rfl,f⟩ p b ah;have c:=f.CA hH e p;refine AA 1 rfl<|A7<|Bk 1 rfl<|Ae (Bo rfl AcR c) rfl<|Aq 2 rfl<|AQ (s:=14) rfl (fun a=>?_) (fun a=>?_)
 ·have h:=BP (CE a) h
  iterate 6 refine Ai rfl rfl a rfl ?_
  refine Ae (A1 rfl a rfl) rfl<|Ac<|Cy rfl<|Ak ?_;refine Ax h fun az q h=>?_;refine AF rfl rfl b (GY _ _ (As hH b) q) fun a1 ar t ai=>Aj 0 rfl rfl rfl AR t rfl rfl (AH rfl (AH rfl Cj)) fun a2 g aj=>Ac<|Ay<|Av ?_
  cases h
  refine BB rfl (.cell rfl Abs rfl AR (AT (i:=0) g rfl)) ?_;exact⟨g.ext,rfl⟩
 have h:=BO (CF a) h;refine Aa rfl rfl a<|Ae (Ad rfl) rfl<|Aa rfl rfl a ?_;refine Az h fun j h=>?_;refine Bb rfl rfl AcR KR c ((0:Int).toNat) (EM j) (AW j) rfl ?_;rintro a3 _ ⟨_,_,rfl,rfl,⟨_,_,rfl,rfl,rfl⟩⟩ u;refine Aa rfl rfl a<|Ae (Af rfl AcQ rfl Fu (by decide)) rfl ?_;have x:=u.add 0;refine Aa rfl rfl a<|Ae (Be rfl Abb rfl x (As hH b)) rfl<|Aa rfl rfl a<|Ae (Ad rfl) rfl<|Aa rfl rfl a<|Ae (ML rfl rfl) rfl<|Ae (A3 rfl a rfl) rfl<|Ac<|Cl rfl h (fun y h=>?_) (fun y h=>?_)
 ·refine Ak ?_;refine Ax h fun a4 z h=>?_;refine AF rfl rfl b (GY _ _ (As hH b) z) fun a5 au aa ak=>Aj 0 rfl rfl rfl AR aa rfl rfl (AH rfl (AH rfl Cj)) fun a6 k al=>Ac<|Ay<|Av ?_
  cases h
  refine BB rfl (.cell rfl Abs rfl AR (AT (i:=0) k rfl)) ?_;exact⟨k.ext,rfl⟩
 refine Au<|Ao<|Ak<|Ae (AZ rfl (fun _=>BY _)) rfl<|Aj 0 rfl rfl rfl AR b rfl rfl (AH rfl (AH rfl Cj)) fun a7 l am=>Ac<|Ay ?_
 cases h
 refine BB rfl (.cell rfl Abs rfl AR (AT (i:=0) l rfl)) ?_;exact⟨l.ext,rfl⟩
end Go.Proofs.YtekmbcbgknmhiaaGreatDoor
end
noncomputable section
namespace Go.Proofs.YtekmbcbgknmhiaaGreatDoor
open Go Go.L
theorem MR(x y z:Int):E2 x y z=some (decide (y≤x∧x≤z)):=rfl
theorem TI{a:List UInt8}{i:Nat}(k:Nat){z:Int}(hz:z=((i+k:Nat):Int)):((a.getD z.toNat default).toNat:Int)=((bt (a.drop i) k:Nat):Int):=by
 subst hz;rw [Aaq,Int.toNat_natCast]
 rfl
theorem KJ{a:List UInt8}(hs:a.length≤1000000000000){i k:Nat}(n:Nat)(p:Nat)(hp:p≤1000000000)(hk:k<n)(_h4:n≤4)(hlen:i+n≤a.length):
  H7 a (i:Int) (n:Int) ((p:Int),(k:Int))=if cont (a.drop i) k then some (.inl (((p * 64+(bt (a.drop i) k - 128):Nat):Int),((k+1:Nat):Int))) else some (.inr 0):=by
 unfold H7;have hb:bt (a.drop i) k<256:=UInt8.toNat_lt _;have hg:=TI (a:=a) (i:=i) k (z:=(i:Int)+(k:Int)) (by omega);simp only;rw [if_pos (by omega),An (by constructor <;> omega),An ⟨by omega,by omega⟩,hg,MR,Option.bind_some]
 have hc:cont (a.drop i) k=decide ((128:Int)≤((bt (a.drop i) k:Nat):Int)∧((bt (a.drop i) k:Nat):Int)≤191):=by
  unfold cont;rw [List.length_drop]
  congr 1
  apply propext
  constructor
  ·rintro⟨_,h2,h3⟩;exact⟨by omega,by omega⟩
  ·rintro⟨h2,h3⟩;exact⟨by omega,by omega,by omega⟩
 rw [hc]
 by_cases h:(128:Int)≤((bt (a.drop i) k:Nat):Int)∧((bt (a.drop i) k:Nat):Int)≤191
 ·rw [decide_eq_true h,if_neg (by decide),if_pos rfl,An (by constructor <;> omega),An (by constructor <;> omega),An (by constructor <;> omega),An (by constructor <;> omega)]
  congr 3
  ·omega
 ·rw [decide_eq_false h,if_pos (by decide),if_neg (by decide)]
  rfl
theorem PO{a:List UInt8}{i:Nat}(n:Nat)(p:Nat):H7 a (i:Int) (n:Int) ((p:Int),(n:Int))=(Iz (n:Int) (p:Int)).map Sum.inr:=by
 unfold H7;simp only;rw [if_neg (by omega)]
theorem size_eq{a:List UInt8}(hs:a.length≤1000000000000){i:Nat}(hi:i<a.length):Oa a (i:Int)=some ((Sf (a.drop i):Nat):Int):=by
 have o:bt (a.drop i) 0<256:=UInt8.toNat_lt _;have hg:=TI (a:=a) (i:=i) 0 (z:=(i:Int)) (by omega);have k3z:∀ s,Gl a (i:Int) 0 s=some 0:=fun s=>by unfold Gl;rw [if_pos rfl]
 -- the loop for n bytes
 have hc:∀ k,cont (a.drop i) k=true→i+k<a.length:=fun k h=>by
  have:=(of_decide_eq_true h).1;rw [List.length_drop] at this;omega
 unfold Oa;rw [An ⟨by omega,by omega⟩,hg,MR,Option.bind_some];unfold Sf
 by_cases hA:194≤bt (a.drop i) 0∧bt (a.drop i) 0≤223
 ·rw [decide_eq_true ⟨by omega,by omega⟩,if_pos rfl,An (by constructor <;> omega),if_pos hA];unfold J6 I0 Gl;rw [hg,MR,Option.bind_some,decide_eq_false (by omega),if_neg (by decide),MR,Option.bind_some,decide_eq_false (by omega),if_neg (by decide),if_neg (by decide),An (by constructor <;> omega)]
  by_cases h2:i+2≤a.length
  ·rw [if_neg (by omega)];have e:((bt (a.drop i) 0:Nat):Int) - 192=((bt (a.drop i) 0 - 192:Nat):Int):=by omega
   rw [e];unfold KE;have s1:=KJ hs (i:=i) (k:=1) 2 (bt (a.drop i) 0 - 192) (by omega) (by decide) (by decide) h2
   by_cases c1:cont (a.drop i) 1=true
   ·rw [if_pos c1] at s1 ⊢;refine(BA s1).trans (Bm (m:=some 2) ((PO 2 _).trans ?_));unfold Iz;rw [if_neg (by decide),if_neg (by decide)]
    rfl
   ·rw [if_neg c1] at s1 ⊢;exact Bm (m:=some 0) s1
  ·rw [if_pos (by omega),if_neg (fun h=>by have:=hc 1 h;omega)]
   rfl
 rw [decide_eq_false (by omega),if_neg (by decide),if_neg hA];unfold J6;rw [hg,MR,Option.bind_some]
 by_cases hB:224≤bt (a.drop i) 0∧bt (a.drop i) 0≤239
 ·rw [decide_eq_true ⟨by omega,by omega⟩,if_pos rfl,An (by constructor <;> omega),if_pos hB];unfold I0 Gl;rw [hg,MR,Option.bind_some,decide_eq_false (by omega),if_neg (by decide),if_neg (by decide),An (by constructor <;> omega)]
  by_cases h2:i+3≤a.length
  ·rw [if_neg (by omega)];have e:((bt (a.drop i) 0:Nat):Int) - 224=((bt (a.drop i) 0 - 224:Nat):Int):=by omega
   rw [e];unfold KE;have g:bt (a.drop i) 1<256:=UInt8.toNat_lt _;have j:bt (a.drop i) 2<256:=UInt8.toNat_lt _;have s1:=KJ hs (i:=i) (k:=1) 3 (bt (a.drop i) 0 - 224) (by omega) (by decide) (by decide) h2;have b:=KJ hs (i:=i) (k:=2) 3 ((bt (a.drop i) 0 - 224) * 64+(bt (a.drop i) 1 - 128)) (by omega) (by decide) (by decide) h2
   by_cases c1:cont (a.drop i) 1=true
   ·rw [if_pos c1] at s1;refine(BA s1).trans ?_
    by_cases c2:cont (a.drop i) 2=true
    ·rw [if_pos c2] at b;refine(BA b).trans (Bm (m:=some _) ((PO 3 _).trans (congrArg _ ?_)));have f:((bt (a.drop i) 0 - 224) * 64+(bt (a.drop i) 1 - 128)) * 64+(bt (a.drop i) 2 - 128)=pt3 (a.drop i):=rfl;rw [f];unfold Iz;rw [if_pos (by decide)]
     by_cases c:2048≤pt3 (a.drop i)
     ·rw [if_neg (by omega),MR,Option.bind_some]
      by_cases l:55296≤pt3 (a.drop i)∧pt3 (a.drop i)≤57343
      ·rw [decide_eq_true ⟨by omega,by omega⟩,if_pos rfl,if_neg (fun h=>h.2.2.2 l)];rfl
      ·rw [decide_eq_false (by omega),if_neg (by decide),if_neg (by decide),if_pos ⟨c1,c2,c,l⟩]
     ·rw [if_pos (by omega),if_neg (fun h=>c h.2.2.1)];rfl
    ·rw [if_neg c2] at b;rw [if_neg (fun h=>c2 h.2.1)];exact Bm (m:=some 0) b
   ·rw [if_neg c1] at s1;rw [if_neg (fun h=>c1 h.1)];exact Bm (m:=some 0) s1
  ·rw [if_pos (by omega),if_neg (fun h=>by have:=hc 2 h.2.1;omega)]
   rfl
 rw [decide_eq_false (by omega),if_neg (by decide),if_neg hB];unfold I0;rw [hg,MR,Option.bind_some]
 by_cases hC:240≤bt (a.drop i) 0∧bt (a.drop i) 0≤244
 ·rw [decide_eq_true ⟨by omega,by omega⟩,if_pos rfl,An (by constructor <;> omega),if_pos hC];unfold Gl;rw [if_neg (by decide),An (by constructor <;> omega)]
  by_cases h2:i+4≤a.length
  ·rw [if_neg (by omega)];have e:((bt (a.drop i) 0:Nat):Int) - 240=((bt (a.drop i) 0 - 240:Nat):Int):=by omega
   rw [e];unfold KE;have g:bt (a.drop i) 1<256:=UInt8.toNat_lt _;have j:bt (a.drop i) 2<256:=UInt8.toNat_lt _;have p:bt (a.drop i) 3<256:=UInt8.toNat_lt _;have s1:=KJ hs (i:=i) (k:=1) 4 (bt (a.drop i) 0 - 240) (by omega) (by decide) (by decide) h2;have b:=KJ hs (i:=i) (k:=2) 4 ((bt (a.drop i) 0 - 240) * 64+(bt (a.drop i) 1 - 128)) (by omega) (by decide) (by decide) h2;have d:=KJ hs (i:=i) (k:=3) 4 (((bt (a.drop i) 0 - 240) * 64+(bt (a.drop i) 1 - 128)) * 64+(bt (a.drop i) 2 - 128)) (by omega) (by decide) (by decide) h2
   by_cases c1:cont (a.drop i) 1=true
   ·rw [if_pos c1] at s1;refine(BA s1).trans ?_
    by_cases c2:cont (a.drop i) 2=true
    ·rw [if_pos c2] at b;refine(BA b).trans ?_
     by_cases c3:cont (a.drop i) 3=true
     ·rw [if_pos c3] at d;refine(BA d).trans (Bm (m:=some _) ((PO 4 _).trans (congrArg _ ?_)));have f:(((bt (a.drop i) 0 - 240) * 64+(bt (a.drop i) 1 - 128)) * 64+(bt (a.drop i) 2 - 128)) * 64+(bt (a.drop i) 3 - 128)=pt4 (a.drop i):=rfl;rw [f];unfold Iz;rw [if_neg (by decide),if_pos (by decide),MR,Option.bind_some]
      by_cases c:65536≤pt4 (a.drop i)∧pt4 (a.drop i)≤1114111
      ·rw [decide_eq_true ⟨by omega,by omega⟩,if_neg (by decide),if_pos ⟨c1,c2,c3,c⟩]
      ·rw [decide_eq_false (by omega),if_pos (by decide),if_neg (fun h=>c h.2.2.2)];rfl
     ·rw [if_neg c3] at d;rw [if_neg (fun h=>c3 h.2.2.1)];exact Bm (m:=some 0) d
    ·rw [if_neg c2] at b;rw [if_neg (fun h=>c2 h.2.1)];exact Bm (m:=some 0) b
   ·rw [if_neg c1] at s1;rw [if_neg (fun h=>c1 h.1)];exact Bm (m:=some 0) s1
  ·rw [if_pos (by omega),if_neg (fun h=>by have:=hc 3 h.2.2.1;omega)]
   rfl
 rw [decide_eq_false (by omega),if_neg (by decide),if_neg hC,k3z]
 rfl
theorem V6{a:List UInt8}(hs:a.length≤1000000000000){i:Nat}(hi:i<a.length):Kp a (i:Int)=some ((MQ (a.drop i):Nat):Int):=by
 have hg:=TI (a:=a) (i:=i) 0 (z:=(i:Int)) (by omega);unfold Kp;rw [An ⟨by omega,by omega⟩,hg,MR,Option.bind_some];unfold MQ asc
 by_cases b:48≤bt (a.drop i) 0∧bt (a.drop i) 0≤57
 ·rw [decide_eq_true ⟨by omega,by omega⟩,if_pos rfl,if_pos (decide_eq_true (.inl b))];rfl
 rw [decide_eq_false (by omega),if_neg (by decide),MR,Option.bind_some]
 by_cases h2:97≤bt (a.drop i) 0∧bt (a.drop i) 0≤122
 ·rw [decide_eq_true ⟨by omega,by omega⟩,if_pos rfl,if_pos (decide_eq_true (.inr (.inl h2)))];rfl
 rw [decide_eq_false (by omega),if_neg (by decide),MR,Option.bind_some]
 by_cases h3:65≤bt (a.drop i) 0∧bt (a.drop i) 0≤90
 ·rw [decide_eq_true ⟨by omega,by omega⟩,if_pos rfl,if_pos (decide_eq_true (.inr (.inr h3)))];rfl
 rw [decide_eq_false (by omega),if_neg (by decide),size_eq hs hi,Option.bind_some,if_neg (fun h=>by have:=of_decide_eq_true h;omega)]
end Go.Proofs.YtekmbcbgknmhiaaGreatDoor
namespace Go.Proofs.YtekmbcbgknmhiaaGreatDoor
open Go Go.L
theorem YF{a:List UInt8}{e j:Nat}(h:e+j<a.length):((a.drop e).take (j+1)).map II=((a.drop e).take j).map II++[II (a.getD (e+j) default)]:=by
 have b:(a.drop e)[j]? = some (a.getD (e+j) default):=by
  rw [List.getElem?_drop,List.getD_eq_getElem?_getD,List.getElem?_eq_getElem h]
  rfl
 rw [List.take_add_one,b,List.map_append]
 rfl
theorem YG{a:List UInt8}(hs:a.length≤1000000000000){e n:Nat}(h:e+n≤a.length)(low:List UInt8)(hl:low.length≤e):
  LM a (e:Int) (n:Int) (low,(e:Int))=some (.inl (low++((a.drop e).take n).map II,((e+n:Nat):Int))):=by
 unfold LM
 have key:=P6 (b:=Ic a (e:Int) (n:Int)) (m:=some (.inl (low++((a.drop e).take n).map II,((e+n:Nat):Int)))) (fun j=>(low++((a.drop e).take j).map II,((e+j:Nat):Int))) n (fun j hj=>by
  unfold Ic;simp only;rw [An (by constructor <;> omega),if_pos (by omega),An ⟨by omega,by omega⟩,Int.toNat_natCast]
  have hlen:(low++((a.drop e).take j).map II).length+[II (a.getD (e+j) default)].length≤2000000000002:=by
   rw [List.length_append,List.length_map,List.length_take,List.length_drop,List.length_singleton];omega
  have hk:IJ (low++((a.drop e).take j).map II) ((e+j:Nat):Int) (II (a.getD (e+j) default))=some (.inl (low++((a.drop e).take (j+1)).map II,((e+(j+1):Nat):Int))):=by
   unfold IJ;rw [An (by constructor <;> omega),An (by constructor <;> omega),YF (by omega),List.append_assoc]
   congr 3
  rw [← hk];unfold II
  split
  ·rfl
  ·rfl) (by
  unfold Ic LL;simp only;rw [An (by constructor <;> omega),if_neg (by omega),An (by constructor <;> omega)]
  congr 3) 0 (by omega)
 simp only [List.take_zero,List.map_nil,List.append_nil,Nat.add_zero] at key;exact key
theorem TJ{a:List UInt8}{at':Nat}(h:a.length≤at')(L:List W):run (Dq a) (L,(at':Int))=some L:=by
 refine Bm (m:=some L) ?_;unfold Dq LN;simp only;rw [if_neg (by omega)]
theorem YH{a:List UInt8}(hs:a.length≤1000000000000)(L:List W){fr at':Nat}(hL:L.length≤at')(ha:at'≤a.length)(cur:List UInt8)(hfr:fr≤at')(hc:cur=[]↔fr=at'):
  IK L (fr:Int) cur (at':Int)=some (.inl (L++fin cur fr at',((at'+1:Nat):Int))):=by
 unfold IK fin
 by_cases h:fr=at'
 ·rw [if_neg (by omega),An (by constructor <;> omega),if_pos (hc.2 h),List.append_nil]
  congr 3
 ·rw [if_pos (by omega),An (by rw [List.length_singleton];constructor <;> omega),An (by constructor <;> omega),if_neg (fun e=>h (hc.1 e))]
  congr 3
theorem Aaw{a:List UInt8}(hs:a.length≤1000000000000):∀ (f at':Nat) (L:List W),a.length≤at'+f→L.length≤at'→at'≤a.length+1→
  run (Dq a) (L,(at':Int))=some (L++Uc a f at' [] at')∧
  ∀
   (cur:List UInt8) (fr:Nat),at'≤a.length→fr≤at'→cur.length≤at'→(cur=[]↔fr=at')→∃ s,run (Ez a L (fr:Int)) (cur,(at':Int))=some (.inl s)∧
   run (Dq a) s=some (L++Uc a f at' cur fr):=by
 have E:∀ (f at':Nat) (L:List W),a.length≤at'→L.length≤at'→∀ (cur:List UInt8) (fr:Nat),at'≤a.length→fr≤at'→(cur=[]↔fr=at')→∃ s,run (Ez a L (fr:Int)) (cur,(at':Int))=some (.inl s)∧
   run (Dq a) s=some (L++Uc a f at' cur fr):=by
  intro f at' L h hL cur fr hle hfr hc;refine⟨(L++fin cur fr at',((at'+1:Nat):Int)),?_,?_⟩
  ·refine Bm (m:=some (Sum.inl (L++fin cur fr at',((at'+1:Nat):Int)):WS)) ?_;unfold Ez;simp only;rw [if_neg (by omega),YH hs L hL hle cur hfr hc]
  ·rw [TJ (by omega),NZ h]
 intro f
 induction f with
 | zero=>
  intro at' L hf hL ha
  constructor
  ·rw [TJ (by omega),NZ (by omega)];unfold fin;rw [if_pos rfl,List.append_nil]
  ·intro cur fr hle hfr _ hc;exact E 0 at' L (by omega) hL cur fr hle hfr hc
 | succ f ih=>
  intro at' L hf hL ha
  have B:∀ (cur:List UInt8) (fr:Nat),at'≤a.length→fr≤at'→cur.length≤at'→(cur=[]↔fr=at')→∃ s,run (Ez a L (fr:Int)) (cur,(at':Int))=some (.inl s)∧
   run (Dq a) s=some (L++Uc a (f+1) at' cur fr):=by
   intro cur fr hle hfr hcl hc
   by_cases h:at'<a.length
   ·have hroom:=UN h;have hlow:=Wt h;have hl:=V6 hs h;unfold Uc;rw [if_pos h]
    by_cases c:MQ (a.drop at')=0
    ·rw [if_pos c];refine⟨(L++fin cur fr at',((at'+1:Nat):Int)),?_,?_⟩
     ·refine Bm (m:=some (Sum.inl (L++fin cur fr at',((at'+1:Nat):Int)):WS)) ?_;unfold Ez;simp only;rw [if_pos (by omega),hl,Option.bind_some,if_neg (by omega),YH hs L hL hle cur hfr hc]
     ·have b:=(ih (at'+1) (L++fin cur fr at') (by omega) (by rw [List.length_append];have:=Aau cur fr at';omega) (by omega)).1;rw [b,List.append_assoc]
    ·rw [if_neg c];have hne:((a.drop at').take (MQ (a.drop at'))).map II≠[]:=fun e=>by rw [e,List.length_nil] at hlow;omega
     obtain⟨s,b,h2⟩:=(ih (at'+MQ (a.drop at')) L (by omega) (by omega) (by omega)).2 (cur++((a.drop at').take (MQ (a.drop at'))).map II) fr hroom (by omega) (by rw [List.length_append,hlow];omega) ⟨fun e=>absurd (List.append_eq_nil_iff.1 e).2 hne,fun e=>by omega⟩;refine⟨s,?_,h2⟩;rw [← b];refine BA ?_;unfold Ez;simp only;rw [if_pos (by omega),hl,Option.bind_some,if_pos (by omega),Option.bind_some,YG hs hroom cur hcl]
   ·exact E (f+1) at' L (by omega) hL cur fr hle hfr hc
  refine⟨?_,B⟩
  by_cases h:at'<a.length
  ·obtain⟨s,b,h2⟩:=B [] at' (by omega) (by omega) (by simp) ⟨fun _=>rfl,fun _=>rfl⟩
   have hb:Dq a (L,(at':Int))=some (.inl s):=by
    unfold Dq;simp only;rw [if_pos (by omega)];exact b
   rw [BA hb];exact h2
  ·rw [TJ (by omega),NZ (by omega)];unfold fin;rw [if_pos rfl,List.append_nil]
theorem Xk{a:List UInt8}(hs:a.length≤1000000000000):OH a=some (wds a):=by
 have:=(Aaw hs (a.length+1) 0 [] (by omega) (by simp) (by omega)).1;rw [List.nil_append] at this;exact this
def wf(a:List UInt8):Int×Int:=if 64<a.length then(3,-1) else if(wds a).map Prod.fst=[a] then(0,0) else(6,-1)
theorem YI(a:List UInt8):HZ a=some (wf a):=by
 unfold HZ wf
 by_cases h:64<a.length
 ·rw [if_pos (by omega),if_pos h];rfl
 ·rw [if_neg (by omega),if_neg h,Xj (by omega),Option.bind_some]
  by_cases b:(wds a).map Prod.fst=[a]
  ·rw [decide_eq_true b,if_neg (by decide),if_pos b]
  ·rw [decide_eq_false b,if_pos (by decide),if_neg b];rfl
theorem TK(a:List UInt8):J7 a=some (wf a):=by
 unfold J7 wf
 by_cases h:64<a.length
 ·rw [if_pos (by omega),if_pos h];rfl
 ·rw [if_neg (by omega),if_neg h,An (by omega),Xk (by omega),Option.bind_some];generalize wds a=l
  match l with
  | []=>rw [if_neg (by simp),if_neg (by simp)];rfl
  | [x]=>
   rw [if_pos (show(([x].length:Nat):Int)=1 from rfl),An (by simp)]
   show(if x.1=a then _ else _)=_
   by_cases b:x.1=a
   ·rw [if_pos b,if_pos (by simp [b])]
   ·rw [if_neg b,if_neg (by simp [b])];rfl
  | x::y::z=>rw [if_neg (by simp;omega),if_neg (by simp)];rfl
end Go.Proofs.YtekmbcbgknmhiaaGreatDoor
end
noncomputable section
namespace Go.L
def QQ:List UInt8→List UInt8→List (List UInt8)
 | cur,[]=>[cur]
 | cur,c::s=>if c=47 then cur::QQ [] s else QQ (cur++[c]) s
theorem TL:∀ (s cur:List UInt8),QQ cur s=(cur++(QQ [] s).headD [])::(QQ [] s).tail
 | [],cur=>by simp [QQ]
 | c::s,cur=>by
  unfold QQ
  by_cases h:c=47
  ·rw [if_pos h,if_pos h];simp
  ·rw [if_neg h,if_neg h,TL s (cur++[c]),TL s ([]++[c])];simp
def Ud:List (List UInt8)→Nat
 | []=>0
 | x::l=>x.length+1+Ud l
theorem TM:∀ (s cur:List UInt8),Ud (QQ cur s)=cur.length+s.length+1
 | [],cur=>by simp [QQ,Ud]
 | c::s,cur=>by
  unfold QQ
  split
  ·unfold Ud;rw [TM s []];simp only [List.length_cons,List.length_nil];omega
  ·rw [TM s];simp only [List.length_append,List.length_cons,List.length_nil];omega
theorem RP:∀ s:List UInt8,Lib.splitK [47] 0 (s.count 47) s=QQ [] s
 | []=>rfl
 | c::s=>by
  have ih:=RP s
  have hi:Lib.index (c::s) [47]=if c==47 then 0 else if Lib.index s [47] == -1 then -1 else Lib.index s [47]+1:=by
   rw [Lib.index_one,Lib.index_one];rfl
  by_cases h:c=47
  ·subst h;rw [List.count_cons_self];unfold Lib.splitK QQ;rw [hi];simp [ih]
  ·have hb:(c==47)=false:=by simpa using h
   rw [List.count_cons_of_ne (fun e=>h e)]
   have hp:QQ [] (c::s)=([c]++(QQ [] s).headD [])::(QQ [] s).tail:=by
    conv=>lhs;unfold QQ
    rw [if_neg h,TL s ([]++[c])];rfl
   rw [hp,← ih]
   cases hk:s.count 47 with
   | zero=>rfl
   | succ k=>
    unfold Lib.splitK;rw [hi,hb]
    by_cases a:(Lib.index s [47] == -1)=true
    ·simp [a]
    ·have hge : -1≤Lib.index s [47]:=Lib.index_ge s [47];have h2:0≤Lib.index s [47]:=by have:Lib.index s [47]≠-1:=fun e=>a (by simp [e]);omega
     obtain⟨i,b⟩:=Int.eq_ofNat_of_zero_le h2;have h3:((i:Int)+1 == -1)=false:=by simp;omega
     have d:((i:Int) == -1)=false:=by simp
     rw [b] at a ⊢;simp [h3,d,show((i:Int)+1).toNat=i+1 by omega]
def sl(s:List UInt8):List (List UInt8):=if s=[] then[] else QQ [] s
theorem YJ(s:List UInt8):Ud (sl s)≤s.length+1:=by unfold sl;split;simp [Ud];rw [TM];simp
theorem TN:∀ {l:List (List UInt8)} {x:List UInt8},x∈l→x.length<Ud l
 | y::l,x,h=>by
  unfold Ud
  rcases List.mem_cons.1 h with rfl | h
  ·omega
  ·have:=TN h;omega
def Ue(c:UInt8):Bool:=decide ((97≤c.toNat∧c.toNat≤122)∨(48≤c.toNat∧c.toNat≤57)∨c.toNat=45∨c.toNat=95∨c.toNat=46)
def Xl(s:List UInt8):Bool:=decide (1≤s.length∧s.length≤32∧97≤(s.getD 0 default).toNat∧(s.getD 0 default).toNat≤122)&&s.all Ue
def wr(w:Bool):Int→List (List UInt8)→Int
 | _,[]=>-1
 | a,x::l=>if(Xl x||decide (x=[35])||(w&&(decide (x=[42])||decide (x=[42,42]))))=true then wr w (a+x.length+1) l else a
theorem drop_cons{α:Type}[Inhabited α]{l:List α}{i:Nat}(h:i<l.length):l.drop i=l.getD i default::l.drop (i+1):=by
 rw [List.drop_eq_getElem_cons h];simp [List.getD_eq_getElem?_getD,List.getElem?_eq_getElem h]
theorem UP{α:Type}[Inhabited α]{l:List α}{i:Nat}(h:i<l.length):l.getD i default∈l:=by
 rw [List.getD_eq_getElem?_getD,List.getElem?_eq_getElem h];exact List.getElem_mem h
end Go.L
namespace Go.Proofs.YtekmbcbgknmhiaaGreatDoor
open Go Go.L
theorem YK{s:List UInt8}(h:s.length<4294967281):Io s=some (sl s):=by
 unfold Io sl
 by_cases hs:s=[]
 ·rw [if_pos hs,if_pos hs]
 ·rw [if_neg hs,if_neg hs];unfold strings_Split Mb;rw [An ⟨h,rfl,rfl,rfl⟩]
  show some (pieces s)=some (QQ [] s)
  unfold pieces Lib.split;rw [Lib.count_one,RP]
theorem S0{s:List UInt8}(hs:s.length≤1000000000000):∀ (d i f:Nat) (L:List (List UInt8)),i+d=s.length→f≤i→L.length≤i→
  Go.L.run (Dn s) (L,(f:Int),(i:Int))=some (L++QQ ((s.drop f).take (i - f)) (s.drop i)):=by
 intro d
 induction d with
 | zero=>
  intro i f L hi hf hL
  have a:Dn s (L,(f:Int),(i:Int))=some (.inl (L++[(s.drop f).take (i - f)],((i+1:Nat):Int),((i+1:Nat):Int))):=by
   unfold Dn;simp only [Int.toNat_natCast];rw [if_pos (by omega),if_pos (by omega),An (by omega),An (by unfold Go.E.JE;simp;omega),An (by unfold BL;omega),An (by unfold BL;omega)]
   rfl
  rw [BA a,Bm (m:=some (L++[(s.drop f).take (i - f)]))]
  ·rw [List.drop_eq_nil_of_le (by omega:s.length≤i)];rfl
  ·unfold Dn;dsimp only;rw [if_neg (by omega)]
   rfl
 | succ d ih=>
  intro i f L hi hf hL;have hil:i<s.length:=by omega
  have hd:=drop_cons hil
  by_cases hc:s.getD i default=47
  ·have a:Dn s (L,(f:Int),(i:Int))=some (.inl (L++[(s.drop f).take (i - f)],((i+1:Nat):Int),((i+1:Nat):Int))):=by
    unfold Dn;simp only [Int.toNat_natCast];rw [if_pos (by omega),if_neg (by omega),An (by omega),if_pos (by rw [hc];rfl),An (by omega),An (by unfold Go.E.JE;simp;omega),An (by unfold BL;omega),An (by unfold BL;omega)]
    rfl
   rw [BA a,ih (i+1) (i+1) _ (by omega) (Nat.le_refl _) (by simp;omega),hd]
   conv=>rhs;unfold QQ
   rw [if_pos hc,Nat.sub_self,List.take_zero,List.append_assoc]
   rfl
  ·have a:Dn s (L,(f:Int),(i:Int))=some (.inl (L,(f:Int),((i+1:Nat):Int))):=by
    unfold Dn;simp only [Int.toNat_natCast];rw [if_pos (by omega),if_neg (by omega),An (by omega),if_neg (fun e=>hc (UInt8.toNat.inj (show(s.getD i default).toNat=47 by omega))),An (by unfold BL;omega)]
    rfl
   rw [BA a,ih (i+1) f _ (by omega) (by omega) (by omega),hd]
   conv=>rhs;unfold QQ
   rw [if_neg hc]
   congr 2
   rw [show i+1 - f=(i - f)+1 by omega,List.take_add_one,List.getElem?_drop,show f+(i - f)=i by omega,List.getElem?_eq_getElem hil];simp [List.getD_eq_getElem?_getD,List.getElem?_eq_getElem hil]
theorem Xm{s:List UInt8}(hs:s.length≤1000000000000):M6 s=some (sl s):=by
 unfold M6 sl
 split
 ·rfl
 ·have:=S0 hs s.length 0 0 [] (by omega) (Nat.le_refl _) (Nat.le_refl _);exact this
theorem V7{s:List UInt8}(hs:s.length≤1000000000000):∀ (d i:Nat),i+d=s.length→1≤i→Go.L.run (CT s) (i:Int)=some ((s.drop i).all Ue&&decide (1≤s.length∧s.length≤32)):=by
 intro d
 induction d with
 | zero=>
  intro i hi h;refine Bm ?_;unfold CT KV E2;rw [if_neg (by omega),List.drop_eq_nil_of_le (by omega:s.length≤i)];simp only [Option.bind_some,Option.map_some,List.all_nil,Bool.true_and]
  congr 2
  rw [decide_eq_decide];omega
 | succ d ih=>
  intro i hi h;have hil:i<s.length:=by omega
  rw [drop_cons hil,List.all_cons]
  have hstep:CT s (i:Int)=if Ue (s.getD i default) then some (.inl ((i+1:Nat):Int)) else some (.inr false):=by
   unfold CT E2 Ue;rw [if_pos (by omega),An (by omega),Int.toNat_natCast];have hk:BL ((i:Int)+1):=by unfold BL;omega
   have hz : ¬ ((i:Int)=0):=by omega
   simp only [Option.bind_some,An hk,if_neg hz];generalize (s.getD i default).toNat=c;have j:(decide ((97:Int)≤(c:Int)∧(c:Int)≤122))=decide (97≤c∧c≤122):=by rw [decide_eq_decide];omega
   have k:(decide ((48:Int)≤(c:Int)∧(c:Int)≤57))=decide (48≤c∧c≤57):=by rw [decide_eq_decide];omega
   rw [j,k]
   by_cases a:97≤c∧c≤122
   ·simp [a]
   ·by_cases b:48≤c∧c≤57
    ·simp [a,b]
    ·by_cases e:c=45
     ·subst e;simp
     ·by_cases f:c=95
      ·subst f;simp
      ·by_cases g:c=46
       ·subst g;simp
       ·have k3' : ¬ ((c:Int)=45):=by omega
        have k4' : ¬ ((c:Int)=95):=by omega
        have k5' : ¬ ((c:Int)=46):=by omega
        simp [a,b,e,f,g,k3',k4',k5']
  by_cases hn:Ue (s.getD i default)=true
  ·rw [if_pos hn] at hstep;rw [BA hstep,ih (i+1) (by omega) (by omega),hn,Bool.true_and]
  ·rw [if_neg hn] at hstep;have hn':Ue (s.getD i default)=false:=by simpa using hn
   rw [Bm (m:=some false) hstep,hn',Bool.false_and,Bool.false_and]
theorem Xn{s:List UInt8}(hs:s.length≤1000000000000):Lz s=some (Xl s):=by
 unfold Lz Nx
 by_cases b:s=[]
 ·subst b;refine Bm ?_
  rfl
 ·have hl:0<s.length:=List.length_pos_iff.2 b;have hd:s=s.getD 0 default::s.drop 1:=by have:=drop_cons hl;simpa using this
  by_cases hc:97≤(s.getD 0 default).toNat∧(s.getD 0 default).toNat≤122
  ·have a:CT s (0:Int)=some (.inl ((1:Nat):Int)):=by
    unfold CT E2;rw [if_pos (by omega),An (by omega)];simp only [Option.bind_some,Int.toNat_zero];have hh:(decide ((97:Int)≤((s.getD 0 default).toNat:Int)∧((s.getD 0 default).toNat:Int)≤122))=true:=by rw [decide_eq_true_eq];omega
    rw [hh,if_neg (by decide),An (by unfold BL;omega)]
    rfl
   rw [BA a,V7 hs (s.length - 1) 1 (by omega) (Nat.le_refl _)];unfold Xl;have hn:Ue (s.getD 0 default)=true:=by unfold Ue;rw [decide_eq_true_eq];exact .inl hc
   have ha:s.all Ue=(s.drop 1).all Ue:=by conv=>lhs;rw [hd,List.all_cons,hn,Bool.true_and]
   rw [ha,Bool.and_comm]
   congr 2
   rw [decide_eq_decide]
   constructor
   ·intro h;exact⟨h.1,h.2,hc.1,hc.2⟩
   ·intro h;exact⟨h.1,h.2.1⟩
  ·have a:CT s (0:Int)=some (.inr false):=by
    unfold CT E2;rw [if_pos (by omega),An (by omega)];simp only [Option.bind_some,Int.toNat_zero];have hh:(decide ((97:Int)≤((s.getD 0 default).toNat:Int)∧((s.getD 0 default).toNat:Int)≤122))=false:=by rw [decide_eq_false_iff_not];omega
    rw [hh]
    rfl
   rw [Bm (m:=some false) a];unfold Xl;rw [show(decide (1≤s.length∧s.length≤32∧97≤(s.getD 0 default).toNat∧(s.getD 0 default).toNat≤122))=false by rw [decide_eq_false_iff_not];intro h;exact hc ⟨h.2.2.1,h.2.2.2⟩]
   rfl
theorem SQ(l:List UInt8)(k:Nat):((ByteArray.mk l.toArray).get! k).toNat=(l.getD k default).toNat:=by
 simp [ByteArray.get!,List.getD_eq_getElem?_getD,getElem!_def]
 cases l[k]? <;> rfl
theorem Aax{l:List UInt8}{p:Nat}(h:(l.getD p default).toNat<128):Utf8.decode ⟨l.toArray⟩ p=((l.getD p default).toNat,1):=by
 unfold Utf8.decode;simp only [Nat.add_zero,SQ];rw [if_pos h]
theorem YL{l:List UInt8}{p:Nat}(h : ¬ (l.getD p default).toNat<128):128≤(Utf8.decode ⟨l.toArray⟩ p).1:=by
 unfold Utf8.decode;simp only [Nat.add_zero,SQ];rw [if_neg h]
 split
 ·split
  ·rename_i h2;simpa using h2
  ·decide
 ·split
  ·split
   ·rename_i h2;simp only [ge_iff_le,Bool.and_eq_true,decide_eq_true_eq] at h2;show 128≤_;omega
   ·decide
  ·split
   ·split
    ·rename_i h2;simp only [ge_iff_le,Bool.and_eq_true,decide_eq_true_eq] at h2;show 128≤_;omega
    ·decide
   ·decide
theorem YM(c:UInt8):TC c.toNat = !(Ue c):=by
 unfold TC Ue;generalize c.toNat=n;rw [Bool.eq_iff_iff];simp;omega
theorem YN{a:List UInt8}:∀ (f p:Nat),a.length≤p+f→(0≤Lib.idxFuncFrom TC true ⟨a.toArray⟩ f p↔(a.drop p).all Ue=false)
 | 0,p,h=>by
  rw [List.drop_eq_nil_of_le (by omega)];simp [Lib.idxFuncFrom]
 | f+1,p,h=>by
  have hsz:(ByteArray.mk a.toArray).size=a.length:=by simp [ByteArray.size]
  unfold Lib.idxFuncFrom;rw [hsz]
  by_cases hp:p<a.length
  ·rw [if_pos hp,drop_cons hp,List.all_cons]
   by_cases hc:(a.getD p default).toNat<128
   ·rw [Aax hc];simp only [YM]
    by_cases hn:Ue (a.getD p default)=true
    ·rw [hn,if_neg (by decide),Bool.true_and];exact YN f (p+1) (by omega)
    ·have hn':Ue (a.getD p default)=false:=by simpa using hn
     rw [hn',if_pos (by decide)];simp
   ·have hb:TC (Utf8.decode ⟨a.toArray⟩ p).1=true:=by
     have:=YL hc;unfold TC;simp;omega
    have hn:Ue (a.getD p default)=false:=by
     unfold Ue;rw [decide_eq_false_iff_not];omega
    rw [hb,if_pos rfl,hn];simp
  ·rw [if_neg hp,List.drop_eq_nil_of_le (by omega)];simp
theorem Xo(a:List UInt8):RC a=some (!(a.all Ue)):=by
 unfold RC Lib.idxFunc
 congr 1
 have:=YN (a:=a) (ByteArray.mk a.toArray).size 0 (by simp [ByteArray.size]);rw [List.drop_zero] at this;rw [Bool.eq_iff_iff,decide_eq_true_eq,this];simp
theorem Aay(s:List UInt8):Jf s=some (Xl s):=by
 unfold Jf Xl
 by_cases a:s=[]
 ·subst a;rfl
 ·have hl:0<s.length:=List.length_pos_iff.2 a;rw [if_neg a]
  by_cases b:(32:Int)<(s.length:Int)
  ·rw [if_pos b,show decide (1≤s.length∧s.length≤32∧97≤(s.getD 0 default).toNat∧(s.getD 0 default).toNat≤122)=false by rw [decide_eq_false_iff_not];omega]
   rfl
  ·rw [if_neg b,An (by omega),Int.toNat_zero]
   by_cases h2:((s.getD 0 default).toNat:Int)<97
   ·rw [if_pos h2,show decide (1≤s.length∧s.length≤32∧97≤(s.getD 0 default).toNat∧(s.getD 0 default).toNat≤122)=false by rw [decide_eq_false_iff_not];omega]
    rfl
   ·rw [if_neg h2,An (by omega)]
    by_cases h3:122<((s.getD 0 default).toNat:Int)
    ·rw [if_pos h3,show decide (1≤s.length∧s.length≤32∧97≤(s.getD 0 default).toNat∧(s.getD 0 default).toNat≤122)=false by rw [decide_eq_false_iff_not];omega]
     rfl
    ·rw [if_neg h3,Xo,show decide (1≤s.length∧s.length≤32∧97≤(s.getD 0 default).toNat∧(s.getD 0 default).toNat≤122)=true by rw [decide_eq_true_eq];omega];simp
theorem Xp{w:Bool}{l:List (List UInt8)}(hl:Ud l≤1000000000000):∀ (d i a:Nat),i+d=l.length→a+Ud (l.drop i)≤2000000000000→
  Go.L.run (F1 w l) ((a:Int),(i:Int))=some (wr w (a:Int) (l.drop i)):=by
 intro d
 induction d with
 | zero=>
  intro i a hi ha;rw [List.drop_eq_nil_of_le (by omega)];refine Bm ?_;unfold F1;dsimp only;rw [if_neg (by omega)]
  rfl
 | succ d ih=>
  intro i a hi ha;have hil:i<l.length:=by omega
  have hlt:l.length≤1000000000000:=by
   have:∀ m:List (List UInt8),m.length≤Ud m:=fun m=>by
    induction m with
    | nil=>exact Nat.zero_le _
    | cons x m ih=>simp only [List.length_cons,Ud];omega
   exact Nat.le_trans (this l) hl
  have hx:=TN (UP hil);rw [drop_cons hil] at ha ⊢;unfold wr;unfold Ud at ha;generalize hX:l.getD i default=x at *;have c:BL ((a:Int)+(x.length:Int)):=by unfold BL;omega
  have e:BL ((a:Int)+(x.length:Int)+1):=by unfold BL;omega
  have f:BL ((i:Int)+1):=by unfold BL;omega
  have b:0≤(i:Int)∧(i:Int)<(l.length:Int):=by omega
  have hgo:Go.L.run (F1 w l) ((a:Int)+(x.length:Int)+1,(i:Int)+1)=some (wr w ((a:Int)+(x.length:Int)+1) (l.drop (i+1))):=by
   have:=ih (i+1) (a+x.length+1) (by omega) (by omega)
   simpa using this
  have hb:F1 w l ((a:Int),(i:Int))=if(Xl x||decide (x=[35])||(w&&(decide (x=[42])||decide (x=[42,42]))))=true then some (.inl ((a:Int)+(x.length:Int)+1,(i:Int)+1)) else some (.inr (a:Int)):=by
   unfold F1;simp only [Int.toNat_natCast,hX];rw [if_pos (by omega),An b,Xn (by omega)];simp only [Option.bind_some,An b,An c,An e,An f]
   cases hn:Xl x <;> by_cases g:x=[35] <;> cases w <;> by_cases h2:x=[42] <;> by_cases h3:x=[42,42] <;> simp_all
  by_cases hc:(Xl x||decide (x=[35])||(w&&(decide (x=[42])||decide (x=[42,42]))))=true
  ·rw [if_pos hc] at hb ⊢;rw [BA hb,hgo]
  ·rw [if_neg hc] at hb ⊢;exact Bm (m:=some (a:Int)) hb
theorem YO{s:List UInt8}(hs:s.length≤100000000000)(w:Bool):KW s w=some (wr w 0 (sl s)):=by
 unfold KW;rw [Xm (by omega),Option.bind_some];have a:=YJ s;have:=Xp (w:=w) (l:=sl s) (by omega) (sl s).length 0 0 (by omega) (by simp;omega);rw [List.drop_zero] at this;exact this
def pf(s:List UInt8):Int×Int:=if 64<s.length then(3,-1) else if 0≤wr true 0 (sl s) then(1,wr true 0 (sl s)) else(0,0)
theorem Xq(s:List UInt8):HG s=some (pf s):=by
 unfold HG pf
 by_cases h:64<s.length
 ·rw [if_pos (by omega),if_pos h];rfl
 ·rw [if_neg (by omega),if_neg h,YO (by omega)];simp only [Option.bind_some]
  split <;> rfl
theorem Xr{l:List (List UInt8)}(hl:Ud l≤1000000000000):∀ (d i a:Nat),i+d=l.length→a+Ud (l.drop i)≤2000000000000→
  Go.L.run (CY l) ((a:Int),(i:Int))=some (if 0≤wr true (a:Int) (l.drop i) then(1,wr true (a:Int) (l.drop i)) else(0,0)):=by
 intro d
 induction d with
 | zero=>
  intro i a hi ha;rw [List.drop_eq_nil_of_le (by omega)];refine Bm ?_;unfold CY;dsimp only;rw [if_neg (by omega)]
  rfl
 | succ d ih=>
  intro i a hi ha;have hil:i<l.length:=by omega
  have hlt:l.length≤1000000000000:=by
   have:∀ m:List (List UInt8),m.length≤Ud m:=fun m=>by
    induction m with
    | nil=>exact Nat.zero_le _
    | cons x m ih=>simp only [List.length_cons,Ud];omega
   exact Nat.le_trans (this l) hl
  have hx:=TN (UP hil);rw [drop_cons hil] at ha ⊢;unfold wr;unfold Ud at ha;generalize hX:l.getD i default=x at *;have b:BL ((x.length:Int)+1):=by unfold BL;omega
  have c:BL ((a:Int)+((x.length:Int)+1)):=by unfold BL;omega
  have e:BL ((i:Int)+1):=by unfold BL;omega
  have f:0≤(i:Int)∧(i:Int)<(l.length:Int):=by omega
  have hgo:Go.L.run (CY l) ((a:Int)+((x.length:Int)+1),(i:Int)+1)=some (if 0≤wr true ((a:Int)+(x.length:Int)+1) (l.drop (i+1)) then(1,wr true ((a:Int)+(x.length:Int)+1) (l.drop (i+1))) else(0,0)):=by
   have:=ih (i+1) (a+x.length+1) (by omega) (by omega);rw [show((a:Int)+((x.length:Int)+1))=((a+x.length+1:Nat):Int) by omega,show((a:Int)+(x.length:Int)+1)=((a+x.length+1:Nat):Int) by omega];exact this
  have hb:CY l ((a:Int),(i:Int))=if(Xl x||decide (x=[35])||(true&&(decide (x=[42])||decide (x=[42,42]))))=true then some (.inl ((a:Int)+((x.length:Int)+1),(i:Int)+1)) else some (.inr (1,(a:Int))):=by
   unfold CY;simp only [Int.toNat_natCast,hX];rw [if_pos (by omega),An f,Aay];simp only [Option.bind_some,An b,An c,An e]
   cases hn:Xl x <;> by_cases g:x=[35] <;> by_cases h2:x=[42] <;> by_cases h3:x=[42,42] <;> simp_all [Im]
  by_cases hc:(Xl x||decide (x=[35])||(true&&(decide (x=[42])||decide (x=[42,42]))))=true
  ·rw [if_pos hc] at hb ⊢;rw [BA hb,hgo]
  ·rw [if_neg hc] at hb ⊢;rw [if_pos (by omega)];exact Bm (m:=some (1,(a:Int))) hb
theorem Xs(s:List UInt8):Ip s=some (pf s):=by
 unfold Ip pf
 by_cases h:64<s.length
 ·rw [if_pos (by omega),if_pos h];rfl
 ·rw [if_neg (by omega),if_neg h,YK (by omega),Option.bind_some];have a:=YJ s;have:=Xr (l:=sl s) (by omega) (sl s).length 0 0 (by omega) (by simp;omega);rw [List.drop_zero] at this;exact this
end Go.Proofs.YtekmbcbgknmhiaaGreatDoor
end
noncomputable section
namespace Go.L
def iota(n:Nat):List Int:=(List.range n).map fun i:Nat=>(i:Int)
theorem Kq(n:Nat):(iota n).length=n:=by simp [iota]
def O2(n:Nat):List (Fin (n+1)):=(List.range n).map fun i=>Fin.ofNat (n+1) i
theorem Xt(n:Nat):(O2 n).map (fun x=>(x.val:Int))=iota n:=by
 unfold O2 iota;rw [List.map_map];apply List.map_congr_left;intro i hi;have:=List.mem_range.1 hi
 show((i % (n+1):Nat):Int)=(i:Int)
 rw [Nat.mod_eq_of_lt (by omega)]
def Lj(a:List UInt8)(x y:Fin (a.length+1)):Int:=Lib.compareBytes (a.drop x.val) (a.drop y.val)
def YP(a:List UInt8):List (Fin (a.length+1)):=(O2 a.length).mergeSort fun x y=>!(Go.Proofs.ltOf (Lj a)) y x
def JA(a:List UInt8):List Int:=(YP a).map fun x=>(x.val:Int)
theorem Aaz{α:Type}(f:α→List UInt8):Go.Sort.SWO (Go.Proofs.ltOf fun x y=>Lib.compareBytes (f x) (f y)):=by
 constructor
 ·intro x;simp [Go.Proofs.ltOf,UD]
 ·intro x y z a h2;unfold Go.Proofs.ltOf at *;simp only [decide_eq_true_eq] at *;exact Mj _ _ _ a h2
 ·intro x y z a h2;unfold Go.Proofs.ltOf at *;simp only [decide_eq_false_iff_not] at *;intro h3;have s1:=La (f x) (f y);have b:=La (f y) (f z)
  rcases Int.lt_trichotomy (Lib.compareBytes (f y) (f x)) 0 with h | h | h
  ·have:=Mj _ _ _ h h3;omega
  ·rw [N6 _ _ h] at h2;omega
  ·omega
theorem Pk(a:List UInt8)(x y:Fin (a.length+1))(b:Go.Proofs.ltOf (Lj a) x y=false)(h2:Go.Proofs.ltOf (Lj a) y x=false):x=y:=by
 unfold Go.Proofs.ltOf at b h2;simp only [decide_eq_false_iff_not] at b h2;have s:=La (a.drop x.val) (a.drop y.val);unfold Lj at b h2;have:=N6 _ _ (show Lib.compareBytes (a.drop x.val) (a.drop y.val)=0 by omega);have hl:(a.drop x.val).length=(a.drop y.val).length:=by rw [this]
 simp only [List.length_drop] at hl;have:=x.isLt;have:=y.isLt;exact Fin.ext (by omega)
end Go.L
end
noncomputable section
namespace Go.Proofs.YtekmbcbgknmhiaaGreatDoor
open Go Go.E Go.RowKit Go.Sort Go.Shelf
theorem S1(a b:List UInt8):LJ a b=some (Lib.compareBytes a b):=rfl
theorem Acx{O:List BG}{i b:Nat}{cs:List Value}{t:TypeId}(h:D8 O i=some (.box b cs t)):BG.box b cs t∈O:=(Dy h).mem_iff.2 (.head _)
theorem Xu{n:Sz}{ops:Array Oper}{Q:Exit→Act→World→Prop}{L:Env}{w f:World}{O:List BG}{rest:List Oper}{d:Nat}{ty:TypeId}{pos:String}{af:Array Edge}{v tv:Value}{H:PH}{i b:Nat}{xs:List Value}{a:List UInt8}{args:List Operand}{at_:Array TypeId}
  (ha:OL L args=some [v,.func (.func 174) #[] #[.pointer (some ⟨b,0,none⟩)]]) (hn:Nat.blt d n.n=true) (hH:Le H (hp f)) (hL:AO f O w) (hi:D8 O i=some (.row v 3 1 (Go.L.iota a.length).length xs)) (he:AJ (.int .i64) (gz H f w O) (Go.L.iota a.length) xs) (htx:AI .byte (gz H f w O) tv a) (hbox:BG.box b [tv] 23∈O) (hl:a.length<4611686018427387904)
  (h:∀ w' xs',AO f (Dc O i (.row v 3 1 (Go.L.JA a).length xs')) w'→Le (fz w O) (fz w' (Dc O i (.row v 3 1 (Go.L.JA a).length xs')))→AJ (.int .i64) (gz H f w' (Dc O i (.row v 3 1 (Go.L.JA a).length xs'))) (Go.L.JA a) xs'→S Tryz.prog n ops Q rest ((d,.tuple #[])::L) w') :
  S Tryz.prog n ops Q (⟨some d,.call ⟨.value (.func 173),args.toArray,at_⟩,ty,pos,af,none⟩::rest) L w:=by
 have hxs:xs=(Go.L.O2 a.length).map (fun x:Fin (a.length+1)=>Value.int .i64 (x.val:Int)):=by
  rw [← RF he,← Go.L.Xt,List.map_map];rfl
 have hfl:(Go.L.O2 a.length).length=a.length:=by simp [Go.L.O2]
 have hll:(Go.L.JA a).length=(Go.L.iota a.length).length:=by
  unfold Go.L.JA Go.L.YP;rw [List.length_map,List.length_mergeSort,hfl,Go.L.Kq]
 have hys:(Go.L.JA a).map (Value.int .i64)=(Go.L.YP a).map (fun x:Fin (a.length+1)=>Value.int .i64 (x.val:Int)):=by
  unfold Go.L.JA;rw [List.map_map];rfl
 refine RE (l':=Go.L.JA a) (enc:=fun x:Fin (a.length+1)=>Value.int .i64 (x.val:Int)) (dd:=(Go.L.YP a).toArray) (ys:=(Go.L.JA a).map (Value.int .i64)) ⟨Tryz.f173,_,Tryz.func173,rfl,rfl⟩ ha hn hL hi (by rw [hys]) hll (by rw [hxs];simp [hll,hfl,Go.L.Kq]) (fun l=>?_) (fun hv=>?_) (fun g cap hv hcap=>?_) (fun w' p h2=>h w' _ p h2 (Pc _ _))
 ·have p:(Go.L.JA a).length=0:=by rw [hll];exact l
  have h2:xs.length=0:=by rw [hxs,List.length_map,hfl];rw [Go.L.Kq] at l;exact l
  rw [List.eq_nil_of_length_eq_zero p,List.eq_nil_of_length_eq_zero h2];rfl
 ·subst hv;exact AnyF.slices_SortFunc_none Tryz.Abf none 0 _ w
 ·have hown:w.ownsRow 0 3 1 v (Go.L.iota a.length).length xs:=hL.at hi;rw [hv] at hown;obtain⟨hhk,hblk⟩:=NY (enc:=fun x:Fin (a.length+1)=>Value.int .i64 (x.val:Int)) (d:=(Go.L.O2 a.length).toArray) hown (by simpa using hxs.symm);have hsz:(Go.L.iota a.length).length=(Go.L.O2 a.length).toArray.size:=by rw [Go.L.Kq];simp [hfl]
  have hgo:∀ j x,BG.row v 3 1 j x∈O→True:=fun _ _ _=>trivial;subst hv;have hs:=Any.slices_SortFunc_total (P:=Tryz.prog) Tryz.AbY (fun x:Fin (a.length+1)=>Value.int .i64 (x.val:Int)) (fun _=>rfl) (Go.L.Lj a) (Go.L.Aaz _) 174 #[.pointer (some ⟨b,0,none⟩)] g 0 cap (Go.L.O2 a.length).toArray w (enters_of Tryz.func174 (by kernel_rfl) rfl) ?_ hhk hblk (by rw [← hsz,Go.L.Kq];exact hl) (Go.L.Pk a)
  ·rw [← hsz] at hs;exact hs.mono fun e w' ⟨he,m,os,hw⟩=>⟨he,m,os,hw⟩
  ·intro m os dk hs x y;have hx:=x.isLt;have hy:=y.isLt
   have hr:KU (x.val:Int) (y.val:Int) a=some (Go.L.Lj a x y):=by
    unfold KU;rw [Go.L.An (by omega),Go.L.An (by omega),Int.toNat_natCast,Int.toNat_natCast,S1]
    rfl
   have hne:∀ c,(∃ cs t,BG.box c cs t∈O)→c≠g:=fun c ⟨cs,t,hc⟩ e=>by
    subst e;have hd:=List.pairwise_cons.1 (hL.perm (Dy hi).symm).Zu
    have hm:BG.box c cs t∈KK O i:=by
     rcases List.mem_cons.1 ((Dy hi).mem_iff.1 hc) with h | h
     ·cases h
     ·exact h
    exact hd.1 _ hm c rfl rfl
   have hkeep:∀ k o,w.heap[k]? = some o→k≠g→(sortWorld (fun x:Fin (a.length+1)=>Value.int .i64 (x.val:Int)) w g 0 m dk os).heap[k]? = some o:=fun k o hk hkg=>by
    rw [KZ _ w g m dk os k (lt_of_heap hk),if_neg hkg];exact hk
   have hle:Le (fz w O) (hp (sortWorld (fun x:Fin (a.length+1)=>Value.int .i64 (x.val:Int)) w g 0 m dk os)):=fun c o hc=>by
    refine hkeep c o (VM w O c o hc) fun e=>?_;subst e;have hown:owned O c=true:=CW.2 ⟨_,(Dy hi).mem_iff.2 (.head _),rfl⟩;unfold fz at hc;rw [if_pos hown] at hc
    cases hc
   have hbx:GS (hp (sortWorld (fun x:Fin (a.length+1)=>Value.int .i64 (x.val:Int)) w g 0 m dk os)) ⟨b,0,none⟩ [tv]:=by
    have hok:w.heap[b]? = some (.cells #[tv] 23 (0,0)):=hL.res _ hbox;have hh:=hkeep b _ hok (hne b ⟨_,_,hbox⟩);refine⟨rfl,fun j u hu=>?_⟩;simp only [Addr.add_lit,Nat.zero_add,Gu,hp,hh]
    simpa using hu
   have hk:=@OX ⟨true⟩ (sortWorld (fun x:Fin (a.length+1)=>Value.int .i64 (x.val:Int)) w g 0 m dk os) (hp _) (Le.refl _) _ _ _ _ _ (htx.mono ((XL hH hL).trans hle)) hbx _ hr;refine hk.2.mono fun en w' ⟨u,he,hx,hu⟩=>?_;subst he;subst hu;obtain⟨q,os',hw⟩:=@UC ⟨true⟩ _ _ rfl hx;exact⟨rfl,q,os',hw⟩
end Go.Proofs.YtekmbcbgknmhiaaGreatDoor
end
noncomputable section
namespace Go.Proofs.YtekmbcbgknmhiaaGreatDoor
open Go Go.E Go.RowKit Go.L
set_option maxHeartbeats 1000000
set_option maxRecDepth 10000
open _root_.Go.Proofs.Tryz
def Hw(a0:AaK)(a:List Int):Option ((List Int)):=
 AU (a=Go.L.iota a0.length∧a0.length<4611686018427387904) (some ((JA a0)))
def I1(a0:AaK):(List Int)×Int→Option (((List Int)×Int) ⊕ ((List Int))):=fun⟨b,a⟩=>
 if a<((List.replicate (a0.length:Int).toNat (0:Int)).length:Int) then AU (0≤a∧a<(b.length:Int)) (AU (BL (a+(1:Int))) (some (Sum.inl ((b.set a.toNat a),(a+(1:Int)))))) else Option.map Sum.inr ((Hw a0) b)
def Kx(a0:AaK)(s:(List Int)×Int):Option ((List Int)):=Go.L.run (I1 a0) s
def KF(a0:AaK):Option ((List Int)):=
 AU (0≤(a0.length:Int)∧((8:Nat):Int) * (a0.length:Int)≤281474976710656∧(a0.length:Int)≤9223372036854775807) ((Kx a0) ((List.replicate (a0.length:Int).toNat (0:Int)),(0:Int)))
theorem QB(w:World)(H:PH)(hH:Le H (hp w)){a0:AaK}{f:Value}(k:AI .byte H f (a0)){r:(List Int)}(h:KF a0=some r):
  Ok Tryz.prog 123 [f] w (fun v w'=>Ext w w'∧∃ u0,v=u0∧C2 3 (.int .i64) H w w' u0 (r)):=by
 refine A4 (n:=22) [(0,f)] func123 rfl rfl rfl rfl rfl ?_;have hL:=AO.start w;refine Ak<|Tt (t:=23) rfl k.one rfl hL fun w1 y ab av _=>AA 1 rfl<|Ak<|Ae (Ag 0 rfl Abe rfl ab rfl rfl) rfl<|Ae (Bo rfl Abe k) rfl ?_;refine Az h fun ao h=>?_;refine Tq (r:=(.int .i64)) (z:=(0:Int)) rfl rfl rfl AaR Cc rfl (fun _=>rfl) rfl hH ab ao fun v2 w2 ap ac aw aq=>AA 1 rfl<|Bn (σ:=(List Int)×(List Value)) (fun⟨g,e⟩=>[(1,(AaH y)),(3,v2)]) (fun⟨g,e⟩ wr=>DZ w [.row (v2) 3 1 (g).length (e),.box y [f] 23] wr fun Oz=>AJ (.int .i64) (gz H w wr Oz) (g) (e)∧(Hw a0) g=some r) ?_ ?_
 ·refine Bk 1 rfl<|Ae (P4 (i:=0) rfl AaR ac rfl) rfl<|AA 1 rfl<|A2 ?_;obtain⟨q,h⟩:=AY h;refine Bw (σ:=(List Int)×Int×(List Value)×Nat) (fun⟨d,b,c,n⟩=>[(1,(AaH y)),(3,v2),(9,No ((List.replicate (a0.length:Int).toNat (0:Int)).length:Int)),(10,No b)]) (fun⟨d,b,c,n⟩ wr=>DZ w [.row (v2) 3 1 (d).length (c),.box y [f] 23] wr fun Oz=>AJ (.int .i64) (gz H w wr Oz) (d) (c)∧FT (I1 a0) n (d,b)=some r) (fun⟨d,b,c,n⟩=>n) ((List.replicate (a0.length:Int).toNat (0:Int)),(0:Int),ap,q) (Sub.of rfl) ⟨ac,aq,h⟩ ?_;rintro⟨d,b,c,nn36⟩ ax ⟨l,o,h⟩;obtain⟨q,a1,rfl,h,s⟩:=AX h;refine A9 1 rfl<|A7<|AM rfl h (fun ad h=>?_) (fun ad h=>?_)
  ·refine Au<|Ao<|A7<|A2<|A9 2 rfl<|Ar<|Aq 3 rfl ?_;refine Az h fun m h=>?_;refine KM 0 rfl rfl AaR Cc l rfl b.toNat (EM m) (AW m) rfl fun a2 ae=>KO (z:=b) (j:=b.toNat) 0 rfl rfl rfl Cc hH l rfl o ae rfl (AW m) rfl fun a3 af ag ar ah=>AL<|A8<|Ao<|Ar ?_;refine Az h fun ai h=>?_;refine Ae (AK rfl rfl rfl ai) rfl<|Aq 1 rfl<|AL ?_;have h:=BV.again h s;refine AN ((d.set b.toNat b),(b+(1:Int)),af,q) (Sub.of rfl) ⟨ag,ah,h⟩ (Nat.lt_succ_self _)
  refine Br<|AD<|A5 ?_;have h:=BV.out h s;refine Bd<|A6 (d,c) (Sub.of rfl) ⟨l,o,h⟩
 rintro⟨g,e⟩ ay ⟨u,p,h⟩;refine Bk 2 rfl ?_;refine Az h fun aj h=>?_;obtain⟨ak,al⟩:=aj;rw [ak] at u p;refine Xu (i:=0) (a:=a0) rfl rfl hH u rfl p (k.mono (Ah hH)) (Acx (i:=1) rfl) al fun a4 az x au am=>Ac<|A9 2 rfl<|Ay ?_
 cases h
 refine Am rfl rfl ?_;exact⟨x.ext,_,rfl,(x.GQ hH (i:=0) rfl am)⟩
def KG(a0:AaK):Option ((List Int)×(Int×Int)):=
 if(2048:Int)<(a0.length:Int) then none else Option.bind (KF a0) (fun a=>some (a,((0:Int),(0:Int))))
theorem QC(w:World)(H:PH)(hH:Le H (hp w)){a0:AaK}{a:Value}(b:AI .byte H a (a0)){r:(List Int)×(Int×Int)}(h:KG a0=some r):
  Ok Tryz.prog 74 [a] w (fun v w'=>Ext w w'∧∃ l,v=.tuple #[l,.agg #[No r.2.1,No r.2.2]]∧C2 3 (.int .i64) H w w' l (r.1)):=by
 refine A4 (n:=11) [(0,a)] func74 rfl rfl rfl rfl rfl ?_;have hL:=AO.start w;refine Bk 1 rfl<|AG AR rfl rfl hL fun u x c q _=>Ac<|A7<|Bk 1 rfl<|Ae (Bo rfl Abe b) rfl<|AA 1 rfl<|AM rfl h (fun m h=>?_) (fun m h=>?_)
 ·cases h
 refine Au<|Ao<|Bk 1 rfl ?_;refine Ax h fun y o h=>?_;refine Bs rfl rfl c (QB _ _ (As hH c) (b.mono (Ah hH)) o) ?_;rintro s z ⟨_,rfl,f⟩ p g j;obtain⟨t,g,j,d⟩:=f.take hH c p;refine Ae (AZ rfl (fun _=>BY _)) rfl<|Aq 1 rfl<|Aj 1 rfl rfl rfl AR g rfl rfl (AH rfl (AH rfl Cj)) fun w7 e k=>Ac<|Ay ?_
 cases h
 refine C9 rfl (.tmp rfl) (.cell rfl Abs rfl AR (AT (i:=1) e rfl)) ?_;have d:=d.mono (Ab hH k);exact⟨e.ext,_,rfl,(e.GQ hH (i:=0) rfl d)⟩
def Fe(a0:(List Int)):Option (Int):=
 some ((max (a0.length:Int) (1:Int)))
theorem Lu(w:World)(H:PH)(_hH:Le H (hp w)){a0:(List Int)}{a:Value}(c:AI (.int .i64) H a (a0)){r:Int}(h:Fe a0=some r):
  Ok Tryz.prog 97 [.agg #[a]] w (fun v w'=>Ext w w'∧v=No r):=by
 refine A4 (n:=7) [(0,.agg #[a])] func97 rfl rfl rfl rfl rfl ?_;have hL:=AO.start w;refine Ak<|CK (t:=96) rfl rfl rfl hL fun e f b d _=>AA 1 rfl<|Ak<|Ae (Af rfl Adc rfl Sn (by decide)) rfl<|Ae (Ag 0 rfl AaR rfl b rfl rfl) rfl<|Ae (Bo rfl AaR c) rfl<|Ae (Ach rfl rfl) rfl<|AA 1 rfl<|Ay ?_
 cases h
 refine Am rfl rfl ?_;exact⟨b.ext,rfl⟩
def CR(a0:((List Int))×(List Int)×(List Int)):Option (Int):=
 Option.bind (Fe a0.1) (fun a=>AU (BL (a - (1:Int))) (some ((a - (1:Int)))))
theorem EB(w:World)(H:PH)(hH:Le H (hp w)){a0:((List Int))×(List Int)×(List Int)}{a:Value}{b:Value}{c:Value}(e:AI (.int .i64) H a (a0.1))(_h0_1:AI (.int .i64) H b (a0.2.1))(_h0_2:AI (.int .i64) H c (a0.2.2)){r:Int}(h:CR a0=some r):
  Ok Tryz.prog 59 [.agg #[a,b,c]] w (fun v w'=>Ext w w'∧v=No r):=by
 refine A4 (n:=7) [(0,.agg #[a,b,c])] func59 rfl rfl rfl rfl rfl ?_;have hL:=AO.start w;refine Ak<|CK (t:=98) rfl rfl rfl hL fun m o d j _=>AA 1 rfl<|Ak<|Ae (Af rfl Ade rfl Ab5 (by decide)) rfl<|Ae (Rl 0 1 rfl Adc rfl Ab5 d rfl rfl) rfl ?_;refine Ax h fun p f h=>?_;refine AF rfl rfl d (Lu (a0:=a0.1) _ _ (As hH d) (e.mono (Ah hH)) f) ?_;intro q l g k;refine Az h fun i h=>?_;refine Ae (AK rfl rfl rfl i) rfl<|AA 1 rfl<|Ay ?_
 cases h
 refine Am rfl rfl ?_;exact⟨g.ext,rfl⟩
def FL(a:AaK):Option (AaK):=
 some (a)
def Ff(a0:((List Int))×(List Int)×(List Int)):AaK×Int×Int→Option ((AaK×Int×Int) ⊕ (AaK)):=fun⟨c,a,b⟩=>
 if(0:Int)≤b then AU (0≤a∧a<(a0.1.length:Int)) (AU (0≤b∧b<(c.length:Int)) (AU (0≤a∧a<(a0.2.1.length:Int)) (AU (BL (b - (1:Int))) (some (Sum.inl ((c.set b.toNat (Go.L.u8 (a0.1.getD a.toNat default))),a0.2.1.getD a.toNat default,(b - (1:Int)))))))) else Option.map Sum.inr (FL c)
def HB(a0:((List Int))×(List Int)×(List Int))(s:AaK×Int×Int):Option (AaK):=Go.L.run (Ff a0) s
def Hg(a0:((List Int))×(List Int)×(List Int)):Option (AaK):=
 Option.bind (CR (a0.1,a0.2.1,a0.2.2)) (fun a=>AU (0≤a∧((1:Nat):Int) * a≤281474976710656∧a≤9223372036854775807) (AU (BL (((List.replicate a.toNat (0:UInt8)).length:Int) - (1:Int))) ((HB a0) ((List.replicate a.toNat (0:UInt8)),(0:Int),(((List.replicate a.toNat (0:UInt8)).length:Int) - (1:Int))))))
theorem MZ(w:World)(H:PH)(hH:Le H (hp w)){a0:((List Int))×(List Int)×(List Int)}{f:Value}{g:Value}{k:Value}(s:AI (.int .i64) H f (a0.1))(u:AI (.int .i64) H g (a0.2.1))(ah:AI (.int .i64) H k (a0.2.2)){r:AaK}(h:Hg a0=some r):
  Ok Tryz.prog 100 [.agg #[f,g,k]] w (fun v w'=>Ext w w'∧∃ u0,v=u0∧C2 5 .byte H w w' u0 (r)):=by
 refine A4 (n:=32) [(0,.agg #[f,g,k])] func100 rfl rfl rfl rfl rfl ?_;have hL:=AO.start w;refine Ak<|CK (t:=98) rfl rfl rfl hL fun w1 b1 x a2 _=>AA 1 rfl<|Ak<|Ae (AE 0 rfl Ade rfl FY x rfl) rfl ?_;refine Ax h fun x2 av h=>?_;refine AF rfl rfl x (EB (a0:=(a0.1,a0.2.1,a0.2.2)) _ _ (As hH x) (s.mono (Ah hH)) (u.mono (Ah hH)) (ah.mono (Ah hH)) av) ?_;intro w3 a7 aw a3;refine Az h fun ax h=>?_;refine Tq (r:=.byte) (z:=(0:UInt8)) rfl rfl rfl Abe Lo rfl (fun _=>rfl) rfl hH aw ax fun v4 w4 ay ag a4 az=>AA 1 rfl<|A9 1 rfl<|Bn (σ:=AaK×(List Value)) (fun⟨m,e⟩=>[(3,v4)]) (fun⟨m,e⟩ wr=>DZ w [.row (v4) 5 1 (m).length (e),.box b1 [f,g,k] 98] wr fun Oz=>AJ .byte (gz H w wr Oz) (m) (e)∧FL m=some r) ?_ ?_
 ·refine Bk 1 rfl<|Ae (P4 (i:=0) rfl Abe ag rfl) rfl ?_;refine Az h fun aj h=>?_;refine Ae (AK rfl rfl rfl aj) rfl<|AA 1 rfl<|A2 ?_;obtain⟨y,h⟩:=AY h;refine Bw (σ:=AaK×Int×Int×(List Value)×Nat) (fun⟨d,a,b,c,n⟩=>[(1,(AaH b1)),(3,v4),(4,No a),(5,No b)]) (fun⟨d,a,b,c,n⟩ wr=>DZ w [.row (v4) 5 1 (d).length (c),.box b1 [f,g,k] 98] wr fun Oz=>AJ .byte (gz H w wr Oz) (d) (c)∧FT (Ff a0) n (d,a,b)=some r) (fun⟨d,a,b,c,n⟩=>n) ((List.replicate x2.toNat (0:UInt8)),(0:Int),(((List.replicate x2.toNat (0:UInt8)).length:Int) - (1:Int)),ay,y) (Sub.of rfl) ⟨ag,az,h⟩ ?_;rintro⟨d,a,b,c,nn54⟩ a5 ⟨l,q,h⟩;obtain⟨y,a8,rfl,h,aa⟩:=AX h;refine A7<|A9 2 rfl<|AM rfl h (fun ak h=>?_) (fun ak h=>?_)
  ·refine Au<|Ao<|A7<|A2<|Bk 2 rfl<|Ae (Af rfl Ade rfl Ab5 (by decide)) rfl<|Ae (Af rfl Adc rfl Sn (by decide)) rfl<|Ae (Ag 1 rfl AaR rfl l rfl rfl) rfl<|Aq 1 rfl ?_;refine Az h fun ab h=>?_;refine Bb rfl rfl AaR Cc s a.toNat (EM ab) (AW ab) rfl ?_;rintro a9 _ rfl al;refine Ae (Be rfl AaT rfl al (hH.trans l.arg)) rfl<|Ae (EV AaT Ab9 rfl (HS _)) rfl ?_;refine Az h fun o h=>?_;refine KM 0 rfl rfl Abe Lo l rfl b.toNat (EM o) (AW o) rfl fun ba am=>KO (z:=(Go.L.u8 (a0.1.getD a.toNat default))) (j:=b.toNat) 0 rfl rfl rfl Lo hH l rfl q am rfl (AW o) rfl fun bb an p a1 ao=>Ac<|Ar<|Ae (Af rfl Ade rfl Sn (by decide)) rfl<|Ae (Ag 1 rfl AaR rfl p rfl rfl) rfl<|Aq 1 rfl ?_;refine Az h fun ac h=>?_;refine Bb rfl rfl AaR Cc u a.toNat (EM ac) (AW ac) rfl ?_;rintro bc _ rfl ap;refine Ae (Be rfl AaT rfl ap (hH.trans p.arg)) rfl<|Aq 1 rfl<|AL<|A8<|Ao<|Ar<|Aq 1 rfl ?_;refine Az h fun aq h=>?_
   refine Ae (AK rfl rfl rfl aq) rfl<|Aq 1 rfl<|AL ?_;have h:=BV.again h aa;refine AN ((d.set b.toNat (Go.L.u8 (a0.1.getD a.toNat default))),a0.2.1.getD a.toNat default,(b - (1:Int)),an,y) (Sub.of rfl) ⟨p,ao,h⟩ (Nat.lt_succ_self _)
  refine Br<|AD<|A5 ?_;have h:=BV.out h aa;refine Bd<|A6 (d,c) (Sub.of rfl) ⟨l,q,h⟩
 rintro⟨m,e⟩ a6 ⟨ad,af,h⟩;refine A9 2 rfl<|Ay ?_
 cases h
 refine Am rfl rfl ?_;exact⟨ad.ext,_,rfl,(ad.GQ hH (i:=0) rfl af)⟩
def Fg(a:Int)(c:List Int)(b:Int):Option (((List Int)×Int×Int) ⊕ ((((List Int))×(List Int)×(List Int))×Bool)):=
 AU (BL (a+(1:Int))) (some (Sum.inl (c,b,(a+(1:Int)))))
def EC(a0:List Int)(c:Int):(List Int)×Int×Int→Option (((List Int)×Int×Int) ⊕ (((List Int)×Int×Int) ⊕ ((((List Int))×(List Int)×(List Int))×Bool))):=fun⟨d,b,a⟩=>
 if a<(a0.length:Int) then AU (0≤a∧a<(a0.length:Int)) (if a0.getD a.toNat default=c then AU (0≤a∧a<(d.length:Int)) (AU (BL (b+(1:Int))) (AU (BL (a+(1:Int))) (some (Sum.inl ((d.set a.toNat b),(b+(1:Int)),(a+(1:Int))))))) else AU (BL (a+(1:Int))) (some (Sum.inl (d,b,(a+(1:Int)))))) else Option.map Sum.inr ((Fg c) d b)
def Hh(a0:List Int)(a:Int)(s:(List Int)×Int×Int):Option (((List Int)×Int×Int) ⊕ ((((List Int))×(List Int)×(List Int))×Bool)):=Go.L.run (EC a0 a) s
def Fh(c:List Int)(d:List Int)(a:Int)(e:List Int)(b:Bool):Option ((((List Int))×(List Int)×(List Int))×Bool):=
 some ((e,c,(d.set a.toNat (0:Int))),b)
def Fi(a0:List Int)(d:List Int)(c:List Int)(b:List Int)(a:Int):Option ((((List Int))×(List Int)×(List Int))×Bool):=
 AU (0≤a∧a<(b.length:Int)) (AU (0≤a∧a<(a0.length:Int)) ((Fh c b a) d (decide (a0.getD a.toNat default=(-1:Int)))))
def ED(a0:List Int)(e:List Int)(c:List Int):(List Int)×Int×Int→Option (((List Int)×Int×Int) ⊕ ((((List Int))×(List Int)×(List Int))×Bool)):=fun⟨d,a,b⟩=>
 if(0:Int)<b then AU (0≤a∧a<(d.length:Int)) (AU (0≤a∧a<(a0.length:Int)) (if a0.getD a.toNat default=(-1:Int) then none else AU (0≤a∧a<(c.length:Int)) (AU (BL (b - (1:Int))) (some (Sum.inl ((d.set a.toNat b),c.getD a.toNat default,(b - (1:Int)))))))) else Option.map Sum.inr ((Fi a0 e c) d a)
def Hi(a0:List Int)(b:List Int)(a:List Int)(s:(List Int)×Int×Int):Option ((((List Int))×(List Int)×(List Int))×Bool):=Go.L.run (ED a0 b a) s
def Fj(a0:List Int)(b:List Int)(c:List Int)(a:List Int):Option ((((List Int))×(List Int)×(List Int))×Bool):=
 (Hi a0 b a) (c,(0:Int),((a0.length:Int) - (1:Int)))
def EE(a0:List Int)(d:List Int)(e:List Int):(List Int)×Int×Int→Option (((List Int)×Int×Int) ⊕ ((((List Int))×(List Int)×(List Int))×Bool)):=fun⟨b,c,a⟩=>
 if a<(256:Int) then(Hh a0 a) (b,c,(0:Int)) else Option.map Sum.inr ((Fj a0 d e) b)
def Hj(a0:List Int)(a:List Int)(b:List Int)(s:(List Int)×Int×Int):Option ((((List Int))×(List Int)×(List Int))×Bool):=Go.L.run (EE a0 a b) s
def Fk(a0:List Int)(a:List Int)(b:List Int)(c:List Int):Option ((((List Int))×(List Int)×(List Int))×Bool):=
 (Hj a0 a c) (b,(1:Int),(0:Int))
def G0(a0:List Int):Option ((((List Int))×(List Int)×(List Int))×Bool):=
 AU (BL ((a0.length:Int) - (1:Int))) (AU (BL (((a0.length:Int) - (1:Int))+(1:Int))) (AU (BL (((a0.length:Int) - (1:Int))+(1:Int))) (AU (0≤(((a0.length:Int) - (1:Int))+(1:Int))∧((8:Nat):Int) * (((a0.length:Int) - (1:Int))+(1:Int))≤281474976710656∧(((a0.length:Int) - (1:Int))+(1:Int))≤9223372036854775807) (AU (0≤(((a0.length:Int) - (1:Int))+(1:Int))∧((8:Nat):Int) * (((a0.length:Int) - (1:Int))+(1:Int))≤281474976710656∧(((a0.length:Int) - (1:Int))+(1:Int))≤9223372036854775807) ((Fk a0) a0 (List.replicate (((a0.length:Int) - (1:Int))+(1:Int)).toNat (0:Int)) (List.replicate (((a0.length:Int) - (1:Int))+(1:Int)).toNat (0:Int)))))))
theorem MB(w:World)(H:PH)(hH:Le H (hp w)){a0:List Int}{c:Value}(m:AI (.int .i64) H c (a0)){r:(((List Int))×(List Int)×(List Int))×Bool}(h:G0 a0=some r):
  Ok Tryz.prog 76 [c] w (fun v w'=>Ext w w'∧∃ u0 u1 u2,v=.tuple #[.agg #[u0,u1,u2],.bool r.2]∧AI (.int .i64) (un H (nw w w')) u0 (r.1.1)∧C2 3 (.int .i64) H w w' u1 (r.1.2.1)∧C2 3 (.int .i64) H w w' u2 (r.1.2.2)):=by
 refine A4 (n:=77) [(0,c)] func76 rfl rfl rfl rfl rfl ?_;have hL:=AO.start w;refine Ak<|AG FY rfl rfl hL fun w1 b1 f9 gu _=>AA 1 rfl<|Bk 1 rfl<|Ae (Bo rfl AaR m) rfl ?_;refine Az h fun ga h=>?_;refine Ae (AK rfl rfl rfl ga) rfl<|AA 1 rfl<|Bn (σ:=(List Int)×(List Int)×(List Int)×Nat×Value×Value×(List Value)×Value×(List Value)) (fun⟨ab,bf,ac,bjb43,d,e,ay,f,p⟩=>[(0,c),(2,(AaH b1)),(4,No ((a0.length:Int) - (1:Int))),(5,(AaH bjb43))]) (fun⟨ab,bf,ac,bjb43,d,e,ay,f,p⟩ wr=>DZ w [.box bjb43 [d,e,f] 98,.row (f) 3 1 (ac).length (p),.row (e) 3 1 (bf).length (ay),.box b1 [Aat,Aat,Aat] 98] wr fun Oz=>AI (.int .i64) (gz H w wr Oz) (d) (ab)∧AJ (.int .i64) (gz H w wr Oz) (ac) (p)∧AJ (.int .i64) (gz H w wr Oz) (bf) (ay)∧(Fk a0) ab bf ac=some r) ?_ ?_
 ·refine Nl (.q 0 (.q 1 (.q 2 (.q 3 (.q 5 (.q 6 (.h3 4 (.h2 7 (.q 8 (.h 9 (.tail 10))) 9 (.h 7 (.q 8 (.tail 10)))) 7 (.h2 4 (.q 8 (.h 9 (.tail 10))) 9 (.h 4 (.q 8 (.tail 10)))) 9 (.h2 4 (.h 7 (.q 8 (.tail 10))) 7 (.h 4 (.q 8 (.tail 10))))))))))) mixed (by kernel_rfl) (fun he fw=>?_);have b4:=f9.call fw;refine CD 1 rfl<|BH (AZ rfl (fun _=>ZZ _ m.one _)) rfl rfl<|CD 1 rfl ?_;refine Az h fun fx h=>?_;refine BH (AK rfl rfl rfl fx) rfl rfl<|CD 1 rfl ?_;refine Az h fun fy h=>?_;refine BH (AK rfl rfl rfl fy) rfl rfl<|AcF ?_ ?_ ?_
  ·refine Az h fun ax h=>?_;refine JY (r:=(.int .i64)) (z:=(0:Int)) rfl rfl rfl rfl AaR Cc rfl (fun _=>rfl) rfl hH b4 ax fun cp hf b5 dl gi a6=>Uq ?_ ?_
   ·refine Az h fun ao h=>?_;refine JY (r:=(.int .i64)) (z:=(0:Int)) rfl rfl rfl rfl AaR Cc rfl (fun _=>rfl) rfl hH dl ao fun gb hg fz b6 ev b7=>BH (AZ rfl (fun _=>Jj _ _ (row_one (b6.at (i:=1) rfl)) _ (row_one (b6.at (i:=0) rfl)) _)) rfl rfl<|Mt rfl FY rfl rfl b6 fun hh gc dm cq=>BQ (fun hi dn=>?_);have b8:=dm.call dn;have cr:=AV dm dn;refine Aj 0 rfl rfl rfl FY b8 rfl rfl (AH m.one (AH (row_one (b8.at (i:=2) rfl)) (AH (row_one (b8.at (i:=1) rfl)) Cj))) fun hj f0 cs=>AL ?_;have a6:=a6.mono (Ab hH (ev.trans (cq.trans (cr.trans cs))));have b7:=b7.mono (Ab hH (cq.trans (cr.trans cs)));refine A6 (a0,(List.replicate (((a0.length:Int) - (1:Int))+(1:Int)).toNat (0:Int)),(List.replicate (((a0.length:Int) - (1:Int))+(1:Int)).toNat (0:Int)),gc,c,cp,b5,gb,fz) (Sub.of rfl) ⟨f0,(m.mono (Ah hH)),b7,a6,h⟩
   refine Az h fun ao h=>?_;refine Mt rfl FY rfl rfl dl fun hk ft f1 ew=>JY (r:=(.int .i64)) (z:=(0:Int)) rfl rfl rfl rfl AaR Cc rfl (fun _=>rfl) rfl hH f1 ao fun dp hl dq bj ex b9=>BH (AZ rfl (fun _=>Jj _ _ (row_one (bj.at (i:=2) rfl)) _ (row_one (bj.at (i:=0) rfl)) _)) rfl rfl<|BQ (fun hm dr=>?_);have ca:=bj.call dr;have ct:=AV bj dr;refine Aj 1 rfl rfl rfl FY ca rfl rfl (AH m.one (AH (row_one (ca.at (i:=2) rfl)) (AH (row_one (ca.at (i:=0) rfl)) Cj))) fun gd ds cu=>AL ?_;have dt:AO w [.box ft [c,cp,dp] 98,.row (dp) 3 1 ((List.replicate (((a0.length:Int) - (1:Int))+(1:Int)).toNat (0:Int))).length (dq),.row (cp) 3 1 ((List.replicate (((a0.length:Int) - (1:Int))+(1:Int)).toNat (0:Int))).length (b5),.box b1 [Aat,Aat,Aat] 98] gd:=ds.C5 [1] rfl;have cv:=B6 [1] ds dt rfl;have a6:=a6.mono (Ab hH (ew.trans (ex.trans (ct.trans (cu.trans cv)))));have b9:=b9.mono (Ab hH (ct.trans (cu.trans cv)))
   refine A6 (a0,(List.replicate (((a0.length:Int) - (1:Int))+(1:Int)).toNat (0:Int)),(List.replicate (((a0.length:Int) - (1:Int))+(1:Int)).toNat (0:Int)),ft,c,cp,b5,dp,dq) (Sub.of rfl) ⟨dt,(m.mono (Ah hH)),b9,a6,h⟩
  ·refine Az h fun ax h=>?_;refine Az h fun ao h=>?_;refine JY (r:=(.int .i64)) (z:=(0:Int)) rfl rfl rfl rfl AaR Cc rfl (fun _=>rfl) rfl hH b4 ao fun bg hn bk du gj a7=>Uq ?_ ?_
   ·refine JY (r:=(.int .i64)) (z:=(0:Int)) rfl rfl rfl rfl AaR Cc rfl (fun _=>rfl) rfl hH du ax fun dv ho dw cb ey cc=>BH (AZ rfl (fun _=>Jj _ _ (row_one (cb.at (i:=0) rfl)) _ (row_one (cb.at (i:=1) rfl)) _)) rfl rfl<|Mt rfl FY rfl rfl cb fun hq fu dx cw=>BQ (fun hr dy=>?_);have cd:=dx.call dy;have cx:=AV dx dy;refine Aj 0 rfl rfl rfl FY cd rfl rfl (AH m.one (AH (row_one (cd.at (i:=1) rfl)) (AH (row_one (cd.at (i:=2) rfl)) Cj))) fun ge dz cy=>AL ?_;have d0:AO w [.box fu [c,dv,bg] 98,.row (bg) 3 1 ((List.replicate (((a0.length:Int) - (1:Int))+(1:Int)).toNat (0:Int))).length (bk),.row (dv) 3 1 ((List.replicate (((a0.length:Int) - (1:Int))+(1:Int)).toNat (0:Int))).length (dw),.box b1 [Aat,Aat,Aat] 98] ge:=dz.C5 [2,1] rfl;have cz:=B6 [2,1] dz d0 rfl;have a7:=a7.mono (Ab hH (ey.trans (cw.trans (cx.trans (cy.trans cz)))));have cc:=cc.mono (Ab hH (cw.trans (cx.trans (cy.trans cz))))
    refine A6 (a0,(List.replicate (((a0.length:Int) - (1:Int))+(1:Int)).toNat (0:Int)),(List.replicate (((a0.length:Int) - (1:Int))+(1:Int)).toNat (0:Int)),fu,c,dv,dw,bg,bk) (Sub.of rfl) ⟨d0,(m.mono (Ah hH)),a7,cc,h⟩
   refine Mt rfl FY rfl rfl du fun hs fv f2 ez=>JY (r:=(.int .i64)) (z:=(0:Int)) rfl rfl rfl rfl AaR Cc rfl (fun _=>rfl) rfl hH f2 ax fun d1 ht d2 bl e0 ce=>BH (AZ rfl (fun _=>Jj _ _ (row_one (bl.at (i:=0) rfl)) _ (row_one (bl.at (i:=2) rfl)) _)) rfl rfl<|BQ (fun hu d3=>?_);have cf:=bl.call d3;have c0:=AV bl d3;refine Aj 1 rfl rfl rfl FY cf rfl rfl (AH m.one (AH (row_one (cf.at (i:=0) rfl)) (AH (row_one (cf.at (i:=2) rfl)) Cj))) fun gf d4 c1=>AL ?_;have d5:AO w [.box fv [c,d1,bg] 98,.row (bg) 3 1 ((List.replicate (((a0.length:Int) - (1:Int))+(1:Int)).toNat (0:Int))).length (bk),.row (d1) 3 1 ((List.replicate (((a0.length:Int) - (1:Int))+(1:Int)).toNat (0:Int))).length (d2),.box b1 [Aat,Aat,Aat] 98] gf:=d4.C5 [2,2] rfl;have c2:=B6 [2,2] d4 d5 rfl;have a7:=a7.mono (Ab hH (ez.trans (e0.trans (c0.trans (c1.trans c2)))));have ce:=ce.mono (Ab hH (c0.trans (c1.trans c2)));refine A6 (a0,(List.replicate (((a0.length:Int) - (1:Int))+(1:Int)).toNat (0:Int)),(List.replicate (((a0.length:Int) - (1:Int))+(1:Int)).toNat (0:Int)),fv,c,d1,d2,bg,bk) (Sub.of rfl) ⟨d5,(m.mono (Ah hH)),a7,ce,h⟩
  refine Az h fun ax h=>?_;refine Az h fun ao h=>?_;refine Mt rfl FY rfl rfl b4 fun hv c3 d6 gk=>Uq ?_ ?_
  ·refine JY (r:=(.int .i64)) (z:=(0:Int)) rfl rfl rfl rfl AaR Cc rfl (fun _=>rfl) rfl hH d6 ax fun d7 hw d8 f3 gl cg=>JY (r:=(.int .i64)) (z:=(0:Int)) rfl rfl rfl rfl AaR Cc rfl (fun _=>rfl) rfl hH f3 ao fun d9 hx ea bm e1 ch=>BH (AZ rfl (fun _=>Jj _ _ (row_one (bm.at (i:=1) rfl)) _ (row_one (bm.at (i:=0) rfl)) _)) rfl rfl<|BQ (fun hy eb=>?_);have ci:=bm.call eb;have c4:=AV bm eb;refine Aj 2 rfl rfl rfl FY ci rfl rfl (AH m.one (AH (row_one (ci.at (i:=1) rfl)) (AH (row_one (ci.at (i:=0) rfl)) Cj))) fun gg ec c5=>AL ?_;have ed:AO w [.box c3 [c,d7,d9] 98,.row (d9) 3 1 ((List.replicate (((a0.length:Int) - (1:Int))+(1:Int)).toNat (0:Int))).length (ea),.row (d7) 3 1 ((List.replicate (((a0.length:Int) - (1:Int))+(1:Int)).toNat (0:Int))).length (d8),.box b1 [Aat,Aat,Aat] 98] gg:=ec.C5 [2] rfl;have c6:=B6 [2] ec ed rfl;have cg:=cg.mono (Ab hH (e1.trans (c4.trans (c5.trans c6))));have ch:=ch.mono (Ab hH (c4.trans (c5.trans c6)))
   refine A6 (a0,(List.replicate (((a0.length:Int) - (1:Int))+(1:Int)).toNat (0:Int)),(List.replicate (((a0.length:Int) - (1:Int))+(1:Int)).toNat (0:Int)),c3,c,d7,d8,d9,ea) (Sub.of rfl) ⟨ed,(m.mono (Ah hH)),ch,cg,h⟩
  refine JY (r:=(.int .i64)) (z:=(0:Int)) rfl rfl rfl rfl AaR Cc rfl (fun _=>rfl) rfl hH d6 ao fun ee hz ef f4 gm cj=>JY (r:=(.int .i64)) (z:=(0:Int)) rfl rfl rfl rfl AaR Cc rfl (fun _=>rfl) rfl hH f4 ax fun eg h0 eh bn e2 ck=>BH (AZ rfl (fun _=>Jj _ _ (row_one (bn.at (i:=0) rfl)) _ (row_one (bn.at (i:=1) rfl)) _)) rfl rfl<|BQ (fun h1 ei=>?_);have cl:=bn.call ei;have c7:=AV bn ei;refine Aj 2 rfl rfl rfl FY cl rfl rfl (AH m.one (AH (row_one (cl.at (i:=0) rfl)) (AH (row_one (cl.at (i:=1) rfl)) Cj))) fun gh ej c8=>AL ?_;have ek:AO w [.box c3 [c,eg,ee] 98,.row (ee) 3 1 ((List.replicate (((a0.length:Int) - (1:Int))+(1:Int)).toNat (0:Int))).length (ef),.row (eg) 3 1 ((List.replicate (((a0.length:Int) - (1:Int))+(1:Int)).toNat (0:Int))).length (eh),.box b1 [Aat,Aat,Aat] 98] gh:=ej.C5 [1,2] rfl;have c9:=B6 [1,2] ej ek rfl;have cj:=cj.mono (Ab hH (e2.trans (c7.trans (c8.trans c9))));have ck:=ck.mono (Ab hH (c7.trans (c8.trans c9)))
  refine A6 (a0,(List.replicate (((a0.length:Int) - (1:Int))+(1:Int)).toNat (0:Int)),(List.replicate (((a0.length:Int) - (1:Int))+(1:Int)).toNat (0:Int)),c3,c,eg,eh,ee,ef) (Sub.of rfl) ⟨ek,(m.mono (Ah hH)),cj,ck,h⟩
 rintro⟨ab,bf,ac,bjb43,d,e,ay,f,p⟩ gv ⟨el,e3,e4,e5,h⟩;have cm:=el.rG H;refine A9 1 rfl<|Bn (σ:=(List Int)×(List Value)) (fun⟨t,o⟩=>[(0,c),(2,(AaH b1)),(4,No ((a0.length:Int) - (1:Int))),(5,(AaH bjb43))]) (fun⟨t,o⟩ wr=>DZ w [.box bjb43 [d,e,f] 98,.row (f) 3 1 (ac).length (p),.row (e) 3 1 (t).length (o),.box b1 [Aat,Aat,Aat] 98] wr fun Oz=>AI (.int .i64) (gz H w wr Oz) (d) (ab)∧AJ (.int .i64) (gz H w wr Oz) (ac) (p)∧AJ (.int .i64) (gz H w wr Oz) (t) (o)∧(Fj a0 ab ac) t=some r) ?_ ?_
 ·refine A9 1 rfl<|A2 ?_;obtain⟨cn,h⟩:=AY h;refine Bw (σ:=(List Int)×Int×Int×(List Value)×Nat) (fun⟨ap,aj,k,ag,n⟩=>[(0,c),(2,(AaH b1)),(4,No ((a0.length:Int) - (1:Int))),(5,(AaH bjb43)),(6,No aj),(24,No k)]) (fun⟨ap,aj,k,ag,n⟩ wr=>DZ w [.box bjb43 [d,e,f] 98,.row (f) 3 1 (ac).length (p),.row (e) 3 1 (ap).length (ag),.box b1 [Aat,Aat,Aat] 98] wr fun Oz=>AI (.int .i64) (gz H w wr Oz) (d) (ab)∧AJ (.int .i64) (gz H w wr Oz) (ac) (p)∧AJ (.int .i64) (gz H w wr Oz) (ap) (ag)∧FT (EE a0 ab ac) n (ap,aj,k)=some r) (fun⟨ap,aj,k,ag,n⟩=>n) (bf,(1:Int),(0:Int),ay,cn) (Sub.of rfl) ⟨el,(e3.mono cm),(e4.mono cm),(e5.mono cm),h⟩ ?_;rintro⟨ap,aj,k,ag,nn237⟩ gn ⟨bo,bh,he237_j47,b0,h⟩;obtain⟨cn,em,rfl,h,da⟩:=AX h;have av:=bo.rG H;refine A9 1 rfl<|A7<|AM rfl h (fun e6 h=>?_) (fun e6 h=>?_)
  ·refine Au<|Ao<|Bn (σ:=(List Int)×Int×(List Value)) (fun⟨a8,aq,ar⟩=>[(0,c),(2,(AaH b1)),(4,No ((a0.length:Int) - (1:Int))),(5,(AaH bjb43)),(6,No aq),(24,No k)]) (fun⟨a8,aq,ar⟩ wr=>DZ w [.box bjb43 [d,e,f] 98,.row (f) 3 1 (ac).length (p),.row (e) 3 1 (a8).length (ar),.box b1 [Aat,Aat,Aat] 98] wr fun Oz=>AI (.int .i64) (gz H w wr Oz) (d) (ab)∧AJ (.int .i64) (gz H w wr Oz) (ac) (p)∧AJ (.int .i64) (gz H w wr Oz) (a8) (ar)∧(Fg k) a8 aq=some em) ?_ ?_
   ·refine A2<|A9 2 rfl<|Bk 1 rfl<|Ae (Bo rfl AaR m) rfl<|AA 1 rfl<|A2 ?_;obtain⟨bp,h⟩:=AY h;refine Bw (σ:=(List Int)×Int×Int×(List Value)×Nat) (fun⟨al,u,l,ah,n⟩=>[(0,c),(2,(AaH b1)),(4,No ((a0.length:Int) - (1:Int))),(5,(AaH bjb43)),(6,No u),(7,No k),(24,No k),(27,c),(28,No (a0.length:Int)),(29,No l)]) (fun⟨al,u,l,ah,n⟩ wr=>DZ w [.box bjb43 [d,e,f] 98,.row (f) 3 1 (ac).length (p),.row (e) 3 1 (al).length (ah),.box b1 [Aat,Aat,Aat] 98] wr fun Oz=>AI (.int .i64) (gz H w wr Oz) (d) (ab)∧AJ (.int .i64) (gz H w wr Oz) (ac) (p)∧AJ (.int .i64) (gz H w wr Oz) (al) (ah)∧FT (EC a0 k) n (al,u,l)=some em) (fun⟨al,u,l,ah,n⟩=>n) (ap,aj,(0:Int),ag,bp) (Sub.of rfl) ⟨bo,(bh.mono av),(he237_j47.mono av),(b0.mono av),h⟩ ?_;rintro⟨al,u,l,ah,nn299⟩ go ⟨am,a9,he299_j47,be,h⟩;obtain⟨bp,gw,rfl,h,bq⟩:=AX h;have y:=am.rG H;refine A9 1 rfl<|A7<|AM rfl h (fun e7 h=>?_) (fun e7 h=>?_)
    ·refine Au<|Ao<|A7<|A2<|Bk 1 rfl ?_;refine Az h fun db h=>?_;refine Bb rfl rfl AaR Cc m l.toNat (EM db) (AW db) rfl ?_;rintro gx _ rfl e8;refine Ae (Be rfl AaT rfl e8 (hH.trans am.arg)) rfl<|AA 2 rfl<|A9 3 rfl<|AM rfl h (fun e9 h=>?_) (fun e9 h=>?_)
     ·refine Ak<|Ae (Af rfl Ade rfl Sn (by decide)) rfl<|Ae (Ag 0 rfl AaR rfl am rfl rfl) rfl<|Aq 2 rfl ?_;refine Az h fun br h=>?_;refine KM 2 rfl rfl AaR Cc am rfl l.toNat (EM br) (AW br) rfl fun gy fa=>KO (z:=u) (j:=l.toNat) 2 rfl rfl rfl Cc hH am rfl (be.mono y) fa rfl (AW br) rfl fun g0 fb fc en fd=>Ac<|Ar<|Aq 1 rfl ?_;refine Az h fun fe h=>?_;refine Ae (AK rfl rfl rfl fe) rfl<|Aq 1 rfl<|AL<|A8<|Ao<|Ar ?_;refine Az h fun ff h=>?_;refine Ae (AK rfl rfl rfl ff) rfl<|Aq 1 rfl<|AL ?_;have h:=BV.again h bq;have y:=y.trans (Ab hH en);refine AN ((al.set l.toNat u),(u+(1:Int)),(l+(1:Int)),fb,bp) (Sub.of rfl) ⟨fc,(a9.mono y),(he299_j47.mono y),fd,h⟩ (Nat.lt_succ_self _)
     refine Au<|A8<|Ao<|Ar ?_;refine Az h fun fg h=>?_;refine Ae (AK rfl rfl rfl fg) rfl<|Aq 1 rfl<|AL ?_;have h:=BV.again h bq;refine AN (al,u,(l+(1:Int)),ah,bp) (Sub.of rfl) ⟨am,(a9.mono y),(he299_j47.mono y),(be.mono y),h⟩ (Nat.lt_succ_self _)
    refine Br<|AD<|A5 ?_;have h:=BV.out h bq;refine Bd<|A8<|A6 (al,u,ah) (Sub.of rfl) ⟨am,(a9.mono y),(he299_j47.mono y),(be.mono y),h⟩
   rintro⟨a8,aq,ar⟩ gp ⟨dc,dj,he279_j47,eo,h⟩;have bs:=dc.rG H;refine Ar ?_;refine Az h fun fh h=>?_;refine Ae (AK rfl rfl rfl fh) rfl<|Aq 1 rfl<|AL ?_;have h:=BV.again h da;refine AN (a8,aq,(k+(1:Int)),ar,cn) (Sub.of rfl) ⟨dc,(dj.mono bs),(he279_j47.mono bs),(eo.mono bs),h⟩ (Nat.lt_succ_self _)
  refine Br<|AD<|A5 ?_;have h:=BV.out h da;refine Bd<|A6 (ap,ag) (Sub.of rfl) ⟨bo,(bh.mono av),(he237_j47.mono av),(b0.mono av),h⟩
 rintro⟨t,o⟩ gq ⟨dd,dk,he189_j47,ep,h⟩;have bt:=dd.rG H;refine A9 1 rfl<|Bn (σ:=(List Int)×Int×(List Value)) (fun⟨an,a,az⟩=>[(0,c),(2,(AaH b1)),(5,(AaH bjb43)),(10,No a)]) (fun⟨an,a,az⟩ wr=>DZ w [.box bjb43 [d,e,f] 98,.row (f) 3 1 (an).length (az),.row (e) 3 1 (t).length (o),.box b1 [Aat,Aat,Aat] 98] wr fun Oz=>AI (.int .i64) (gz H w wr Oz) (d) (ab)∧AJ (.int .i64) (gz H w wr Oz) (an) (az)∧AJ (.int .i64) (gz H w wr Oz) (t) (o)∧(Fi a0 ab t) an a=some r) ?_ ?_
 ·refine A9 2 rfl<|A2 ?_;obtain⟨co,h⟩:=AY h;refine Bw (σ:=(List Int)×Int×Int×(List Value)×Nat) (fun⟨au,g,x,ak,n⟩=>[(0,c),(2,(AaH b1)),(5,(AaH bjb43)),(10,No g),(11,No x)]) (fun⟨au,g,x,ak,n⟩ wr=>DZ w [.box bjb43 [d,e,f] 98,.row (f) 3 1 (au).length (ak),.row (e) 3 1 (t).length (o),.box b1 [Aat,Aat,Aat] 98] wr fun Oz=>AI (.int .i64) (gz H w wr Oz) (d) (ab)∧AJ (.int .i64) (gz H w wr Oz) (au) (ak)∧AJ (.int .i64) (gz H w wr Oz) (t) (o)∧FT (ED a0 ab t) n (au,g,x)=some r) (fun⟨au,g,x,ak,n⟩=>n) (ac,(0:Int),((a0.length:Int) - (1:Int)),p,co) (Sub.of rfl) ⟨dd,(dk.mono bt),(he189_j47.mono bt),(ep.mono bt),h⟩ ?_;rintro⟨au,g,x,ak,nn379⟩ gr ⟨a1,bi,b2,he379_j45,h⟩;obtain⟨co,g1,rfl,h,de⟩:=AX h;refine A7 ?_;have ad:=a1.rG H;refine A9 2 rfl<|AM rfl h (fun fi h=>?_) (fun fi h=>?_)
  ·refine Au<|Ao<|A7<|A2<|Ak<|Ae (Af rfl Ade rfl Sn (by decide)) rfl<|Ae (Ag 0 rfl AaR rfl a1 rfl rfl) rfl<|Aq 2 rfl ?_;refine Az h fun bu h=>?_;refine KM 1 rfl rfl AaR Cc a1 rfl g.toNat (EM bu) (AW bu) rfl fun g2 fj=>KO (z:=x) (j:=g.toNat) 1 rfl rfl rfl Cc hH a1 rfl (b2.mono ad) fj rfl (AW bu) rfl fun g3 fk ba eq fl=>Ac<|A7<|Bk 2 rfl ?_;refine Az h fun df h=>?_;refine Bb rfl rfl AaR Cc m g.toNat (EM df) (AW df) rfl ?_;rintro g4 _ rfl fm;refine Ae (Be rfl AaT rfl fm (hH.trans ba.arg)) rfl<|AA 1 rfl<|AM rfl h (fun fn h=>?_) (fun fn h=>?_)
   ·cases h
   refine Au<|Ao<|Ar<|Ae (Af rfl Ade rfl Sn (by decide)) rfl<|Ae (Ag 0 rfl AaR rfl ba rfl rfl) rfl<|Aq 1 rfl ?_;refine Az h fun dg h=>?_;have ad:=ad.trans (Ab hH eq);refine Bb rfl rfl AaR Cc (ba.Tp hH (i:=2) rfl (he379_j45.mono ad)) g.toNat (EM dg) (AW dg) rfl ?_;rintro g5 _ rfl fo;refine Ae (Be rfl AaT rfl fo (Le.refl _)) rfl<|Aq 1 rfl<|AL<|A8<|Ao<|Ar<|Aq 1 rfl ?_;refine Az h fun fp h=>?_;refine Ae (AK rfl rfl rfl fp) rfl<|Aq 1 rfl<|AL ?_;have h:=BV.again h de;refine AN ((au.set g.toNat x),t.getD g.toNat default,(x - (1:Int)),fk,co) (Sub.of rfl) ⟨ba,(bi.mono ad),fl,(he379_j45.mono ad),h⟩ (Nat.lt_succ_self _)
  refine Br<|AD<|A5 ?_;have h:=BV.out h de;refine Bd<|A6 (au,g,ak) (Sub.of rfl) ⟨a1,(bi.mono ad),(b2.mono ad),(he379_j45.mono ad),h⟩
 rintro⟨an,a,az⟩ gs ⟨bb,af,er,he359_j45,h⟩;have s:=bb.rG H;refine Ak<|Ae (Af rfl Ade rfl Sn (by decide)) rfl<|Ae (Ag 0 rfl AaR rfl bb rfl rfl) rfl<|Aq 1 rfl ?_;refine Az h fun bv h=>?_;refine KM 1 rfl rfl AaR Cc bb rfl a.toNat (EM bv) (AW bv) rfl fun g6 fq=>KO (z:=(0:Int)) (j:=a.toNat) 1 rfl rfl rfl Cc hH bb rfl (er.mono s) fq rfl (AW bv) rfl fun g7 bw dh b3 aw=>Ac<|Bn (σ:=(List Int)×Bool×Value) (fun⟨bx,a2,bc⟩=>[(2,(AaH b1)),(3,.bool a2)]) (fun⟨bx,a2,bc⟩ wr=>DZ w [.box bjb43 [d,e,f] 98,.row (f) 3 1 ((an.set a.toNat (0:Int))).length (bw),.row (e) 3 1 (t).length (o),.box b1 [bc,e,f] 98] wr fun Oz=>AI (.int .i64) (gz H w wr Oz) (d) (ab)∧AJ (.int .i64) (gz H w wr Oz) ((an.set a.toNat (0:Int))) (bw)∧AJ (.int .i64) (gz H w wr Oz) (t) (o)∧AI (.int .i64) (gz H w wr Oz) (bc) (bx)∧(Fh t an a) bx a2=some r) ?_ ?_
 ·refine JM (Mv Mu) (fun z0 z=>Le (gz H w z0 [.box bjb43 [d,e,f] 98,.row (f) 3 1 ((an.set a.toNat (0:Int))).length (bw),.row (e) 3 1 (t).length (o),.box b1 [Aat,Aat,Aat] 98]) (hp z)∧z.heap[bjb43]? = some (.cells [d,e,f].toArray 98 (0,0))) mixed rfl (fun ae g9 di=>?_);have aa:=dh.call di;have a3:=AV dh di;have b:=aa.rG H;refine M1 ⟨b.trans (As hH aa),aa.at (i:=0) rfl⟩ fun kI422=>?_;refine AB 0 ae kI422 (by kernel_rfl) rfl (fun _ hI=>LZ rfl Ade rfl FY hI.2) rfl<|AB 1 ae kI422 (by kernel_rfl) rfl (fun _ _=>Ad rfl) rfl<|AB 2 ae kI422 (by kernel_rfl) rfl (fun _ _=>Ad rfl) rfl<|Yk (i:=3) (j:=6) (by kernel_rfl) rfl rfl ?_ ?_
  ·refine Az h fun a4 h=>?_;refine Bb rfl rfl AaR Cc m a.toNat (EM a4) (AW a4) rfl ?_;rintro ha _ rfl fr;refine Ba ⟨b.trans (As hH aa),aa.at (i:=0) rfl⟩ fun kI425=>?_;refine AB 4 ae kI425 (by kernel_rfl) rfl (fun _ hI=>Be rfl AaT rfl (fr.mono (Ah hH)) hI.1) rfl<|AB 5 ae kI425 (by kernel_rfl) rfl (fun _ _=>Ad rfl) rfl<|Ep (i:=6) (by kernel_rfl) rfl ?_;have s:=s.trans (Ab hH (b3.trans a3));refine Aj 3 rfl rfl rfl FY aa rfl rfl (AH ((af.mono s).mono b).one (AH (row_one (aa.at (i:=2) rfl)) (AH (row_one (aa.at (i:=1) rfl)) Cj))) ?_;intro hb bz es;have b:=b.trans (Ab hH es);refine Ba ⟨b.trans (As hH bz),bz.at (i:=0) rfl⟩ fun kI427=>?_;refine AB 7 ae kI427 (by kernel_rfl) rfl (fun _ _=>Ad rfl) rfl<|DV (by kernel_rfl) ?_;have aw:=aw.mono (Ab hH a3);refine A6 (ab,decide (a0.getD a.toNat default=(-1:Int)),d) (Sub.of rfl) ⟨bz,((af.mono s).mono b),(aw.mono b),((he359_j45.mono s).mono b),((af.mono s).mono b),h⟩
  refine Az h fun a4 h=>?_;have s:=s.trans (Ab hH (b3.trans a3));refine Aj 3 rfl rfl rfl FY aa rfl rfl (AH ((af.mono s).mono b).one (AH (row_one (aa.at (i:=2) rfl)) (AH (row_one (aa.at (i:=1) rfl)) Cj))) ?_;intro hc a5 et;have b:=b.trans (Ab hH et);refine Ba ⟨b.trans (As hH a5),a5.at (i:=0) rfl⟩ fun kI429=>?_;refine Ep (i:=3) (by kernel_rfl) rfl<|Bb rfl rfl AaR Cc m a.toNat (EM a4) (AW a4) rfl ?_;rintro hd _ rfl fs;refine Ba ⟨b.trans (As hH a5),a5.at (i:=0) rfl⟩ fun kI431=>?_;refine AB 4 ae kI431 (by kernel_rfl) rfl (fun _ hI=>Be rfl AaT rfl (fs.mono (Ah hH)) hI.1) rfl<|AB 5 ae kI431 (by kernel_rfl) rfl (fun _ _=>Ad rfl) rfl<|AB 7 ae kI431 (by kernel_rfl) rfl (fun _ _=>Ad rfl) rfl<|DV (by kernel_rfl) ?_;have aw:=aw.mono (Ab hH a3);refine A6 (ab,decide (a0.getD a.toNat default=(-1:Int)),d) (Sub.of rfl) ⟨a5,((af.mono s).mono b),(aw.mono b),((he359_j45.mono s).mono b),((af.mono s).mono b),h⟩
 rintro⟨bx,a2,bc⟩ gt ⟨bd,f5,he417_j47,he417_j45,eu,h⟩;refine Ay ?_
 cases h
 refine C9 rfl (.cell rfl Ade rfl FY (AT (i:=3) bd rfl)) (.tmp rfl) ?_;exact⟨bd.ext,_,_,_,rfl,(eu.mono (Dm hH)),(bd.GQ hH (i:=2) rfl he417_j45),(bd.GQ hH (i:=1) rfl he417_j47)⟩
def FM(a0:((List Int))×(List Int)×(List Int))(a1:Int)(a2:Int):Option (AaK×(Int×Int)):=
 if a1<(0:Int) then none else Option.bind (CR (a0.1,a0.2.1,a0.2.2)) (fun d=>if d<a1 then none else(if a2<a1 then none else Option.bind (CR (a0.1,a0.2.1,a0.2.2)) (fun b=>if b<a2 then none else Option.bind (Hg (a0.1,a0.2.1,a0.2.2)) (fun a=>AU (0≤a1∧a1≤a2∧a2≤(a.length:Int)) (Option.bind (DI ((a.drop a1.toNat).take (a2.toNat - a1.toNat))) (fun c=>some (c,((0:Int),(0:Int)))))))))
theorem LO(w:World)(H:PH)(hH:Le H (hp w)){a0:((List Int))×(List Int)×(List Int)}{a1:Int}{a2:Int}{d:Value}{e:Value}{f:Value}(g:AI (.int .i64) H d (a0.1))(j:AI (.int .i64) H e (a0.2.1))(k:AI (.int .i64) H f (a0.2.2)){r:AaK×(Int×Int)}(h:FM a0 a1 a2=some r):
  Ok Tryz.prog 60 [.agg #[d,e,f],No a1,No a2] w (fun v w'=>Ext w w'∧∃ u0,v=.tuple #[u0,.agg #[No r.2.1,No r.2.2]]∧C2 5 .byte H w w' u0 (r.1)):=by
 refine A4 (n:=34) [(0,.agg #[d,e,f]),(1,No a1),(2,No a2)] func60 rfl rfl rfl rfl rfl ?_;have hL:=AO.start w;refine Ak<|CK (t:=98) rfl rfl rfl hL fun w1 b1 al au _=>Aq 1 rfl<|AG AR rfl rfl al fun w2 b2 p av _=>Ac<|A7<|Bk 3 rfl<|AQ (s:=10) rfl (fun b=>?_) (fun b=>?_)
 ·have h:=BO (of_decide_eq_true b) h
  iterate 4 refine Ai rfl rfl b rfl ?_
  refine Ae (A1 rfl b rfl) rfl<|Ac<|Cy rfl ?_
  cases h
 have h:=BP (of_decide_eq_false b) h;refine Aa rfl rfl b<|Ae (Ad rfl) rfl<|Aa rfl rfl b<|Ae (AE 1 rfl Ade rfl FY p rfl) rfl<|Aa rfl rfl b ?_;refine Ax h fun x6 am h=>?_;refine AF rfl rfl p (EB (a0:=(a0.1,a0.2.1,a0.2.2)) _ _ (As hH p) (g.mono (Ah hH)) (j.mono (Ah hH)) (k.mono (Ah hH)) am) fun w7 az q aw=>Aa rfl rfl b<|Ae (Ad rfl) rfl<|Ae (A3 rfl b rfl) rfl<|Ac<|AM rfl h (fun an h=>?_) (fun an h=>?_)
 ·cases h
 refine Au<|Ao<|A7<|Bk 4 rfl<|AQ (s:=20) rfl (fun a=>?_) (fun a=>?_)
 ·have h:=BO (of_decide_eq_true a) h
  iterate 4 refine Ai rfl rfl a rfl ?_
  refine Ae (A1 rfl a rfl) rfl<|Ac<|Cy rfl ?_
  cases h
 have h:=BP (of_decide_eq_false a) h;refine Aa rfl rfl a<|Ae (Ad rfl) rfl<|Aa rfl rfl a<|Ae (AE 1 rfl Ade rfl FY q rfl) rfl<|Aa rfl rfl a ?_;refine Ax h fun a3 ac h=>?_;refine AF rfl rfl q (EB (a0:=(a0.1,a0.2.1,a0.2.2)) _ _ (As hH q) (g.mono (Ah hH)) (j.mono (Ah hH)) (k.mono (Ah hH)) ac) fun a4 ax c ao=>Aa rfl rfl a<|Ae (Ad rfl) rfl<|Ae (A3 rfl a rfl) rfl<|Ac<|AM rfl h (fun ad h=>?_) (fun ad h=>?_)
 ·cases h
 refine Au<|Ao<|Ak<|Ae (AE 1 rfl Ade rfl FY c rfl) rfl ?_;refine Ax h fun a5 ae h=>?_;refine Bs rfl rfl c (MZ (a0:=(a0.1,a0.2.1,a0.2.2)) _ _ (As hH c) (g.mono (Ah hH)) (j.mono (Ah hH)) (k.mono (Ah hH)) ae) ?_;rintro ap a6 ⟨_,rfl,u⟩ af l aq;have x:=u.CA hH c af;refine Aq 2 rfl ?_;refine Az h fun ag h=>?_;refine XN rfl rfl rfl Abe Lo x ag rfl ?_;intro a7 ah;refine Ax h fun a8 ai h=>?_;refine Bs rfl rfl l (I7 _ _ (As hH l) ah ai) ?_;rintro ar a9 ⟨_,rfl,y⟩ aj z aa;obtain⟨ay,z,aa,m⟩:=y.take hH l aj;refine Ae (AZ rfl (fun _=>BY _)) rfl<|Aq 1 rfl<|Aj 1 rfl rfl rfl AR z rfl rfl (AH rfl (AH rfl Cj)) fun ba o ab=>Ac<|Ay ?_
 cases h
 refine C9 rfl (.tmp rfl) (.cell rfl Abs rfl AR (AT (i:=1) o rfl)) ?_;have m:=m.mono (Ab hH ab);exact⟨o.ext,_,rfl,(o.GQ hH (i:=0) rfl m)⟩
def Fl(a1:Int):Option ((List Int)):=
 AU (BL ((0:Int) - (0:Int))) (AU (BL (a1 - ((0:Int) - (0:Int)))) (if(0:Int)<(a1 - ((0:Int) - (0:Int))) then AU (0<(a1 - ((0:Int) - (0:Int)))∧(a1 - ((0:Int) - (0:Int))) * 8≤281474976710656) (some (([]:List Int))) else some ([])))
def G1(_a0:List Int)(a1:Int):Option ((List Int)):=
 if a1<(0:Int) then none else(Fl a1)
theorem MC(w:World)(H:PH)(hH:Le H (hp w)){a0:List Int}{a1:Int}(_:AI (.int .i64) H (Aat) a0){r:(List Int)}(h:G1 a0 a1=some r):
  Ok Tryz.prog 124 [Aat,No a1] w (fun v w'=>Ext w w'∧∃ x,v=x∧C2 3 (.int .i64) H w w' x (r)):=by
 refine A4 (n:=27) [(0,Aat),(1,No a1)] func124 rfl rfl rfl rfl rfl ?_;have hL:=AO.start w;refine A9 1 rfl<|Bn (σ:=Unit) (fun(_:Unit)=>[(0,Aat),(1,No a1)]) (fun(_:Unit) wr=>AO w [] wr∧(Fl a1)=some r) ?_ ?_
 ·refine A9 2 rfl<|AM rfl h (fun y h=>?_) (fun y h=>?_)
  ·refine Ar ?_
   cases h
  refine Au<|A6 () (Sub.of rfl) ⟨hL,h⟩
 rintro _ ac ⟨d,h⟩;refine A7<|Bk 2 rfl<|Ae (VU rfl AaR) rfl<|Aq 1 rfl<|Ae (Rc rfl AaR) rfl ?_;refine Az h fun g h=>?_;refine Ae (AK rfl rfl rfl g) rfl ?_;refine Az h fun j h=>?_;refine Ae (AK rfl rfl rfl j) rfl<|AA 1 rfl<|A9 2 rfl<|AM rfl h (fun l h=>?_) (fun l h=>?_)
 ·refine Ar<|Aq 2 rfl<|Ae (VU rfl AaR) rfl<|Ae (Rm rfl rfl AaR Cc) rfl<|Aq 1 rfl ?_;refine Az h fun ab h=>?_;obtain⟨z,o⟩:=Int.eq_ofNat_of_zero_le (show 0≤(a1 - ((0:Int) - (0:Int))) by omega);refine VV (k:=.i64) (m:=z) rfl (by rw [← o];rfl) AaR AaT Cc rfl rfl (by omega) (by omega) (by omega) fun f a c ad p q s t u=>Aq 1 rfl<|Ae (Rc rfl AaR) rfl<|Ae (XP rfl rfl AaR Cc) rfl ?_;obtain⟨b,aa⟩:=K7 (v:=.slice (some ⟨f,0,none⟩) 0 a) (e:=3) (sz:=1) (m:=0) (xs:=[]) d p ⟨rfl,.inr ⟨f,a,c,rfl,q,s,Nat.zero_le _,t,by rw [u,Nat.mul_one],rfl⟩⟩;refine Aq 1 rfl<|AL<|Ao<|A9 2 rfl<|Ay ?_
  cases h
  refine Am rfl rfl ?_;exact⟨b.ext,_,rfl,(b.GQ hH (i:=0) rfl .nil)⟩
 refine Au<|Ao<|A9 2 rfl<|Ay ?_
 cases h
 refine Am rfl rfl ?_;exact⟨d.ext,_,rfl,C2.nil⟩
def Em(a:List Int):Option ((List Int)):=
 some (a)
def DW(a0:List (List Int)):(List Int)×Int→Option (((List Int)×Int) ⊕ ((List Int))):=fun⟨b,a⟩=>
 if a<(a0.length:Int) then AU (0≤a∧a<(a0.length:Int)) (AU (Go.E.JE 8 (b.length+(a0.getD a.toNat default).length)) (AU (BL (a+(1:Int))) (some (Sum.inl ((b++a0.getD a.toNat default),(a+(1:Int))))))) else Option.map Sum.inr (Em b)
def Gs(a0:List (List Int))(s:(List Int)×Int):Option ((List Int)):=Go.L.run (DW a0) s
def En(a0:List (List Int))(a:Int):Option ((List Int)):=
 Option.bind (G1 ([]) a) (fun b=>(Gs a0) (b,(0:Int)))
def DX(a0:List (List Int)):Int×Int→Option ((Int×Int) ⊕ ((List Int))):=fun⟨b,a⟩=>
 if a<(a0.length:Int) then AU (0≤a∧a<(a0.length:Int)) (AU (BL (b+((a0.getD a.toNat default).length:Int))) (if(b+((a0.getD a.toNat default).length:Int))<(0:Int) then none else AU (BL (a+(1:Int))) (some (Sum.inl ((b+((a0.getD a.toNat default).length:Int)),(a+(1:Int))))))) else Option.map Sum.inr ((En a0) b)
def Gt(a0:List (List Int))(s:Int×Int):Option ((List Int)):=Go.L.run (DX a0) s
def FN(a0:List (List Int)):Option ((List Int)):=
 (Gt a0) ((0:Int),(0:Int))
theorem LP(w:World)(H:PH)(hH:Le H (hp w)){a0:List (List Int)}{e:Value}(o:AI (.vec (.int .i64)) H e (a0)){r:(List Int)}(h:FN a0=some r):
  Ok Tryz.prog 75 [e] w (fun v w'=>Ext w w'∧∃ u0,v=u0∧C2 3 (.int .i64) H w w' u0 (r)):=by
 refine A4 (n:=36) [(0,e)] func75 rfl rfl rfl rfl rfl ?_;have hL:=AO.start w;refine A9 1 rfl<|A9 1 rfl<|Bn (σ:=Int) (fun j=>[(0,e),(3,No j)]) (fun j wr=>AO w [] wr∧(En a0) j=some r) ?_ ?_
 ·refine Bk 1 rfl<|Ae (Bo rfl Adf o) rfl<|AA 1 rfl<|A2 ?_;obtain⟨y,h⟩:=AY h;refine Bw (σ:=Int×Int×Nat) (fun⟨c,b,n⟩=>[(0,e),(3,No c),(9,e),(10,No (a0.length:Int)),(11,No b)]) (fun⟨c,b,n⟩ wr=>AO w [] wr∧FT (DX a0) n (c,b)=some r) (fun⟨c,b,n⟩=>n) ((0:Int),(0:Int),y) (Sub.of rfl) ⟨hL,h⟩ ?_;rintro⟨c,b,nn42⟩ a7 ⟨s,h⟩;obtain⟨y,bb,rfl,h,z⟩:=AX h;refine A9 1 rfl<|A7<|AM rfl h (fun al h=>?_) (fun al h=>?_)
  ·refine Au<|Ao<|A7<|A2<|Ak ?_;refine Az h fun aa h=>?_;refine Bb rfl rfl Adf Sn o b.toNat (EM aa) (AW aa) rfl ?_;rintro bc _ ⟨e46v0,rfl,e46h0⟩ am;refine Ae (Be rfl AaR rfl am (hH.trans s.arg)) rfl<|AA 1 rfl<|Bk 2 rfl<|Ae (Bo rfl AaR e46h0) rfl ?_;refine Az h fun an h=>?_;refine Ae (AK rfl rfl rfl an) rfl<|AA 1 rfl<|A9 2 rfl<|AM rfl h (fun ao h=>?_) (fun ao h=>?_)
   ·refine Ar ?_
    cases h
   refine Au<|A8<|Ao<|Ar ?_;refine Az h fun ap h=>?_;refine Ae (AK rfl rfl rfl ap) rfl<|Aq 1 rfl<|AL ?_;have h:=BV.again h z;refine AN ((c+((a0.getD b.toNat default).length:Int)),(b+(1:Int)),y) (Sub.of rfl) ⟨s,h⟩ (Nat.lt_succ_self _)
  refine Br<|AD<|A5 ?_;have h:=BV.out h z;refine Bd<|A6 c (Sub.of rfl) ⟨s,h⟩
 rintro j a8 ⟨t,h⟩;refine Bk 1 rfl ?_;refine Ax h fun a4 aq h=>?_;refine Bs rfl rfl t (MC _ _ (As hH t) (AI.nil _ _) aq) ?_;rintro ah bd ⟨_,rfl,ab⟩ ar ac ai;obtain⟨au,ac,ai,av⟩:=ab.take hH t ar;refine AA 1 rfl<|Bn (σ:=(List Int)×Value×(List Value)) (fun⟨q,p,k⟩=>[(6,p)]) (fun⟨q,p,k⟩ wr=>DZ w [.row (p) 3 1 (q).length (k)] wr fun Oz=>AJ (.int .i64) (gz H w wr Oz) (q) (k)∧Em q=some r) ?_ ?_
 ·refine Bk 1 rfl<|Ae (Bo rfl Adf o) rfl<|AA 1 rfl<|A2 ?_;obtain⟨ad,h⟩:=AY h;refine Bw (σ:=(List Int)×Int×Value×(List Value)×Nat) (fun⟨f,a,g,d,n⟩=>[(6,g),(25,e),(26,No (a0.length:Int)),(27,No a)]) (fun⟨f,a,g,d,n⟩ wr=>DZ w [.row (g) 3 1 (f).length (d)] wr fun Oz=>AJ (.int .i64) (gz H w wr Oz) (f) (d)∧FT (DW a0) n (f,a)=some r) (fun⟨f,a,g,d,n⟩=>n) (a4,(0:Int),ah,au,ad) (Sub.of rfl) ⟨ac,av,h⟩ ?_;rintro⟨f,a,g,d,nn92⟩ a9 ⟨u,x,h⟩;obtain⟨ad,be,rfl,h,ae⟩:=AX h;refine A9 1 rfl<|A7<|AM rfl h (fun aw h=>?_) (fun aw h=>?_)
  ·refine Au<|Ao<|A7<|A2<|Ak ?_;refine Az h fun af h=>?_;refine Bb rfl rfl Adf Sn o a.toNat (EM af) (AW af) rfl ?_;rintro bf _ ⟨e96v0,rfl,e96h0⟩ ax;refine Ae (Be rfl AaR rfl ax (hH.trans u.arg)) rfl<|AA 1 rfl<|Ar<|Aq 2 rfl ?_;refine Az h fun ay h=>?_;refine Bq (r:=(.int .i64)) (l:=f) (m:=a0.getD a.toNat default) 0 rfl rfl AaR Cc rfl (by decide) rfl hH u rfl x (e96h0.mono (Ah hH)) ay fun a5 bg az a1 a6 a2=>Aq 1 rfl<|AL<|A8<|Ao<|Ar ?_;refine Az h fun aj h=>?_;refine Ae (AK rfl rfl rfl aj) rfl<|Aq 1 rfl<|AL ?_;have h:=BV.again h ae;refine AN ((f++a0.getD a.toNat default),(a+(1:Int)),a5,az,ad) (Sub.of rfl) ⟨a1,a2,h⟩ (Nat.lt_succ_self _)
  refine Br<|AD<|A5 ?_;have h:=BV.out h ae;refine Bd<|A6 (f,g,d) (Sub.of rfl) ⟨u,x,h⟩
 rintro⟨q,p,k⟩ ba ⟨ag,ak,h⟩;refine A9 2 rfl<|Ay ?_
 cases h
 refine Am rfl rfl ?_;exact⟨ag.ext,_,rfl,(ag.GQ hH (i:=0) rfl ak)⟩
def I2(b:List Int):Option ((((List Int))×(List Int)×(List Int))×(Int×Int)):=
 Option.bind (G0 b) (fun a=>some ((a.1.1,a.1.2.1,a.1.2.2),((0:Int),(0:Int))))
def HJ(a0:AaK)(b:(List Int)):(List Int)×Int→Option (((List Int)×Int) ⊕ ((((List Int))×(List Int)×(List Int))×(Int×Int))):=fun⟨c,a⟩=>
 if a<(b.length:Int) then AU (0≤a∧a<(b.length:Int)) (if b.getD a.toNat default=(0:Int) then AU (Go.E.JE 8 (c.length+([(-1:Int)]).length)) (AU (BL (a+(1:Int))) (some (Sum.inl ((c++[(-1:Int)]),(a+(1:Int)))))) else AU (BL (b.getD a.toNat default - (1:Int))) (AU (0≤(b.getD a.toNat default - (1:Int))∧(b.getD a.toNat default - (1:Int))<(a0.length:Int)) (AU (Go.E.JE 8 (c.length+([((a0.getD ((b.getD a.toNat default - (1:Int)).toNat) default).toNat:Int)]).length)) (AU (BL (a+(1:Int))) (some (Sum.inl ((c++[((a0.getD ((b.getD a.toNat default - (1:Int)).toNat) default).toNat:Int)]),(a+(1:Int))))))))) else Option.map Sum.inr (I2 c)
def JS(a0:AaK)(a:(List Int))(s:(List Int)×Int):Option ((((List Int))×(List Int)×(List Int))×(Int×Int)):=Go.L.run (HJ a0 a) s
def Kf(a0:AaK):Option ((((List Int))×(List Int)×(List Int))×(Int×Int)):=
 Option.bind (KG a0) (fun a=>if a.2.1=(0:Int)∧a.2.2=(0:Int) then AU (BL ((a0.length:Int)+(1:Int))) (AU (0≤((a0.length:Int)+(1:Int))∧((8:Nat):Int) * ((a0.length:Int)+(1:Int))≤281474976710656∧((a0.length:Int)+(1:Int))≤9223372036854775807) (Option.bind (FN ([[(a0.length:Int)],a.1])) (fun b=>(JS a0 b) (([]:List Int),(0:Int))))) else none)
theorem PQ(w:World)(H:PH)(hH:Le H (hp w)){a0:AaK}{z:Value}(aa:AI .byte H z (a0)){r:(((List Int))×(List Int)×(List Int))×(Int×Int)}(h:Kf a0=some r):
  Ok Tryz.prog 45 [z] w (fun v w'=>Ext w w'∧∃ u0 u1 u2,v=.tuple #[.agg #[u0,u1,u2],.agg #[No r.2.1,No r.2.2]]∧AI (.int .i64) (un H (nw w w')) u0 (r.1.1)∧AI (.int .i64) (un H (nw w w')) u1 (r.1.2.1)∧AI (.int .i64) (un H (nw w w')) u2 (r.1.2.2)):=by
 refine A4 (n:=58) [(0,z)] func45 rfl rfl rfl rfl rfl ?_;have hL:=AO.start w;refine Ak<|AG FY rfl rfl hL fun w1 b1 cl cz _=>AG AR rfl rfl cl fun w2 b2 av c0 _=>Ac<|Bk 1 rfl ?_;refine Ax h fun x3 cm h=>?_;refine Bs rfl rfl av (QC _ _ (As hH av) (aa.mono (Ah hH)) cm) ?_;rintro _ w4 ⟨c2,rfl,a7⟩ cn co c3;have q:=a7.CA hH av cn;refine Aq 3 rfl<|AG AR rfl rfl co fun w5 b5 cq bu _=>Aq 1 rfl<|Aj 0 rfl rfl rfl AR cq rfl rfl (AH rfl (AH rfl Cj)) fun w6 bt bv=>Ac<|A7<|Ak<|Ae (AE 0 rfl Abs rfl AR bt rfl) rfl<|Ae (AZ rfl (fun _=>BY _)) rfl<|Ae (JG rfl rfl I6 (Lp _ _ _ _)) rfl<|Ac<|Cl rfl h (fun cr h=>?_) (fun cr h=>?_)
 ·cases h
 refine Au<|Ao<|Bk 1 rfl<|Ae (Bo rfl Abe aa) rfl ?_;refine Az h fun bw h=>?_;refine Ae (AK rfl rfl rfl bw) rfl ?_;refine Az h fun bx h=>?_;refine ZF (H:=H) (r:=(.int .i64)) rfl rfl AaR Cc rfl bt bx fun cs dk bz b0 a8 ai=>AA 1 rfl<|Bn (σ:=(List Int)×Value×(List Value)) (fun⟨af,ab,s⟩=>[(2,(AaH b1)),(3,(AaH b2)),(6,ab)]) (fun⟨af,ab,s⟩ wr=>DZ w [.row (ab) 3 1 (af).length (s),.box b5 [No x3.2.1,No x3.2.2] 28,.box b2 [No (0:Int),No (0:Int)] 28,.box b1 [Aat,Aat,Aat] 98] wr fun Oz=>AJ (.int .i64) (gz H w wr Oz) (af) (s)∧I2 af=some r) ?_ ?_
 ·refine Bk 1 rfl<|Ae (Bo rfl Abe aa) rfl<|Bu (r:=(.int .i64)) (l:=[(a0.length:Int)]) rfl (fun _=>Il _ _) rfl (show 1≤9223372036854775807 by decide) hH b0 (.c1 rfl .nil) fun dl dm c4 b3 al ax=>Aq 1 rfl ?_;have q:=q.mono (Ab hH (bu.trans (bv.trans (a8.trans al))));refine Bu (r:=(.vec (.int .i64))) (l:=[[(a0.length:Int)],x3.1]) rfl (fun _=>Yz _ ax.one _ q.one _) rfl (show 2≤9223372036854775807 by decide) hH b3 (.c1 ⟨_,rfl,ax⟩ (.c1 ⟨_,rfl,q⟩ .nil)) ?_;intro dn dp c5 aj a9 b4;refine Ax h fun t b6 h=>?_;refine Bs rfl rfl aj (LP _ _ (As hH aj) b4 b6) ?_;rintro am dq ⟨_,rfl,ay⟩ b7 b8 ba;have ag:=ay.CA hH aj b7;refine Ae (Bo rfl AaR ag) rfl<|AA 1 rfl<|A2 ?_;obtain⟨an,h⟩:=AY h;have ai:=ai.mono (Ab hH (al.trans (a9.trans ba)))
  refine Bw (σ:=(List Int)×Int×Value×(List Value)×Nat) (fun⟨j,a,p,k,n⟩=>[(0,z),(2,(AaH b1)),(3,(AaH b2)),(6,p),(30,am),(31,No (t.length:Int)),(32,No a)]) (fun⟨j,a,p,k,n⟩ wr=>DZ w [.row (p) 3 1 (j).length (k),.box b5 [No x3.2.1,No x3.2.2] 28,.box b2 [No (0:Int),No (0:Int)] 28,.box b1 [Aat,Aat,Aat] 98] wr fun Oz=>AI (.int .i64) (gz H w wr Oz) (am) (t)∧AJ (.int .i64) (gz H w wr Oz) (j) (k)∧FT (HJ a0 t) n (j,a)=some r) (fun⟨j,a,p,k,n⟩=>n) (([]:List Int),(0:Int),cs,bz,an) (Sub.of rfl) ⟨b8,ag,ai,h⟩ ?_;rintro⟨j,a,p,k,nn90⟩ c6 ⟨u,b,g,h⟩;obtain⟨an,dr,rfl,h,ak⟩:=AX h;refine A9 1 rfl<|A7<|AM rfl h (fun b9 h=>?_) (fun b9 h=>?_)
  ·refine Au<|Ao<|A7<|A2<|Ak ?_;refine Az h fun az h=>?_;refine Bb rfl rfl AaR Cc b a.toNat (EM az) (AW az) rfl ?_;rintro ds _ rfl ca;refine Ae (Be rfl AaT rfl ca (As hH u)) rfl<|AA 1 rfl<|A9 2 rfl<|AM rfl h (fun cb h=>?_) (fun cb h=>?_)
   ·refine Ar<|Aq 1 rfl<|Bu (r:=(.int .i64)) (l:=[(-1:Int)]) rfl (fun _=>Il _ _) rfl (show 1≤9223372036854775807 by decide) hH u (.c1 rfl .nil) ?_;intro dt du c7 cc ao cd;refine Az h fun bb h=>?_;have g:=g.mono (Ab hH ao);refine Bq (r:=(.int .i64)) (l:=j) (m:=[(-1:Int)]) 0 rfl rfl AaR Cc rfl (by decide) rfl hH cc rfl g cd bb fun ct dv ce cf bc cg=>Aq 1 rfl<|AL<|A8<|Ao<|Ar ?_;refine Az h fun bd h=>?_;refine Ae (AK rfl rfl rfl bd) rfl<|Aq 1 rfl<|AL ?_;have h:=BV.again h ak;have b:=b.mono (Ab hH (ao.trans bc));refine AN ((j++[(-1:Int)]),(a+(1:Int)),ct,ce,an) (Sub.of rfl) ⟨cf,b,cg,h⟩ (Nat.lt_succ_self _)
   refine Ar<|Aq 3 rfl ?_;refine Az h fun be h=>?_;refine Ae (AK rfl rfl rfl be) rfl ?_;refine Az h fun ap h=>?_;refine Bb rfl rfl Abe Lo aa ((t.getD a.toNat default - (1:Int)).toNat) (EM ap) (AW ap) rfl ?_;rintro c8 _ rfl bf;refine Ae (Be rfl Ab9 rfl bf (hH.trans u.arg)) rfl<|Ae (EV Ab9 AaT rfl (H0 _)) rfl<|Bu (r:=(.int .i64)) (l:=[((a0.getD ((t.getD a.toNat default - (1:Int)).toNat) default).toNat:Int)]) rfl (fun _=>Il _ _) rfl (show 1≤9223372036854775807 by decide) hH u (.c1 rfl .nil) ?_;intro c9 da cy bg ah bh;refine Az h fun bi h=>?_;have g:=g.mono (Ab hH ah);refine Bq (r:=(.int .i64)) (l:=j) (m:=[((a0.getD ((t.getD a.toNat default - (1:Int)).toNat) default).toNat:Int)]) 0 rfl rfl AaR Cc rfl (by decide) rfl hH bg rfl g bh bi fun ch db bj bk a1 bl=>Aq 1 rfl<|AL<|A8<|Ao<|Ar ?_;refine Az h fun bm h=>?_;refine Ae (AK rfl rfl rfl bm) rfl<|Aq 1 rfl<|AL ?_;have h:=BV.again h ak;have b:=b.mono (Ab hH (ah.trans a1))
   refine AN ((j++[((a0.getD ((t.getD a.toNat default - (1:Int)).toNat) default).toNat:Int)]),(a+(1:Int)),ch,bj,an) (Sub.of rfl) ⟨bk,b,bl,h⟩ (Nat.lt_succ_self _)
  refine Br<|AD<|A5 ?_;have h:=BV.out h ak;refine Bd<|A6 (j,p,k) (Sub.of rfl) ⟨u,g,h⟩
 rintro⟨af,ab,s⟩ dc ⟨a2,bn,h⟩;refine Bk 1 rfl ?_;have bo:=a2.CA hH (i:=0) rfl bn;have o:=a2.AP (i:=0) rfl;refine Ax h fun dd bp h=>?_;refine Bs rfl rfl o (MB _ _ (As hH o) bo bp) ?_;rintro _ de ⟨cu,cv,cw,rfl,aq,ar,au⟩ ac bq cx;have d:=aq.mono (Dv hH o ac);have e:=ar.CA hH o ac;have f:=au.CA hH o ac;refine Aq 3 rfl<|AG FY rfl rfl bq fun df dg br x _=>Aj 0 rfl rfl rfl FY br rfl rfl (AH d.one (AH e.one (AH f.one Cj))) fun dh ad y=>AA 1 rfl ?_;have c:=ad.rG H;refine Ak<|Ae (AE 0 rfl Ade rfl FY ad rfl) rfl<|Ae (AZ rfl (fun _=>BY _)) rfl ?_;have d:=d.mono (Ab hH (x.trans y));have e:=e.mono (Ab hH (x.trans y));have f:=f.mono (Ab hH (x.trans y));refine Aj 3 rfl rfl rfl FY ad rfl rfl (AH (d.mono c).one (AH (e.mono c).one (AH (f.mono c).one Cj))) fun di bs a3=>Aj 2 rfl rfl rfl AR bs rfl rfl (AH rfl (AH rfl Cj)) fun dj ae a4=>Ac<|Ay ?_
 cases h
 refine C9 rfl (.cell rfl Ade rfl FY (AT (i:=3) ae rfl)) (.cell rfl Abs rfl AR (AT (i:=2) ae rfl)) ?_;have c:=c.trans (Ab hH (a3.trans a4));exact⟨ae.ext,_,_,_,rfl,((d.mono c).mono (Dm hH)),((e.mono c).mono (Dm hH)),((f.mono c).mono (Dm hH))⟩
end Go.Proofs.YtekmbcbgknmhiaaGreatDoor
end
