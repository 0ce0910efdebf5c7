/- Texts of a claim, merged. -/
import Derived.Test.YtekmbcbgknmhiaaGreatDoorLe2
import Derived.KernelRfl
set_option linter.unusedVariables false
set_option linter.unusedSimpArgs false
open _root_.Go.Proofs.Tryz renaming underlying58→Aa8,underlying3→AaA,underlying9→AaQ,underlying22→Ab1,underlying23→Abj,underlying130→AcI,underlying28→AcP,underlying109→AcS,underlying96→AcT,underlying98→AcU,underlying180→AcV,underlying192→AcW,underlying44→AcX,underlying46→AcY,underlying135→AcZ,underlying21→Acp,underlying5→Acu,underlying171→Acx,underlying131→Ada,underlying137→Adb,underlying94→Adc
noncomputable section
namespace Go
abbrev Ads:=((List Int))×(List Int)×(List Int)
end Go
namespace Go.Proofs.YtekmbcbgknmhiaaGreatDoor
open Go Go.E Go.RowKit Go.L
set_option maxHeartbeats 1000000
set_option maxRecDepth 10000
open _root_.Go.Proofs.Tryz
def Gn(a0 a1:Int):Option ((Int×Int)):=
 some ((a0,a1))
theorem HO(w:World)(H:PH)(_hH:Le H (hp w)){a0 a1:Int}{r:(Int×Int)}(h:Gn a0 a1=some r):
  Ok prog 98 [No a0,No a1] w (fun v w'=>Ext w w'/\v=.agg #[No r.1,No r.2]):=by
 refine Aw (n:=8) [(0,No a0),(1,No a1)] func98 rfl fun hL=>Ai<|A3 AI rfl rfl hL fun e f b c _=>Ac<|Bs 2 rfl<|Ah (AN rfl (fun _=>Jv _ _ _)) rfl<|Ad 0 rfl AI b rfl (AT rfl) fun g a d=>Ac<|Ax ?_
 cases h
 refine CM rfl (.cell rfl AcP rfl AI (AG (i:=0) a rfl)) ⟨a.ext,rfl⟩
def D7(a0:(List Int)):Option Int:=
 some ((max (a0.length:Int) (1:Int)))
theorem K9(w:World)(H:PH)(_hH:Le H (hp w)){a0:(List Int)}{a:Value}(c:AA (.int .i64) H a a0){r:Int}(h:D7 a0=some r):
  Ok prog 97 [.agg #[a]] w (fun v w'=>Ext w w'/\v=No r):=by
 refine Aw (n:=7) [(0,.agg #[a])] func97 rfl fun hL=>Ai<|Dq (t:=96) rfl rfl rfl hL fun e f b d _=>A4 1 rfl<|Ai<|Ah (Af rfl AcT rfl Rs) rfl<|Ah (Ag 0 rfl Aa8 rfl b rfl) rfl<|Ah (Bj rfl Aa8 c) rfl<|Ah (Ab8 rfl rfl) rfl<|A4 1 rfl<|Ax ?_
 cases h
 refine Am rfl ⟨b.ext,rfl⟩
def B3(a0:((List Int))×(List Int)×(List Int)):Option Int:=
 Option.bind (D7 a0.1) (fun a=>Bh (C0 (a - 1)) (some ((a - 1))))
theorem EG(w:World)(H:PH)(hH:Le H (hp w)){a0:((List Int))×(List Int)×(List Int)}{a b c:Value}(e:AA (.int .i64) H a (a0.1))(_h0_1:AA (.int .i64) H b (a0.2.1))(_h0_2:AA (.int .i64) H c (a0.2.2)){r:Int}(h:B3 a0=some r):
  Ok prog 59 [.agg #[a,b,c]] w (fun v w'=>Ext w w'/\v=No r):=by
 refine Aw (n:=7) [(0,.agg #[a,b,c])] func59 rfl fun hL=>Ai<|Dq (t:=98) rfl rfl rfl hL fun m o d j _=>A4 1 rfl<|Ai<|Ah (Af rfl AcU rfl AaY) rfl<|Ah (Qn 0 1 rfl AcT rfl AaY d rfl rfl) rfl<|Aq h fun p f h=>A8 rfl rfl d (K9 (a0:=a0.1) _ _ (Al hH d) (e.mono (Ae hH)) f) fun q l g k=>AB h fun i h=>Ah (AK rfl i) rfl<|A4 1 rfl<|Ax ?_
 cases h
 refine Am rfl ⟨g.ext,rfl⟩
def FA(a:Aaz):Option Aaz:=
 some a
def BW(a0:((List Int))×(List Int)×(List Int)):Aaz×Int×Int->Option ((Aaz×Int×Int) ⊕ (Aaz)):=fun⟨c,a,b⟩=>
 if 0<=b then Bh (0<=a/\a<(a0.1.length:Int)) (Bh (0<=b/\b<(c.length:Int)) (Bh (0<=a/\a<(a0.2.1.length:Int)) (Bh (C0 (b - 1)) (some (Sum.inl ((c.set b.toNat (Go.L.u8 (a0.1.getD a.toNat default))),a0.2.1.getD a.toNat default,(b - 1))))))) else Option.map Sum.inr (FA c)
def DZ(a0:((List Int))×(List Int)×(List Int))(s:Aaz×Int×Int):Option Aaz:=Go.L.run (BW a0) s
def Dv(a0:((List Int))×(List Int)×(List Int)):Option Aaz:=
 Option.bind (B3 (a0.1,a0.2.1,a0.2.2)) (fun a=>Bh (0<=a/\((1:Nat):Int) * a<=281474976710656/\a<=9223372036854775807) (Bh (C0 (((List.replicate a.toNat (0:UInt8)).length:Int) - 1)) ((DZ a0) ((List.replicate a.toNat (0:UInt8)),0,(((List.replicate a.toNat (0:UInt8)).length:Int) - 1)))))
theorem Mk(w:World)(H:PH)(hH:Le H (hp w)){a0:((List Int))×(List Int)×(List Int)}{f g k:Value}(s:AA (.int .i64) H f (a0.1))(u:AA (.int .i64) H g (a0.2.1))(ah:AA (.int .i64) H k (a0.2.2)){r:Aaz}(h:Dv a0=some r):
  Ok prog 100 [.agg #[f,g,k]] w (fun v w'=>Ext w w'/\∃ u0,v=u0/\Ck 5 .byte H w w' u0 r):=by
 refine Aw (n:=32) [(0,.agg #[f,g,k])] func100 rfl fun hL=>Ai<|Dq (t:=98) rfl rfl rfl hL fun w1 b1 x a2 _=>A4 1 rfl<|Ai<|Ah (A5 0 rfl AcU rfl Fq x rfl) rfl<|Aq h fun x2 av h=>A8 rfl rfl x (EG (a0:=(a0.1,a0.2.1,a0.2.2)) _ _ (Al hH x) (s.mono (Ae hH)) (u.mono (Ae hH)) (ah.mono (Ae hH)) av) fun w3 a7 aw a3=>AB h fun ax h=>St (r:=.byte) (z:=(0:UInt8)) rfl rfl rfl Abj NK rfl (fun _=>rfl) rfl hH aw ax fun v4 w4 ay ag a4 az=>A4 1 rfl<|AD 1 rfl<|Bw (σ:=Aaz×(List Value)) (fun⟨m,e⟩=>[(3,v4)]) (fun⟨m,e⟩ wr=>FL w [.row v4 5 1 (m).length e,.box b1 [f,g,k] 98] wr fun Oz=>AF .byte (gz H w wr Oz) m e/\FA m=some r) ?_ ?_
 ·refine Bs 1 rfl<|Ah (O7 (i:=0) rfl Abj ag rfl) rfl<|AB h fun aj h=>Ah (AK rfl aj) rfl<|A4 1 rfl<|A2 ?_;obtain⟨y,h⟩:=AY h;refine B8 (σ:=Aaz×Int×Int×(List Value)×Nat) (fun⟨d,a,b,c,n⟩=>[(1,(Aas b1)),(3,v4),(4,No a),(5,No b)]) (fun⟨d,a,b,c,n⟩ wr=>FL w [.row v4 5 1 (d).length c,.box b1 [f,g,k] 98] wr fun Oz=>AF .byte (gz H w wr Oz) d c/\GR (BW a0) n (d,a,b)=some r) (fun⟨d,a,b,c,n⟩=>n) ((List.replicate x2.toNat (0:UInt8)),0,(((List.replicate x2.toNat (0:UInt8)).length:Int) - 1),ay,y) (Sub.of rfl) ⟨ag,az,h⟩ ?_;rintro⟨d,a,b,c,nn54⟩ a5 ⟨l,q,h⟩;obtain⟨y,a8,rfl,h,aa⟩:=AX h;refine A9<|AD 2 rfl<|AO rfl h (fun ak h=>?_) (fun ak h=>?_)
  ·refine Au<|Ar<|A9<|A2<|Bs 2 rfl<|Ah (Af rfl AcU rfl AaY) rfl<|Ah (Af rfl AcT rfl Rs) rfl<|Ah (Ag 1 rfl Aa8 rfl l rfl) rfl<|As 1 rfl<|AB h fun ab h=>Be rfl rfl Aa8 Dd s a.toNat (Hc ab) (Ba ab) rfl ?_;rintro a9 _ rfl al;refine Ah (Bu rfl AaA rfl al (hH.trans l.arg)) rfl<|Ah (IS AaA Acu rfl (Kx _)) rfl<|AB h fun o h=>Kv 0 rfl rfl Abj NK l rfl b.toNat (Hc o) (Ba o) rfl fun ba am=>Kw (z:=(Go.L.u8 (a0.1.getD a.toNat default))) (j:=b.toNat) 0 rfl rfl rfl NK hH l rfl q am rfl (Ba o) rfl fun bb an p a1 ao=>Ac<|Av<|Ah (Af rfl AcU rfl Rs) rfl<|Ah (Ag 1 rfl Aa8 rfl p rfl) rfl<|As 1 rfl<|AB h fun ac h=>Be rfl rfl Aa8 Dd u a.toNat (Hc ac) (Ba ac) rfl ?_;rintro bc _ rfl ap;refine Ah (Bu rfl AaA rfl ap (hH.trans p.arg)) rfl<|As 1 rfl<|AQ<|AJ<|Ar<|Av<|As 1 rfl<|AB h fun aq h=>Ah (AK rfl aq) rfl ?_
   refine As 1 rfl<|AQ ?_;have h:=CV.again h aa;refine AW ((d.set b.toNat (Go.L.u8 (a0.1.getD a.toNat default))),a0.2.1.getD a.toNat default,(b - 1),an,y) (Sub.of rfl) ⟨p,ao,h⟩ (Nat.lt_succ_self _)
  refine B5<|AE<|A7 ?_;have h:=CV.out h aa;refine Bk<|A6 (d,c) (Sub.of rfl) ⟨l,q,h⟩
 rintro⟨m,e⟩ a6 ⟨ad,af,h⟩;refine AD 2 rfl<|Ax ?_
 cases h
 refine Am rfl ⟨ad.ext,_,rfl,(ad.GS hH (i:=0) rfl af)⟩
def D8(a:Int)(c:List Int)(b:Int):Option (((List Int)×Int×Int) ⊕ (Ads×Bool)):=
 Bh (C0 (a+1)) (some (Sum.inl (c,b,(a+1))))
def Co(a0:List Int)(c:Int):(List Int)×Int×Int->Option (((List Int)×Int×Int) ⊕ (((List Int)×Int×Int) ⊕ (Ads×Bool))):=fun⟨d,b,a⟩=>
 if a<(a0.length:Int) then Bh (0<=a/\a<(a0.length:Int)) (if a0.getD a.toNat default=c then Bh (0<=a/\a<(d.length:Int)) (Bh (C0 (b+1)) (Bh (C0 (a+1)) (some (Sum.inl ((d.set a.toNat b),(b+1),(a+1)))))) else Bh (C0 (a+1)) (some (Sum.inl (d,b,(a+1))))) else Option.map Sum.inr ((D8 c) d b)
def Fc(a0:List Int)(a:Int)(s:(List Int)×Int×Int):Option (((List Int)×Int×Int) ⊕ (Ads×Bool)):=Go.L.run (Co a0 a) s
def D9(c:List Int)(d:List Int)(a:Int)(e:List Int)(b:Bool):Option (Ads×Bool):=
 some ((e,c,(d.set a.toNat (0:Int))),b)
def DA(a0:List Int)(d:List Int)(c:List Int)(b:List Int)(a:Int):Option (Ads×Bool):=
 Bh (0<=a/\a<(b.length:Int)) (Bh (0<=a/\a<(a0.length:Int)) ((D9 c b a) d (decide (a0.getD a.toNat default=(-1)))))
def BO(a0:List Int)(e:List Int)(c:List Int):(List Int)×Int×Int->Option (((List Int)×Int×Int) ⊕ (Ads×Bool)):=fun⟨d,a,b⟩=>
 if 0<b then Bh (0<=a/\a<(d.length:Int)) (Bh (0<=a/\a<(a0.length:Int)) (if a0.getD a.toNat default=(-1) then Option.map Sum.inr (some (([],[],[]),false)) else Bh (0<=a/\a<(c.length:Int)) (Bh (C0 (b - 1)) (some (Sum.inl ((d.set a.toNat b),c.getD a.toNat default,(b - 1))))))) else Option.map Sum.inr ((DA a0 e c) d a)
def DB(a0:List Int)(b:List Int)(a:List Int)(s:(List Int)×Int×Int):Option (Ads×Bool):=Go.L.run (BO a0 b a) s
def DC(a0:List Int)(b:List Int)(c:List Int)(a:List Int):Option (Ads×Bool):=
 (DB a0 b a) (c,0,((a0.length:Int) - 1))
def Cp(a0:List Int)(d:List Int)(e:List Int):(List Int)×Int×Int->Option (((List Int)×Int×Int) ⊕ (Ads×Bool)):=fun⟨b,c,a⟩=>
 if a<256 then(Fc a0 a) (b,c,0) else Option.map Sum.inr ((DC a0 d e) b)
def GH(a0:List Int)(a:List Int)(b:List Int)(s:(List Int)×Int×Int):Option (Ads×Bool):=Go.L.run (Cp a0 a b) s
def DD(a0:List Int)(a:List Int)(b:List Int)(c:List Int):Option (Ads×Bool):=
 (GH a0 a c) (b,1,0)
def CY(a0:List Int):Option (Ads×Bool):=
 Bh (C0 ((a0.length:Int) - 1)) (Bh (C0 (((a0.length:Int) - 1)+1)) (Bh (C0 (((a0.length:Int) - 1)+1)) (Bh (0<=(((a0.length:Int) - 1)+1)/\((8:Nat):Int) * (((a0.length:Int) - 1)+1)<=281474976710656/\(((a0.length:Int) - 1)+1)<=9223372036854775807) (Bh (0<=(((a0.length:Int) - 1)+1)/\((8:Nat):Int) * (((a0.length:Int) - 1)+1)<=281474976710656/\(((a0.length:Int) - 1)+1)<=9223372036854775807) ((DD a0) a0 (List.replicate (((a0.length:Int) - 1)+1).toNat (0:Int)) (List.replicate (((a0.length:Int) - 1)+1).toNat (0:Int)))))))
theorem LM(w:World)(H:PH)(hH:Le H (hp w)){a0:List Int}{c:Value}(m:AA (.int .i64) H c a0){r:Ads×Bool}(h:CY a0=some r):
  Ok prog 76 [c] w (fun v w'=>Ext w w'/\∃ u0 u1 u2,v=.tuple #[.agg #[u0,u1,u2],.bool r.2]/\AA (.int .i64) (un H (nw w w')) u0 (r.1.1)/\Ck 3 (.int .i64) H w w' u1 (r.1.2.1)/\Ck 3 (.int .i64) H w w' u2 (r.1.2.2)):=by
 refine Aw (n:=77) [(0,c)] func76 rfl fun hL=>Ai<|A3 Fq rfl rfl hL fun w1 b1 ga gw _=>A4 1 rfl<|Bs 1 rfl<|Ah (Bj rfl Aa8 m) rfl<|AB h fun gb h=>Ah (AK rfl gb) rfl<|A4 1 rfl<|Bw (σ:=(List Int)×(List Int)×(List Int)×Nat×Value×Value×(List Value)×Value×(List Value)) (fun⟨ab,bf,ac,bjb43,d,e,ay,f,p⟩=>[(0,c),(2,(Aas b1)),(4,No ((a0.length:Int) - 1)),(5,(Aas bjb43))]) (fun⟨ab,bf,ac,bjb43,d,e,ay,f,p⟩ wr=>FL w [.box bjb43 [d,e,f] 98,.row f 3 1 (ac).length p,.row e 3 1 (bf).length ay,.box b1 [Aaq,Aaq,Aaq] 98] wr fun Oz=>AA (.int .i64) (gz H w wr Oz) d ab/\AF (.int .i64) (gz H w wr Oz) ac p/\AF (.int .i64) (gz H w wr Oz) bf ay/\(DD a0) ab bf ac=some r) ?_ ?_
 ·refine Sn (.q 0 (.q 1 (.q 2 (.q 3 (.q 5 (.q 6 (.h3 4 (.h2 7 (.q 8 (.h 9 (.tail 10))) 9 (.h 7 (.q 8 (.tail 10)))) 7 (.h2 4 (.q 8 (.h 9 (.tail 10))) 9 (.h 4 (.q 8 (.tail 10)))) 9 (.h2 4 (.h 7 (.q 8 (.tail 10))) 7 (.h 4 (.q 8 (.tail 10))))))))))) mixed (by kernel_rfl) (fun hh fx=>?_);have b5:=ga.call fx;refine GQ 1 rfl<|FK (AN rfl (fun _=>Z3 _ m.one _)) rfl rfl<|GQ 1 rfl<|AB h fun fy h=>FK (AK rfl fy) rfl rfl<|GQ 1 rfl<|AB h fun fz h=>FK (AK rfl fz) rfl rfl<|Acn ?_ ?_ ?_
  ·refine AB h fun ax h=>J8 (r:=(.int .i64)) (z:=0) rfl rfl rfl rfl Aa8 Dd rfl (fun _=>rfl) rfl hH b5 ax fun cq hi b6 dm gk a7=>Tl ?_ ?_
   ·refine AB h fun ao h=>J8 (r:=(.int .i64)) (z:=0) rfl rfl rfl rfl Aa8 Dd rfl (fun _=>rfl) rfl hH dm ao fun gc hj f0 b7 ew b8=>FK (AN rfl (fun _=>IC _ _ (row_one (b7.at (i:=1) rfl)) _ (row_one (b7.at (i:=0) rfl)) _)) rfl rfl<|L5 rfl Fq rfl rfl b7 fun hk gd dn cr=>DX (fun hl dp=>?_);have b9:=dn.call dp;have cs:=AP dn dp;refine Ad 0 rfl Fq b9 rfl (Bb m.one (Bb (row_one (b9.at (i:=2) rfl)) (Bb (row_one (b9.at (i:=1) rfl)) I8))) fun hm f1 ct=>AQ ?_;have a7:=a7.mono (Aa hH (ew.trans (cr.trans (cs.trans ct))));have b8:=b8.mono (Aa hH (cr.trans (cs.trans ct)));refine A6 (a0,(List.replicate (((a0.length:Int) - 1)+1).toNat (0:Int)),(List.replicate (((a0.length:Int) - 1)+1).toNat (0:Int)),gd,c,cq,b6,gc,f0) (Sub.of rfl) ⟨f1,(m.mono (Ae hH)),b8,a7,h⟩
   refine AB h fun ao h=>L5 rfl Fq rfl rfl dm fun hn fu f2 ex=>J8 (r:=(.int .i64)) (z:=0) rfl rfl rfl rfl Aa8 Dd rfl (fun _=>rfl) rfl hH f2 ao fun dq ho dr bj ey ca=>FK (AN rfl (fun _=>IC _ _ (row_one (bj.at (i:=2) rfl)) _ (row_one (bj.at (i:=0) rfl)) _)) rfl rfl<|DX (fun hq ds=>?_);have cb:=bj.call ds;have cu:=AP bj ds;refine Ad 1 rfl Fq cb rfl (Bb m.one (Bb (row_one (cb.at (i:=2) rfl)) (Bb (row_one (cb.at (i:=0) rfl)) I8))) fun ge dt cv=>AQ ?_;have du:AU w [.box fu [c,cq,dq] 98,.row dq 3 1 ((List.replicate (((a0.length:Int) - 1)+1).toNat (0:Int))).length dr,.row cq 3 1 ((List.replicate (((a0.length:Int) - 1)+1).toNat (0:Int))).length b6,.box b1 [Aaq,Aaq,Aaq] 98] ge:=dt.CW [1] rfl;have cw:=B9 [1] dt du rfl;have a7:=a7.mono (Aa hH (ex.trans (ey.trans (cu.trans (cv.trans cw)))));have ca:=ca.mono (Aa hH (cu.trans (cv.trans cw)))
   refine A6 (a0,(List.replicate (((a0.length:Int) - 1)+1).toNat (0:Int)),(List.replicate (((a0.length:Int) - 1)+1).toNat (0:Int)),fu,c,cq,b6,dq,dr) (Sub.of rfl) ⟨du,(m.mono (Ae hH)),ca,a7,h⟩
  ·refine AB h fun ax h=>AB h fun ao h=>J8 (r:=(.int .i64)) (z:=0) rfl rfl rfl rfl Aa8 Dd rfl (fun _=>rfl) rfl hH b5 ao fun bg hr bk dv gl a8=>Tl ?_ ?_
   ·refine J8 (r:=(.int .i64)) (z:=0) rfl rfl rfl rfl Aa8 Dd rfl (fun _=>rfl) rfl hH dv ax fun dw hs dx cc ez cd=>FK (AN rfl (fun _=>IC _ _ (row_one (cc.at (i:=0) rfl)) _ (row_one (cc.at (i:=1) rfl)) _)) rfl rfl<|L5 rfl Fq rfl rfl cc fun ht fv dy cx=>DX (fun hu dz=>?_);have ce:=dy.call dz;have cy:=AP dy dz;refine Ad 0 rfl Fq ce rfl (Bb m.one (Bb (row_one (ce.at (i:=1) rfl)) (Bb (row_one (ce.at (i:=2) rfl)) I8))) fun gf d0 cz=>AQ ?_;have d1:AU w [.box fv [c,dw,bg] 98,.row bg 3 1 ((List.replicate (((a0.length:Int) - 1)+1).toNat (0:Int))).length bk,.row dw 3 1 ((List.replicate (((a0.length:Int) - 1)+1).toNat (0:Int))).length dx,.box b1 [Aaq,Aaq,Aaq] 98] gf:=d0.CW [2,1] rfl;have c0:=B9 [2,1] d0 d1 rfl;have a8:=a8.mono (Aa hH (ez.trans (cx.trans (cy.trans (cz.trans c0)))));have cd:=cd.mono (Aa hH (cx.trans (cy.trans (cz.trans c0))));refine A6 (a0,(List.replicate (((a0.length:Int) - 1)+1).toNat (0:Int)),(List.replicate (((a0.length:Int) - 1)+1).toNat (0:Int)),fv,c,dw,dx,bg,bk) (Sub.of rfl) ⟨d1,(m.mono (Ae hH)),a8,cd,h⟩
   refine L5 rfl Fq rfl rfl dv fun hv fw f3 e0=>J8 (r:=(.int .i64)) (z:=0) rfl rfl rfl rfl Aa8 Dd rfl (fun _=>rfl) rfl hH f3 ax fun d2 hw d3 bl e1 cf=>FK (AN rfl (fun _=>IC _ _ (row_one (bl.at (i:=0) rfl)) _ (row_one (bl.at (i:=2) rfl)) _)) rfl rfl<|DX (fun hx d4=>?_);have cg:=bl.call d4;have c1:=AP bl d4;refine Ad 1 rfl Fq cg rfl (Bb m.one (Bb (row_one (cg.at (i:=0) rfl)) (Bb (row_one (cg.at (i:=2) rfl)) I8))) fun gg d5 c2=>AQ ?_;have d6:AU w [.box fw [c,d2,bg] 98,.row bg 3 1 ((List.replicate (((a0.length:Int) - 1)+1).toNat (0:Int))).length bk,.row d2 3 1 ((List.replicate (((a0.length:Int) - 1)+1).toNat (0:Int))).length d3,.box b1 [Aaq,Aaq,Aaq] 98] gg:=d5.CW [2,2] rfl;have c3:=B9 [2,2] d5 d6 rfl;have a8:=a8.mono (Aa hH (e0.trans (e1.trans (c1.trans (c2.trans c3)))));have cf:=cf.mono (Aa hH (c1.trans (c2.trans c3)));refine A6 (a0,(List.replicate (((a0.length:Int) - 1)+1).toNat (0:Int)),(List.replicate (((a0.length:Int) - 1)+1).toNat (0:Int)),fw,c,d2,d3,bg,bk) (Sub.of rfl) ⟨d6,(m.mono (Ae hH)),a8,cf,h⟩
  refine AB h fun ax h=>AB h fun ao h=>L5 rfl Fq rfl rfl b5 fun hy c4 d7 gm=>Tl ?_ ?_
  ·refine J8 (r:=(.int .i64)) (z:=0) rfl rfl rfl rfl Aa8 Dd rfl (fun _=>rfl) rfl hH d7 ax fun d8 hz d9 f4 gn ch=>J8 (r:=(.int .i64)) (z:=0) rfl rfl rfl rfl Aa8 Dd rfl (fun _=>rfl) rfl hH f4 ao fun ea h0 eb bm e2 ci=>FK (AN rfl (fun _=>IC _ _ (row_one (bm.at (i:=1) rfl)) _ (row_one (bm.at (i:=0) rfl)) _)) rfl rfl<|DX (fun h1 ec=>?_);have cj:=bm.call ec;have c5:=AP bm ec;refine Ad 2 rfl Fq cj rfl (Bb m.one (Bb (row_one (cj.at (i:=1) rfl)) (Bb (row_one (cj.at (i:=0) rfl)) I8))) fun gh ed c6=>AQ ?_;have ee:AU w [.box c4 [c,d8,ea] 98,.row ea 3 1 ((List.replicate (((a0.length:Int) - 1)+1).toNat (0:Int))).length eb,.row d8 3 1 ((List.replicate (((a0.length:Int) - 1)+1).toNat (0:Int))).length d9,.box b1 [Aaq,Aaq,Aaq] 98] gh:=ed.CW [2] rfl;have c7:=B9 [2] ed ee rfl;have ch:=ch.mono (Aa hH (e2.trans (c5.trans (c6.trans c7))));have ci:=ci.mono (Aa hH (c5.trans (c6.trans c7)))
   refine A6 (a0,(List.replicate (((a0.length:Int) - 1)+1).toNat (0:Int)),(List.replicate (((a0.length:Int) - 1)+1).toNat (0:Int)),c4,c,d8,d9,ea,eb) (Sub.of rfl) ⟨ee,(m.mono (Ae hH)),ci,ch,h⟩
  refine J8 (r:=(.int .i64)) (z:=0) rfl rfl rfl rfl Aa8 Dd rfl (fun _=>rfl) rfl hH d7 ao fun ef h4 eg f5 go ck=>J8 (r:=(.int .i64)) (z:=0) rfl rfl rfl rfl Aa8 Dd rfl (fun _=>rfl) rfl hH f5 ax fun eh h5 ei bn e3 cl=>FK (AN rfl (fun _=>IC _ _ (row_one (bn.at (i:=0) rfl)) _ (row_one (bn.at (i:=1) rfl)) _)) rfl rfl<|DX (fun h6 ej=>?_);have cm:=bn.call ej;have c8:=AP bn ej;refine Ad 2 rfl Fq cm rfl (Bb m.one (Bb (row_one (cm.at (i:=0) rfl)) (Bb (row_one (cm.at (i:=1) rfl)) I8))) fun gi ek c9=>AQ ?_;have el:AU w [.box c4 [c,eh,ef] 98,.row ef 3 1 ((List.replicate (((a0.length:Int) - 1)+1).toNat (0:Int))).length eg,.row eh 3 1 ((List.replicate (((a0.length:Int) - 1)+1).toNat (0:Int))).length ei,.box b1 [Aaq,Aaq,Aaq] 98] gi:=ek.CW [1,2] rfl;have da:=B9 [1,2] ek el rfl;have ck:=ck.mono (Aa hH (e3.trans (c8.trans (c9.trans da))));have cl:=cl.mono (Aa hH (c8.trans (c9.trans da)))
  refine A6 (a0,(List.replicate (((a0.length:Int) - 1)+1).toNat (0:Int)),(List.replicate (((a0.length:Int) - 1)+1).toNat (0:Int)),c4,c,eh,ei,ef,eg) (Sub.of rfl) ⟨el,(m.mono (Ae hH)),ck,cl,h⟩
 rintro⟨ab,bf,ac,bjb43,d,e,ay,f,p⟩ gx ⟨em,e4,e5,e6,h⟩;have cn:=em.rG H;refine AD 1 rfl<|Bw (σ:=(List Int)×(List Value)) (fun⟨t,o⟩=>[(0,c),(2,(Aas b1)),(4,No ((a0.length:Int) - 1)),(5,(Aas bjb43))]) (fun⟨t,o⟩ wr=>FL w [.box bjb43 [d,e,f] 98,.row f 3 1 (ac).length p,.row e 3 1 (t).length o,.box b1 [Aaq,Aaq,Aaq] 98] wr fun Oz=>AA (.int .i64) (gz H w wr Oz) d ab/\AF (.int .i64) (gz H w wr Oz) ac p/\AF (.int .i64) (gz H w wr Oz) t o/\(DC a0 ab ac) t=some r) ?_ ?_
 ·refine AD 1 rfl<|A2 ?_;obtain⟨co,h⟩:=AY h;refine B8 (σ:=(List Int)×Int×Int×(List Value)×Nat) (fun⟨ap,aj,k,ag,n⟩=>[(0,c),(2,(Aas b1)),(4,No ((a0.length:Int) - 1)),(5,(Aas bjb43)),(6,No aj),(24,No k)]) (fun⟨ap,aj,k,ag,n⟩ wr=>FL w [.box bjb43 [d,e,f] 98,.row f 3 1 (ac).length p,.row e 3 1 (ap).length ag,.box b1 [Aaq,Aaq,Aaq] 98] wr fun Oz=>AA (.int .i64) (gz H w wr Oz) d ab/\AF (.int .i64) (gz H w wr Oz) ac p/\AF (.int .i64) (gz H w wr Oz) ap ag/\GR (Cp a0 ab ac) n (ap,aj,k)=some r) (fun⟨ap,aj,k,ag,n⟩=>n) (bf,1,0,ay,co) (Sub.of rfl) ⟨em,(e4.mono cn),(e5.mono cn),(e6.mono cn),h⟩ ?_;rintro⟨ap,aj,k,ag,nn237⟩ gp ⟨bo,bh,he237_j47,b2,h⟩;obtain⟨co,en,rfl,h,db⟩:=AX h;have av:=bo.rG H;refine AD 1 rfl<|A9<|AO rfl h (fun e7 h=>?_) (fun e7 h=>?_)
  ·refine Au<|Ar<|Bw (σ:=(List Int)×Int×(List Value)) (fun⟨a9,aq,ar⟩=>[(0,c),(2,(Aas b1)),(4,No ((a0.length:Int) - 1)),(5,(Aas bjb43)),(6,No aq),(24,No k)]) (fun⟨a9,aq,ar⟩ wr=>FL w [.box bjb43 [d,e,f] 98,.row f 3 1 (ac).length p,.row e 3 1 (a9).length ar,.box b1 [Aaq,Aaq,Aaq] 98] wr fun Oz=>AA (.int .i64) (gz H w wr Oz) d ab/\AF (.int .i64) (gz H w wr Oz) ac p/\AF (.int .i64) (gz H w wr Oz) a9 ar/\(D8 k) a9 aq=some en) ?_ ?_
   ·refine A2<|AD 2 rfl<|Bs 1 rfl<|Ah (Bj rfl Aa8 m) rfl<|A4 1 rfl<|A2 ?_;obtain⟨bp,h⟩:=AY h;refine B8 (σ:=(List Int)×Int×Int×(List Value)×Nat) (fun⟨al,u,l,ah,n⟩=>[(0,c),(2,(Aas b1)),(4,No ((a0.length:Int) - 1)),(5,(Aas bjb43)),(6,No u),(7,No k),(24,No k),(27,c),(28,No (a0.length:Int)),(29,No l)]) (fun⟨al,u,l,ah,n⟩ wr=>FL w [.box bjb43 [d,e,f] 98,.row f 3 1 (ac).length p,.row e 3 1 (al).length ah,.box b1 [Aaq,Aaq,Aaq] 98] wr fun Oz=>AA (.int .i64) (gz H w wr Oz) d ab/\AF (.int .i64) (gz H w wr Oz) ac p/\AF (.int .i64) (gz H w wr Oz) al ah/\GR (Co a0 k) n (al,u,l)=some en) (fun⟨al,u,l,ah,n⟩=>n) (ap,aj,0,ag,bp) (Sub.of rfl) ⟨bo,(bh.mono av),(he237_j47.mono av),(b2.mono av),h⟩ ?_;rintro⟨al,u,l,ah,nn299⟩ gq ⟨am,ba,he299_j47,be,h⟩;obtain⟨bp,gy,rfl,h,bq⟩:=AX h;have y:=am.rG H;refine AD 1 rfl<|A9<|AO rfl h (fun e8 h=>?_) (fun e8 h=>?_)
    ·refine Au<|Ar<|A9<|A2<|Bs 1 rfl<|AB h fun dc h=>Be rfl rfl Aa8 Dd m l.toNat (Hc dc) (Ba dc) rfl ?_;rintro g0 _ rfl e9;refine Ah (Bu rfl AaA rfl e9 (hH.trans am.arg)) rfl<|A4 2 rfl<|AD 3 rfl<|AO rfl h (fun fa h=>?_) (fun fa h=>?_)
     ·refine Ai<|Ah (Af rfl AcU rfl Rs) rfl<|Ah (Ag 0 rfl Aa8 rfl am rfl) rfl<|As 2 rfl<|AB h fun br h=>Kv 2 rfl rfl Aa8 Dd am rfl l.toNat (Hc br) (Ba br) rfl fun g1 fb=>Kw (z:=u) (j:=l.toNat) 2 rfl rfl rfl Dd hH am rfl (be.mono y) fb rfl (Ba br) rfl fun g2 fc fd eo fe=>Ac<|Av<|As 1 rfl<|AB h fun ff h=>Ah (AK rfl ff) rfl<|As 1 rfl<|AQ<|AJ<|Ar<|Av<|AB h fun fg h=>Ah (AK rfl fg) rfl<|As 1 rfl<|AQ ?_;have h:=CV.again h bq;have y:=y.trans (Aa hH eo);refine AW ((al.set l.toNat u),(u+1),(l+1),fc,bp) (Sub.of rfl) ⟨fd,(ba.mono y),(he299_j47.mono y),fe,h⟩ (Nat.lt_succ_self _)
     refine Au<|AJ<|Ar<|Av<|AB h fun fh h=>Ah (AK rfl fh) rfl<|As 1 rfl<|AQ ?_;have h:=CV.again h bq;refine AW (al,u,(l+1),ah,bp) (Sub.of rfl) ⟨am,(ba.mono y),(he299_j47.mono y),(be.mono y),h⟩ (Nat.lt_succ_self _)
    refine B5<|AE<|A7 ?_;have h:=CV.out h bq;refine Bk<|AJ<|A6 (al,u,ah) (Sub.of rfl) ⟨am,(ba.mono y),(he299_j47.mono y),(be.mono y),h⟩
   rintro⟨a9,aq,ar⟩ gr ⟨dd,dk,he279_j47,ep,h⟩;have bs:=dd.rG H;refine Av<|AB h fun fi h=>Ah (AK rfl fi) rfl<|As 1 rfl<|AQ ?_;have h:=CV.again h db;refine AW (a9,aq,(k+1),ar,co) (Sub.of rfl) ⟨dd,(dk.mono bs),(he279_j47.mono bs),(ep.mono bs),h⟩ (Nat.lt_succ_self _)
  refine B5<|AE<|A7 ?_;have h:=CV.out h db;refine Bk<|A6 (ap,ag) (Sub.of rfl) ⟨bo,(bh.mono av),(he237_j47.mono av),(b2.mono av),h⟩
 rintro⟨t,o⟩ gs ⟨de,dl,he189_j47,eq,h⟩;have bt:=de.rG H;refine AD 1 rfl<|Bw (σ:=(List Int)×Int×(List Value)) (fun⟨an,a,az⟩=>[(0,c),(2,(Aas b1)),(5,(Aas bjb43)),(10,No a)]) (fun⟨an,a,az⟩ wr=>FL w [.box bjb43 [d,e,f] 98,.row f 3 1 (an).length az,.row e 3 1 (t).length o,.box b1 [Aaq,Aaq,Aaq] 98] wr fun Oz=>AA (.int .i64) (gz H w wr Oz) d ab/\AF (.int .i64) (gz H w wr Oz) an az/\AF (.int .i64) (gz H w wr Oz) t o/\(DA a0 ab t) an a=some r) ?_ ?_
 ·refine AD 2 rfl<|A2 ?_;obtain⟨cp,h⟩:=AY h;refine B8 (σ:=(List Int)×Int×Int×(List Value)×Nat) (fun⟨au,g,x,ak,n⟩=>[(0,c),(2,(Aas b1)),(5,(Aas bjb43)),(10,No g),(11,No x)]) (fun⟨au,g,x,ak,n⟩ wr=>FL w [.box bjb43 [d,e,f] 98,.row f 3 1 (au).length ak,.row e 3 1 (t).length o,.box b1 [Aaq,Aaq,Aaq] 98] wr fun Oz=>AA (.int .i64) (gz H w wr Oz) d ab/\AF (.int .i64) (gz H w wr Oz) au ak/\AF (.int .i64) (gz H w wr Oz) t o/\GR (BO a0 ab t) n (au,g,x)=some r) (fun⟨au,g,x,ak,n⟩=>n) (ac,0,((a0.length:Int) - 1),p,cp) (Sub.of rfl) ⟨de,(dl.mono bt),(he189_j47.mono bt),(eq.mono bt),h⟩ ?_;rintro⟨au,g,x,ak,nn382⟩ gt ⟨a1,bi,b3,he382_j45,h⟩;obtain⟨cp,g3,rfl,h,bu⟩:=AX h;refine A9 ?_;have ad:=a1.rG H;refine AD 2 rfl<|AO rfl h (fun fj h=>?_) (fun fj h=>?_)
  ·refine Au<|Ar<|A9<|A2<|Ai<|Ah (Af rfl AcU rfl Rs) rfl<|Ah (Ag 0 rfl Aa8 rfl a1 rfl) rfl<|As 2 rfl<|AB h fun bv h=>Kv 1 rfl rfl Aa8 Dd a1 rfl g.toNat (Hc bv) (Ba bv) rfl fun g4 fk=>Kw (z:=x) (j:=g.toNat) 1 rfl rfl rfl Dd hH a1 rfl (b3.mono ad) fk rfl (Ba bv) rfl fun g5 fl a2 er fm=>Ac<|A9<|Bs 2 rfl<|AB h fun df h=>Be rfl rfl Aa8 Dd m g.toNat (Hc df) (Ba df) rfl ?_;rintro g6 _ rfl fn;refine Ah (Bu rfl AaA rfl fn (hH.trans a2.arg)) rfl<|A4 1 rfl<|AO rfl h (fun fo h=>?_) (fun fo h=>?_)
   ·refine Ai<|Ah (AN rfl (fun _=>Vv _)) rfl<|Ad 3 rfl Fq a2 rfl (AT rfl) fun g7 dg gj=>A4 1 rfl<|Ax<|Ay<|Az<|Ay<|Cv ?_;have h:=CV.out h bu;refine Az<|BH ?_
    cases h
    refine B0 rfl (.cell rfl AcU rfl Fq (AG (i:=3) dg rfl)) (.tmp rfl) ⟨dg.ext,_,_,_,rfl,(AA.nil _ _),Ck.nil,Ck.nil⟩
   refine Au<|Ar<|Av<|Ah (Af rfl AcU rfl Rs) rfl<|Ah (Ag 0 rfl Aa8 rfl a2 rfl) rfl<|As 1 rfl<|AB h fun dh h=>?_;have ad:=ad.trans (Aa hH er);refine Be rfl rfl Aa8 Dd (a2.Zi hH (i:=2) rfl (he382_j45.mono ad)) g.toNat (Hc dh) (Ba dh) rfl ?_;rintro g8 _ rfl fp;refine Ah (Bu rfl AaA rfl fp (Le.refl _)) rfl<|As 1 rfl<|AQ<|AJ<|Ar<|Av<|As 1 rfl<|AB h fun fq h=>Ah (AK rfl fq) rfl<|As 1 rfl<|AQ ?_;have h:=CV.again h bu;refine AW ((au.set g.toNat x),t.getD g.toNat default,(x - 1),fl,cp) (Sub.of rfl) ⟨a2,(bi.mono ad),fm,(he382_j45.mono ad),h⟩ (Nat.lt_succ_self _)
  refine B5<|AE<|A7 ?_;have h:=CV.out h bu;refine Bk<|A6 (au,g,ak) (Sub.of rfl) ⟨a1,(bi.mono ad),(b3.mono ad),(he382_j45.mono ad),h⟩
 rintro⟨an,a,az⟩ gu ⟨bb,af,es,he361_j45,h⟩;have s:=bb.rG H;refine Ai<|Ah (Af rfl AcU rfl Rs) rfl<|Ah (Ag 0 rfl Aa8 rfl bb rfl) rfl<|As 1 rfl<|AB h fun bw h=>Kv 1 rfl rfl Aa8 Dd bb rfl a.toNat (Hc bw) (Ba bw) rfl fun g9 fr=>Kw (z:=0) (j:=a.toNat) 1 rfl rfl rfl Dd hH bb rfl (es.mono s) fr rfl (Ba bw) rfl fun ha bx di b4 aw=>Ac<|Bw (σ:=(List Int)×Bool×Value) (fun⟨bz,a3,bc⟩=>[(2,(Aas b1)),(3,.bool a3)]) (fun⟨bz,a3,bc⟩ wr=>FL w [.box bjb43 [d,e,f] 98,.row f 3 1 ((an.set a.toNat (0:Int))).length bx,.row e 3 1 (t).length o,.box b1 [bc,e,f] 98] wr fun Oz=>AA (.int .i64) (gz H w wr Oz) d ab/\AF (.int .i64) (gz H w wr Oz) ((an.set a.toNat (0:Int))) bx/\AF (.int .i64) (gz H w wr Oz) t o/\AA (.int .i64) (gz H w wr Oz) bc bz/\(D9 t an a) bz a3=some r) ?_ ?_
 ·refine Jw (M4 L6) (fun z0 z=>Le (gz H w z0 [.box bjb43 [d,e,f] 98,.row f 3 1 ((an.set a.toNat (0:Int))).length bx,.row e 3 1 (t).length o,.box b1 [Aaq,Aaq,Aaq] 98]) (hp z)/\z.heap[bjb43]? = some (.cells [d,e,f].toArray 98 (0,0))) mixed rfl (fun ae hc dj=>?_);have aa:=di.call dj;have a4:=AP di dj;have b:=aa.rG H;refine LI ⟨b.trans (Al hH aa),aa.at (i:=0) rfl⟩ fun kI426=>A1 0 ae kI426 (by kernel_rfl) rfl (fun _ hI=>JL rfl AcU rfl Fq hI.2) rfl<|A1 1 ae kI426 (by kernel_rfl) rfl (fun _ _=>Aj rfl) rfl<|A1 2 ae kI426 (by kernel_rfl) rfl (fun _ _=>Aj rfl) rfl<|WH (i:=3) (j:=6) (by kernel_rfl) rfl rfl ?_ ?_
  ·refine AB h fun a5 h=>Be rfl rfl Aa8 Dd m a.toNat (Hc a5) (Ba a5) rfl ?_;rintro hd _ rfl fs;refine AL ⟨b.trans (Al hH aa),aa.at (i:=0) rfl⟩ fun kI429=>A1 4 ae kI429 (by kernel_rfl) rfl (fun _ hI=>Bu rfl AaA rfl (fs.mono (Ae hH)) hI.1) rfl<|A1 5 ae kI429 (by kernel_rfl) rfl (fun _ _=>Aj rfl) rfl<|Er (i:=6) (by kernel_rfl) rfl ?_;have s:=s.trans (Aa hH (b4.trans a4));refine Ad 3 rfl Fq aa rfl (Bb ((af.mono s).mono b).one (Bb (row_one (aa.at (i:=2) rfl)) (Bb (row_one (aa.at (i:=1) rfl)) I8))) ?_;intro he b0 et;have b:=b.trans (Aa hH et);refine AL ⟨b.trans (Al hH b0),b0.at (i:=0) rfl⟩ fun kI431=>A1 7 ae kI431 (by kernel_rfl) rfl (fun _ _=>Aj rfl) rfl<|D6 (by kernel_rfl) ?_;have aw:=aw.mono (Aa hH a4);refine A6 (ab,decide (a0.getD a.toNat default=(-1)),d) (Sub.of rfl) ⟨b0,((af.mono s).mono b),(aw.mono b),((he361_j45.mono s).mono b),((af.mono s).mono b),h⟩
  refine AB h fun a5 h=>?_;have s:=s.trans (Aa hH (b4.trans a4));refine Ad 3 rfl Fq aa rfl (Bb ((af.mono s).mono b).one (Bb (row_one (aa.at (i:=2) rfl)) (Bb (row_one (aa.at (i:=1) rfl)) I8))) ?_;intro hf a6 eu;have b:=b.trans (Aa hH eu);refine AL ⟨b.trans (Al hH a6),a6.at (i:=0) rfl⟩ fun kI433=>Er (i:=3) (by kernel_rfl) rfl<|Be rfl rfl Aa8 Dd m a.toNat (Hc a5) (Ba a5) rfl ?_;rintro hg _ rfl ft;refine AL ⟨b.trans (Al hH a6),a6.at (i:=0) rfl⟩ fun kI435=>A1 4 ae kI435 (by kernel_rfl) rfl (fun _ hI=>Bu rfl AaA rfl (ft.mono (Ae hH)) hI.1) rfl<|A1 5 ae kI435 (by kernel_rfl) rfl (fun _ _=>Aj rfl) rfl<|A1 7 ae kI435 (by kernel_rfl) rfl (fun _ _=>Aj rfl) rfl<|D6 (by kernel_rfl) ?_;have aw:=aw.mono (Aa hH a4);refine A6 (ab,decide (a0.getD a.toNat default=(-1)),d) (Sub.of rfl) ⟨a6,((af.mono s).mono b),(aw.mono b),((he361_j45.mono s).mono b),((af.mono s).mono b),h⟩
 rintro⟨bz,a3,bc⟩ gv ⟨bd,f6,he421_j47,he421_j45,ev,h⟩;refine Ax ?_
 cases h
 refine B0 rfl (.cell rfl AcU rfl Fq (AG (i:=3) bd rfl)) (.tmp rfl) ⟨bd.ext,_,_,_,rfl,(ev.mono (Dg hH)),(bd.GS hH (i:=2) rfl he421_j45),(bd.GS hH (i:=1) rfl he421_j47)⟩
def C5(a0:((List Int))×(List Int)×(List Int))(a1 a2:Int):Option (Aaz×(Int×Int)):=
 if a1<0 then Option.bind (Gn (4:Int) (-1:Int)) (fun e=>some ([],(e.1,e.2))) else Option.bind (B3 (a0.1,a0.2.1,a0.2.2)) (fun h=>if h<a1 then Option.bind (Gn (4:Int) (-1:Int)) (fun a=>some ([],(a.1,a.2))) else(if a2<a1 then Option.bind (Gn (4:Int) (-2:Int)) (fun b=>some ([],(b.1,b.2))) else Option.bind (B3 (a0.1,a0.2.1,a0.2.2)) (fun f=>if f<a2 then Option.bind (Gn (4:Int) (-2:Int)) (fun c=>some ([],(c.1,c.2))) else Option.bind (Dv (a0.1,a0.2.1,a0.2.2)) (fun d=>Bh (0<=a1/\a1<=a2/\a2<=(d.length:Int)) (Option.bind (CP ((d.drop a1.toNat).take (a2.toNat - a1.toNat))) (fun g=>some (g,(0,0))))))))
theorem KQ(w:World)(H:PH)(hH:Le H (hp w)){a0:((List Int))×(List Int)×(List Int)}{a1 a2:Int}{f g j:Value}(k:AA (.int .i64) H f (a0.1))(l:AA (.int .i64) H g (a0.2.1))(m:AA (.int .i64) H j (a0.2.2)){r:Aaz×(Int×Int)}(h:C5 a0 a1 a2=some r):
  Ok prog 60 [.agg #[f,g,j],No a1,No a2] w (fun v w'=>Ext w w'/\∃ u0,v=.tuple #[u0,.agg #[No r.2.1,No r.2.2]]/\Ck 5 .byte H w w' u0 (r.1)):=by
 refine Aw (n:=34) [(0,.agg #[f,g,j]),(1,No a1),(2,No a2)] func60 rfl fun hL=>Ai<|Dq (t:=98) rfl rfl rfl hL fun w1 b1 ay bg _=>As 1 rfl<|A3 AI rfl rfl ay fun w2 b2 e bh _=>Ac<|A9<|Bs 3 rfl<|Bl (s:=10) rfl (fun b=>?_) (fun b=>?_)
 ·have h:=Eo (of_decide_eq_true b) h
  iterate 4 refine Ao rfl b rfl ?_
  refine Ah (AH rfl b rfl) rfl<|Ac<|DW rfl<|Ai<|Aq h fun x5 az h=>A8 rfl rfl e (HO _ _ (Al hH e) az) fun w6 bq a3 bi=>As 1 rfl<|Ad 0 rfl AI a3 rfl (AT rfl) fun w7 af bj=>Ac<|Ax<|Ay ?_
  cases h
  refine B0 rfl (.tmp rfl) (.cell rfl AcP rfl AI (AG (i:=0) af rfl)) ⟨af.ext,_,rfl,Ck.nil⟩
 have h:=Ep (of_decide_eq_false b) h;refine Ab rfl b<|Ah (Aj rfl) rfl<|Ab rfl b<|Ah (A5 1 rfl AcU rfl Fq e rfl) rfl<|Ab rfl b<|Aq h fun x9 a4 h=>A8 rfl rfl e (EG (a0:=(a0.1,a0.2.1,a0.2.2)) _ _ (Al hH e) (k.mono (Ae hH)) (l.mono (Ae hH)) (m.mono (Ae hH)) a4) fun br bk c a5=>Ab rfl b<|Ah (Aj rfl) rfl<|Ah (AS rfl b rfl) rfl<|Ac<|AO rfl h (fun ag h=>?_) (fun ag h=>?_)
 ·refine Ai<|Aq h fun bs ah h=>A8 rfl rfl c (HO _ _ (Al hH c) ah) fun bt bl ai a6=>As 1 rfl<|Ad 0 rfl AI ai rfl (AT rfl) fun bu u a7=>Ac<|Ax<|Ay ?_
  cases h
  refine B0 rfl (.tmp rfl) (.cell rfl AcP rfl AI (AG (i:=0) u rfl)) ⟨u.ext,_,rfl,Ck.nil⟩
 refine Au<|Ar<|A9<|Bs 4 rfl<|Bl (s:=20) rfl (fun a=>?_) (fun a=>?_)
 ·have h:=Eo (of_decide_eq_true a) h
  iterate 4 refine Ao rfl a rfl ?_
  refine Ah (AH rfl a rfl) rfl<|Ac<|DW rfl<|Ai<|Aq h fun bv aj h=>A8 rfl rfl c (HO _ _ (Al hH c) aj) fun bw bm ak a8=>As 1 rfl<|Ad 0 rfl AI ak rfl (AT rfl) fun bx x a9=>Ac<|Ax<|Ay ?_
  cases h
  refine B0 rfl (.tmp rfl) (.cell rfl AcP rfl AI (AG (i:=0) x rfl)) ⟨x.ext,_,rfl,Ck.nil⟩
 have h:=Ep (of_decide_eq_false a) h;refine Ab rfl a<|Ah (Aj rfl) rfl<|Ab rfl a<|Ah (A5 1 rfl AcU rfl Fq c rfl) rfl<|Ab rfl a<|Aq h fun bz al h=>A8 rfl rfl c (EG (a0:=(a0.1,a0.2.1,a0.2.2)) _ _ (Al hH c) (k.mono (Ae hH)) (l.mono (Ae hH)) (m.mono (Ae hH)) al) fun b0 bn d ba=>Ab rfl a<|Ah (Aj rfl) rfl<|Ah (AS rfl a rfl) rfl<|Ac<|AO rfl h (fun am h=>?_) (fun am h=>?_)
 ·refine Ai<|Aq h fun b3 an h=>A8 rfl rfl d (HO _ _ (Al hH d) an) fun b4 bo ao bb=>As 1 rfl<|Ad 0 rfl AI ao rfl (AT rfl) fun b5 y bc=>Ac<|Ax<|Ay ?_
  cases h
  refine B0 rfl (.tmp rfl) (.cell rfl AcP rfl AI (AG (i:=0) y rfl)) ⟨y.ext,_,rfl,Ck.nil⟩
 refine Au<|Ar<|Ai<|Ah (A5 1 rfl AcU rfl Fq d rfl) rfl<|Aq h fun b6 ap h=>Bf rfl rfl d (Mk (a0:=(a0.1,a0.2.1,a0.2.2)) _ _ (Al hH d) (k.mono (Ae hH)) (l.mono (Ae hH)) (m.mono (Ae hH)) ap) ?_;rintro bd b7 ⟨_,rfl,z⟩ aq o be;have aa:=z.C8 hH d aq;refine As 2 rfl<|AB h fun ar h=>Ts rfl rfl rfl Abj NK aa ar rfl fun b8 au=>Aq h fun b9 av h=>Bf rfl rfl o (Ia _ _ (Al hH o) au av) ?_;rintro bf ca ⟨_,rfl,ab⟩ aw ac ad;obtain⟨bp,ac,ad,p⟩:=ab.take hH o aw;refine Ah (AN rfl (fun _=>BL _)) rfl<|As 1 rfl<|Ad 1 rfl AI ac rfl (AT rfl) fun cb q ae=>Ac<|Ax ?_
 cases h
 refine B0 rfl (.tmp rfl) (.cell rfl AcP rfl AI (AG (i:=1) q rfl)) ?_;have p:=p.mono (Aa hH ae);exact⟨q.ext,_,rfl,(q.GS hH (i:=0) rfl p)⟩
def DE(a1:Int):Option ((List Int)):=
 Bh (C0 (0 - 0)) (Bh (C0 (a1 - (0 - 0))) (if 0<(a1 - (0 - 0)) then Bh (0<(a1 - (0 - 0))/\(a1 - (0 - 0)) * 8<=281474976710656) (some (([]:List Int))) else some ([])))
def EU(_a0:List Int)(a1:Int):Option ((List Int)):=
 if a1<0 then none else(DE a1)
theorem LN(w:World)(H:PH)(hH:Le H (hp w)){a0:List Int}{a1:Int}(_:AA (.int .i64) H Aaq a0){r:(List Int)}(h:EU a0 a1=some r):
  Ok prog 124 [Aaq,No a1] w (fun v w'=>Ext w w'/\∃ x,v=x/\Ck 3 (.int .i64) H w w' x r):=by
 refine Aw (n:=27) [(0,Aaq),(1,No a1)] func124 rfl fun hL=>AD 1 rfl<|Bw (σ:=Unit) (fun(_:Unit)=>[(0,Aaq),(1,No a1)]) (fun(_:Unit) wr=>AU w [] wr/\(DE a1)=some r) ?_ ?_
 ·refine AD 2 rfl<|AO rfl h (fun y h=>?_) (fun y h=>?_)
  ·refine Av ?_
   cases h
  refine Au<|A6 () (Sub.of rfl) ⟨hL,h⟩
 rintro _ ac ⟨d,h⟩;refine A9<|Bs 2 rfl<|Ah (Vi rfl Aa8) rfl<|As 1 rfl<|Ah (O6 rfl Aa8) rfl<|AB h fun g h=>Ah (AK rfl g) rfl<|AB h fun j h=>Ah (AK rfl j) rfl<|A4 1 rfl<|AD 2 rfl<|AO rfl h (fun l h=>?_) (fun l h=>?_)
 ·refine Av<|As 2 rfl<|Ah (Vi rfl Aa8) rfl<|Ah (Qo rfl rfl Aa8 Dd) rfl<|As 1 rfl<|AB h fun ab h=>?_;obtain⟨z,o⟩:=Int.eq_ofNat_of_zero_le (show 0<=(a1 - (0 - 0)) by omega);refine Vj (k:=.i64) (m:=z) rfl (by rw [<- o];rfl) Aa8 AaA Dd rfl rfl (by omega) (by omega) (by omega) fun f a c ad p q s t u=>As 1 rfl<|Ah (O6 rfl Aa8) rfl<|Ah (Xd rfl rfl Aa8 Dd) rfl ?_;obtain⟨b,aa⟩:=Kd (v:=.slice (some ⟨f,0,none⟩) 0 a) (e:=3) (sz:=1) (m:=0) (xs:=[]) d p ⟨rfl,.inr ⟨f,a,c,rfl,q,s,Nat.zero_le _,t,by rw [u,Nat.mul_one],rfl⟩⟩;refine As 1 rfl<|AQ<|Ar<|AD 2 rfl<|Ax ?_
  cases h
  refine Am rfl ⟨b.ext,_,rfl,(b.GS hH (i:=0) rfl .nil)⟩
 refine Au<|Ar<|AD 2 rfl<|Ax ?_
 cases h
 refine Am rfl ⟨d.ext,_,rfl,Ck.nil⟩
def Et(a:List Int):Option ((List Int)):=
 some a
def Bo(a0:List (List Int)):(List Int)×Int->Option (((List Int)×Int) ⊕ ((List Int))):=fun⟨b,a⟩=>
 if a<(a0.length:Int) then Bh (0<=a/\a<(a0.length:Int)) (Bh (Go.E.Ij 8 (b.length+(a0.getD a.toNat default).length)) (Bh (C0 (a+1)) (some (Sum.inl ((b++a0.getD a.toNat default),(a+1)))))) else Option.map Sum.inr (Et b)
def Dh(a0:List (List Int))(s:(List Int)×Int):Option ((List Int)):=Go.L.run (Bo a0) s
def Di(a0:List (List Int))(a:Int):Option ((List Int)):=
 Option.bind (EU ([]) a) (fun b=>(Dh a0) (b,0))
def Bp(a0:List (List Int)):Int×Int->Option ((Int×Int) ⊕ ((List Int))):=fun⟨b,a⟩=>
 if a<(a0.length:Int) then Bh (0<=a/\a<(a0.length:Int)) (Bh (C0 (b+((a0.getD a.toNat default).length:Int))) (if(b+((a0.getD a.toNat default).length:Int))<0 then none else Bh (C0 (a+1)) (some (Sum.inl ((b+((a0.getD a.toNat default).length:Int)),(a+1)))))) else Option.map Sum.inr ((Di a0) b)
def Eu(a0:List (List Int))(s:Int×Int):Option ((List Int)):=Go.L.run (Bp a0) s
def De(a0:List (List Int)):Option ((List Int)):=
 (Eu a0) (0,0)
theorem KR(w:World)(H:PH)(hH:Le H (hp w)){a0:List (List Int)}{e:Value}(o:AA (.vec (.int .i64)) H e a0){r:(List Int)}(h:De a0=some r):
  Ok prog 75 [e] w (fun v w'=>Ext w w'/\∃ u0,v=u0/\Ck 3 (.int .i64) H w w' u0 r):=by
 refine Aw (n:=36) [(0,e)] func75 rfl fun hL=>AD 1 rfl<|AD 1 rfl<|Bw (σ:=Int) (fun j=>[(0,e),(3,No j)]) (fun j wr=>AU w [] wr/\(Di a0) j=some r) ?_ ?_
 ·refine Bs 1 rfl<|Ah (Bj rfl AcV o) rfl<|A4 1 rfl<|A2 ?_;obtain⟨y,h⟩:=AY h;refine B8 (σ:=Int×Int×Nat) (fun⟨c,b,n⟩=>[(0,e),(3,No c),(9,e),(10,No (a0.length:Int)),(11,No b)]) (fun⟨c,b,n⟩ wr=>AU w [] wr/\GR (Bp a0) n (c,b)=some r) (fun⟨c,b,n⟩=>n) (0,0,y) (Sub.of rfl) ⟨hL,h⟩ ?_;rintro⟨c,b,nn42⟩ a7 ⟨s,h⟩;obtain⟨y,bb,rfl,h,z⟩:=AX h;refine AD 1 rfl<|A9<|AO rfl h (fun al h=>?_) (fun al h=>?_)
  ·refine Au<|Ar<|A9<|A2<|Ai<|AB h fun aa h=>Be rfl rfl AcV Rs o b.toNat (Hc aa) (Ba aa) rfl ?_;rintro bc _ ⟨e46v0,rfl,e46h0⟩ am;refine Ah (Bu rfl Aa8 rfl am (hH.trans s.arg)) rfl<|A4 1 rfl<|Bs 2 rfl<|Ah (Bj rfl Aa8 e46h0) rfl<|AB h fun an h=>Ah (AK rfl an) rfl<|A4 1 rfl<|AD 2 rfl<|AO rfl h (fun ao h=>?_) (fun ao h=>?_)
   ·refine Av ?_
    cases h
   refine Au<|AJ<|Ar<|Av<|AB h fun ap h=>Ah (AK rfl ap) rfl<|As 1 rfl<|AQ ?_;have h:=CV.again h z;refine AW ((c+((a0.getD b.toNat default).length:Int)),(b+1),y) (Sub.of rfl) ⟨s,h⟩ (Nat.lt_succ_self _)
  refine B5<|AE<|A7 ?_;have h:=CV.out h z;refine Bk<|A6 c (Sub.of rfl) ⟨s,h⟩
 rintro j a8 ⟨t,h⟩;refine Bs 1 rfl<|Aq h fun a4 aq h=>Bf rfl rfl t (LN _ _ (Al hH t) (AA.nil _ _) aq) ?_;rintro ah bd ⟨_,rfl,ab⟩ ar ac ai;obtain⟨au,ac,ai,av⟩:=ab.take hH t ar;refine A4 1 rfl<|Bw (σ:=(List Int)×Value×(List Value)) (fun⟨q,p,k⟩=>[(6,p)]) (fun⟨q,p,k⟩ wr=>FL w [.row p 3 1 (q).length k] wr fun Oz=>AF (.int .i64) (gz H w wr Oz) q k/\Et q=some r) ?_ ?_
 ·refine Bs 1 rfl<|Ah (Bj rfl AcV o) rfl<|A4 1 rfl<|A2 ?_;obtain⟨ad,h⟩:=AY h;refine B8 (σ:=(List Int)×Int×Value×(List Value)×Nat) (fun⟨f,a,g,d,n⟩=>[(6,g),(25,e),(26,No (a0.length:Int)),(27,No a)]) (fun⟨f,a,g,d,n⟩ wr=>FL w [.row g 3 1 (f).length d] wr fun Oz=>AF (.int .i64) (gz H w wr Oz) f d/\GR (Bo a0) n (f,a)=some r) (fun⟨f,a,g,d,n⟩=>n) (a4,0,ah,au,ad) (Sub.of rfl) ⟨ac,av,h⟩ ?_;rintro⟨f,a,g,d,nn92⟩ a9 ⟨u,x,h⟩;obtain⟨ad,be,rfl,h,ae⟩:=AX h;refine AD 1 rfl<|A9<|AO rfl h (fun aw h=>?_) (fun aw h=>?_)
  ·refine Au<|Ar<|A9<|A2<|Ai<|AB h fun af h=>Be rfl rfl AcV Rs o a.toNat (Hc af) (Ba af) rfl ?_;rintro bf _ ⟨e96v0,rfl,e96h0⟩ ax;refine Ah (Bu rfl Aa8 rfl ax (hH.trans u.arg)) rfl<|A4 1 rfl<|Av<|As 2 rfl<|AB h fun ay h=>Bi (r:=(.int .i64)) (l:=f) (m:=a0.getD a.toNat default) 0 rfl rfl Aa8 Dd rfl (by decide) rfl hH u rfl x (e96h0.mono (Ae hH)) ay fun a5 bg az a1 a6 a2=>As 1 rfl<|AQ<|AJ<|Ar<|Av<|AB h fun aj h=>Ah (AK rfl aj) rfl<|As 1 rfl<|AQ ?_;have h:=CV.again h ae;refine AW ((f++a0.getD a.toNat default),(a+1),a5,az,ad) (Sub.of rfl) ⟨a1,a2,h⟩ (Nat.lt_succ_self _)
  refine B5<|AE<|A7 ?_;have h:=CV.out h ae;refine Bk<|A6 (f,g,d) (Sub.of rfl) ⟨u,x,h⟩
 rintro⟨q,p,k⟩ ba ⟨ag,ak,h⟩;refine AD 2 rfl<|Ax ?_
 cases h
 refine Am rfl ⟨ag.ext,_,rfl,(ag.GS hH (i:=0) rfl ak)⟩
def HP(a b:Int):Option (Ads×(Int×Int)):=
 some (([],[],[]),(a,b))
def Gy(b:List Int):Option (Ads×(Int×Int)):=
 Option.bind (CY b) (fun a=>some ((a.1.1,a.1.2.1,a.1.2.2),(0,0)))
def DF(a0:Aaz)(b:(List Int)):(List Int)×Int->Option (((List Int)×Int) ⊕ (Ads×(Int×Int))):=fun⟨c,a⟩=>
 if a<(b.length:Int) then Bh (0<=a/\a<(b.length:Int)) (if b.getD a.toNat default=0 then Bh (Go.E.Ij 8 (c.length+([(-1)]).length)) (Bh (C0 (a+1)) (some (Sum.inl ((c++[(-1)]),(a+1))))) else Bh (C0 (b.getD a.toNat default - 1)) (Bh (0<=(b.getD a.toNat default - 1)/\(b.getD a.toNat default - 1)<(a0.length:Int)) (Bh (Go.E.Ij 8 (c.length+([((a0.getD ((b.getD a.toNat default - 1).toNat) default).toNat:Int)]).length)) (Bh (C0 (a+1)) (some (Sum.inl ((c++[((a0.getD ((b.getD a.toNat default - 1).toNat) default).toNat:Int)]),(a+1)))))))) else Option.map Sum.inr (Gy c)
def Jz(a0:Aaz)(a:(List Int))(s:(List Int)×Int):Option (Ads×(Int×Int)):=Go.L.run (DF a0 a) s
def Hf(a0:Aaz):Option (Ads×(Int×Int)):=
 Option.bind (HN a0) (fun a=>if a.2.1=0/\a.2.2=0 then Bh (C0 ((a0.length:Int)+1)) (Bh (0<=((a0.length:Int)+1)/\((8:Nat):Int) * ((a0.length:Int)+1)<=281474976710656/\((a0.length:Int)+1)<=9223372036854775807) (Option.bind (De ([[(a0.length:Int)],a.1])) (fun b=>(Jz a0 b) (([]:List Int),0)))) else HP a.2.1 a.2.2)
theorem ON(w:World)(H:PH)(hH:Le H (hp w)){a0:Aaz}{ac:Value}(ad:AA .byte H ac a0){r:Ads×(Int×Int)}(h:Hf a0=some r):
  Ok prog 45 [ac] w (fun v w'=>Ext w w'/\∃ u0 u1 u2,v=.tuple #[.agg #[u0,u1,u2],.agg #[No r.2.1,No r.2.2]]/\AA (.int .i64) (un H (nw w w')) u0 (r.1.1)/\AA (.int .i64) (un H (nw w w')) u1 (r.1.2.1)/\AA (.int .i64) (un H (nw w w')) u2 (r.1.2.2)):=by
 refine Aw (n:=58) [(0,ac)] func45 rfl fun hL=>Ai<|A3 Fq rfl rfl hL fun w1 b1 cy de _=>A3 AI rfl rfl cy fun w2 b2 a7 df _=>Ac<|Bs 1 rfl<|Aq h fun s cz h=>Bf rfl rfl a7 (P1 _ _ (Al hH a7) (ad.mono (Ae hH)) cz) ?_;rintro _ w4 ⟨dg,rfl,bi⟩ c0 c2 dh;have t:=bi.C8 hH a7 c0;refine As 3 rfl<|A3 AI rfl rfl c2 fun w5 b5 c3 cg _=>As 1 rfl<|Ad 0 rfl AI c3 rfl (AT rfl) fun w6 a9 ch=>Ac<|A9<|Ai<|Ah (A5 0 rfl AcP rfl AI a9 rfl) rfl<|Ah (AN rfl (fun _=>BL _)) rfl<|Ah (JJ rfl rfl ID (Ld _ _ _ _)) rfl<|Ac<|Cf rfl h (fun c4 h=>?_) (fun c4 h=>?_)
 ·refine Bw (σ:=Int×Int) (fun⟨ax,ay⟩=>[(2,(Aas b1)),(3,(Aas b2))]) (fun⟨ax,ay⟩ wr=>AU w [.box b5 [No s.2.1,No s.2.2] 28,.box b2 [No ax,No ay] 28,.box b1 [Aaq,Aaq,Aaq] 98] wr/\HP ax ay=some r) ?_ ?_
  ·refine Jw (M4 (Qm L6)) (fun z0 z=>Le (gz H w z0 [.box b5 [No s.2.1,No s.2.2] 28,.box b2 [No 0,No 0] 28,.box b1 [Aaq,Aaq,Aaq] 98]) (hp z)/\z.heap[b5]? = some (.cells [No s.2.1,No s.2.2].toArray 28 (0,0))/\z.heap[b2]? = some (.cells [No 0,No 0].toArray 28 (0,0))) mixed rfl (fun ba d4 ci=>?_);have x:=a9.call ci;have ae:=x.rG H;refine LI ⟨ae.trans (Al hH x),x.at (i:=0) rfl,x.at (i:=1) rfl⟩ fun kI27=>A1 0 ba kI27 (by kernel_rfl) rfl (fun _ _=>AN rfl (fun _=>Vv _)) rfl<|A1 1 ba kI27 (by kernel_rfl) rfl (fun _ hI=>JL rfl AcP rfl AI hI.2.1) rfl<|Er (i:=2) (by kernel_rfl) rfl<|Ad 2 rfl Fq x rfl (AT rfl) ?_;intro d5 af bj;have ae:=ae.trans (Aa hH bj);refine AL ⟨ae.trans (Al hH af),af.at (i:=0) rfl,af.at (i:=1) rfl⟩ fun kI29=>Er (i:=3) (by kernel_rfl) rfl<|Ad 1 rfl AI af rfl (AT rfl) fun d6 cj da=>F9 (by kernel_rfl)<|D6 (by kernel_rfl)<|A6 (s.2.1,s.2.2) (Sub.of rfl) ⟨cj,h⟩
  rintro⟨ax,ay⟩ dj ⟨au,h⟩;refine Ax<|Ay ?_
  cases h
  refine B0 rfl (.cell rfl AcU rfl Fq (AG (i:=2) au rfl)) (.cell rfl AcP rfl AI (AG (i:=1) au rfl)) ⟨au.ext,_,_,_,rfl,(AA.nil _ _),(AA.nil _ _),(AA.nil _ _)⟩
 refine Au<|Ar<|Bs 1 rfl<|Ah (Bj rfl Abj ad) rfl<|AB h fun ck h=>Ah (AK rfl ck) rfl<|AB h fun cl h=>Zj (H:=H) (r:=(.int .i64)) rfl rfl Aa8 Dd rfl a9 cl fun c5 d7 cm cn bk av=>A4 1 rfl<|Bw (σ:=(List Int)×Value×(List Value)) (fun⟨an,ag,u⟩=>[(2,(Aas b1)),(3,(Aas b2)),(6,ag)]) (fun⟨an,ag,u⟩ wr=>FL w [.row ag 3 1 (an).length u,.box b5 [No s.2.1,No s.2.2] 28,.box b2 [No 0,No 0] 28,.box b1 [Aaq,Aaq,Aaq] 98] wr fun Oz=>AF (.int .i64) (gz H w wr Oz) an u/\Gy an=some r) ?_ ?_
 ·refine Bs 1 rfl<|Ah (Bj rfl Abj ad) rfl<|Br (r:=(.int .i64)) (l:=[(a0.length:Int)]) rfl (fun _=>HJ _ _) rfl (B2 1) hH cn (.c1 rfl .nil) fun d8 d9 dk co az bb=>As 1 rfl ?_;have t:=t.mono (Aa hH (cg.trans (ch.trans (bk.trans az))));refine Br (r:=(.vec (.int .i64))) (l:=[[(a0.length:Int)],s.1]) rfl (fun _=>X6 _ bb.one _ t.one _) rfl (B2 2) hH co (.c1 ⟨_,rfl,bb⟩ (.c1 ⟨_,rfl,t⟩ .nil)) fun ea eb dl aw bl cp=>Aq h fun y cq h=>Bf rfl rfl aw (KR _ _ (Al hH aw) cp cq) ?_;rintro a1 ec ⟨_,rfl,bc⟩ cr cs bm;have ao:=bc.C8 hH aw cr;refine Ah (Bj rfl Aa8 ao) rfl<|A4 1 rfl<|A2 ?_;obtain⟨ah,h⟩:=AY h;have av:=av.mono (Aa hH (az.trans (bl.trans bm)))
  refine B8 (σ:=(List Int)×Int×Value×(List Value)×Nat) (fun⟨c,a,o,f,n⟩=>[(0,ac),(2,(Aas b1)),(3,(Aas b2)),(6,o),(30,a1),(31,No (y.length:Int)),(32,No a)]) (fun⟨c,a,o,f,n⟩ wr=>FL w [.row o 3 1 (c).length f,.box b5 [No s.2.1,No s.2.2] 28,.box b2 [No 0,No 0] 28,.box b1 [Aaq,Aaq,Aaq] 98] wr fun Oz=>AA (.int .i64) (gz H w wr Oz) a1 y/\AF (.int .i64) (gz H w wr Oz) c f/\GR (DF a0 y) n (c,a)=some r) (fun⟨c,a,o,f,n⟩=>n) (([]:List Int),0,c5,cm,ah) (Sub.of rfl) ⟨cs,ao,av,h⟩ ?_;rintro⟨c,a,o,f,nn113⟩ db ⟨p,b,d,h⟩;obtain⟨ah,dm,rfl,h,ai⟩:=AX h;refine AD 1 rfl<|A9<|AO rfl h (fun bn h=>?_) (fun bn h=>?_)
  ·refine Au<|Ar<|A9<|A2<|Ai<|AB h fun a2 h=>Be rfl rfl Aa8 Dd b a.toNat (Hc a2) (Ba a2) rfl ?_;rintro dn _ rfl bo;refine Ah (Bu rfl AaA rfl bo (Al hH p)) rfl<|A4 1 rfl<|AD 2 rfl<|AO rfl h (fun bp h=>?_) (fun bp h=>?_)
   ·refine Av<|As 1 rfl<|Br (r:=(.int .i64)) (l:=[(-1)]) rfl (fun _=>HJ _ _) rfl (B2 1) hH p (.c1 rfl .nil) fun dp dq dc bq ap br=>AB h fun bs h=>?_;have d:=d.mono (Aa hH ap);refine Bi (r:=(.int .i64)) (l:=c) (m:=[(-1)]) 0 rfl rfl Aa8 Dd rfl (by decide) rfl hH bq rfl d br bs fun ct dr bt bu bd bv=>As 1 rfl<|AQ<|AJ<|Ar<|Av<|AB h fun bw h=>Ah (AK rfl bw) rfl<|As 1 rfl<|AQ ?_;have h:=CV.again h ai;have b:=b.mono (Aa hH (ap.trans bd));refine AW ((c++[(-1)]),(a+1),ct,bt,ah) (Sub.of rfl) ⟨bu,b,bv,h⟩ (Nat.lt_succ_self _)
   refine Av<|As 3 rfl<|AB h fun bx h=>Ah (AK rfl bx) rfl<|AB h fun a3 h=>Be rfl rfl Abj NK ad ((y.getD a.toNat default - 1).toNat) (Hc a3) (Ba a3) rfl ?_;rintro ds _ rfl bz;refine Ah (Bu rfl Acu rfl bz (hH.trans p.arg)) rfl<|Ah (IS Acu AaA rfl (OA _)) rfl<|Br (r:=(.int .i64)) (l:=[((a0.getD ((y.getD a.toNat default - 1).toNat) default).toNat:Int)]) rfl (fun _=>HJ _ _) rfl (B2 1) hH p (.c1 rfl .nil) fun dt du dd b0 aq b3=>AB h fun b4 h=>?_;have d:=d.mono (Aa hH aq);refine Bi (r:=(.int .i64)) (l:=c) (m:=[((a0.getD ((y.getD a.toNat default - 1).toNat) default).toNat:Int)]) 0 rfl rfl Aa8 Dd rfl (by decide) rfl hH b0 rfl d b3 b4 fun cu dv b6 b7 be b8=>As 1 rfl<|AQ<|AJ<|Ar<|Av<|AB h fun b9 h=>Ah (AK rfl b9) rfl<|As 1 rfl<|AQ ?_;have h:=CV.again h ai;have b:=b.mono (Aa hH (aq.trans be))
   refine AW ((c++[((a0.getD ((y.getD a.toNat default - 1).toNat) default).toNat:Int)]),(a+1),cu,b6,ah) (Sub.of rfl) ⟨b7,b,b8,h⟩ (Nat.lt_succ_self _)
  refine B5<|AE<|A7 ?_;have h:=CV.out h ai;refine Bk<|A6 (c,o,f) (Sub.of rfl) ⟨p,d,h⟩
 rintro⟨an,ag,u⟩ dw ⟨bf,ca,h⟩;refine Bs 1 rfl ?_;have cb:=bf.C8 hH (i:=0) rfl ca;have q:=bf.AV (i:=0) rfl;refine Aq h fun dx cc h=>Bf rfl rfl q (LM _ _ (Al hH q) cb cc) ?_;rintro _ dy ⟨c6,c7,c8,rfl,a4,a5,a6⟩ aj cd c9;have g:=a4.mono (Ds hH q aj);have j:=a5.C8 hH q aj;have k:=a6.C8 hH q aj;refine As 3 rfl<|A3 Fq rfl rfl cd fun dz d0 ce aa _=>Ad 0 rfl Fq ce rfl (Bb g.one (Bb j.one (Bb k.one I8))) fun d1 ak ab=>A4 1 rfl ?_;have e:=ak.rG H;refine Ai<|Ah (A5 0 rfl AcU rfl Fq ak rfl) rfl<|Ah (AN rfl (fun _=>BL _)) rfl ?_;have g:=g.mono (Aa hH (aa.trans ab));have j:=j.mono (Aa hH (aa.trans ab));have k:=k.mono (Aa hH (aa.trans ab));refine Ad 3 rfl Fq ak rfl (Bb (g.mono e).one (Bb (j.mono e).one (Bb (k.mono e).one I8))) fun d2 cf bg=>Ad 2 rfl AI cf rfl (AT rfl) fun d3 al bh=>Ac<|Ax ?_
 cases h
 refine B0 rfl (.cell rfl AcU rfl Fq (AG (i:=3) al rfl)) (.cell rfl AcP rfl AI (AG (i:=2) al rfl)) ?_;have e:=e.trans (Aa hH (bg.trans bh));exact⟨al.ext,_,_,_,rfl,((g.mono e).mono (Dg hH)),((j.mono e).mono (Dg hH)),((k.mono e).mono (Dg hH))⟩
end Go.Proofs.YtekmbcbgknmhiaaGreatDoor
end
noncomputable section
namespace Go.L
open Go
theorem TD(x y:UInt8)(l m:List UInt8):Lib.compareBytes (x::l) (y::m)<0↔x.toNat<y.toNat\/x.toNat=y.toNat/\Lib.compareBytes l m<0:=by
 show(if x<y then(-1:Int) else if y<x then 1 else Lib.compareBytes l m)<0↔_
 by_cases a:x<y
 ·rw [if_pos a];have:=UInt8.lt_iff_toNat_lt.1 a;exact⟨fun _=>.inl this,fun _=>by decide⟩
 ·rw [if_neg a];have h1' : ¬ x.toNat<y.toNat:=fun h=>a (UInt8.lt_iff_toNat_lt.2 h)
  by_cases h2:y<x
  ·rw [if_pos h2];have:=UInt8.lt_iff_toNat_lt.1 h2;exact⟨fun h=>absurd h (by decide),fun h=>by omega⟩
  ·rw [if_neg h2];have h2' : ¬ y.toNat<x.toNat:=fun h=>h2 (UInt8.lt_iff_toNat_lt.2 h);exact⟨fun h=>.inr ⟨by omega,h⟩,fun h=>by rcases h with h | h;exact absurd h h1';exact h.2⟩
def lt(a:List UInt8)(x y:Nat):Bool:=decide (Lib.compareBytes (a.drop x) (a.drop y)<0)
theorem SD(a:List UInt8)(x:Nat):lt a x x=false:=by
 unfold lt;rw [QA];decide
theorem XK{a:List UInt8}{x y:Nat}(h:lt a x y=true):lt a y x=false:=by
 unfold lt at *;have:=of_decide_eq_true h;have:=Ip (a.drop x) (a.drop y);exact decide_eq_false (by omega)
def op(a:List UInt8):List Nat:=a.length::(C4 a).map Int.toNat
theorem D1(a:List UInt8):(op a).length=a.length+1:=by simp [op,JB]
theorem PQ(a:List UInt8):(op a).Perm (List.range (a.length+1)):=by
 have h:=(JO a).map Int.toNat
 have e:(iota a.length).map Int.toNat=List.range a.length:=by
  unfold iota;rw [List.map_map]
  conv=>rhs;rw [<- List.map_id (List.range a.length)]
  rfl
 rw [e] at h;unfold op;rw [List.range_succ];exact(h.cons a.length).trans (List.perm_append_comm (l₁:=[a.length]))
theorem RR(a:List UInt8):(op a).Pairwise fun x y=>lt a x y=true:=by
 unfold op;refine List.pairwise_cons.2 ⟨fun y hy=>?_,?_⟩
 ·obtain⟨z,hz,rfl⟩:=List.mem_map.1 hy;have hz:=(QC a).1 hz;unfold lt;rw [List.drop_length]
  cases hd:a.drop z.toNat with
  | nil=>have:=congrArg List.length hd;rw [List.length_drop] at this;simp at this;omega
  | cons b l=>rfl
 ·rw [List.pairwise_map];exact(N2 a).imp fun h=>decide_eq_true h
theorem QD{α:Type}(f:α->α->Bool)(irr:∀ x,f x x=false)(asy:∀ x y,f x y=true->f y x=false):∀ (l:List α),l.Pairwise (fun x y=>f x y=true)->∀ r (h:r<l.length),l.countP (fun x=>f x l[r])=r
 | x::l,hp,0,_=>by
  have hx:=(List.pairwise_cons.1 hp).1;simp only [List.getElem_cons_zero,List.countP_cons,irr];rw [List.countP_eq_zero.2 (fun y hy=>by rw [asy _ _ (hx y hy)];decide)]
  rfl
 | x::l,hp,r+1,h=>by
  have h':r<l.length:=by simpa using h
  have hx:=(List.pairwise_cons.1 hp).1;have ih:=QD f irr asy l (List.pairwise_cons.1 hp).2 r h';simp only [List.getElem_cons_succ,List.countP_cons,ih,hx l[r] (List.getElem_mem h')]
  rfl
theorem ZJ(a:List UInt8){r:Nat}(h:r<(op a).length):(op a).countP (fun x=>lt a x (op a)[r])=r:=QD (lt a) (SD a) (fun _ _=>XK) _ (RR a) r h
theorem QE(a:List UInt8){r:Nat}(h:r<(op a).length):(op a)[r]<=a.length:=by
 have:=(PQ a).mem_iff.1 (List.getElem_mem h);have:=List.mem_range.1 this;omega
theorem SE{a:List UInt8}{p:Nat}(h:p<=a.length):∃ r,∃ hr:r<(op a).length,(op a)[r]=p:=by
 have hm:p∈op a:=(PQ a).mem_iff.2 (List.mem_range.2 (by omega));obtain⟨r,hr,e⟩:=List.getElem_of_mem hm;exact⟨r,hr,e⟩
theorem XL(a:List UInt8){k r:Nat}(hk:k<(op a).length)(hr:r<(op a).length):lt a (op a)[k] (op a)[r]=true↔k<r:=by
 have hp:=List.pairwise_iff_getElem.1 (RR a)
 rcases Nat.lt_trichotomy k r with h | h | h
 ·exact⟨fun _=>h,fun _=>hp k r hk hr h⟩
 ·subst h;rw [SD];exact⟨fun h=>(by cases h),fun h=>by omega⟩
 ·rw [XK (hp r k hr hk h)];exact⟨fun h=>(by cases h),fun h=>by omega⟩
theorem XM{a:List UInt8}{k r:Nat}(hk:k<(op a).length)(hr:r<(op a).length)(h:(op a)[k]=(op a)[r]):k=r:=by
 have b:=XL a hk hr;have h2:=XL a hr hk;rw [h,SD] at b;rw [h,SD] at h2;simp only [Bool.false_eq_true,false_iff] at b h2;omega
def JQ(a:List UInt8)(q:Nat):Int:=if q=0 then -1 else((a.getD (q - 1) default).toNat:Int)
def sym(a:List UInt8):List Int:=(op a).map (JQ a)
theorem Eg(a:List UInt8):(sym a).length=a.length+1:=by rw [sym,List.length_map,D1]
theorem KG(a:List UInt8){r:Nat}(h:r<(op a).length):(sym a).getD r default=JQ a (op a)[r]:=by
 unfold sym;rw [List.getD_eq_getElem?_getD,List.getElem?_map,List.getElem?_eq_getElem h];rfl
theorem LO(a:List UInt8)(q:Nat):0<=JQ a q↔1<=q:=by unfold JQ;split <;> omega
theorem XN(a:List UInt8)(q:Nat):JQ a q<256:=by
 unfold JQ;split
 ·omega
 ·have:=(a.getD (q - 1) default).toNat_lt;omega
theorem LP{a:List UInt8}{q:Nat}(b:1<=q)(h:q<=a.length):a.drop (q - 1)=a.getD (q - 1) default::a.drop q:=by
 rw [List.drop_eq_getElem_cons (by omega:q - 1<a.length),List.getD_eq_getElem?_getD,List.getElem?_eq_getElem (by omega:q - 1<a.length),show q - 1+1=q by omega];rfl
def TE(s:List Int)(r:Nat):Nat:=1+(List.range s.length).countP fun k=>decide (0<=s.getD k default/\(s.getD k default<s.getD r default\/s.getD k default=s.getD r default/\k<r))
def Ml(s:List Int):List Int:=(List.range s.length).map fun r=>if s.getD r default<0 then 0 else(TE s r:Int)
theorem Pq(s:List Int):(Ml s).length=s.length:=by simp [Ml]
theorem QF(s:List Int){r:Nat}(h:r<s.length):(Ml s).getD r default=if s.getD r default<0 then 0 else(TE s r:Int):=by
 unfold Ml;rw [List.getD_eq_getElem?_getD,List.getElem?_map,List.getElem?_range h];rfl
theorem Wo{α β:Type}[Inhabited β](l:List α)(d:α)(f:α->Bool):(List.range l.length).countP (fun k=>f (l.getD k d))=l.countP f:=by
 have e:l=(List.range l.length).map fun k=>l.getD k d:=by
  apply List.ext_getElem
  ·simp
  ·intro k a h2;rw [List.getElem_map,List.getElem_range,List.getD_eq_getElem?_getD,List.getElem?_eq_getElem a];rfl
 conv=>rhs;rw [e,List.countP_map]
 rfl
theorem Wp(a:List UInt8)(g:Nat->Bool):(List.range (sym a).length).countP (fun k=>g ((op a).getD k 0))=(List.range (a.length+1)).countP g:=by
 have h:=Wo (β:=Nat) (op a) 0 g;rw [D1] at h;rw [Eg,h,(PQ a).countP_eq]
theorem SF(n:Nat)(g:Nat->Bool)(a:g 0=false):(List.range (n+1)).countP g=(List.range n).countP fun q=>g (q+1):=by
 rw [List.range_succ_eq_map,List.countP_cons,List.countP_map,a];rfl
theorem opD{a:List UInt8}{k:Nat}(h:k<(op a).length):(op a).getD k 0=(op a)[k]:=by rw [List.getD_eq_getElem?_getD,List.getElem?_eq_getElem h];rfl
theorem ZK{a:List UInt8}{r r':Nat}(hr:r<(op a).length)(hr':r'<(op a).length)(hp:(op a)[r]=(op a)[r']+1):TE (sym a) r=r':=by
 have hle:=QE a hr;generalize hq':(op a)[r']=p' at *;have d:(op a).countP (fun x=>lt a x p')=r':=by have:=ZJ a hr';rw [hq'] at this;exact this
 rw [(PQ a).countP_eq,List.range_succ,List.countP_append,List.countP_singleton] at d
 have hend:lt a a.length p'=true:=by
  unfold lt;rw [List.drop_length]
  cases hd:a.drop p' with
  | nil=>have:=congrArg List.length hd;rw [List.length_drop] at this;simp at this;omega
  | cons b l=>rfl
 rw [hend,if_pos rfl] at d
 have e:(List.range (sym a).length).countP (fun k=>decide (0<=(sym a).getD k default/\((sym a).getD k default<(sym a).getD r default\/(sym a).getD k default=(sym a).getD r default/\k<r)))=(List.range (sym a).length).countP (fun k=>(fun q=>decide (1<=q)&&lt a (q - 1) p') ((op a).getD k 0)):=by
  apply List.countP_congr;intro k hk;have hk:k<(op a).length:=by have:=List.mem_range.1 hk;rw [Eg] at this;rw [D1];exact this
  have hkl:=QE a hk;rw [KG a hk,KG a hr,opD hk,hp];have hlt:=XL a hk hr;rw [hp] at hlt;generalize (op a)[k]=q at *;simp only [decide_eq_true_eq,Bool.and_eq_true];rw [LO,<- hlt];rw [hp] at hle
  constructor
  ·rintro⟨c,h2⟩;refine⟨c,?_⟩;have hd:=LP c hkl;have hd':=LP (q:=p'+1) (by omega) hle;rw [Nat.add_sub_cancel] at hd';unfold lt;rw [hd,hd'];refine decide_eq_true ((TD _ _ _ _).2 ?_);unfold JQ at h2;rw [if_neg (by omega),if_neg (by omega),Nat.add_sub_cancel] at h2
   rcases h2 with h2 | ⟨h2,h3⟩
   ·exact .inl (by omega)
   ·exact .inr ⟨by omega,of_decide_eq_true h3⟩
  ·rintro⟨c,h2⟩;refine⟨c,?_⟩;have hd:=LP c hkl;have hd':=LP (q:=p'+1) (by omega) hle;rw [Nat.add_sub_cancel] at hd';unfold lt at h2;rw [hd,hd'] at h2;unfold JQ;rw [if_neg (by omega),if_neg (by omega),Nat.add_sub_cancel]
   rcases(TD _ _ _ _).1 (of_decide_eq_true h2) with h | ⟨h,h'⟩
   ·exact .inl (by omega)
   ·exact .inr ⟨by omega,decide_eq_true h'⟩
 unfold TE;rw [e,Wp a (fun q=>decide (1<=q)&&lt a (q - 1) p'),SF _ _ (by simp)]
 have f:(List.range a.length).countP (fun q=>decide (1<=q+1)&&lt a (q+1 - 1) p')=(List.range a.length).countP (fun x=>lt a x p'):=by
  apply List.countP_congr;intro k _;simp
 rw [f];omega
end Go.L
end
noncomputable section
namespace Go.L
open Go
def RS(s:List Int)(c:Int)(k r:Nat):Bool:=decide (0<=s.getD r default/\(s.getD r default<c\/s.getD r default=c/\r<k))
def LB(s:List Int)(c:Int)(k:Nat):List Int:=(List.range s.length).map fun r=>if RS s c k r then(TE s r:Int) else 0
def NX(s:List Int)(c:Int)(k:Nat):Nat:=1+(List.range s.length).countP (RS s c k)
theorem Lm(s:List Int)(c:Int)(k:Nat):(LB s c k).length=s.length:=by simp [LB]
theorem AbS(s:List Int)(c:Int)(k:Nat):NX s c k<=1+s.length:=by
 unfold NX;have:=List.countP_le_length (p:=RS s c k) (l:=List.range s.length);rw [List.length_range] at this;omega
theorem Abg{s:List Int}{k:Nat}:NX s (s.getD k default) k=TE s k:=rfl
theorem TF(s:List Int){c:Int}(hc:0<=c)(k r:Nat):RS s c (k+1) r=(RS s c k r||decide (r=k/\s.getD k default=c)):=by
 unfold RS;rw [Bool.eq_iff_iff];simp only [Bool.or_eq_true,decide_eq_true_eq]
 constructor
 ·rintro⟨a,h2 | ⟨h2,h3⟩⟩
  ·exact .inl ⟨a,.inl h2⟩
  ·by_cases h:r=k
   ·subst h;exact .inr ⟨rfl,h2⟩
   ·exact .inl ⟨a,.inr ⟨h2,by omega⟩⟩
 ·rintro(⟨a,h2 | ⟨h2,h3⟩⟩ | ⟨rfl,h⟩)
  ·exact⟨a,.inl h2⟩
  ·exact⟨a,.inr ⟨h2,by omega⟩⟩
  ·exact⟨by omega,.inr ⟨h,by omega⟩⟩
theorem V7{s:List Int}{c:Int}(hc:0<=c){k:Nat}(hk:k<s.length):LB s c (k+1)=if s.getD k default=c then(LB s c k).set k (NX s c k) else LB s c k:=by
 apply List.ext_getElem?;intro r
 by_cases hr:r<s.length
 ·have b:(LB s c (k+1))[r]? = some (if RS s c (k+1) r then(TE s r:Int) else 0):=by simp [LB,hr]
  have a:(LB s c k)[r]? = some (if RS s c k r then(TE s r:Int) else 0):=by simp [LB,hr]
  rw [b,TF s hc]
  by_cases h:s.getD k default=c
  ·rw [if_pos h,List.getElem?_set,Lm,a]
   by_cases hkr:k=r
   ·subst hkr;rw [if_pos rfl,if_pos hk];have:(RS s c k k||decide (k=k/\s.getD k default=c))=true:=by rw [decide_eq_true (⟨rfl,h⟩:k=k/\s.getD k default=c),Bool.or_true]
    rw [this,if_pos rfl,<- Abg,h]
   ·rw [if_neg hkr];have:decide (r=k/\s.getD k default=c)=false:=decide_eq_false (fun e=>hkr e.1.symm);rw [this,Bool.or_false]
  ·rw [if_neg h,a];have:decide (r=k/\s.getD k default=c)=false:=decide_eq_false (fun e=>h e.2);rw [this,Bool.or_false]
 ·rw [List.getElem?_eq_none (by rw [Lm];omega)]
  split
  ·rw [List.getElem?_eq_none (by rw [List.length_set,Lm];omega)]
  ·rw [List.getElem?_eq_none (by rw [Lm];omega)]
theorem V8{s:List Int}{c:Int}(hc:0<=c){k:Nat}(hk:k<s.length):NX s c (k+1)=if s.getD k default=c then NX s c k+1 else NX s c k:=by
 unfold NX
 have e:(List.range s.length).countP (RS s c (k+1))=(List.range s.length).countP (RS s c k)+(List.range s.length).countP (fun r=>decide (r=k/\s.getD k default=c)):=by
  generalize List.range s.length=l
  induction l with
  | nil=>rfl
  | cons r l ih=>
   rw [List.countP_cons,List.countP_cons,List.countP_cons,ih,TF s hc]
   by_cases h:r=k/\s.getD k default=c
   ·have h2:RS s c k r=false:=by
     unfold RS;rw [h.1,h.2];exact decide_eq_false (by omega)
    rw [h2,decide_eq_true h];simp only [Bool.or_true,if_true,Bool.false_eq_true,if_false];omega
   ·rw [decide_eq_false h,Bool.or_false];simp only [Bool.false_eq_true,if_false];omega
 rw [e]
 by_cases h:s.getD k default=c
 ·rw [if_pos h]
  have:(List.range s.length).countP (fun r=>decide (r=k/\s.getD k default=c))=1:=by
   have a:(List.range s.length).countP (fun r=>decide (r=k/\s.getD k default=c))=(List.range s.length).count k:=by
    unfold List.count;apply List.countP_congr;intro r _;rw [decide_eq_true_eq,beq_iff_eq];exact⟨fun e=>e.1,fun e=>⟨e,h⟩⟩
   rw [a,List.nodup_range.count,if_pos (List.mem_range.2 hk)]
  omega
 ·rw [if_neg h];have:(List.range s.length).countP (fun r=>decide (r=k/\s.getD k default=c))=0:=List.countP_eq_zero.2 (fun r _=>by rw [decide_eq_false (fun e:r=k/\s.getD k default=c=>h e.2)];decide);omega
theorem TG(s:List Int)(c:Int){r:Nat}(hr:r<s.length):RS s c s.length r=RS s (c+1) 0 r:=by
 unfold RS;rw [Bool.eq_iff_iff];simp only [decide_eq_true_eq];omega
theorem ZL(s:List Int)(c:Int):LB s c s.length=LB s (c+1) 0:=by
 unfold LB;apply List.map_congr_left;intro r hr;rw [TG s c (List.mem_range.1 hr)]
theorem ZM(s:List Int)(c:Int):NX s c s.length=NX s (c+1) 0:=by
 unfold NX;rw [List.countP_congr fun r hr=>by rw [TG s c (List.mem_range.1 hr)]]
theorem ZN(s:List Int):LB s 0 0=List.replicate s.length 0:=by
 unfold LB
 rw [List.map_congr_left (g:=fun _=>(0:Int)) (fun r _=>by
  have:RS s 0 0 r=false:=decide_eq_false (by omega);rw [this];rfl)]
 rw [List.map_const',List.length_range]
theorem ZO(s:List Int):NX s 0 0=1:=by
 unfold NX
 rw [List.countP_eq_zero.2 (fun r _=>by
  have:RS s 0 0 r=false:=decide_eq_false (by omega);rw [this];decide)]
theorem Abh{s:List Int}(h:∀ r,r<s.length->s.getD r default<256):LB s 256 0=Ml s:=by
 unfold LB Ml;apply List.map_congr_left;intro r hr;have:=h r (List.mem_range.1 hr)
 by_cases a:s.getD r default<0
 ·have e:RS s 256 0 r=false:=decide_eq_false (by omega);rw [e,if_pos a];rfl
 ·have e:RS s 256 0 r=true:=decide_eq_true (by omega);rw [e,if_neg a];rfl
def wlk(s B:List Int):Nat->List Int->Nat->(List Int×List Int×List Int)×Bool
 | 0,A,r=>((s,B,A.set r 0),decide (s.getD r default = -1))
 | i+1,A,r=>if s.getD r default = -1 then(([],[],[]),false) else wlk s B i (A.set r ((i+1:Nat):Int)) (B.getD r default).toNat
end Go.L
namespace Go.Proofs.YtekmbcbgknmhiaaGreatDoor
open Go Go.L
theorem UB{s:List Int}{c:Nat}(hl:s.length<=2049)(hc:c<256):
  Fc s (c:Int) (LB s c 0,(NX s c 0:Int),0)=some (.inl (LB s ((c+1:Nat):Int) 0,(NX s ((c+1:Nat):Int) 0:Int),((c+1:Nat):Int))):=by
 have a:(0:Int)<=(c:Int):=by omega
 refine Gw (b:=Co s (c:Int)) (fun k=>(LB s c k,(NX s c k:Int),(k:Int))) s.length (fun k hk=>?_) ?_ 0 (Nat.zero_le _)
 ·unfold Co;simp only;have:=AbS s c k;rw [if_pos (by omega),Ak (by omega),Int.toNat_natCast]
  by_cases h:s.getD k default=(c:Int)
  ·rw [if_pos h,Ak (by rw [Lm];omega),Ak (by constructor <;> omega),Ak (by constructor <;> omega),V7 a hk,if_pos h,V8 a hk,if_pos h]
   rfl
  ·rw [if_neg h,Ak (by constructor <;> omega),V7 a hk,if_neg h,V8 a hk,if_neg h]
   rfl
 ·unfold Co;simp only;rw [if_neg (by omega)];unfold D8;rw [Ak (by constructor <;> omega),ZL,ZM]
  rfl
theorem RT{s B:List Int}(hl:s.length<=2049)(hB:B.length=s.length)(hr:∀ r,r<s.length->0<=B.getD r default/\B.getD r default<s.length):∀ (i:Nat) (A:List Int) (r:Nat),i<=s.length->A.length=s.length->r<s.length->
  DB s s B (A,(r:Int),(i:Int))=some (wlk s B i A r)
 | 0,A,r,_,hA,h=>by
  refine BD (b:=BO s s B) (m:=some _) ?_;unfold BO;simp only;rw [if_neg (by omega)];unfold DA D9;rw [Ak (by omega),Ak (by omega),Int.toNat_natCast]
  rfl
 | i+1,A,r,hi,hA,h=>by
  have hb:BO s s B (A,(r:Int),((i+1:Nat):Int))=if s.getD r default = -1 then some (.inr (([],[],[]),false)) else some (.inl (A.set r ((i+1:Nat):Int),(((B.getD r default).toNat:Nat):Int),(i:Int))):=by
   unfold BO;simp only;rw [if_pos (by omega),Ak (by omega),Ak (by omega),Int.toNat_natCast]
   split
   ·rfl
   ·rw [Ak (by omega),Ak (by constructor <;> omega),Int.toNat_of_nonneg (hr r h).1,show((i+1:Nat):Int) - 1=(i:Int) by omega]
  unfold DB wlk
  by_cases a:s.getD r default = -1
  ·rw [if_pos a] at hb ⊢;exact BD (m:=some _) hb
  ·rw [if_neg a] at hb ⊢;rw [Cu hb];have:=hr r h;exact RT hl hB hr i _ _ (by omega) (by rw [List.length_set];exact hA) (by omega)
theorem XO{s:List Int}(a:0<s.length)(hl:s.length<=2049)(hs:∀ r,r<s.length->s.getD r default<256)(hr:∀ r,r<s.length->(Ml s).getD r default<s.length):
  CY s=some (wlk s (Ml s) (s.length - 1) (List.replicate s.length 0) 0):=by
 have e:((s.length:Int) - 1+1).toNat=s.length:=by omega
 unfold CY;rw [Ak (by constructor <;> omega),Ak (by constructor <;> omega),Ak (by constructor <;> omega),Ak (by omega),Ak (by omega),e];unfold DD;have hpos:∀ r,r<s.length->0<=(Ml s).getD r default/\(Ml s).getD r default<s.length:=fun r h=>⟨by rw [QF s h];split <;> omega,hr r h⟩
 have key:=Gw (b:=Cp s s (List.replicate s.length 0)) (m:=some (wlk s (Ml s) (s.length - 1) (List.replicate s.length 0) 0)) (fun c=>(LB s c 0,(NX s c 0:Int),(c:Int))) 256 (fun c hc=>by
  unfold Cp;simp only;rw [if_pos (by omega)];exact UB hl hc) (by
  unfold Cp;simp only;rw [if_neg (by omega)];unfold DC;have:=RT hl (Pq s) hpos (s.length - 1) (List.replicate s.length 0) 0 (by omega) (by simp) a;rw [show LB s ((256:Nat):Int) 0=Ml s from Abh hs];rw [show(s.length:Int) - 1=((s.length - 1:Nat):Int) by omega];exact congrArg (Option.map Sum.inr) this) 0 (by omega)
 rw [show LB s ((0:Nat):Int) 0=List.replicate s.length 0 from ZN s,show NX s ((0:Nat):Int) 0=1 from ZO s] at key;exact key
end Go.Proofs.YtekmbcbgknmhiaaGreatDoor
end
noncomputable section
namespace Go.L
open Go
theorem QG{a:List UInt8}{r r':Nat}(hr:r<(op a).length)(hr':r'<(op a).length)(hp:(op a)[r]=(op a)[r']+1):(Ml (sym a)).getD r default=(r':Int):=by
 rw [QF _ (by rw [Eg,<- D1];exact hr),KG a hr];have h:0<=JQ a (op a)[r]:=(LO a _).2 (by omega);rw [if_neg (by omega),ZK hr hr' hp]
theorem ZP{a:List UInt8}{r:Nat}(h:r<(sym a).length):(Ml (sym a)).getD r default<(sym a).length:=by
 have hr:r<(op a).length:=by rw [D1,<- Eg];exact h
 by_cases b:(op a)[r]=0
 ·rw [QF _ h,KG a hr,b];have:JQ a 0<0:=by unfold JQ;rw [if_pos rfl];decide
  rw [if_pos this];omega
 ·have hle:=QE a hr;obtain⟨r',hr',e⟩:=SE (a:=a) (p:=(op a)[r] - 1) (by omega);rw [QG hr hr' (by omega)];rw [D1,<- Eg] at hr';omega
theorem Abi{a:List UInt8}{r:Nat}(h:r<(sym a).length):(sym a).getD r default<256:=by
 rw [KG a (by rw [D1,<- Eg];exact h)];exact XN a _
def WI(a:List UInt8):List Int:=(op a).map fun x:Nat=>(x:Int)
theorem QH(a:List UInt8):(WI a).length=a.length+1:=by rw [WI,List.length_map,D1]
theorem TH(a:List UInt8):∀ (p:Nat) (A:List Int) (r:Nat) (hr:r<(op a).length),(op a)[r]=p->A.length=a.length+1->(∀ k (hk:k<(op a).length),p<(op a)[k]->A[k]? = some (((op a)[k]:Nat):Int))->
  wlk (sym a) (Ml (sym a)) p A r=((sym a,Ml (sym a),WI a),true)
 | 0,A,r,hr,hp,hA,hk=>by
  have d:A.set r 0=WI a:=by
   apply List.ext_getElem?;intro k
   by_cases hkl:k<(op a).length
   ·have e:(WI a)[k]? = some (((op a)[k]:Nat):Int):=by simp [WI,hkl]
    rw [List.getElem?_set,e]
    by_cases h:r=k
    ·subst h;rw [if_pos rfl,if_pos (by rw [hA,<- D1];exact hr),hp];rfl
    ·rw [if_neg h];refine hk k hkl (Nat.pos_of_ne_zero fun f=>h (XM hr hkl (by rw [hp,f])))
   ·rw [List.getElem?_eq_none (by rw [List.length_set,hA,<- D1];omega),List.getElem?_eq_none (by rw [QH,<- D1];omega)]
  unfold wlk;rw [d,KG a hr,hp]
  rfl
 | p+1,A,r,hr,hp,hA,hk=>by
  have hle:=QE a hr;obtain⟨r',hr',e⟩:=SE (a:=a) (p:=p) (by omega);have hn:0<=JQ a (p+1):=(LO a _).2 (by omega);unfold wlk;rw [KG a hr,hp,if_neg (by omega),QG hr hr' (by omega),Int.toNat_natCast];refine TH a p _ r' hr' e (by rw [List.length_set];exact hA) fun k b g=>?_;rw [List.getElem?_set]
  by_cases h:r=k
  ·subst h;rw [if_pos rfl,if_pos (by rw [hA,<- D1];exact hr),hp]
  ·rw [if_neg h];refine hk k b ?_
   rcases Nat.lt_or_ge (p+1) (op a)[k] with c | c
   ·exact c
   ·exact absurd (XM hr b (by omega)) h
theorem V9(a:List UInt8):(op a)[0]'(by rw [D1];omega)=a.length:=rfl
def idx(a:List UInt8):List Int×List Int×List Int:=(sym a,Ml (sym a),WI a)
end Go.L
namespace Go.Proofs.YtekmbcbgknmhiaaGreatDoor
open Go Go.L
theorem Wq{a:List UInt8}(h:a.length<=2048):CY (sym a)=some (idx a,true):=by
 rw [XO (by rw [Eg];omega) (by rw [Eg];omega) (fun _=>Abi) (fun _=>ZP),Eg,Nat.add_sub_cancel];rw [TH a a.length _ 0 (by rw [D1];omega) (V9 a) (by simp) (fun k hk h=>by have:=QE a hk;omega)]
 rfl
theorem ZQ{x:Int}{l:List Int}(h:l.length<=2048):De [[x],l]=some (x::l):=by
 have a:∀ s:Int×Int,Eu [[x],l] s=Go.L.run (Bp [[x],l]) s:=fun _=>rfl;have hn:(([[x],l]:List (List Int)).length:Int)=2:=rfl;have b:∀ s:List Int×Int,Dh [[x],l] s=Go.L.run (Bo [[x],l]) s:=fun _=>rfl
 have a1:Bp [[x],l] (0,0)=some (.inl (1,1)):=by
  unfold Bp;rfl
 have a2:Bp [[x],l] (1,1)=some (.inl (1+(l.length:Int),2)):=by
  unfold Bp;simp only;have e:([[x],l]:List (List Int)).getD (1:Int).toNat default=l:=rfl;rw [hn,if_pos (by decide),Ak (by decide),e,Ak (by constructor <;> omega),if_neg (by omega),Ak (by constructor <;> omega)]
  rfl
 have c:Bo [[x],l] ([],0)=some (.inl ([x],1)):=by
  unfold Bo;rfl
 have d:Bo [[x],l] ([x],1)=some (.inl (x::l,2)):=by
  unfold Bo;simp only;have e:([[x],l]:List (List Int)).getD (1:Int).toNat default=l:=rfl;rw [hn,if_pos (by decide),Ak (by decide),e,Ak (by simp only [List.length_singleton];constructor <;> omega),Ak (by decide)]
  rfl
 have f:Bo [[x],l] (x::l,2)=(some (x::l)).map .inr:=by
  unfold Bo;simp only;rw [hn,if_neg (by decide)];rfl
 have a3:Bp [[x],l] (1+(l.length:Int),2)=(some (x::l)).map .inr:=by
  unfold Bp;simp only;rw [hn,if_neg (by decide)];unfold Di EU DE;rw [if_neg (by omega),Ak (by decide),Ak (by constructor <;> omega),if_pos (by omega),Ak (by omega)]
  show Option.map Sum.inr (Dh [[x],l] ([],0))=_
  rw [b,Cu c,Cu d,BD f]
 unfold De;rw [a,Cu a1,Cu a2,BD a3]
theorem XP(a:List UInt8):WI a=(a.length:Int)::C4 a:=by
 unfold WI op;rw [List.map_cons,List.map_map]
 congr 1
 conv=>rhs;rw [<- List.map_id (C4 a)]
 apply List.map_congr_left;intro x hx;have:=(QC a).1 hx
 show((x.toNat:Nat):Int)=x
 omega
theorem ZR(a:List UInt8){r:Nat}(h:r<(op a).length):(WI a).getD r default=(((op a)[r]:Nat):Int):=by
 unfold WI;rw [List.getD_eq_getElem?_getD,List.getElem?_map,List.getElem?_eq_getElem h];rfl
theorem QI(a:List UInt8):Hf a=some (if a.length<=2048 then(idx a,(0,0)) else(([],[],[]),(3,-1))):=by
 unfold Hf;rw [Wm]
 by_cases h:a.length<=2048
 ·rw [if_pos h,if_pos h];rw [Option.bind_some,if_pos ⟨rfl,rfl⟩,Ak (by constructor <;> omega),Ak (by omega),ZQ (by rw [JB];exact h),Option.bind_some,<- XP];have hl:=QH a;have ho:=D1 a
  have key:=Gw (b:=DF a (WI a)) (m:=some (idx a,((0:Int),(0:Int)))) (fun k=>((sym a).take k,(k:Int))) (a.length+1) (fun k hk=>by
   unfold DF;simp only;have hk':k<(op a).length:=by omega
   have hle:=QE a hk';have htk:((sym a).take k).length=k:=by rw [List.length_take,Eg];omega
   have hs:(sym a).take (k+1)=(sym a).take k++[JQ a (op a)[k]]:=by
    rw [List.take_add_one];have:(sym a)[k]? = some (JQ a (op a)[k]):=by simp [sym,hk']
    rw [this];rfl
   rw [if_pos (by omega),Ak (by omega),Int.toNat_natCast,ZR a hk']
   by_cases c:(op a)[k]=0
   ·rw [c] at hs ⊢;rw [if_pos (show((0:Nat):Int)=0 from rfl),Ak (by rw [htk];simp only [List.length_singleton];constructor <;> omega),Ak (by constructor <;> omega),hs]
    rfl
   ·rw [if_neg (by omega),Ak (by constructor <;> omega),Ak (by omega),Ak (by rw [htk];simp only [List.length_singleton];constructor <;> omega),Ak (by constructor <;> omega),hs];have d:(((op a)[k]:Int) - 1).toNat=(op a)[k] - 1:=by omega
    unfold JQ;rw [if_neg c,d]
    rfl) (by
   unfold DF;simp only;rw [if_neg (by omega),List.take_of_length_le (by rw [Eg];omega)];unfold Gy;rw [Wq h]
   rfl) 0 (by omega)
  exact key
 ·rw [if_neg h,if_neg h];rfl
theorem UC(a:List UInt8)(h:a.length<=2048):B3 (idx a)=some (a.length:Int):=by
 unfold B3 D7;simp only [Option.bind_some];have:max ((idx a).1.length:Int) 1=(a.length:Int)+1:=by rw [show(idx a).1.length=a.length+1 from Eg a];omega
 rw [this,Ak (by constructor <;> omega)]
 congr 1;omega
theorem Of{a:List UInt8}(h:a.length<=2048):∀ (p:Nat) (o:List UInt8) (r:Nat) (hr:r<(op a).length),(op a)[r]=p->o.length=a.length->(∀ k,p<=k->o[k]? = a[k]?)->DZ (idx a) (o,(r:Int),(p:Int) - 1)=some a
 | 0,o,r,hr,hp,ho,hk=>by
  have:o=a:=List.ext_getElem? fun k=>hk k (Nat.zero_le _);subst this;refine BD (b:=BW (idx o)) (m:=some o) ?_;unfold BW;simp only;rw [if_neg (by omega)];rfl
 | p+1,o,r,hr,hp,ho,hk=>by
  have hle:=QE a hr;have hol:=D1 a;obtain⟨r',hr',e⟩:=SE (a:=a) (p:=p) (by omega)
  have hb:BW (idx a) (o,(r:Int),((p+1:Nat):Int) - 1)=some (.inl (o.set p (a.getD p default),(r':Int),(p:Int) - 1)):=by
   unfold BW;simp only;have c:(idx a).1=sym a:=rfl;have d:(idx a).2.1=Ml (sym a):=rfl;have hs:=Eg a;have f:(((p+1:Nat):Int) - 1).toNat=p:=by omega
   rw [if_pos (by omega),c,d,Ak (by omega),Ak (by omega),Ak (by rw [Pq];omega),Ak (by constructor <;> omega),Int.toNat_natCast,f,KG a hr,hp,QG hr hr' (by omega)];have g:JQ a (p+1)=((a.getD p default).toNat:Int):=by unfold JQ;rw [if_neg (by omega),Nat.add_sub_cancel]
   rw [g,Ab9]
   congr 4;omega
  unfold DZ;rw [Cu hb];refine Of h p _ r' hr' e (by rw [List.length_set];exact ho) fun k i=>?_;rw [List.getElem?_set]
  by_cases hpk:p=k
  ·subst hpk;rw [if_pos rfl,if_pos (by omega),List.getD_eq_getElem?_getD,List.getElem?_eq_getElem (by omega)];rfl
  ·rw [if_neg hpk];exact hk k (by omega)
theorem ZS(a:List UInt8)(h:a.length<=2048):Dv (idx a)=some a:=by
 unfold Dv
 show Option.bind (B3 (idx a)) _=_
 rw [UC a h,Option.bind_some,Ak (by omega),Int.toNat_natCast,List.length_replicate,Ak (by constructor <;> omega)];have hol:=D1 a;exact Of h a.length _ 0 (by omega) (V9 a) (by simp) (fun k hk=>by rw [List.getElem?_eq_none (by simp;omega),List.getElem?_eq_none (by omega)])
theorem UD(a:List UInt8)(h:a.length<=2048)(x y:Int):C5 (idx a) x y=some (if 0<=x/\x<=a.length then if x<=y/\y<=a.length then((a.drop x.toNat).take (y.toNat - x.toNat),(0,0)) else([],(4,-2)) else([],(4,-1))):=by
 unfold C5
 show(if x<0 then _ else Option.bind (B3 (idx a)) _)=_
 by_cases b:x<0
 ·rw [if_pos b,if_neg (by omega)];rfl
 ·rw [if_neg b,UC a h,Option.bind_some]
  by_cases h2:(a.length:Int)<x
  ·rw [if_pos h2,if_neg (by omega)];rfl
  ·rw [if_neg h2,if_pos (show 0<=x/\x<=(a.length:Int) by omega)]
   by_cases h3:y<x
   ·rw [if_pos h3,if_neg (by omega)];rfl
   ·rw [if_neg h3,Option.bind_some]
    by_cases c:(a.length:Int)<y
    ·rw [if_pos c,if_neg (by omega)];rfl
    ·rw [if_neg c,if_pos (show x<=y/\y<=(a.length:Int) by omega)]
     show Option.bind (Dv (idx a)) _=_
     rw [ZS a h,Option.bind_some,Ak (by omega)];unfold CP;have:((a.drop x.toNat).take (y.toNat - x.toNat)).length<=a.length:=by rw [List.length_take,List.length_drop];omega
     rw [Ak (by simp only [List.length_nil];constructor <;> omega)]
     rfl
end Go.Proofs.YtekmbcbgknmhiaaGreatDoor
end
noncomputable section
namespace Go.Proofs.YtekmbcbgknmhiaaGreatDoor
open Go Go.E Go.RowKit Go.Shelf
def EE(H:PH):Prop:=
 ((∀ c,c<256->Gp H ⟨Tryz.HK.g 2,c,none⟩=some (.int .u8 (Lib.firstT c)))/\
 (∀ i,i<16->Gp H ⟨Tryz.HK.g 3,2 * i,none⟩=some (.int .u8 (Lib.accLo i))/\Gp H ⟨Tryz.HK.g 3,2 * i+1,none⟩=some (.int .u8 (Lib.accHi i))))/\
 (∀ w, Le H (hp w) -> Lib.TabIs Tryz.prog w "internal/strconv.uint64pow10" .u64 Lib.pow10Tab) /\
 (∃ t p,Gp H ⟨Tryz.Pn.g 15,0,none⟩=some (.iface t p))/\(∃ t p,Gp H ⟨Tryz.Pn.g 16,0,none⟩=some (.iface t p))
theorem EE.mono{H H':PH}(h:EE H)(hs:Le H H'):EE H':=by
 obtain⟨a,h2,⟨t,p,h3⟩,⟨t',p',b⟩⟩:=h;exact⟨⟨fun c hc=>GD hs (a.1 c hc),fun i hi=>⟨GD hs (a.2 i hi).1,GD hs (a.2 i hi).2⟩⟩,fun w hw=>h2 w (hs.trans hw),⟨t,p,GD hs h3⟩,⟨t',p',GD hs b⟩⟩
theorem EE.Acv{w:World}(h:EE (hp w)):Lib.Utf8Tabs (Tryz.HK.g 2) (Tryz.HK.g 3) w:=⟨h.1.1,h.1.2⟩
def Wr(l:List UInt8):Option (Int×Int):=Go.L.Bh (l≠[]) (some (((Lib.decodeGo ⟨l.toArray⟩).1:Int),((Lib.decodeGo ⟨l.toArray⟩).2:Int)))
theorem Aa9(w:World)(H:PH)(hH:Le H (hp w))(hU:EE H){u:Value}{l:List UInt8}(ha:AA .byte H u l){r:Int×Int}(h:Wr l=some r):
  Ok Tryz.prog 232 [u] w (fun v w'=>Ext w w'/\v=.tuple #[.int .i32 r.1,.int .i64 r.2]):=by
 obtain⟨hk,h⟩:=Go.L.Fw h;obtain rfl:=Option.some.inj h;have hs:(ByteArray.mk l.toArray).size=l.length:=by simp [ByteArray.size]
 obtain⟨a,cap,rfl,h2,h3,f,g⟩:=ha.ex
 cases a with
 | none=>exact absurd (List.eq_nil_of_length_eq_zero (by have:=f rfl;omega)) hk
 | some A=>
  obtain⟨d,i⟩:=g A rfl hk;obtain⟨b,off,sp⟩:=A;simp only at d;subst d
  have hc:=Any7.utf8_DecodeRune Tryz.XG ⟨l.toArray⟩ b off cap w (hU.mono hH).Acv (fun j hj=>by
   rw [hs] at hj;obtain⟨c,hc,hcell⟩:=i j l[j] (List.getElem?_eq_getElem hj);obtain rfl:c=[.int .u8 (l[j].toNat:Int)]:=hc;have:=cell_of hH (hcell 0 _ rfl);rw [show(Rp.byte).sz=1 from rfl,Nat.mul_one,Nat.add_zero,Addr.add_lit] at this;rw [this];have e:(ByteArray.mk l.toArray).get! j=l[j]:=by simp [ByteArray.get!,hj]
   rw [e])
  rw [hs] at hc;refine⟨⟨Tryz.f232,_,Tryz.func232,rfl,rfl⟩,hc.mono fun e w' he=>?_⟩;obtain⟨rfl,hb⟩:=he;exact⟨_,rfl,Ext.off hb,rfl⟩
end Go.Proofs.YtekmbcbgknmhiaaGreatDoor
end
noncomputable section
namespace Go
abbrev Adt:=List (Aaz×Adw)
end Go
namespace Go.Proofs.YtekmbcbgknmhiaaGreatDoor
open Go Go.E Go.RowKit Go.L
set_option maxHeartbeats 1000000
set_option maxRecDepth 10000
open _root_.Go.Proofs.Tryz
def F0(a0:Aaz×Adw)(a1:Aaz):Option Int:=
 Option.bind (strings_Compare a0.1 a1) (fun a=>some a)
theorem Jq{b w:World}{H:PH}(hH:Le H (hp b)){O:List BE}{a0:Aaz×Adw}{a1:Aaz}{va0_1:Value}(hL:AU b (Ha [] O) w)(j:AA Ad4 (gz H b w (Ha [] O)) va0_1 (a0.2)){r:Int}(h:F0 a0 a1=some r):
  Ok prog 252 [.agg #[Aat a0.1,va0_1],Aat a1] w (fun v w'=>v=No r/\AU b (Ha [] O) w'/\Le (fz w (Ha [] O)) (fz w' (Ha [] O))):=by
 refine Ey (n:=9) [(0,.agg #[Aat a0.1,va0_1]),(1,(Aat a1))] func252 rfl rfl rfl rfl rfl ?_;have hT:=Le.refl (fz w (Ha [] O));refine Ai<|Dq (t:=192) rfl rfl rfl hL fun l m a c _=>A4 1 rfl<|Ai<|Ah (Af rfl AcW rfl Kq) rfl<|Ah (Ag 0 rfl AaQ rfl a rfl) rfl<|As 1 rfl<|Aq h fun o e h=>A8 rfl rfl a (I4 _ _ (Al hH a) e) fun p k f d=>A4 1 rfl<|Ax ?_
 cases h
 refine Am rfl ?_;have g:=f.AV (i:=0) rfl;have hT:=hT.trans (c.trans (d.trans (An (i:=0) rfl)));exact⟨rfl,g,hT⟩
def Bq(a0:List (Aaz×Adw))(a1:Aaz)(a:Int):Option (Int×Bool):=
 if a<(a0.length:Int) then Bh (0<=a/\a<(a0.length:Int)) (Option.bind (F0 ((a0.getD a.toNat default).1,(a0.getD a.toNat default).2) a1) (fun b=>some (a,decide (b=0)))) else some (a,false)
def Bn(a0:List (Aaz×Adw))(a1:Aaz):Int×Int->Option ((Int×Int) ⊕ (Int×Bool)):=fun⟨b,a⟩=>
 if b<a then Bh (C0 (b+a)) (Bh (0<=(IntKind.i64.wrap ((IntKind.u64.wrap (b+a)) / 2))/\(IntKind.i64.wrap ((IntKind.u64.wrap (b+a)) / 2))<(a0.length:Int)) (Option.bind (F0 ((a0.getD ((IntKind.i64.wrap ((IntKind.u64.wrap (b+a)) / 2)).toNat) default).1,(a0.getD ((IntKind.i64.wrap ((IntKind.u64.wrap (b+a)) / 2)).toNat) default).2) a1) (fun c=>if c<0 then Bh (C0 ((IntKind.i64.wrap ((IntKind.u64.wrap (b+a)) / 2))+1)) (some (Sum.inl (((IntKind.i64.wrap ((IntKind.u64.wrap (b+a)) / 2))+1),a))) else some (Sum.inl (b,(IntKind.i64.wrap ((IntKind.u64.wrap (b+a)) / 2))))))) else Option.map Sum.inr ((Bq a0 a1) b)
def BA(a0:List (Aaz×Adw))(a1:Aaz)(s:Int×Int):Option (Int×Bool):=Go.L.run (Bn a0 a1) s
def Bv(a0:List (Aaz×Adw))(a1:Aaz):Option (Int×Bool):=
 (BA a0 a1) (0,(a0.length:Int))
theorem Ev{i w:World}{H:PH}(hH:Le H (hp i)){O:List BE}{a0:List (Aaz×Adw)}{a1:Aaz}{va0:Value}(hL:AU i (Ha [] O) w)(y:AA (.pair .st (.vec Ad4)) (gz H i w (Ha [] O)) va0 a0){r:Int×Bool}(h:Bv a0 a1=some r):
  Ok prog 251 [va0,Aat a1,.func (.func 252) #[] #[]] w (fun v w'=>v=.tuple #[No r.1,.bool r.2]/\AU i (Ha [] O) w'/\Le (fz w (Ha [] O)) (fz w' (Ha [] O))):=by
 refine Ey (n:=49) [(0,va0),(1,(Aat a1)),(2,.func (.func 252) #[] #[])] func251 rfl rfl rfl rfl rfl ?_;have hT:=Le.refl (fz w (Ha [] O));refine AD 2 rfl<|Bs 1 rfl<|Ah (Bj rfl AcX y) rfl<|A4 1 rfl<|AD 3 rfl<|Bw (σ:=Int) (fun f=>[(0,va0),(1,(Aat a1)),(2,.func (.func 252) #[] #[]),(8,No (a0.length:Int)),(9,No f)]) (fun f wr=>FL i (Ha [] O) wr fun Oz=>AA (.pair .st (.vec Ad4)) (gz H i wr Oz) va0 a0/\Le (fz w (Ha [] O)) (fz wr Oz)/\(Bq a0 a1) f=some r) ?_ ?_
 ·refine A2 ?_;obtain⟨o,h⟩:=AY h;refine B8 (σ:=Int×Int×Nat) (fun⟨b,a,n⟩=>[(0,va0),(1,(Aat a1)),(2,.func (.func 252) #[] #[]),(8,No (a0.length:Int)),(9,No b),(10,No a)]) (fun⟨b,a,n⟩ wr=>FL i (Ha [] O) wr fun Oz=>AA (.pair .st (.vec Ad4)) (gz H i wr Oz) va0 a0/\Le (fz w (Ha [] O)) (fz wr Oz)/\GR (Bn a0 a1) n (b,a)=some r) (fun⟨b,a,n⟩=>n) (0,(a0.length:Int),o) (Sub.of rfl) ⟨hL,y,hT,h⟩ ?_;rintro⟨b,a,nn48⟩ ai ⟨j,e,hT,h⟩;obtain⟨o,ak,rfl,h,k⟩:=AX h;refine A9<|AD 3 rfl<|AO rfl h (fun z h=>?_) (fun z h=>?_)
  ·refine Au<|Ar<|A2<|Bs 2 rfl<|AB h fun aa h=>Ah (AK rfl aa) rfl<|Ah (IS AaA Acx rfl rfl) rfl<|Ah (R6 (c:=1) (m:=2) rfl rfl rfl (by decide)) rfl<|Ah (IS Acx AaA rfl rfl) rfl<|A4 1 rfl<|Bs 3 rfl<|AB h fun p h=>Be rfl rfl AcX Nz e ((IntKind.i64.wrap ((IntKind.u64.wrap (b+a)) / 2)).toNat) (Hc p) (Ba p) rfl ?_;rintro al _ ⟨_,_,rfl,rfl,⟨e53v1,rfl,e53h1⟩⟩ ab;refine Ah (C7 rfl AcW rfl Nz ab (Al hH j)) rfl<|As 1 rfl<|Aq h fun am ac h=>Es rfl rfl rfl (Jq (a0:=((a0.getD ((IntKind.i64.wrap ((IntKind.u64.wrap (b+a)) / 2)).toNat) default).1,(a0.getD ((IntKind.i64.wrap ((IntKind.u64.wrap (b+a)) / 2)).toNat) default).2)) (a1:=a1) (O:=(Ha [] O)) hH j e53h1 ac) ?_;rintro _ an ⟨rfl,q,g⟩;refine A4 1 rfl<|AO rfl h (fun ad h=>?_) (fun ad h=>?_)
   ·refine Av<|As 1 rfl<|AB h fun ae h=>Ah (AK rfl ae) rfl<|As 1 rfl<|AQ<|AJ ?_;have h:=CV.again h k;have e:=e.mono (Aa hH g);have hT:=hT.trans g;refine AW (((IntKind.i64.wrap ((IntKind.u64.wrap (b+a)) / 2))+1),a,o) (Sub.of rfl) ⟨q,e,hT,h⟩ (Nat.lt_succ_self _)
   refine Av<|As 2 rfl<|AQ<|AJ ?_;have h:=CV.again h k;have e:=e.mono (Aa hH g);have hT:=hT.trans g;refine AW (b,(IntKind.i64.wrap ((IntKind.u64.wrap (b+a)) / 2)),o) (Sub.of rfl) ⟨q,e,hT,h⟩ (Nat.lt_succ_self _)
  refine B5<|AE<|A7 ?_;have h:=CV.out h k;refine Bk<|A6 b (Sub.of rfl) ⟨j,e,hT,h⟩
 rintro f aj ⟨l,t,hT,h⟩;refine Bs 5 rfl<|Bl (s:=39) rfl (fun d=>?_) (fun d=>?_)
 ·have h:=Eo (of_decide_eq_true d) h;refine Ab rfl d<|Ah (Aj rfl) rfl<|Ab rfl d<|Ah (Aj rfl) rfl<|Ab rfl d<|Ah (Aj rfl) rfl<|Ab rfl d<|AB h fun u h=>Be rfl rfl AcX Nz t f.toNat (Hc u) (Ba u) rfl ?_;rintro ao _ ⟨_,_,rfl,rfl,⟨e65v1,rfl,e65h1⟩⟩ af;refine Ab rfl d<|Ah (C7 rfl AcW rfl Nz af (Al hH l)) rfl<|Ab rfl d<|Ah (Aj rfl) rfl<|Ab rfl d<|Aq h fun ap ag h=>Es rfl rfl rfl (Jq (a0:=((a0.getD f.toNat default).1,(a0.getD f.toNat default).2)) (a1:=a1) (O:=(Ha [] O)) hH l e65h1 ag) ?_;rintro _ aq ⟨rfl,ah,x⟩;refine Ab rfl d<|Ah (Aj rfl) rfl<|Ah (AH rfl d rfl) rfl<|A4 2 rfl<|Ax ?_
  cases h
  refine Am rfl ?_;have hT:=hT.trans x;exact⟨rfl,ah,hT⟩
 have h:=Ep (of_decide_eq_false d) h
 iterate 8 refine Ao rfl d rfl ?_
 refine Ah (AS rfl d rfl) rfl<|A4 2 rfl<|Ax ?_
 cases h
 refine Am rfl ⟨rfl,l,hT⟩
def HQ(a0:Int×Adt)(a1:Aaz):Option (Adw):=
 Option.bind (Bv a0.2 a1) (fun a=>if !a.2 then none else Bh (0<=a.1/\a.1<(a0.2.length:Int)) (some ((a0.2.getD a.1.toNat default).2)))
theorem Nh(w:World)(H:PH)(hH:Le H (hp w)){a0:Int×Adt}{a1:Aaz}{a:Value}(b:AA (.pair .st (.vec Ad4)) H a (a0.2)){r:Adw}(h:HQ a0 a1=some r):
  Ok prog 194 [.agg #[No a0.1,a],Aat a1] w (fun v w'=>Ext w w'/\∃ f,v=f/\AA Ad4 (un H (nw w w')) f r):=by
 refine Aw (n:=22) [(0,.agg #[No a0.1,a]),(1,(Aat a1))] func194 rfl fun hL=>Ai<|Dq (t:=46) rfl rfl rfl hL fun q l d m _=>A4 1 rfl<|Ai<|Ah (Af rfl AcY rfl Uz) rfl<|Ah (Ag 0 rfl AcX rfl d rfl) rfl<|As 1 rfl<|Aq h fun o g h=>EL rfl rfl (Ev (a0:=a0.2) (a1:=a1) (O:=[.box l [No a0.1,a] 46]) hH d (b.mono (Ae hH)) g) ?_;rintro _ s ⟨rfl,c,p⟩;refine A4 5 rfl<|A9<|AD 2 rfl<|By rfl h (fun i h=>?_) (fun i h=>?_)
 ·cases h
 refine Au<|Ar<|Ai<|Ah (Af rfl AcY rfl Uz) rfl<|Ah (Ag 0 rfl AcX rfl c rfl) rfl<|As 1 rfl<|AB h fun e h=>Be rfl rfl AcX Nz b o.1.toNat (Hc e) (Ba e) rfl ?_;rintro u _ ⟨_,_,rfl,rfl,⟨e7v1,rfl,e7h1⟩⟩ j;refine Ah (Af rfl AcW rfl X0) rfl ?_;have k:=j.add 1;refine Ah (Bu rfl AcS rfl k (hH.trans c.arg)) rfl<|A4 1 rfl<|Ax ?_
 cases h
 refine Am rfl ⟨c.ext,_,rfl,(e7h1.mono (Js hH))⟩
def HR(a0:Aaz):Option (Aaz×Int):=
 Bh (0<=(0:Int)/\(0:Int)<(a0.length:Int)) (if(48<=((a0.getD ((0:Int).toNat) default).toNat:Int))/\(((a0.getD ((0:Int).toNat) default).toNat:Int)<=57) then Bh ((a0.getD ((0:Int).toNat) default).toNat<128) (some ([a0.getD ((0:Int).toNat) default],1)) else if 97<=((a0.getD ((0:Int).toNat) default).toNat:Int) then if((a0.getD ((0:Int).toNat) default).toNat:Int)<=122 then Bh ((a0.getD ((0:Int).toNat) default).toNat<128) (some ([a0.getD ((0:Int).toNat) default],1)) else(if(65<=((a0.getD ((0:Int).toNat) default).toNat:Int))/\(((a0.getD ((0:Int).toNat) default).toNat:Int)<=90) then Bh (((a0.getD ((0:Int).toNat) default - (65:UInt8))+(97:UInt8)).toNat<128) (some ([((a0.getD ((0:Int).toNat) default - (65:UInt8))+(97:UInt8))],1)) else(if((a0.getD ((0:Int).toNat) default).toNat:Int)<128 then some (([]:Aaz),1) else Option.bind (Wr a0) (fun a=>if(a.1=65533)/\(a.2=1) then some (([]:Aaz),1) else Bh (0<=a.2/\a.2<=(a0.length:Int)) (some ((a0.take a.2.toNat),a.2))))) else if(65<=((a0.getD ((0:Int).toNat) default).toNat:Int))/\(((a0.getD ((0:Int).toNat) default).toNat:Int)<=90) then Bh (((a0.getD ((0:Int).toNat) default - (65:UInt8))+(97:UInt8)).toNat<128) (some ([((a0.getD ((0:Int).toNat) default - (65:UInt8))+(97:UInt8))],1)) else(if((a0.getD ((0:Int).toNat) default).toNat:Int)<128 then some (([]:Aaz),1) else Option.bind (Wr a0) (fun b=>if(b.1=65533)/\(b.2=1) then some (([]:Aaz),1) else Bh (0<=b.2/\b.2<=(a0.length:Int)) (some ((a0.take b.2.toNat),b.2)))))
theorem P2(w:World)(H:PH)(hH:Le H (hp w))(hU:EE H){a0:Aaz}{e:Value}(d:AA .byte H e a0){r:Aaz×Int}(h:HR a0=some r):
  Ok prog 181 [e] w (fun v w'=>Ext w w'/\v=.tuple #[Aat r.1,No r.2]):=by
 refine Aw (n:=57) [(0,e)] func181 rfl fun hL=>AD 2 rfl<|A9<|Bs 1 rfl<|AB h fun i h=>Be rfl rfl Abj NK d ((0:Int).toNat) (Hc i) (Ba i) rfl ?_;rintro p1 _ rfl ad;refine Ah (Bu rfl Acu rfl ad (hH.trans hL.arg)) rfl<|A4 1 rfl<|A2<|Bs 3 rfl<|Ns 2 2 rfl rfl rfl rfl rfl rfl<|As 1 rfl<|Bl (s:=17) rfl (fun a=>?_) (fun a=>?_)
 ·have h:=Eo (of_decide_eq_true a) h
  iterate 3 refine Ao rfl a rfl ?_
  iterate 2 refine Mu rfl rfl rfl ?_
  refine Ao rfl a rfl<|Ah (AH rfl a rfl) rfl<|A4 1 rfl<|DW rfl<|Bs 1 rfl<|AB h fun ae h=>Ah (Vk rfl Acu AaQ ae) rfl<|A4 2 rfl<|Ax<|Az<|Ay ?_
  cases h
  refine Am rfl ⟨hL.ext,rfl⟩
 have h:=Ep (of_decide_eq_false a) h;refine Ab rfl a<|Ah (Aj rfl) rfl<|Ab rfl a<|Ah (Aj rfl) rfl<|Ab rfl a<|Ah (Aj rfl) rfl<|Bl (s:=20) rfl (fun c=>?_) (fun c=>?_)
 ·have h:=Eo (of_decide_eq_true c) h;refine Ab rfl c<|Ah (Aj rfl) rfl<|Ab rfl c<|Ah (Aj rfl) rfl<|Ab rfl a<|Ah (AH rfl c rfl) rfl<|Ah (AS rfl a rfl) rfl<|A4 1 rfl<|AO rfl h (fun af h=>?_) (fun af h=>?_)
  ·refine Bs 1 rfl<|AB h fun j h=>Ah (Vk rfl Acu AaQ j) rfl<|A4 2 rfl<|Ax<|Az<|Ay ?_
   cases h
   refine Am rfl ⟨hL.ext,rfl⟩
  refine Bs 3 rfl<|Ns 2 2 rfl rfl rfl rfl rfl rfl<|A4 1 rfl<|AO rfl h (fun k h=>?_) (fun k h=>?_)
  ·refine Bs 1 rfl<|Ah (Vg (b:=65) rfl rfl rfl) rfl<|Ah (Vg (b:=97) rfl rfl rfl) rfl<|AB h fun l h=>Ah (Vk rfl Acu AaQ l) rfl<|A4 2 rfl<|Ax<|Az<|Ay ?_
   cases h
   refine Am rfl ⟨hL.ext,rfl⟩
  refine AD 3 rfl<|AO rfl h (fun m h=>?_) (fun m h=>?_)
  ·refine AD 2 rfl<|Ax<|Az<|Ay ?_
   cases h
   refine Am rfl ⟨hL.ext,rfl⟩
  refine Au<|AJ<|Ar<|Bs 1 rfl<|Aq h fun ak o h=>A8 rfl rfl hL (Aa9 _ _ (Al hH hL) (hU.mono (Ae hH)) (d.mono (Ae hH)) o) fun al ai f ag=>A4 5 rfl<|A9<|Bs 3 rfl<|Ns 2 2 rfl rfl rfl rfl rfl rfl<|Ac<|AO rfl h (fun p h=>?_) (fun p h=>?_)
  ·refine AD 2 rfl<|Ax<|Ay ?_
   cases h
   refine Am rfl ⟨f.ext,rfl⟩
  refine Au<|Ar<|Bs 2 rfl<|AB h fun q h=>Ql rfl rfl Abj NK d q rfl fun am t=>Ah (Tp rfl Abj Acu AaQ t (hH.trans f.arg)) rfl<|A4 3 rfl<|Ax ?_
  cases h
  refine Am rfl ⟨f.ext,rfl⟩
 have h:=Ep (of_decide_eq_false c) h
 iterate 2 refine Ao rfl c rfl ?_
 refine Ab rfl a<|Ah (AS rfl c rfl) rfl<|Ah (AS rfl a rfl) rfl<|A4 1 rfl<|Hn rfl<|Bs 3 rfl<|Ns 2 2 rfl rfl rfl rfl rfl rfl<|A4 1 rfl<|AO rfl h (fun u h=>?_) (fun u h=>?_)
 ·refine Bs 1 rfl<|Ah (Vg (b:=65) rfl rfl rfl) rfl<|Ah (Vg (b:=97) rfl rfl rfl) rfl<|AB h fun x h=>Ah (Vk rfl Acu AaQ x) rfl<|A4 2 rfl<|Ax<|Az<|Ay ?_
  cases h
  refine Am rfl ⟨hL.ext,rfl⟩
 refine AD 3 rfl<|AO rfl h (fun y h=>?_) (fun y h=>?_)
 ·refine AD 2 rfl<|Ax<|Az<|Ay ?_
  cases h
  refine Am rfl ⟨hL.ext,rfl⟩
 refine Au<|AJ<|Ar<|Bs 1 rfl<|Aq h fun an z h=>A8 rfl rfl hL (Aa9 _ _ (Al hH hL) (hU.mono (Ae hH)) (d.mono (Ae hH)) z) fun ao aj g ah=>A4 5 rfl<|A9<|Bs 3 rfl<|Ns 2 2 rfl rfl rfl rfl rfl rfl<|Ac<|AO rfl h (fun aa h=>?_) (fun aa h=>?_)
 ·refine AD 2 rfl<|Ax<|Ay ?_
  cases h
  refine Am rfl ⟨g.ext,rfl⟩
 refine Au<|Ar<|Bs 2 rfl<|AB h fun ab h=>Ql rfl rfl Abj NK d ab rfl fun ap ac=>Ah (Tp rfl Abj Acu AaQ ac (hH.trans g.arg)) rfl<|A4 3 rfl<|Ax ?_
 cases h
 refine Am rfl ⟨g.ext,rfl⟩
end Go.Proofs.YtekmbcbgknmhiaaGreatDoor
end
noncomputable section
namespace Go
abbrev Adx:=List (Aaz×Int×Int)
end Go
namespace Go.Proofs.YtekmbcbgknmhiaaGreatDoor
open Go Go.E Go.RowKit Go.L
set_option maxHeartbeats 1000000
set_option maxRecDepth 10000
open _root_.Go.Proofs.Tryz
def Fs(c:Int)(d:Aaz)(a:List (Aaz×Int×Int))(b:Int):Option ((Adx×Int) ⊕ (Adx)):=
 Bh (Go.E.Ij 32 (a.length+1)) (Option.map Sum.inr (some ((a++[(d,c,b)]))))
def BX(a1:Aaz)(d:List (Aaz×Int×Int))(e:Int):Aaz×Int->Option ((Aaz×Int) ⊕ ((Adx×Int) ⊕ (Adx))):=fun⟨c,a⟩=>
 if a<(a1.length:Int) then Bh (0<=a/\a<=(a1.length:Int)) (Option.bind (HR (a1.drop a.toNat)) (fun b=>if b.1=([]:Aaz) then Bh (C0 (a+b.2)) (if c=([]:Aaz) then Option.map Sum.inr (some (Sum.inl (d,(a+b.2)))) else Bh (Go.E.Ij 32 (d.length+1)) (Option.map Sum.inr (some (Sum.inl ((d++[(c,e,a)]),(a+b.2)))))) else Bh (c.length+b.1.length<=9223372036854775807) (Bh (C0 (a+b.2)) (some (Sum.inl ((c++b.1),(a+b.2))))))) else Option.map Sum.inr ((Fs e) c d a)
def J0(a1:Aaz)(b:List (Aaz×Int×Int))(a:Int)(s:Aaz×Int):Option ((Adx×Int) ⊕ (Adx)):=Go.L.run (BX a1 b a) s
def BY(a1:Aaz):Adx×Int->Option ((Adx×Int) ⊕ (Adx)):=fun⟨b,a⟩=>
 if a<(a1.length:Int) then(J0 a1 b a) (([]:Aaz),a) else Option.map Sum.inr (some b)
def J1(a1:Aaz)(s:Adx×Int):Option (Adx):=Go.L.run (BY a1) s
def Ir(a0:List (Aaz×Int×Int))(a1:Aaz):Option (Adx):=
 (J1 a1) (a0,0)
theorem OO{l w:World}{H:PH}(hH:Le H (hp l))(hU:EE H){O:List BE}{a0:List (Aaz×Int×Int)}{a1:Aaz}{la0 Da0 ba0:Nat}{ca0:Loop}{va0:Value}{xsa0:List Value}{va1_0:Value}{pa1:Addr}(bb:Xl prog (.pair .st Ad4) 3 32 la0 Da0 ba0 ca0 131 135)(hL:AU l (Ha [.obj la0 (.loop ca0),.obj Da0 (.deferred (some [])),.box ba0 [va0] 131,.row va0 135 3 (a0).length xsa0] O) w)(b2:AF (.pair .st Ad4) (gz H l w (Ha [.obj la0 (.loop ca0),.obj Da0 (.deferred (some [])),.box ba0 [va0] 131,.row va0 135 3 (a0).length xsa0] O)) a0 xsa0)(be:AA .byte (gz H l w (Ha [.obj la0 (.loop ca0),.obj Da0 (.deferred (some [])),.box ba0 [va0] 131,.row va0 135 3 (a0).length xsa0] O)) va1_0 a1)(b3:G9 (gz H l w (Ha [.obj la0 (.loop ca0),.obj Da0 (.deferred (some [])),.box ba0 [va0] 131,.row va0 135 3 (a0).length xsa0] O)) pa1 [va1_0]){r:Adx}(h:Ir a0 a1=some r):
  Ok prog 180 [.func (.yield la0) #[] #[],.pointer (some pa1)] w (fun v w'=>∃ (u0:Value) (y0:List Value),v=.tuple #[]/\AU l (Ha [.obj la0 (.loop ca0),.obj Da0 (.deferred (some [])),.box ba0 [u0] 131,.row u0 135 3 (r).length y0] O) w'/\Le (fz w (Ha [.obj la0 (.loop ca0),.obj Da0 (.deferred (some [])),.box ba0 [va0] 131,.row va0 135 3 (a0).length xsa0] O)) (fz w' (Ha [.obj la0 (.loop ca0),.obj Da0 (.deferred (some [])),.box ba0 [u0] 131,.row u0 135 3 (r).length y0] O))/\AF (.pair .st Ad4) (gz H l w' (Ha [.obj la0 (.loop ca0),.obj Da0 (.deferred (some [])),.box ba0 [u0] 131,.row u0 135 3 (r).length y0] O)) r y0):=by
 refine Ey (n:=53) [(0,.func (.yield la0) #[] #[]),(1,.pointer (some pa1))] func180 rfl rfl rfl rfl rfl ?_;have hT:=Le.refl (fz w (Ha [.obj la0 (.loop ca0),.obj Da0 (.deferred (some [])),.box ba0 [va0] 131,.row va0 135 3 (a0).length xsa0] O));refine S2 ?_;have bc:=hL.rG H;refine AD 1 rfl<|A9<|Zp<|Ar<|A2 ?_;obtain⟨a6,h⟩:=AY h;refine B8 (σ:=Adx×Int×Value×(List Value)×Nat) (fun⟨m,a,g,d,n⟩=>[(0,.func (.yield la0) #[] #[]),(1,.pointer (some pa1)),(3,No a)]) (fun⟨m,a,g,d,n⟩ wr=>FL l (Ha [.obj la0 (.loop ca0),.obj Da0 (.deferred (some [])),.box ba0 [g] 131,.row g 135 3 (m).length d] O) wr fun Oz=>G9 (gz H l wr Oz) pa1 [va1_0]/\AA .byte (gz H l wr Oz) va1_0 a1/\AF (.pair .st Ad4) (gz H l wr Oz) m d/\Le (fz w (Ha [.obj la0 (.loop ca0),.obj Da0 (.deferred (some [])),.box ba0 [va0] 131,.row va0 135 3 (a0).length xsa0] O)) (fz wr Oz)/\GR (BY a1) n (m,a)=some r) (fun⟨m,a,g,d,n⟩=>n) (a0,0,va0,xsa0,a6) (Sub.of rfl) ⟨hL,(b3.mono bc),(be.mono bc),(b2.mono bc),hT,h⟩ ?_;rintro⟨m,a,g,d,nn68⟩ cc ⟨af,aq,ar,a7,hT,h⟩;obtain⟨a6,b1,rfl,h,ag⟩:=AX h;refine A9 ?_;have x:=af.rG H
 refine Bs 1 rfl<|Ah (Bu rfl Abj rfl (aq.mono x) (Al hH af)) rfl<|Ah (Bj rfl Abj (ar.mono x)) rfl<|A4 1 rfl<|AO rfl h (fun b4 h=>?_) (fun b4 h=>?_)
 ·refine Au<|Ar<|A2<|Bs 1 rfl<|Ah (AN rfl (fun _=>X1 _ _)) rfl<|A3 Lb rfl rfl af fun cj aa b5 ah _=>Ad 0 rfl Lb b5 rfl (AT rfl) fun ck b6 ai=>Ac<|Bw (σ:=Aaz×Adx×Int×Value×(List Value)) (fun⟨p,y,f,k,o⟩=>[(0,.func (.yield la0) #[] #[]),(3,No f),(4,(Aas aa))]) (fun⟨p,y,f,k,o⟩ wr=>FL l (Ha [.box aa [Aat p,No a,No 0] 135,.obj la0 (.loop ca0),.obj Da0 (.deferred (some [])),.box ba0 [k] 131,.row k 135 3 (y).length o] O) wr fun Oz=>AF (.pair .st Ad4) (gz H l wr Oz) y o/\Le (fz w (Ha [.obj la0 (.loop ca0),.obj Da0 (.deferred (some [])),.box ba0 [va0] 131,.row va0 135 3 (a0).length xsa0] O)) (fz wr Oz)/\(Fs a) p y f=some b1) ?_ ?_
  ·refine A2 ?_;obtain⟨a3,h⟩:=AY h;have x:=x.trans (Aa hH (ah.trans ai));have hT:=hT.trans (ah.trans ai);refine B8 (σ:=Aaz×Int×Nat) (fun⟨j,c,n⟩=>[(0,.func (.yield la0) #[] #[]),(1,.pointer (some pa1)),(3,No c),(4,(Aas aa))]) (fun⟨j,c,n⟩ wr=>FL l (Ha [.box aa [Aat j,No a,No 0] 135,.obj la0 (.loop ca0),.obj Da0 (.deferred (some [])),.box ba0 [g] 131,.row g 135 3 (m).length d] O) wr fun Oz=>G9 (gz H l wr Oz) pa1 [va1_0]/\AA .byte (gz H l wr Oz) va1_0 a1/\AF (.pair .st Ad4) (gz H l wr Oz) m d/\Le (fz w (Ha [.obj la0 (.loop ca0),.obj Da0 (.deferred (some [])),.box ba0 [va0] 131,.row va0 135 3 (a0).length xsa0] O)) (fz wr Oz)/\GR (BX a1 m a) n (j,c)=some b1) (fun⟨j,c,n⟩=>n) (([]:Aaz),a,a3) (Sub.of rfl) ⟨b6,(aq.mono x),(ar.mono x),(a7.mono x),hT,h⟩ ?_;rintro⟨j,c,nn155⟩ b9 ⟨z,q,t,he155_Ra0,hT,h⟩;obtain⟨a3,cd,rfl,h,ad⟩:=AX h;refine A9 ?_;have b:=z.rG H;refine Bs 1 rfl<|Ah (Bu rfl Abj rfl (q.mono b) (Al hH z)) rfl<|Ah (Bj rfl Abj (t.mono b)) rfl<|A4 1 rfl ?_
   refine AO rfl h (fun bf h=>?_) (fun bf h=>?_)
   ·refine Au<|Ar<|A2<|Ai<|Ah (Bu rfl Abj rfl (q.mono b) (Al hH z)) rfl<|As 1 rfl<|AB h fun bg h=>Tt rfl rfl Abj NK (t.mono b) bg rfl fun ce bh=>Aq h fun aj bi h=>A8 rfl rfl z (P2 _ _ (Al hH z) (hU.mono (Ae hH)) bh bi) fun cf ca ak u=>A4 5 rfl<|A9<|Bs 1 rfl<|Ah (Nu rfl rfl) rfl<|Ac<|AO rfl h (fun bj h=>?_) (fun bj h=>?_)
    ·refine Bs 1 rfl<|Ah (Af rfl AcZ rfl Dd) rfl<|B6 0 rfl rfl rfl Dd ak rfl rfl fun a4 ab ac=>Ac<|Bs 2 rfl<|AB h fun bk h=>Ah (AK rfl bk) rfl<|A4 1 rfl<|A9<|Xj<|Ky (Cl (Cl (Cl (AZ (CC (AZ (Jt (AZ (CC (AZ (Fy GF))))))))))) rfl<|Ah (Af rfl AcZ rfl Kq) rfl<|GG<|Ky (Cl (Cl (Cl (AZ (CC (AZ (Jt (AZ (CC (AZ (Fy GF))))))))))) rfl<|Ah (Ag 0 rfl AaQ rfl ab rfl) rfl<|GG<|Ky (Cl (Cl (Cl (AZ (CC (AZ (Jt (AZ (CC (AZ (Fy GF))))))))))) rfl<|Ah (R7 rfl rfl) rfl<|GG<|Ky (Cl (Cl (Cl (AZ (CC (AZ (Jt (AZ (CC (AZ (Fy GF))))))))))) rfl<|As 1 rfl<|GG<|Xk (s:=34) rfl (fun e=>?_) (fun e=>?_)
     ·have h:=Ep (Hd e) h;refine L9 rfl rfl e<|Ky (Cl (Cl (Cl (AZ (CC (AZ (Jt (AZ (CC (AZ (Fy GF))))))))))) rfl<|As 1 rfl<|GG<|L9 rfl rfl e<|Ky (Cl (Cl (Cl (AZ (CC (AZ (Jt (AZ (CC (AZ (Fy GF))))))))))) rfl<|Ah (A5 0 rfl AcZ rfl Lb ab rfl) rfl<|GG<|L9 rfl rfl e ?_;have al:AU l (Ha [.box ba0 [g] 131,.row g 135 3 (m).length d,.box aa [Aat j,No a,No c] 135,.obj la0 (.loop ca0),.obj Da0 (.deferred (some []))] O) a4:=ab.CW [4,4] rfl;have au:=B9 [4,4] ab al rfl;have a8:AU l (Ha [.obj la0 (.loop ca0),.obj Da0 (.deferred (some [])),.box ba0 [g] 131,.row g 135 3 (m).length d,.box aa [Aat j,No a,No c] 135] O) a4:=al.CW [4,4] rfl;have av:=B9 [4,4] al a8 rfl;refine AB h fun bl h=>?_;have b:=b.trans (Aa hH (u.trans (ac.trans (au.trans av))))
      have bm:=@bb l a4 H ((Ha [.box aa [Aat j,No a,No c] 135] O)) g (.agg #[Aat j,No a,No c]) d [Aat j,No a,No c] m (j,a,c) hH a8 (he155_Ra0.mono b) rfl ⟨_,_,rfl,rfl,⟨_,_,rfl,rfl,rfl⟩⟩ bl;refine Tw rfl rfl rfl bm ?_;rintro cg ⟨b7,bn,bo,aw,am⟩;refine L9 rfl rfl e<|Ky (Cl (Cl (Cl (AZ (CC (AZ (Jt (AZ (CC (AZ (Fy GF))))))))))) rfl<|As 1 rfl<|GG<|Ky (Cl (Cl (Cl (AZ (CC (AZ (Jt (AZ (CC (AZ (Fy GF))))))))))) rfl<|Ah (AH rfl e rfl) rfl<|GG<|OF<|Hn rfl<|Au<|Ar<|B5<|AE<|Lz rfl<|A7 ?_;have h:=CV.out h ad;refine Lz rfl<|Pe<|Bk ?_;have bp:=bo.AV (i:=4) rfl;have h:=CV.again h ag;have hT:=hT.trans (u.trans (ac.trans (au.trans (av.trans (aw.trans (An (i:=4) rfl))))));have b:=b.trans (Aa hH (aw.trans (An (i:=4) rfl)));have am:=am.mono (Aa hH (An (i:=4) rfl))
      refine AW ((m++[(j,a,c)]),(c+aj.2),b7,bn,a6) (Sub.of rfl) ⟨bp,(q.mono b),(t.mono b),am,hT,h⟩ (Nat.lt_succ_self _)
     have h:=Eo (He e) h;refine Ky (Cl (Cl (Cl (AZ (CC (AZ (Jt (AZ (CC (AZ (Fy GF))))))))))) rfl<|Ao rfl e rfl<|GG<|Ky (Cl (Cl (Cl (AZ (CC (AZ (Jt (AZ (CC (AZ (Fy GF))))))))))) rfl<|Ao rfl e rfl<|GG<|Ky (Cl (Cl (Cl (AZ (CC (AZ (Jt (AZ (CC (AZ (Fy GF))))))))))) rfl<|Ao rfl e rfl<|GG<|Ky (Cl (Cl (Cl (AZ (CC (AZ (Jt (AZ (CC (AZ (Fy GF))))))))))) rfl<|Ao rfl e rfl<|GG<|Ky (Cl (Cl (Cl (AZ (CC (AZ (Jt (AZ (CC (AZ (Fy GF))))))))))) rfl<|Ah (AS rfl e rfl) rfl<|GG<|OF<|Hn rfl<|Au<|Ar<|B5<|AE<|Lz rfl<|A7 ?_;have h:=CV.out h ad;refine Lz rfl<|Pe<|Bk ?_;have bq:=ab.AV (i:=0) rfl;have h:=CV.again h ag;have b:=b.trans (Aa hH (u.trans (ac.trans (An (i:=0) rfl))))
     have hT:=hT.trans (u.trans (ac.trans (An (i:=0) rfl)));refine AW (m,(c+aj.2),g,d,a6) (Sub.of rfl) ⟨bq,(q.mono b),(t.mono b),(he155_Ra0.mono b),hT,h⟩ (Nat.lt_succ_self _)
    refine Au<|Ar<|Ai<|Ah (Af rfl AcZ rfl Kq) rfl<|Ah (Ag 0 rfl AaQ rfl ak rfl) rfl<|As 1 rfl<|AB h fun br h=>Ah (Vh rfl rfl br) rfl<|Ah (Af rfl AcZ rfl Kq) rfl<|B6 0 rfl rfl rfl Kq ak rfl rfl fun ch bs ax=>Ac<|Av<|As 2 rfl<|AB h fun bt h=>Ah (AK rfl bt) rfl<|As 1 rfl<|AQ<|AJ ?_;have h:=CV.again h ad;have b:=b.trans (Aa hH (u.trans ax));have hT:=hT.trans (u.trans ax);refine AW ((j++aj.1),(c+aj.2),a3) (Sub.of rfl) ⟨bs,(q.mono b),(t.mono b),(he155_Ra0.mono b),hT,h⟩ (Nat.lt_succ_self _)
   refine B5<|AE<|A7 ?_;have h:=CV.out h ad;refine Bk<|A6 (j,m,c,g,d) (Sub.of rfl) ⟨z,(he155_Ra0.mono b),hT,h⟩
  have hT:=hT.trans (ah.trans ai);rintro⟨p,y,f,k,o⟩ cb ⟨bu,ae,hT,h⟩;refine Bs 1 rfl<|Ah (Af rfl AcZ rfl Dd) rfl<|B6 0 rfl rfl rfl Dd bu rfl rfl fun a5 an ay=>Ac<|Xj<|Ky (Cl (AZ (CC (AZ (Fy GF))))) rfl<|As 1 rfl<|GG<|Ky (Cl (AZ (CC (AZ (Fy GF))))) rfl<|Ah (A5 0 rfl AcZ rfl Lb an rfl) rfl<|GG ?_;have ao:AU l (Ha [.box ba0 [k] 131,.row k 135 3 (y).length o,.box aa [Aat p,No a,No f] 135,.obj la0 (.loop ca0),.obj Da0 (.deferred (some []))] O) a5:=an.CW [4,4] rfl;have az:=B9 [4,4] an ao rfl;have a9:AU l (Ha [.obj la0 (.loop ca0),.obj Da0 (.deferred (some [])),.box ba0 [k] 131,.row k 135 3 (y).length o,.box aa [Aat p,No a,No f] 135] O) a5:=ao.CW [4,4] rfl;have a2:=B9 [4,4] ao a9 rfl;refine AB h fun bv h=>?_;have ae:=ae.mono (Aa hH (ay.trans (az.trans a2)))
  have bw:=@bb l a5 H ((Ha [.box aa [Aat p,No a,No f] 135] O)) k (.agg #[Aat p,No a,No f]) o [Aat p,No a,No f] y (p,a,f) hH a9 ae rfl ⟨_,_,rfl,rfl,⟨_,_,rfl,rfl,rfl⟩⟩ bv;refine Tw rfl rfl rfl bw ?_;rintro ci ⟨b8,bx,bz,bd,ap⟩;refine OF<|Ax<|Az<|Cv ?_;have h:=CV.out h ag;refine Az<|HI ?_
  cases h
  refine Zg rfl ?_;have b0:=bz.AV (i:=4) rfl;have hT:=hT.trans (ay.trans (az.trans (a2.trans (bd.trans (An (i:=4) rfl)))));have ap:=ap.mono (Aa hH (An (i:=4) rfl));exact⟨b8,bx,rfl,b0,hT,ap⟩
 refine B5<|AE<|A7 ?_;have h:=CV.out h ag;refine Bk<|Xh ?_
 cases h
 refine IT rfl ⟨g,d,rfl,af,hT,(a7.mono x)⟩
end Go.Proofs.YtekmbcbgknmhiaaGreatDoor
end
noncomputable section
namespace Go.Proofs.YtekmbcbgknmhiaaGreatDoor
open Go Go.E Go.RowKit
def Iter(H:PH)(v:Value)(l:List UInt8):Prop:=∃ p u,v=.func (.func 180) #[] #[.pointer (some p)]/\G9 H p [u]/\AA .byte H u l
theorem Iter.mono{H H':PH}{v:Value}{l:List UInt8}(h:Iter H v l)(hs:Le H H'):Iter H' v l:=by
 obtain⟨p,u,a,h2,h3⟩:=h;exact⟨p,u,a,h2.mono hs,h3.mono hs⟩
abbrev rpW:Rp (List UInt8×Int×Int):=.pair .st (.pair (.int .i64) (.int .i64))
def Ln(l:List UInt8):Option (List (List UInt8×Int×Int)):=Ir [] l
theorem TI(w:World)(H:PH)(hH:Le H (hp w)){a0:List UInt8}{b:Value}(e:AA .byte H b a0):
  Ok Tryz.prog 129 [b] w (fun v w'=>Ext w w'/\Iter (un H (nw w w')) v a0):=by
 refine Ey (n:=4) [(0,b)] Tryz.func129 rfl rfl rfl rfl rfl ?_;have hL:=AU.start w;refine Ai<|Sv (t:=23) rfl e.one rfl hL fun c a d l _=>As 1 rfl<|Ac<|Ai<|As 2 rfl<|Ac<|Ax<|PF rfl rfl ?_;have f:G9 (hp c) ⟨a,0,none⟩ [b]:=AG (i:=0) d rfl;have hn:a>=w.heap.size:=d.own _ (.head _) a rfl;refine⟨d.ext,⟨a,0,none⟩,b,rfl,⟨rfl,fun j u hj=>?_⟩,e.mono (Js hH)⟩;have g:=f.2 j u hj
 have h2:un H (nw w c) a=hp c a:=by
  have h3:nw w c a=hp c a:=by unfold nw;rw [if_pos hn];rfl
  cases h:hp c a with
  | none=>
   have:=d.at (i:=0) rfl;have k:c.heap[a]? = none:=h;rw [show c.heap[a]? = _ from this] at k
   cases k
  | some o=>exact FT a o (h3.trans h)
 simp only [Addr.add_lit,Gp] at g ⊢;rw [h2];exact g
set_option maxRecDepth 10000 in
theorem SG(w:World)(H:PH)(hH:Le H (hp w))(hU:EE H){p:Addr}{u:Value}{l0:List UInt8}(hpt:G9 H p [u])(hv:AA .byte H u l0){r:List (List UInt8×Int×Int)}(h:Ir [] l0=some r):
  Ok Tryz.prog 179 [.slice none 0 0,.func (.func 180) #[] #[.pointer (some p)]] w (fun v w'=>Ext w w'/\Ck 135 rpW H w w' v r):=by
 refine VW (k:=13) [(0,.slice none 0 0),(1,.func (.func 180) #[] #[.pointer (some p)])] Tryz.func179 rfl rfl rfl rfl rfl ?_;have hL:=AU.start w;refine Ai<|Sv (t:=131) rfl rfl rfl hL fun w1 d af ax _=>As 1 rfl<|Ac<|A9<|Ai<|As 1 rfl<|Ac<|A2<|Zs (cap:=[.pointer (some p)]) rfl ⟨Tryz.f180,_,Tryz.func180,rfl,rfl⟩ af ?_;intro a fr fn l D w2 rec hrec ag ay
 have hY:Xl Tryz.prog rpW 3 32 l D d rec 131 135:=by
  subst hrec;refine Xp (p:=7) (k:=13) rfl rfl rfl ⟨fr.size,rfl,fr.get⟩ rfl ?_;intro x0 x1 G P v y xs c m x hG hM he hy hx hc;obtain⟨xa,xb,xc⟩:=x;obtain⟨_,_,rfl,rfl,_,_,rfl,rfl,rfl⟩:=hx;refine RA rfl Zq<|A3 Lb rfl rfl hM fun w3 bx ah f _=>O9 0 rfl rfl hy Lb ah rfl rfl (Bb rfl (Bb rfl (Bb rfl I8))) fun w4 ai g=>AQ<|Xo (i:=1) rfl ai rfl fun w5 b j=>Xm<|RA rfl (AZ Xn)<|Ah (M0 3 rfl Tryz.underlying131 rfl b rfl rfl) rfl<|Ah (A5 0 rfl Tryz.underlying135 rfl Lb b rfl) rfl<|Br (r:=rpW) (l:=[(xa,xb,xc)]) rfl (fun _=>X5 _ _ _ _) rfl (show 1<=9223372036854775807 by decide) hG b (.c3 ⟨_,_,rfl,rfl,_,_,rfl,rfl,rfl⟩ .nil) fun v6 w6 a6 aj n ak=>Bi (r:=rpW) (l:=m) (m:=[(xa,xb,xc)]) 4 rfl rfl Tryz.underlying131 Lb rfl (by decide) rfl hG aj rfl (((he.mono (Aa hG f)).mono (Aa hG g)).mono (Aa hG j) |>.mono (Aa hG n)) ak hc fun v7 w7 al o am an=>B6 3 rfl rfl (row_one (o.at (i:=4) rfl)) AbG o rfl rfl fun w8 ao q=>AQ<|AJ<|S3 (i:=1) ao rfl ?_;intro w9 ap s;refine⟨rfl,v7,al,ap.AV (i:=0) rfl,((((((f.trans g).trans j).trans n).trans am).trans q).trans s).trans (An (i:=0) rfl),?_⟩
  exact((an.mono (Aa hG q)).mono (Aa hG s)).mono (Aa hG (An (i:=0) rfl))
 obtain⟨aq,a3,a7⟩:=Ez rpW H 135 ag
 have ar:(yR l D d rec 131 135 3 (.slice none 0 0) ([]:List (List UInt8×Int×Int)).length []++[]).Perm (.row (.slice none 0 0) 135 rpW.sz ([]:List (List UInt8×Int×Int)).length []::[.obj l (.loop rec),.obj D (.deferred (some [])),.box d [.slice none 0 0] 131]):=
  List.perm_append_comm (l₁:=([.obj l (.loop rec),.obj D (.deferred (some [])),.box d [.slice none 0 0] 131]:List BE)) (l₂:=([.row (.slice none 0 0) 135 3 0 []]:List BE))
 have au:=aq.perm ar;have hc:=OO hH hU (O:=[]) hY au .nil (hv.mono (Ae hH)) (hpt.mono (Ae hH)) h;refine hc.2.mono fun e w5 ⟨v5,av,hR⟩=>⟨⟨v5,av⟩,?_⟩;obtain⟨u0,y0,_,aw,a5,ab⟩:=hR;refine⟨_,aw,fun w6 z ac=>?_⟩;refine AJ<|Ar<|Ai<|Ah (M0 2 rfl Tryz.underlying131 rfl z rfl rfl) rfl<|As 1 rfl<|Ac<|Ax<|Zt (i:=1) (l:=[.tmp 4]) rfl rfl z rfl ?_;intro w7 aa ad;exact⟨aa.ext,aa.GS hH (i:=3) rfl ((ab.mono (Aa hH ac)).mono (Aa hH ad))⟩
theorem QJ(w:World)(H:PH)(hH:Le H (hp w))(hU:EE H){a:Value}{a0:List UInt8}(b:Iter H a a0){r:List (List UInt8×Int×Int)}(h:Ln a0=some r):
  Ok Tryz.prog 128 [a] w (fun v w'=>Ext w w'/\∃ c,v=c/\Ck 135 rpW H w w' c r):=by
 obtain⟨p,u,rfl,h2,h3⟩:=b;refine Ey (n:=5) [(0,.func (.func 180) #[] #[.pointer (some p)])] Tryz.func128 rfl rfl rfl rfl rfl<|Ai<|As 1 rfl<|Ac<|Ai<|As 1 rfl<|EL rfl rfl (SG w H hH hU h2 h3 h) ?_;intro v w' ⟨hx,ho⟩;refine As 1 rfl<|Ac<|Ax<|PF rfl rfl ⟨hx,_,rfl,ho⟩
end Go.Proofs.YtekmbcbgknmhiaaGreatDoor
end
noncomputable section
namespace Go.Proofs.YtekmbcbgknmhiaaGreatDoor
open Go Go.E Go.RowKit Go.L
set_option maxHeartbeats 1000000
set_option maxRecDepth 10000
open _root_.Go.Proofs.Tryz
def GB(a0:Aaz):Option (Adx×(Int×Int)):=
 if 2048<(a0.length:Int) then Option.bind (Hw (3:Int) (-1:Int)) (fun a=>some ([],(a.1,a.2))) else Option.bind (Ln a0) (fun b=>some (b,(0,0)))
theorem QK(w:World)(H:PH)(hH:Le H (hp w))(hU:EE H){a0:Aaz}{b:Value}(e:AA .byte H b a0){r:Adx×(Int×Int)}(h:GB a0=some r):
  Ok prog 79 [b] w (fun v w'=>Ext w w'/\∃ p,v=.tuple #[p,.agg #[No r.2.1,No r.2.2]]/\Ck 135 (.pair .st Ad4) H w w' p (r.1)):=by
 refine Aw (n:=12) [(0,b)] func79 rfl fun hL=>Bs 1 rfl<|A3 AI rfl rfl hL fun w1 b1 a ab _=>Ac<|A9<|Bs 1 rfl<|Ah (Bj rfl Abj e) rfl<|A4 1 rfl<|AO rfl h (fun q h=>?_) (fun q h=>?_)
 ·refine Ai<|Aq h fun x4 s h=>A8 rfl rfl a (Ja _ _ (Al hH a) s) fun w5 ag t ac=>As 1 rfl<|Ad 0 rfl AI t rfl (AT rfl) fun w6 m ad=>Ac<|Ax<|Ay ?_
  cases h
  refine B0 rfl (.tmp rfl) (.cell rfl AcP rfl AI (AG (i:=0) m rfl)) ⟨m.ext,_,rfl,Ck.nil⟩
 refine Au<|Ar<|Bs 1 rfl<|Bf rfl rfl a (TI _ _ (Al hH a) (e.mono (Ae hH))) ?_;intro u8 w8 u x f ae;have y:=u.mono (Ds hH a x);refine Aq h fun x9 z h=>Bf rfl rfl f (QJ _ _ (Al hH f) (hU.mono (Ae hH)) y z) ?_;rintro aa ah ⟨_,rfl,g⟩ o j k;obtain⟨af,j,k,c⟩:=g.take hH f o;refine Ah (AN rfl (fun _=>BL _)) rfl<|As 1 rfl<|Ad 1 rfl AI j rfl (AT rfl) fun ai d l=>Ac<|Ax ?_
 cases h
 refine B0 rfl (.tmp rfl) (.cell rfl AcP rfl AI (AG (i:=1) d rfl)) ?_;have c:=c.mono (Aa hH l);exact⟨d.ext,_,rfl,(d.GS hH (i:=0) rfl c)⟩
def Kk(a0:Aaz):Option Bool:=
 Bh (a0.length<=9223372036854775807) (Option.bind (Ln a0) (fun a=>if(a.length:Int)=1 then Bh (0<=(0:Int)/\(0:Int)<(a.length:Int)) (some (decide ((a.getD ((0:Int).toNat) default).1=a0))) else some false))
theorem P3(w:World)(H:PH)(hH:Le H (hp w))(hU:EE H){a0:Aaz}{r:Bool}(h:Kk a0=some r):
  Ok prog 157 [Aat a0] w (fun v w'=>Ext w w'/\v=.bool r):=by
 refine Aw (n:=19) [(0,(Aat a0))] func157 rfl fun hL=>AD 1 rfl<|Bs 1 rfl<|AB h fun j h=>Xe (H:=H) rfl AaQ Abj Acu rfl hL j fun v1 w1 aa c u k=>Bf rfl rfl c (TI _ _ (Al hH c) k) ?_;intro u3 w3 l m d x;have o:=l.mono (Ds hH c m);refine Aq h fun x4 p h=>Bf rfl rfl d (QJ _ _ (Al hH d) (hU.mono (Ae hH)) o p) ?_;rintro y w5 ⟨_,rfl,f⟩ q e z;have b:=f.C8 hH d q;refine A4 1 rfl<|Bs 1 rfl<|Ah (Bj rfl Ada b) rfl<|As 2 rfl<|Bl (s:=11) rfl (fun a=>?_) (fun a=>?_)
 ·have h:=Eo (of_decide_eq_true a) h;refine Ab rfl a<|Ah (Aj rfl) rfl<|Ab rfl a<|AB h fun g h=>Be rfl rfl Ada Lb b ((0:Int).toNat) (Hc g) (Ba g) rfl ?_;rintro p8 _ ⟨_,_,rfl,rfl,⟨_,_,rfl,rfl,rfl⟩⟩ t;refine Ab rfl a<|Ah (Af rfl AcZ rfl Kq) rfl ?_;have i:=t.add 0;refine Ab rfl a<|Ah (Bu rfl AaQ rfl i (Al hH e)) rfl<|Ab rfl a<|Ah (Aj rfl) rfl<|Ab rfl a<|Ah (Nu rfl rfl) rfl<|Ah (AH rfl a rfl) rfl<|A4 1 rfl<|Ax ?_
  cases h
  refine Am rfl ⟨e.ext,rfl⟩
 have h:=Ep (of_decide_eq_false a) h
 iterate 6 refine Ao rfl a rfl ?_
 refine Ah (AS rfl a rfl) rfl<|A4 1 rfl<|Ax ?_
 cases h
 refine Am rfl ⟨e.ext,rfl⟩
def JR(a0:Aaz):Option ((Int×Int)):=
 if 64<(a0.length:Int) then none else Option.bind (Kk a0) (fun a=>if !a then none else some ((0,0)))
theorem MC(w:World)(H:PH)(hH:Le H (hp w))(hU:EE H){a0:Aaz}{r:(Int×Int)}(h:JR a0=some r):
  Ok prog 102 [Aat a0] w (fun v w'=>Ext w w'/\v=.agg #[No r.1,No r.2]):=by
 refine Aw (n:=12) [(0,(Aat a0))] func102 rfl fun hL=>Ai<|A3 AI rfl rfl hL fun o p b j _=>Ac<|A9<|Bs 1 rfl<|Ah (Ib rfl AaQ) rfl<|A4 1 rfl<|AO rfl h (fun c h=>?_) (fun c h=>?_)
 ·cases h
 refine Au<|Ar<|A9<|Bs 1 rfl<|Aq h fun q d h=>A8 rfl rfl b (P3 _ _ (Al hH b) (hU.mono (Ae hH)) d) fun s l e k=>A4 1 rfl<|By rfl h (fun f h=>?_) (fun f h=>?_)
 ·cases h
 refine Au<|Ar<|Ai<|Ah (AN rfl (fun _=>BL _)) rfl<|Ad 0 rfl AI e rfl (AT rfl) fun m a g=>Ac<|Ax ?_
 cases h
 refine CM rfl (.cell rfl AcP rfl AI (AG (i:=0) a rfl)) ⟨a.ext,rfl⟩
end Go.Proofs.YtekmbcbgknmhiaaGreatDoor
end
noncomputable section
namespace Go.L
open Go
def bt(l:List UInt8)(k:Nat):Nat:=(l.getD k default).toNat
def cont(l:List UInt8)(k:Nat):Bool:=decide (k<l.length/\128<=bt l k/\bt l k<=191)
def pt3(l:List UInt8):Nat:=((bt l 0 - 224) * 64+(bt l 1 - 128)) * 64+(bt l 2 - 128)
def pt4(l:List UInt8):Nat:=(((bt l 0 - 240) * 64+(bt l 1 - 128)) * 64+(bt l 2 - 128)) * 64+(bt l 3 - 128)
def Ms(l:List UInt8):Nat:=
 if 194<=bt l 0/\bt l 0<=223 then(if cont l 1 then 2 else 0)
 else if 224<=bt l 0/\bt l 0<=239 then(if cont l 1/\cont l 2/\2048<=pt3 l/\¬ (55296<=pt3 l/\pt3 l<=57343) then 3 else 0)
 else if 240<=bt l 0/\bt l 0<=244 then(if cont l 1/\cont l 2/\cont l 3/\65536<=pt4 l/\pt4 l<=1114111 then 4 else 0)
 else 0
def asc(c:Nat):Bool:=decide ((48<=c/\c<=57)\/(97<=c/\c<=122)\/(65<=c/\c<=90))
def Ks(l:List UInt8):Nat:=if asc (bt l 0) then 1 else Ms l
def JV(c:UInt8):UInt8:=if 65<=(c.toNat:Int)/\(c.toNat:Int)<=90 then c+32 else c
theorem ZT{c:UInt8}(h:128<=c.toNat):JV c=c:=by unfold JV;rw [if_neg (by omega)]
theorem XQ(l:List UInt8)(h:l≠[]):Ms l<=l.length:=by
 have hl:=List.length_pos_iff.2 h;unfold Ms cont
 split
 ·split
  ·rename_i a;have:=of_decide_eq_true a;omega
  ·omega
 ·split
  ·split
   ·rename_i a;have:=of_decide_eq_true a.2.1;omega
   ·omega
  ·split
   ·split
    ·rename_i a;have:=of_decide_eq_true a.2.2.1;omega
    ·omega
   ·omega
theorem UE(l:List UInt8)(h:l≠[]):Ks l<=l.length:=by
 have hl:=List.length_pos_iff.2 h;unfold Ks
 split
 ·omega
 ·exact XQ l h
theorem ZU{l:List UInt8}(h:bt l 0<128):Ms l=0:=by
 unfold Ms;rw [if_neg (by omega),if_neg (by omega),if_neg (by omega)]
theorem PR{l:List UInt8}(_hs:Ms l≠0):(l.take (Ms l)).map JV=l.take (Ms l):=by
 have key:∀ k,k<Ms l->128<=bt l k:=by
  intro k hk;unfold Ms at hk;unfold cont at hk
  split at hk
  ·split at hk
   ·rename_i a;have:=of_decide_eq_true a;obtain h | h:k=0\/k=1:=by omega
    all_goals subst h;omega
   ·omega
  ·split at hk
   ·split at hk
    ·rename_i a;have h2:=of_decide_eq_true a.1;have h3:=of_decide_eq_true a.2.1;obtain h | h | h:k=0\/k=1\/k=2:=by omega
     all_goals subst h;omega
    ·omega
   ·split at hk
    ·split at hk
     ·rename_i a;have h2:=of_decide_eq_true a.1;have h3:=of_decide_eq_true a.2.1;have b:=of_decide_eq_true a.2.2.1;obtain h | h | h | h:k=0\/k=1\/k=2\/k=3:=by omega
      all_goals subst h;omega
     ·omega
    ·omega
 apply List.ext_getElem (by simp);intro k a h2;rw [List.getElem_map,List.getElem_take];apply ZT;have hk:k<Ms l:=by simp at h2;omega
 have:=key k hk;have hkl:k<l.length:=by simp at h2;omega
 unfold bt at this;rw [List.getD_eq_getElem?_getD,List.getElem?_eq_getElem hkl] at this;exact this
theorem TJ(l:List UInt8)(k:Nat):((ByteArray.mk l.toArray).get! k).toNat=bt l k:=by
 simp [ByteArray.get!,bt,List.getD_eq_getElem?_getD,getElem!_def]
 cases h:l[k]? <;> rfl
theorem Abk(l:List UInt8)(hne:l≠[])(m:128<=bt l 0):(Ms l=0->Lib.decodeGo ⟨l.toArray⟩=(65533,1))/\(Ms l≠0->(Lib.decodeGo ⟨l.toArray⟩).2=Ms l/\Ms l≠1):=by
 have hsz:(ByteArray.mk l.toArray).size=l.length:=by simp [ByteArray.size]
 have hl:=List.length_pos_iff.2 hne
 have hc:∀ k,(decide (0+k<(ByteArray.mk l.toArray).size)&&((ByteArray.mk l.toArray).get! (0+k)).toNat / 64==2)=cont l k:=by
  intro k;rw [Nat.zero_add,hsz,TJ];unfold cont
  by_cases a:k<l.length
  ·by_cases h2:bt l k / 64=2
   ·rw [decide_eq_true a,Bool.true_and,beq_iff_eq.2 h2,decide_eq_true ⟨a,by omega,by omega⟩]
   ·rw [decide_eq_true a,Bool.true_and,beq_eq_false_iff_ne.2 h2,decide_eq_false (fun h=>h2 (by omega))]
  ·rw [decide_eq_false a,Bool.false_and,decide_eq_false (fun h=>a h.1)]
 unfold Lib.decodeGo;rw [hsz,if_neg (by omega)];unfold Utf8.decode;simp only [hc];simp only [Nat.zero_add,TJ]
 have hv:∀ c:Nat,Utf8.valid c=decide (c<55296\/(57344<=c/\c<=1114111)):=by
  intro c;rw [Bool.eq_iff_iff];unfold Utf8.valid;simp only [Bool.or_eq_true,Bool.and_eq_true,decide_eq_true_eq];omega
 simp only [hv];have f1:cont l 1=true->128<=bt l 1/\bt l 1<=191:=fun h=>(of_decide_eq_true h).2;have f2:cont l 2=true->128<=bt l 2/\bt l 2<=191:=fun h=>(of_decide_eq_true h).2;have f3:cont l 3=true->128<=bt l 3/\bt l 3<=191:=fun h=>(of_decide_eq_true h).2;have hb:bt l 0<256:=UInt8.toNat_lt _;unfold Ms pt3 pt4 Utf8.runeError;generalize bt l 0=b at *;generalize bt l 1=d at *;generalize bt l 2=f at *;generalize bt l 3=g at *;generalize cont l 1=c1 at *;generalize cont l 2=c2 at *;generalize cont l 3=c3 at *;simp only [Bool.and_eq_true,beq_iff_eq,decide_eq_true_eq]
 by_cases hA:194<=b/\b<=223
 ·rw [if_pos hA,if_neg (show ¬ b<128 by omega)]
  by_cases a:c1=true
  ·have:=f1 a;rw [if_pos a,if_pos (show b / 32=6/\c1=true from⟨by omega,a⟩),if_pos (show b % 32 * 64+d % 64>=128 by omega)];exact⟨fun h=>absurd h (by decide),fun _=>⟨rfl,by decide⟩⟩
  ·rw [if_neg a,if_neg (show ¬ (b / 32=6/\c1=true) from fun h=>a h.2),if_neg (show ¬ ((b / 16=14/\c1=true)/\c2=true) from fun h=>by omega),if_neg (show ¬ (((b / 8=30/\c1=true)/\c2=true)/\c3=true) from fun h=>by omega)];exact⟨fun _=>rfl,fun h=>absurd rfl h⟩
 rw [if_neg hA]
 by_cases hB:224<=b/\b<=239
 ·rw [if_pos hB,if_neg (show ¬ b<128 by omega),if_neg (show ¬ (b / 32=6/\c1=true) from fun h=>by omega)]
  by_cases a:c1=true/\c2=true
  ·have i:=f1 a.1;have j:=f2 a.2;rw [if_pos (show(b / 16=14/\c1=true)/\c2=true from⟨⟨by omega,a.1⟩,a.2⟩)];have e:b % 16 * 4096+d % 64 * 64+f % 64=((b - 224) * 64+(d - 128)) * 64+(f - 128):=by omega
   rw [e]
   by_cases h2:2048<=((b - 224) * 64+(d - 128)) * 64+(f - 128)/\¬ (55296<=((b - 224) * 64+(d - 128)) * 64+(f - 128)/\((b - 224) * 64+(d - 128)) * 64+(f - 128)<=57343)
   ·rw [if_pos ⟨a.1,a.2,h2⟩,if_pos ⟨h2.1,(by omega)⟩];exact⟨fun h=>absurd h (by decide),fun _=>⟨rfl,by decide⟩⟩
   ·rw [if_neg (fun h=>h2 h.2.2),if_neg (fun h=>h2 ⟨h.1,by omega⟩)];exact⟨fun _=>rfl,fun h=>absurd rfl h⟩
  ·rw [if_neg (fun h=>a ⟨h.1,h.2.1⟩),if_neg (show ¬ ((b / 16=14/\c1=true)/\c2=true) from fun h=>a ⟨h.1.2,h.2⟩),if_neg (show ¬ (((b / 8=30/\c1=true)/\c2=true)/\c3=true) from fun h=>by omega)];exact⟨fun _=>rfl,fun h=>absurd rfl h⟩
 rw [if_neg hB]
 by_cases hC:240<=b/\b<=244
 ·rw [if_pos hC,if_neg (show ¬ b<128 by omega),if_neg (show ¬ (b / 32=6/\c1=true) from fun h=>by omega),if_neg (show ¬ ((b / 16=14/\c1=true)/\c2=true) from fun h=>by omega)]
  by_cases a:c1=true/\c2=true/\c3=true
  ·have i:=f1 a.1;have j:=f2 a.2.1;have n:=f3 a.2.2;rw [if_pos (show((b / 8=30/\c1=true)/\c2=true)/\c3=true from⟨⟨⟨by omega,a.1⟩,a.2.1⟩,a.2.2⟩)];have e:b % 8 * 262144+d % 64 * 4096+f % 64 * 64+g % 64=(((b - 240) * 64+(d - 128)) * 64+(f - 128)) * 64+(g - 128):=by omega
   rw [e]
   by_cases h2:65536<=(((b - 240) * 64+(d - 128)) * 64+(f - 128)) * 64+(g - 128)/\(((b - 240) * 64+(d - 128)) * 64+(f - 128)) * 64+(g - 128)<=1114111
   ·rw [if_pos ⟨a.1,a.2.1,a.2.2,h2⟩,if_pos ⟨h2.1,by omega⟩];exact⟨fun h=>absurd h (by decide),fun _=>⟨rfl,by decide⟩⟩
   ·rw [if_neg (fun h=>h2 h.2.2.2),if_neg (fun h=>h2 ⟨h.1,by omega⟩)];exact⟨fun _=>rfl,fun h=>absurd rfl h⟩
  ·rw [if_neg (fun h=>a ⟨h.1,h.2.1,h.2.2.1⟩),if_neg (fun h=>a ⟨h.1.1.2,h.1.2,h.2⟩)];exact⟨fun _=>rfl,fun h=>absurd rfl h⟩
 rw [if_neg hC];refine⟨fun _=>?_,fun h=>absurd rfl h⟩;rw [if_neg (show ¬ b<128 by omega)]
 by_cases a:b / 32=6/\c1=true
 ·have:=f1 a.2;rw [if_pos a,if_neg (show ¬ (b % 32 * 64+d % 64>=128) by omega)]
 ·rw [if_neg a,if_neg (show ¬ ((b / 16=14/\c1=true)/\c2=true) from fun h=>by omega)]
  by_cases h2:((b / 8=30/\c1=true)/\c2=true)/\c3=true
  ·have i:=f1 h2.1.1.2;rw [if_pos h2,if_neg (fun h=>by omega)]
  ·rw [if_neg h2]
end Go.L
namespace Go.Proofs.YtekmbcbgknmhiaaGreatDoor
open Go Go.L
theorem Ws{l:List UInt8}(hne:l≠[]):HR l=some (if Ks l=0 then([],1) else((l.take (Ks l)).map JV,((Ks l:Nat):Int))):=by
 have hl:=List.length_pos_iff.2 hne;obtain⟨c,m,rfl⟩:=List.exists_cons_of_ne_nil hne;have i:(c::m).getD ((0:Int).toNat) default=c:=rfl;have eb:bt (c::m) 0=c.toNat:=rfl;have hc:=c.toNat_lt;unfold HR;rw [Ak ⟨by decide,by omega⟩,i]
 have hup:(65<=(c.toNat:Int))/\((c.toNat:Int)<=90)->Bh (((c - (65:UInt8))+(97:UInt8)).toNat<128) (some ([((c - (65:UInt8))+(97:UInt8))],(1:Int)))=some (if Ks (c::m)=0 then([],1) else(((c::m).take (Ks (c::m))).map JV,((Ks (c::m):Nat):Int))):=by
  intro h
  have e:(c - (65:UInt8))+(97:UInt8)=c+32:=by
   apply UInt8.toNat.inj;rw [UInt8.toNat_add,UInt8.toNat_sub,UInt8.toNat_add];have j:(97:UInt8).toNat=97:=rfl;have k:(65:UInt8).toNat=65:=rfl;have g:(32:UInt8).toNat=32:=rfl;omega
  have n:(c+32).toNat=c.toNat+32:=by
   rw [UInt8.toNat_add];have g:(32:UInt8).toNat=32:=rfl;omega
  have d:Ks (c::m)=1:=by unfold Ks asc;rw [eb,if_pos (decide_eq_true (by omega))]
  rw [e,Ak (by omega),d,if_neg (by decide)]
  show some ([c+32],(1:Int))=some ([JV c],1)
  unfold JV;rw [if_pos h]
 have hlo:(48<=(c.toNat:Int))/\((c.toNat:Int)<=57)\/(97<=(c.toNat:Int))/\((c.toNat:Int)<=122)->Bh (c.toNat<128) (some ([c],(1:Int)))=some (if Ks (c::m)=0 then([],1) else(((c::m).take (Ks (c::m))).map JV,((Ks (c::m):Nat):Int))):=by
  intro h;have d:Ks (c::m)=1:=by unfold Ks asc;rw [eb,if_pos (decide_eq_true (by omega))]
  rw [Ak (by omega),d,if_neg (by decide)]
  show some ([c],(1:Int))=some ([JV c],1)
  unfold JV;rw [if_neg (by omega)]
 have hnon:asc c.toNat=false->(if(c.toNat:Int)<128 then some (([]:List UInt8),(1:Int)) else Option.bind (Wr (c::m)) (fun a=>if(a.1=(65533:Int))/\(a.2=(1:Int)) then some (([]:List UInt8),(1:Int)) else Go.L.Bh (0<=a.2/\a.2<=((c::m).length:Int)) (some (((c::m).take a.2.toNat),a.2))))=some (if Ks (c::m)=0 then([],1) else(((c::m).take (Ks (c::m))).map JV,((Ks (c::m):Nat):Int))):=by
  intro h;have d:Ks (c::m)=Ms (c::m):=by unfold Ks;rw [if_neg (by rw [eb,h];decide)]
  rw [d]
  by_cases b:(c.toNat:Int)<128
  ·rw [if_pos b,ZU (by rw [eb];omega),if_pos rfl]
  ·rw [if_neg b];have hd:=Abk (c::m) hne (by rw [eb];omega);unfold Wr;rw [Ak hne,Option.bind_some]
   by_cases h2:Ms (c::m)=0
   ·rw [hd.1 h2,if_pos ⟨rfl,rfl⟩,if_pos h2]
   ·obtain⟨h3,f⟩:=hd.2 h2;have o:=XQ (c::m) hne;simp only [h3];rw [if_neg (by omega),Ak ⟨by omega,by omega⟩,if_neg h2,Int.toNat_natCast,PR h2]
 by_cases b:(48<=(c.toNat:Int))/\((c.toNat:Int)<=57)
 ·rw [if_pos b];exact hlo (.inl b)
 rw [if_neg b]
 by_cases h2:97<=(c.toNat:Int)
 ·rw [if_pos h2]
  by_cases h3:(c.toNat:Int)<=122
  ·rw [if_pos h3];exact hlo (.inr ⟨h2,h3⟩)
  ·rw [if_neg h3,if_neg (by omega)];exact hnon (decide_eq_false (by omega))
 ·rw [if_neg h2]
  by_cases f:(65<=(c.toNat:Int))/\((c.toNat:Int)<=90)
  ·rw [if_pos f];exact hup f
  ·rw [if_neg f];exact hnon (decide_eq_false (by omega))
end Go.Proofs.YtekmbcbgknmhiaaGreatDoor
namespace Go.L
open Go
abbrev W:=List UInt8×Int×Int
abbrev WS:=(List W×Int) ⊕ List W
def fin(cur:List UInt8)(fr at':Nat):List W:=if cur=[] then[] else[(cur,(fr:Int),(at':Int))]
def Tb(a:List UInt8):Nat->Nat->List UInt8->Nat->List W
 | 0,at',cur,fr=>fin cur fr at'
 | f+1,at',cur,fr=>
  if at'<a.length then
   if Ks (a.drop at')=0 then fin cur fr at'++Tb a f (at'+1) [] (at'+1)
   else Tb a f (at'+Ks (a.drop at')) (cur++((a.drop at').take (Ks (a.drop at'))).map JV) fr
  else fin cur fr at'
def XR(a:List UInt8):List W:=Tb a (a.length+1) 0 [] 0
theorem SH{a:List UInt8}{f at':Nat}{cur:List UInt8}{fr:Nat}(h:a.length<=at'):Tb a f at' cur fr=fin cur fr at':=by
 cases f with
 | zero=>rfl
 | succ f=>unfold Tb;rw [if_neg (by omega)]
theorem VA(cur:List UInt8)(fr at':Nat):(fin cur fr at').length<=1:=by unfold fin;split <;> simp
theorem PS{a:List UInt8}{i:Nat}(h:i<a.length):a.drop i≠[]:=fun e=>by
 have:=congrArg List.length e;rw [List.length_drop,List.length_nil] at this;omega
theorem Og{a:List UInt8}{i:Nat}(h:i<a.length):i+Ks (a.drop i)<=a.length:=by
 have:=UE _ (PS h);rw [List.length_drop] at this;omega
theorem VB{a:List UInt8}{i:Nat}(h:i<a.length):(((a.drop i).take (Ks (a.drop i))).map JV).length=Ks (a.drop i):=by
 have:=UE _ (PS h);rw [List.length_map,List.length_take];omega
end Go.L
namespace Go.Proofs.YtekmbcbgknmhiaaGreatDoor
open Go Go.L
theorem ZV{a:List UInt8}(hs:a.length<=1000000000000):∀ (f at':Nat) (L:List W),a.length<=at'+f->L.length<=at'->at'<=a.length+1->
  run (BY a) (L,(at':Int))=some (L++Tb a f at' [] at')/\
  ∀
   (cur:List UInt8) (fr:Nat),(at'<a.length\/cur≠[])->at'<=a.length->cur.length<=at'->∃ m,run (BX a L (fr:Int)) (cur,(at':Int))=some m/\
   (match m with | .inl s=>run (BY a) s=some (L++Tb a f at' cur fr) | .inr r=>r=L++Tb a f at' cur fr):=by
 intro f
 induction f with
 | zero=>
  intro at' L hf hL ha
  constructor
  ·rw [SH (by omega)];refine BD (m:=some (L++fin [] at' at')) ?_;unfold BY;simp only;rw [if_neg (by omega)];unfold fin;rw [if_pos rfl,List.append_nil]
  ·intro cur fr hc hle hcl;have hc:cur≠[]:=hc.resolve_left (by omega);refine⟨.inr (L++fin cur fr at'),?_,rfl⟩;refine BD (m:=some (Sum.inr (L++fin cur fr at'):WS)) ?_;unfold BX Fs;simp only;rw [if_neg (by omega),Ak (by constructor <;> omega)];unfold fin;rw [if_neg hc]
   rfl
 | succ f ih=>
  intro at' L hf hL ha
  have B:∀ (cur:List UInt8) (fr:Nat),(at'<a.length\/cur≠[])->at'<=a.length->cur.length<=at'->∃ m,run (BX a L (fr:Int)) (cur,(at':Int))=some m/\
   (match m with | .inl s=>run (BY a) s=some (L++Tb a (f+1) at' cur fr) | .inr r=>r=L++Tb a (f+1) at' cur fr):=by
   intro cur fr hc hle hcl
   by_cases h:at'<a.length
   ·have hroom:=Og h;have hlow:=VB h;have b:=Ws (PS h);unfold Tb;rw [if_pos h]
    by_cases d:Ks (a.drop at')=0
    ·rw [if_pos d] at b ⊢;have e:(((at':Nat):Int)+1)=((at'+1:Nat):Int):=by omega
     by_cases hcur:cur=[]
     ·have c:=(ih (at'+1) L (by omega) (by omega) (by omega)).1;refine⟨.inl (L,((at'+1:Nat):Int)),?_,?_⟩
      ·refine BD (m:=some (Sum.inl (L,((at'+1:Nat):Int)):WS)) ?_;unfold BX;simp only;rw [if_pos (by omega),Ak ⟨by omega,by omega⟩,Int.toNat_natCast,b,Option.bind_some];simp only;rw [if_pos trivial,Ak (by constructor <;> omega),if_pos hcur,e]
      ·simp only;rw [c];unfold fin;rw [if_pos hcur,List.nil_append]
     ·have c:=(ih (at'+1) (L++[(cur,(fr:Int),(at':Int))]) (by omega) (by rw [List.length_append,List.length_singleton];omega) (by omega)).1;refine⟨.inl (L++[(cur,(fr:Int),(at':Int))],((at'+1:Nat):Int)),?_,?_⟩
      ·refine BD (m:=some (Sum.inl (L++[(cur,(fr:Int),(at':Int))],((at'+1:Nat):Int)):WS)) ?_;unfold BX;simp only;rw [if_pos (by omega),Ak ⟨by omega,by omega⟩,Int.toNat_natCast,b,Option.bind_some];simp only;rw [if_pos trivial,Ak (by constructor <;> omega),if_neg hcur,Ak (by constructor <;> omega),e]
      ·simp only;rw [c];unfold fin;rw [if_neg hcur,List.append_assoc]
    ·rw [if_neg d] at b ⊢;have hne:((a.drop at').take (Ks (a.drop at'))).map JV≠[]:=fun e=>by rw [e,List.length_nil] at hlow;omega
     obtain⟨m,c,h2⟩:=(ih (at'+Ks (a.drop at')) L (by omega) (by omega) (by omega)).2 (cur++((a.drop at').take (Ks (a.drop at'))).map JV) fr (.inr (fun e=>hne (List.append_eq_nil_iff.1 e).2)) hroom (by rw [List.length_append,hlow];omega);refine⟨m,?_,h2⟩;rw [<- c];refine Cu ?_;unfold BX;simp only;rw [if_pos (by omega),Ak ⟨by omega,by omega⟩,Int.toNat_natCast,b,Option.bind_some];simp only;rw [if_neg hne,Ak (by omega),Ak (by constructor <;> omega)]
     rfl
   ·have hc:cur≠[]:=hc.resolve_left h;rw [SH (by omega)];refine⟨.inr (L++fin cur fr at'),?_,rfl⟩;refine BD (m:=some (Sum.inr (L++fin cur fr at'):WS)) ?_;unfold BX Fs;simp only;rw [if_neg (by omega),Ak (by constructor <;> omega)];unfold fin;rw [if_neg hc]
    rfl
  refine⟨?_,B⟩
  by_cases h:at'<a.length
  ·obtain⟨m,c,h2⟩:=B [] at' (.inl h) (by omega) (by simp)
   have hb:BY a (L,(at':Int))=some m:=by
    unfold BY;simp only;rw [if_pos (by omega)];exact c
   cases m with
   | inl s=>rw [Cu hb];exact h2
   | inr r=>rw [BD (m:=some r) hb,h2]
  ·rw [SH (by omega)];refine BD (m:=some (L++fin [] at' at')) ?_;unfold BY;simp only;rw [if_neg (by omega)];unfold fin;rw [if_pos rfl,List.append_nil]
theorem TK{a:List UInt8}(hs:a.length<=1000000000000):Ln a=some (XR a):=by
 have:=(ZV hs (a.length+1) 0 [] (by omega) (by simp) (by omega)).1;rw [List.nil_append] at this;exact this
end Go.Proofs.YtekmbcbgknmhiaaGreatDoor
end
noncomputable section
namespace Go.Proofs.YtekmbcbgknmhiaaGreatDoor
open Go Go.L
theorem NB{a:List UInt8}:∀ (f at':Nat) (cur:List UInt8) (fr:Nat),at'<=a.length->(Tb a f at' cur fr).length+at'<=a.length+1
 | 0,at',cur,fr,h=>by unfold Tb;have:=VA cur fr at';omega
 | f+1,at',cur,fr,h=>by
  unfold Tb;have:=VA cur fr at'
  split
  ·rename_i b
   split
   ·rw [List.length_append];have:=NB (a:=a) f (at'+1) [] (at'+1) (by omega);omega
   ·have:=NB (a:=a) f (at'+Ks (a.drop at')) (cur++((a.drop at').take (Ks (a.drop at'))).map JV) fr (Og b);omega
  ·omega
theorem SI(a:List UInt8):(XR a).length<=a.length+1:=NB (a:=a) (a.length+1) 0 [] 0 (Nat.zero_le _)
theorem XS{a:List UInt8}(hs:a.length<=2048):GB a=some (XR a,(0,0)):=by
 unfold GB;rw [if_neg (by omega),TK (by omega)]
 rfl
theorem UF{a:List UInt8}(hs:2048<a.length):GB a=some ([],(3,-1)):=by
 unfold GB;rw [if_pos (by omega)]
 rfl
end Go.Proofs.YtekmbcbgknmhiaaGreatDoor
end
noncomputable section
namespace Go.Proofs.YtekmbcbgknmhiaaGreatDoor
open Go Go.E Go.RowKit Go.Shelf Go.Maps Go.Sort Go.WideElems Go.MapKept
abbrev rpH:Rp (Int×Int):=.pair (.int .i64) (.int .i64)
abbrev AbU(H:PH)(v:Value)(l:List (List UInt8×List (Int×Int))):Prop:=Rr encS (.vec rpH) H v l
def TL(H:PH)(v:Value)(l:List (List UInt8×List (Int×Int))):Prop:=∃ b u,v=.func (.func 184) #[] #[.pointer (some ⟨b,0,none⟩)]/\H b=some (.cells #[u] 130 (0,0))/\AbU H u l
theorem TL.mono{H H':PH}{v:Value}{l:List (List UInt8×List (Int×Int))}(h:TL H v l)(hs:Le H H'):TL H' v l:=by
 obtain⟨b,u,a,h2,h3⟩:=h;exact⟨b,u,a,hs _ _ h2,h3.mono hs⟩
theorem ZW(w:World)(H:PH)(hH:Le H (hp w)){v:Value}{l:List (List UInt8×List (Int×Int))}(hm:AbU H v l):Ok Tryz.prog 131 [v] w (fun v' w'=>Ext w w'/\TL (un H (nw w w')) v' l):=by
 obtain⟨b,vs,rfl,h⟩:=id hm;have hc:CallsIn Fence.wide 5 Tryz.prog 131 #[.map (some b)] w fun e w'=>e=.returned (.func (.func 184) #[] #[.pointer (some ⟨w.heap.size,0,none⟩)])/\w'=w.alloc (.cells #[.map (some b)] 130):=AnyZ.keys_in Tryz.Aa7 Fence.wide 5 trivial rfl (some b) w;refine⟨⟨Tryz.f131,_,Tryz.func131,rfl,rfl⟩,(callsIn_wide.1 hc).mono fun e w' he=>?_⟩;obtain⟨rfl,rfl⟩:=he;refine⟨_,rfl,C2 w _,w.heap.size,.map (some b),rfl,?_,hm.mono (Js hH)⟩;refine FT _ _ ?_;unfold nw;rw [if_pos (Nat.le_refl _)];exact World.alloc_heap_new w _
theorem MY{κ:Type}{enc:κ->Value}:∀ (l:List κ) (vs:List Value) (i:Nat),l.length=vs.length->(mE enc i l vs).map (·.born)=List.range' i l.length
 | [],[],_,_=>rfl
 | a::l,u::vs,i,h=>by
  simp only [mE,List.map_cons,List.length_cons,List.range'_succ];rw [MY l vs (i+1) (by simpa using h)]
theorem SJ{κ:Type}{enc:κ->Value}:∀ (l:List κ) (vs:List Value) (i:Nat),l.length=vs.length->(mE enc i l vs).map (·.key)=l.map enc
 | [],[],_,_=>rfl
 | a::l,u::vs,i,h=>by
  simp only [mE,List.map_cons];rw [SJ l vs (i+1) (by simpa using h)]
def XT:Value->Option (DataW Unit×List MemPlace):=fun _=>some (.nil,[])
theorem TM{P:Program}{k:TypeId}(hk:P.underlying k=some .string){s:List UInt8}(h:s.length<=maxLen):keyOf P k (encS s)=some (.string s):=by
 have:(ByteArray.mk s.toArray).size<=maxLen:=h;simp [keyOf,hk,mapKey,encS,this]
theorem AaB{P:Program}{k:TypeId}(hk:P.underlying k=some .string):∀ (l:List (List UInt8)) (vs:List Value) (i:Nat),l.length=vs.length->(∀ x∈l,x.length<=maxLen)->
  (mE encS i l vs).map (rg P k XT)=l.map fun s=>(Lit.string s,(DataW.nil:DataW Unit))
 | [],[],_,_,_=>rfl
 | a::l,u::vs,i,h,hb=>by
  simp only [mE,List.map_cons];rw [AaB hk l vs (i+1) (by simpa using h) (fun x hx=>hb x (.tail _ hx))]
  congr 1
  simp [WideElems.rg,WideElems.rd,TM hk (hb a (.head _)),XT]
def Oh{β:Type}(l:List (List UInt8×β)):Prop:=(l.map Prod.fst).Nodup/\(∀ x∈l.map Prod.fst,x.length<=maxLen)/\l.length * 16<=140737488355328
noncomputable instance {β:Type} (l:List (List UInt8×β)):Decidable (Oh l):=Classical.propDecidable _
def J2{β:Type}(l:List (List UInt8×β)):Option (List (List UInt8)):=Go.L.Bh (Oh l) (some ((l.map Prod.fst).mergeSort leB))
theorem AbV(m:Nat):AnyZ.SortsIn Tryz.prog Tryz.Pm Fence.wide m:=
 ⟨fun blk off cap ss W hH hblk hsz=>callsIn_wide.2 (Any.slices_Sort_string Tryz.Aa5 blk off cap ss W hH hblk hsz),
  fun p cap W=>callsIn_wide.2 (Any.slices_Sort_string_none Tryz.Aa5 p cap W)⟩
theorem RU(G:PH):∀ l:List (List UInt8),AF Rp.st G l (l.map Go.Proofs.encStr)
 | []=>.nil
 | _::l=>.cons (c:=[_]) rfl (RU G l)
theorem Wt(w:World)(H:PH)(hH:Le H (hp w)){v:Value}{l:List (List UInt8×List (Int×Int))}(hi:TL H v l){r:List (List UInt8)}(h:J2 l=some r):
  Ok Tryz.prog 130 [v] w (fun v' w'=>Ext w w'/\∃ f,v'=f/\Ck 9 .st H w w' f r):=by
 obtain⟨⟨hnd,hlen,hby⟩,h⟩:=Go.L.Fw h;obtain rfl:=Option.some.inj h;obtain⟨bx,u,rfl,hbx,b,vs,rfl,hb,hl,_⟩:=hi;have hbx':w.heap[bx]? = _:=hH _ _ hbx;have hb':w.heap[b]? = _:=hH _ _ hb;have hlk:(l.map Prod.fst).length=vs.length:=by rw [List.length_map];exact hl
 have hml:(mE encS 0 (l.map Prod.fst) vs).length=l.length:=by rw [OH _ _ _ hlk,List.length_map]
 have hrg:=AaB (P:=Tryz.prog) Tryz.underlying9 (l.map Prod.fst) vs 0 hlk hlen
 have hown:w.ownsMap Tryz.prog 9 XT b l.length (.map (((mE encS 0 (l.map Prod.fst) vs).map (rg Tryz.prog 9 XT)).foldr DataW.insert [])):=by
  refine⟨_,_,hb',⟨?_,⟨?_,?_,?_⟩,?_⟩,?_,rfl⟩
  ·rw [List.size_toArray,hml];unfold maxLen;omega
  ·intro x hx;have c:x.born∈(mE encS 0 (l.map Prod.fst) vs).map (·.born):=List.mem_map_of_mem (by simpa using hx);rw [MY _ _ _ hlk,List.mem_range'_1,List.length_map] at c;omega
  ·rw [List.toList_toArray,MY _ _ _ hlk];exact List.nodup_range'
  ·rw [List.toList_toArray,SJ _ _ _ hlk];exact List.pairwise_map.2 (hnd.imp fun {a b} hab he=>hab (by simpa [encS] using he))
  ·intro x hx;have hx':x∈mE encS 0 (l.map Prod.fst) vs:=by simpa using hx
   have c:x.key∈(mE encS 0 (l.map Prod.fst) vs).map (·.key):=List.mem_map_of_mem hx';rw [SJ _ _ _ hlk] at c;obtain⟨s,hs,he⟩:=List.mem_map.1 c;exact⟨(.string s,.nil),by simp [WideElems.rd,<- he,TM Tryz.underlying9 (hlen s hs),XT]⟩
  ·rw [List.size_toArray,hml];exact Nat.le_refl _
 rw [hrg] at hown
 have hq:∀ ks:List (List UInt8),(strKeys (.map ((ks.map fun s=>(Lit.string s,(DataW.nil:DataW Unit))).foldr DataW.insert []))).Perm ks:=fun ks=>by
  have c:=(WideShapes.sorted_perm (ks.map fun s=>(Lit.string s,(DataW.nil:DataW Unit)))).map (fun p=>strOf p.1);rw [List.map_map] at c;have h2:((fun p:Lit×DataW Unit=>strOf p.1)∘fun s=>(Lit.string s,(DataW.nil:DataW Unit)))=id:=by funext s;rfl
  rw [h2,List.map_id] at c;exact c
 have hperm:=hq (l.map Prod.fst)
 have hsz:Go.Maps.size (.map (((l.map Prod.fst).map fun s=>(Lit.string s,(DataW.nil:DataW Unit))).foldr DataW.insert []))=l.length:=by
  have c:=(WideShapes.sorted_perm ((l.map Prod.fst).map fun s=>(Lit.string s,(DataW.nil:DataW Unit)))).length_eq;rw [List.length_map,List.length_map] at c;exact c
 have hseq:SeqGives Fence.wide 2 Tryz.prog 184 #[.pointer (some ⟨bx,0,none⟩)] Go.Proofs.encStr (fun ss=>ss.Perm (strKeys (.map (((l.map Prod.fst).map fun s=>(Lit.string s,(DataW.nil:DataW Unit))).foldr DataW.insert [])))) (Go.Maps.size (.map (((l.map Prod.fst).map fun s=>(Lit.string s,(DataW.nil:DataW Unit))).foldr DataW.insert []))) w:=
  AnyZ.keys_gives (ρ:=Tryz.RP) {Tryz.Aa7 with} Fence.wide _ trivial rfl (by omega) bx b l.length _ _ (lt_of_heap hbx') (by simp [World.cell?,hbx']) hown
 have cS:=AnyZ.sorted_in Tryz.ZH Fence.wide 5 trivial trivial trivial trivial rfl (by omega) (AbV _) (enters_of Tryz.func183 (by kernel_rfl) rfl) 184 #[.pointer (some ⟨bx,0,none⟩)] trivial (enters_of Tryz.func184 (by kernel_rfl) rfl) _ _ (by rw [hsz];unfold maxLen;omega) (by rw [hsz];exact hby) _ hseq
 change CallsIn _ _ Tryz.prog 130 _ _ _ at cS
 refine⟨⟨Tryz.f130,_,Tryz.func130,rfl,rfl⟩,(callsIn_wide.1 cS).mono fun e w' he=>?_⟩;obtain⟨v',ss,rfl,hS,hrow,_,hbel⟩:=he;refine⟨_,rfl,Ext.off hbel,v',rfl,_,?_,RU _ _⟩;have d:ss.mergeSort leB=(l.map Prod.fst).mergeSort leB:=mergeSort_of_perm (hS.trans hperm);have g:ss.length=((l.map Prod.fst).mergeSort leB).length:=by rw [<- d];simp
 rw [g] at hrow;rw [<- d];rw [<- d] at hrow;exact hrow
end Go.Proofs.YtekmbcbgknmhiaaGreatDoor
end
noncomputable section
namespace Go
abbrev Ad0:=(Int×Adt)×(Int×Int)
end Go
namespace Go.Proofs.YtekmbcbgknmhiaaGreatDoor
open Go Go.E Go.RowKit Go.L
set_option maxHeartbeats 1000000
set_option maxRecDepth 10000
open _root_.Go.Proofs.Tryz
def AM(a0 a1:Int):Option Int:=
 Option.bind (E5 a0) (fun a=>Bh (C0 (a1+a)) (some ((a1+a))))
theorem CQ{d w:World}{H:PH}(_hH:Le H (hp d)){O:List BE}{a0 a1:Int}{ba1:Nat}(hL:AU d (Ha [.box ba1 [No a1] 3] O) w){r:Int}(h:AM a0 a1=some r):
  Ok prog 133 [No a0,Aas ba1] w (fun v w'=>v=.tuple #[]/\AU d (Ha [.box ba1 [No r] 3] O) w'/\Le (fz w (Ha [.box ba1 [No a1] 3] O)) (fz w' (Ha [.box ba1 [No r] 3] O))):=by
 refine Ey (n:=7) [(0,No a0),(1,(Aas ba1))] func133 rfl rfl rfl rfl rfl ?_;have hT:=Le.refl (fz w (Ha [.box ba1 [No a1] 3] O));refine Sn (.q 0 (.q 1 (.q 2 (.q 3 (.tail 4))))) mixed (by kernel_rfl) (fun o b=>?_);have a:=hL.call b;have e:=AP hL b;refine FK (Ag 0 rfl AaA rfl a rfl) rfl rfl<|GQ 1 rfl<|Aq h fun p i h=>KK rfl rfl rfl (fun s m=>Oe _ _ (Le.refl _) i)<|AB h fun j h=>FK (AK rfl j) rfl rfl<|DX (fun t c=>?_);have k:=a.call c;have f:=AP a c;refine B6 0 rfl rfl rfl Dd k rfl rfl fun u l g=>AQ ?_
 cases h
 refine IT rfl ?_;have hT:=hT.trans (e.trans (f.trans g));exact⟨rfl,l,hT⟩
def DG(a b:Int):Option ((Int×Int) ⊕ (Int)):=
 Bh (C0 (a+1)) (some (Sum.inl (b,(a+1))))
def B7(a0:Int×Adt)(b:Int):Int×Int×Int×Int->Option ((Int×Int×Int×Int) ⊕ ((Int×Int) ⊕ (Int))):=fun⟨c,e,d,a⟩=>
 if a<(((a0.2.getD b.toNat default).2).length:Int) then Bh (0<=a/\a<(((a0.2.getD b.toNat default).2).length:Int)) (if(((a0.2.getD b.toNat default).2).getD a.toNat default).1=c then Option.bind (AM (1:Int) d) (fun f=>Bh (C0 ((((a0.2.getD b.toNat default).2).getD a.toNat default).2 - e)) (Option.bind (AM ((((a0.2.getD b.toNat default).2).getD a.toNat default).2 - e) f) (fun g=>Bh (C0 (a+1)) (some (Sum.inl ((((a0.2.getD b.toNat default).2).getD a.toNat default).1,(((a0.2.getD b.toNat default).2).getD a.toNat default).2,g,(a+1))))))) else Bh (C0 (1+(((a0.2.getD b.toNat default).2).getD a.toNat default).1)) (Bh (C0 ((1+(((a0.2.getD b.toNat default).2).getD a.toNat default).1) - c)) (Option.bind (AM ((1+(((a0.2.getD b.toNat default).2).getD a.toNat default).1) - c) d) (fun h=>Bh (C0 ((((a0.2.getD b.toNat default).2).getD a.toNat default).2+1)) (Option.bind (AM ((((a0.2.getD b.toNat default).2).getD a.toNat default).2+1) h) (fun i=>Bh (C0 (a+1)) (some (Sum.inl ((((a0.2.getD b.toNat default).2).getD a.toNat default).1,(((a0.2.getD b.toNat default).2).getD a.toNat default).2,i,(a+1)))))))))) else Option.map Sum.inr ((DG b) d)
def Fe(a0:Int×Adt)(a:Int)(s:Int×Int×Int×Int):Option ((Int×Int) ⊕ (Int)):=Go.L.run (B7 a0 a) s
def DH(a0:Int×Adt)(a b:Int):Option ((Int×Int) ⊕ (Int)):=
 Option.bind (AM (((a0.2.getD a.toNat default).2).length:Int) b) (fun c=>(Fe a0 a) (0,(-1),c,0))
def BP(a0:Int×Adt)(b:Int):Int×Int->Option ((Int×Int) ⊕ ((Int×Int) ⊕ (Int))):=fun⟨c,a⟩=>
 if a<(((a0.2.getD b.toNat default).1).length:Int) then Bh (0<=a/\a<(((a0.2.getD b.toNat default).1).length:Int)) (Bh (C0 (((((a0.2.getD b.toNat default).1).getD a.toNat default).toNat:Int)+1)) (Option.bind (AM (((((a0.2.getD b.toNat default).1).getD a.toNat default).toNat:Int)+1) c) (fun d=>Bh (C0 (a+1)) (some (Sum.inl (d,(a+1))))))) else Option.map Sum.inr ((DH a0 b) c)
def Ff(a0:Int×Adt)(a:Int)(s:Int×Int):Option ((Int×Int) ⊕ (Int)):=Go.L.run (BP a0 a) s
def BQ(a0:Int×Adt):Int×Int->Option ((Int×Int) ⊕ (Int)):=fun⟨b,a⟩=>
 if a<(a0.2.length:Int) then Bh (0<=a/\a<(a0.2.length:Int)) (Option.bind (AM (((a0.2.getD a.toNat default).1).length:Int) b) (fun c=>Bh (((a0.2.getD a.toNat default).1).length<=9223372036854775807) ((Ff a0 a) (c,0)))) else Option.map Sum.inr (some b)
def Fg(a0:Int×Adt)(s:Int×Int):Option Int:=Go.L.run (BQ a0) s
def DR(a0:Int×Adt)(a1_c0:Int):Option Int:=
 Bh (C0 (a0.1+1)) (Option.bind (AM (a0.1+1) a1_c0) (fun a=>Bh (C0 ((a0.2.length:Int)+1)) (Option.bind (AM ((a0.2.length:Int)+1) a) (fun b=>(Fg a0) (b,0)))))
theorem LQ{k w:World}{H:PH}(hH:Le H (hp k)){O:List BE}{a0:Int×Adt}{a1_c0:Int}{va0_1:Value}{ba1_c0:Nat}(hL:AU k (Ha [.box ba1_c0 [No a1_c0] 3] O) w)(y:AA (.pair .st (.vec Ad4)) (gz H k w (Ha [.box ba1_c0 [No a1_c0] 3] O)) va0_1 (a0.2)){r:Int}(h:DR a0 a1_c0=some r):
  Ok prog 132 [.agg #[No a0.1,va0_1],.func (.func 133) #[] #[Aas ba1_c0]] w (fun v w'=>v=.tuple #[]/\AU k (Ha [.box ba1_c0 [No r] 3] O) w'/\Le (fz w (Ha [.box ba1_c0 [No a1_c0] 3] O)) (fz w' (Ha [.box ba1_c0 [No r] 3] O))):=by
 refine Ey (n:=91) [(0,.agg #[No a0.1,va0_1]),(1,.func (.func 133) #[] #[Aas ba1_c0])] func132 rfl rfl rfl rfl rfl ?_;have hT:=Le.refl (fz w (Ha [.box ba1_c0 [No a1_c0] 3] O));refine Ai<|Dq (t:=46) rfl rfl rfl hL fun w1 q b2 b3 _=>Ac<|Bs 1 rfl<|Ah (Af rfl AcY rfl Dd) rfl<|Ah (Ag 0 rfl AaA rfl b2 rfl) rfl<|AB h fun dm h=>Ah (AK rfl dm) rfl ?_;have db:AU k (Ha [.box ba1_c0 [No a1_c0] 3,.box q [No a0.1,va0_1] 46] O) w1:=b2.CW [1] rfl;have b4:=B9 [1] b2 db rfl;refine Aq h fun x4 dn h=>Es rfl rfl rfl (CQ (a0:=(a0.1+1)) (a1:=a1_c0) (O:=(Ha [.box q [No a0.1,va0_1] 46] O)) hH db dn) ?_;rintro _ w5 ⟨rfl,dc,b5⟩;refine Ac<|Bs 1 rfl<|Ah (Af rfl AcY rfl Uz) rfl<|Ah (Ag 1 rfl AcX rfl dc rfl) rfl ?_;have y:=y.mono (Aa hH (b3.trans (b4.trans b5)));refine Ah (Bj rfl AcX y) rfl<|AB h fun dp h=>Ah (AK rfl dp) rfl<|Aq h fun x7 dq h=>Es rfl rfl rfl (CQ (a0:=((a0.2.length:Int)+1)) (a1:=x4) (O:=(Ha [.box q [No a0.1,va0_1] 46] O)) hH dc dq) ?_;rintro _ w8 ⟨rfl,dd,b6⟩
 refine Ac<|Ai<|Ah (Af rfl AcY rfl Uz) rfl<|Ah (Ag 1 rfl AcX rfl dd rfl) rfl ?_;have y:=y.mono (Aa hH b6);refine Ah (Bj rfl AcX y) rfl<|A4 1 rfl<|A2 ?_;obtain⟨be,h⟩:=AY h;have hT:=hT.trans (b3.trans (b4.trans (b5.trans b6)));refine B8 (σ:=Int×Int×Nat) (fun⟨aa,a,n⟩=>[(1,.func (.func 133) #[] #[Aas ba1_c0]),(23,va0_1),(24,No (a0.2.length:Int)),(25,No a)]) (fun⟨aa,a,n⟩ wr=>FL k (Ha [.box ba1_c0 [No aa] 3,.box q [No a0.1,va0_1] 46] O) wr fun Oz=>AA (.pair .st (.vec Ad4)) (gz H k wr Oz) va0_1 (a0.2)/\Le (fz w (Ha [.box ba1_c0 [No a1_c0] 3] O)) (fz wr Oz)/\GR (BQ a0) n (aa,a)=some r) (fun⟨aa,a,n⟩=>n) (x7,0,be) (Sub.of rfl) ⟨dd,y,hT,h⟩ ?_;rintro⟨aa,a,nn119⟩ dr ⟨a6,z,hT,h⟩;obtain⟨be,a7,rfl,h,bg⟩:=AX h;refine AD 1 rfl<|A9<|AO rfl h (fun cb h=>?_) (fun cb h=>?_)
 ·refine Au<|Ar<|Bw (σ:=Int) (fun aj=>[(1,.func (.func 133) #[] #[Aas ba1_c0]),(23,va0_1),(24,No (a0.2.length:Int)),(25,No a)]) (fun aj wr=>FL k (Ha [.box ba1_c0 [No aj] 3,.box q [No a0.1,va0_1] 46] O) wr fun Oz=>AA (.pair .st (.vec Ad4)) (gz H k wr Oz) va0_1 (a0.2)/\Le (fz w (Ha [.box ba1_c0 [No a1_c0] 3] O)) (fz wr Oz)/\(DG a) aj=some a7) ?_ ?_
  ·refine A2<|Ai<|AB h fun bh h=>Be rfl rfl AcX Nz z a.toNat (Hc bh) (Ba bh) rfl ?_;rintro d0 _ ⟨_,_,rfl,rfl,⟨e228v1,rfl,e228h1⟩⟩ cc;refine Ah (C7 rfl AcW rfl Nz cc (Al hH a6)) rfl<|A3 Nz rfl rfl a6 fun d1 c cd ac _=>Ad 0 rfl Nz cd rfl (Bb rfl (Bb e228h1.one I8)) fun de a8 ad=>Ac<|Bs 1 rfl<|Ah (Af rfl AcW rfl Kq) rfl<|Ah (Ag 0 rfl AaQ rfl a8 rfl) rfl<|Ah (Ib rfl AaQ) rfl ?_;have bi:AU k (Ha [.box ba1_c0 [No aa] 3,.box c [.string ⟨((a0.2.getD a.toNat default).1).toArray⟩,e228v1] 192,.box q [No a0.1,va0_1] 46] O) de:=a8.CW [1] rfl;have ae:=B9 [1] a8 bi rfl;refine Aq h fun df ce h=>Es rfl rfl rfl (CQ (a0:=(((a0.2.getD a.toNat default).1).length:Int)) (a1:=aa) (O:=(Ha [.box c [.string ⟨((a0.2.getD a.toNat default).1).toArray⟩,e228v1] 192,.box q [No a0.1,va0_1] 46] O)) hH bi ce) ?_;rintro _ d2 ⟨rfl,bj,af⟩;refine Ac ?_
   refine Bw (σ:=Int) (fun ak=>[(1,.func (.func 133) #[] #[Aas ba1_c0]),(5,(Aas c)),(23,va0_1),(24,No (a0.2.length:Int)),(25,No a)]) (fun ak wr=>FL k (Ha [.box ba1_c0 [No ak] 3,.box c [.string ⟨((a0.2.getD a.toNat default).1).toArray⟩,e228v1] 192,.box q [No a0.1,va0_1] 46] O) wr fun Oz=>AA (.pair .st (.vec Ad4)) (gz H k wr Oz) va0_1 (a0.2)/\AA Ad4 (gz H k wr Oz) e228v1 ((a0.2.getD a.toNat default).2)/\Le (fz w (Ha [.box ba1_c0 [No a1_c0] 3] O)) (fz wr Oz)/\(DH a0 a) ak=some a7) ?_ ?_
   ·refine Ai<|Ah (Af rfl AcW rfl Kq) rfl<|Ah (Ag 1 rfl AaQ rfl bj rfl) rfl<|AB h fun cf h=>Xe (H:=H) rfl AaQ Abj Acu rfl bj cf fun b7 d3 ds cg al bk=>Ah (Bj rfl Abj bk) rfl<|A4 1 rfl<|A2 ?_;obtain⟨bf,h⟩:=AY h;have z:=z.mono (Aa hH (ac.trans (ad.trans (ae.trans (af.trans al)))));have e228h1:=e228h1.mono (Aa hH (ac.trans (ad.trans (ae.trans (af.trans al)))));have hT:=hT.trans (ac.trans (ad.trans (ae.trans (af.trans al))))
    refine B8 (σ:=Int×Int×Nat) (fun⟨ab,e,n⟩=>[(1,.func (.func 133) #[] #[Aas ba1_c0]),(5,(Aas c)),(23,va0_1),(24,No (a0.2.length:Int)),(25,No a),(36,b7),(37,No (((a0.2.getD a.toNat default).1).length:Int)),(38,No e)]) (fun⟨ab,e,n⟩ wr=>FL k (Ha [.box ba1_c0 [No ab] 3,.box c [.string ⟨((a0.2.getD a.toNat default).1).toArray⟩,e228v1] 192,.box q [No a0.1,va0_1] 46] O) wr fun Oz=>AA (.pair .st (.vec Ad4)) (gz H k wr Oz) va0_1 (a0.2)/\AA .byte (gz H k wr Oz) b7 ((a0.2.getD a.toNat default).1)/\AA Ad4 (gz H k wr Oz) e228v1 ((a0.2.getD a.toNat default).2)/\Le (fz w (Ha [.box ba1_c0 [No a1_c0] 3] O)) (fz wr Oz)/\GR (BP a0 a) n (ab,e)=some a7) (fun⟨ab,e,n⟩=>n) (df,0,bf) (Sub.of rfl) ⟨cg,z,bk,e228h1,hT,h⟩ ?_;rintro⟨ab,e,nn280⟩ dt ⟨ai,a3,a4,a5,hT,h⟩;obtain⟨bf,d4,rfl,h,bl⟩:=AX h;have l:=ai.rG H;refine AD 1 rfl<|A9<|AO rfl h (fun ch h=>?_) (fun ch h=>?_)
    ·refine Au<|Ar<|A9<|A2<|Ai<|AB h fun bm h=>Be rfl rfl Abj NK (a4.mono l) e.toNat (Hc bm) (Ba bm) rfl ?_;rintro d5 _ rfl ci;refine Ah (Bu rfl Acu rfl ci (Al hH ai)) rfl<|A4 1 rfl<|Av<|As 2 rfl<|Ah (IS Acu AaA rfl (OA _)) rfl<|AB h fun cj h=>Ah (AK rfl cj) rfl<|Aq h fun dg ck h=>Es rfl rfl rfl (CQ (a0:=(((((a0.2.getD a.toNat default).1).getD e.toNat default).toNat:Int)+1)) (a1:=ab) (O:=(Ha [.box c [.string ⟨((a0.2.getD a.toNat default).1).toArray⟩,e228v1] 192,.box q [No a0.1,va0_1] 46] O)) hH ai ck) ?_;rintro _ d6 ⟨rfl,cl,bd⟩;refine AQ<|AJ<|Ar<|Av<|AB h fun cm h=>Ah (AK rfl cm) rfl<|As 1 rfl<|AQ ?_;have h:=CV.again h bl;have l:=l.trans (Aa hH bd);have hT:=hT.trans bd;refine AW (dg,(e+1),bf) (Sub.of rfl) ⟨cl,(a3.mono l),(a4.mono l),(a5.mono l),hT,h⟩ (Nat.lt_succ_self _)
    refine B5<|AE<|A7 ?_;have h:=CV.out h bl;refine Bk<|A6 ab (Sub.of rfl) ⟨ai,(a3.mono l),(a5.mono l),hT,h⟩
   have hT:=hT.trans (ac.trans (ad.trans (ae.trans af)));rintro ak du ⟨bn,ag,s,hT,h⟩;refine Bs 1 rfl<|Ah (Af rfl AcW rfl X0) rfl<|Ah (Ag 1 rfl AcS rfl bn rfl) rfl<|Ah (Bj rfl AcS s) rfl<|Aq h fun dh cn h=>Es rfl rfl rfl (CQ (a0:=(((a0.2.getD a.toNat default).2).length:Int)) (a1:=ak) (O:=(Ha [.box c [.string ⟨((a0.2.getD a.toNat default).1).toArray⟩,e228v1] 192,.box q [No a0.1,va0_1] 46] O)) hH bn cn) ?_;rintro _ d7 ⟨rfl,co,am⟩;refine Ac<|Ai<|Ah (AN rfl (fun _=>X2 _ _)) rfl<|A3 Kb rfl rfl co fun d8 o cp an _=>Ad 0 rfl Kb cp rfl (AT rfl) fun d9 bo ao=>Ac<|Ai<|Ah (Af rfl AcW rfl X0) rfl<|Ah (Ag 2 rfl AcS rfl bo rfl) rfl ?_;have s:=s.mono (Aa hH (am.trans (an.trans ao)));refine Ah (Bj rfl AcS s) rfl<|A4 1 rfl<|A2 ?_;obtain⟨a9,h⟩:=AY h;have ag:=ag.mono (Aa hH (am.trans (an.trans ao)));have hT:=hT.trans (am.trans (an.trans ao))
   refine B8 (σ:=Int×Int×Int×Int×Nat) (fun⟨g,j,p,b,n⟩=>[(1,.func (.func 133) #[] #[Aas ba1_c0]),(8,(Aas o)),(23,va0_1),(24,No (a0.2.length:Int)),(25,No a),(55,e228v1),(56,No (((a0.2.getD a.toNat default).2).length:Int)),(57,No b)]) (fun⟨g,j,p,b,n⟩ wr=>FL k (Ha [.box o [No g,No j] 137,.box ba1_c0 [No p] 3,.box c [.string ⟨((a0.2.getD a.toNat default).1).toArray⟩,e228v1] 192,.box q [No a0.1,va0_1] 46] O) wr fun Oz=>AA (.pair .st (.vec Ad4)) (gz H k wr Oz) va0_1 (a0.2)/\AA Ad4 (gz H k wr Oz) e228v1 ((a0.2.getD a.toNat default).2)/\Le (fz w (Ha [.box ba1_c0 [No a1_c0] 3] O)) (fz wr Oz)/\GR (B7 a0 a) n (g,j,p,b)=some a7) (fun⟨g,j,p,b,n⟩=>n) (0,(-1),dh,0,a9) (Sub.of rfl) ⟨bo,ag,s,hT,h⟩ ?_;rintro⟨g,j,p,b,nn330⟩ dv ⟨ba,d,f,hT,h⟩;obtain⟨a9,ea,rfl,h,bb⟩:=AX h;refine AD 1 rfl<|A9<|AO rfl h (fun cq h=>?_) (fun cq h=>?_)
   ·refine Au<|Ar<|A9<|A2<|Ai<|AB h fun bp h=>Be rfl rfl AcS Kb f b.toNat (Hc bp) (Ba bp) rfl ?_;rintro eb _ ⟨_,_,rfl,rfl,rfl⟩ cr;refine Ah (C7 rfl Adb rfl Kb cr (Al hH ba)) rfl<|A3 Kb rfl rfl ba fun ec ah cs u _=>Ad 0 rfl Kb cs rfl (AT rfl) fun b8 m x=>Ac<|A9<|Ai<|Ah (Af rfl Adb rfl Dd) rfl<|Ah (Ag 0 rfl AaA rfl m rfl) rfl<|Ah (Af rfl Adb rfl Dd) rfl<|Ah (Ag 1 rfl AaA rfl m rfl) rfl<|A4 1 rfl<|Cf rfl h (fun ct h=>?_) (fun ct h=>?_)
    ·refine Bs 1 rfl<|Ah (Af rfl Adb rfl Dd) rfl<|Ah (Ag 0 rfl AaA rfl m rfl) rfl<|AB h fun cu h=>Ah (AK rfl cu) rfl<|Ah (Af rfl Adb rfl Dd) rfl<|Ah (Ag 1 rfl AaA rfl m rfl) rfl<|AB h fun cv h=>Ah (AK rfl cv) rfl ?_;have bq:AU k (Ha [.box ba1_c0 [No p] 3,.box ah [No ((((a0.2.getD a.toNat default).2).getD b.toNat default).1),No ((((a0.2.getD a.toNat default).2).getD b.toNat default).2)] 137,.box o [No g,No j] 137,.box c [.string ⟨((a0.2.getD a.toNat default).1).toArray⟩,e228v1] 192,.box q [No a0.1,va0_1] 46] O) b8:=m.CW [2] rfl;have ap:=B9 [2] m bq rfl;refine Aq h fun di cw h=>Es rfl rfl rfl (CQ (a0:=((1+(((a0.2.getD a.toNat default).2).getD b.toNat default).1) - g)) (a1:=p) (O:=(Ha [.box ah [No ((((a0.2.getD a.toNat default).2).getD b.toNat default).1),No ((((a0.2.getD a.toNat default).2).getD b.toNat default).2)] 137,.box o [No g,No j] 137,.box c [.string ⟨((a0.2.getD a.toNat default).1).toArray⟩,e228v1] 192,.box q [No a0.1,va0_1] 46] O)) hH bq cw) ?_
     rintro _ ed ⟨rfl,br,aq⟩;refine Ac<|Av<|As 1 rfl<|Ah (Af rfl Adb rfl Dd) rfl<|Ah (Ag 1 rfl AaA rfl br rfl) rfl<|AB h fun cx h=>Ah (AK rfl cx) rfl<|Aq h fun b9 cy h=>Es rfl rfl rfl (CQ (a0:=((((a0.2.getD a.toNat default).2).getD b.toNat default).2+1)) (a1:=di) (O:=(Ha [.box ah [No ((((a0.2.getD a.toNat default).2).getD b.toNat default).1),No ((((a0.2.getD a.toNat default).2).getD b.toNat default).2)] 137,.box o [No g,No j] 137,.box c [.string ⟨((a0.2.getD a.toNat default).1).toArray⟩,e228v1] 192,.box q [No a0.1,va0_1] 46] O)) hH br cy) ?_;rintro _ ee ⟨rfl,bs,ar⟩;refine AQ<|Ar<|Av<|Ah (A5 1 rfl Adb rfl Kb bs rfl) rfl<|Ad 2 rfl Kb bs rfl (AT rfl) fun dj cz au=>AQ<|AJ<|Ar<|Av<|AB h fun c0 h=>Ah (AK rfl c0) rfl<|As 1 rfl<|AQ ?_;have bt:=cz.AV (i:=1) rfl
     have bu:AU k (Ha [.box o [No ((((a0.2.getD a.toNat default).2).getD b.toNat default).1),No ((((a0.2.getD a.toNat default).2).getD b.toNat default).2)] 137,.box ba1_c0 [No b9] 3,.box c [.string ⟨((a0.2.getD a.toNat default).1).toArray⟩,e228v1] 192,.box q [No a0.1,va0_1] 46] O) dj:=bt.CW [1] rfl;have av:=B9 [1] bt bu rfl;have h:=CV.again h bb;have d:=d.mono (Aa hH (u.trans (x.trans (ap.trans (aq.trans (ar.trans (au.trans ((An (i:=1) rfl).trans av))))))));have f:=f.mono (Aa hH (u.trans (x.trans (ap.trans (aq.trans (ar.trans (au.trans ((An (i:=1) rfl).trans av))))))));have hT:=hT.trans (u.trans (x.trans (ap.trans (aq.trans (ar.trans (au.trans ((An (i:=1) rfl).trans av)))))));refine AW ((((a0.2.getD a.toNat default).2).getD b.toNat default).1,(((a0.2.getD a.toNat default).2).getD b.toNat default).2,b9,(b+1),a9) (Sub.of rfl) ⟨bu,d,f,hT,h⟩ (Nat.lt_succ_self _)
    refine Bs 1 rfl ?_;have bv:AU k (Ha [.box ba1_c0 [No p] 3,.box ah [No ((((a0.2.getD a.toNat default).2).getD b.toNat default).1),No ((((a0.2.getD a.toNat default).2).getD b.toNat default).2)] 137,.box o [No g,No j] 137,.box c [.string ⟨((a0.2.getD a.toNat default).1).toArray⟩,e228v1] 192,.box q [No a0.1,va0_1] 46] O) b8:=m.CW [2] rfl;have aw:=B9 [2] m bv rfl;refine Aq h fun dk c1 h=>Es rfl rfl rfl (CQ (a0:=1) (a1:=p) (O:=(Ha [.box ah [No ((((a0.2.getD a.toNat default).2).getD b.toNat default).1),No ((((a0.2.getD a.toNat default).2).getD b.toNat default).2)] 137,.box o [No g,No j] 137,.box c [.string ⟨((a0.2.getD a.toNat default).1).toArray⟩,e228v1] 192,.box q [No a0.1,va0_1] 46] O)) hH bv c1) ?_;rintro _ ef ⟨rfl,bc,ax⟩;refine Ac<|Av<|As 1 rfl<|Ah (Af rfl Adb rfl Dd) rfl<|Ah (Ag 1 rfl AaA rfl bc rfl) rfl<|Ah (Af rfl Adb rfl Dd) rfl<|Ah (Ag 2 rfl AaA rfl bc rfl) rfl<|AB h fun c2 h=>Ah (AK rfl c2) rfl<|Aq h fun ca c3 h=>?_
    refine Es rfl rfl rfl (CQ (a0:=((((a0.2.getD a.toNat default).2).getD b.toNat default).2 - j)) (a1:=dk) (O:=(Ha [.box ah [No ((((a0.2.getD a.toNat default).2).getD b.toNat default).1),No ((((a0.2.getD a.toNat default).2).getD b.toNat default).2)] 137,.box o [No g,No j] 137,.box c [.string ⟨((a0.2.getD a.toNat default).1).toArray⟩,e228v1] 192,.box q [No a0.1,va0_1] 46] O)) hH bc c3) ?_;rintro _ eg ⟨rfl,bw,ay⟩;refine AQ<|Ar<|Av<|Ah (A5 1 rfl Adb rfl Kb bw rfl) rfl<|Ad 2 rfl Kb bw rfl (AT rfl) fun dl c4 az=>AQ<|AJ<|Ar<|Av<|AB h fun c5 h=>Ah (AK rfl c5) rfl<|As 1 rfl<|AQ ?_;have bx:=c4.AV (i:=1) rfl;have bz:AU k (Ha [.box o [No ((((a0.2.getD a.toNat default).2).getD b.toNat default).1),No ((((a0.2.getD a.toNat default).2).getD b.toNat default).2)] 137,.box ba1_c0 [No ca] 3,.box c [.string ⟨((a0.2.getD a.toNat default).1).toArray⟩,e228v1] 192,.box q [No a0.1,va0_1] 46] O) dl:=bx.CW [1] rfl;have a2:=B9 [1] bx bz rfl;have h:=CV.again h bb
    have d:=d.mono (Aa hH (u.trans (x.trans (aw.trans (ax.trans (ay.trans (az.trans ((An (i:=1) rfl).trans a2))))))));have f:=f.mono (Aa hH (u.trans (x.trans (aw.trans (ax.trans (ay.trans (az.trans ((An (i:=1) rfl).trans a2))))))));have hT:=hT.trans (u.trans (x.trans (aw.trans (ax.trans (ay.trans (az.trans ((An (i:=1) rfl).trans a2)))))));refine AW ((((a0.2.getD a.toNat default).2).getD b.toNat default).1,(((a0.2.getD a.toNat default).2).getD b.toNat default).2,ca,(b+1),a9) (Sub.of rfl) ⟨bz,d,f,hT,h⟩ (Nat.lt_succ_self _)
   refine B5<|AE<|A7 ?_;have h:=CV.out h bb;refine Bk<|AJ ?_;have c6:=ba.AV (i:=0) rfl;have c7:=c6.AV (i:=1) rfl;have d:=d.mono (Aa hH ((An (i:=0) rfl).trans (An (i:=1) rfl)));have hT:=hT.trans ((An (i:=0) rfl).trans (An (i:=1) rfl));refine A6 p (Sub.of rfl) ⟨c7,d,hT,h⟩
  rintro aj dw ⟨c8,b0,hT,h⟩;refine Av<|AB h fun c9 h=>Ah (AK rfl c9) rfl<|As 1 rfl<|AQ ?_;have h:=CV.again h bg;refine AW (aj,(a+1),be) (Sub.of rfl) ⟨c8,b0,hT,h⟩ (Nat.lt_succ_self _)
 refine B5<|AE<|A7 ?_;have h:=CV.out h bg;refine Bk ?_
 cases h
 refine IT rfl ?_;have da:=a6.AV (i:=1) rfl;have hT:=hT.trans (An (i:=1) rfl);exact⟨rfl,da,hT⟩
def F1(a0:Int)(a:List (Aaz×Adw)):Option Ad0:=
 Option.bind (DR (a0,a) (0:Int)) (fun c=>if 131072<c then Option.bind (Hw (14:Int) (-1:Int)) (fun b=>some ((0,[]),(b.1,b.2))) else some ((a0,a),(0,0)))
def EM(a0:Int)(a1:List (Aaz×Adw))(b:(List Aaz)):Adt×Int->Option ((Adt×Int) ⊕ Ad0):=fun⟨c,a⟩=>
 if a<(b.length:Int) then Bh (0<=a/\a<(b.length:Int)) (Bh (Go.E.Ij 40 (c.length+([(b.getD a.toNat default,(Ct [] (b.getD a.toNat default) a1))]).length)) (Bh (C0 (a+1)) (some (Sum.inl ((c++[(b.getD a.toNat default,(Ct [] (b.getD a.toNat default) a1))]),(a+1)))))) else Option.map Sum.inr ((F1 a0) c)
def Jc(a0:Int)(a1:List (Aaz×Adw))(a:(List Aaz))(s:Adt×Int):Option Ad0:=Go.L.run (EM a0 a1 a) s
def IE(a0:Int)(a1:List (Aaz×Adw)):Option Ad0:=
 Option.bind (J2 a1) (fun a=>(Jc a0 a1 a) (([]:List (Aaz×Adw)),0))
theorem QL(w:World)(H:PH)(hH:Le H (hp w)){a0:Int}{a1:List (Aaz×Adw)}{x:Value}(ah:Rr encS (.vec Ad4) H x a1){r:(Int×Adt)×(Int×Int)}(h:IE a0 a1=some r):
  Ok prog 80 [No a0,x] w (fun v w'=>Ext w w'/\∃ u0,v=.tuple #[.agg #[No r.1.1,u0],.agg #[No r.2.1,No r.2.2]]/\AA (.pair .st (.vec Ad4)) (un H (nw w w')) u0 (r.1.2)):=by
 refine Aw (n:=40) [(0,No a0),(1,x)] func80 rfl fun hL=>Ai<|A3 KN rfl rfl hL fun w1 b1 bt b6 _=>A3 AI rfl rfl bt fun w2 b2 bu b7 _=>Ac<|Bs 1 rfl<|Ah (AN rfl (fun _=>Zz _ _)) rfl<|A3 KN rfl rfl bu fun w3 b3 bv b8 _=>Ad 0 rfl KN bv rfl (AT rfl) fun w4 al b9=>Ac<|Bw (σ:=Adt×Value×(List Value)) (fun⟨u,p,j⟩=>[(4,(Aas b1)),(5,(Aas b2)),(6,(Aas b3))]) (fun⟨u,p,j⟩ wr=>FL w [.row p 192 2 (u).length j,.box b3 [No a0,p] 46,.box b2 [No 0,No 0] 28,.box b1 [No 0,Aaq] 46] wr fun Oz=>AF (.pair .st (.vec Ad4)) (gz H w wr Oz) u j/\(F1 a0) u=some r) ?_ ?_
 ·refine Bs 1 rfl<|Bf rfl rfl al (ZW _ _ (Al hH al) (ah.mono (Ae hH))) ?_;intro ce cf a3 a4 z bx;have a5:=a3.mono (Ds hH al a4);refine Aq h fun c a6 h=>Bf rfl rfl z (Wt _ _ (Al hH z) a5 a6) ?_;rintro ae cg ⟨_,rfl,am⟩ a7 a8 bz;have d:=am.C8 hH z a7;refine Ah (Bj rfl Ab1 d) rfl<|A4 1 rfl<|A2 ?_;obtain⟨a9,au,ba⟩:=Ez (.pair .st (.vec Ad4)) H 192 a8;obtain⟨an,h⟩:=AY h;have d:=d.mono (Aa hH au)
  refine B8 (σ:=Adt×Int×Value×(List Value)×Nat) (fun⟨e,a,g,b,n⟩=>[(1,x),(4,(Aas b1)),(5,(Aas b2)),(6,(Aas b3)),(14,ae),(15,No (c.length:Int)),(16,No a)]) (fun⟨e,a,g,b,n⟩ wr=>FL w [.row g 192 2 (e).length b,.box b3 [No a0,g] 46,.box b2 [No 0,No 0] 28,.box b1 [No 0,Aaq] 46] wr fun Oz=>AA .st (gz H w wr Oz) ae c/\AF (.pair .st (.vec Ad4)) (gz H w wr Oz) e b/\GR (EM a0 a1 c) n (e,a)=some r) (fun⟨e,a,g,b,n⟩=>n) (([]:List (Aaz×Adw)),0,Aaq,[],an) (Sub.of rfl) ⟨a9,d,ba,h⟩ ?_;rintro⟨e,a,g,b,nn60⟩ ca ⟨q,f,o,h⟩;obtain⟨an,ch,rfl,h,ao⟩:=AX h;refine AD 1 rfl<|A9<|AO rfl h (fun bb h=>?_) (fun bb h=>?_)
  ·refine Au<|Ar<|A9<|A2<|Ai<|AB h fun ap h=>Be rfl rfl Ab1 Kq f a.toNat (Hc ap) (Ba ap) rfl ?_;rintro ci _ rfl bc;refine Ah (Bu rfl AaQ rfl bc (Al hH q)) rfl<|A4 1 rfl<|Av<|Ah (Af rfl AcY rfl Uz) rfl<|Ah (Ag 1 rfl AcX rfl q rfl) rfl<|As 3 rfl<|Vs (k:=c.getD a.toNat default) rfl rfl AcI AaZ zeroValue109 ah (hH.trans q.arg) rfl fun cj aq=>Ah (AN rfl (fun _=>U2 _ rfl _ aq.one _)) rfl<|Br (r:=(.pair .st (.vec Ad4))) (l:=[(c.getD a.toNat default,(Ct [] (c.getD a.toNat default) a1))]) rfl (fun _=>Z8 _ _ _) rfl (B2 1) hH q (.c2 ⟨_,_,rfl,rfl,⟨_,rfl,(aq.mono (Ae hH))⟩⟩ .nil) fun ck cl cb bd af be=>AB h fun bf h=>?_;have o:=o.mono (Aa hH af);refine Bi (r:=(.pair .st (.vec Ad4))) (l:=e) (m:=[(c.getD a.toNat default,(Ct [] (c.getD a.toNat default) a1))]) 0 rfl rfl AcX Nz rfl (by decide) rfl hH bd rfl o be bf fun bw cm bg ar av aa=>Ah (Af rfl AcY rfl Uz) rfl ?_
   refine B6 1 rfl rfl (row_one (ar.at (i:=0) rfl)) Uz ar rfl rfl fun cn bh ag=>AQ<|AJ<|Ar<|Av<|AB h fun bi h=>Ah (AK rfl bi) rfl<|As 1 rfl<|AQ ?_;have h:=CV.again h ao;have f:=f.mono (Aa hH (af.trans (av.trans ag)));have aa:=aa.mono (Aa hH ag);refine AW ((e++[(c.getD a.toNat default,(Ct [] (c.getD a.toNat default) a1))]),(a+1),bw,bg,an) (Sub.of rfl) ⟨bh,f,aa,h⟩ (Nat.lt_succ_self _)
  refine B5<|AE<|A7 ?_;have h:=CV.out h ao;refine Bk<|A6 (e,g,b) (Sub.of rfl) ⟨q,o,h⟩
 rintro⟨u,p,j⟩ cc ⟨bj,y,h⟩;refine Ai<|A3 Dd rfl rfl bj fun co cp bk aw _=>B6 0 rfl rfl rfl Dd bk rfl rfl fun cq ab ax=>Ac<|Ai<|Ah (A5 2 rfl AcY rfl KN ab rfl) rfl<|As 1 rfl ?_;have y:=y.mono (Aa hH (aw.trans ax));have s:=ab.C8 hH (i:=1) rfl y;have bl:=ab.AV (i:=1) rfl;refine Aq h fun cr bm h=>EL rfl rfl (LQ (a0:=(a0,u)) (a1_c0:=0) (O:=[.box b3 [No a0,p] 46,.box b2 [No 0,No 0] 28,.box b1 [No 0,Aaq] 46]) hH bl s bm) ?_;rintro _ cs ⟨rfl,t,ay⟩;refine Ac<|A9<|Ai<|Ah (Ag 0 rfl AaA rfl t rfl) rfl<|A4 1 rfl<|AO rfl h (fun bn h=>?_) (fun bn h=>?_)
 ·refine Ai<|Ah (AN rfl (fun _=>S8 _)) rfl<|Aq h fun ct bo h=>A8 rfl rfl t (Ja _ _ (Al hH t) bo) fun cu cd bp b0=>Ad 3 rfl KN bp rfl (AT rfl) fun cv bq b4=>Ad 2 rfl AI bq rfl (AT rfl) fun cw ac b5=>Ac<|Ax<|Ay ?_
  cases h
  refine B0 rfl (.cell rfl AcY rfl KN (AG (i:=3) ac rfl)) (.cell rfl AcP rfl AI (AG (i:=2) ac rfl)) ⟨ac.ext,_,rfl,(AA.nil _ _)⟩
 refine Au<|Ar<|Ai<|Ah (A5 1 rfl AcY rfl KN t rfl) rfl<|Ah (AN rfl (fun _=>BL _)) rfl<|Ad 3 rfl KN t rfl (Bb rfl (Bb s.one I8)) fun cx br az=>Ad 2 rfl AI br rfl (AT rfl) fun cy ad a2=>Ac<|Ax ?_
 cases h
 refine B0 rfl (.cell rfl AcY rfl KN (AG (i:=3) ad rfl)) (.cell rfl AcP rfl AI (AG (i:=2) ad rfl)) ?_;have s:=s.mono (Aa hH (ay.trans (az.trans a2)));exact⟨ad.ext,_,rfl,(s.mono (Dg hH))⟩
def Hy(a:Int)(b:List (Aaz×Adw)):Option ((Adt×Int) ⊕ Ad0):=
 Bh (C0 (a+1)) (some (Sum.inl (b,(a+1))))
def EN(c:Int)(b:Adx×(Int×Int)):Adt×Int->Option ((Adt×Int) ⊕ ((Adt×Int) ⊕ Ad0)):=fun⟨d,a⟩=>
 if a<(b.1.length:Int) then Bh (0<=a/\a<(b.1.length:Int)) (Bh (Go.E.Ij 16 ((Ct [] ((b.1.getD a.toNat default).1) d).length+1)) (Bh (C0 (a+1)) (some (Sum.inl ((DY ((b.1.getD a.toNat default).1) ((Ct [] ((b.1.getD a.toNat default).1) d)++[(c,a)]) d),(a+1)))))) else Option.map Sum.inr ((Hy c) d)
def Hz(a:Int)(b:Adx×(Int×Int))(s:Adt×Int):Option ((Adt×Int) ⊕ Ad0):=Go.L.run (EN a b) s
def F2(a0:List Aaz)(b:List (Aaz×Adw)):Option Ad0:=
 Option.bind (IE (a0.length:Int) b) (fun a=>some ((a.1.1,a.1.2),(a.2.1,a.2.2)))
def Dn(a0:List Aaz):Adt×Int->Option ((Adt×Int) ⊕ Ad0):=fun⟨c,a⟩=>
 if a<(a0.length:Int) then Bh (0<=a/\a<(a0.length:Int)) (Option.bind (GB (a0.getD a.toNat default)) (fun b=>if b.2.1=0/\b.2.2=0 then(Hz a b) (c,0) else Option.bind (Hw b.2.1 a) (fun d=>Option.map Sum.inr (some ((0,[]),(d.1,d.2)))))) else Option.map Sum.inr ((F2 a0) c)
def K4(a0:List Aaz)(s:Adt×Int):Option Ad0:=Go.L.run (Dn a0) s
def GC(a0:List Aaz):Option Ad0:=
 if 64<(a0.length:Int) then Option.bind (Hw (2:Int) (-1:Int)) (fun a=>some ((0,[]),(a.1,a.2))) else(K4 a0) (([]:List (Aaz×Adw)),0)
theorem QM(w:World)(H:PH)(hH:Le H (hp w))(hU:EE H){a0:List Aaz}{m:Value}(ah:AA (.vec .byte) H m a0){r:(Int×Adt)×(Int×Int)}(h:GC a0=some r):
  Ok prog 47 [m] w (fun v w'=>Ext w w'/\∃ u0,v=.tuple #[.agg #[No r.1.1,u0],.agg #[No r.2.1,No r.2.2]]/\AA (.pair .st (.vec Ad4)) (un H (nw w w')) u0 (r.1.2)):=by
 refine Aw (n:=64) [(0,m)] func47 rfl fun hL=>Ai<|A3 KN rfl rfl hL fun w1 b1 cg cz _=>A3 AI rfl rfl cg fun w2 b2 a2 c0 _=>Ac<|A9<|Bs 1 rfl<|Ah (Bj rfl Adc ah) rfl<|A4 1 rfl<|AO rfl h (fun ch h=>?_) (fun ch h=>?_)
 ·refine Ai<|Ah (AN rfl (fun _=>S8 _)) rfl<|Aq h fun x5 ci h=>A8 rfl rfl a2 (Ja _ _ (Al hH a2) ci) fun w6 dt cj c1=>Ad 1 rfl KN cj rfl (AT rfl) fun w7 ck c3=>Ad 0 rfl AI ck rfl (AT rfl) fun w8 a3 c4=>Ac<|Ax<|Ay ?_
  cases h
  refine B0 rfl (.cell rfl AcY rfl KN (AG (i:=1) a3 rfl)) (.cell rfl AcP rfl AI (AG (i:=0) a3 rfl)) ⟨a3.ext,_,rfl,(AA.nil _ _)⟩
 refine Au<|Ar<|Ai<|RE encS Adw rfl a2 fun du o ce cs=>A4 1 rfl<|Bw (σ:=Adt×(List Value)) (fun⟨t,vsl142⟩=>[(0,m),(2,(Aas b1)),(3,(Aas b2)),(4,.map (some o))]) (fun⟨t,vsl142⟩ wr=>FL w (Ha [Ny encS o t vsl142,.box b2 [No 0,No 0] 28,.box b1 [No 0,Aaq] 46] (mT VY 137 2 t vsl142)) wr fun Oz=>(t).length=(vsl142).length/\(F2 a0) t=some r) ?_ ?_
 ·refine Bs 1 rfl<|Ah (Bj rfl Adc ah) rfl<|A4 1 rfl<|A2 ?_;obtain⟨aq,h⟩:=AY h;refine B8 (σ:=Adt×Int×(List Value)×Nat) (fun⟨p,c,vsl209,n⟩=>[(0,m),(2,(Aas b1)),(3,(Aas b2)),(4,.map (some o)),(17,m),(18,No (a0.length:Int)),(19,No c)]) (fun⟨p,c,vsl209,n⟩ wr=>FL w (Ha [Ny encS o p vsl209,.box b2 [No 0,No 0] 28,.box b1 [No 0,Aaq] 46] (mT VY 137 2 p vsl209)) wr fun Oz=>(p).length=(vsl209).length/\GR (Dn a0) n (p,c)=some r) (fun⟨p,c,vsl209,n⟩=>n) (([]:List (Aaz×Adw)),0,([]:List Value),aq) (Sub.of rfl) ⟨ce,rfl,h⟩ ?_;rintro⟨p,c,vsl209,nn211⟩ ct ⟨ab,ao,h⟩;obtain⟨aq,a4,rfl,h,ai⟩:=AX h;refine AD 1 rfl<|A9<|AO rfl h (fun bi h=>?_) (fun bi h=>?_)
  ·refine Au<|Ar<|Bw (σ:=Adt×(List Value)) (fun⟨aa,vsl273⟩=>[(0,m),(2,(Aas b1)),(3,(Aas b2)),(4,.map (some o)),(17,m),(18,No (a0.length:Int)),(19,No c)]) (fun⟨aa,vsl273⟩ wr=>FL w (Ha [Ny encS o aa vsl273,.box b2 [No 0,No 0] 28,.box b1 [No 0,Aaq] 46] (mT VY 137 2 aa vsl273)) wr fun Oz=>(aa).length=(vsl273).length/\(Hy c) aa=some a4) ?_ ?_
   ·refine A2<|Bs 1 rfl<|AB h fun au h=>Be rfl rfl Adc Hv ah c.toNat (Hc au) (Ba au) rfl ?_;rintro c5 _ ⟨e276v0,rfl,e276h0⟩ bj;refine Ah (Bu rfl Abj rfl bj (hH.trans ab.arg)) rfl<|A4 2 rfl<|Bs 1 rfl<|Aq h fun b bk h=>Bf rfl rfl ab (QK _ _ (Al hH ab) (hU.mono (Ae hH)) (e276h0.mono (Ae hH)) bk) ?_;rintro _ c6 ⟨ap,rfl,az⟩ bl bm cl;have u:=az.C8 hH ab bl;refine As 3 rfl<|A3 AI rfl rfl bm fun c7 af bn a5 _=>As 1 rfl<|Ad 0 rfl AI bn rfl (AT rfl) fun c8 ac a6=>Ac<|A9<|Ai<|Ah (A5 0 rfl AcP rfl AI ac rfl) rfl<|Ah (AN rfl (fun _=>BL _)) rfl<|Ah (JJ rfl rfl ID (Ld _ _ _ _)) rfl<|Ac<|Cf rfl h (fun bo h=>?_) (fun bo h=>?_)
    ·refine Ai<|Ah (AN rfl (fun _=>S8 _)) rfl<|Ah (Af rfl AcP rfl Dd) rfl<|Ah (Ag 0 rfl AaA rfl ac rfl) rfl<|As 1 rfl<|Aq h fun c9 bp h=>A8 rfl rfl ac (Ja _ _ (Al hH ac) bp) fun da cu bq cm=>Ad 3 rfl KN bq rfl (AT rfl) fun db br cn=>Ad 2 rfl AI br rfl (AT rfl) fun dc aj co=>Ac<|Ax<|Ay<|Az<|BH<|Cv ?_;have h:=CV.out h ai;refine Az<|BH ?_
     cases h
     refine B0 rfl (.cell rfl AcY rfl KN (AG (i:=3) aj rfl)) (.cell rfl AcP rfl AI (AG (i:=2) aj rfl)) ⟨aj.ext,_,rfl,(AA.nil _ _)⟩
    refine Au<|Ar<|Bs 1 rfl ?_;have u:=u.mono (Aa hH (a5.trans a6));refine Ah (Bj rfl Ada u) rfl<|A4 1 rfl<|A2 ?_;obtain⟨ar,h⟩:=AY h;refine B8 (σ:=Adt×Int×(List Value)×Nat) (fun⟨d,a,vsl310,n⟩=>[(0,m),(2,(Aas b1)),(3,(Aas b2)),(4,.map (some o)),(5,No c),(17,m),(18,No (a0.length:Int)),(19,No c),(37,ap),(38,No (b.1.length:Int)),(39,No a)]) (fun⟨d,a,vsl310,n⟩ wr=>FL w (Ha [.box af [No b.2.1,No b.2.2] 28,Ny encS o d vsl310,.box b2 [No 0,No 0] 28,.box b1 [No 0,Aaq] 46] (mT VY 137 2 d vsl310)) wr fun Oz=>AA (.pair .st Ad4) (gz H w wr Oz) ap (b.1)/\(d).length=(vsl310).length/\GR (EN c b) n (d,a)=some a4) (fun⟨d,a,vsl310,n⟩=>n) (p,0,vsl209,ar) (Sub.of rfl) ⟨ac,u,ao,h⟩ ?_;rintro⟨d,a,vsl310,nn312⟩ cv ⟨ak,x,ag,h⟩;obtain⟨ar,dd,rfl,h,av⟩:=AX h;refine AD 1 rfl<|A9<|AO rfl h (fun bs h=>?_) (fun bs h=>?_)
    ·refine Au<|Ar<|A9<|A2<|Bs 1 rfl<|AB h fun aw h=>Be rfl rfl Ada Lb x a.toNat (Hc aw) (Ba aw) rfl ?_;rintro de _ ⟨_,_,rfl,rfl,⟨_,_,rfl,rfl,rfl⟩⟩ bt;refine Ah (C7 rfl AcZ rfl Lb bt (Al hH ak)) rfl<|A3 Lb rfl rfl ak fun df al bu a7 _=>As 1 rfl<|Ad 0 rfl Lb bu rfl (AT rfl) fun dg ax a8=>Ac ?_
     refine Jw (Ik (Qm (NQ (Ik (Ik (M4 (NQ (Ik (M4 L6))))))))) (fun z0 z=>Le (gz H w z0 (Ha [.box al [.string ⟨((b.1.getD a.toNat default).1).toArray⟩,No ((b.1.getD a.toNat default).2.1),No ((b.1.getD a.toNat default).2.2)] 135,.box af [No b.2.1,No b.2.2] 28,Ny encS o d vsl310,.box b2 [No 0,No 0] 28,.box b1 [No 0,Aaq] 46] (mT VY 137 2 d vsl310))) (hp z)/\z.heap[al]? = some (.cells [.string ⟨((b.1.getD a.toNat default).1).toArray⟩,No ((b.1.getD a.toNat default).2.1),No ((b.1.getD a.toNat default).2.2)].toArray 135 (0,0))/\z.heap[af]? = some (.cells [No b.2.1,No b.2.2].toArray 28 (0,0))/\z.heap[b2]? = some (.cells [No 0,No 0].toArray 28 (0,0))/\z.heap[b1]? = some (.cells [No 0,Aaq].toArray 46 (0,0))/\z.heap[o]? = some (.map (mE encS 0 ((d).map Prod.fst) vsl310).toArray (d).length)) mixed rfl (fun f di ay=>?_);have j:=ax.call ay;have a9:=AP ax ay;have g:=j.rG H;refine LI ⟨g.trans (Al hH j),j.at (i:=0) rfl,j.at (i:=1) rfl,j.at (i:=3) rfl,j.at (i:=4) rfl,j.at (i:=2) rfl⟩ fun kI323=>?_
     refine A1 0 f kI323 (by kernel_rfl) rfl (fun _ _=>Aj rfl) rfl<|A1 1 f kI323 (by kernel_rfl) rfl (fun _ _=>Af rfl AcZ rfl Kq) rfl<|A1 2 f kI323 (by kernel_rfl) rfl (fun _ hI=>M6 rfl AaQ rfl hI.2.1 rfl) rfl<|A1 3 f kI323 (by kernel_rfl) rfl (fun _ _=>Aj rfl) rfl<|A1 4 f kI323 (by kernel_rfl) rfl (fun _ _=>Af rfl AcZ rfl Kq) rfl<|A1 5 f kI323 (by kernel_rfl) rfl (fun _ hI=>M6 rfl AaQ rfl hI.2.1 rfl) rfl<|A1 6 f kI323 (by kernel_rfl) rfl (fun _ hI=>Zv (k:=(b.1.getD a.toNat default).1) (enc:=encS) rfl rfl AcI AaZ zeroValue109 hI.2.2.2.2.2 (by rw [List.length_map];exact ag)) rfl<|A1 7 f kI323 (by kernel_rfl) rfl (fun _ _=>Aj rfl) rfl<|A1 8 f kI323 (by kernel_rfl) rfl (fun _ _=>Aj rfl) rfl<|A1 9 f kI323 (by kernel_rfl) rfl (fun _ _=>AN rfl (fun _=>U1 _ _ _)) rfl<|Er (i:=10) (by kernel_rfl) rfl<|Br (r:=Ad4) (l:=[(c,a)]) rfl (fun _=>X4 _ _ _) rfl (B2 1) hH j (.c2 ⟨_,_,rfl,rfl,rfl⟩ .nil) ?_;intro dj dk cw q ba bv;have g:=g.trans (Aa hH ba)
     refine AL ⟨g.trans (Al hH q),q.at (i:=0) rfl,q.at (i:=1) rfl,q.at (i:=3) rfl,q.at (i:=4) rfl,q.at (i:=2) rfl⟩ fun kI325=>Er (i:=11) (by kernel_rfl) rfl<|AB h fun bw h=>Xs (A:=[.box al [.string ⟨((b.1.getD a.toNat default).1).toArray⟩,No ((b.1.getD a.toNat default).2.1),No ((b.1.getD a.toNat default).2.2)] 135,.box af [No b.2.1,No b.2.2] 28,Ny encS o d vsl310,.box b2 [No 0,No 0] 28,.box b1 [No 0,Aaq] 46]) (l:=d) (vs:=vsl310) (k:=(b.1.getD a.toNat default).1) (z:=(c,a)) (r:=Ad4) (H:=H) Xt rfl rfl rfl AcS Kb rfl (by decide) rfl hH q ag bv bw ?_;intro dl dm T327 bb s bc;have g:=g.trans (Aa hH bc);refine AL ⟨g.trans (Al hH s),s.at (i:=0) rfl,s.at (i:=1) rfl,s.at (i:=3) rfl,s.at (i:=4) rfl,s.at (i:=2) rfl⟩ fun kI329=>Er (i:=12) (by kernel_rfl) rfl ?_
     refine AaV (A:=[.box al [.string ⟨((b.1.getD a.toNat default).1).toArray⟩,No ((b.1.getD a.toNat default).2.1),No ((b.1.getD a.toNat default).2.2)] 135,.box af [No b.2.1,No b.2.2] 28,Ny encS o d vsl310,.box b2 [No 0,No 0] 28,.box b1 [No 0,Aaq] 46]) (T:=T327) 2 bb rfl rfl rfl AcI AaZ s rfl fun bx dn bz b0 bd=>F9 (by kernel_rfl)<|D6 (by kernel_rfl)<|AJ<|Ar<|Av<|AB h fun b3 h=>Ah (AK rfl b3) rfl<|As 1 rfl<|AQ ?_;have b4:=b0.AV (i:=0) rfl;have h:=CV.again h av;have x:=x.mono (Aa hH (a7.trans (a8.trans a9)));have g:=g.trans (Aa hH (bd.trans (An (i:=0) rfl)));refine AW ((DY ((b.1.getD a.toNat default).1) ((Ct [] ((b.1.getD a.toNat default).1) d)++[(c,a)]) d),(a+1),bx,ar) (Sub.of rfl) ⟨b4,(x.mono g),bz,h⟩ (Nat.lt_succ_self _)
    refine B5<|AE<|A7 ?_;have h:=CV.out h av;refine Bk<|AJ ?_;have b5:=ak.AV (i:=0) rfl;refine A6 (d,vsl310) (Sub.of rfl) ⟨b5,ag,h⟩
   rintro⟨aa,vsl273⟩ cx ⟨b6,be,h⟩;refine Av<|AB h fun b7 h=>Ah (AK rfl b7) rfl<|As 1 rfl<|AQ ?_;have h:=CV.again h ai;refine AW (aa,(c+1),vsl273,aq) (Sub.of rfl) ⟨b6,be,h⟩ (Nat.lt_succ_self _)
  refine B5<|AE<|A7 ?_;have h:=CV.out h ai;refine Bk<|A6 (p,vsl209) (Sub.of rfl) ⟨ab,ao,h⟩
 rintro⟨t,vsl142⟩ cy ⟨b8,bf,h⟩;refine Bs 1 rfl<|Ah (Bj rfl Adc ah) rfl<|As 1 rfl ?_;obtain⟨am,cp,b9⟩:=Vr (A:=[Ny encS o t vsl142,.box b2 [No 0,No 0] 28,.box b1 [No 0,Aaq] 46]) (l:=t) (vs:=vsl142) (e:=137) (r:=Ad4) 0 rfl Xt hH bf b8 rfl;refine Aq h fun dp ca h=>Bf rfl rfl am (QL _ _ (Al hH am) b9 ca) ?_;rintro _ dq ⟨cq,rfl,a1⟩ cb cc cr;have y:=a1.mono (Ds hH am cb);refine As 2 rfl<|Ad 1 rfl KN cc rfl (Bb rfl (Bb y.one I8)) fun dr cd bg=>Ad 0 rfl AI cd rfl (AT rfl) fun ds an bh=>Ac<|Ax ?_
 cases h
 refine B0 rfl (.cell rfl AcY rfl KN (AG (i:=1) an rfl)) (.cell rfl AcP rfl AI (AG (i:=0) an rfl)) ?_;have y:=y.mono (Aa hH (bg.trans bh));exact⟨an.ext,_,rfl,(y.mono (Dg hH))⟩
end Go.Proofs.YtekmbcbgknmhiaaGreatDoor
end
noncomputable section
namespace Go.L
open Go Go.Proofs.YtekmbcbgknmhiaaGreatDoor
abbrev NL:=Int×Int
abbrev HM:=List (List UInt8×List NL)
section
variable {κ β:Type} [DecidableEq κ]
theorem QN(d:β)(k k':κ)(y:β):∀ M:List (κ×β),Ct d k' (DY k y M)=if k'=k then y else Ct d k' M
 | []=>by
  unfold DY Ct
  by_cases h:k'=k
  ·rw [if_pos h,if_pos h]
  ·rw [if_neg h,if_neg h];rfl
 | (a,z)::l=>by
  unfold DY
  by_cases h:k=a
  ·rw [if_pos h];subst h
   by_cases b:k'=k
   ·simp only [Ct];rw [if_pos b,if_pos b]
   ·simp only [Ct];rw [if_neg b,if_neg b,if_neg b]
  ·rw [if_neg h];simp only [Ct];rw [QN d k k' y l]
   by_cases b:k'=a
   ·rw [if_pos b,if_pos b,if_neg (fun e=>h (e.symm.trans b))]
   ·rw [if_neg b,if_neg b]
theorem OP(k:κ)(y:β):∀ M:List (κ×β),(DY k y M).map Prod.fst=if k∈M.map Prod.fst then M.map Prod.fst else M.map Prod.fst++[k]
 | []=>by simp [DY]
 | (a,z)::l=>by
  unfold DY
  by_cases h:k=a
  ·rw [if_pos h];simp [h]
  ·rw [if_neg h,List.map_cons,OP k y l,List.map_cons]
   by_cases b:k∈l.map Prod.fst
   ·rw [if_pos b,if_pos (List.mem_cons_of_mem _ b)]
   ·rw [if_neg b,if_neg (by simp only [List.mem_cons,not_or];exact⟨h,b⟩)]
    rfl
end
def JW(M:HM)(p:List UInt8×NL):HM:=DY p.1 (Ct [] p.1 M++[p.2]) M
def MD(P:List (List UInt8×NL))(w:List UInt8):List NL:=(P.filter fun p=>p.1=w).map Prod.snd
theorem add_get(w:List UInt8):∀ (P:List (List UInt8×NL)) (M:HM),Ct [] w (P.foldl JW M)=Ct [] w M++MD P w
 | [],M=>by simp [MD]
 | p::P,M=>by
  rw [List.foldl_cons,add_get w P];unfold JW;rw [QN];unfold MD
  by_cases h:w=p.1
  ·subst h;simp
  ·rw [if_neg h];rw [List.filter_cons_of_neg (by simpa using fun e=>h e.symm)]
theorem QO:∀ (P:List (List UInt8×NL)) (M:HM) (k:List UInt8),k∈(P.foldl JW M).map Prod.fst↔k∈M.map Prod.fst\/k∈P.map Prod.fst
 | [],M,k=>by simp
 | p::P,M,k=>by
  rw [List.foldl_cons,QO P];unfold JW;rw [OP]
  by_cases h:p.1∈M.map Prod.fst
  ·rw [if_pos h,List.map_cons,List.mem_cons]
   constructor
   ·rintro(a | a)
    ·exact .inl a
    ·exact .inr (.inr a)
   ·rintro(a | a | a)
    ·exact .inl a
    ·exact .inl (a ▸ h)
    ·exact .inr a
  ·rw [if_neg h,List.map_cons,List.mem_cons,List.mem_append,List.mem_singleton]
   constructor
   ·rintro((a | a) | a)
    ·exact .inl a
    ·exact .inr (.inl a)
    ·exact .inr (.inr a)
   ·rintro(a | a | a)
    ·exact .inl (.inl a)
    ·exact .inl (.inr a)
    ·exact .inr a
theorem RV:∀ (P:List (List UInt8×NL)) (M:HM),(M.map Prod.fst).Nodup->((P.foldl JW M).map Prod.fst).Nodup
 | [],_,h=>h
 | p::P,M,h=>by
  rw [List.foldl_cons];refine RV P _ ?_;unfold JW;rw [OP]
  by_cases c:p.1∈M.map Prod.fst
  ·rw [if_pos c];exact h
  ·rw [if_neg c];refine List.nodup_append.2 ⟨h,by simp,fun a ha b hb e=>?_⟩;rw [List.mem_singleton] at hb;exact c (hb ▸ e ▸ ha)
theorem NC(P:List (List UInt8×NL))(w:List UInt8):(MD P w).length<=P.length:=by
 unfold MD;rw [List.length_map];exact List.length_filter_le _ _
def FB(i:Int)(l:List W):List (List UInt8×NL):=(l.zipIdx).map fun x=>(x.1.1,(i,((x.2:Nat):Int)))
theorem JS(i:Int)(l:List W):(FB i l).length=l.length:=by unfold FB;rw [List.length_map,List.length_zipIdx]
theorem Pr(i:Int)(l:List W)(k:Nat)(hk:k<l.length):(FB i l)[k]? = some ((l.getD k default).1,(i,(k:Int))):=by
 unfold FB;rw [List.getElem?_map,List.getElem?_zipIdx,List.getElem?_eq_getElem hk,List.getD_eq_getElem?_getD,List.getElem?_eq_getElem hk];simp
theorem SK(i:Int)(l:List W)(k:Nat)(hk:k<l.length)(M:HM):((FB i l).take (k+1)).foldl JW M=JW (((FB i l).take k).foldl JW M) ((l.getD k default).1,(i,(k:Int))):=by
 rw [List.take_add_one,Pr i l k hk,List.foldl_append]
 rfl
def GV:Nat->List (List UInt8)->List (List UInt8×NL)
 | _,[]=>[]
 | i,t::r=>FB (i:Int) (XR t)++GV (i+1) r
theorem RW:∀ (i:Nat) (r:List (List UInt8)),(∀ t∈r,t.length<=2048)->(GV i r).length<=r.length * 2049
 | _,[],_=>by simp [GV]
 | i,t::r,h=>by
  unfold GV;rw [List.length_append,JS,List.length_cons];have a:=SI t;have h2:=RW (i+1) r (fun x hx=>h x (List.mem_cons_of_mem _ hx));have h3:=h t (List.mem_cons_self ..);omega
end Go.L
namespace Go.L
def Kl:Nat->List (List UInt8)->Option Nat
 | _,[]=>none
 | i,t::r=>if 2048<t.length then some i else Kl (i+1) r
end Go.L
namespace Go.Proofs.YtekmbcbgknmhiaaGreatDoor
open Go Go.L
theorem XU(i:Nat)(l:List W)(M:HM)(hl:l.length<=3000)(hi:i<=100)(hM:∀ w,(Ct [] w M).length<=1000000):
  Hz (i:Int) (l,(0,0)) (M,0)=some (.inl ((FB (i:Int) l).foldl JW M,((i+1:Nat):Int))):=by
 unfold Hz
 have key:=Gw (b:=EN (i:Int) (l,(0,0))) (m:=some (.inl ((FB (i:Int) l).foldl JW M,((i+1:Nat):Int)))) (fun k=>(((FB (i:Int) l).take k).foldl JW M,((k:Nat):Int))) l.length (fun k hk=>by
  unfold EN;simp only
  have a:(Ct [] (l.getD k default).1 (((FB (i:Int) l).take k).foldl JW M)).length<=1003000:=by
   rw [add_get,List.length_append];have h2:=NC ((FB (i:Int) l).take k) (l.getD k default).1;rw [List.length_take,JS] at h2;have h3:=hM (l.getD k default).1;omega
  rw [if_pos (by omega),Ak ⟨by omega,by omega⟩,Int.toNat_natCast,Ak (by constructor <;> omega),Ak (by constructor <;> omega),SK (i:Int) l k hk M]
  rfl) (by
  unfold EN Hy;simp only;rw [if_neg (by omega),Ak (by constructor <;> omega),List.take_of_length_le (by rw [JS];exact Nat.le_refl _)]
  congr 3) 0 (by omega)
 exact key
theorem RX(items:List (List UInt8))(hn:items.length<=64):∀ (r:List (List UInt8)) (i:Nat) (M:HM),items.drop i=r->i<=items.length->(∀ w,(Ct [] w M).length<=i * 3000)->
  run (Dn items) (M,(i:Int))=match Kl i r with | some j=>some ((0,[]),(3,(j:Int))) | none=>F2 items ((GV i r).foldl JW M)
 | [],i,M,hd,hi,hM=>by
  have hlen:=congrArg List.length hd;rw [List.length_drop,List.length_nil] at hlen;unfold Kl GV;refine BD ?_;unfold Dn;simp only;rw [if_neg (by omega)]
  rfl
 | t::r,i,M,hd,hi,hM=>by
  have hlen:=congrArg List.length hd;rw [List.length_drop,List.length_cons] at hlen
  have hg:items.getD i default=t:=by
   have:=congrArg (·[0]?) hd;simp only [List.getElem?_drop,List.getElem?_cons_zero,Nat.add_zero] at this;rw [List.getD_eq_getElem?_getD,this]
   rfl
  have hd':items.drop (i+1)=r:=by rw [<- List.drop_drop,hd];rfl
  unfold Kl
  by_cases h:2048<t.length
  ·rw [if_pos h];refine BD ?_;unfold Dn;simp only;rw [if_pos (by omega),Ak ⟨by omega,by omega⟩,Int.toNat_natCast,hg,UF h,Option.bind_some,if_neg (by simp)]
   rfl
  ·rw [if_neg h];have hw:=SI t
   have hb:Dn items (M,(i:Int))=some (.inl ((FB (i:Int) (XR t)).foldl JW M,((i+1:Nat):Int))):=by
    unfold Dn;simp only;rw [if_pos (by omega),Ak ⟨by omega,by omega⟩,Int.toNat_natCast,hg,XS (by omega),Option.bind_some,if_pos ⟨rfl,rfl⟩];exact XU i (XR t) M (by omega) (by omega) (fun w=>by have:=hM w;omega)
   rw [Cu hb,RX items hn r (i+1) _ hd' (by omega) (fun w=>by
    rw [add_get,List.length_append];have a:=NC (FB (i:Int) (XR t)) w;rw [JS] at a;have h2:=hM w;omega)]
   have e:(GV i (t::r)).foldl JW M=(GV (i+1) r).foldl JW ((FB (i:Int) (XR t)).foldl JW M):=by
    rw [GV,List.foldl_append]
   rw [e]
theorem Wu(items:List (List UInt8)):GC items=if 64<items.length then some ((0,[]),(2,-1)) else match Kl 0 items with | some j=>some ((0,[]),(3,(j:Int))) | none=>F2 items ((GV 0 items).foldl JW []):=by
 unfold GC
 by_cases h:64<items.length
 ·rw [if_pos (by omega),if_pos h]
  rfl
 ·rw [if_neg (by omega),if_neg h];exact RX items (by omega) items 0 [] rfl (by omega) (fun w=>by simp [Ct])
end Go.Proofs.YtekmbcbgknmhiaaGreatDoor
end
noncomputable section
namespace Go.L
open Go Go.Proofs.YtekmbcbgknmhiaaGreatDoor
theorem QP{cur:List UInt8}{fr at' n:Nat}(h:cur.length<=n):∀ w∈fin cur fr at',w.1.length<=n:=by
 intro w hw;unfold fin at hw
 split at hw
 ·cases hw
 ·rw [List.mem_singleton.1 hw];exact h
theorem QQ{a:List UInt8}:∀ (f at':Nat) (cur:List UInt8) (fr:Nat),at'<=a.length->cur.length<=at'->∀ w∈Tb a f at' cur fr,w.1.length<=a.length
 | 0,at',cur,fr,h,hc=>QP (by omega)
 | f+1,at',cur,fr,h,hc=>by
  intro w hw;unfold Tb at hw
  split at hw
  ·rename_i b
   split at hw
   ·rcases List.mem_append.1 hw with hw | hw
    ·exact QP (by omega) w hw
    ·exact QQ f (at'+1) [] (at'+1) (by omega) (by simp) w hw
   ·exact QQ f _ _ fr (Og b) (by rw [List.length_append,VB b];omega) w hw
  ·exact QP (by omega) w hw
theorem TN(a:List UInt8):∀ w∈XR a,w.1.length<=a.length:=QQ _ 0 [] 0 (Nat.zero_le _) (Nat.le_refl _)
theorem QR:∀ (i:Nat) (r:List (List UInt8)),(∀ t∈r,t.length<=2048)->∀ k∈(GV i r).map Prod.fst,k.length<=2048
 | _,[],_,k,hk=>by cases hk
 | i,t::r,h,k,hk=>by
  unfold GV at hk;rw [List.map_append] at hk
  rcases List.mem_append.1 hk with hk | hk
  ·obtain⟨x,hx,rfl⟩:=List.mem_map.1 hk;unfold FB at hx;obtain⟨y,hy,rfl⟩:=List.mem_map.1 hx
   have a:y.1∈XR t:=by
    have:=List.mem_zipIdx' hy;rw [this.2];exact List.getElem_mem _
   exact Nat.le_trans (TN t y.1 a) (h t (List.mem_cons_self ..))
  ·exact QR (i+1) r (fun x hx=>h x (List.mem_cons_of_mem _ hx)) k hk
def Oi(M:HM):HM:=((M.map Prod.fst).mergeSort leB).map fun k=>(k,Ct [] k M)
theorem TO(M:HM):(Oi M).length=M.length:=by unfold Oi;rw [List.length_map,List.length_mergeSort,List.length_map]
end Go.L
namespace Go.Proofs.YtekmbcbgknmhiaaGreatDoor
open Go Go.L
theorem UG(n:Int)(M:HM)(hf:Oh M)(hm:M.length<=1000000):IE n M=F1 n (Oi M):=by
 unfold IE J2;rw [Ak hf,Option.bind_some];unfold Jc;have hl:((M.map Prod.fst).mergeSort leB).length=M.length:=by rw [List.length_mergeSort,List.length_map]
 have key:=Gw (b:=EM n M ((M.map Prod.fst).mergeSort leB)) (m:=F1 n (Oi M)) (fun k=>((Oi M).take k,((k:Nat):Int))) M.length (fun k hk=>by
  unfold EM;simp only
  have a:(Oi M).take (k+1)=(Oi M).take k++[(((M.map Prod.fst).mergeSort leB).getD k default,Ct [] (((M.map Prod.fst).mergeSort leB).getD k default) M)]:=by
   rw [List.take_add_one]
   congr 1
   unfold Oi;rw [List.getElem?_map,List.getD_eq_getElem?_getD,List.getElem?_eq_getElem (by omega)]
   rfl
  have h2:((Oi M).take k).length<=1000000:=by rw [List.length_take];omega
  rw [if_pos (by omega),Ak ⟨by omega,by omega⟩,Int.toNat_natCast,Ak (by rw [List.length_singleton];constructor <;> omega),Ak (by constructor <;> omega),a]
  rfl) (by
  unfold EM;simp only;rw [if_neg (by omega),List.take_of_length_le (by rw [TO];exact Nat.le_refl _)]) 0 (by omega)
 exact key
end Go.Proofs.YtekmbcbgknmhiaaGreatDoor
namespace Go.L
open Go
def ME(n:Nat):Nat:=if n=0 then 0 else n.log2+1
theorem SL{n k:Nat}(h:n<2 ^ k):ME n<=k:=by
 unfold ME
 split
 ·omega
 ·rename_i a;have:=(Nat.log2_lt a).2 h;omega
theorem TP{n k:Nat}(h:2 ^ k<=n):ME n=ME (n / 2 ^ k)+k:=by
 have hp:0<2 ^ k:=Nat.two_pow_pos k;have hn:n≠0:=by omega
 have hm:n / 2 ^ k≠0:=by
  have:=Nat.div_pos h hp;omega
 unfold ME;rw [if_neg hn,if_neg hm]
 have a:n.log2<=(n / 2 ^ k).log2+k:=by
  have h2:n / 2 ^ k<2 ^ ((n / 2 ^ k).log2+1):=Nat.lt_log2_self
  have h3:n<2 ^ ((n / 2 ^ k).log2+1+k):=by
   rw [Nat.pow_add];exact(Nat.div_lt_iff_lt_mul hp).1 h2
  have:=(Nat.log2_lt hn).2 h3;omega
 have h2:(n / 2 ^ k).log2+k<=n.log2:=by
  rw [Nat.le_log2 hn,Nat.pow_add];exact Nat.le_trans (Nat.mul_le_mul_right _ (Nat.log2_self_le hm)) (Nat.div_mul_le_self n (2 ^ k))
 omega
end Go.L
namespace Go.Proofs.YtekmbcbgknmhiaaGreatDoor
open Go Go.L
theorem Acw:∀ i:Fin 256,CE ((i.val:Nat):Int) 0=some ((ME i.val:Nat):Int):=by decide +kernel
theorem XV{s:Nat}(hs:s<256){c:Int}(b:0<=c)(d:c<=100):CE (s:Int) c=some (c+((ME s:Nat):Int)):=by
 have h:=Acw ⟨s,hs⟩;have hb:ME s<=8:=SL (by omega);simp only at h;unfold CE at h ⊢;obtain⟨a,h⟩:=Fw h;obtain⟨_,h⟩:=Fw h;have hT:=Option.some.inj h;rw [Int.zero_add] at hT;rw [Ak a,hT,Ak (by constructor <;> omega)]
theorem XW{n:Nat}(hn:n<16777216):FN (n:Int)=some ((ME n:Nat):Int):=by
 unfold FN Ef Ee;rw [if_neg (by omega)]
 by_cases a:65536<=n
 ·have e:(n:Int) / 65536=((n / 65536:Nat):Int):=by omega
  rw [if_pos (by omega),Ak (by constructor <;> omega),e,if_neg (by omega),XV (by omega) (by omega) (by omega),TP (n:=n) (k:=16) (by omega)]
  congr 1
  show 16+((ME (n / 65536):Nat):Int)=((ME (n / 65536)+16:Nat):Int)
  omega
 ·rw [if_neg (by omega)]
  by_cases h2:256<=n
  ·have e:(n:Int) / 256=((n / 256:Nat):Int):=by omega
   rw [if_pos (by omega),Ak (by constructor <;> omega),e,XV (by omega) (by omega) (by omega),TP (n:=n) (k:=8) (by omega)]
   congr 1
   show 8+((ME (n / 256):Nat):Int)=((ME (n / 256)+8:Nat):Int)
   omega
  ·rw [if_neg (by omega),XV (by omega) (by omega) (by omega),Int.zero_add]
def YR(n:Nat):Nat:=if n=0 then 0 else 2 * ME n - 1
theorem XX{n:Nat}(hn:n<16777216):E5 (n:Int)=some ((YR n:Nat):Int):=by
 unfold E5 YR Iq
 by_cases h:n=0
 ·rw [if_pos (by omega),if_pos h];rfl
 ·have hb:ME n<=24:=SL (by omega);have hp:1<=ME n:=by unfold ME;rw [if_neg h];omega
  have hw:IntKind.u64.wrap (n:Int)=(n:Int):=by simp [IntKind.wrap,IntKind.signed,IntKind.bits];omega
  rw [if_neg (by omega),if_neg h,hw,XW hn,Option.bind_some,Option.bind_some,Ak (by constructor <;> omega),Ak (by constructor <;> omega)]
  congr 1
  omega
theorem Abl{n k:Nat}(h:n<2 ^ k)(_hk:1<=k):YR n<=2 * k - 1:=by
 unfold YR;have:=SL h
 split <;> omega
end Go.Proofs.YtekmbcbgknmhiaaGreatDoor
end
noncomputable section
namespace Go.L
open Go Go.Proofs.YtekmbcbgknmhiaaGreatDoor
section
variable {σ ρ α:Type}
theorem J3{b:σ->Option (σ ⊕ ρ)}{s:σ}{m:Option α}{k:α->Option (σ ⊕ ρ)}{R:α->Option ρ}(h:b s=m.bind k)(hs:∀ x,b s=k x->run b s=R x):run b s=m.bind R:=by
 cases m with
 | none=>exact BD (m:=none) h
 | some x=>exact hs x h
theorem YS{β:Type}{m:Option α}{f g:α->Option β}(h:∀ x,f x=g x):m.bind f=m.bind g:=congrArg _ (funext h)
def fm(f:Int->σ->Option σ):List Int->σ->Option σ
 | [],c=>some c
 | n::r,c=>(f n c).bind (fm f r)
theorem UH(f:Int->σ->Option σ):∀ (l r:List Int) (c:σ),fm f (l++r) c=(fm f l c).bind (fm f r)
 | [],_,_=>rfl
 | n::l,r,c=>by
  show(f n c).bind (fm f (l++r))=((f n c).bind (fm f l)).bind (fm f r)
  rw [Option.bind_assoc];refine YS fun x=>UH f l r x
end
def Lo:NL->List NL->List Int
 | _,[]=>[]
 | p,h::r=>(if h.1=p.1 then[1,h.2 - p.2] else[1+h.1 - p.1,h.2+1])++Lo h r
def Ps(b:UInt8):Int:=(b.toNat:Int)+1
def SM(e:List UInt8×List NL):List Int:=(e.1.length:Int)::(e.1.map Ps++((e.2.length:Int)::Lo (0,-1) e.2))
def Oj(x:Int×HM):List Int:=(x.1+1)::((x.2.length:Int)+1)::x.2.flatMap SM
def HB(h:NL):Prop:=0<=h.1/\h.1<=1000000000/\-1<=h.2/\h.2<=1000000000
def EB(e:List UInt8×List NL):Prop:=e.1.length<=1000000000/\e.2.length<=1000000000/\∀ h∈e.2,HB h
end Go.L
namespace Go.Proofs.YtekmbcbgknmhiaaGreatDoor
open Go Go.L
theorem XY{a:Int×HM}{i:Nat}(hi:i<1000000000){H:List NL}(hH:H.length<=1000000000)(he:(a.2.getD i default).2=H):∀ (r:List NL) (j:Nat) (p:NL) (c:Int),H.drop j=r->j<=H.length->HB p->(∀ h∈r,HB h)->
  run (B7 a (i:Int)) (p.1,p.2,c,(j:Int))=(fm AM (Lo p r) c).bind fun c=>some (.inl (c,((i+1:Nat):Int)))
 | [],j,p,c,hd,hj,hp,hr=>by
  have hlen:=congrArg List.length hd;rw [List.length_drop,List.length_nil] at hlen
  show _=some (Sum.inl (c,((i+1:Nat):Int)))
  refine BD ?_;unfold B7 DG;simp only;rw [Int.toNat_natCast,he,if_neg (by omega),Ak (by constructor <;> omega)]
  congr 3
 | h::r,j,p,c,hd,hj,hp,hr=>by
  have hlen:=congrArg List.length hd;rw [List.length_drop,List.length_cons] at hlen
  have hg:H.getD j default=h:=by
   have:=congrArg (·[0]?) hd;simp only [List.getElem?_drop,List.getElem?_cons_zero,Nat.add_zero] at this;rw [List.getD_eq_getElem?_getD,this]
   rfl
  have hd':H.drop (j+1)=r:=by rw [<- List.drop_drop,hd];rfl
  obtain⟨b,h2,h3,d⟩:=hr h (List.mem_cons_self ..);obtain⟨e,f,g,k⟩:=hp;have ej:((j:Nat):Int)+1=((j+1:Nat):Int):=by omega
  have ih:=fun c=>XY hi hH he r (j+1) h c hd' (by omega) ⟨b,h2,h3,d⟩ (fun x hx=>hr x (List.mem_cons_of_mem _ hx));unfold Lo;rw [UH,Option.bind_assoc]
  by_cases hs:h.1=p.1
  ·rw [if_pos hs]
   show _=Option.bind (Option.bind (AM 1 c) (fun x=>Option.bind (AM (h.2 - p.2) x) some)) _
   rw [Option.bind_assoc]
   have hb:B7 a (i:Int) (p.1,p.2,c,(j:Int))=Option.bind (AM 1 c) (fun x=>Option.bind (AM (h.2 - p.2) x) (fun y=>some (.inl (h.1,h.2,y,((j+1:Nat):Int))))):=by
    unfold B7;simp only;rw [Int.toNat_natCast,he,if_pos (by omega),Ak ⟨by omega,by omega⟩,Int.toNat_natCast,hg,if_pos hs,ej];refine YS fun x=>?_;rw [Ak (by constructor <;> omega)];refine YS fun y=>?_;rw [Ak (by constructor <;> omega)]
   refine J3 hb fun x hx=>?_;rw [Option.bind_assoc];refine J3 hx fun y hy=>?_;rw [Cu hy];exact ih y
  ·rw [if_neg hs]
   show _=Option.bind (Option.bind (AM (1+h.1 - p.1) c) (fun x=>Option.bind (AM (h.2+1) x) some)) _
   rw [Option.bind_assoc]
   have hb:B7 a (i:Int) (p.1,p.2,c,(j:Int))=Option.bind (AM (1+h.1 - p.1) c) (fun x=>Option.bind (AM (h.2+1) x) (fun y=>some (.inl (h.1,h.2,y,((j+1:Nat):Int))))):=by
    unfold B7;simp only;rw [Int.toNat_natCast,he,if_pos (by omega),Ak ⟨by omega,by omega⟩,Int.toNat_natCast,hg,if_neg hs,Ak (by constructor <;> omega),Ak (by constructor <;> omega),ej];refine YS fun x=>?_;rw [Ak (by constructor <;> omega)];refine YS fun y=>?_;rw [Ak (by constructor <;> omega)]
   refine J3 hb fun x hx=>?_;rw [Option.bind_assoc];refine J3 hx fun y hy=>?_;rw [Cu hy];exact ih y
theorem XZ{a:Int×HM}{i:Nat}(hi:i<1000000000){w:List UInt8}{H:List NL}(hw:w.length<=1000000000)(hH:H.length<=1000000000)(he:a.2.getD i default=(w,H))(hb:∀ h∈H,HB h):∀ (r:List UInt8) (j:Nat) (c:Int),w.drop j=r->j<=w.length->
  run (BP a (i:Int)) (c,(j:Int))=(fm AM (r.map Ps++((H.length:Int)::Lo (0,-1) H)) c).bind fun c=>some (.inl (c,((i+1:Nat):Int)))
 | [],j,c,hd,hj=>by
  have hlen:=congrArg List.length hd;rw [List.length_drop,List.length_nil] at hlen;refine BD ?_;have d:(a.2.getD i default).1=w:=by rw [he]
  have e:(a.2.getD i default).2=H:=by rw [he]
  unfold BP DH Fe;simp only;rw [Int.toNat_natCast,d,e,if_neg (by omega)]
  congr 1
  show _=Option.bind (Option.bind (AM (H.length:Int) c) (fm AM (Lo (0,-1) H))) _
  rw [Option.bind_assoc];refine YS fun x=>XY hi hH e H 0 (0,-1) x rfl (Nat.zero_le _) ⟨by decide,by decide,by decide,by decide⟩ hb
 | b::r,j,c,hd,hj=>by
  have hlen:=congrArg List.length hd;rw [List.length_drop,List.length_cons] at hlen
  have hg:w.getD j default=b:=by
   have:=congrArg (·[0]?) hd;simp only [List.getElem?_drop,List.getElem?_cons_zero,Nat.add_zero] at this;rw [List.getD_eq_getElem?_getD,this]
   rfl
  have hd':w.drop (j+1)=r:=by rw [<- List.drop_drop,hd];rfl
  have ej:((j:Nat):Int)+1=((j+1:Nat):Int):=by omega
  have d:(a.2.getD i default).1=w:=by rw [he]
  have f:=b.toNat_lt
  show _=Option.bind (Option.bind (AM (Ps b) c) (fm AM (r.map Ps++((H.length:Int)::Lo (0,-1) H)))) _
  rw [Option.bind_assoc]
  have hbody:BP a (i:Int) (c,(j:Int))=Option.bind (AM (Ps b) c) (fun x=>some (.inl (x,((j+1:Nat):Int)))):=by
   unfold BP;simp only;rw [Int.toNat_natCast,d,if_pos (by omega),Ak ⟨by omega,by omega⟩,Int.toNat_natCast,hg,Ak (by constructor <;> omega),ej];refine YS fun x=>?_;rw [Ak (by constructor <;> omega)]
  refine J3 hbody fun x hx=>?_;rw [Cu hx];exact XZ hi hw hH he hb r (j+1) x hd' (by omega)
theorem Ya{a:Int×HM}(hn:a.2.length<1000000000):∀ (r:HM) (i:Nat) (c:Int),a.2.drop i=r->i<=a.2.length->(∀ e∈r,EB e)->
  run (BQ a) (c,(i:Int))=fm AM (r.flatMap SM) c
 | [],i,c,hd,hi,_=>by
  have hlen:=congrArg List.length hd;rw [List.length_drop,List.length_nil] at hlen;refine BD (m:=some c) ?_;unfold BQ;simp only;rw [if_neg (by omega)]
 | e::r,i,c,hd,hi,hE=>by
  have hlen:=congrArg List.length hd;rw [List.length_drop,List.length_cons] at hlen
  have hg:a.2.getD i default=e:=by
   have:=congrArg (·[0]?) hd;simp only [List.getElem?_drop,List.getElem?_cons_zero,Nat.add_zero] at this;rw [List.getD_eq_getElem?_getD,this]
   rfl
  have hd':a.2.drop (i+1)=r:=by rw [<- List.drop_drop,hd];rfl
  obtain⟨w,H⟩:=e;obtain⟨hw,hH,hB⟩:=hE _ (List.mem_cons_self ..);simp only at hw hH hB;rw [List.flatMap_cons,UH]
  show _=Option.bind (Option.bind (AM (w.length:Int) c) (fm AM (w.map Ps++((H.length:Int)::Lo (0,-1) H)))) _
  rw [Option.bind_assoc]
  have hbody:BQ a (c,(i:Int))=Option.bind (AM (w.length:Int) c) (fun x=>(fm AM (w.map Ps++((H.length:Int)::Lo (0,-1) H)) x).bind fun c=>some (.inl (c,((i+1:Nat):Int)))):=by
   have b:(a.2.getD i default).1=w:=by rw [hg]
   unfold BQ Ff;simp only;rw [Int.toNat_natCast,b,if_pos (by omega),Ak ⟨by omega,by omega⟩];refine YS fun x=>?_;rw [Ak (by omega)];exact XZ (by omega) hw hH hg hB w 0 x rfl (Nat.zero_le _)
  refine J3 hbody fun x hx=>J3 hx fun y hy=>?_;rw [Cu hy];exact Ya hn r (i+1) y hd' (by omega) (fun z hz=>hE z (List.mem_cons_of_mem _ hz))
theorem Abm{a:Int×HM}(b:0<=a.1/\a.1<=1000000000)(hn:a.2.length<1000000000)(hE:∀ e∈a.2,EB e)(c:Int):DR a c=fm AM (Oj a) c:=by
 unfold DR;rw [Ak (by constructor <;> omega)]
 show _=Option.bind (AM (a.1+1) c) (fun x=>Option.bind (AM ((a.2.length:Int)+1) x) (fm AM (a.2.flatMap SM)))
 refine YS fun x=>?_;rw [Ak (by constructor <;> omega)];refine YS fun y=>?_;unfold Fg;exact Ya hn a.2 0 y rfl (Nat.zero_le _) hE
end Go.Proofs.YtekmbcbgknmhiaaGreatDoor
end
noncomputable section
namespace Go.L
open Go Go.Proofs.YtekmbcbgknmhiaaGreatDoor
theorem VC:∀ x y:List UInt8,Op.bytesLess x y=decide (x<y)
 | [],[]=>by simp [Op.bytesLess]
 | _::_,[]=>by simp [Op.bytesLess]
 | [],_::_=>by simp [Op.bytesLess]
 | a::x,b::y=>by
  rw [Op.bytesLess,VC x y];simp only [List.cons_lt_cons_iff]
  by_cases c:a<b <;> by_cases h2:a=b <;> by_cases h3:x<y <;> simp [c,h2,h3]
theorem UI(l:List UInt8): ¬ l<l:=by
 rw [<- decide_eq_false_iff_not,<- VC]
 induction l with
 | nil=>rfl
 | cons a l ih=>unfold Op.bytesLess;simp [ih]
abbrev Inc(l:List (List UInt8)):Prop:=l.Pairwise (· < ·)
theorem Inc.nodup{l:List (List UInt8)}(h:Inc l):l.Nodup:=by
 refine List.Pairwise.imp ?_ h;intro a b hab e;subst e;exact UI a hab
theorem Wv(M:HM):(Oi M).map Prod.fst=(M.map Prod.fst).mergeSort leB:=by
 unfold Oi;rw [List.map_map];exact List.map_id' _
end Go.L
namespace Go.Proofs.YtekmbcbgknmhiaaGreatDoor
open Go Go.L
/- Lists that are equal. -/
end Go.Proofs.YtekmbcbgknmhiaaGreatDoor
end
noncomputable section
namespace Go.L
open Go
theorem Yb{l r:List UInt8}{k:Nat}(h:k<l.length):bt (l++r) k=bt l k:=by
 unfold bt;rw [List.getD_eq_getElem?_getD,List.getD_eq_getElem?_getD,List.getElem?_append_left h]
def Ch(x:List UInt8):Prop:=x≠[]/\x.map JV=x/\∀ r,Ks (x++r)=x.length
theorem VD:∀ c:Fin 256,asc c.val=true->asc (JV (UInt8.ofNat c.val)).toNat=true/\JV (JV (UInt8.ofNat c.val))=JV (UInt8.ofNat c.val):=by decide +kernel
theorem ZX{l r:List UInt8}(h:Ms l≠0):Ms (l.take (Ms l)++r)=Ms l:=by
 have hc:∀ k,cont l k=true->k<l.length:=fun k h=>(of_decide_eq_true h).1
 have key:∀ n,Ms l=n->1<n->n<=l.length->(∀ k,k<n->bt (l.take n++r) k=bt l k)/\(∀ k,k<n->cont (l.take n++r) k=cont l k):=by
  intro n _ _ hn;have hl:(l.take n).length=n:=by rw [List.length_take];omega
  have hb:∀ k,k<n->bt (l.take n++r) k=bt l k:=fun k hk=>by
   rw [Yb (by omega)];unfold bt;rw [List.getD_eq_getElem?_getD,List.getD_eq_getElem?_getD,List.getElem?_take_of_lt hk]
  refine⟨hb,fun k hk=>?_⟩;unfold cont;rw [hb k hk,List.length_append,hl]
  congr 1
  apply propext
  constructor <;> (rintro⟨_,h2⟩;exact⟨by omega,h2⟩)
 have h':=h;unfold Ms at h'
 split at h'
 ·rename_i hA
  split at h'
  ·rename_i a;have e:Ms l=2:=by unfold Ms;rw [if_pos hA,if_pos a]
   obtain⟨hb,hk⟩:=key 2 e (by decide) (hc 1 a);rw [e];unfold Ms;rw [hb 0 (by decide),hk 1 (by decide),if_pos hA,if_pos a]
  ·exact absurd rfl h'
 ·rename_i hA
  split at h'
  ·rename_i hB
   split at h'
   ·rename_i a;have e:Ms l=3:=by unfold Ms;rw [if_neg hA,if_pos hB,if_pos a]
    obtain⟨hb,hk⟩:=key 3 e (by decide) (hc 2 a.2.1);rw [e];unfold pt3 at a;unfold Ms pt3;rw [hb 0 (by decide),hb 1 (by decide),hb 2 (by decide),hk 1 (by decide),hk 2 (by decide),if_neg hA,if_pos hB,if_pos a]
   ·exact absurd rfl h'
  ·rename_i hB
   split at h'
   ·rename_i hC
    split at h'
    ·rename_i a;have e:Ms l=4:=by unfold Ms;rw [if_neg hA,if_neg hB,if_pos hC,if_pos a]
     obtain⟨hb,hk⟩:=key 4 e (by decide) (hc 3 a.2.2.1);rw [e];unfold pt4 at a;unfold Ms pt4;rw [hb 0 (by decide),hb 1 (by decide),hb 2 (by decide),hb 3 (by decide),hk 1 (by decide),hk 2 (by decide),hk 3 (by decide),if_neg hA,if_neg hB,if_pos hC,if_pos a]
    ·exact absurd rfl h'
   ·exact absurd rfl h'
theorem Abn{l:List UInt8}(hne:l≠[])(h:Ks l≠0):Ch ((l.take (Ks l)).map JV):=by
 have hl:=UE l hne;have hlen:((l.take (Ks l)).map JV).length=Ks l:=by rw [List.length_map,List.length_take];omega
 refine⟨fun e=>by rw [e] at hlen;exact h hlen.symm,?_,fun r=>?_⟩
 all_goals
  by_cases ha:asc (bt l 0)=true
 ·obtain⟨c,m,rfl⟩:=List.exists_cons_of_ne_nil hne;have e:Ks (c::m)=1:=by unfold Ks;rw [if_pos ha]
  have:=(VD ⟨c.toNat,c.toNat_lt⟩ ha).2;rw [e];simp only [UInt8.ofNat_toNat] at this;simp [this]
 ·have e:Ks l=Ms l:=by unfold Ks;rw [if_neg ha]
  rw [e] at h ⊢;rw [PR h,PR h]
 ·obtain⟨c,m,rfl⟩:=List.exists_cons_of_ne_nil hne;have e:Ks (c::m)=1:=by unfold Ks;rw [if_pos ha]
  have:=(VD ⟨c.toNat,c.toNat_lt⟩ ha).1;simp only [UInt8.ofNat_toNat] at this;rw [hlen,e]
  show Ks (JV c::r)=1
  unfold Ks;rw [if_pos (show asc (bt (JV c::r) 0)=true from this)]
 ·have e:Ks l=Ms l:=by unfold Ks;rw [if_neg ha]
  rw [hlen];rw [e] at h hl ⊢;rw [PR h]
  have a:bt (l.take (Ms l)++r) 0=bt l 0:=by
   rw [Yb (by rw [List.length_take];omega)];unfold bt;rw [List.getD_eq_getElem?_getD,List.getD_eq_getElem?_getD,List.getElem?_take_of_lt (by omega)]
  unfold Ks;rw [a,if_neg ha];exact ZX h
def Lw(t:List UInt8):Prop:=∃ cs:List (List UInt8),t=cs.flatten/\∀ x∈cs,Ch x
theorem Lw.nil:Lw []:=⟨[],rfl,by simp⟩
theorem Lw.snoc{t x:List UInt8}(h:Lw t)(hx:Ch x):Lw (t++x):=by
 obtain⟨cs,rfl,hc⟩:=h;refine⟨cs++[x],by simp,fun y hy=>?_⟩
 rcases List.mem_append.1 hy with hy | hy
 ·exact hc y hy
 ·rw [List.mem_singleton.1 hy];exact hx
def Wok(n:Nat)(w:W):Prop:=Lw w.1/\w.1≠[]/\0<=w.2.1/\w.2.1<w.2.2/\w.2.2<=(n:Int)
theorem UJ{n:Nat}{cur:List UInt8}{fr at':Nat}(hc:Lw cur)(h:cur=[]\/fr<at')(hn:at'<=n):∀ w∈fin cur fr at',Wok n w:=by
 intro w hw;unfold fin at hw
 split at hw
 ·cases hw
 ·rename_i hne;rw [List.mem_singleton.1 hw];have:=h.resolve_left hne;exact⟨hc,hne,by show(0:Int)<=(fr:Int);omega,by show(fr:Int)<(at':Int);omega,by show(at':Int)<=(n:Int);omega⟩
theorem UK{a:List UInt8}:∀ (f at':Nat) (cur:List UInt8) (fr:Nat),at'<=a.length->Lw cur->(cur=[]\/fr<at')->fr<=at'->∀ w∈Tb a f at' cur fr,Wok a.length w
 | 0,at',cur,fr,h,hc,hf,_=>UJ hc hf h
 | f+1,at',cur,fr,h,hc,hf,hle=>by
  intro w hw;unfold Tb at hw
  split at hw
  ·rename_i b
   split at hw
   ·rcases List.mem_append.1 hw with hw | hw
    ·exact UJ hc hf h w hw
    ·exact UK f (at'+1) [] (at'+1) (by omega) Lw.nil (.inl rfl) (Nat.le_refl _) w hw
   ·rename_i h2;exact UK f _ _ fr (Og b) (hc.snoc (Abn (PS b) h2)) (.inr (by omega)) (by omega) w hw
  ·exact UJ hc hf h w hw
theorem Abo(a:List UInt8):∀ w∈XR a,Wok a.length w:=UK _ 0 [] 0 (Nat.zero_le _) Lw.nil (.inl rfl) (Nat.le_refl _)
end Go.L
end
noncomputable section
namespace Go.L
open Go Go.Proofs.YtekmbcbgknmhiaaGreatDoor
def E(items:List (List UInt8)):HM:=Oi ((GV 0 items).foldl JW [])
theorem Abp(items:List (List UInt8)):(E items).map Prod.fst=(((GV 0 items).foldl JW []).map Prod.fst).mergeSort leB:=Wv _
theorem AbW(items:List (List UInt8))(k:List UInt8):k∈(E items).map Prod.fst↔k∈(GV 0 items).map Prod.fst:=by
 rw [Abp,(List.mergeSort_perm _ _).mem_iff,QO];simp
theorem Yc{items:List (List UInt8)}{e:List UInt8×List NL}(h:e∈E items):e.2=MD (GV 0 items) e.1:=by
 unfold E Oi at h;obtain⟨k,_,rfl⟩:=List.mem_map.1 h;simp only;rw [add_get]
 rfl
theorem TQ(k:List UInt8)(y:List NL):∀ M:HM,(DY k y M).length<=M.length+1
 | []=>by simp [DY]
 | (a,z)::l=>by
  unfold DY
  split
  ·simp
  ·have:=TQ k y l;simp only [List.length_cons];omega
theorem SN:∀ (P:List (List UInt8×NL)) (M:HM),(P.foldl JW M).length<=M.length+P.length
 | [],M=>by simp
 | p::P,M=>by
  rw [List.foldl_cons,List.length_cons];have a:=SN P (JW M p);have h2:(JW M p).length<=M.length+1:=TQ _ _ M;omega
theorem AaC(items:List (List UInt8)):(E items).length<=(GV 0 items).length:=by
 unfold E;rw [TO];have:=SN (GV 0 items) [];rw [List.length_nil] at this;omega
theorem Rz(i:Int)(l:List W):FB i l=(List.range l.length).map fun k=>((l.getD k default).1,(i,((k:Nat):Int))):=by
 apply List.ext_getElem?;intro k
 by_cases h:k<l.length
 ·rw [Pr i l k h,List.getElem?_map,List.getElem?_range h];rfl
 ·rw [List.getElem?_eq_none (by rw [JS];omega),List.getElem?_eq_none (by rw [List.length_map,List.length_range];omega)]
theorem TR{i:Int}{l:List W}{p:List UInt8×NL}(h:p∈FB i l):p.2.1=i/\0<=p.2.2/\p.2.2<(l.length:Int)/\∃ w∈l,w.1=p.1:=by
 rw [Rz] at h;obtain⟨k,hk,rfl⟩:=List.mem_map.1 h;rw [List.mem_range] at hk;refine⟨rfl,by simp only;omega,by simp only;omega,l.getD k default,?_,rfl⟩;rw [List.getD_eq_getElem?_getD,List.getElem?_eq_getElem hk];exact List.getElem_mem _
theorem LR:∀ (i:Nat) (r:List (List UInt8)) (m:Nat),(∀ t∈r,t.length<=m)->∀ p∈GV i r,(i:Int)<=p.2.1/\p.2.1<((i+r.length:Nat):Int)/\0<=p.2.2/\p.2.2<=(m:Int)/\p.1≠[]/\p.1.length<=m
 | _,[],_,_,p,hp=>by cases hp
 | i,t::r,m,h,p,hp=>by
  unfold GV at hp
  rcases List.mem_append.1 hp with hp | hp
  ·obtain⟨d,h2,h3,w,a,b⟩:=TR hp;have c:=Abo t w a;have e:=TN t w a;have f:=SI t;have g:=h t (List.mem_cons_self ..);rw [List.length_cons];exact⟨by omega,by omega,h2,by omega,b ▸ c.2.1,b ▸ (by omega)⟩
  ·have:=LR (i+1) r m (fun x hx=>h x (List.mem_cons_of_mem _ hx)) p hp;rw [List.length_cons];exact⟨by omega,by omega,this.2.2⟩
theorem UL{P:List (List UInt8×NL)}{w:List UInt8}{h:NL}:h∈MD P w↔(w,h)∈P:=by
 unfold MD;rw [List.mem_map]
 constructor
 ·rintro⟨p,hp,rfl⟩;rw [List.mem_filter] at hp;obtain⟨a,h2⟩:=hp;have h2:=of_decide_eq_true h2;rw [<- h2];exact a
 ·intro a;exact⟨(w,h),List.mem_filter.2 ⟨a,decide_eq_true rfl⟩,rfl⟩
theorem Acy{items:List (List UInt8)}(hn:items.length<=64){m:Nat}(ht:∀ t∈items,t.length<=m){e:List UInt8×List NL}(h:e∈E items):
  e.1≠[]/\e.1.length<=m/\e.2.length<=(GV 0 items).length/\∀ x∈e.2,0<=x.1/\x.1<=63/\0<=x.2/\x.2<=(m:Int):=by
 have hk:e.1∈(GV 0 items).map Prod.fst:=(AbW items e.1).1 (List.mem_map_of_mem h);obtain⟨p,hp,hpe⟩:=List.mem_map.1 hk;have a:=LR 0 items m ht p hp;rw [hpe] at a;refine⟨a.2.2.2.2.1,a.2.2.2.2.2,?_,fun x hx=>?_⟩
 ·rw [Yc h];exact NC _ _
 ·rw [Yc h,UL] at hx;have h2:=LR 0 items m ht _ hx;simp only at h2;exact⟨by omega,by omega,h2.2.2.1,h2.2.2.2.1⟩
def gs(l:List Int):Nat:=(l.map fun n=>YR n.toNat).sum
theorem VE(n:Int)(l:List Int):gs (n::l)=YR n.toNat+gs l:=by simp [gs]
theorem AaD{b:Nat}:∀ {l:List Int},(∀ n∈l,YR n.toNat<=b)->gs l<=l.length * b
 | [],_=>by simp [gs]
 | n::l,h=>by
  rw [VE,List.length_cons,Nat.succ_mul];have a:=h n (List.mem_cons_self ..);have h2:=AaD (l:=l) (fun x hx=>h x (List.mem_cons_of_mem _ hx));omega
theorem TS{m:Int}(hm:0<=m):∀ (p:NL) (l:List NL),0<=p.1->-1<=p.2->(∀ x∈l,0<=x.1/\x.1<=63/\0<=x.2/\x.2<=m)->∀ n∈Lo p l,n<=m+64
 | _,[],_,_,_,n,hn=>by cases hn
 | p,h::r,a,h2,hl,n,hn=>by
  obtain⟨a1,a2,a3,a4⟩:=hl h (List.mem_cons_self ..);unfold Lo at hn
  rcases List.mem_append.1 hn with hn | hn
  ·split at hn
   ·simp only [List.mem_cons,List.not_mem_nil,or_false] at hn;omega
   ·simp only [List.mem_cons,List.not_mem_nil,or_false] at hn;omega
  ·exact TS hm h r a1 (by omega) (fun x hx=>hl x (List.mem_cons_of_mem _ hx)) n hn
theorem RY:∀ (p:NL) (l:List NL),(Lo p l).length=2 * l.length
 | _,[]=>rfl
 | p,h::r=>by
  unfold Lo;rw [List.length_append,RY h r,List.length_cons]
  split <;> simp <;> omega
theorem Yd{e:HM}{b:Nat}:(∀ x∈e,(SM x).length<=b)->(e.flatMap SM).length<=e.length * b:=by
 induction e with
 | nil=>intro _;simp
 | cons x e ih=>
  intro h;rw [List.flatMap_cons,List.length_append,List.length_cons,Nat.succ_mul];have a:=h x (List.mem_cons_self ..);have h2:=ih (fun y hy=>h y (List.mem_cons_of_mem _ hy));omega
end Go.L
namespace Go.Proofs.YtekmbcbgknmhiaaGreatDoor
open Go Go.L
theorem Ww{n:Int}(hn:n<16777216):E5 n=some ((YR n.toNat:Nat):Int):=by
 by_cases h:0<=n
 ·obtain⟨k,rfl⟩:=Int.eq_ofNat_of_zero_le h;rw [Int.toNat_natCast];exact XX (by omega)
 ·unfold E5;rw [if_pos (by omega),Int.toNat_of_nonpos (by omega)]
  rfl
theorem Ye{n:Int}(hn:n<16777216):YR n.toNat<=47:=Abl (k:=24) (by omega) (by decide)
theorem Wx{n:Int}(hn:n<16777216){c:Int}(a:0<=c)(b:c<=1000000000000000000):AM n c=some (c+((YR n.toNat:Nat):Int)):=by
 unfold AM;have:=Ye hn;rw [Ww hn,Option.bind_some,Ak (by constructor <;> omega)]
theorem TT:∀ (l:List Int) (c:Int),(∀ n∈l,n<16777216)->0<=c->c+(gs l:Int)<=1000000000000000000->fm AM l c=some (c+(gs l:Int))
 | [],c,_,_,_=>by
  show some c=_
  congr 1
  have:gs []=0:=rfl;omega
 | n::l,c,h,a,b=>by
  rw [VE] at b ⊢
  show(AM n c).bind (fm AM l)=_
  rw [Wx (h n (List.mem_cons_self ..)) a (by omega),Option.bind_some,TT l _ (fun x hx=>h x (List.mem_cons_of_mem _ hx)) (by omega) (by omega)]
  congr 1
  omega
theorem RZ{items:List (List UInt8)}(hn:items.length<=64)(ht:∀ t∈items,t.length<=2048):(GV 0 items).length<=131136:=by
 have a:=RW 0 items ht;omega
theorem Yf{items:List (List UInt8)}(hn:items.length<=64)(ht:∀ t∈items,t.length<=2048):(∀ n∈Oj ((items.length:Int),E items),n<16777216)/\gs (Oj ((items.length:Int),E items))<=1000000000000000/\∀ e∈E items,EB e:=by
 have hp:=RZ hn ht;have he:=AaC items
 have a:∀ e∈E items,(∀ n∈SM e,n<16777216)/\(SM e).length<=300000/\EB e:=fun e h=>by
  obtain⟨_,a2,a3,a4⟩:=Acy hn ht h;refine⟨fun n hn'=>?_,?_,?_⟩
  ·unfold SM at hn'
   rcases List.mem_cons.1 hn' with rfl | hn'
   ·omega
   rcases List.mem_append.1 hn' with hn' | hn'
   ·obtain⟨b,_,rfl⟩:=List.mem_map.1 hn';have:=b.toNat_lt;unfold Ps;omega
   rcases List.mem_cons.1 hn' with rfl | hn'
   ·omega
   ·have:=TS (m:=2048) (by decide) (0,-1) e.2 (by decide) (by decide) a4 n hn';omega
  ·unfold SM;rw [List.length_cons,List.length_append,List.length_map,List.length_cons,RY];omega
  ·exact⟨by omega,by omega,fun x hx=>by have:=a4 x hx;exact⟨by omega,by omega,by omega,by omega⟩⟩
 have h2:∀ n∈Oj ((items.length:Int),E items),n<16777216:=fun n hn'=>by
  unfold Oj at hn';simp only at hn'
  rcases List.mem_cons.1 hn' with rfl | hn'
  ·omega
  rcases List.mem_cons.1 hn' with rfl | hn'
  ·omega
  ·obtain⟨e,c,d⟩:=List.mem_flatMap.1 hn';exact(a e c).1 n d
 refine⟨h2,?_,fun e h=>(a e h).2.2⟩;have h3:=AaD (b:=47) (fun n hn'=>Ye (h2 n hn'))
 have f:(Oj ((items.length:Int),E items)).length<=2+(E items).length * 300000:=by
  unfold Oj;have:=Yd (e:=E items) (b:=300000) (fun x hx=>(a x hx).2.1);simp only [List.length_cons];omega
 omega
theorem Yg{items:List (List UInt8)}(hn:items.length<=64)(ht:∀ t∈items,t.length<=2048)(hl:Kl 0 items=none):
  GC items=if 131072<gs (Oj ((items.length:Int),E items)) then some ((0,[]),(14,-1)) else some (((items.length:Int),E items),(0,0)):=by
 have hp:=RZ hn ht;obtain⟨b,h2,h3⟩:=Yf hn ht;have he:=AaC items;have hm:=SN (GV 0 items) [];rw [List.length_nil] at hm;rw [Wu,if_neg (by omega),hl];simp only;unfold F2;rw [UG _ _ ⟨RV _ [] List.nodup_nil,fun x hx=>?_,by omega⟩ (by omega)]
 ·unfold F1;have c:Oi ((GV 0 items).foldl JW [])=E items:=rfl;rw [c,Abm (a:=((items.length:Int),E items)) ⟨by simp only;omega,by simp only;omega⟩ (by simp only;omega) h3,TT _ _ b (by omega) (by omega),Option.bind_some,Int.zero_add]
  by_cases h:131072<gs (Oj ((items.length:Int),E items))
  ·rw [if_pos (by omega),if_pos h];rfl
  ·rw [if_neg (by omega),if_neg h];rfl
 ·rw [QO] at hx;have:=QR 0 items ht x (hx.resolve_left (by simp));unfold maxLen;omega
end Go.Proofs.YtekmbcbgknmhiaaGreatDoor
end
noncomputable section
namespace Go.Proofs.YtekmbcbgknmhiaaGreatDoor
open Go Go.E Go.RowKit Go.Shelf
def Wy(s sep:List UInt8)(sv n:Int):Option (List (List UInt8)):=Go.L.Bh (s.length<4294967281/\sep.length=1/\sv=0/\n = -1) (some (Lib.split s sep))
def Sa(a:List UInt8)(c:UInt8):Option Int:=some (Lib.indexByte a c)
theorem VF(w:World)(H:PH)(_hH:Le H (hp w)){a0:List UInt8}{a1:UInt8}{r:Int}(h:Sa a0 a1=some r):
  Ok Tryz.prog 168 [.string ⟨a0.toArray⟩,.int .u8 (a1.toNat:Int)] w (fun v w'=>Ext w w'/\v=.int .i64 r):=by
 obtain rfl:=Option.some.inj h;refine⟨⟨Tryz.f168,_,Tryz.func168,rfl,rfl⟩,(Any.strings_IndexByte Tryz.AbN ⟨a0.toArray⟩ (a1.toNat:Int) w).mono fun e w' he=>?_⟩;obtain⟨rfl,rfl⟩:=he;refine⟨_,rfl,Ext.refl _,?_⟩;have e:((a1.toNat:Int).toNat).toUInt8=a1:=by simp
 rw [e]
def TU(a:List (List UInt8))(sep:List UInt8):Option (List UInt8):=Go.L.Bh (a.length<=140737488355328/\(Lib.join a sep).length<=140737488355328) (some (Lib.join a sep))
theorem VG(w:World)(H:PH)(hH:Le H (hp w)){a0:List (List UInt8)}{a1:List UInt8}{v:Value}(hv:AA .st H v a0){r:List UInt8}(h:TU a0 a1=some r):
  Ok Tryz.prog 63 [v,.string ⟨a1.toArray⟩] w (fun v w'=>Ext w w'/\v=.string ⟨r.toArray⟩):=by
 obtain⟨⟨h1,h2⟩,h⟩:=Go.L.Fw h;obtain rfl:=Option.some.inj h
 have X:Builder.Extra Tryz.prog Tryz.Pk:={
  liesBuilder:=by kernel_rfl
  sizeBuilder:=by kernel_rfl
  t5:=by kernel_rfl
  a5:=fun w=>by kernel_rfl
  z5:=fun w=>by kernel_rfl
  v5:=fun w=>by kernel_rfl
  infoByte:=by kernel_rfl
  cellsByte:=by kernel_rfl
  sizeByte:=by kernel_rfl
  neB5:=by decide}
 obtain⟨a,cap,rfl,k2,k3,k4,k5⟩:=hv.ex
 have key:∀ (P:Prop),((a0=[]->P)/\(∀ A,a=some A->a0≠[]->P))->P:=fun P hP=>by
  by_cases ha:a0=[]
  ·exact hP.1 ha
  ·cases a with
   | none=>exact absurd (List.eq_nil_of_length_eq_zero (by have:=k4 rfl;omega)) ha
   | some A=>exact hP.2 A rfl ha
 refine key _ ⟨fun he=>?_,fun A hA hne=>?_⟩
 ·subst he;refine⟨⟨Tryz.f63,_,Tryz.func63,rfl,rfl⟩,(Any.strings_Join_none Tryz.V5 X a cap ⟨a1.toArray⟩ w).mono fun e w' hh=>?_⟩;obtain⟨rfl,rfl⟩:=hh;exact⟨_,rfl,Ext.refl _,rfl⟩
 ·subst hA;obtain⟨k6,k7⟩:=k5 A rfl hne;obtain⟨b,o,sp⟩:=A;simp only at k6;subst k6
  have hcell:∀ (j:Nat) x,(a0.map fun l=>(⟨l.toArray⟩:ByteArray))[j]? = some x->w.cell? ⟨b,o+j,none⟩=some (.string x):=fun j x hx=>by
   rw [List.getElem?_map] at hx
   cases hj:a0[j]? with
   | none=>rw [hj] at hx;cases hx
   | some l=>
    rw [hj] at hx;obtain rfl:=Option.some.inj hx;obtain⟨c,hc,hcell⟩:=k7 j l hj;obtain rfl:c=[.string ⟨l.toArray⟩]:=hc;have:=cell_of hH (hcell 0 _ rfl)
    rwa [show(Rp.st).sz=1 from rfl,Nat.mul_one,Nat.add_zero,Addr.add_lit] at this
  have hpos:0<a0.length:=List.length_pos_iff.2 hne
  have hb:b<w.heap.size:=by
   have h0:=hcell 0 ⟨(a0[0]'hpos).toArray⟩ (by simp [hpos]);exact World.block_lt_of_cell? _ _ h0
  have e2:(a0.map fun l=>(⟨l.toArray⟩:ByteArray)).map (·.data.toList)=a0:=by rw [List.map_map];exact(List.map_congr_left (fun l _=>by simp)).trans (List.map_id _)
  have c:=Any.strings_Join Tryz.V5 X b o cap (a0.map fun l=>(⟨l.toArray⟩:ByteArray)) ⟨a1.toArray⟩ w hcell hb (by rw [List.length_map];exact h1) (by rw [List.length_map];omega) (by rw [e2];simpa using h2);rw [e2,List.length_map] at c;refine⟨⟨Tryz.f63,_,Tryz.func63,rfl,rfl⟩,c.mono fun e w' hh=>?_⟩;obtain⟨rfl,hb'⟩:=hh;exact⟨_,rfl,Ext.off hb',by simp⟩
end Go.Proofs.YtekmbcbgknmhiaaGreatDoor
end
noncomputable section
namespace Go.Proofs.YtekmbcbgknmhiaaGreatDoor
open Go Go.E Go.RowKit Go.L
set_option maxHeartbeats 1000000
set_option maxRecDepth 10000
open _root_.Go.Proofs.Tryz
def Fh(a0 a1:Int):Option ((Int×Int)):=
 some ((a0,a1))
theorem JX(w:World)(H:PH)(_hH:Le H (hp w)){a0 a1:Int}{r:(Int×Int)}(h:Fh a0 a1=some r):
  Ok prog 81 [No a0,No a1] w (fun v w'=>Ext w w'/\v=.agg #[No r.1,No r.2]):=by
 refine Aw (n:=8) [(0,No a0),(1,No a1)] func81 rfl fun hL=>Ai<|A3 AI rfl rfl hL fun e f b c _=>Ac<|Bs 2 rfl<|Ah (AN rfl (fun _=>Jv _ _ _)) rfl<|Ad 0 rfl AI b rfl (AT rfl) fun g a d=>Ac<|Ax ?_
 cases h
 refine CM rfl (.cell rfl AcP rfl AI (AG (i:=0) a rfl)) ⟨a.ext,rfl⟩
def IF(a0 a1:Int):Option ((Int×Int)):=
 some ((a0,a1))
theorem K5(w:World)(H:PH)(_hH:Le H (hp w)){a0 a1:Int}{r:(Int×Int)}(h:IF a0 a1=some r):
  Ok prog 127 [No a0,No a1] w (fun v w'=>Ext w w'/\v=.agg #[No r.1,No r.2]):=by
 refine Aw (n:=8) [(0,No a0),(1,No a1)] func127 rfl fun hL=>Ai<|A3 AI rfl rfl hL fun e f b c _=>Ac<|Bs 2 rfl<|Ah (AN rfl (fun _=>Jv _ _ _)) rfl<|Ad 0 rfl AI b rfl (AT rfl) fun g a d=>Ac<|Ax ?_
 cases h
 refine CM rfl (.cell rfl AcP rfl AI (AG (i:=0) a rfl)) ⟨a.ext,rfl⟩
def Km(a0:Aaz):Option ((List Aaz)):=
 if a0=([]:Aaz) then some ([]) else none
theorem P4(w:World)(H:PH)(_hH:Le H (hp w)){a0:Aaz}{r:(List Aaz)}(h:Km a0=some r):
  Ok prog 158 [Aat a0] w (fun v w'=>Ext w w'/\∃ a,v=a/\Ck 9 .st H w w' a r):=by
 refine Aw (n:=7) [(0,(Aat a0))] func158 rfl fun hL=>AD 1 rfl<|A9<|Bs 1 rfl<|Ah (Nu rfl rfl) rfl<|Ac<|AO rfl h (fun b h=>?_) (fun b h=>?_)
 ·refine AD 1 rfl<|Ax<|Ay ?_
  cases h
  refine Am rfl ⟨hL.ext,_,rfl,Ck.nil⟩
 refine Au<|Ar ?_
 cases h
def BZ(a0:Int):Option Bool:=
 if(0<=a0)/\(a0<55296) then some true else(if(57343<a0)/\(a0<=1114111) then some true else some false)
theorem KA(w:World)(H:PH)(_hH:Le H (hp w)){a0:Int}{r:Bool}(h:BZ a0=some r):
  Ok prog 267 [.int .i32 a0] w (fun v w'=>Ext w w'/\v=.bool r):=by
 refine Aw (n:=17) [(0,.int .i32 a0)] func267 rfl fun hL=>AD 1 rfl<|A9<|A2<|Bs 3 rfl<|Ns 2 2 rfl rfl rfl rfl rfl rfl<|A4 1 rfl<|AO rfl h (fun a h=>?_) (fun a h=>?_)
 ·refine AD 1 rfl<|Ax<|Az<|Ay ?_
  cases h
  refine Am rfl ⟨hL.ext,rfl⟩
 refine Bs 3 rfl<|Ns 2 2 rfl rfl rfl rfl rfl rfl<|A4 1 rfl<|AO rfl h (fun b h=>?_) (fun b h=>?_)
 ·refine AD 1 rfl<|Ax<|Az<|Ay ?_
  cases h
  refine Am rfl ⟨hL.ext,rfl⟩
 refine Au<|AJ<|Ar<|AD 1 rfl<|Ax ?_
 cases h
 refine Am rfl ⟨hL.ext,rfl⟩
def FV:Option Int:=
 some ((-1))
def Cg(a0:Aaz):Nat->Option ((Nat) ⊕ (Int)):=fun a=>
 if a<a0.length then(if((OI a0 a).1:Int)=65533 then Option.map Sum.inr (some ((a:Int))) else some (Sum.inl (a+(OI a0 a).2))) else Option.map Sum.inr FV
def E6(a0:Aaz)(s:Nat):Option Int:=Go.L.run (Cg a0) s
def FW(a1 a:Int):Option ((Int) ⊕ (Int)):=
 Bh (C0 (a - (((E0 a1).length:Int) - 1))) (Option.map Sum.inr (some ((a - (((E0 a1).length:Int) - 1)))))
def FC(a0:Aaz)(a1 b:Int):Int->Option ((Int) ⊕ ((Int) ⊕ (Int))):=fun a=>
 if a<((E0 a1).length:Int) then Bh (C0 (b - a)) (Bh (0<=(b - a)/\(b - a)<(a0.length:Int)) (Bh (C0 ((((E0 a1).length:Int) - 1) - a)) (Bh (0<=((((E0 a1).length:Int) - 1) - a)/\((((E0 a1).length:Int) - 1) - a)<((E0 a1).length:Int)) (if((a0.getD (b - a).toNat default).toNat:Int)=(((E0 a1).getD ((((E0 a1).length:Int) - 1) - a).toNat default).toNat:Int) then Bh (C0 (a+1)) (some (Sum.inl (a+1))) else none)))) else Option.map Sum.inr ((FW a1 b))
def H0(a0:Aaz)(a1 a s:Int):Option ((Int) ⊕ (Int)):=Go.L.run (FC a0 a1 a) s
def E7(a0:Aaz)(a1 a:Int):Option ((Int) ⊕ (Int)):=
 (H0 a0 a1 a) (1:Int)
def FX:Option Int:=
 some ((-1))
def Ea(a0:Aaz)(a1:Int):Int->Option ((Int) ⊕ (Int)):=fun a=>
 if a<(a0.length:Int) then Bh (0<=a/\a<(a0.length:Int)) (Bh (0<=(((E0 a1).length:Int) - 1)/\(((E0 a1).length:Int) - 1)<((E0 a1).length:Int)) (if((a0.getD a.toNat default).toNat:Int)=(((E0 a1).getD (((E0 a1).length:Int) - 1).toNat default).toNat:Int) then(E7 a0 a1) a else Bh (C0 (a+1)) (Bh (0<=(a+1)/\(a+1)<=(a0.length:Int)) (Bh (0<=(((E0 a1).length:Int) - 1)/\(((E0 a1).length:Int) - 1)<((E0 a1).length:Int)) (Option.bind (Sa (a0.drop (a+1).toNat) ((E0 a1).getD (((E0 a1).length:Int) - 1).toNat default)) (fun b=>if b<0 then Option.map Sum.inr (some ((-1))) else Bh (C0 (b+1)) (Bh (C0 (a+(b+1))) ((E7 a0 a1) (a+(b+1)))))))))) else Option.map Sum.inr FX
def H3(a0:Aaz)(a1 s:Int):Option Int:=Go.L.run (Ea a0 a1) s
def Da(a0:Aaz)(a1:Int):Option Int:=
 if(0<=a1)/\(a1<128) then Option.bind (Sa a0 (Go.L.u8 a1)) (fun b=>some b) else(if a1=65533 then(E6 a0) (0:Nat) else Option.bind (BZ a1) (fun a=>if !a then some ((-1)) else Bh (C0 (((E0 a1).length:Int) - 1)) ((H3 a0 a1) (((E0 a1).length:Int) - 1))))
theorem H4(w:World)(H:PH)(hH:Le H (hp w)){a0:Aaz}{a1 r:Int}(h:Da a0 a1=some r):
  Ok prog 219 [Aat a0,.int .i32 a1] w (fun v w'=>Ext w w'/\v=No r):=by
 refine Aw (n:=187) [(0,(Aat a0)),(1,.int .i32 a1)] func219 rfl fun hL=>AD 1 rfl<|A2<|Bs 3 rfl<|Ns 2 2 rfl rfl rfl rfl rfl rfl<|A4 1 rfl<|AO rfl h (fun bl h=>?_) (fun bl h=>?_)
 ·refine Bs 2 rfl<|Ah (IS Acp Acu rfl (Kx _)) rfl<|Aq h fun x3 bm h=>A8 rfl rfl hL (VF _ _ (Al hH hL) bm) fun w4 cb bn bz=>A4 1 rfl<|Ax<|Az ?_
  cases h
  refine Am rfl ⟨bn.ext,rfl⟩
 refine AD 3 rfl<|AO rfl h (fun bo h=>?_) (fun bo h=>?_)
 ·refine Bw (σ:=Unit) (fun(_:Unit)=>[]) (fun(_:Unit) wr=>AU w [] wr/\FV=some r) ?_ ?_
  ·refine Bs 1 rfl<|T5 rfl AaQ rfl hL fun cc bc bd bp=>Ac<|A2 ?_;obtain⟨x,h⟩:=AY h;refine B8 (σ:=Nat×Nat) (fun⟨d,n⟩=>[(175,(Aas bc))]) (fun⟨d,n⟩ wr=>AU w [.obj bc (.stringIter ⟨(a0).toArray⟩ d)] wr/\GR (Cg a0) n d=some r) (fun⟨d,n⟩=>n) ((0:Nat),x) (Sub.of rfl) ⟨bd,h⟩ ?_;rintro⟨d,nn36⟩ b0 ⟨y,h⟩;obtain⟨x,cd,rfl,h,f⟩:=AX h;refine Ai<|V0 (l:=a0) (p:=d) 0 rfl rfl y rfl (fun g=>?_) (fun g=>?_)
   ·have h:=Eo g h;intro ce z bq;refine A4 1 rfl<|A9<|DW rfl<|Au<|Ar<|A2<|AD 4 rfl<|AD 2 rfl<|AO rfl h (fun be h=>?_) (fun be h=>?_)
    ·refine AD 2 rfl<|Ax<|Az<|Cv ?_;have h:=CV.out h f;refine Az<|BH<|Az ?_
     cases h
     refine Am rfl ⟨z.ext,rfl⟩
    refine Au<|AJ ?_;have h:=CV.again h f;refine AW ((d+(OI a0 d).2),x) (Sub.of rfl) ⟨z,h⟩ (Nat.lt_succ_self _)
   have h:=Ep g h;refine A4 1 rfl<|A9<|Hn rfl<|B5<|AE<|A7 ?_;have h:=CV.out h f;refine Bk ?_;have bf:=y.AV (i:=0) rfl;refine A6 () (Sub.nil _) ⟨bf,h⟩
  rintro _ b1 ⟨bg,h⟩;refine AD 1 rfl<|Ax<|Az ?_
  cases h
  refine Am rfl ⟨bg.ext,rfl⟩
 refine Bs 1 rfl<|Aq h fun cf bh h=>A8 rfl rfl hL (KA _ _ (Al hH hL) bh) fun cg b2 aa br=>A4 2 rfl<|By rfl h (fun bi h=>?_) (fun bi h=>?_)
 ·refine AD 1 rfl<|Ax<|Az ?_
  cases h
  refine Am rfl ⟨aa.ext,rfl⟩
 refine S2<|Bs 1 rfl<|Ah (AbI rfl Acp AaQ) rfl<|A4 1 rfl<|Bs 1 rfl<|Ah (Ib rfl AaQ) rfl<|AB h fun bj h=>Ah (AK rfl bj) rfl<|A4 1 rfl<|AD 2 rfl<|AD 1 rfl<|Bw (σ:=Unit) (fun(_:Unit)=>[]) (fun(_:Unit) wr=>AU w [] wr/\FX=some r) ?_ ?_
 ·refine A2 ?_;obtain⟨ab,h⟩:=AY h;refine B8 (σ:=Int×Nat) (fun⟨c,n⟩=>[(0,(Aat a0)),(7,.string ⟨((E0 a1)).toArray⟩),(8,No (((E0 a1).length:Int) - 1)),(9,No c)]) (fun⟨c,n⟩ wr=>AU w [] wr/\GR (Ea a0 a1) n c=some r) (fun⟨c,n⟩=>n) ((((E0 a1).length:Int) - 1),ab) (Sub.of rfl) ⟨aa,h⟩ ?_;rintro⟨c,nn253⟩ bs ⟨m,h⟩;obtain⟨ab,j,rfl,h,e⟩:=AX h;refine A9<|Bs 2 rfl<|Ah (Ib rfl AaQ) rfl<|A4 1 rfl<|AO rfl h (fun ac h=>?_) (fun ac h=>?_)
  ·refine Au<|Ar<|A2<|S2<|Bw (σ:=Int) (fun a=>[(0,(Aat a0)),(7,.string ⟨((E0 a1)).toArray⟩),(8,No (((E0 a1).length:Int) - 1)),(9,No a)]) (fun a wr=>AU w [] wr/\(E7 a0 a1) a=some j) ?_ ?_
   ·refine IQ (.q 0 (.q 1 (.q 2 (.q 3 (.q 4 (.q 5 (.q 6 (.tail 7)))))))) mixed (by kernel_rfl) (fun b3 ad=>?_);have ae:=m.call ad;refine GQ 2 rfl<|AB h fun af h=>FK (L7 rfl rfl AaQ af) rfl rfl<|GQ 2 rfl<|AB h fun ag h=>FK (L7 rfl rfl AaQ ag) rfl rfl<|GQ 1 rfl<|DX (fun b4 ah=>?_);have o:=ae.call ah;refine Ac<|Cf rfl h (fun ai h=>?_) (fun ai h=>?_)
    ·refine IQ (.q 0 (.q 1 (.q 2 (.q 3 (.q 4 (.q 5 (.q 6 (.q 7 (.q 8 (.tail 9)))))))))) mixed (by kernel_rfl) (fun b5 aj=>?_);have ak:=o.call aj;refine GQ 2 rfl<|AB h fun al h=>FK (AK rfl al) rfl rfl<|AB h fun am h=>FK (Uy rfl rfl AaQ am) rfl rfl<|GQ 2 rfl<|AB h fun an h=>FK (L7 rfl rfl AaQ an) rfl rfl<|Aq h fun bk ao h=>KK rfl rfl rfl (fun b6 bt=>VF _ _ (Le.refl _) ao)<|GQ 1 rfl<|DX (fun b7 ap=>?_);have s:=ak.call ap;refine Ac<|A9<|AD 2 rfl<|AO rfl h (fun aq h=>?_) (fun aq h=>?_)
     ·refine AD 1 rfl<|Ax<|Ay<|BH<|HI<|Az<|Cv ?_;have h:=CV.out h e;refine Az<|BH<|HI<|Az ?_
      cases h
      refine Am rfl ⟨s.ext,rfl⟩
     refine Au<|Ar<|Av<|As 2 rfl<|AB h fun ar h=>Ah (AK rfl ar) rfl<|AB h fun au h=>Ah (AK rfl au) rfl<|As 1 rfl<|AQ<|A6 (c+(bk+1)) (Sub.of rfl) ⟨s,h⟩
    refine Au<|A6 c (Sub.of rfl) ⟨o,h⟩
   rintro a bu ⟨av,h⟩;refine Bw (σ:=Unit) (fun(_:Unit)=>[(8,No (((E0 a1).length:Int) - 1)),(9,No a)]) (fun(_:Unit) wr=>AU w [] wr/\(FW a1 a)=some j) ?_ ?_
   ·refine AD 1 rfl<|A2 ?_;obtain⟨k,h⟩:=AY h;refine B8 (σ:=Int×Nat) (fun⟨b,n⟩=>[(0,(Aat a0)),(7,.string ⟨((E0 a1)).toArray⟩),(8,No (((E0 a1).length:Int) - 1)),(9,No a),(12,No b)]) (fun⟨b,n⟩ wr=>AU w [] wr/\GR (FC a0 a1 a) n b=some j) (fun⟨b,n⟩=>n) (1,k) (Sub.of rfl) ⟨av,h⟩ ?_;rintro⟨b,nn363⟩ bv ⟨t,h⟩;obtain⟨k,b8,rfl,h,u⟩:=AX h;refine A9<|Bs 2 rfl<|Ah (Ib rfl AaQ) rfl<|A4 1 rfl<|AO rfl h (fun aw h=>?_) (fun aw h=>?_)
    ·refine Au<|Ar<|A9<|A2<|IQ (.q 0 (.q 1 (.q 2 (.q 3 (.q 4 (.q 5 (.q 6 (.q 7 (.q 8 (.q 9 (.q 10 (.tail 11)))))))))))) mixed (by kernel_rfl) (fun b9 ax=>?_);have ay:=t.call ax;refine GQ 3 rfl<|AB h fun az h=>FK (AK rfl az) rfl rfl<|AB h fun a2 h=>FK (L7 rfl rfl AaQ a2) rfl rfl<|GQ 3 rfl<|AB h fun a3 h=>FK (AK rfl a3) rfl rfl<|AB h fun a4 h=>FK (L7 rfl rfl AaQ a4) rfl rfl<|GQ 1 rfl<|DX (fun ca a5=>?_);have a6:=ay.call a5;refine Ac<|Cf rfl h (fun a7 h=>?_) (fun a7 h=>?_)
     ·cases h
     refine Au<|AJ<|Ar<|Av<|As 1 rfl<|AB h fun a8 h=>Ah (AK rfl a8) rfl<|As 1 rfl<|AQ ?_;have h:=CV.again h u;refine AW ((b+1),k) (Sub.of rfl) ⟨a6,h⟩ (Nat.lt_succ_self _)
    refine B5<|AE<|A7 ?_;have h:=CV.out h u;refine Bk<|A6 () (Sub.of rfl) ⟨t,h⟩
   rintro _ bw ⟨a9,h⟩;refine A9<|Bs 2 rfl<|AB h fun ba h=>Ah (AK rfl ba) rfl<|A4 1 rfl<|Ax<|Ay<|HI<|Az<|Cv ?_;have h:=CV.out h e;refine Az<|BH<|HI<|Az ?_
   cases h
   refine Am rfl ⟨a9.ext,rfl⟩
  refine B5<|AE<|A7 ?_;have h:=CV.out h e;refine Bk<|A6 () (Sub.nil _) ⟨m,h⟩
 rintro _ bx ⟨bb,h⟩;refine A9<|AD 1 rfl<|Ax<|Ay<|HI<|Az ?_
 cases h
 refine Am rfl ⟨bb.ext,rfl⟩
def E8(a0:Aaz)(a1:Int):Option Bool:=
 Option.bind (Da a0 a1) (fun a=>some (decide (0<=a)))
theorem IG(w:World)(H:PH)(hH:Le H (hp w)){a0:Aaz}{a1:Int}{r:Bool}(h:E8 a0 a1=some r):
  Ok prog 207 [Aat a0,.int .i32 a1] w (fun v w'=>Ext w w'/\v=.bool r):=by
 refine Aw (n:=9) [(0,(Aat a0)),(1,.int .i32 a1)] func207 rfl fun hL=>AD 1 rfl<|Bs 2 rfl<|Aq h fun e a h=>A8 rfl rfl hL (H4 _ _ (Al hH hL) a) fun f d b c=>A4 2 rfl<|Ax ?_
 cases h
 refine Am rfl ⟨b.ext,rfl⟩
def LS(a0:Int):Option Bool:=
 if(a0<97)\/(122<a0) then if a0<48 then Option.bind (E8 ([45,95,46]:Aaz) a0) (fun b=>some (!b)) else if 57<a0 then Option.bind (E8 ([45,95,46]:Aaz) a0) (fun a=>some (!a)) else some false else some false
theorem P5(w:World)(H:PH)(hH:Le H (hp w)){a0:Int}{r:Bool}(h:LS a0=some r):
  Ok prog 206 [.int .i32 a0] w (fun v w'=>Ext w w'/\v=.bool r):=by
 refine Aw (n:=22) [(0,.int .i32 a0)] func206 rfl fun hL=>AD 1 rfl<|Bs 3 rfl<|WQ 2 2 rfl rfl rfl rfl rfl rfl<|As 1 rfl<|Bl (s:=9) rfl (fun a=>?_) (fun a=>?_)
 ·have h:=Eo (of_decide_eq_true a) h;refine Ab rfl a<|Ah (Aj rfl) rfl<|Ab rfl a<|Ah (Aj rfl) rfl<|Ab rfl a<|Ah (Aj rfl) rfl<|Bl (s:=12) rfl (fun c=>?_) (fun c=>?_)
  ·have h:=Eo (of_decide_eq_true c) h
   iterate 2 refine Ao rfl c rfl ?_
   refine Ab rfl a<|Ah (AH rfl c rfl) rfl<|Ah (AH rfl a rfl) rfl<|As 1 rfl<|Ab rfl rfl<|Ah (Aj rfl) rfl<|Ab rfl rfl<|Aq h fun p f h=>A8 rfl rfl hL (IG _ _ (Al hH hL) f) fun q l g j=>Ab rfl rfl<|Ah (Aj rfl) rfl<|Ah (AH rfl rfl rfl) rfl<|A4 1 rfl<|Ax ?_
   cases h
   refine Am rfl ⟨g.ext,rfl⟩
  have h:=Ep (of_decide_eq_false c) h;refine Ab rfl c<|Ah (Aj rfl) rfl<|Ab rfl c<|Ah (Aj rfl) rfl<|Ab rfl a<|Ah (AS rfl c rfl) rfl<|Ah (AH rfl a rfl) rfl<|As 1 rfl<|Bl (s:=17) rfl (fun b=>?_) (fun b=>?_)
  ·have h:=Eo (of_decide_eq_true b) h;refine Ab rfl b<|Ah (Aj rfl) rfl<|Ab rfl b<|Aq h fun m d h=>A8 rfl rfl hL (IG _ _ (Al hH hL) d) fun o k e i=>Ab rfl b<|Ah (Aj rfl) rfl<|Ah (AH rfl b rfl) rfl<|A4 1 rfl<|Ax ?_
   cases h
   refine Am rfl ⟨e.ext,rfl⟩
  have h:=Ep (of_decide_eq_false b) h
  iterate 3 refine Ao rfl b rfl ?_
  refine Ah (AS rfl b rfl) rfl<|A4 1 rfl<|Ax ?_
  cases h
  refine Am rfl ⟨hL.ext,rfl⟩
 have h:=Ep (of_decide_eq_false a) h
 iterate 3 refine Ao rfl a rfl ?_
 iterate 2 refine Mu rfl rfl rfl ?_
 refine Ao rfl a rfl<|Ah (AS rfl a rfl) rfl<|As 1 rfl ?_
 iterate 3 refine Ao rfl rfl rfl ?_
 refine Ah (AS rfl rfl rfl) rfl<|A4 1 rfl<|Ax ?_
 cases h
 refine Am rfl ⟨hL.ext,rfl⟩
end Go.Proofs.YtekmbcbgknmhiaaGreatDoor
end
