/- Texts of a claim, merged. -/
import Derived.Test.YtekmbcbgknmhiaaGreatDoorLe5
import Derived.KernelRfl
import Derived.ProofKit
import Derived.OpenShut
import Derived.Carry
import Derived.Deep.Slices
import Derived.Test.YtekmbcbgknmhiaaGreatDoorRows
import Derived.Lib.LaidU8T
import Derived.Lib.LaidTab
import Derived.Stop.LaidErr
import Derived.LaidMore
import Derived.MakeChecks
import Derived.LaidHandle
set_option linter.unusedVariables false
set_option linter.unusedSimpArgs false
open _root_.Go.Proofs.Tryz renaming underlying58→Aa8,underlying3→AaA,underlying9→AaQ,underlying22→Ab1,underlying23→Abj,underlying4→Aby,underlying20→Abz,underlying28→AcP,underlying26→AcR,underlying5→Acu,underlying24→Adj,underlying42→Adk,underlying52→Adl,underlying66→Adm,underlying43→Ado,underlying86→Adp,underlying84→Adq,underlying82→Adr
noncomputable section
namespace Go.Proofs.YtekmbcbgknmhiaaGreatDoor
open Go Go.E Go.RowKit Go.L
set_option maxHeartbeats 1000000
set_option maxRecDepth 10000
open _root_.Go.Proofs.Tryz
def B4(a0:Aaz×Int)(a1:Aaz):Option (Bool×(Aaz×Int)):=
 Option.bind (Hq a0.1 a1) (fun a=>if a.2 then some (a.2,(a.1,a0.2)) else some (a.2,(a0.1,a0.2)))
theorem BF{c w:World}{H:PH}(hH:Le H (hp c)){O:List BE}{a0:Aaz×Int}{a1:Aaz}{ba0:Nat}(hL:AU c (Ha [.box ba0 [Aat a0.1,No a0.2] 86] O) w){r:Bool×(Aaz×Int)}(h:B4 a0 a1=some r):
  Ok prog 111 [Aas ba0,Aat a1] w (fun v w'=>v=.bool r.1/\AU c (Ha [.box ba0 [Aat r.2.1,No r.2.2] 86] O) w'/\Le (fz w (Ha [.box ba0 [Aat a0.1,No a0.2] 86] O)) (fz w' (Ha [.box ba0 [Aat r.2.1,No r.2.2] 86] O))):=by
 refine Ey (n:=22) [(0,(Aas ba0)),(1,(Aat a1))] func111 rfl rfl rfl rfl rfl ?_;have hT:=Le.refl (fz w (Ha [.box ba0 [Aat a0.1,No a0.2] 86] O));refine AD 1 rfl<|Bs 1 rfl<|Ah (JK rfl) rfl<|Ah (Af rfl Adp rfl Kq) rfl<|Ah (Ag 0 rfl AaQ rfl hL rfl) rfl<|As 1 rfl<|Aq h fun j e h=>A8 rfl rfl hL (MO _ _ (Al hH hL) e) fun k i b a=>A4 5 rfl<|A9<|AD 1 rfl<|By rfl h (fun f h=>?_) (fun f h=>?_)
 ·refine Av<|As 2 rfl<|Ah (JK rfl) rfl<|Ah (Af rfl Adp rfl Kq) rfl<|B6 0 rfl rfl rfl Kq b rfl rfl fun l g d=>AQ<|Ar<|AD 2 rfl<|Ax ?_
  cases h
  refine Am rfl ?_;have hT:=hT.trans (a.trans d);exact⟨rfl,g,hT⟩
 refine Au<|Ar<|AD 2 rfl<|Ax ?_
 cases h
 refine Am rfl ?_;have hT:=hT.trans a;exact⟨rfl,b,hT⟩
def DO(a1:Int)(y8:Go.L.Qv×(Aaz×Int))(a:List Go.L.Qv)(b:Aaz)(c:Int):Option (Option (Go.L.Qv×(Aaz×Int))):=
 if(a.length:Int)=1 then some (some (y8.1,(b,c))) else some (some ((Go.L.Qv.mk a1 ([]) ([]:Aaz) ([]) (0:Int) (0:Int) a),(b,c)))
def D2(a1:Int)(a2:Aaz)(self:(Aaz×Int)->Option (Option (Go.L.Qv×(Aaz×Int))))(y8:Go.L.Qv×(Aaz×Int)):(List Go.L.Qv)×Aaz×Int->Option (((List Go.L.Qv)×Aaz×Int) ⊕ (Option (Go.L.Qv×(Aaz×Int)))):=fun⟨b,c,d⟩=>
 Option.bind (B4 (c,d) a2) (fun a=>if a.1 then Option.bind (self (a.2.1,a.2.2)) (fun e=>Um e (Option.map Sum.inr (some none)) (fun y86=>Bh (Go.E.Ij 112 (b.length+([y86.1]).length)) (some (Sum.inl ((b++[y86.1]),y86.2.1,y86.2.2))))) else Option.map Sum.inr ((DO a1 y8) b a.2.1 a.2.2))
def F7(a1:Int)(a2:Aaz)(self:(Aaz×Int)->Option (Option (Go.L.Qv×(Aaz×Int))))(y8:Go.L.Qv×(Aaz×Int))(s:(List Go.L.Qv)×Aaz×Int):Option (Option (Go.L.Qv×(Aaz×Int))):=Go.L.run (D2 a1 a2 self y8) s
def EI(self:(Aaz×Int)->Option (Option (Go.L.Qv×(Aaz×Int))))(a0:Aaz×Int)(a1:Int)(a2:Aaz):Option (Option (Go.L.Qv×(Aaz×Int))):=
 Option.bind (self (a0.1,a0.2)) (fun a=>Um a (some none) (fun y8=>(F7 a1 a2 self y8) ([y8.1],y8.2.1,y8.2.2)))
theorem K8{self:(Aaz×Int)->Option (Option (Go.L.Qv×(Aaz×Int)))}(hself:∀ {a w:World} {H:PH} (hH:Le H (hp a)) (hU:EE H) {O:List BE} {a0:Aaz×Int} {ba0:Nat} (hL:AU a (Ha [.box ba0 [Aat a0.1,No a0.2] 86] O) w) {r:Option (Go.L.Qv×(Aaz×Int))} (h:self a0=some r),R8 prog 70 [Aas ba0] w (.iface 82 (.agg #[])) (fun v w'=>Tv r v (fun r v=>∃ (u1:Value) (u3:Value) (u6:Value),v=.agg #[No r.1.f.1,u1,Aat r.1.f.2.2.1,u3,No r.1.f.2.2.2.2.1,No r.1.f.2.2.2.2.2.1,u6]/\AU a (Ha [.box ba0 [Aat r.2.1,No r.2.2] 86] O) w'/\Le (fz w (Ha [.box ba0 [Aat a0.1,No a0.2] 86] O)) (fz w' (Ha [.box ba0 [Aat r.2.1,No r.2.2] 86] O))/\AA .st (gz H a w' (Ha [.box ba0 [Aat r.2.1,No r.2.2] 86] O)) u1 (r.1.f.2.1)/\AA .byte (gz H a w' (Ha [.box ba0 [Aat r.2.1,No r.2.2] 86] O)) u3 (r.1.f.2.2.2.1)/\AA .Bg (gz H a w' (Ha [.box ba0 [Aat r.2.1,No r.2.2] 86] O)) u6 (r.1.f.2.2.2.2.2.2)) (AU a O w'/\Le (fz w (Ha [.box ba0 [Aat a0.1,No a0.2] 86] O)) (fz w' O)))){a w:World}{H:PH}(hH:Le H (hp a))(hU:EE H){O:List BE}{a0:Aaz×Int}{a1:Int}{a2:Aaz}{ba0:Nat}(hL:AU a (Ha [.box ba0 [Aat a0.1,No a0.2] 86] O) w){r:Option (Go.L.Qv×(Aaz×Int))}(h:EI self a0 a1 a2=some r):
  R8 prog 69 [Aas ba0,No a1,Aat a2,.func (.func 70) #[Aas ba0] #[]] w (.iface 82 (.agg #[])) (fun v w'=>Tv r v (fun r v=>∃ (u1:Value) (u3:Value) (u6:Value),v=.agg #[No r.1.f.1,u1,Aat r.1.f.2.2.1,u3,No r.1.f.2.2.2.2.1,No r.1.f.2.2.2.2.2.1,u6]/\AU a (Ha [.box ba0 [Aat r.2.1,No r.2.2] 86] O) w'/\Le (fz w (Ha [.box ba0 [Aat a0.1,No a0.2] 86] O)) (fz w' (Ha [.box ba0 [Aat r.2.1,No r.2.2] 86] O))/\AA .st (gz H a w' (Ha [.box ba0 [Aat r.2.1,No r.2.2] 86] O)) u1 (r.1.f.2.1)/\AA .byte (gz H a w' (Ha [.box ba0 [Aat r.2.1,No r.2.2] 86] O)) u3 (r.1.f.2.2.2.1)/\AA .Bg (gz H a w' (Ha [.box ba0 [Aat r.2.1,No r.2.2] 86] O)) u6 (r.1.f.2.2.2.2.2.2)) (AU a O w'/\Le (fz w (Ha [.box ba0 [Aat a0.1,No a0.2] 86] O)) (fz w' O))):=by
 refine Kp (n:=30) [(0,(Aas ba0)),(1,No a1),(2,(Aat a2)),(3,.func (.func 70) #[Aas ba0] #[])] func69 rfl rfl rfl rfl rfl ?_;have hT:=Le.refl (fz w (Ha [.box ba0 [Aat a0.1,No a0.2] 86] O));refine Ai<|A3 Bm rfl rfl hL fun w1 b1 bz aw _=>Ac<|Bs 1 rfl ?_;have b0:AU a (Ha [.box ba0 [Aat a0.1,No a0.2] 86,.box b1 Aa1 26] O) w1:=bz.CW [1] rfl;have ax:=B9 [1] bz b0 rfl;refine Aq h fun x3 cn h=>NZ [Aas ba0] [] rfl rfl rfl (hself (a0:=(a0.1,a0.2)) (O:=(Ha [.box b1 Aa1 26] O)) hH hU b0 cn) ?_ ?_
 ·rintro rfl w5 ⟨co,b3⟩;have h:=Il h;refine D5 ?_
  cases h
  refine Kf ?_;have cp:=co.AV (i:=0) rfl;have hT:=hT.trans (aw.trans (ax.trans (b3.trans (An (i:=0) rfl))));exact IW ⟨cp,hT⟩
 rintro y8 rfl _ w4 ⟨g,j,k,rfl,cq,bh,s,t,u⟩;have h:=Im h;refine A3 Bm rfl rfl cq fun w9 b9 cr ac _=>Ad 0 rfl Bm cr rfl (Bb rfl (Bb s.one (Bb rfl (Bb t.one (Bb rfl (Bb rfl (Bb u.one I8))))))) fun c2 ay x=>Ac ?_;have p:=ay.rG H;refine Ai<|Ah (A5 0 rfl AcR rfl Bm ay rfl) rfl ?_;have s:=s.mono (Aa hH (ac.trans x));have t:=t.mono (Aa hH (ac.trans x));have u:=u.mono (Aa hH (ac.trans x));refine L4 (r:=.Bg) (l:=[y8.1]) rfl (fun _=>KE _ _ _ _ _ _ _ _) rfl (B2 1) hH ay (.c7 (Go.E.Rp.GA ⟨_,_,rfl,rfl,⟨_,_,rfl,⟨_,rfl,(s.mono p)⟩,⟨_,_,rfl,rfl,⟨_,_,rfl,⟨_,rfl,(t.mono p)⟩,⟨_,_,rfl,rfl,⟨_,_,rfl,rfl,⟨_,rfl,(u.mono p)⟩⟩⟩⟩⟩⟩⟩) .nil) fun cs c3 b4 b5 ai b6=>A4 1 rfl ?_
 refine Bw (σ:=(List Go.L.Qv)×Aaz×Int×Value×(List Value)) (fun⟨am,a6,a7,ad,aa⟩=>[(1,No a1),(8,(Aas b1)),(9,(Aas b9)),(10,ad)]) (fun⟨am,a6,a7,ad,aa⟩ wr=>FL a (Ha [.row ad 26 7 (am).length aa,.box b9 [No y8.1.f.1,g,Aat y8.1.f.2.2.1,j,No y8.1.f.2.2.2.2.1,No y8.1.f.2.2.2.2.2.1,k] 26,.box ba0 [Aat a6,No a7] 86,.box b1 Aa1 26] O) wr fun Oz=>AF .Bg (gz H a wr Oz) am aa/\AA .st (gz H a wr Oz) g (y8.1.f.2.1)/\AA .byte (gz H a wr Oz) j (y8.1.f.2.2.2.1)/\AA .Bg (gz H a wr Oz) k (y8.1.f.2.2.2.2.2.2)/\Le (fz w (Ha [.box ba0 [Aat a0.1,No a0.2] 86] O)) (fz wr Oz)/\(DO a1 y8) am a6 a7=some r) ?_ ?_
 ·refine A2 ?_;obtain⟨bi,h⟩:=AY h;have hT:=hT.trans (aw.trans (ax.trans (bh.trans (ac.trans (x.trans ai)))));have p:=p.trans (Aa hH ai)
  refine B8 (σ:=(List Go.L.Qv)×Aaz×Int×Value×(List Value)×Nat) (fun⟨e,ae,af,o,c,n⟩=>[(0,(Aas ba0)),(1,No a1),(2,(Aat a2)),(3,.func (.func 70) #[Aas ba0] #[]),(8,(Aas b1)),(9,(Aas b9)),(10,o)]) (fun⟨e,ae,af,o,c,n⟩ wr=>FL a (Ha [.row o 26 7 (e).length c,.box b9 [No y8.1.f.1,g,Aat y8.1.f.2.2.1,j,No y8.1.f.2.2.2.2.1,No y8.1.f.2.2.2.2.2.1,k] 26,.box ba0 [Aat ae,No af] 86,.box b1 Aa1 26] O) wr fun Oz=>AF .Bg (gz H a wr Oz) e c/\AA .st (gz H a wr Oz) g (y8.1.f.2.1)/\AA .byte (gz H a wr Oz) j (y8.1.f.2.2.2.1)/\AA .Bg (gz H a wr Oz) k (y8.1.f.2.2.2.2.2.2)/\Le (fz w (Ha [.box ba0 [Aat a0.1,No a0.2] 86] O)) (fz wr Oz)/\GR (D2 a1 a2 self y8) n (e,ae,af)=some r) (fun⟨e,ae,af,o,c,n⟩=>n) ([y8.1],y8.2.1,y8.2.2,cs,b4,bi) (Sub.of rfl) ⟨b5,b6,(s.mono p),(t.mono p),(u.mono p),hT,h⟩ ?_;rintro⟨e,ae,af,o,c,nn71⟩ b7 ⟨az,a8,an,ao,ap,hT,h⟩
  obtain⟨bi,c4,rfl,h,a3⟩:=AX h;refine A9 ?_;have b:=az.rG H;refine Bs 2 rfl ?_;have bj:AU a (Ha [.box ba0 [Aat ae,No af] 86,.row o 26 7 (e).length c,.box b9 [No y8.1.f.1,g,Aat y8.1.f.2.2.1,j,No y8.1.f.2.2.2.2.1,No y8.1.f.2.2.2.2.2.1,k] 26,.box b1 Aa1 26] O) b7:=az.CW [2] rfl;have y:=B9 [2] az bj rfl;refine Aq h fun ag b8 h=>EL rfl rfl (BF (a0:=(ae,af)) (a1:=a2) (O:=(Ha [.row o 26 7 (e).length c,.box b9 [No y8.1.f.1,g,Aat y8.1.f.2.2.1,j,No y8.1.f.2.2.2.2.1,No y8.1.f.2.2.2.2.2.1,k] 26,.box b1 Aa1 26] O)) hH bj b8) ?_;rintro _ ct ⟨rfl,a4,z⟩;refine Ac<|By rfl h (fun ca h=>?_) (fun ca h=>?_)
  ·refine Au<|Ar<|A2<|Av<|As 2 rfl<|Aq h fun c5 cb h=>NZ [Aas ba0] [] rfl rfl rfl (hself (a0:=(ag.2.1,ag.2.2)) (O:=(Ha [.row o 26 7 (e).length c,.box b9 [No y8.1.f.1,g,Aat y8.1.f.2.2.1,j,No y8.1.f.2.2.2.2.1,No y8.1.f.2.2.2.2.2.1,k] 26,.box b1 Aa1 26] O)) hH hU a4 cb) ?_ ?_
   ·rintro rfl c6 ⟨cc,bs⟩;have h:=Il h;refine Fx<|Nv ?_;have h:=CV.out h a3;refine Fx<|L8 ?_
    cases h
    refine Kf ?_;have cd:=cc.AV (i:=0) rfl;have ce:=cd.AV (i:=0) rfl;have cf:=ce.AV (i:=0) rfl;have hT:=hT.trans (y.trans (z.trans (bs.trans ((An (i:=0) rfl).trans ((An (i:=0) rfl).trans (An (i:=0) rfl))))));exact IW ⟨cf,hT⟩
   rintro y86 rfl _ c8 ⟨cv,cw,cx,rfl,cg,a9,bk,bl,bm⟩;have h:=Im h;refine Br (r:=.Bg) (l:=[y86.1]) rfl (fun _=>KE _ _ _ _ _ _ _ _) rfl (B2 1) hH cg (.c7 (Go.E.Rp.GA ⟨_,_,rfl,rfl,⟨_,_,rfl,⟨_,rfl,bk⟩,⟨_,_,rfl,rfl,⟨_,_,rfl,⟨_,rfl,bl⟩,⟨_,_,rfl,rfl,⟨_,_,rfl,rfl,⟨_,rfl,bm⟩⟩⟩⟩⟩⟩⟩) .nil) fun c9 da cz ch ba ci=>AB h fun cj h=>?_;have b:=b.trans (Aa hH (y.trans (z.trans (a9.trans ba))));refine Bi (r:=.Bg) (l:=e) (m:=[y86.1]) 1 rfl rfl Adj Bm rfl (by decide) rfl hH ch rfl (a8.mono b) ci cj fun b2 cu bn bo bb a5=>As 1 rfl<|AQ<|AJ ?_;have bp:AU a (Ha [.row b2 26 7 ((e++[y86.1])).length bn,.box b9 [No y8.1.f.1,g,Aat y8.1.f.2.2.1,j,No y8.1.f.2.2.2.2.1,No y8.1.f.2.2.2.2.2.1,k] 26,.box ba0 [Aat y86.2.1,No y86.2.2] 86,.box b1 Aa1 26] O) cu:=bo.CW [2,2] rfl;have aj:=B9 [2,2] bo bp rfl;have h:=CV.again h a3;have hT:=hT.trans (y.trans (z.trans (a9.trans (ba.trans (bb.trans aj)))))
   have b:=b.trans (Aa hH (bb.trans aj));have a5:=a5.mono (Aa hH aj);refine AW ((e++[y86.1]),y86.2.1,y86.2.2,b2,bn,bi) (Sub.of rfl) ⟨bp,a5,(an.mono b),(ao.mono b),(ap.mono b),hT,h⟩ (Nat.lt_succ_self _)
  refine B5<|AE<|A7 ?_;have h:=CV.out h a3;refine Bk ?_;have bq:AU a (Ha [.row o 26 7 (e).length c,.box b9 [No y8.1.f.1,g,Aat y8.1.f.2.2.1,j,No y8.1.f.2.2.2.2.1,No y8.1.f.2.2.2.2.2.1,k] 26,.box ba0 [Aat ag.2.1,No ag.2.2] 86,.box b1 Aa1 26] O) ct:=a4.CW [2,2] rfl;have bc:=B9 [2,2] a4 bq rfl;have b:=b.trans (Aa hH (y.trans (z.trans bc)));have hT:=hT.trans (y.trans (z.trans bc));refine A6 (e,ag.2.1,ag.2.2,o,c) (Sub.of rfl) ⟨bq,(a8.mono b),(an.mono b),(ao.mono b),(ap.mono b),hT,h⟩
 have hT:=hT.trans (aw.trans (ax.trans (bh.trans (ac.trans (x.trans ai)))));rintro⟨am,a6,a7,ad,aa⟩ c0 ⟨q,bt,aq,ar,au,hT,h⟩;refine A9 ?_;have d:=q.rG H;refine Bs 1 rfl<|Ah (O7 (i:=0) rfl Adj q rfl) rfl<|A4 1 rfl<|AO rfl h (fun ck h=>?_) (fun ck h=>?_)
 ·refine Ai<|Ah (A5 1 rfl AcR rfl Bm q rfl) rfl<|Ad 3 rfl Bm q rfl (Bb rfl (Bb (aq.mono d).one (Bb rfl (Bb (ar.mono d).one (Bb rfl (Bb rfl (Bb (au.mono d).one I8))))))) fun db br bd=>Ac<|Ax<|Ay ?_
  cases h
  refine Ke<|CM rfl (.cell rfl AcR rfl Bm (AG (i:=3) br rfl)) ?_;have cl:=br.AV (i:=0) rfl;have cm:=cl.AV (i:=0) rfl;have bu:=cm.AV (i:=1) rfl;have d:=d.trans (Aa hH (bd.trans ((An (i:=0) rfl).trans ((An (i:=0) rfl).trans (An (i:=1) rfl)))));have hT:=hT.trans (bd.trans ((An (i:=0) rfl).trans ((An (i:=0) rfl).trans (An (i:=1) rfl))));exact Io ⟨g,j,k,rfl,bu,hT,(aq.mono d),(ar.mono d),(au.mono d)⟩
 refine Au<|Ar<|Bs 2 rfl<|Ah (AN rfl (fun _=>Lc _ _ (row_one (q.at (i:=0) rfl)) _)) rfl<|Ad 3 rfl Bm q rfl (Bb rfl (Bb rfl (Bb rfl (Bb rfl (Bb rfl (Bb rfl (Bb (row_one (q.at (i:=0) rfl)) I8))))))) fun c1 ak av=>Ac<|Ax ?_
 cases h
 refine Ke<|CM rfl (.cell rfl AcR rfl Bm (AG (i:=3) ak rfl)) ?_;have d:=d.trans (Aa hH av);have al:=ak.C8 hH (i:=0) rfl (bt.mono d);have bv:=ak.AV (i:=0) rfl;have bw:=bv.AV (i:=0) rfl;have bx:=bw.AV (i:=1) rfl;have hT:=hT.trans (av.trans ((An (i:=0) rfl).trans ((An (i:=0) rfl).trans (An (i:=1) rfl))));have al:=al.mono (Aa hH ((An (i:=0) rfl).trans (An (i:=1) rfl)));exact Io ⟨Aaq,Aaq,ad,rfl,bx,hT,(AA.nil _ _),(AA.nil _ _),al⟩
def Ed(self:(Aaz×Int)->Option (Option (Go.L.Qv×(Aaz×Int))))(a0_0:Aaz×Int):Option (Option (Go.L.Qv×(Aaz×Int))):=
 Option.bind (EI self (a0_0.1,a0_0.2) (8:Int) ([38]:Aaz)) (fun a=>Um a (some none) (fun y9=>some (some (y9.1,(y9.2.1,y9.2.2)))))
theorem It{self:(Aaz×Int)->Option (Option (Go.L.Qv×(Aaz×Int)))}(hself:∀ {a w:World} {H:PH} (hH:Le H (hp a)) (hU:EE H) {O:List BE} {a0:Aaz×Int} {ba0:Nat} (hL:AU a (Ha [.box ba0 [Aat a0.1,No a0.2] 86] O) w) {r:Option (Go.L.Qv×(Aaz×Int))} (h:self a0=some r),R8 prog 70 [Aas ba0] w (.iface 82 (.agg #[])) (fun v w'=>Tv r v (fun r v=>∃ (j:Value) (k:Value) (l:Value),v=.agg #[No r.1.f.1,j,Aat r.1.f.2.2.1,k,No r.1.f.2.2.2.2.1,No r.1.f.2.2.2.2.2.1,l]/\AU a (Ha [.box ba0 [Aat r.2.1,No r.2.2] 86] O) w'/\Le (fz w (Ha [.box ba0 [Aat a0.1,No a0.2] 86] O)) (fz w' (Ha [.box ba0 [Aat r.2.1,No r.2.2] 86] O))/\AA .st (gz H a w' (Ha [.box ba0 [Aat r.2.1,No r.2.2] 86] O)) j (r.1.f.2.1)/\AA .byte (gz H a w' (Ha [.box ba0 [Aat r.2.1,No r.2.2] 86] O)) k (r.1.f.2.2.2.1)/\AA .Bg (gz H a w' (Ha [.box ba0 [Aat r.2.1,No r.2.2] 86] O)) l (r.1.f.2.2.2.2.2.2)) (AU a O w'/\Le (fz w (Ha [.box ba0 [Aat a0.1,No a0.2] 86] O)) (fz w' O)))){a w:World}{H:PH}(hH:Le H (hp a))(hU:EE H){O:List BE}{a0_0:Aaz×Int}{ba0 ba0_0:Nat}(hL:AU a (Ha [.box ba0 [Aas ba0_0] 84,.box ba0_0 [Aat a0_0.1,No a0_0.2] 86] O) w){r:Option (Go.L.Qv×(Aaz×Int))}(h:Ed self a0_0=some r):
  R8 prog 68 [Aas ba0] w (.iface 82 (.agg #[])) (fun v w'=>Tv r v (fun r v=>∃ (j:Value) (k:Value) (l:Value),v=.agg #[No r.1.f.1,j,Aat r.1.f.2.2.1,k,No r.1.f.2.2.2.2.1,No r.1.f.2.2.2.2.2.1,l]/\AU a (Ha [.box ba0 [Aas ba0_0] 84,.box ba0_0 [Aat r.2.1,No r.2.2] 86] O) w'/\Le (fz w (Ha [.box ba0 [Aas ba0_0] 84,.box ba0_0 [Aat a0_0.1,No a0_0.2] 86] O)) (fz w' (Ha [.box ba0 [Aas ba0_0] 84,.box ba0_0 [Aat r.2.1,No r.2.2] 86] O))/\AA .st (gz H a w' (Ha [.box ba0 [Aas ba0_0] 84,.box ba0_0 [Aat r.2.1,No r.2.2] 86] O)) j (r.1.f.2.1)/\AA .byte (gz H a w' (Ha [.box ba0 [Aas ba0_0] 84,.box ba0_0 [Aat r.2.1,No r.2.2] 86] O)) k (r.1.f.2.2.2.1)/\AA .Bg (gz H a w' (Ha [.box ba0 [Aas ba0_0] 84,.box ba0_0 [Aat r.2.1,No r.2.2] 86] O)) l (r.1.f.2.2.2.2.2.2)) (AU a O w'/\Le (fz w (Ha [.box ba0 [Aas ba0_0] 84,.box ba0_0 [Aat a0_0.1,No a0_0.2] 86] O)) (fz w' O))):=by
 refine Kp (n:=6) [(0,(Aas ba0))] func68 rfl rfl rfl rfl rfl ?_;have hT:=Le.refl (fz w (Ha [.box ba0 [Aas ba0_0] 84,.box ba0_0 [Aat a0_0.1,No a0_0.2] 86] O));refine Ai<|A3 Bm rfl rfl hL fun w1 b1 m o _=>Ac<|Ai ?_
 iterate 2 refine Ah (Ag 1 rfl Adq rfl m rfl) rfl ?_
 refine As 1 rfl ?_;have u:AU a (Ha [.box ba0_0 [Aat a0_0.1,No a0_0.2] 86,.box b1 Aa1 26,.box ba0 [Aas ba0_0] 84] O) w1:=m.CW [2] rfl;have p:=B9 [2] m u rfl;refine Aq h fun x3 ad h=>KY rfl rfl (K8 (hself:=hself) (a0:=(a0_0.1,a0_0.2)) (a1:=8) (a2:=([38]:Aaz)) (O:=(Ha [.box b1 Aa1 26,.box ba0 [Aas ba0_0] 84] O)) hH hU u ad) ?_ ?_
 ·rintro rfl w5 ⟨ae,x⟩;have h:=Il h;refine D5 ?_
  cases h
  refine Kf ?_;have af:=ae.AV (i:=0) rfl;have ag:=af.AV (i:=0) rfl;have hT:=hT.trans (o.trans (p.trans (x.trans ((An (i:=0) rfl).trans (An (i:=0) rfl)))));exact IW ⟨ag,hT⟩
 rintro y9 rfl _ w4 ⟨y,z,aa,rfl,ah,ab,b,c,d⟩;have h:=Im h;refine Ad 1 rfl Bm ah rfl (Bb rfl (Bb b.one (Bb rfl (Bb c.one (Bb rfl (Bb rfl (Bb d.one I8))))))) fun ai q e=>Ac<|Ax ?_
 cases h
 refine Ke<|CM rfl (.cell rfl AcR rfl Bm (AG (i:=1) q rfl)) ?_;have s:=q.AV (i:=1) rfl;have t:AU a (Ha [.box ba0 [Aas ba0_0] 84,.box ba0_0 [Aat y9.2.1,No y9.2.2] 86] O) ai:=s.CW [1] rfl;have g:=B9 [1] s t rfl;have hT:=hT.trans (o.trans (p.trans (ab.trans (e.trans ((An (i:=1) rfl).trans g)))));have b:=b.mono (Aa hH (e.trans ((An (i:=1) rfl).trans g)));have c:=c.mono (Aa hH (e.trans ((An (i:=1) rfl).trans g)));have d:=d.mono (Aa hH (e.trans ((An (i:=1) rfl).trans g)));exact Io ⟨y,z,aa,rfl,t,hT,b,c,d⟩
def EJ(a1:Int)(y8:Go.L.Qv×(Aaz×Int))(a:List Go.L.Qv)(b:Aaz)(c:Int):Option (Option (Go.L.Qv×(Aaz×Int))):=
 if(a.length:Int)=1 then some (some (y8.1,(b,c))) else some (some ((Go.L.Qv.mk a1 ([]) ([]:Aaz) ([]) (0:Int) (0:Int) a),(b,c)))
def Ew(a1:Int)(a2:Aaz)(self:(Aaz×Int)->Option (Option (Go.L.Qv×(Aaz×Int))))(y8:Go.L.Qv×(Aaz×Int)):(List Go.L.Qv)×Aaz×Int->Option (((List Go.L.Qv)×Aaz×Int) ⊕ (Option (Go.L.Qv×(Aaz×Int)))):=fun⟨b,c,d⟩=>
 Option.bind (B4 (c,d) a2) (fun a=>if a.1 then Option.bind (Ed self (a.2.1,a.2.2)) (fun e=>Um e (Option.map Sum.inr (some none)) (fun y90=>Bh (Go.E.Ij 112 (b.length+([y90.1]).length)) (some (Sum.inl ((b++[y90.1]),y90.2.1,y90.2.2))))) else Option.map Sum.inr ((EJ a1 y8) b a.2.1 a.2.2))
def G7(a1:Int)(a2:Aaz)(self:(Aaz×Int)->Option (Option (Go.L.Qv×(Aaz×Int))))(y8:Go.L.Qv×(Aaz×Int))(s:(List Go.L.Qv)×Aaz×Int):Option (Option (Go.L.Qv×(Aaz×Int))):=Go.L.run (Ew a1 a2 self y8) s
def Gj(self:(Aaz×Int)->Option (Option (Go.L.Qv×(Aaz×Int))))(a0:Aaz×Int)(a1:Int)(a2:Aaz):Option (Option (Go.L.Qv×(Aaz×Int))):=
 Option.bind (Ed self (a0.1,a0.2)) (fun a=>Um a (some none) (fun y8=>(G7 a1 a2 self y8) ([y8.1],y8.2.1,y8.2.2)))
theorem Lv{self:(Aaz×Int)->Option (Option (Go.L.Qv×(Aaz×Int)))}(hself:∀ {a w:World} {H:PH} (hH:Le H (hp a)) (hU:EE H) {O:List BE} {a0:Aaz×Int} {ba0:Nat} (hL:AU a (Ha [.box ba0 [Aat a0.1,No a0.2] 86] O) w) {r:Option (Go.L.Qv×(Aaz×Int))} (h:self a0=some r),R8 prog 70 [Aas ba0] w (.iface 82 (.agg #[])) (fun v w'=>Tv r v (fun r v=>∃ (u1:Value) (u3:Value) (u6:Value),v=.agg #[No r.1.f.1,u1,Aat r.1.f.2.2.1,u3,No r.1.f.2.2.2.2.1,No r.1.f.2.2.2.2.2.1,u6]/\AU a (Ha [.box ba0 [Aat r.2.1,No r.2.2] 86] O) w'/\Le (fz w (Ha [.box ba0 [Aat a0.1,No a0.2] 86] O)) (fz w' (Ha [.box ba0 [Aat r.2.1,No r.2.2] 86] O))/\AA .st (gz H a w' (Ha [.box ba0 [Aat r.2.1,No r.2.2] 86] O)) u1 (r.1.f.2.1)/\AA .byte (gz H a w' (Ha [.box ba0 [Aat r.2.1,No r.2.2] 86] O)) u3 (r.1.f.2.2.2.1)/\AA .Bg (gz H a w' (Ha [.box ba0 [Aat r.2.1,No r.2.2] 86] O)) u6 (r.1.f.2.2.2.2.2.2)) (AU a O w'/\Le (fz w (Ha [.box ba0 [Aat a0.1,No a0.2] 86] O)) (fz w' O)))){a w:World}{H:PH}(hH:Le H (hp a))(hU:EE H){O:List BE}{a0:Aaz×Int}{a1:Int}{a2:Aaz}{ba0 ba3_c0:Nat}(hL:AU a (Ha [.box ba0 [Aat a0.1,No a0.2] 86,.box ba3_c0 [Aas ba0] 84] O) w){r:Option (Go.L.Qv×(Aaz×Int))}(h:Gj self a0 a1 a2=some r):
  R8 prog 69 [Aas ba0,No a1,Aat a2,.func (.func 68) #[] #[Aas ba3_c0]] w (.iface 82 (.agg #[])) (fun v w'=>Tv r v (fun r v=>∃ (u1:Value) (u3:Value) (u6:Value),v=.agg #[No r.1.f.1,u1,Aat r.1.f.2.2.1,u3,No r.1.f.2.2.2.2.1,No r.1.f.2.2.2.2.2.1,u6]/\AU a (Ha [.box ba0 [Aat r.2.1,No r.2.2] 86,.box ba3_c0 [Aas ba0] 84] O) w'/\Le (fz w (Ha [.box ba0 [Aat a0.1,No a0.2] 86,.box ba3_c0 [Aas ba0] 84] O)) (fz w' (Ha [.box ba0 [Aat r.2.1,No r.2.2] 86,.box ba3_c0 [Aas ba0] 84] O))/\AA .st (gz H a w' (Ha [.box ba0 [Aat r.2.1,No r.2.2] 86,.box ba3_c0 [Aas ba0] 84] O)) u1 (r.1.f.2.1)/\AA .byte (gz H a w' (Ha [.box ba0 [Aat r.2.1,No r.2.2] 86,.box ba3_c0 [Aas ba0] 84] O)) u3 (r.1.f.2.2.2.1)/\AA .Bg (gz H a w' (Ha [.box ba0 [Aat r.2.1,No r.2.2] 86,.box ba3_c0 [Aas ba0] 84] O)) u6 (r.1.f.2.2.2.2.2.2)) (AU a O w'/\Le (fz w (Ha [.box ba0 [Aat a0.1,No a0.2] 86,.box ba3_c0 [Aas ba0] 84] O)) (fz w' O))):=by
 refine Kp (n:=30) [(0,(Aas ba0)),(1,No a1),(2,(Aat a2)),(3,.func (.func 68) #[] #[Aas ba3_c0])] func69 rfl rfl rfl rfl rfl ?_;have hT:=Le.refl (fz w (Ha [.box ba0 [Aat a0.1,No a0.2] 86,.box ba3_c0 [Aas ba0] 84] O));refine Ai<|A3 Bm rfl rfl hL fun w1 b1 cd a6 _=>Ac<|Bs 1 rfl ?_;have ce:AU a (Ha [.box ba3_c0 [Aas ba0] 84,.box ba0 [Aat a0.1,No a0.2] 86,.box b1 Aa1 26] O) w1:=cd.CW [1,2] rfl;have a7:=B9 [1,2] cd ce rfl;refine Aq h fun x3 cy h=>NZ [] [Aas ba3_c0] rfl rfl rfl (It (hself:=hself) (a0_0:=(a0.1,a0.2)) (O:=(Ha [.box b1 Aa1 26] O)) hH hU ce cy) ?_ ?_
 ·rintro rfl w5 ⟨cz,cg⟩;have h:=Il h;refine D5 ?_
  cases h
  refine Kf ?_;have c0:=cz.AV (i:=0) rfl;have hT:=hT.trans (a6.trans (a7.trans (cg.trans (An (i:=0) rfl))));exact IW ⟨c0,hT⟩
 rintro y8 rfl _ w4 ⟨d,e,g,rfl,c1,br,t,u,x⟩;have h:=Im h;refine A3 Bm rfl rfl c1 fun w9 b9 c2 ae _=>Ad 0 rfl Bm c2 rfl (Bb rfl (Bb t.one (Bb rfl (Bb u.one (Bb rfl (Bb rfl (Bb x.one I8))))))) fun dc a8 y=>Ac ?_;have p:=a8.rG H;refine Ai<|Ah (A5 0 rfl AcR rfl Bm a8 rfl) rfl ?_;have t:=t.mono (Aa hH (ae.trans y));have u:=u.mono (Aa hH (ae.trans y));have x:=x.mono (Aa hH (ae.trans y));refine L4 (r:=.Bg) (l:=[y8.1]) rfl (fun _=>KE _ _ _ _ _ _ _ _) rfl (B2 1) hH a8 (.c7 (Go.E.Rp.GA ⟨_,_,rfl,rfl,⟨_,_,rfl,⟨_,rfl,(t.mono p)⟩,⟨_,_,rfl,rfl,⟨_,_,rfl,⟨_,rfl,(u.mono p)⟩,⟨_,_,rfl,rfl,⟨_,_,rfl,rfl,⟨_,rfl,(x.mono p)⟩⟩⟩⟩⟩⟩⟩) .nil) fun c3 dd ch ci ak cj=>A4 1 rfl ?_
 refine Bw (σ:=(List Go.L.Qv)×Aaz×Int×Value×(List Value)) (fun⟨aq,ai,aj,af,ac⟩=>[(1,No a1),(8,(Aas b1)),(9,(Aas b9)),(10,af)]) (fun⟨aq,ai,aj,af,ac⟩ wr=>FL a (Ha [.row af 26 7 (aq).length ac,.box b9 [No y8.1.f.1,d,Aat y8.1.f.2.2.1,e,No y8.1.f.2.2.2.2.1,No y8.1.f.2.2.2.2.2.1,g] 26,.box ba3_c0 [Aas ba0] 84,.box ba0 [Aat ai,No aj] 86,.box b1 Aa1 26] O) wr fun Oz=>AF .Bg (gz H a wr Oz) aq ac/\AA .st (gz H a wr Oz) d (y8.1.f.2.1)/\AA .byte (gz H a wr Oz) e (y8.1.f.2.2.2.1)/\AA .Bg (gz H a wr Oz) g (y8.1.f.2.2.2.2.2.2)/\Le (fz w (Ha [.box ba0 [Aat a0.1,No a0.2] 86,.box ba3_c0 [Aas ba0] 84] O)) (fz wr Oz)/\(EJ a1 y8) aq ai aj=some r) ?_ ?_
 ·refine A2 ?_;obtain⟨bs,h⟩:=AY h;have hT:=hT.trans (a6.trans (a7.trans (br.trans (ae.trans (y.trans ak)))));have p:=p.trans (Aa hH ak)
  refine B8 (σ:=(List Go.L.Qv)×Aaz×Int×Value×(List Value)×Nat) (fun⟨k,ag,ah,j,b,n⟩=>[(0,(Aas ba0)),(1,No a1),(2,(Aat a2)),(3,.func (.func 68) #[] #[Aas ba3_c0]),(8,(Aas b1)),(9,(Aas b9)),(10,j)]) (fun⟨k,ag,ah,j,b,n⟩ wr=>FL a (Ha [.row j 26 7 (k).length b,.box b9 [No y8.1.f.1,d,Aat y8.1.f.2.2.1,e,No y8.1.f.2.2.2.2.1,No y8.1.f.2.2.2.2.2.1,g] 26,.box ba3_c0 [Aas ba0] 84,.box ba0 [Aat ag,No ah] 86,.box b1 Aa1 26] O) wr fun Oz=>AF .Bg (gz H a wr Oz) k b/\AA .st (gz H a wr Oz) d (y8.1.f.2.1)/\AA .byte (gz H a wr Oz) e (y8.1.f.2.2.2.1)/\AA .Bg (gz H a wr Oz) g (y8.1.f.2.2.2.2.2.2)/\Le (fz w (Ha [.box ba0 [Aat a0.1,No a0.2] 86,.box ba3_c0 [Aas ba0] 84] O)) (fz wr Oz)/\GR (Ew a1 a2 self y8) n (k,ag,ah)=some r) (fun⟨k,ag,ah,j,b,n⟩=>n) ([y8.1],y8.2.1,y8.2.2,c3,ch,bs) (Sub.of rfl) ⟨ci,cj,(t.mono p),(u.mono p),(x.mono p),hT,h⟩ ?_
  rintro⟨k,ag,ah,j,b,nn74⟩ ck ⟨a9,bd,ar,au,av,hT,h⟩;obtain⟨bs,de,rfl,h,ba⟩:=AX h;refine A9 ?_;have c:=a9.rG H;refine Bs 2 rfl ?_;have bt:AU a (Ha [.box ba0 [Aat ag,No ah] 86,.row j 26 7 (k).length b,.box b9 [No y8.1.f.1,d,Aat y8.1.f.2.2.1,e,No y8.1.f.2.2.2.2.1,No y8.1.f.2.2.2.2.2.1,g] 26,.box ba3_c0 [Aas ba0] 84,.box b1 Aa1 26] O) ck:=a9.CW [3] rfl;have z:=B9 [3] a9 bt rfl;refine Aq h fun q cl h=>EL rfl rfl (BF (a0:=(ag,ah)) (a1:=a2) (O:=(Ha [.row j 26 7 (k).length b,.box b9 [No y8.1.f.1,d,Aat y8.1.f.2.2.1,e,No y8.1.f.2.2.2.2.1,No y8.1.f.2.2.2.2.2.1,g] 26,.box ba3_c0 [Aas ba0] 84,.box b1 Aa1 26] O)) hH bt cl) ?_;rintro _ bu ⟨rfl,al,aa⟩;refine Ac<|By rfl h (fun cm h=>?_) (fun cm h=>?_)
  ·refine Au<|Ar<|A2<|Av<|As 2 rfl ?_;have bv:AU a (Ha [.box ba3_c0 [Aas ba0] 84,.box ba0 [Aat q.2.1,No q.2.2] 86,.row j 26 7 (k).length b,.box b9 [No y8.1.f.1,d,Aat y8.1.f.2.2.1,e,No y8.1.f.2.2.2.2.1,No y8.1.f.2.2.2.2.2.1,g] 26,.box b1 Aa1 26] O) bu:=al.CW [3] rfl;have am:=B9 [3] al bv rfl;refine Aq h fun df cn h=>NZ [] [Aas ba3_c0] rfl rfl rfl (It (hself:=hself) (a0_0:=(q.2.1,q.2.2)) (O:=(Ha [.row j 26 7 (k).length b,.box b9 [No y8.1.f.1,d,Aat y8.1.f.2.2.1,e,No y8.1.f.2.2.2.2.1,No y8.1.f.2.2.2.2.2.1,g] 26,.box b1 Aa1 26] O)) hH hU bv cn) ?_ ?_
   ·rintro rfl dg ⟨co,b5⟩;have h:=Il h;refine Fx<|Nv ?_;have h:=CV.out h ba;refine Fx<|L8 ?_
    cases h
    refine Kf ?_;have cp:=co.AV (i:=0) rfl;have cq:=cp.AV (i:=0) rfl;have cr:=cq.AV (i:=0) rfl;have hT:=hT.trans (z.trans (aa.trans (am.trans (b5.trans ((An (i:=0) rfl).trans ((An (i:=0) rfl).trans (An (i:=0) rfl)))))));exact IW ⟨cr,hT⟩
   rintro y90 rfl _ dh ⟨c5,c6,c8,rfl,cs,be,bw,bx,bz⟩;have h:=Im h;refine Br (r:=.Bg) (l:=[y90.1]) rfl (fun _=>KE _ _ _ _ _ _ _ _) rfl (B2 1) hH cs (.c7 (Go.E.Rp.GA ⟨_,_,rfl,rfl,⟨_,_,rfl,⟨_,rfl,bw⟩,⟨_,_,rfl,rfl,⟨_,_,rfl,⟨_,rfl,bx⟩,⟨_,_,rfl,rfl,⟨_,_,rfl,rfl,⟨_,rfl,bz⟩⟩⟩⟩⟩⟩⟩) .nil) fun di dj da ct bf cu=>AB h fun cv h=>?_;have c:=c.trans (Aa hH (z.trans (aa.trans (am.trans (be.trans bf)))));refine Bi (r:=.Bg) (l:=k) (m:=[y90.1]) 2 rfl rfl Adj Bm rfl (by decide) rfl hH ct rfl (bd.mono c) cu cv fun cf c4 b0 b2 bg bb=>As 1 rfl<|AQ<|AJ ?_;have b3:AU a (Ha [.row cf 26 7 ((k++[y90.1])).length b0,.box b9 [No y8.1.f.1,d,Aat y8.1.f.2.2.1,e,No y8.1.f.2.2.2.2.1,No y8.1.f.2.2.2.2.2.1,g] 26,.box ba3_c0 [Aas ba0] 84,.box ba0 [Aat y90.2.1,No y90.2.2] 86,.box b1 Aa1 26] O) c4:=b2.CW [3,3] rfl;have an:=B9 [3,3] b2 b3 rfl;have h:=CV.again h ba
   have hT:=hT.trans (z.trans (aa.trans (am.trans (be.trans (bf.trans (bg.trans an))))));have c:=c.trans (Aa hH (bg.trans an));have bb:=bb.mono (Aa hH an);refine AW ((k++[y90.1]),y90.2.1,y90.2.2,cf,b0,bs) (Sub.of rfl) ⟨b3,bb,(ar.mono c),(au.mono c),(av.mono c),hT,h⟩ (Nat.lt_succ_self _)
  refine B5<|AE<|A7 ?_;have h:=CV.out h ba;refine Bk ?_;have bc:AU a (Ha [.box b9 [No y8.1.f.1,d,Aat y8.1.f.2.2.1,e,No y8.1.f.2.2.2.2.1,No y8.1.f.2.2.2.2.2.1,g] 26,.box ba3_c0 [Aas ba0] 84,.box ba0 [Aat q.2.1,No q.2.2] 86,.row j 26 7 (k).length b,.box b1 Aa1 26] O) bu:=al.CW [3,3] rfl;have bh:=B9 [3,3] al bc rfl;have b4:AU a (Ha [.row j 26 7 (k).length b,.box b9 [No y8.1.f.1,d,Aat y8.1.f.2.2.1,e,No y8.1.f.2.2.2.2.1,No y8.1.f.2.2.2.2.2.1,g] 26,.box ba3_c0 [Aas ba0] 84,.box ba0 [Aat q.2.1,No q.2.2] 86,.box b1 Aa1 26] O) bu:=bc.CW [3] rfl;have bi:=B9 [3] bc b4 rfl;have c:=c.trans (Aa hH (z.trans (aa.trans (bh.trans bi))));have hT:=hT.trans (z.trans (aa.trans (bh.trans bi)))
  refine A6 (k,q.2.1,q.2.2,j,b) (Sub.of rfl) ⟨b4,(bd.mono c),(ar.mono c),(au.mono c),(av.mono c),hT,h⟩
 have hT:=hT.trans (a6.trans (a7.trans (br.trans (ae.trans (y.trans ak)))));rintro⟨aq,ai,aj,af,ac⟩ db ⟨s,b6,aw,ax,ay,hT,h⟩;refine A9 ?_;have o:=s.rG H;refine Bs 1 rfl<|Ah (O7 (i:=0) rfl Adj s rfl) rfl<|A4 1 rfl<|AO rfl h (fun b7 h=>?_) (fun b7 h=>?_)
 ·refine Ai<|Ah (A5 1 rfl AcR rfl Bm s rfl) rfl<|Ad 4 rfl Bm s rfl (Bb rfl (Bb (aw.mono o).one (Bb rfl (Bb (ax.mono o).one (Bb rfl (Bb rfl (Bb (ay.mono o).one I8))))))) fun cw bj az=>Ac<|Ax<|Ay ?_
  cases h
  refine Ke<|CM rfl (.cell rfl AcR rfl Bm (AG (i:=4) bj rfl)) ?_;have b8:=bj.AV (i:=0) rfl;have ca:=b8.AV (i:=0) rfl;have bk:=ca.AV (i:=2) rfl;have bl:AU a (Ha [.box ba0 [Aat ai,No aj] 86,.box ba3_c0 [Aas ba0] 84] O) cw:=bk.CW [1] rfl;have a3:=B9 [1] bk bl rfl;have o:=o.trans (Aa hH (az.trans ((An (i:=0) rfl).trans ((An (i:=0) rfl).trans ((An (i:=2) rfl).trans a3)))));have hT:=hT.trans (az.trans ((An (i:=0) rfl).trans ((An (i:=0) rfl).trans ((An (i:=2) rfl).trans a3))));exact Io ⟨d,e,g,rfl,bl,hT,(aw.mono o),(ax.mono o),(ay.mono o)⟩
 refine Au<|Ar<|Bs 2 rfl<|Ah (AN rfl (fun _=>Lc _ _ (row_one (s.at (i:=0) rfl)) _)) rfl<|Ad 4 rfl Bm s rfl (Bb rfl (Bb rfl (Bb rfl (Bb rfl (Bb rfl (Bb rfl (Bb (row_one (s.at (i:=0) rfl)) I8))))))) fun cx ao a4=>Ac<|Ax ?_
 cases h
 refine Ke<|CM rfl (.cell rfl AcR rfl Bm (AG (i:=4) ao rfl)) ?_;have o:=o.trans (Aa hH a4);have ap:=ao.C8 hH (i:=0) rfl (b6.mono o);have cb:=ao.AV (i:=0) rfl;have cc:=cb.AV (i:=0) rfl;have bm:=cc.AV (i:=2) rfl;have bn:AU a (Ha [.box ba0 [Aat ai,No aj] 86,.box ba3_c0 [Aas ba0] 84] O) cx:=bm.CW [1] rfl;have a5:=B9 [1] bm bn rfl;have hT:=hT.trans (a4.trans ((An (i:=0) rfl).trans ((An (i:=0) rfl).trans ((An (i:=2) rfl).trans a5))));have ap:=ap.mono (Aa hH ((An (i:=0) rfl).trans ((An (i:=2) rfl).trans a5)));exact Io ⟨Aaq,Aaq,af,rfl,bn,hT,(AA.nil _ _),(AA.nil _ _),ap⟩
def Fa(self:(Aaz×Int)->Option (Option (Go.L.Qv×(Aaz×Int))))(a0:Aaz×Int):Option (Option (Go.L.Qv×(Aaz×Int))):=
 Option.bind (Gj self (a0.1,a0.2) (9:Int) ([124]:Aaz)) (fun a=>Um a (some none) (fun y9=>some (some (y9.1,(y9.2.1,y9.2.2)))))
theorem Jl{self:(Aaz×Int)->Option (Option (Go.L.Qv×(Aaz×Int)))}(hself:∀ {a w:World} {H:PH} (hH:Le H (hp a)) (hU:EE H) {O:List BE} {a0:Aaz×Int} {ba0:Nat} (hL:AU a (Ha [.box ba0 [Aat a0.1,No a0.2] 86] O) w) {r:Option (Go.L.Qv×(Aaz×Int))} (h:self a0=some r),R8 prog 70 [Aas ba0] w (.iface 82 (.agg #[])) (fun v w'=>Tv r v (fun r v=>∃ (g:Value) (j:Value) (k:Value),v=.agg #[No r.1.f.1,g,Aat r.1.f.2.2.1,j,No r.1.f.2.2.2.2.1,No r.1.f.2.2.2.2.2.1,k]/\AU a (Ha [.box ba0 [Aat r.2.1,No r.2.2] 86] O) w'/\Le (fz w (Ha [.box ba0 [Aat a0.1,No a0.2] 86] O)) (fz w' (Ha [.box ba0 [Aat r.2.1,No r.2.2] 86] O))/\AA .st (gz H a w' (Ha [.box ba0 [Aat r.2.1,No r.2.2] 86] O)) g (r.1.f.2.1)/\AA .byte (gz H a w' (Ha [.box ba0 [Aat r.2.1,No r.2.2] 86] O)) j (r.1.f.2.2.2.1)/\AA .Bg (gz H a w' (Ha [.box ba0 [Aat r.2.1,No r.2.2] 86] O)) k (r.1.f.2.2.2.2.2.2)) (AU a O w'/\Le (fz w (Ha [.box ba0 [Aat a0.1,No a0.2] 86] O)) (fz w' O)))){a w:World}{H:PH}(hH:Le H (hp a))(hU:EE H){O:List BE}{a0:Aaz×Int}{ba0:Nat}(hL:AU a (Ha [.box ba0 [Aat a0.1,No a0.2] 86] O) w){r:Option (Go.L.Qv×(Aaz×Int))}(h:Fa self a0=some r):
  R8 prog 39 [Aas ba0] w (.iface 82 (.agg #[])) (fun v w'=>Tv r v (fun r v=>∃ (g:Value) (j:Value) (k:Value),v=.agg #[No r.1.f.1,g,Aat r.1.f.2.2.1,j,No r.1.f.2.2.2.2.1,No r.1.f.2.2.2.2.2.1,k]/\AU a (Ha [.box ba0 [Aat r.2.1,No r.2.2] 86] O) w'/\Le (fz w (Ha [.box ba0 [Aat a0.1,No a0.2] 86] O)) (fz w' (Ha [.box ba0 [Aat r.2.1,No r.2.2] 86] O))/\AA .st (gz H a w' (Ha [.box ba0 [Aat r.2.1,No r.2.2] 86] O)) g (r.1.f.2.1)/\AA .byte (gz H a w' (Ha [.box ba0 [Aat r.2.1,No r.2.2] 86] O)) j (r.1.f.2.2.2.1)/\AA .Bg (gz H a w' (Ha [.box ba0 [Aat r.2.1,No r.2.2] 86] O)) k (r.1.f.2.2.2.2.2.2)) (AU a O w'/\Le (fz w (Ha [.box ba0 [Aat a0.1,No a0.2] 86] O)) (fz w' O))):=by
 refine Kp (n:=8) [(0,(Aas ba0))] func39 rfl rfl rfl rfl rfl ?_;have hT:=Le.refl (fz w (Ha [.box ba0 [Aat a0.1,No a0.2] 86] O));refine Ai<|Sv (t:=84) rfl rfl rfl hL fun w1 b1 ad l _=>A3 Bm rfl rfl ad fun w2 b2 m o _=>Ac<|AD 2 rfl<|Ai<|Ah (Ag 1 rfl Adq rfl m rfl) rfl<|As 1 rfl ?_;have s:AU a (Ha [.box ba0 [Aat a0.1,No a0.2] 86,.box b1 [Aas ba0] 84,.box b2 Aa1 26] O) w2:=m.CW [1,2] rfl;have p:=B9 [1,2] m s rfl;refine Aq h fun x4 af h=>KY rfl rfl (Lv (hself:=hself) (a0:=(a0.1,a0.2)) (a1:=9) (a2:=([124]:Aaz)) (O:=(Ha [.box b2 Aa1 26] O)) hH hU s af) ?_ ?_
 ·rintro rfl w6 ⟨ag,u⟩;have h:=Il h;refine D5 ?_
  cases h
  refine Kf ?_;have ah:=ag.AV (i:=0) rfl;have hT:=hT.trans (l.trans (o.trans (p.trans (u.trans (An (i:=0) rfl)))));exact IW ⟨ah,hT⟩
 rintro y9 rfl _ w5 ⟨x,y,z,rfl,ai,aa,b,c,d⟩;have h:=Im h;refine Ad 2 rfl Bm ai rfl (Bb rfl (Bb b.one (Bb rfl (Bb c.one (Bb rfl (Bb rfl (Bb d.one I8))))))) fun al q e=>Ac<|Ax ?_
 cases h
 refine Ke<|CM rfl (.cell rfl AcR rfl Bm (AG (i:=2) q rfl)) ?_;have ab:=q.AV (i:=1) rfl;have ac:=ab.AV (i:=1) rfl;have hT:=hT.trans (l.trans (o.trans (p.trans (aa.trans (e.trans ((An (i:=1) rfl).trans (An (i:=1) rfl)))))));have b:=b.mono (Aa hH (e.trans ((An (i:=1) rfl).trans (An (i:=1) rfl))));have c:=c.mono (Aa hH (e.trans ((An (i:=1) rfl).trans (An (i:=1) rfl))));have d:=d.mono (Aa hH (e.trans ((An (i:=1) rfl).trans (An (i:=1) rfl))));exact Io ⟨x,y,z,rfl,ac,hT,b,c,d⟩
def Gk(a0:Aaz×Int)(a1:Aaz):Option (Option ((Aaz×Int))):=
 Option.bind (B4 (a0.1,a0.2) a1) (fun a=>if !a.1 then none else some (some ((a.2.1,a.2.2))))
theorem Lx{a w:World}{H:PH}(hH:Le H (hp a)){O:List BE}{a0:Aaz×Int}{a1:Aaz}{ba0:Nat}(hL:AU a (Ha [.box ba0 [Aat a0.1,No a0.2] 86] O) w){r:Option ((Aaz×Int))}(h:Gk a0 a1=some r):
  R8 prog 112 [Aas ba0,Aat a1] w (.iface 82 (.agg #[])) (fun v w'=>Tv r v (fun r v=>v=.tuple #[]/\AU a (Ha [.box ba0 [Aat r.1,No r.2] 86] O) w'/\Le (fz w (Ha [.box ba0 [Aat a0.1,No a0.2] 86] O)) (fz w' (Ha [.box ba0 [Aat r.1,No r.2] 86] O))) (AU a O w'/\Le (fz w (Ha [.box ba0 [Aat a0.1,No a0.2] 86] O)) (fz w' O))):=by
 refine Kp (n:=10) [(0,(Aas ba0)),(1,(Aat a1))] func112 rfl rfl rfl rfl rfl ?_;have hT:=Le.refl (fz w (Ha [.box ba0 [Aat a0.1,No a0.2] 86] O));refine Bs 2 rfl<|Aq h fun f c h=>EL rfl rfl (BF (a0:=(a0.1,a0.2)) (a1:=a1) (O:=(Ha [] O)) hH hL c) ?_;rintro _ g ⟨rfl,d,b⟩;refine A4 1 rfl<|By rfl h (fun e h=>?_) (fun e h=>?_)
 ·cases h
 refine Au ?_
 cases h
 refine Zm<|IT rfl ?_;have hT:=hT.trans b;exact Io ⟨rfl,d,hT⟩
def DP(a0:Aaz×Int)(a:Int):Option (Aaz×(Aaz×Int)):=
 Bh (0<=a/\a<=(a0.1.length:Int)) (Bh (0<=a/\a<=(a0.1.length:Int)) (some ((a0.1.take a.toNat),((a0.1.drop a.toNat),a0.2))))
def Gv(a0:Aaz×Int)(a1:Aaz):Option (Aaz×(Aaz×Int)):=
 Option.bind (Ow a0.1 a1) (fun a=>if a<0 then(DP a0) (a0.1.length:Int) else(DP a0) a)
theorem LW{e w:World}{H:PH}(hH:Le H (hp e)){O:List BE}{a0:Aaz×Int}{a1:Aaz}{ba0:Nat}(hL:AU e (Ha [.box ba0 [Aat a0.1,No a0.2] 86] O) w){r:Aaz×(Aaz×Int)}(h:Gv a0 a1=some r):
  Ok prog 114 [Aas ba0,Aat a1] w (fun v w'=>v=(Aat r.1)/\AU e (Ha [.box ba0 [Aat r.2.1,No r.2.2] 86] O) w'/\Le (fz w (Ha [.box ba0 [Aat a0.1,No a0.2] 86] O)) (fz w' (Ha [.box ba0 [Aat r.2.1,No r.2.2] 86] O))):=by
 refine Ey (n:=36) [(0,(Aas ba0)),(1,(Aat a1))] func114 rfl rfl rfl rfl rfl ?_;have hT:=Le.refl (fz w (Ha [.box ba0 [Aat a0.1,No a0.2] 86] O));refine AD 1 rfl<|Bs 1 rfl<|Ah (JK rfl) rfl<|Ah (Af rfl Adp rfl Kq) rfl<|Ah (Ag 0 rfl AaQ rfl hL rfl) rfl<|As 1 rfl<|Aq h fun m l h=>A8 rfl rfl hL (WD _ _ (Al hH hL) l) fun s o c b=>A4 1 rfl<|Bw (σ:=Int) (fun a=>[(0,(Aas ba0)),(5,No a)]) (fun a wr=>FL e (Ha [.box ba0 [Aat a0.1,No a0.2] 86] O) wr fun Oz=>Le (fz w (Ha [.box ba0 [Aat a0.1,No a0.2] 86] O)) (fz wr Oz)/\(DP a0) a=some r) ?_ ?_
 ·refine AD 2 rfl<|AO rfl h (fun g h=>?_) (fun g h=>?_)
  ·refine Av<|As 1 rfl<|Ah (JK rfl) rfl<|Ah (Af rfl Adp rfl Kq) rfl<|Ah (Ag 0 rfl AaQ rfl c rfl) rfl<|Ah (Ib rfl AaQ) rfl<|As 1 rfl<|AQ ?_;have hT:=hT.trans b;refine A6 (a0.1.length:Int) (Sub.of rfl) ⟨c,hT,h⟩
  refine Au ?_;have hT:=hT.trans b;refine A6 m (Sub.of rfl) ⟨c,hT,h⟩
 have hT:=hT.trans b;rintro a p ⟨d,hT,h⟩;refine Bs 1 rfl<|Ah (JK rfl) rfl<|Ah (Af rfl Adp rfl Kq) rfl<|Ah (Ag 0 rfl AaQ rfl d rfl) rfl<|As 1 rfl<|AB h fun i h=>Ah (Xz rfl rfl AaQ i) rfl<|A4 1 rfl<|Bs 2 rfl<|Ah (JK rfl) rfl<|Ah (Af rfl Adp rfl Kq) rfl<|Ah (Ag 0 rfl AaQ rfl d rfl) rfl<|As 1 rfl<|AB h fun j h=>Ah (Uy rfl rfl AaQ j) rfl<|Ah (JK rfl) rfl<|Ah (Af rfl Adp rfl Kq) rfl<|B6 0 rfl rfl rfl Kq d rfl rfl fun q k f=>Ac<|AD 2 rfl<|Ax ?_
 cases h
 refine Am rfl ?_;have hT:=hT.trans f;exact⟨rfl,k,hT⟩
def DQ(self:(Aaz×Int)->Option (Option (Go.L.Qv×(Aaz×Int))))(a0:Aaz×Int):Option (Option (Go.L.Qv×(Aaz×Int))):=
 Option.bind (B4 (a0.1,a0.2) ([33]:Aaz)) (fun b=>if b.1 then Option.bind (self (b.2.1,b.2.2)) (fun j=>Um j (some none) (fun y12=>some (some ((Go.L.Qv.mk (10:Int) ([]) ([]:Aaz) ([]) (0:Int) (0:Int) ([y12.1])),(y12.2.1,y12.2.2))))) else Option.bind (B4 (b.2.1,b.2.2) ([40]:Aaz)) (fun a=>if a.1 then Option.bind (Fa self (a.2.1,a.2.2)) (fun h=>Um h (some none) (fun y26=>Option.bind (Gk (y26.2.1,y26.2.2) ([41]:Aaz)) (fun i=>Um i (some none) (fun y37=>some (some (y26.1,(y37.1,y37.2))))))) else Option.bind (B4 (a.2.1,a.2.2) ([34]:Aaz)) (fun c=>if c.1 then none else Option.bind (B4 (c.2.1,c.2.2) ([39]:Aaz)) (fun d=>if d.1 then none else Option.bind (B4 (d.2.1,d.2.2) ([47]:Aaz)) (fun e=>if e.1 then none else Option.bind (Gv (e.2.1,e.2.2) ([126,38,124,41]:Aaz)) (fun f=>Option.bind (B4 (f.2.1,f.2.2) ([126]:Aaz)) (fun g=>if !g.1 then some (some ((Go.L.Qv.mk (1:Int) ([f.1]) ([]:Aaz) ([]) (0:Int) (0:Int) ([])),(g.2.1,g.2.2))) else none)))))))
theorem KC{self:(Aaz×Int)->Option (Option (Go.L.Qv×(Aaz×Int)))}(hself:∀ {b w:World} {H:PH} (hH:Le H (hp b)) (hU:EE H) {O:List BE} {a0:Aaz×Int} {ba0:Nat} (hL:AU b (Ha [.box ba0 [Aat a0.1,No a0.2] 86] O) w) {r:Option (Go.L.Qv×(Aaz×Int))} (h:self a0=some r),R8 prog 70 [Aas ba0] w (.iface 82 (.agg #[])) (fun v w'=>Tv r v (fun r v=>∃ (u1:Value) (u3:Value) (u6:Value),v=.agg #[No r.1.f.1,u1,Aat r.1.f.2.2.1,u3,No r.1.f.2.2.2.2.1,No r.1.f.2.2.2.2.2.1,u6]/\AU b (Ha [.box ba0 [Aat r.2.1,No r.2.2] 86] O) w'/\Le (fz w (Ha [.box ba0 [Aat a0.1,No a0.2] 86] O)) (fz w' (Ha [.box ba0 [Aat r.2.1,No r.2.2] 86] O))/\AA .st (gz H b w' (Ha [.box ba0 [Aat r.2.1,No r.2.2] 86] O)) u1 (r.1.f.2.1)/\AA .byte (gz H b w' (Ha [.box ba0 [Aat r.2.1,No r.2.2] 86] O)) u3 (r.1.f.2.2.2.1)/\AA .Bg (gz H b w' (Ha [.box ba0 [Aat r.2.1,No r.2.2] 86] O)) u6 (r.1.f.2.2.2.2.2.2)) (AU b O w'/\Le (fz w (Ha [.box ba0 [Aat a0.1,No a0.2] 86] O)) (fz w' O)))){b w:World}{H:PH}(hH:Le H (hp b))(hU:EE H){O:List BE}{a0:Aaz×Int}{ba0:Nat}(hL:AU b (Ha [.box ba0 [Aat a0.1,No a0.2] 86] O) w){r:Option (Go.L.Qv×(Aaz×Int))}(h:DQ self a0=some r):
  R8 prog 70 [Aas ba0] w (.iface 82 (.agg #[])) (fun v w'=>Tv r v (fun r v=>∃ (u1:Value) (u3:Value) (u6:Value),v=.agg #[No r.1.f.1,u1,Aat r.1.f.2.2.1,u3,No r.1.f.2.2.2.2.1,No r.1.f.2.2.2.2.2.1,u6]/\AU b (Ha [.box ba0 [Aat r.2.1,No r.2.2] 86] O) w'/\Le (fz w (Ha [.box ba0 [Aat a0.1,No a0.2] 86] O)) (fz w' (Ha [.box ba0 [Aat r.2.1,No r.2.2] 86] O))/\AA .st (gz H b w' (Ha [.box ba0 [Aat r.2.1,No r.2.2] 86] O)) u1 (r.1.f.2.1)/\AA .byte (gz H b w' (Ha [.box ba0 [Aat r.2.1,No r.2.2] 86] O)) u3 (r.1.f.2.2.2.1)/\AA .Bg (gz H b w' (Ha [.box ba0 [Aat r.2.1,No r.2.2] 86] O)) u6 (r.1.f.2.2.2.2.2.2)) (AU b O w'/\Le (fz w (Ha [.box ba0 [Aat a0.1,No a0.2] 86] O)) (fz w' O))):=by
 refine Kp (n:=62) [(0,(Aas ba0))] func70 rfl rfl rfl rfl rfl ?_;have hT:=Le.refl (fz w (Ha [.box ba0 [Aat a0.1,No a0.2] 86] O));refine Ai<|A3 Bm rfl rfl hL fun w1 p a8 k _=>Ac<|A9<|A2<|Bs 1 rfl ?_;have a9:AU b (Ha [.box ba0 [Aat a0.1,No a0.2] 86,.box p Aa1 26] O) w1:=a8.CW [1] rfl;have m:=B9 [1] a8 a9 rfl;refine Aq h fun x3 cf h=>EL rfl rfl (BF (a0:=(a0.1,a0.2)) (a1:=([33]:Aaz)) (O:=(Ha [.box p Aa1 26] O)) hH a9 cf) ?_;rintro _ w4 ⟨rfl,ba,o⟩;refine A4 1 rfl<|By rfl h (fun cg h=>?_) (fun cg h=>?_)
 ·refine Bs 1 rfl<|Aq h fun x7 ch h=>KY rfl rfl (hself (a0:=(x3.2.1,x3.2.2)) (O:=(Ha [.box p Aa1 26] O)) hH hU ba ch) ?_ ?_
  ·rintro rfl w9 ⟨ci,bf⟩;have h:=Il h;refine D5<|Fx<|D5 ?_
   cases h
   refine Kf ?_;have bg:=ci.AV (i:=0) rfl;have hT:=hT.trans (k.trans (m.trans (o.trans (bf.trans (An (i:=0) rfl)))));exact IW ⟨bg,hT⟩
  rintro y12 rfl _ w8 ⟨co,cp,cq,rfl,cj,bh,au,av,aw⟩;have h:=Im h;refine Br (r:=.Bg) (l:=[y12.1]) rfl (fun _=>KE _ _ _ _ _ _ _ _) rfl (B2 1) hH cj (.c7 (Go.E.Rp.GA ⟨_,_,rfl,rfl,⟨_,_,rfl,⟨_,rfl,au⟩,⟨_,_,rfl,rfl,⟨_,_,rfl,⟨_,rfl,av⟩,⟨_,_,rfl,rfl,⟨_,_,rfl,rfl,⟨_,rfl,aw⟩⟩⟩⟩⟩⟩⟩) .nil) fun ck ct cr bi ax s=>Ah (AN rfl (fun _=>Lc _ _ s.one _)) rfl<|Ad 1 rfl Bm bi rfl (Bb rfl (Bb rfl (Bb rfl (Bb rfl (Bb rfl (Bb rfl (Bb s.one I8))))))) fun cu ak ab=>Ac<|Ax<|Az<|Ay ?_
  cases h
  refine Ke<|CM rfl (.cell rfl AcR rfl Bm (AG (i:=1) ak rfl)) ?_;have bj:=ak.AV (i:=1) rfl;have hT:=hT.trans (k.trans (m.trans (o.trans (bh.trans (ax.trans (ab.trans (An (i:=1) rfl)))))));have s:=s.mono (Aa hH (ab.trans (An (i:=1) rfl)));exact Io ⟨Aaq,Aaq,ck,rfl,bj,hT,(AA.nil _ _),(AA.nil _ _),s⟩
 refine Bs 1 rfl<|Aq h fun ac bk h=>EL rfl rfl (BF (a0:=(x3.2.1,x3.2.2)) (a1:=([40]:Aaz)) (O:=(Ha [.box p Aa1 26] O)) hH ba bk) ?_;rintro _ cv ⟨rfl,al,q⟩;refine A4 1 rfl<|By rfl h (fun bl h=>?_) (fun bl h=>?_)
 ·refine Bs 1 rfl<|Aq h fun cw bm h=>KY rfl rfl (Jl (hself:=hself) (a0:=(ac.2.1,ac.2.2)) (O:=(Ha [.box p Aa1 26] O)) hH hU al bm) ?_ ?_
  ·rintro rfl cx ⟨bn,ay⟩;have h:=Il h;refine D5<|Fx<|D5 ?_
   cases h
   refine Kf ?_;have bo:=bn.AV (i:=0) rfl;have hT:=hT.trans (k.trans (m.trans (o.trans (q.trans (ay.trans (An (i:=0) rfl))))));exact IW ⟨bo,hT⟩
  rintro y26 rfl _ cy ⟨u,x,y,rfl,bp,ad,c,d,e⟩;have h:=Im h;refine A3 Bm rfl rfl bp fun cz bb bq g _=>Ad 0 rfl Bm bq rfl (Bb rfl (Bb c.one (Bb rfl (Bb d.one (Bb rfl (Bb rfl (Bb e.one I8))))))) fun cl aa j=>Ac ?_;have a:=aa.rG H;refine Bs 1 rfl ?_;have am:AU b (Ha [.box ba0 [Aat y26.2.1,No y26.2.2] 86,.box bb [No y26.1.f.1,u,Aat y26.1.f.2.2.1,x,No y26.1.f.2.2.2.2.1,No y26.1.f.2.2.2.2.2.1,y] 26,.box p Aa1 26] O) cl:=aa.CW [1] rfl;have z:=B9 [1] aa am rfl;refine Aq h fun c0 br h=>KY rfl rfl (Lx (a0:=(y26.2.1,y26.2.2)) (a1:=([41]:Aaz)) (O:=(Ha [.box bb [No y26.1.f.1,u,Aat y26.1.f.2.2.1,x,No y26.1.f.2.2.2.2.1,No y26.1.f.2.2.2.2.2.1,y] 26,.box p Aa1 26] O)) hH am br) ?_ ?_
  ·rintro rfl c2 ⟨bs,az⟩;have h:=Il h;refine D5<|Fx<|D5 ?_
   cases h
   refine Kf ?_;have bt:=bs.AV (i:=0) rfl;have bu:=bt.AV (i:=0) rfl;have hT:=hT.trans (k.trans (m.trans (o.trans (q.trans (ad.trans (g.trans (j.trans (z.trans (az.trans ((An (i:=0) rfl).trans (An (i:=0) rfl)))))))))));exact IW ⟨bu,hT⟩
  rintro y37 rfl _ c3 ⟨rfl,an,ae⟩;have h:=Im h;refine Ac<|Ai<|Ah (A5 1 rfl AcR rfl Bm an rfl) rfl ?_;have c:=c.mono (Aa hH (g.trans j));have d:=d.mono (Aa hH (g.trans j));have e:=e.mono (Aa hH (g.trans j));have a:=a.trans (Aa hH (z.trans ae));refine Ad 2 rfl Bm an rfl (Bb rfl (Bb (c.mono a).one (Bb rfl (Bb (d.mono a).one (Bb rfl (Bb rfl (Bb (e.mono a).one I8))))))) fun c4 ao af=>Ac<|Ax<|Az<|Ay ?_
  cases h
  refine Ke<|CM rfl (.cell rfl AcR rfl Bm (AG (i:=2) ao rfl)) ?_;have bv:=ao.AV (i:=1) rfl;have bw:=bv.AV (i:=1) rfl;have hT:=hT.trans (k.trans (m.trans (o.trans (q.trans (ad.trans (g.trans (j.trans (z.trans (ae.trans (af.trans ((An (i:=1) rfl).trans (An (i:=1) rfl))))))))))));have a:=a.trans (Aa hH (af.trans ((An (i:=1) rfl).trans (An (i:=1) rfl))));exact Io ⟨u,x,y,rfl,bw,hT,(c.mono a),(d.mono a),(e.mono a)⟩
 refine Bs 1 rfl<|Aq h fun bc bx h=>EL rfl rfl (BF (a0:=(ac.2.1,ac.2.2)) (a1:=([34]:Aaz)) (O:=(Ha [.box p Aa1 26] O)) hH al bx) ?_;rintro _ c5 ⟨rfl,bz,a2⟩;refine A4 1 rfl<|By rfl h (fun b0 h=>?_) (fun b0 h=>?_)
 ·cases h
 refine Bs 1 rfl<|Aq h fun bd b2 h=>EL rfl rfl (BF (a0:=(bc.2.1,bc.2.2)) (a1:=([39]:Aaz)) (O:=(Ha [.box p Aa1 26] O)) hH bz b2) ?_;rintro _ c6 ⟨rfl,b3,a3⟩;refine A4 1 rfl<|By rfl h (fun b4 h=>?_) (fun b4 h=>?_)
 ·cases h
 refine Bs 1 rfl<|Aq h fun be b5 h=>EL rfl rfl (BF (a0:=(bd.2.1,bd.2.2)) (a1:=([47]:Aaz)) (O:=(Ha [.box p Aa1 26] O)) hH b3 b5) ?_;rintro _ c8 ⟨rfl,b6,a4⟩;refine A4 1 rfl<|By rfl h (fun b7 h=>?_) (fun b7 h=>?_)
 ·cases h
 refine Au<|AJ<|Ar<|Bs 1 rfl<|Aq h fun ap b8 h=>EL rfl rfl (LW (a0:=(be.2.1,be.2.2)) (a1:=([126,38,124,41]:Aaz)) (O:=(Ha [.box p Aa1 26] O)) hH b6 b8) ?_;rintro _ c9 ⟨rfl,b9,a5⟩;refine A4 1 rfl<|A9<|Bs 1 rfl<|Aq h fun da ca h=>EL rfl rfl (BF (a0:=(ap.2.1,ap.2.2)) (a1:=([126]:Aaz)) (O:=(Ha [.box p Aa1 26] O)) hH b9 ca) ?_;rintro _ db ⟨rfl,cb,a6⟩;refine A4 1 rfl<|By rfl h (fun cc h=>?_) (fun cc h=>?_)
 ·refine Bs 1 rfl<|Br (r:=.st) (l:=[ap.1]) rfl (fun _=>NT _ rfl _) rfl (B2 1) hH cb (.c1 rfl .nil) fun cm dc cs cd a7 t=>Ah (AN rfl (fun _=>RJ _ _ t.one _)) rfl<|Ad 1 rfl Bm cd rfl (Bb rfl (Bb t.one (AT rfl))) fun dd aq ag=>Ac<|Ax<|Ay ?_
  cases h
  refine Ke<|CM rfl (.cell rfl AcR rfl Bm (AG (i:=1) aq rfl)) ?_;have ce:=aq.AV (i:=1) rfl;have hT:=hT.trans (k.trans (m.trans (o.trans (q.trans (a2.trans (a3.trans (a4.trans (a5.trans (a6.trans (a7.trans (ag.trans (An (i:=1) rfl))))))))))));have t:=t.mono (Aa hH (ag.trans (An (i:=1) rfl)));exact Io ⟨cm,Aaq,Aaq,rfl,ce,hT,t,(AA.nil _ _),(AA.nil _ _)⟩
 refine Au<|Ar ?_
 cases h
def DS:Nat->(Aaz×Int)->Option (Option (Go.L.Qv×(Aaz×Int)))
 | 0=>fun _=>none
 | n+1=>DQ (DS n)
def Hr:(Aaz×Int)->Option (Option (Go.L.Qv×(Aaz×Int))):=DS 1000
theorem LX(n:Nat):∀ {a w:World} {H:PH} (hH:Le H (hp a)) (hU:EE H) {O:List BE} {a0:Aaz×Int} {ba0:Nat} (hL:AU a (Ha [.box ba0 [Aat a0.1,No a0.2] 86] O) w) {r:Option (Go.L.Qv×(Aaz×Int))} (h:DS n a0=some r),R8 prog 70 [Aas ba0] w (.iface 82 (.agg #[])) (fun v w'=>Tv r v (fun r v=>∃ (b:Value) (c:Value) (d:Value),v=.agg #[No r.1.f.1,b,Aat r.1.f.2.2.1,c,No r.1.f.2.2.2.2.1,No r.1.f.2.2.2.2.2.1,d]/\AU a (Ha [.box ba0 [Aat r.2.1,No r.2.2] 86] O) w'/\Le (fz w (Ha [.box ba0 [Aat a0.1,No a0.2] 86] O)) (fz w' (Ha [.box ba0 [Aat r.2.1,No r.2.2] 86] O))/\AA .st (gz H a w' (Ha [.box ba0 [Aat r.2.1,No r.2.2] 86] O)) b (r.1.f.2.1)/\AA .byte (gz H a w' (Ha [.box ba0 [Aat r.2.1,No r.2.2] 86] O)) c (r.1.f.2.2.2.1)/\AA .Bg (gz H a w' (Ha [.box ba0 [Aat r.2.1,No r.2.2] 86] O)) d (r.1.f.2.2.2.2.2.2)) (AU a O w'/\Le (fz w (Ha [.box ba0 [Aat a0.1,No a0.2] 86] O)) (fz w' O))):=by
 induction n with
 | zero=>intros;rename_i h;cases h
 | succ n ih=>exact @KC (DS n) ih
theorem MP:∀ {a w:World} {H:PH} (hH:Le H (hp a)) (hU:EE H) {O:List BE} {a0:Aaz×Int} {ba0:Nat} (hL:AU a (Ha [.box ba0 [Aat a0.1,No a0.2] 86] O) w) {r:Option (Go.L.Qv×(Aaz×Int))} (h:Hr a0=some r),R8 prog 70 [Aas ba0] w (.iface 82 (.agg #[])) (fun v w'=>Tv r v (fun r v=>∃ (b:Value) (c:Value) (d:Value),v=.agg #[No r.1.f.1,b,Aat r.1.f.2.2.1,c,No r.1.f.2.2.2.2.1,No r.1.f.2.2.2.2.2.1,d]/\AU a (Ha [.box ba0 [Aat r.2.1,No r.2.2] 86] O) w'/\Le (fz w (Ha [.box ba0 [Aat a0.1,No a0.2] 86] O)) (fz w' (Ha [.box ba0 [Aat r.2.1,No r.2.2] 86] O))/\AA .st (gz H a w' (Ha [.box ba0 [Aat r.2.1,No r.2.2] 86] O)) b (r.1.f.2.1)/\AA .byte (gz H a w' (Ha [.box ba0 [Aat r.2.1,No r.2.2] 86] O)) c (r.1.f.2.2.2.1)/\AA .Bg (gz H a w' (Ha [.box ba0 [Aat r.2.1,No r.2.2] 86] O)) d (r.1.f.2.2.2.2.2.2)) (AU a O w'/\Le (fz w (Ha [.box ba0 [Aat a0.1,No a0.2] 86] O)) (fz w' O))):=LX 1000
def GO(_a0:Go.L.Qv)(_a1:Int×Int):Option (Go.L.Qv×(Int×Int)):=
 Option.bind (BI (1:Int) (-1:Int)) (fun a=>some ((Go.L.Qv.mk (0:Int) ([]) ([]:Aaz) ([]) (0:Int) (0:Int) ([])),(a.1,a.2)))
theorem Mq{a w:World}{H:PH}(hH:Le H (hp a)){O:List BE}{a0:Go.L.Qv}{a1:Int×Int}{ba0:Nat}{va0_1:Value}{xsa0_1:List Value}{va0_3:Value}{xsa0_3:List Value}{va0_6:Value}{xsa0_6:List Value}{ba1:Nat}(hL:AU a (Ha [.box ba0 [No a0.f.1,va0_1,Aat a0.f.2.2.1,va0_3,No a0.f.2.2.2.2.1,No a0.f.2.2.2.2.2.1,va0_6] 26,.row va0_1 9 1 (a0.f.2.1).length xsa0_1,.row va0_3 5 1 (a0.f.2.2.2.1).length xsa0_3,.row va0_6 26 7 (a0.f.2.2.2.2.2.2).length xsa0_6,.box ba1 [No a1.1,No a1.2] 28] O) w)(_hea0_1:AF .st (gz H a w (Ha [.box ba0 [No a0.f.1,va0_1,Aat a0.f.2.2.1,va0_3,No a0.f.2.2.2.2.1,No a0.f.2.2.2.2.2.1,va0_6] 26,.row va0_1 9 1 (a0.f.2.1).length xsa0_1,.row va0_3 5 1 (a0.f.2.2.2.1).length xsa0_3,.row va0_6 26 7 (a0.f.2.2.2.2.2.2).length xsa0_6,.box ba1 [No a1.1,No a1.2] 28] O)) (a0.f.2.1) xsa0_1)(_hea0_3:AF .byte (gz H a w (Ha [.box ba0 [No a0.f.1,va0_1,Aat a0.f.2.2.1,va0_3,No a0.f.2.2.2.2.1,No a0.f.2.2.2.2.2.1,va0_6] 26,.row va0_1 9 1 (a0.f.2.1).length xsa0_1,.row va0_3 5 1 (a0.f.2.2.2.1).length xsa0_3,.row va0_6 26 7 (a0.f.2.2.2.2.2.2).length xsa0_6,.box ba1 [No a1.1,No a1.2] 28] O)) (a0.f.2.2.2.1) xsa0_3)(_hea0_6:AF .Bg (gz H a w (Ha [.box ba0 [No a0.f.1,va0_1,Aat a0.f.2.2.1,va0_3,No a0.f.2.2.2.2.1,No a0.f.2.2.2.2.2.1,va0_6] 26,.row va0_1 9 1 (a0.f.2.1).length xsa0_1,.row va0_3 5 1 (a0.f.2.2.2.1).length xsa0_3,.row va0_6 26 7 (a0.f.2.2.2.2.2.2).length xsa0_6,.box ba1 [No a1.1,No a1.2] 28] O)) (a0.f.2.2.2.2.2.2) xsa0_6){r:Go.L.Qv×(Int×Int)}(h:GO a0 a1=some r):
  OkF prog 38 [Aas ba0,Aas ba1] (.panicking (WG (.iface 82 (.agg #[])))) (.panicking (VU (.iface 82 (.agg #[])))) w (fun w'=>∃ (b:Value) (c:Value) (d:Value),AU a (Ha [.box ba0 [No r.1.f.1,b,Aat r.1.f.2.2.1,c,No r.1.f.2.2.2.2.1,No r.1.f.2.2.2.2.2.1,d] 26,.box ba1 [No r.2.1,No r.2.2] 28] O) w'/\Le (fz w (Ha [.box ba0 [No a0.f.1,va0_1,Aat a0.f.2.2.1,va0_3,No a0.f.2.2.2.2.1,No a0.f.2.2.2.2.2.1,va0_6] 26,.row va0_1 9 1 (a0.f.2.1).length xsa0_1,.row va0_3 5 1 (a0.f.2.2.2.1).length xsa0_3,.row va0_6 26 7 (a0.f.2.2.2.2.2.2).length xsa0_6,.box ba1 [No a1.1,No a1.2] 28] O)) (fz w' (Ha [.box ba0 [No r.1.f.1,b,Aat r.1.f.2.2.1,c,No r.1.f.2.2.2.2.1,No r.1.f.2.2.2.2.2.1,d] 26,.box ba1 [No r.2.1,No r.2.2] 28] O))/\AA .st (gz H a w' (Ha [.box ba0 [No r.1.f.1,b,Aat r.1.f.2.2.1,c,No r.1.f.2.2.2.2.1,No r.1.f.2.2.2.2.2.1,d] 26,.box ba1 [No r.2.1,No r.2.2] 28] O)) b (r.1.f.2.1)/\AA .byte (gz H a w' (Ha [.box ba0 [No r.1.f.1,b,Aat r.1.f.2.2.1,c,No r.1.f.2.2.2.2.1,No r.1.f.2.2.2.2.2.1,d] 26,.box ba1 [No r.2.1,No r.2.2] 28] O)) c (r.1.f.2.2.2.1)/\AA .Bg (gz H a w' (Ha [.box ba0 [No r.1.f.1,b,Aat r.1.f.2.2.1,c,No r.1.f.2.2.2.2.1,No r.1.f.2.2.2.2.2.1,d] 26,.box ba1 [No r.2.1,No r.2.2] 28] O)) d (r.1.f.2.2.2.2.2.2)):=by
 refine OE (pv:=.iface 82 (.agg #[])) (k:=16) [(0,(Aas ba0)),(1,(Aas ba1))] func38 rfl rfl rfl rfl rfl rfl rfl .yes (Aj rfl) ?_;have hT:=Le.refl (fz w (Ha [.box ba0 [No a0.f.1,va0_1,Aat a0.f.2.2.1,va0_3,No a0.f.2.2.2.2.1,No a0.f.2.2.2.2.2.1,va0_6] 26,.row va0_1 9 1 (a0.f.2.1).length xsa0_1,.row va0_3 5 1 (a0.f.2.2.2.1).length xsa0_3,.row va0_6 26 7 (a0.f.2.2.2.2.2.2).length xsa0_6,.box ba1 [No a1.1,No a1.2] 28] O));refine Bs 1 rfl<|Ah (Aay rfl Abz) rfl<|Ac<|DW rfl<|Bs 1 rfl<|Ah (XB rfl Adr rfl) rfl<|As 3 rfl<|A3 Zx rfl rfl hL fun w2 b2 q g _=>Ad 0 rfl Zx q rfl I8 fun w3 e j=>A4 1 rfl<|AD 1 rfl<|DW rfl<|Av<|Ah (AN rfl (fun _=>S7 _)) rfl<|Aq h fun x4 s h=>A8 rfl rfl e (Cj _ _ (Al hH e) s) fun w5 z t l=>Ad 1 rfl Bm t rfl (AT rfl) fun w6 u m=>Ad 5 rfl AI u rfl (AT rfl) fun w7 v n=>AQ ?_
 cases h
 refine IT rfl ?_;have x:=v.AV (i:=0) rfl;have y:=x.AV (i:=1) rfl;have o:=y.AV (i:=1) rfl;have p:=o.AV (i:=1) rfl;have hT:=hT.trans (g.trans (j.trans (l.trans (m.trans (n.trans ((An (i:=0) rfl).trans ((An (i:=1) rfl).trans ((An (i:=1) rfl).trans (An (i:=1) rfl)))))))));exact⟨Aaq,Aaq,Aaq,p,hT,(AA.nil _ _),(AA.nil _ _),(AA.nil _ _)⟩
def FJ(_a0:Go.L.Qv)(_a1:Int×Int):Option (Go.L.Qv×(Int×Int)):=
 Option.bind (BI (1:Int) (-1:Int)) (fun a=>some ((Go.L.Qv.mk (0:Int) ([]) ([]:Aaz) ([]) (0:Int) (0:Int) ([])),(a.1,a.2)))
theorem KU{a w:World}{H:PH}(hH:Le H (hp a)){O:List BE}{a0:Go.L.Qv}{a1:Int×Int}{ba0:Nat}{va0_1 va0_3 va0_6:Value}{ba1:Nat}(hL:AU a (Ha [.box ba0 [No a0.f.1,va0_1,Aat a0.f.2.2.1,va0_3,No a0.f.2.2.2.2.1,No a0.f.2.2.2.2.2.1,va0_6] 26,.box ba1 [No a1.1,No a1.2] 28] O) w)(_ha0_1:AA .st (gz H a w (Ha [.box ba0 [No a0.f.1,va0_1,Aat a0.f.2.2.1,va0_3,No a0.f.2.2.2.2.1,No a0.f.2.2.2.2.2.1,va0_6] 26,.box ba1 [No a1.1,No a1.2] 28] O)) va0_1 (a0.f.2.1))(_ha0_3:AA .byte (gz H a w (Ha [.box ba0 [No a0.f.1,va0_1,Aat a0.f.2.2.1,va0_3,No a0.f.2.2.2.2.1,No a0.f.2.2.2.2.2.1,va0_6] 26,.box ba1 [No a1.1,No a1.2] 28] O)) va0_3 (a0.f.2.2.2.1))(_ha0_6:AA .Bg (gz H a w (Ha [.box ba0 [No a0.f.1,va0_1,Aat a0.f.2.2.1,va0_3,No a0.f.2.2.2.2.1,No a0.f.2.2.2.2.2.1,va0_6] 26,.box ba1 [No a1.1,No a1.2] 28] O)) va0_6 (a0.f.2.2.2.2.2.2)){r:Go.L.Qv×(Int×Int)}(h:FJ a0 a1=some r):
  OkF prog 38 [Aas ba0,Aas ba1] (.panicking (WG (.iface 82 (.agg #[])))) (.panicking (VU (.iface 82 (.agg #[])))) w (fun w'=>∃ (b:Value) (c:Value) (d:Value),AU a (Ha [.box ba0 [No r.1.f.1,b,Aat r.1.f.2.2.1,c,No r.1.f.2.2.2.2.1,No r.1.f.2.2.2.2.2.1,d] 26,.box ba1 [No r.2.1,No r.2.2] 28] O) w'/\Le (fz w (Ha [.box ba0 [No a0.f.1,va0_1,Aat a0.f.2.2.1,va0_3,No a0.f.2.2.2.2.1,No a0.f.2.2.2.2.2.1,va0_6] 26,.box ba1 [No a1.1,No a1.2] 28] O)) (fz w' (Ha [.box ba0 [No r.1.f.1,b,Aat r.1.f.2.2.1,c,No r.1.f.2.2.2.2.1,No r.1.f.2.2.2.2.2.1,d] 26,.box ba1 [No r.2.1,No r.2.2] 28] O))/\AA .st (gz H a w' (Ha [.box ba0 [No r.1.f.1,b,Aat r.1.f.2.2.1,c,No r.1.f.2.2.2.2.1,No r.1.f.2.2.2.2.2.1,d] 26,.box ba1 [No r.2.1,No r.2.2] 28] O)) b (r.1.f.2.1)/\AA .byte (gz H a w' (Ha [.box ba0 [No r.1.f.1,b,Aat r.1.f.2.2.1,c,No r.1.f.2.2.2.2.1,No r.1.f.2.2.2.2.2.1,d] 26,.box ba1 [No r.2.1,No r.2.2] 28] O)) c (r.1.f.2.2.2.1)/\AA .Bg (gz H a w' (Ha [.box ba0 [No r.1.f.1,b,Aat r.1.f.2.2.1,c,No r.1.f.2.2.2.2.1,No r.1.f.2.2.2.2.2.1,d] 26,.box ba1 [No r.2.1,No r.2.2] 28] O)) d (r.1.f.2.2.2.2.2.2)):=by
 refine OE (pv:=.iface 82 (.agg #[])) (k:=16) [(0,(Aas ba0)),(1,(Aas ba1))] func38 rfl rfl rfl rfl rfl rfl rfl .yes (Aj rfl) ?_;have hT:=Le.refl (fz w (Ha [.box ba0 [No a0.f.1,va0_1,Aat a0.f.2.2.1,va0_3,No a0.f.2.2.2.2.1,No a0.f.2.2.2.2.2.1,va0_6] 26,.box ba1 [No a1.1,No a1.2] 28] O));refine Bs 1 rfl<|Ah (Aay rfl Abz) rfl<|Ac<|DW rfl<|Bs 1 rfl<|Ah (XB rfl Adr rfl) rfl<|As 3 rfl<|A3 Zx rfl rfl hL fun x y o g _=>Ad 0 rfl Zx o rfl I8 fun z e j=>A4 1 rfl<|AD 1 rfl<|DW rfl<|Av<|Ah (AN rfl (fun _=>S7 _)) rfl<|Aq h fun x4 p h=>A8 rfl rfl e (Cj _ _ (Al hH e) p) fun w5 v q l=>Ad 1 rfl Bm q rfl (AT rfl) fun w6 s m=>Ad 2 rfl AI s rfl (AT rfl) fun w7 t n=>AQ ?_
 cases h
 refine IT rfl ?_;have u:=t.AV (i:=0) rfl;have hT:=hT.trans (g.trans (j.trans (l.trans (m.trans (n.trans (An (i:=0) rfl))))));exact⟨Aaq,Aaq,Aaq,u,hT,(AA.nil _ _),(AA.nil _ _),(AA.nil _ _)⟩
def Hs(a0:Go.L.Qv)(a1:Int×Int):Option (Go.L.Qv×(Int×Int)):=
 some (a0,(a1.1,a1.2))
theorem MQ{a w:World}{H:PH}(_hH:Le H (hp a)){O:List BE}{a0:Go.L.Qv}{a1:Int×Int}{ba0:Nat}{va0_1 va0_3 va0_6:Value}{ba1:Nat}(hL:AU a (Ha [.box ba0 [No a0.f.1,va0_1,Aat a0.f.2.2.1,va0_3,No a0.f.2.2.2.2.1,No a0.f.2.2.2.2.2.1,va0_6] 26,.box ba1 [No a1.1,No a1.2] 28] O) w)(g:AA .st (gz H a w (Ha [.box ba0 [No a0.f.1,va0_1,Aat a0.f.2.2.1,va0_3,No a0.f.2.2.2.2.1,No a0.f.2.2.2.2.2.1,va0_6] 26,.box ba1 [No a1.1,No a1.2] 28] O)) va0_1 (a0.f.2.1))(i:AA .byte (gz H a w (Ha [.box ba0 [No a0.f.1,va0_1,Aat a0.f.2.2.1,va0_3,No a0.f.2.2.2.2.1,No a0.f.2.2.2.2.2.1,va0_6] 26,.box ba1 [No a1.1,No a1.2] 28] O)) va0_3 (a0.f.2.2.2.1))(j:AA .Bg (gz H a w (Ha [.box ba0 [No a0.f.1,va0_1,Aat a0.f.2.2.1,va0_3,No a0.f.2.2.2.2.1,No a0.f.2.2.2.2.2.1,va0_6] 26,.box ba1 [No a1.1,No a1.2] 28] O)) va0_6 (a0.f.2.2.2.2.2.2)){r:Go.L.Qv×(Int×Int)}(h:Hs a0 a1=some r):
  OkF prog 38 [Aas ba0,Aas ba1] .returning .returning w (fun w'=>∃ (b:Value) (c:Value) (d:Value),AU a (Ha [.box ba0 [No r.1.f.1,b,Aat r.1.f.2.2.1,c,No r.1.f.2.2.2.2.1,No r.1.f.2.2.2.2.2.1,d] 26,.box ba1 [No r.2.1,No r.2.2] 28] O) w'/\Le (fz w (Ha [.box ba0 [No a0.f.1,va0_1,Aat a0.f.2.2.1,va0_3,No a0.f.2.2.2.2.1,No a0.f.2.2.2.2.2.1,va0_6] 26,.box ba1 [No a1.1,No a1.2] 28] O)) (fz w' (Ha [.box ba0 [No r.1.f.1,b,Aat r.1.f.2.2.1,c,No r.1.f.2.2.2.2.1,No r.1.f.2.2.2.2.2.1,d] 26,.box ba1 [No r.2.1,No r.2.2] 28] O))/\AA .st (gz H a w' (Ha [.box ba0 [No r.1.f.1,b,Aat r.1.f.2.2.1,c,No r.1.f.2.2.2.2.1,No r.1.f.2.2.2.2.2.1,d] 26,.box ba1 [No r.2.1,No r.2.2] 28] O)) b (r.1.f.2.1)/\AA .byte (gz H a w' (Ha [.box ba0 [No r.1.f.1,b,Aat r.1.f.2.2.1,c,No r.1.f.2.2.2.2.1,No r.1.f.2.2.2.2.2.1,d] 26,.box ba1 [No r.2.1,No r.2.2] 28] O)) c (r.1.f.2.2.2.1)/\AA .Bg (gz H a w' (Ha [.box ba0 [No r.1.f.1,b,Aat r.1.f.2.2.1,c,No r.1.f.2.2.2.2.1,No r.1.f.2.2.2.2.2.1,d] 26,.box ba1 [No r.2.1,No r.2.2] 28] O)) d (r.1.f.2.2.2.2.2.2)):=by
 refine OE (pv:=.iface 82 (.agg #[])) (k:=16) [(0,(Aas ba0)),(1,(Aas ba1))] func38 rfl rfl rfl rfl rfl rfl rfl .no (Aj rfl) ?_;have hT:=Le.refl (fz w (Ha [.box ba0 [No a0.f.1,va0_1,Aat a0.f.2.2.1,va0_3,No a0.f.2.2.2.2.1,No a0.f.2.2.2.2.2.1,va0_6] 26,.box ba1 [No a1.1,No a1.2] 28] O));have e:=hL.rG H;refine Bs 1 rfl<|Ah (AbC rfl Abz) rfl<|Ac<|Hn rfl<|Au ?_
 cases h
 refine IT rfl ⟨va0_1,va0_3,va0_6,hL,hT,(g.mono e),(i.mono e),(j.mono e)⟩
def I1(y22:Go.L.Qv×(Aaz×Int)):Option (Go.L.Qv×(Int×Int)):=
 Option.bind (Hs y22.1 (0,0)) (fun a=>some (a.1,(a.2.1,a.2.2)))
def Jm(a0:Aaz):Option (Go.L.Qv×(Int×Int)):=
 if 200<(a0.length:Int) then Option.bind (BI (3:Int) (-1:Int)) (fun d=>some ((Go.L.Qv.mk (0:Int) ([]) ([]:Aaz) ([]) (0:Int) (0:Int) ([])),(d.1,d.2))) else Option.bind (Fa Hr (a0,0)) (fun e=>Um e (Option.bind (GO (Go.L.Qv.mk (0:Int) ([]:List Aaz) ([]:Aaz) ([]:Aaz) (0:Int) (0:Int) ([]:List Go.L.Qv)) (0,0)) (fun a=>some (a.1,(a.2.1,a.2.2)))) (fun y22=>Option.bind (GK y22.1) (fun b=>if(((!decide (b.2.1=0/\b.2.2=0))||(!decide (y22.2.1=([]:Aaz))))||(!decide (b.1=a0))) then Option.bind (FJ y22.1 (0,0)) (fun c=>some (c.1,(c.2.1,c.2.2))) else(I1 y22))))
theorem Mg(w:World)(H:PH)(hH:Le H (hp w))(hU:EE H){a0:Aaz}{r:Go.L.Qv×(Int×Int)}(h:Jm a0=some r):
  Ok prog 15 [Aat a0] w (fun v w'=>Ext w w'/\∃ u0 u1 u2,v=.tuple #[.agg #[No r.1.f.1,u0,Aat r.1.f.2.2.1,u1,No r.1.f.2.2.2.2.1,No r.1.f.2.2.2.2.2.1,u2],.agg #[No r.2.1,No r.2.2]]/\AA .st (un H (nw w w')) u0 (r.1.f.2.1)/\AA .byte (un H (nw w w')) u1 (r.1.f.2.2.2.1)/\AA .Bg (un H (nw w w')) u2 (r.1.f.2.2.2.2.2.2)):=by
 refine VV (n:=42) [(0,(Aat a0))] func15 rfl rfl rfl rfl rfl ?_;have hL:=AU.start w;refine Ai<|A3 Bm rfl rfl hL fun w1 b1 b6 ct _=>A3 AI rfl rfl b6 fun w2 b2 ar cu _=>Ac<|A9<|Bs 1 rfl<|Ah (Ib rfl AaQ) rfl<|A4 1 rfl<|AO rfl h (fun b7 h=>?_) (fun b7 h=>?_)
 ·refine Ai<|Ah (AN rfl (fun _=>S7 _)) rfl<|Aq h fun x5 b8 h=>A8 rfl rfl ar (Cj _ _ (Al hH ar) b8) fun w6 c0 b9 cv=>Ad 1 rfl Bm b9 rfl (AT rfl) fun w7 ca cw=>Ad 0 rfl AI ca rfl (AT rfl) fun w8 au cx=>Ac<|Ax<|Ay ?_
  cases h
  refine Xf<|B0 rfl (.cell rfl AcR rfl Bm (AG (i:=1) au rfl)) (.cell rfl AcP rfl AI (AG (i:=0) au rfl)) ⟨au.ext,_,_,_,rfl,(AA.nil _ _),(AA.nil _ _),(AA.nil _ _)⟩
 refine Au<|Ar<|Bs 1 rfl<|Zn rfl<|Ac<|Bs 1 rfl<|Ah (AN rfl (fun _=>Z2 _ rfl _)) rfl<|Dq (t:=86) rfl rfl rfl ar fun c1 z bl cd _=>A4 1 rfl<|Bs 1 rfl<|Aq h fun c2 bm h=>KY rfl rfl (Jl (hself:=MP) (a0:=(a0,0)) (O:=[.box b2 [No 0,No 0] 28,.box b1 Aa1 26]) hH hU bl bm) ?_ ?_
 ·rintro rfl bj ⟨bn,ce⟩;have h:=Il h;refine D5 ?_;obtain⟨bo,cf,af⟩:=Ez .st H 9 bn;obtain⟨bp,be,ag⟩:=Ez .byte H 5 bo;obtain⟨av,an,ah⟩:=Ez .Bg H 26 bp;have ai:AU w [.row Aaq 9 1 (([]:List Aaz)).length ([]),.row Aaq 5 1 (([]:Aaz)).length ([]),.row Aaq 26 7 (([]:List Go.L.Qv)).length ([]),.box b2 [No 0,No 0] 28,.box b1 Aa1 26] bj:=av.CW [1,2] rfl;have q:=B9 [1,2] av ai rfl;have aw:AU w [.box b1 Aa1 26,.row Aaq 9 1 (([]:List Aaz)).length ([]),.row Aaq 5 1 (([]:Aaz)).length ([]),.row Aaq 26 7 (([]:List Go.L.Qv)).length ([]),.box b2 [No 0,No 0] 28] bj:=ai.CW [4] rfl;have u:=B9 [4] ai aw rfl;refine Aq h fun c3 bq h=>?_;have af:=af.mono (Aa hH (be.trans (an.trans (q.trans u))));have ag:=ag.mono (Aa hH (an.trans (q.trans u)))
  have ah:=ah.mono (Aa hH (q.trans u));refine Vp (Mq (a0:=(Go.L.Qv.mk (0:Int) ([]:List Aaz) ([]:Aaz) ([]:Aaz) (0:Int) (0:Int) ([]:List Go.L.Qv))) (a1:=(0,0)) (O:=[]) hH aw af ag ah bq) ?_;rintro c4 ⟨cg,ch,ci,aj,cj,ax,ay,a2⟩ az frz
  cases h
  exact⟨_,Qq rfl (.cell rfl AcR rfl Bm (AG (i:=0) aj rfl)) (.cell rfl AcP rfl AI (AG (i:=1) aj rfl)) frz,aj.ext,_,_,_,rfl,(ax.mono (Dg hH)),(ay.mono (Dg hH)),(a2.mono (Dg hH))⟩
 rintro y22 rfl _ c5 ⟨l,m,o,rfl,br,ck,c,d,e⟩;have h:=Im h;refine Ad 2 rfl Bm br rfl (Bb rfl (Bb c.one (Bb rfl (Bb d.one (Bb rfl (Bb rfl (Bb e.one I8))))))) fun c6 x y=>Ac<|Bw (σ:=Unit) (fun(_:Unit)=>[(2,(Aas b1)),(3,(Aas b2))]) (fun(_:Unit) wr=>FL w [.box z [Aat y22.2.1,No y22.2.2] 86,.box b2 [No 0,No 0] 28,.box b1 [No y22.1.f.1,l,Aat y22.1.f.2.2.1,m,No y22.1.f.2.2.2.2.1,No y22.1.f.2.2.2.2.2.1,o] 26] wr fun Oz=>AA .st (gz H w wr Oz) l (y22.1.f.2.1)/\AA .byte (gz H w wr Oz) m (y22.1.f.2.2.2.1)/\AA .Bg (gz H w wr Oz) o (y22.1.f.2.2.2.2.2.2)/\(I1 y22)=some r) ?_ ?_
 ·have a:=x.rG H;refine Ai<|Ah (A5 2 rfl AcR rfl Bm x rfl) rfl<|Aq h fun k bs h=>?_;have c:=c.mono (Aa hH y);have d:=d.mono (Aa hH y);have e:=e.mono (Aa hH y);refine A8 rfl rfl x (I0 (a0:=y22.1) _ _ (Al hH x) (hU.mono (Ae hH)) (c.mono a) (d.mono a) (e.mono a) bs) fun c7 cy bt ao=>As 3 rfl<|A3 AI rfl rfl bt fun c8 bk bu ap _=>As 1 rfl<|Ad 0 rfl AI bu rfl (AT rfl) fun cb p aq=>Ac<|Ai<|Ah (A5 0 rfl AcP rfl AI p rfl) rfl<|Ah (AN rfl (fun _=>BL _)) rfl<|Ah (JJ rfl rfl ID (Ld _ _ _ _)) rfl<|As 1 rfl<|Li 6 32 (.bool ((!decide (k.2.1=0/\k.2.2=0))||(!decide (y22.2.1=([]:Aaz))))) (fun a3=>?_) ?_
  ·refine Bl (s:=26) rfl (fun b=>?_) (fun b=>?_)
   ·iterate 5 refine Ao rfl b rfl ?_
    refine Ah (AH rfl b rfl) rfl<|a3.to 5 (Rv b) rfl rfl
   refine Ab rfl b<|Ah (Aj rfl) rfl<|Ab rfl b<|Ah (JK rfl) rfl<|Ab rfl b<|Ah (Af rfl Adp rfl Kq) rfl<|Ab rfl b<|Ah (Ag 1 rfl AaQ rfl p rfl) rfl<|Ab rfl b<|Ah (R7 rfl rfl) rfl<|Ah (AS rfl b rfl) rfl<|a3.to 5 (Rw b) rfl rfl
  refine As 1 rfl<|Li 4 37 (.bool (((!decide (k.2.1=0/\k.2.2=0))||(!decide (y22.2.1=([]:Aaz))))||(!decide (k.1=a0)))) (fun a4=>?_) ?_
  ·refine Bl (s:=33) rfl (fun g=>?_) (fun g=>?_)
   ·iterate 3 refine Ao rfl g rfl ?_
    refine Ah (AH rfl g rfl) rfl<|a4.to 3 (Rv g) rfl rfl
   refine Ab rfl g<|Ah (Aj rfl) rfl<|Ab rfl g<|Ah (Aj rfl) rfl<|Ab rfl g<|Ah (R7 rfl rfl) rfl<|Ah (AS rfl g rfl) rfl<|a4.to 3 (Rw g) rfl rfl
  refine Ac<|By rfl h (fun bv h=>?_) (fun bv h=>?_)
  ·refine Av<|Ah (AN rfl (fun _=>Z1 _)) rfl<|Ah (AbB rfl Adr rfl) rfl<|Zk rfl rfl<|L8 ?_;have a5:AU w [.box b1 [No y22.1.f.1,l,Aat y22.1.f.2.2.1,m,No y22.1.f.2.2.2.2.1,No y22.1.f.2.2.2.2.2.1,o] 26,.box b2 [No 0,No 0] 28,.box bk [No k.2.1,No k.2.2] 28,.box z [Aat y22.2.1,No y22.2.2] 86] cb:=p.CW [2,3] rfl;have bf:=B9 [2,3] p a5 rfl;refine Aq h fun c9 bw h=>?_;have a:=a.trans (Aa hH (ao.trans (ap.trans (aq.trans bf))));refine Vp (KU (a0:=y22.1) (a1:=(0,0)) (O:=[.box bk [No k.2.1,No k.2.2] 28,.box z [Aat y22.2.1,No y22.2.2] 86]) hH a5 (c.mono a) (d.mono a) (e.mono a) bw) ?_;rintro da ⟨cl,cm,cn,ak,co,a6,a7,a8⟩ az frz
   cases h
   exact⟨_,Qq rfl (.cell rfl AcR rfl Bm (AG (i:=0) ak rfl)) (.cell rfl AcP rfl AI (AG (i:=1) ak rfl)) frz,ak.ext,_,_,_,rfl,(a6.mono (Dg hH)),(a7.mono (Dg hH)),(a8.mono (Dg hH))⟩
  refine Au ?_;have bx:=p.AV (i:=0) rfl;have a:=a.trans (Aa hH (ao.trans (ap.trans (aq.trans (An (i:=0) rfl)))));refine A6 () (Sub.of rfl) ⟨bx,(c.mono a),(d.mono a),(e.mono a),h⟩
 rintro _ cz ⟨al,aa,ab,ac,h⟩;have j:=al.rG H;refine Ai<|Ah (A5 2 rfl AcR rfl Bm al rfl) rfl<|Ah (AN rfl (fun _=>BL _)) rfl<|Ad 2 rfl Bm al rfl (Bb rfl (Bb (aa.mono j).one (Bb rfl (Bb (ab.mono j).one (Bb rfl (Bb rfl (Bb (ac.mono j).one I8))))))) fun db bz bg=>Ad 1 rfl AI bz rfl (AT rfl) fun cc a9 bh=>Ac<|Ax ?_;have ba:AU w [.box b1 [No y22.1.f.1,l,Aat y22.1.f.2.2.1,m,No y22.1.f.2.2.2.2.1,No y22.1.f.2.2.2.2.2.1,o] 26,.box b2 [No 0,No 0] 28,.box z [Aat y22.2.1,No y22.2.2] 86] cc:=a9.CW [1,2] rfl;have bi:=B9 [1,2] a9 ba rfl;refine Aq h fun dc b0 h=>?_;have j:=j.trans (Aa hH (bg.trans (bh.trans bi)));refine Zo (MQ (a0:=y22.1) (a1:=(0,0)) (O:=[.box z [Aat y22.2.1,No y22.2.2] 86]) hH ba (aa.mono j) (ab.mono j) (ac.mono j) b0) ?_;rintro dd ⟨cp,cq,cr,am,cs,bb,bc,bd⟩ az frz
 cases h
 exact⟨_,Qq rfl (.cell rfl AcR rfl Bm (AG (i:=0) am rfl)) (.cell rfl AcP rfl AI (AG (i:=1) am rfl)) frz,am.ext,_,_,_,rfl,(bb.mono (Dg hH)),(bc.mono (Dg hH)),(bd.mono (Dg hH))⟩
def Fo:Option Bool:=
 some true
def EK(a0:Go.L.Qv)(a1:Go.L.Qv)(self:Go.L.Qv->Go.L.Qv->Option Bool):Int->Option ((Int) ⊕ (Bool)):=fun a=>
 if a<(a0.f.2.2.2.2.2.2.length:Int) then Bh (0<=a/\a<(a0.f.2.2.2.2.2.2.length:Int)) (Bh (0<=a/\a<(a1.f.2.2.2.2.2.2.length:Int)) (Option.bind (self (a0.f.2.2.2.2.2.2.getD a.toNat default) (a1.f.2.2.2.2.2.2.getD a.toNat default)) (fun b=>if !b then none else Bh (C0 (a+1)) (some (Sum.inl (a+1)))))) else Option.map Sum.inr Fo
def GP(a0:Go.L.Qv)(a1:Go.L.Qv)(self:Go.L.Qv->Go.L.Qv->Option Bool)(s:Int):Option Bool:=Go.L.run (EK a0 a1 self) s
def Fp(a0:Go.L.Qv)(a1:Go.L.Qv)(self:Go.L.Qv->Go.L.Qv->Option Bool):Option Bool:=
 (GP a0 a1 self) (0:Int)
def Fb(self:Go.L.Qv->Go.L.Qv->Option Bool)(a0:Go.L.Qv)(a1:Go.L.Qv):Option Bool:=
 if((((!decide (a0.f.1=a1.f.1))||(!decide (a0.f.2.2.1=a1.f.2.2.1)))||(!decide (a0.f.2.2.2.2.1=a1.f.2.2.2.2.1)))||(!decide (a0.f.2.2.2.2.2.1=a1.f.2.2.2.2.2.1))) then none else Option.bind (E2 a0.f.2.2.2.1 a1.f.2.2.2.1) (fun a=>if !a then none else Option.bind (LL a0.f.2.1 a1.f.2.1) (fun b=>if((!b)||(!decide ((a0.f.2.2.2.2.2.2.length:Int)=(a1.f.2.2.2.2.2.2.length:Int)))) then none else(Fp a0 a1 self)))
def G8(self:Go.L.Qv->Go.L.Qv->Option Bool):Prop:=∀ (w:World) (H:PH) (hH:Le H (hp w)) {a0:Go.L.Qv} {a1:Go.L.Qv} {a:Value} {b:Value} {c:Value} {d:Value} {e:Value} {g:Value} (i:AA .st H a (a0.f.2.1)) (j:AA .byte H b (a0.f.2.2.2.1)) (k:AA .Bg H c (a0.f.2.2.2.2.2.2)) (l:AA .st H d (a1.f.2.1)) (m:AA .byte H e (a1.f.2.2.2.1)) (n:AA .Bg H g (a1.f.2.2.2.2.2.2)) {r:Bool} (h:self a0 a1=some r),Ok prog 17 [.agg #[No a0.f.1,a,Aat a0.f.2.2.1,b,No a0.f.2.2.2.2.1,No a0.f.2.2.2.2.2.1,c],.agg #[No a1.f.1,d,Aat a1.f.2.2.1,e,No a1.f.2.2.2.2.1,No a1.f.2.2.2.2.2.1,g]] w (fun v w'=>Ext w w'/\v=.bool r)
def Fv:Nat->Go.L.Qv->Go.L.Qv->Option Bool
 | 0=>fun _ _=>none
 | n+1=>Fb (Fv n)
def Jn:Go.L.Qv->Go.L.Qv->Option Bool:=Fv 1000
theorem LY(self:Go.L.Qv->Go.L.Qv->Option Bool)(hself:G8 self):G8 (Fb self):=by
 intro w H hH a0 a1 m o p u v x a2 a3 aa a4 a5 ag r h;unfold G8 at hself;refine Aw (n:=76) [(0,.agg #[No a0.f.1,m,Aat a0.f.2.2.1,o,No a0.f.2.2.2.2.1,No a0.f.2.2.2.2.2.1,p]),(1,.agg #[No a1.f.1,u,Aat a1.f.2.2.1,v,No a1.f.2.2.2.2.1,No a1.f.2.2.2.2.2.1,x])] func17 rfl fun hL=>Ai<|Dq (t:=26) rfl rfl rfl hL fun w1 b1 bc bh _=>Dq (t:=26) rfl rfl rfl bc fun w2 b2 k bi _=>A4 1 rfl<|Bw (σ:=Unit) (fun(_:Unit)=>[(2,(Aas b1)),(3,(Aas b2))]) (fun(_:Unit) wr=>AU w [.box b2 [No a1.f.1,u,Aat a1.f.2.2.1,v,No a1.f.2.2.2.2.1,No a1.f.2.2.2.2.2.1,x] 26,.box b1 [No a0.f.1,m,Aat a0.f.2.2.1,o,No a0.f.2.2.2.2.1,No a0.f.2.2.2.2.2.1,p] 26] wr/\(Fp a0 a1 self)=some r) ?_ ?_
 ·refine Ai<|Ah (Af rfl AcR rfl Dd) rfl<|Ah (Ag 1 rfl AaA rfl k rfl) rfl<|Ah (Af rfl AcR rfl Dd) rfl<|Ah (Ag 0 rfl AaA rfl k rfl) rfl<|As 2 rfl<|Li 6 17 (.bool ((!decide (a0.f.1=a1.f.1))||(!decide (a0.f.2.2.1=a1.f.2.2.1)))) (fun aj=>?_) ?_
  ·refine Bl (s:=11) rfl (fun e=>?_) (fun e=>?_)
   ·iterate 5 refine Ao rfl e rfl ?_
    refine Ah (AH rfl e rfl) rfl<|aj.to 5 (Rv e) rfl rfl
   refine Ab rfl e<|Ah (Af rfl AcR rfl Kq) rfl<|Ab rfl e<|Ah (Ag 1 rfl AaQ rfl k rfl) rfl<|Ab rfl e<|Ah (Af rfl AcR rfl Kq) rfl<|Ab rfl e<|Ah (Ag 0 rfl AaQ rfl k rfl) rfl<|Ab rfl e<|Ah (R7 rfl rfl) rfl<|Ah (AS rfl e rfl) rfl<|aj.to 5 (Rw e) rfl rfl
  refine As 1 rfl<|Li 6 24 (.bool (((!decide (a0.f.1=a1.f.1))||(!decide (a0.f.2.2.1=a1.f.2.2.1)))||(!decide (a0.f.2.2.2.2.1=a1.f.2.2.2.2.1)))) (fun ak=>?_) ?_
  ·refine Bl (s:=18) rfl (fun g=>?_) (fun g=>?_)
   ·iterate 5 refine Ao rfl g rfl ?_
    refine Ah (AH rfl g rfl) rfl<|ak.to 5 (Rv g) rfl rfl
   refine Ab rfl g<|Ah (Af rfl AcR rfl Dd) rfl<|Ab rfl g<|Ah (Ag 1 rfl AaA rfl k rfl) rfl<|Ab rfl g<|Ah (Af rfl AcR rfl Dd) rfl<|Ab rfl g<|Ah (Ag 0 rfl AaA rfl k rfl) rfl<|Ab rfl g<|Ah (Aj rfl) rfl<|Ah (AS rfl g rfl) rfl<|ak.to 5 (Rw g) rfl rfl
  refine As 1 rfl<|Li 6 31 (.bool ((((!decide (a0.f.1=a1.f.1))||(!decide (a0.f.2.2.1=a1.f.2.2.1)))||(!decide (a0.f.2.2.2.2.1=a1.f.2.2.2.2.1)))||(!decide (a0.f.2.2.2.2.2.1=a1.f.2.2.2.2.2.1)))) (fun al=>?_) ?_
  ·refine Bl (s:=25) rfl (fun i=>?_) (fun i=>?_)
   ·iterate 5 refine Ao rfl i rfl ?_
    refine Ah (AH rfl i rfl) rfl<|al.to 5 (Rv i) rfl rfl
   refine Ab rfl i<|Ah (Af rfl AcR rfl Dd) rfl<|Ab rfl i<|Ah (Ag 1 rfl AaA rfl k rfl) rfl<|Ab rfl i<|Ah (Af rfl AcR rfl Dd) rfl<|Ab rfl i<|Ah (Ag 0 rfl AaA rfl k rfl) rfl<|Ab rfl i<|Ah (Aj rfl) rfl<|Ah (AS rfl i rfl) rfl<|al.to 5 (Rw i) rfl rfl
  refine As 1 rfl<|Bl (s:=32) rfl (fun c=>?_) (fun c=>?_)
  ·have h:=IU c h
   iterate 6 refine Ao rfl c rfl ?_
   refine Ah (AH rfl c rfl) rfl<|As 1 rfl ?_
   iterate 6 refine Ao rfl rfl rfl ?_
   refine Ah (AH rfl rfl rfl) rfl<|As 1 rfl ?_
   iterate 7 refine Ao rfl rfl rfl ?_
   refine Ah (AH rfl rfl rfl) rfl<|Ac<|DW rfl ?_
   cases h
  have h:=IV c h;refine Ab rfl c<|Ah (Af rfl AcR rfl Hv) rfl<|Ab rfl c<|Ah (Ag 1 rfl Abj rfl k rfl) rfl<|Ab rfl c<|Ah (Af rfl AcR rfl Hv) rfl<|Ab rfl c<|Ah (Ag 0 rfl Abj rfl k rfl) rfl<|Ab rfl c<|Aq h fun bs a6 h=>A8 rfl rfl k (IY _ _ (Al hH k) (a3.mono (Ae hH)) (a5.mono (Ae hH)) a6) fun bt bj y be=>Ab rfl c<|Ah (Aj rfl) rfl<|Ah (AS rfl c rfl) rfl<|As 1 rfl<|Bl (s:=40) rfl (fun d=>?_) (fun d=>?_)
  ·have h:=IU d h
   iterate 6 refine Ao rfl d rfl ?_
   refine Ah (AH rfl d rfl) rfl<|As 1 rfl ?_
   iterate 7 refine Ao rfl rfl rfl ?_
   refine Ah (AH rfl rfl rfl) rfl<|Ac<|DW rfl ?_
   cases h
  have h:=IV d h;refine Ab rfl d<|Ah (Af rfl AcR rfl LC) rfl<|Ab rfl d<|Ah (Ag 1 rfl Ab1 rfl y rfl) rfl<|Ab rfl d<|Ah (Af rfl AcR rfl LC) rfl<|Ab rfl d<|Ah (Ag 0 rfl Ab1 rfl y rfl) rfl<|Ab rfl d<|Aq h fun bd a7 h=>A8 rfl rfl y (Ry _ _ (Al hH y) (a2.mono (Ae hH)) (a4.mono (Ae hH)) a7) fun bu bk ab bf=>Ab rfl d<|Ah (Aj rfl) rfl<|Ah (AS rfl d rfl) rfl<|As 1 rfl<|Li 8 56 (.bool ((!bd)||(!decide ((a0.f.2.2.2.2.2.2.length:Int)=(a1.f.2.2.2.2.2.2.length:Int))))) (fun am=>?_) ?_
  ·refine Bl (s:=48) rfl (fun b=>?_) (fun b=>?_)
   ·iterate 7 refine Ao rfl b rfl ?_
    refine Ah (AH rfl b rfl) rfl<|am.to 7 (Rv b) rfl rfl
   refine Ab rfl b<|Ah (Af rfl AcR rfl Jo) rfl<|Ab rfl b<|Ah (Ag 1 rfl Adj rfl ab rfl) rfl<|Ab rfl b<|Ah (Bj rfl Adj aa) rfl<|Ab rfl b<|Ah (Af rfl AcR rfl Jo) rfl<|Ab rfl b<|Ah (Ag 0 rfl Adj rfl ab rfl) rfl<|Ab rfl b<|Ah (Bj rfl Adj ag) rfl<|Ab rfl b<|Ah (Aj rfl) rfl<|Ah (AS rfl b rfl) rfl<|am.to 7 (Rw b) rfl rfl
  refine Ac<|By rfl h (fun a8 h=>?_) (fun a8 h=>?_)
  ·cases h
  refine Au<|A6 () (Sub.of rfl) ⟨ab,h⟩
 rintro _ bl ⟨a9,h⟩;refine Bw (σ:=Unit) (fun(_:Unit)=>[]) (fun(_:Unit) wr=>AU w [.box b2 [No a1.f.1,u,Aat a1.f.2.2.1,v,No a1.f.2.2.2.2.1,No a1.f.2.2.2.2.2.1,x] 26,.box b1 [No a0.f.1,m,Aat a0.f.2.2.1,o,No a0.f.2.2.2.2.1,No a0.f.2.2.2.2.2.1,p] 26] wr/\Fo=some r) ?_ ?_
 ·refine AD 1 rfl<|A2 ?_;obtain⟨ac,h⟩:=AY h;refine B8 (σ:=Int×Nat) (fun⟨j,n⟩=>[(2,(Aas b1)),(3,(Aas b2)),(5,No j)]) (fun⟨j,n⟩ wr=>AU w [.box b2 [No a1.f.1,u,Aat a1.f.2.2.1,v,No a1.f.2.2.2.2.1,No a1.f.2.2.2.2.2.1,x] 26,.box b1 [No a0.f.1,m,Aat a0.f.2.2.1,o,No a0.f.2.2.2.2.1,No a0.f.2.2.2.2.2.1,p] 26] wr/\GR (EK a0 a1 self) n j=some r) (fun⟨j,n⟩=>n) (0,ac) (Sub.of rfl) ⟨a9,h⟩ ?_;rintro⟨j,nn100⟩ bg ⟨z,h⟩;obtain⟨ac,bm,rfl,h,ad⟩:=AX h;refine A9<|Bs 1 rfl<|Ah (Af rfl AcR rfl Jo) rfl<|Ah (Ag 1 rfl Adj rfl z rfl) rfl<|Ah (Bj rfl Adj aa) rfl<|A4 1 rfl<|AO rfl h (fun ap h=>?_) (fun ap h=>?_)
  ·refine Au<|Ar<|A9<|A2<|IQ (.q 0 (.q 1 (.q 2 (.q 3 (.q 4 (.q 5 (.q 6 (.q 7 (.q 8 (.q 9 (.q 10 (.q 11 (.tail 12))))))))))))) mixed (by kernel_rfl) (fun ba aq=>?_);have a:=z.call aq;refine FK (Af rfl AcR rfl Jo) rfl rfl<|FK (Ag 1 rfl Adj rfl a rfl) rfl rfl<|GQ 1 rfl<|AB h fun ae h=>L3 rfl rfl rfl Adj Bm aa j.toNat (Hc ae) (Ba ae) rfl ?_;rintro bn _ e106t0 ar;obtain⟨_,_,rfl,rfl,⟨_,_,rfl,⟨e106v1,rfl,e106h1⟩,⟨_,_,rfl,rfl,⟨_,_,rfl,⟨e106v3,rfl,e106h3⟩,⟨_,_,rfl,rfl,⟨_,_,rfl,rfl,⟨e106v6,rfl,e106h6⟩⟩⟩⟩⟩⟩⟩:=Go.E.Rp.Gm e106t0;refine FK (C7 rfl AcR rfl Bm ar (hH.trans a.arg)) rfl rfl<|FK (Af rfl AcR rfl Jo) rfl rfl<|FK (Ag 0 rfl Adj rfl a rfl) rfl rfl<|GQ 1 rfl<|AB h fun af h=>L3 rfl rfl rfl Adj Bm ag j.toNat (Hc af) (Ba af) rfl ?_;rintro bo _ e108t0 au;obtain⟨_,_,rfl,rfl,⟨_,_,rfl,⟨e108v1,rfl,e108h1⟩,⟨_,_,rfl,rfl,⟨_,_,rfl,⟨e108v3,rfl,e108h3⟩,⟨_,_,rfl,rfl,⟨_,_,rfl,rfl,⟨e108v6,rfl,e108h6⟩⟩⟩⟩⟩⟩⟩:=Go.E.Rp.Gm e108t0;refine FK (C7 rfl AcR rfl Bm au (hH.trans a.arg)) rfl rfl<|Aq h fun bp av h=>?_
   have an:=(fun(ao:World) (l:Ext ba ao)=>hself ao _ (Le.refl _) ((e106h1.mono (hH.trans a.arg)).mono l.le) ((e106h3.mono (hH.trans a.arg)).mono l.le) ((e106h6.mono (hH.trans a.arg)).mono l.le) ((e108h1.mono (hH.trans a.arg)).mono l.le) ((e108h3.mono (hH.trans a.arg)).mono l.le) ((e108h6.mono (hH.trans a.arg)).mono l.le) av);refine KK rfl rfl rfl an<|GQ 1 rfl<|DX (fun bq aw=>?_);have ax:=a.call aw;refine Ac<|By rfl h (fun ay h=>?_) (fun ay h=>?_)
   ·cases h
   refine Au<|AJ<|Ar<|Av<|As 1 rfl<|AB h fun az h=>Ah (AK rfl az) rfl<|As 1 rfl<|AQ ?_;have h:=CV.again h ad;refine AW ((j+1),ac) (Sub.of rfl) ⟨ax,h⟩ (Nat.lt_succ_self _)
  refine B5<|AE<|A7 ?_;have h:=CV.out h ad;refine Bk<|A6 () (Sub.nil _) ⟨z,h⟩
 rintro _ br ⟨bb,h⟩;refine AD 1 rfl<|Ax ?_
 cases h
 refine Am rfl ⟨bb.ext,rfl⟩
theorem Nq(n:Nat):G8 (Fv n):=by
 induction n with
 | zero=>unfold G8;intros;rename_i h;cases h
 | succ n ih=>exact LY (Fv n) ih
theorem Ox(w:World)(H:PH)(hH:Le H (hp w)){a0 a1:Go.L.Qv}{a b c d e g:Value}(i:AA .st H a (a0.f.2.1))(j:AA .byte H b (a0.f.2.2.2.1))(k:AA .Bg H c (a0.f.2.2.2.2.2.2))(l:AA .st H d (a1.f.2.1))(m:AA .byte H e (a1.f.2.2.2.1))(n:AA .Bg H g (a1.f.2.2.2.2.2.2)){r:Bool}(h:Jn a0 a1=some r):Ok prog 17 [.agg #[No a0.f.1,a,Aat a0.f.2.2.1,b,No a0.f.2.2.2.2.1,No a0.f.2.2.2.2.2.1,c],.agg #[No a1.f.1,d,Aat a1.f.2.2.1,e,No a1.f.2.2.2.2.1,No a1.f.2.2.2.2.2.1,g]] w (fun v w'=>Ext w w'/\v=.bool r):=Nq 1000 w H hH i j k l m n h
def Ex(a:Bool):Option Bool:=
 some a
def II:Option Bool:=
 Option.bind (Nc ([111,120]:Aaz)) (fun c=>Option.bind (GK (Go.L.Qv.mk (10:Int) ([]) ([]:Aaz) ([]) (0:Int) (0:Int) ([c]))) (fun o=>Option.bind (Jm ([33,111,120]:Aaz)) (fun d=>Bh ([(111:UInt8),(120:UInt8)]≠[]) (Option.bind (JN (1:Int)) (fun p=>Bh ([(99:UInt8),(111:UInt8),(119:UInt8)]≠[]) (Option.bind (JN (2:Int)) (fun q=>Option.bind (GL ([([(111:UInt8),(120:UInt8)],p),([(99:UInt8),(111:UInt8),(119:UInt8)],q)])) (fun a=>Option.bind (F6 ((a.1.1.1,a.1.1.2),(a.1.2.1.1,a.1.2.1.2),a.1.2.2) (Go.L.Qv.mk (10:Int) ([]) ([]:Aaz) ([]) (0:Int) (0:Int) ([c])) ([true,true])) (fun e=>Option.bind (F6 ((a.1.1.1,a.1.1.2),(a.1.2.1.1,a.1.2.1.2),a.1.2.2) (Go.L.Qv.mk (10:Int) ([]) ([]:Aaz) ([]) (0:Int) (0:Int) ([c])) ([true,false])) (fun f=>Option.bind (BR ((a.1.1.1,a.1.1.2),(a.1.2.1.1,a.1.2.1.2),a.1.2.2) (1:Int) (0:Int) (2:Int) ([false,true])) (fun g=>Option.bind (BR ((a.1.1.1,a.1.1.2),(a.1.2.1.1,a.1.2.1.2),a.1.2.2) (1:Int) (0:Int) (2:Int) ([true,false])) (fun h=>Option.bind (Jm ([33,40,97,124,33,98,41]:Aaz)) (fun i=>Option.bind (JE i.1) (fun j=>Option.bind (GK j.1) (fun k=>if o.2.1=0 then if d.2.1=0 then if a.2.1=0 then if e.2.1=0 then if f.2.1=0 then if g.2.1=0 then if i.2.1=0 then if j.2.1=0 then if k.2.1=0 then(if o.1=([33,111,120]:Aaz) then Option.bind (Jn d.1 (Go.L.Qv.mk (10:Int) ([]) ([]:Aaz) ([]) (0:Int) (0:Int) ([c]))) (fun l=>if l then Option.bind (Na e.1 ([1])) (fun m=>if m then if(f.1.length:Int)=0 then Bh ([(99:UInt8),(111:UInt8)]≠[]) (Option.bind (E2 g.1 ([(99:UInt8),(111:UInt8)])) (fun n=>if n then Option.bind (Kh (20:Int) (-1:Int)) (fun b=>if h.2.1=b.1/\h.2.2=b.2 then Ex (decide (k.1=([33,97,38,98]:Aaz))) else Ex false) else Ex false)) else Ex false else Ex false) else Ex false) else Ex false) else none else none else none else none else none else none else none else none else none)))))))))))))))
theorem LZ(w:World)(H:PH)(hH:Le H (hp w))(hU:EE H){r:Bool}(h:II=some r):
  Ok prog 13 [] w (fun v w'=>Ext w w'/\v=.bool r):=by
 refine Aw (n:=162) [] func13 rfl fun hL=>AD 1 rfl<|Ai<|Aq h fun x1 h0 h=>Bf rfl rfl hL (SB _ _ (Al hH hL) h0) ?_;rintro _ w2 ⟨iu,iv,iw,rfl,e8,e9,fa⟩ dv h1 ix;have fb:=e8.mono (Ds hH hL dv);have fc:=e9.C8 hH hL dv;have fd:=fa.C8 hH hL dv;refine Br (r:=.Bg) (l:=[x1]) rfl (fun _=>KE _ _ _ _ _ _ _ _) rfl (B2 1) hH h1 (.c7 (Go.E.Rp.GA ⟨_,_,rfl,rfl,⟨_,_,rfl,⟨_,rfl,fb⟩,⟨_,_,rfl,rfl,⟨_,_,rfl,⟨_,rfl,fc⟩,⟨_,_,rfl,rfl,⟨_,_,rfl,rfl,⟨_,rfl,fd⟩⟩⟩⟩⟩⟩⟩) .nil) fun v3 w3 jn h2 iy aw=>Ah (AN rfl (fun _=>Lc _ _ aw.one _)) rfl<|A3 Bm rfl rfl h2 fun w4 b4 h3 fx _=>Ad 0 rfl Bm h3 rfl (Bb rfl (Bb rfl (Bb rfl (Bb rfl (Bb rfl (Bb rfl (Bb aw.one I8))))))) fun w5 dw fy=>Ac<|Ai<|Ah (A5 0 rfl AcR rfl Bm dw rfl) rfl<|Aq h fun x6 h4 h=>?_;have aw:=aw.mono (Aa hH (fx.trans fy));refine A8 rfl rfl dw (I0 (a0:=(Go.L.Qv.mk (10:Int) ([]) ([]:Aaz) ([]) (0:Int) (0:Int) ([x1]))) _ _ (Al hH dw) (hU.mono (Ae hH)) (AA.nil _ _) (AA.nil _ _) aw h4) fun w7 jo h5 fz=>As 3 rfl<|A3 AI rfl rfl h5 fun w8 b8 h6 f1 _=>As 1 rfl ?_
 refine Ad 0 rfl AI h6 rfl (AT rfl) fun w9 cy f2=>Ac<|Ai<|Aq h fun an f3 h=>Bf rfl rfl cy (Mg _ _ (Al hH cy) (hU.mono (Ae hH)) f3) ?_;rintro _ jp ⟨bq,br,bs,rfl,dx,dy,dz⟩ c0 f4 ff;have ad:=dx.mono (Ds hH cy c0);have ae:=dy.mono (Ds hH cy c0);have af:=dz.mono (Ds hH cy c0);refine As 3 rfl<|A3 Bm rfl rfl f4 fun jq d0 f5 az _=>A3 AI rfl rfl f5 fun jr d1 f6 a2 _=>Ad 1 rfl Bm f6 rfl (Bb rfl (Bb ad.one (Bb rfl (Bb ae.one (Bb rfl (Bb rfl (Bb af.one I8))))))) fun js f7 a3=>Ad 0 rfl AI f7 rfl (AT rfl) fun jt d2 a4=>Ac ?_;have j:=d2.rG H;refine Ai<|L4 (r:=.byte) (l:=[(111:UInt8),(120:UInt8)]) rfl (fun _=>Vx _ _ _) rfl (B2 2) hH d2 (.c1 rfl (.c1 rfl .nil)) fun ju jv iz f8 fg f9=>AB h fun ga h=>Xc 0 rfl Abj Acu rfl hH f8 rfl f9 ga fun jw cb fh cq=>Aq h fun h7 gb h=>Bf rfl rfl cb (MB _ _ (Al hH cb) gb) ?_;rintro _ jx ⟨ia,ib,ic,rfl,d3,d4,d5⟩ c2 gc de;have cc:=d3.C8 hH cb c2;have cd:=d4.C8 hH cb c2
 have ce:=d5.C8 hH cb c2;refine Ah (AN rfl (fun _=>RL _ cq.one _ _ _ _ _ _)) rfl<|L4 (r:=.byte) (l:=[(99:UInt8),(111:UInt8),(119:UInt8)]) rfl (fun _=>Z6 _ _ _ _) rfl (B2 3) hH gc (.c1 rfl (.c1 rfl (.c1 rfl .nil))) fun jy jz i0 gd bf ge=>AB h fun gf h=>Xc 0 rfl Abj Acu rfl hH gd rfl ge gf fun j0 cf bg cr=>Aq h fun h8 gg h=>Bf rfl rfl cf (MB _ _ (Al hH cf) gg) ?_;rintro _ j1 ⟨ie,ig,ih,rfl,d6,d7,d8⟩ c3 gh bd;have d9:=d6.C8 hH cf c3;have ea:=d7.C8 hH cf c3;have eb:=d8.C8 hH cf c3;refine Ah (AN rfl (fun _=>RL _ cr.one _ _ _ _ _ _)) rfl ?_;have cq:=cq.mono (Aa hH (de.trans (bf.trans (bg.trans bd))));have cc:=cc.mono (Aa hH (bf.trans (bg.trans bd)));have cd:=cd.mono (Aa hH (bf.trans (bg.trans bd)));have ce:=ce.mono (Aa hH (bf.trans (bg.trans bd)));have cr:=cr.mono (Aa hH bd)
 refine Br (r:=(.pair (.vec .byte) .tree)) (l:=[([(111:UInt8),(120:UInt8)],h7),([(99:UInt8),(111:UInt8),(119:UInt8)],h8)]) rfl (fun _=>Z7 _ _ _ _ _ _ _ _ _ _ _ _ _) rfl (B2 2) hH gh (.c6 ⟨_,_,rfl,⟨_,rfl,cq⟩,(Go.E.Rp.Dt ⟨_,_,rfl,rfl,⟨_,_,rfl,rfl,⟨_,_,rfl,⟨_,rfl,cc⟩,⟨_,_,rfl,⟨_,rfl,cd⟩,⟨_,rfl,ce⟩⟩⟩⟩⟩)⟩ (.c6 ⟨_,_,rfl,⟨_,rfl,cr⟩,(Go.E.Rp.Dt ⟨_,_,rfl,rfl,⟨_,_,rfl,rfl,⟨_,_,rfl,⟨_,rfl,d9⟩,⟨_,_,rfl,⟨_,rfl,ea⟩,⟨_,rfl,eb⟩⟩⟩⟩⟩)⟩ .nil)) fun j2 j3 i1 cg fi gi=>Aq h fun k gj h=>Bf rfl rfl cg (Mf _ _ (Al hH cg) (hU.mono (Ae hH)) gi gj) ?_;rintro _ j4 ⟨bt,bu,bv,rfl,ec,ed,ee⟩ c4 gk fj;have y:=ec.mono (Ds hH cg c4);have aa:=ed.mono (Ds hH cg c4);have ab:=ee.C8 hH cg c4;refine As 3 rfl<|A3 I3 rfl rfl gk fun j5 ef gl bw _=>A3 AI rfl rfl gl fun j6 eg gm bx _=>Ad 1 rfl I3 gm rfl (Bb rfl (Bb y.one (Bb rfl (Bb aa.one (Bb ab.one I8))))) fun j7 gn bz=>Ad 0 rfl AI gn rfl (AT rfl) fun j8 cs b0=>Ac ?_;have e:=cs.rG H;refine Ai<|Ah (A5 1 rfl Adl rfl I3 cs rfl) rfl ?_
 refine Ah (A5 5 rfl AcR rfl Bm cs rfl) rfl<|Br (r:=.bool) (l:=[true,true]) rfl (fun _=>PO _ _ _) rfl (B2 2) hH cs (.c1 rfl (.c1 rfl .nil)) fun j9 ka i2 c5 fk go=>Aq h fun cm gp h=>?_;have aw:=aw.mono (Aa hH (fz.trans (f1.trans (f2.trans (ff.trans (az.trans (a2.trans (a3.trans a4))))))));have j:=j.trans (Aa hH (fg.trans (fh.trans (de.trans (bf.trans (bg.trans (bd.trans (fi.trans (fj.trans (bw.trans (bx.trans (bz.trans b0))))))))))));have y:=y.mono (Aa hH (bw.trans (bx.trans (bz.trans b0))));have aa:=aa.mono (Aa hH (bw.trans (bx.trans (bz.trans b0))));have ab:=ab.mono (Aa hH (bw.trans (bx.trans (bz.trans b0))));have e:=e.trans (Aa hH fk);refine Bf rfl rfl c5 (Jr (a0:=((k.1.1.1,k.1.1.2),(k.1.2.1.1,k.1.2.1.2),k.1.2.2)) (a1:=(Go.L.Qv.mk (10:Int) ([]) ([]:Aaz) ([]) (0:Int) (0:Int) ([x1]))) _ _ (Al hH c5) (hU.mono (Ae hH)) (y.mono e) (aa.mono e) (ab.mono e) (AA.nil _ _) (AA.nil _ _) ((aw.mono j).mono e) go gp) ?_;rintro _ kb ⟨ii,rfl,eh⟩ gq gr fl;have ch:=eh.C8 hH c5 gq;refine As 3 rfl<|A3 AI rfl rfl gr fun kc ei gs df _=>As 1 rfl ?_
 refine Ad 0 rfl AI gs rfl (AT rfl) fun kd c8 dg=>Ac<|Ai<|Ah (A5 2 rfl Adl rfl I3 c8 rfl) rfl<|Ah (A5 6 rfl AcR rfl Bm c8 rfl) rfl<|Br (r:=.bool) (l:=[true,false]) rfl (fun _=>PO _ _ _) rfl (B2 2) hH c8 (.c1 rfl (.c1 rfl .nil)) fun ke kf i3 c9 dh gt=>Aq h fun cn gu h=>?_;have e:=e.trans (Aa hH (fl.trans (df.trans (dg.trans dh))));refine Bf rfl rfl c9 (Jr (a0:=((k.1.1.1,k.1.1.2),(k.1.2.1.1,k.1.2.1.2),k.1.2.2)) (a1:=(Go.L.Qv.mk (10:Int) ([]) ([]:Aaz) ([]) (0:Int) (0:Int) ([x1]))) _ _ (Al hH c9) (hU.mono (Ae hH)) (y.mono e) (aa.mono e) (ab.mono e) (AA.nil _ _) (AA.nil _ _) ((aw.mono j).mono e) gt gu) ?_;rintro _ kg ⟨ij,rfl,ej⟩ gv gw di;have ci:=ej.C8 hH c9 gv;refine As 3 rfl<|A3 AI rfl rfl gw fun kh ek gx ct _=>As 1 rfl<|Ad 0 rfl AI gx rfl (AT rfl) fun ki el cu=>Ac<|Ai<|Ah (A5 3 rfl Adl rfl I3 el rfl) rfl<|Br (r:=.bool) (l:=[false,true]) rfl (fun _=>PO _ _ _) rfl (B2 2) hH el (.c1 rfl (.c1 rfl .nil)) fun kj kk i4 da cv gy=>Aq h fun co g0 h=>?_
 have e:=e.trans (Aa hH (di.trans (ct.trans (cu.trans cv))));refine Bf rfl rfl da (GN (a0:=((k.1.1.1,k.1.1.2),(k.1.2.1.1,k.1.2.1.2),k.1.2.2)) _ _ (Al hH da) (y.mono e) (aa.mono e) (ab.mono e) gy g0) ?_;rintro _ kl ⟨ik,rfl,em⟩ g1 g2 cw;have cj:=em.mono (Ds hH da g1);refine As 3 rfl<|A3 AI rfl rfl g2 fun km en g3 b1 _=>As 1 rfl<|Ad 0 rfl AI g3 rfl (AT rfl) fun kn db b2=>Ac ?_;have g:=db.rG H;refine Ai<|Ah (A5 4 rfl Adl rfl I3 db rfl) rfl<|Br (r:=.bool) (l:=[true,false]) rfl (fun _=>PO _ _ _) rfl (B2 2) hH db (.c1 rfl (.c1 rfl .nil)) fun ko kp i5 eo fm g4=>Aq h fun cp g5 h=>?_;have e:=e.trans (Aa hH (cw.trans (b1.trans b2)));have g:=g.trans (Aa hH fm);refine Bf rfl rfl eo (GN (a0:=((k.1.1.1,k.1.1.2),(k.1.2.1.1,k.1.2.1.2),k.1.2.2)) _ _ (Al hH eo) ((y.mono e).mono g) ((aa.mono e).mono g) ((ab.mono e).mono g) g4 g5) ?_;rintro _ kq ⟨il,rfl,h9⟩ i6 g6 dj;refine As 3 rfl<|A3 AI rfl rfl g6 fun kr ep g7 dk _=>As 1 rfl<|Ad 0 rfl AI g7 rfl (AT rfl) ?_
 intro ks ck dl;refine Ac<|Ai<|Aq h fun ao g8 h=>Bf rfl rfl ck (Mg _ _ (Al hH ck) (hU.mono (Ae hH)) g8) ?_;rintro _ kt ⟨b3,b5,b6,rfl,eq,er,es⟩ dc g9 dm;have ag:=eq.mono (Ds hH ck dc);have ah:=er.mono (Ds hH ck dc);have ai:=es.mono (Ds hH ck dc);refine As 3 rfl<|A3 Bm rfl rfl g9 fun ku et ha bh _=>A3 AI rfl rfl ha fun kv eu hb bi _=>Ad 1 rfl Bm hb rfl (Bb rfl (Bb ag.one (Bb rfl (Bb ah.one (Bb rfl (Bb rfl (Bb ai.one I8))))))) fun kw hc bj=>Ad 0 rfl AI hc rfl (AT rfl) fun kx be bk=>Ac ?_;have d:=be.rG H;refine Ai<|Ah (A5 1 rfl AcR rfl Bm be rfl) rfl<|Aq h fun ap hd h=>?_;have ag:=ag.mono (Aa hH (bh.trans (bi.trans (bj.trans bk))));have ah:=ah.mono (Aa hH (bh.trans (bi.trans (bj.trans bk))));have ai:=ai.mono (Aa hH (bh.trans (bi.trans (bj.trans bk))));refine Bf rfl rfl be (OY (a0:=ao.1) _ _ (Al hH be) (hU.mono (Ae hH)) (ag.mono d) (ah.mono d) (ai.mono d) hd) ?_;rintro _ ky ⟨b7,b9,ca,rfl,ev,ew,ex⟩ dd he dn
 have aj:=ev.mono (Ds hH be dd);have ak:=ew.mono (Ds hH be dd);have al:=ex.mono (Ds hH be dd);refine As 3 rfl<|A3 Bm rfl rfl he fun kz ey hf bl _=>A3 AI rfl rfl hf fun k0 ez hg bm _=>Ad 1 rfl Bm hg rfl (Bb rfl (Bb aj.one (Bb rfl (Bb ak.one (Bb rfl (Bb rfl (Bb al.one I8))))))) fun k1 hh bn=>Ad 0 rfl AI hh rfl (AT rfl) fun k2 cx bo=>Ac ?_;have c:=cx.rG H;refine Ai<|Ah (A5 1 rfl AcR rfl Bm cx rfl) rfl<|Aq h fun cl hi h=>?_;have aj:=aj.mono (Aa hH (bl.trans (bm.trans (bn.trans bo))));have ak:=ak.mono (Aa hH (bl.trans (bm.trans (bn.trans bo))));have al:=al.mono (Aa hH (bl.trans (bm.trans (bn.trans bo))));refine A8 rfl rfl cx (I0 (a0:=ap.1) _ _ (Al hH cx) (hU.mono (Ae hH)) (aj.mono c) (ak.mono c) (al.mono c) hi) fun k3 i7 hj dp=>As 3 rfl<|A3 AI rfl rfl hj fun k4 e0 hk dq _=>As 1 rfl<|Ad 0 rfl AI hk rfl (AT rfl) fun k5 ay dr=>Ac<|A9<|Ai<|Ah (Af rfl AcP rfl Dd) rfl ?_
 refine Ah (Ag 13 rfl AaA rfl ay rfl) rfl<|As 2 rfl<|Bl (s:=90) rfl (fun a5=>?_) (fun a5=>?_)
 ·have h:=Ep (Hd a5) h
  iterate 3 refine Ao rfl a5 rfl ?_
  refine Ah (AH rfl a5 rfl) rfl<|As 1 rfl ?_
  iterate 3 refine Ao rfl rfl rfl ?_
  refine Ah (AH rfl rfl rfl) rfl<|As 1 rfl ?_
  iterate 3 refine Ao rfl rfl rfl ?_
  refine Ah (AH rfl rfl rfl) rfl<|As 1 rfl ?_
  iterate 3 refine Ao rfl rfl rfl ?_
  refine Ah (AH rfl rfl rfl) rfl<|As 1 rfl ?_
  iterate 3 refine Ao rfl rfl rfl ?_
  refine Ah (AH rfl rfl rfl) rfl<|As 1 rfl ?_
  iterate 3 refine Ao rfl rfl rfl ?_
  refine Ah (AH rfl rfl rfl) rfl<|As 1 rfl ?_
  iterate 3 refine Ao rfl rfl rfl ?_
  refine Ah (AH rfl rfl rfl) rfl<|As 1 rfl ?_
  iterate 3 refine Ao rfl rfl rfl ?_
  refine Ah (AH rfl rfl rfl) rfl<|Ac<|DW rfl ?_
  cases h
 have h:=Eo (He a5) h;refine Ab rfl a5<|Ah (Af rfl AcP rfl Dd) rfl<|Ab rfl a5<|Ah (Ag 11 rfl AaA rfl ay rfl) rfl<|Ab rfl a5<|Ah (Aj rfl) rfl<|Ah (AS rfl a5 rfl) rfl<|As 1 rfl<|Bl (s:=95) rfl (fun a6=>?_) (fun a6=>?_)
 ·have h:=Ep (Hd a6) h
  iterate 3 refine Ao rfl a6 rfl ?_
  refine Ah (AH rfl a6 rfl) rfl<|As 1 rfl ?_
  iterate 3 refine Ao rfl rfl rfl ?_
  refine Ah (AH rfl rfl rfl) rfl<|As 1 rfl ?_
  iterate 3 refine Ao rfl rfl rfl ?_
  refine Ah (AH rfl rfl rfl) rfl<|As 1 rfl ?_
  iterate 3 refine Ao rfl rfl rfl ?_
  refine Ah (AH rfl rfl rfl) rfl<|As 1 rfl ?_
  iterate 3 refine Ao rfl rfl rfl ?_
  refine Ah (AH rfl rfl rfl) rfl<|As 1 rfl ?_
  iterate 3 refine Ao rfl rfl rfl ?_
  refine Ah (AH rfl rfl rfl) rfl<|As 1 rfl ?_
  iterate 3 refine Ao rfl rfl rfl ?_
  refine Ah (AH rfl rfl rfl) rfl<|Ac<|DW rfl ?_
  cases h
 have h:=Eo (He a6) h;refine Ab rfl a6<|Ah (Af rfl AcP rfl Dd) rfl<|Ab rfl a6<|Ah (Ag 9 rfl AaA rfl ay rfl) rfl<|Ab rfl a6<|Ah (Aj rfl) rfl<|Ah (AS rfl a6 rfl) rfl<|As 1 rfl<|Bl (s:=100) rfl (fun a7=>?_) (fun a7=>?_)
 ·have h:=Ep (Hd a7) h
  iterate 3 refine Ao rfl a7 rfl ?_
  refine Ah (AH rfl a7 rfl) rfl<|As 1 rfl ?_
  iterate 3 refine Ao rfl rfl rfl ?_
  refine Ah (AH rfl rfl rfl) rfl<|As 1 rfl ?_
  iterate 3 refine Ao rfl rfl rfl ?_
  refine Ah (AH rfl rfl rfl) rfl<|As 1 rfl ?_
  iterate 3 refine Ao rfl rfl rfl ?_
  refine Ah (AH rfl rfl rfl) rfl<|As 1 rfl ?_
  iterate 3 refine Ao rfl rfl rfl ?_
  refine Ah (AH rfl rfl rfl) rfl<|As 1 rfl ?_
  iterate 3 refine Ao rfl rfl rfl ?_
  refine Ah (AH rfl rfl rfl) rfl<|Ac<|DW rfl ?_
  cases h
 have h:=Eo (He a7) h;refine Ab rfl a7<|Ah (Af rfl AcP rfl Dd) rfl<|Ab rfl a7<|Ah (Ag 8 rfl AaA rfl ay rfl) rfl<|Ab rfl a7<|Ah (Aj rfl) rfl<|Ah (AS rfl a7 rfl) rfl<|As 1 rfl<|Bl (s:=105) rfl (fun a8=>?_) (fun a8=>?_)
 ·have h:=Ep (Hd a8) h
  iterate 3 refine Ao rfl a8 rfl ?_
  refine Ah (AH rfl a8 rfl) rfl<|As 1 rfl ?_
  iterate 3 refine Ao rfl rfl rfl ?_
  refine Ah (AH rfl rfl rfl) rfl<|As 1 rfl ?_
  iterate 3 refine Ao rfl rfl rfl ?_
  refine Ah (AH rfl rfl rfl) rfl<|As 1 rfl ?_
  iterate 3 refine Ao rfl rfl rfl ?_
  refine Ah (AH rfl rfl rfl) rfl<|As 1 rfl ?_
  iterate 3 refine Ao rfl rfl rfl ?_
  refine Ah (AH rfl rfl rfl) rfl<|Ac<|DW rfl ?_
  cases h
 have h:=Eo (He a8) h;refine Ab rfl a8<|Ah (Af rfl AcP rfl Dd) rfl<|Ab rfl a8<|Ah (Ag 7 rfl AaA rfl ay rfl) rfl<|Ab rfl a8<|Ah (Aj rfl) rfl<|Ah (AS rfl a8 rfl) rfl<|As 1 rfl<|Bl (s:=110) rfl (fun a9=>?_) (fun a9=>?_)
 ·have h:=Ep (Hd a9) h
  iterate 3 refine Ao rfl a9 rfl ?_
  refine Ah (AH rfl a9 rfl) rfl<|As 1 rfl ?_
  iterate 3 refine Ao rfl rfl rfl ?_
  refine Ah (AH rfl rfl rfl) rfl<|As 1 rfl ?_
  iterate 3 refine Ao rfl rfl rfl ?_
  refine Ah (AH rfl rfl rfl) rfl<|As 1 rfl ?_
  iterate 3 refine Ao rfl rfl rfl ?_
  refine Ah (AH rfl rfl rfl) rfl<|Ac<|DW rfl ?_
  cases h
 have h:=Eo (He a9) h;refine Ab rfl a9<|Ah (Af rfl AcP rfl Dd) rfl<|Ab rfl a9<|Ah (Ag 6 rfl AaA rfl ay rfl) rfl<|Ab rfl a9<|Ah (Aj rfl) rfl<|Ah (AS rfl a9 rfl) rfl<|As 1 rfl<|Bl (s:=115) rfl (fun ba=>?_) (fun ba=>?_)
 ·have h:=Ep (Hd ba) h
  iterate 3 refine Ao rfl ba rfl ?_
  refine Ah (AH rfl ba rfl) rfl<|As 1 rfl ?_
  iterate 3 refine Ao rfl rfl rfl ?_
  refine Ah (AH rfl rfl rfl) rfl<|As 1 rfl ?_
  iterate 3 refine Ao rfl rfl rfl ?_
  refine Ah (AH rfl rfl rfl) rfl<|Ac<|DW rfl ?_
  cases h
 have h:=Eo (He ba) h;refine Ab rfl ba<|Ah (Af rfl AcP rfl Dd) rfl<|Ab rfl ba<|Ah (Ag 3 rfl AaA rfl ay rfl) rfl<|Ab rfl ba<|Ah (Aj rfl) rfl<|Ah (AS rfl ba rfl) rfl<|As 1 rfl<|Bl (s:=120) rfl (fun bb=>?_) (fun bb=>?_)
 ·have h:=Ep (Hd bb) h
  iterate 3 refine Ao rfl bb rfl ?_
  refine Ah (AH rfl bb rfl) rfl<|As 1 rfl ?_
  iterate 3 refine Ao rfl rfl rfl ?_
  refine Ah (AH rfl rfl rfl) rfl<|Ac<|DW rfl ?_
  cases h
 have h:=Eo (He bb) h;refine Ab rfl bb<|Ah (Af rfl AcP rfl Dd) rfl<|Ab rfl bb<|Ah (Ag 1 rfl AaA rfl ay rfl) rfl<|Ab rfl bb<|Ah (Aj rfl) rfl<|Ah (AS rfl bb rfl) rfl<|As 1 rfl<|Bl (s:=125) rfl (fun bc=>?_) (fun bc=>?_)
 ·have h:=Ep (Hd bc) h
  iterate 3 refine Ao rfl bc rfl ?_
  refine Ah (AH rfl bc rfl) rfl<|Ac<|DW rfl ?_
  cases h
 have h:=Eo (He bc) h;refine Ab rfl bc<|Ah (Af rfl AcP rfl Dd) rfl<|Ab rfl bc<|Ah (Ag 0 rfl AaA rfl ay rfl) rfl<|Ab rfl bc<|Ah (Aj rfl) rfl<|Ah (AS rfl bc rfl) rfl<|Ac<|Cf rfl h (fun hl h=>?_) (fun hl h=>?_)
 ·cases h
 refine Au<|Ar ?_
 refine Bw (σ:=Bool) (fun bp=>[(0,.bool bp)]) (fun bp wr=>FL w [.box e0 [No cl.2.1,No cl.2.2] 28,.box ez [No ap.2.1,No ap.2.2] 28,.box ey [No ap.1.f.1,b7,Aat ap.1.f.2.2.1,b9,No ap.1.f.2.2.2.2.1,No ap.1.f.2.2.2.2.2.1,ca] 26,.box eu [No ao.2.1,No ao.2.2] 28,.box et [No ao.1.f.1,b3,Aat ao.1.f.2.2.1,b5,No ao.1.f.2.2.2.2.1,No ao.1.f.2.2.2.2.2.1,b6] 26,.box ep [No cp.2.1,No cp.2.2] 28,.box en [No co.2.1,No co.2.2] 28,.box ek [No cn.2.1,No cn.2.2] 28,.box ei [No cm.2.1,No cm.2.2] 28,.box eg [No k.2.1,No k.2.2] 28,.box ef [No k.1.1.1,bt,No k.1.2.1.1,bu,bv] 52,.box d1 [No an.2.1,No an.2.2] 28,.box d0 [No an.1.f.1,bq,Aat an.1.f.2.2.1,br,No an.1.f.2.2.2.2.1,No an.1.f.2.2.2.2.2.1,bs] 26,.box b8 [No x6.2.1,No x6.2.2] 28,.box b4 [No 10,Aaq,(Aat []),Aaq,No 0,No 0,v3] 26] wr fun Oz=>AA .st (gz H w wr Oz) b7 (ap.1.f.2.1)/\AA .byte (gz H w wr Oz) b9 (ap.1.f.2.2.2.1)/\AA .Bg (gz H w wr Oz) ca (ap.1.f.2.2.2.2.2.2)/\AA .st (gz H w wr Oz) b3 (ao.1.f.2.1)/\AA .byte (gz H w wr Oz) b5 (ao.1.f.2.2.2.1)/\AA .Bg (gz H w wr Oz) b6 (ao.1.f.2.2.2.2.2.2)/\AA (.pair .st (.vec Ad4)) (gz H w wr Oz) bt (k.1.1.2)/\AA Ad3 (gz H w wr Oz) bu (k.1.2.1.2)/\AA Ad2 (gz H w wr Oz) bv (k.1.2.2)/\AA .st (gz H w wr Oz) bq (an.1.f.2.1)/\AA .byte (gz H w wr Oz) br (an.1.f.2.2.2.1)/\AA .Bg (gz H w wr Oz) bs (an.1.f.2.2.2.2.2.2)/\AA .Bg (gz H w wr Oz) v3 ([x1])/\Ex bp=some r) ?_ ?_
 ·refine Jw (M4 L6) (fun z0 z=>Le (gz H w z0 [.box e0 [No cl.2.1,No cl.2.2] 28,.box ez [No ap.2.1,No ap.2.2] 28,.box ey [No ap.1.f.1,b7,Aat ap.1.f.2.2.1,b9,No ap.1.f.2.2.2.2.1,No ap.1.f.2.2.2.2.2.1,ca] 26,.box eu [No ao.2.1,No ao.2.2] 28,.box et [No ao.1.f.1,b3,Aat ao.1.f.2.2.1,b5,No ao.1.f.2.2.2.2.1,No ao.1.f.2.2.2.2.2.1,b6] 26,.box ep [No cp.2.1,No cp.2.2] 28,.box en [No co.2.1,No co.2.2] 28,.box ek [No cn.2.1,No cn.2.2] 28,.box ei [No cm.2.1,No cm.2.2] 28,.box eg [No k.2.1,No k.2.2] 28,.box ef [No k.1.1.1,bt,No k.1.2.1.1,bu,bv] 52,.box d1 [No an.2.1,No an.2.2] 28,.box d0 [No an.1.f.1,bq,Aat an.1.f.2.2.1,br,No an.1.f.2.2.2.2.1,No an.1.f.2.2.2.2.2.1,bs] 26,.box b8 [No x6.2.1,No x6.2.2] 28,.box b4 [No 10,Aaq,(Aat []),Aaq,No 0,No 0,v3] 26]) (hp z)/\z.heap[e0]? = some (.cells [No cl.2.1,No cl.2.2].toArray 28 (0,0))/\z.heap[ez]? = some (.cells [No ap.2.1,No ap.2.2].toArray 28 (0,0))/\z.heap[ey]? = some (.cells [No ap.1.f.1,b7,Aat ap.1.f.2.2.1,b9,No ap.1.f.2.2.2.2.1,No ap.1.f.2.2.2.2.2.1,ca].toArray 26 (0,0))/\z.heap[eu]? = some (.cells [No ao.2.1,No ao.2.2].toArray 28 (0,0))/\z.heap[et]? = some (.cells [No ao.1.f.1,b3,Aat ao.1.f.2.2.1,b5,No ao.1.f.2.2.2.2.1,No ao.1.f.2.2.2.2.2.1,b6].toArray 26 (0,0))/\z.heap[ep]? = some (.cells [No cp.2.1,No cp.2.2].toArray 28 (0,0))/\z.heap[en]? = some (.cells [No co.2.1,No co.2.2].toArray 28 (0,0))/\z.heap[ek]? = some (.cells [No cn.2.1,No cn.2.2].toArray 28 (0,0))/\z.heap[ei]? = some (.cells [No cm.2.1,No cm.2.2].toArray 28 (0,0))/\z.heap[eg]? = some (.cells [No k.2.1,No k.2.2].toArray 28 (0,0))/\z.heap[ef]? = some (.cells [No k.1.1.1,bt,No k.1.2.1.1,bu,bv].toArray 52 (0,0))/\z.heap[d1]? = some (.cells [No an.2.1,No an.2.2].toArray 28 (0,0))/\z.heap[d0]? = some (.cells [No an.1.f.1,bq,Aat an.1.f.2.2.1,br,No an.1.f.2.2.2.2.1,No an.1.f.2.2.2.2.2.1,bs].toArray 26 (0,0))/\z.heap[b8]? = some (.cells [No x6.2.1,No x6.2.2].toArray 28 (0,0))/\z.heap[b4]? = some (.cells [No 10,Aaq,(Aat []),Aaq,No 0,No 0,v3].toArray 26 (0,0))) mixed rfl (fun a i9 ds=>?_)
  have m:=ay.call ds;have cz:=AP ay ds;have b:=m.rG H;refine LI ⟨b.trans (Al hH m),m.at (i:=0) rfl,m.at (i:=1) rfl,m.at (i:=2) rfl,m.at (i:=3) rfl,m.at (i:=4) rfl,m.at (i:=5) rfl,m.at (i:=6) rfl,m.at (i:=7) rfl,m.at (i:=8) rfl,m.at (i:=9) rfl,m.at (i:=10) rfl,m.at (i:=11) rfl,m.at (i:=12) rfl,m.at (i:=13) rfl,m.at (i:=14) rfl⟩ fun kI149=>A1 0 a kI149 (by kernel_rfl) rfl (fun _ _=>Aj rfl) rfl<|A1 1 a kI149 (by kernel_rfl) rfl (fun _ _=>Nu rfl rfl) rfl<|A1 2 a kI149 (by kernel_rfl) rfl (fun _ _=>Aj rfl) rfl<|La (s:=132) rfl (fun aq=>?_) (fun aq=>?_)
  ·have h:=Eo (of_decide_eq_true aq) h;refine Gx 3 a kI149 (by kernel_rfl) rfl rfl rfl rfl aq (fun _ hI=>JL rfl AcR rfl Bm hI.2.2.2.2.2.2.2.2.2.2.2.2.2.1) rfl<|Gx 4 a kI149 (by kernel_rfl) rfl rfl rfl rfl aq (fun _ hI=>JL rfl AcR rfl Bm hI.2.2.2.2.2.2.2.2.2.2.2.2.2.2.2) rfl<|Er (i:=5) (by kernel_rfl) rfl<|Ab rfl aq<|Aq h fun ja fn h=>?_;have ad:=ad.mono (Aa hH (az.trans (a2.trans (a3.trans a4))));have ae:=ae.mono (Aa hH (az.trans (a2.trans (a3.trans a4))));have af:=af.mono (Aa hH (az.trans (a2.trans (a3.trans a4))));have g:=g.trans (Aa hH (dj.trans (dk.trans (dl.trans (dm.trans (bh.trans (bi.trans (bj.trans bk))))))));have d:=d.trans (Aa hH (dn.trans (bl.trans (bm.trans (bn.trans bo)))));have c:=c.trans (Aa hH (dp.trans (dq.trans (dr.trans cz))))
   refine A8 rfl rfl m (Ox (a0:=an.1) (a1:=(Go.L.Qv.mk (10:Int) ([]) ([]:Aaz) ([]) (0:Int) (0:Int) ([x1]))) _ _ (Al hH m) ((((((ad.mono j).mono e).mono g).mono d).mono c).mono b) ((((((ae.mono j).mono e).mono g).mono d).mono c).mono b) ((((((af.mono j).mono e).mono g).mono d).mono c).mono b) (AA.nil _ _) (AA.nil _ _) ((((((aw.mono j).mono e).mono g).mono d).mono c).mono b) fn) ?_;intro jb im q e1;have b:=b.trans (Aa hH e1);refine AL ⟨b.trans (Al hH q),q.at (i:=0) rfl,q.at (i:=1) rfl,q.at (i:=2) rfl,q.at (i:=3) rfl,q.at (i:=4) rfl,q.at (i:=5) rfl,q.at (i:=6) rfl,q.at (i:=7) rfl,q.at (i:=8) rfl,q.at (i:=9) rfl,q.at (i:=10) rfl,q.at (i:=11) rfl,q.at (i:=12) rfl,q.at (i:=13) rfl,q.at (i:=14) rfl⟩ fun kI154=>A1 6 a kI154 (by kernel_rfl) rfl (fun _ _=>AH rfl aq rfl) rfl<|A1 7 a kI154 (by kernel_rfl) rfl (fun _ _=>Aj rfl) rfl<|La (s:=137) rfl (fun ar=>?_) (fun ar=>?_)
   ·have h:=IU ar h;refine Gx 8 a kI154 (by kernel_rfl) rfl rfl rfl rfl ar (fun _ _=>Aj rfl) rfl<|Er (i:=9) (by kernel_rfl) rfl<|Ab rfl ar<|Br (r:=(.int .i64)) (l:=[1]) rfl (fun _=>HJ _ _) rfl (B2 1) hH q (.c1 rfl .nil) ?_;intro jc jd io t e2 fo;have b:=b.trans (Aa hH e2);refine AL ⟨b.trans (Al hH t),t.at (i:=0) rfl,t.at (i:=1) rfl,t.at (i:=2) rfl,t.at (i:=3) rfl,t.at (i:=4) rfl,t.at (i:=5) rfl,t.at (i:=6) rfl,t.at (i:=7) rfl,t.at (i:=8) rfl,t.at (i:=9) rfl,t.at (i:=10) rfl,t.at (i:=11) rfl,t.at (i:=12) rfl,t.at (i:=13) rfl,t.at (i:=14) rfl⟩ fun kI158=>Er (i:=10) (by kernel_rfl) rfl<|Ab rfl ar<|Aq h fun je fp h=>?_;have ch:=ch.mono (Aa hH (df.trans (dg.trans (dh.trans (di.trans (ct.trans (cu.trans (cv.trans (cw.trans (b1.trans b2))))))))));refine A8 rfl rfl t (SA _ _ (Al hH t) ((((ch.mono g).mono d).mono c).mono b) fo fp) ?_;intro jf ip o e3;have b:=b.trans (Aa hH e3)
    refine AL ⟨b.trans (Al hH o),o.at (i:=0) rfl,o.at (i:=1) rfl,o.at (i:=2) rfl,o.at (i:=3) rfl,o.at (i:=4) rfl,o.at (i:=5) rfl,o.at (i:=6) rfl,o.at (i:=7) rfl,o.at (i:=8) rfl,o.at (i:=9) rfl,o.at (i:=10) rfl,o.at (i:=11) rfl,o.at (i:=12) rfl,o.at (i:=13) rfl,o.at (i:=14) rfl⟩ fun kI161=>A1 11 a kI161 (by kernel_rfl) rfl (fun _ _=>AH rfl ar rfl) rfl<|A1 12 a kI161 (by kernel_rfl) rfl (fun _ _=>Aj rfl) rfl<|La (s:=142) rfl (fun au=>?_) (fun au=>?_)
    ·have h:=IU au h;refine Gx 13 a kI161 (by kernel_rfl) rfl rfl rfl rfl au (fun _ _=>Aj rfl) rfl ?_;have ci:=ci.mono (Aa hH (ct.trans (cu.trans (cv.trans (cw.trans (b1.trans b2))))));refine Gx 14 a kI161 (by kernel_rfl) rfl rfl rfl rfl au (fun _ _=>Bj rfl Aa8 ((((ci.mono g).mono d).mono c).mono b)) rfl<|Gx 15 a kI161 (by kernel_rfl) rfl rfl rfl rfl au (fun _ _=>Aj rfl) rfl<|A1 16 a kI161 (by kernel_rfl) rfl (fun _ _=>AH rfl au rfl) rfl<|A1 17 a kI161 (by kernel_rfl) rfl (fun _ _=>Aj rfl) rfl<|La (s:=147) rfl (fun am=>?_) (fun am=>?_)
     ·have h:=Eo (of_decide_eq_true am) h;refine Gx 18 a kI161 (by kernel_rfl) rfl rfl rfl rfl am (fun _ _=>Aj rfl) rfl<|Er (i:=19) (by kernel_rfl) rfl<|Ab rfl am<|L4 (r:=.byte) (l:=[(99:UInt8),(111:UInt8)]) rfl (fun _=>Vx _ _ _) rfl (B2 2) hH o (.c1 rfl (.c1 rfl .nil)) ?_;intro jg jh iq ac e4 fq;have b:=b.trans (Aa hH e4);refine AL ⟨b.trans (Al hH ac),ac.at (i:=1) rfl,ac.at (i:=2) rfl,ac.at (i:=3) rfl,ac.at (i:=4) rfl,ac.at (i:=5) rfl,ac.at (i:=6) rfl,ac.at (i:=7) rfl,ac.at (i:=8) rfl,ac.at (i:=9) rfl,ac.at (i:=10) rfl,ac.at (i:=11) rfl,ac.at (i:=12) rfl,ac.at (i:=13) rfl,ac.at (i:=14) rfl,ac.at (i:=15) rfl⟩ fun kI167=>Er (i:=20) (by kernel_rfl) rfl<|Ab rfl am<|AB h fun fr h=>Xc 0 rfl Abj Acu rfl hH ac rfl fq fr ?_;intro ji u e5 fs;have b:=b.trans (Aa hH e5)
      refine AL ⟨b.trans (Al hH u),u.at (i:=0) rfl,u.at (i:=1) rfl,u.at (i:=2) rfl,u.at (i:=3) rfl,u.at (i:=4) rfl,u.at (i:=5) rfl,u.at (i:=6) rfl,u.at (i:=7) rfl,u.at (i:=8) rfl,u.at (i:=9) rfl,u.at (i:=10) rfl,u.at (i:=11) rfl,u.at (i:=12) rfl,u.at (i:=13) rfl,u.at (i:=14) rfl⟩ fun kI170=>Er (i:=21) (by kernel_rfl) rfl<|Ab rfl am<|Aq h fun jj ft h=>?_;have cj:=cj.mono (Aa hH (b1.trans b2));refine A8 rfl rfl u (IY _ _ (Al hH u) ((((cj.mono g).mono d).mono c).mono b) fs ft) ?_;intro jk ir p e6;have b:=b.trans (Aa hH e6);refine AL ⟨b.trans (Al hH p),p.at (i:=0) rfl,p.at (i:=1) rfl,p.at (i:=2) rfl,p.at (i:=3) rfl,p.at (i:=4) rfl,p.at (i:=5) rfl,p.at (i:=6) rfl,p.at (i:=7) rfl,p.at (i:=8) rfl,p.at (i:=9) rfl,p.at (i:=10) rfl,p.at (i:=11) rfl,p.at (i:=12) rfl,p.at (i:=13) rfl,p.at (i:=14) rfl⟩ fun kI173=>A1 22 a kI173 (by kernel_rfl) rfl (fun _ _=>AH rfl am rfl) rfl<|A1 23 a kI173 (by kernel_rfl) rfl (fun _ _=>Aj rfl) rfl<|La (s:=153) rfl (fun av=>?_) (fun av=>?_)
      ·have h:=IU av h;refine Gx 24 a kI173 (by kernel_rfl) rfl rfl rfl rfl av (fun _ hI=>JL rfl AcP rfl AI hI.2.2.2.2.2.2.1) rfl<|Er (i:=25) (by kernel_rfl) rfl<|Ab rfl av<|Aq h fun jl fu h=>A8 rfl rfl p (Jy _ _ (Al hH p) fu) ?_;intro jm is x e7;have b:=b.trans (Aa hH e7);refine AL ⟨b.trans (Al hH x),x.at (i:=0) rfl,x.at (i:=1) rfl,x.at (i:=2) rfl,x.at (i:=3) rfl,x.at (i:=4) rfl,x.at (i:=5) rfl,x.at (i:=6) rfl,x.at (i:=7) rfl,x.at (i:=8) rfl,x.at (i:=9) rfl,x.at (i:=10) rfl,x.at (i:=11) rfl,x.at (i:=12) rfl,x.at (i:=13) rfl,x.at (i:=14) rfl⟩ fun kI178=>Gx 26 a kI178 (by kernel_rfl) rfl rfl rfl rfl av (fun _ _=>WZ rfl rfl ID (Ld _ _ _ _)) rfl<|A1 27 a kI178 (by kernel_rfl) rfl (fun _ _=>AH rfl av rfl) rfl<|A1 28 a kI178 (by kernel_rfl) rfl (fun _ _=>Aj rfl) rfl<|La (s:=158) rfl (fun ax=>?_) (fun ax=>?_)
       ·have h:=Eo (of_decide_eq_true ax) h;refine Gx 29 a kI178 (by kernel_rfl) rfl rfl rfl rfl ax (fun _ _=>Aj rfl) rfl<|Gx 30 a kI178 (by kernel_rfl) rfl rfl rfl rfl ax (fun _ _=>Nu rfl rfl) rfl<|A1 31 a kI178 (by kernel_rfl) rfl (fun _ _=>AH rfl ax rfl) rfl<|A1 32 a kI178 (by kernel_rfl) rfl (fun _ _=>Aj rfl) rfl<|D6 (by kernel_rfl)<|A6 (decide (cl.1=([33,97,38,98]:Aaz))) (Sub.of rfl) ⟨x,((aj.mono c).mono b),((ak.mono c).mono b),((al.mono c).mono b),(((ag.mono d).mono c).mono b),(((ah.mono d).mono c).mono b),(((ai.mono d).mono c).mono b),(((((y.mono e).mono g).mono d).mono c).mono b),(((((aa.mono e).mono g).mono d).mono c).mono b),(((((ab.mono e).mono g).mono d).mono c).mono b),((((((ad.mono j).mono e).mono g).mono d).mono c).mono b),((((((ae.mono j).mono e).mono g).mono d).mono c).mono b),((((((af.mono j).mono e).mono g).mono d).mono c).mono b),((((((aw.mono j).mono e).mono g).mono d).mono c).mono b),h⟩
       have h:=Ep (of_decide_eq_false ax) h;refine BS 29 a kI178 (by kernel_rfl) rfl rfl rfl rfl ax rfl<|BS 30 a kI178 (by kernel_rfl) rfl rfl rfl rfl ax rfl<|A1 31 a kI178 (by kernel_rfl) rfl (fun _ _=>AS rfl ax rfl) rfl<|A1 32 a kI178 (by kernel_rfl) rfl (fun _ _=>Aj rfl) rfl<|D6 (by kernel_rfl)<|A6 false (Sub.of rfl) ⟨x,((aj.mono c).mono b),((ak.mono c).mono b),((al.mono c).mono b),(((ag.mono d).mono c).mono b),(((ah.mono d).mono c).mono b),(((ai.mono d).mono c).mono b),(((((y.mono e).mono g).mono d).mono c).mono b),(((((aa.mono e).mono g).mono d).mono c).mono b),(((((ab.mono e).mono g).mono d).mono c).mono b),((((((ad.mono j).mono e).mono g).mono d).mono c).mono b),((((((ae.mono j).mono e).mono g).mono d).mono c).mono b),((((((af.mono j).mono e).mono g).mono d).mono c).mono b),((((((aw.mono j).mono e).mono g).mono d).mono c).mono b),h⟩
      have h:=IV av h;refine BS 24 a kI173 (by kernel_rfl) rfl rfl rfl rfl av rfl<|BS 25 a kI173 (by kernel_rfl) rfl rfl rfl rfl av rfl<|BS 26 a kI173 (by kernel_rfl) rfl rfl rfl rfl av rfl<|A1 27 a kI173 (by kernel_rfl) rfl (fun _ _=>AS rfl av rfl) rfl<|A1 28 a kI173 (by kernel_rfl) rfl (fun _ _=>Aj rfl) rfl<|BS 29 a kI173 (by kernel_rfl) rfl rfl rfl rfl rfl rfl<|BS 30 a kI173 (by kernel_rfl) rfl rfl rfl rfl rfl rfl<|A1 31 a kI173 (by kernel_rfl) rfl (fun _ _=>AS rfl rfl rfl) rfl<|A1 32 a kI173 (by kernel_rfl) rfl (fun _ _=>Aj rfl) rfl<|D6 (by kernel_rfl) ?_
      refine A6 false (Sub.of rfl) ⟨p,((aj.mono c).mono b),((ak.mono c).mono b),((al.mono c).mono b),(((ag.mono d).mono c).mono b),(((ah.mono d).mono c).mono b),(((ai.mono d).mono c).mono b),(((((y.mono e).mono g).mono d).mono c).mono b),(((((aa.mono e).mono g).mono d).mono c).mono b),(((((ab.mono e).mono g).mono d).mono c).mono b),((((((ad.mono j).mono e).mono g).mono d).mono c).mono b),((((((ae.mono j).mono e).mono g).mono d).mono c).mono b),((((((af.mono j).mono e).mono g).mono d).mono c).mono b),((((((aw.mono j).mono e).mono g).mono d).mono c).mono b),h⟩
     have h:=Ep (of_decide_eq_false am) h;refine BS 18 a kI161 (by kernel_rfl) rfl rfl rfl rfl am rfl<|BS 19 a kI161 (by kernel_rfl) rfl rfl rfl rfl am rfl<|BS 20 a kI161 (by kernel_rfl) rfl rfl rfl rfl am rfl<|BS 21 a kI161 (by kernel_rfl) rfl rfl rfl rfl am rfl<|A1 22 a kI161 (by kernel_rfl) rfl (fun _ _=>AS rfl am rfl) rfl<|A1 23 a kI161 (by kernel_rfl) rfl (fun _ _=>Aj rfl) rfl<|BS 24 a kI161 (by kernel_rfl) rfl rfl rfl rfl rfl rfl<|BS 25 a kI161 (by kernel_rfl) rfl rfl rfl rfl rfl rfl<|BS 26 a kI161 (by kernel_rfl) rfl rfl rfl rfl rfl rfl<|A1 27 a kI161 (by kernel_rfl) rfl (fun _ _=>AS rfl rfl rfl) rfl<|A1 28 a kI161 (by kernel_rfl) rfl (fun _ _=>Aj rfl) rfl<|BS 29 a kI161 (by kernel_rfl) rfl rfl rfl rfl rfl rfl<|BS 30 a kI161 (by kernel_rfl) rfl rfl rfl rfl rfl rfl<|A1 31 a kI161 (by kernel_rfl) rfl (fun _ _=>AS rfl rfl rfl) rfl<|A1 32 a kI161 (by kernel_rfl) rfl (fun _ _=>Aj rfl) rfl<|D6 (by kernel_rfl) ?_
     refine A6 false (Sub.of rfl) ⟨o,((aj.mono c).mono b),((ak.mono c).mono b),((al.mono c).mono b),(((ag.mono d).mono c).mono b),(((ah.mono d).mono c).mono b),(((ai.mono d).mono c).mono b),(((((y.mono e).mono g).mono d).mono c).mono b),(((((aa.mono e).mono g).mono d).mono c).mono b),(((((ab.mono e).mono g).mono d).mono c).mono b),((((((ad.mono j).mono e).mono g).mono d).mono c).mono b),((((((ae.mono j).mono e).mono g).mono d).mono c).mono b),((((((af.mono j).mono e).mono g).mono d).mono c).mono b),((((((aw.mono j).mono e).mono g).mono d).mono c).mono b),h⟩
    have h:=IV au h;refine BS 13 a kI161 (by kernel_rfl) rfl rfl rfl rfl au rfl<|BS 14 a kI161 (by kernel_rfl) rfl rfl rfl rfl au rfl<|BS 15 a kI161 (by kernel_rfl) rfl rfl rfl rfl au rfl<|A1 16 a kI161 (by kernel_rfl) rfl (fun _ _=>AS rfl au rfl) rfl<|A1 17 a kI161 (by kernel_rfl) rfl (fun _ _=>Aj rfl) rfl<|BS 18 a kI161 (by kernel_rfl) rfl rfl rfl rfl rfl rfl<|BS 19 a kI161 (by kernel_rfl) rfl rfl rfl rfl rfl rfl<|BS 20 a kI161 (by kernel_rfl) rfl rfl rfl rfl rfl rfl<|BS 21 a kI161 (by kernel_rfl) rfl rfl rfl rfl rfl rfl<|A1 22 a kI161 (by kernel_rfl) rfl (fun _ _=>AS rfl rfl rfl) rfl<|A1 23 a kI161 (by kernel_rfl) rfl (fun _ _=>Aj rfl) rfl<|BS 24 a kI161 (by kernel_rfl) rfl rfl rfl rfl rfl rfl<|BS 25 a kI161 (by kernel_rfl) rfl rfl rfl rfl rfl rfl<|BS 26 a kI161 (by kernel_rfl) rfl rfl rfl rfl rfl rfl<|A1 27 a kI161 (by kernel_rfl) rfl (fun _ _=>AS rfl rfl rfl) rfl<|A1 28 a kI161 (by kernel_rfl) rfl (fun _ _=>Aj rfl) rfl<|BS 29 a kI161 (by kernel_rfl) rfl rfl rfl rfl rfl rfl<|BS 30 a kI161 (by kernel_rfl) rfl rfl rfl rfl rfl rfl ?_
    refine A1 31 a kI161 (by kernel_rfl) rfl (fun _ _=>AS rfl rfl rfl) rfl<|A1 32 a kI161 (by kernel_rfl) rfl (fun _ _=>Aj rfl) rfl<|D6 (by kernel_rfl)<|A6 false (Sub.of rfl) ⟨o,((aj.mono c).mono b),((ak.mono c).mono b),((al.mono c).mono b),(((ag.mono d).mono c).mono b),(((ah.mono d).mono c).mono b),(((ai.mono d).mono c).mono b),(((((y.mono e).mono g).mono d).mono c).mono b),(((((aa.mono e).mono g).mono d).mono c).mono b),(((((ab.mono e).mono g).mono d).mono c).mono b),((((((ad.mono j).mono e).mono g).mono d).mono c).mono b),((((((ae.mono j).mono e).mono g).mono d).mono c).mono b),((((((af.mono j).mono e).mono g).mono d).mono c).mono b),((((((aw.mono j).mono e).mono g).mono d).mono c).mono b),h⟩
   have h:=IV ar h;refine BS 8 a kI154 (by kernel_rfl) rfl rfl rfl rfl ar rfl<|BS 9 a kI154 (by kernel_rfl) rfl rfl rfl rfl ar rfl<|BS 10 a kI154 (by kernel_rfl) rfl rfl rfl rfl ar rfl<|A1 11 a kI154 (by kernel_rfl) rfl (fun _ _=>AS rfl ar rfl) rfl<|A1 12 a kI154 (by kernel_rfl) rfl (fun _ _=>Aj rfl) rfl<|BS 13 a kI154 (by kernel_rfl) rfl rfl rfl rfl rfl rfl<|BS 14 a kI154 (by kernel_rfl) rfl rfl rfl rfl rfl rfl<|BS 15 a kI154 (by kernel_rfl) rfl rfl rfl rfl rfl rfl<|A1 16 a kI154 (by kernel_rfl) rfl (fun _ _=>AS rfl rfl rfl) rfl<|A1 17 a kI154 (by kernel_rfl) rfl (fun _ _=>Aj rfl) rfl<|BS 18 a kI154 (by kernel_rfl) rfl rfl rfl rfl rfl rfl<|BS 19 a kI154 (by kernel_rfl) rfl rfl rfl rfl rfl rfl<|BS 20 a kI154 (by kernel_rfl) rfl rfl rfl rfl rfl rfl<|BS 21 a kI154 (by kernel_rfl) rfl rfl rfl rfl rfl rfl<|A1 22 a kI154 (by kernel_rfl) rfl (fun _ _=>AS rfl rfl rfl) rfl<|A1 23 a kI154 (by kernel_rfl) rfl (fun _ _=>Aj rfl) rfl<|BS 24 a kI154 (by kernel_rfl) rfl rfl rfl rfl rfl rfl<|BS 25 a kI154 (by kernel_rfl) rfl rfl rfl rfl rfl rfl<|BS 26 a kI154 (by kernel_rfl) rfl rfl rfl rfl rfl rfl ?_
   refine A1 27 a kI154 (by kernel_rfl) rfl (fun _ _=>AS rfl rfl rfl) rfl<|A1 28 a kI154 (by kernel_rfl) rfl (fun _ _=>Aj rfl) rfl<|BS 29 a kI154 (by kernel_rfl) rfl rfl rfl rfl rfl rfl<|BS 30 a kI154 (by kernel_rfl) rfl rfl rfl rfl rfl rfl<|A1 31 a kI154 (by kernel_rfl) rfl (fun _ _=>AS rfl rfl rfl) rfl<|A1 32 a kI154 (by kernel_rfl) rfl (fun _ _=>Aj rfl) rfl<|D6 (by kernel_rfl)<|A6 false (Sub.of rfl) ⟨q,((aj.mono c).mono b),((ak.mono c).mono b),((al.mono c).mono b),(((ag.mono d).mono c).mono b),(((ah.mono d).mono c).mono b),(((ai.mono d).mono c).mono b),(((((y.mono e).mono g).mono d).mono c).mono b),(((((aa.mono e).mono g).mono d).mono c).mono b),(((((ab.mono e).mono g).mono d).mono c).mono b),((((((ad.mono j).mono e).mono g).mono d).mono c).mono b),((((((ae.mono j).mono e).mono g).mono d).mono c).mono b),((((((af.mono j).mono e).mono g).mono d).mono c).mono b),((((((aw.mono j).mono e).mono g).mono d).mono c).mono b),h⟩
  have h:=Ep (of_decide_eq_false aq) h;refine BS 3 a kI149 (by kernel_rfl) rfl rfl rfl rfl aq rfl<|BS 4 a kI149 (by kernel_rfl) rfl rfl rfl rfl aq rfl<|BS 5 a kI149 (by kernel_rfl) rfl rfl rfl rfl aq rfl<|A1 6 a kI149 (by kernel_rfl) rfl (fun _ _=>AS rfl aq rfl) rfl<|A1 7 a kI149 (by kernel_rfl) rfl (fun _ _=>Aj rfl) rfl<|BS 8 a kI149 (by kernel_rfl) rfl rfl rfl rfl rfl rfl<|BS 9 a kI149 (by kernel_rfl) rfl rfl rfl rfl rfl rfl<|BS 10 a kI149 (by kernel_rfl) rfl rfl rfl rfl rfl rfl<|A1 11 a kI149 (by kernel_rfl) rfl (fun _ _=>AS rfl rfl rfl) rfl<|A1 12 a kI149 (by kernel_rfl) rfl (fun _ _=>Aj rfl) rfl<|BS 13 a kI149 (by kernel_rfl) rfl rfl rfl rfl rfl rfl<|BS 14 a kI149 (by kernel_rfl) rfl rfl rfl rfl rfl rfl<|BS 15 a kI149 (by kernel_rfl) rfl rfl rfl rfl rfl rfl<|A1 16 a kI149 (by kernel_rfl) rfl (fun _ _=>AS rfl rfl rfl) rfl<|A1 17 a kI149 (by kernel_rfl) rfl (fun _ _=>Aj rfl) rfl<|BS 18 a kI149 (by kernel_rfl) rfl rfl rfl rfl rfl rfl<|BS 19 a kI149 (by kernel_rfl) rfl rfl rfl rfl rfl rfl<|BS 20 a kI149 (by kernel_rfl) rfl rfl rfl rfl rfl rfl ?_
  refine BS 21 a kI149 (by kernel_rfl) rfl rfl rfl rfl rfl rfl<|A1 22 a kI149 (by kernel_rfl) rfl (fun _ _=>AS rfl rfl rfl) rfl<|A1 23 a kI149 (by kernel_rfl) rfl (fun _ _=>Aj rfl) rfl<|BS 24 a kI149 (by kernel_rfl) rfl rfl rfl rfl rfl rfl<|BS 25 a kI149 (by kernel_rfl) rfl rfl rfl rfl rfl rfl<|BS 26 a kI149 (by kernel_rfl) rfl rfl rfl rfl rfl rfl<|A1 27 a kI149 (by kernel_rfl) rfl (fun _ _=>AS rfl rfl rfl) rfl<|A1 28 a kI149 (by kernel_rfl) rfl (fun _ _=>Aj rfl) rfl<|BS 29 a kI149 (by kernel_rfl) rfl rfl rfl rfl rfl rfl<|BS 30 a kI149 (by kernel_rfl) rfl rfl rfl rfl rfl rfl<|A1 31 a kI149 (by kernel_rfl) rfl (fun _ _=>AS rfl rfl rfl) rfl<|A1 32 a kI149 (by kernel_rfl) rfl (fun _ _=>Aj rfl) rfl<|D6 (by kernel_rfl) ?_;have ad:=ad.mono (Aa hH (az.trans (a2.trans (a3.trans a4))));have ae:=ae.mono (Aa hH (az.trans (a2.trans (a3.trans a4))));have af:=af.mono (Aa hH (az.trans (a2.trans (a3.trans a4))));have g:=g.trans (Aa hH (dj.trans (dk.trans (dl.trans (dm.trans (bh.trans (bi.trans (bj.trans bk))))))))
  have d:=d.trans (Aa hH (dn.trans (bl.trans (bm.trans (bn.trans bo)))));have c:=c.trans (Aa hH (dp.trans (dq.trans (dr.trans cz))));refine A6 false (Sub.of rfl) ⟨m,((aj.mono c).mono b),((ak.mono c).mono b),((al.mono c).mono b),(((ag.mono d).mono c).mono b),(((ah.mono d).mono c).mono b),(((ai.mono d).mono c).mono b),(((((y.mono e).mono g).mono d).mono c).mono b),(((((aa.mono e).mono g).mono d).mono c).mono b),(((((ab.mono e).mono g).mono d).mono c).mono b),((((((ad.mono j).mono e).mono g).mono d).mono c).mono b),((((((ae.mono j).mono e).mono g).mono d).mono c).mono b),((((((af.mono j).mono e).mono g).mono d).mono c).mono b),((((((aw.mono j).mono e).mono g).mono d).mono c).mono b),h⟩
 rintro bp it ⟨fv,hq,hr,hs,ht,hu,hv,hw,hx,hy,hz,hm,hn,ho,h⟩;refine Ax ?_
 cases h
 refine Am rfl ⟨fv.ext,rfl⟩
end Go.Proofs.YtekmbcbgknmhiaaGreatDoor
end
noncomputable section
namespace Go.L
def YI(a:List UInt8):List (Fin (a.length+1)):=isB (fun x y=>!(Go.Proofs.ltOf (Ie a)) y x) (Md a.length)
def YJ(a:List UInt8):List Int:=(YI a).map fun x=>(x.val:Int)
theorem Uk(a:List UInt8):YJ a=C4 a:=by
 have h:YI a=U7 a:=by
  have hlt:∀ x y,(!(Go.Proofs.ltOf (Ie a)) y x)=true↔¬ Ie a y x<0:=fun x y=>by simp [Go.Proofs.ltOf]
  refine SR (fun x y z c h2=>?_) (fun x y=>?_) (fun x y c h2=>?_) _
  ·rw [hlt] at *;intro h3;unfold Ie at *;have d:=Ip (a.drop x.val) (a.drop y.val)
   rcases Int.lt_trichotomy (Lib.compareBytes (a.drop x.val) (a.drop y.val)) 0 with b | b | b
   ·exact h2 (Kr _ _ _ h3 b)
   ·rw [M9 _ _ b] at h3;exact h2 h3
   ·omega
  ·rw [hlt,hlt];unfold Ie;have d:=Ip (a.drop x.val) (a.drop y.val);omega
  ·exact LJ a x y (by simpa using h2) (by simpa using c)
 unfold YJ C4;rw [h]
end Go.L
namespace Go.Proofs.YtekmbcbgknmhiaaGreatDoor
open Go Go.E Go.RowKit
def MR{β:Type}(l:List (List UInt8×β)):Option (List (List UInt8)):=
 match l.map Prod.fst with
 | []=>some []
 | [a]=>if a.length<1000 then some [a] else none
 | [a,b]=>if a.length<1000/\b.length<1000/\a≠b then some (if leB a b then[a,b] else[b,a]) else none
 | _=>none
theorem R1{β:Type}(l:List (List UInt8×β)):Go.L.Ap (MR l) (J2 l):=by
 intro r h;have hm:(1000:Nat)<=maxLen:=by decide
 have hl:(l.map Prod.fst).length=l.length:=List.length_map ..
 suffices key:Oh l/\some ((l.map Prod.fst).mergeSort leB)=some r by
  unfold J2;rw [Go.L.Ak key.1];exact key.2
 unfold Oh;rw [<- hl];unfold MR at h;generalize l.map Prod.fst=k at *
 match k,h with
 | [],h=>
  cases h
  exact⟨⟨List.nodup_nil,fun x hx=>(by cases hx),by decide⟩,by simp⟩
 | [a],h=>
  simp only at h
  split at h
  ·rename_i ha
   cases h
   exact⟨⟨by simp,fun x hx=>(by rw [List.mem_singleton.1 hx];omega),by simp⟩,by simp⟩
  ·cases h
 | [a,b],h=>
  simp only at h
  split at h
  ·rename_i ha;obtain⟨c,h2,h3⟩:=ha
   cases h
   refine⟨⟨by simp [h3],fun x hx=>?_,by simp⟩,?_⟩
   ·rcases List.mem_cons.1 hx with rfl | hx
    ·omega
    ·rw [List.mem_singleton.1 hx];omega
   ·simp [List.mergeSort,List.merge,List.MergeSort.Internal.splitInTwo]
  ·cases h
 | _::_::_::_,h=>cases h
instance {β:Type} (l:List (List UInt8×β)):Go.L.Mi (J2 l):=⟨MR l,R1 l⟩
end Go.Proofs.YtekmbcbgknmhiaaGreatDoor
end
noncomputable section
namespace Go.Proofs.YtekmbcbgknmhiaaGreatDoor
open Go Go.E Go.RowKit Go.L
noncomputable section
instance (a b c d):Mi (Wy a b c d):=⟨_,YT _⟩
instance (a b):Mi (Sa a b):=⟨_,YT _⟩
instance (a b):Mi (TU a b):=⟨_,YT _⟩
instance (a):Mi (QS a):=⟨_,YT _⟩
instance (a):Mi (Wr a):=⟨_,YT _⟩
instance (a):Mi (Acg a):=⟨_,YT _⟩
instance (a):Mi (Ach a):=⟨_,YT _⟩
instance (a0):Mi (Nc a0):=by delta Nc;infer_instance
instance (a0) (a1):Mi (Iz a0 a1):=by delta Iz;infer_instance
instance (a) (b) (c) (d) (e) (f) (g):Mi (BT a b c d e f g):=by delta BT;infer_instance
instance (a0) (s):Mi (BM a0 s):=by obtain⟨b,c,d,e,f,g,h,a⟩:=s;delta BM;dsimp only;infer_instance
instance (a0) (s):Mi (C9 a0 s):=by delta C9;infer_instance
instance (a0) (a1_c0):Mi (Ci a0 a1_c0):=by delta Ci;infer_instance
instance (a0) (a1_c0):Mi (AR a0 a1_c0):=by delta AR;infer_instance
instance (a0) (a) (b) (c):Mi (Fu a0 a b c):=by delta Fu;repeat' first | (show Mi _;infer_instance) | refine @iB _ _ _ _ ?_ (fun _=>?_) | refine @iC _ _ _ _ ?_ | refine @iI _ _ _ _ _ ?_ ?_
instance (a0):Mi (JC a0):=by delta JC;infer_instance
instance (a0):Mi (HR a0):=by delta HR;repeat' first | (show Mi _;infer_instance) | refine @iB _ _ _ _ ?_ (fun _=>?_) | refine @iC _ _ _ _ ?_ | refine @iI _ _ _ _ _ ?_ ?_
instance (b) (c) (d) (a):Mi (Fs b c d a):=by delta Fs;infer_instance
instance (a1) (b) (a) (s):Mi (BX a1 b a s):=by obtain⟨d,c⟩:=s;delta BX;dsimp only;infer_instance
instance (a1) (b) (a) (s):Mi (J0 a1 b a s):=by delta J0;infer_instance
instance (a1) (s):Mi (BY a1 s):=by obtain⟨b,a⟩:=s;delta BY;dsimp only;infer_instance
instance (a1) (s):Mi (J1 a1 s):=by delta J1;infer_instance
instance (a0) (a1):Mi (Ir a0 a1):=by delta Ir;infer_instance
instance (l):Mi (Ln l):=by delta Ln;infer_instance
instance (a0):Mi (Kk a0):=by delta Kk;infer_instance
instance (a0):Mi (JR a0):=by delta JR;infer_instance
instance (a0):Mi (Km a0):=by delta Km;infer_instance
instance:Mi (Iw):=by delta Iw;infer_instance
instance (a) (s):Mi (HS a s):=by delta HS;infer_instance
instance (a) (s):Mi (JY a s):=by delta JY;infer_instance
instance (a0):Mi (Kn a0):=by delta Kn;infer_instance
instance (a0) (a):Mi (EY a0 a):=by delta EY;infer_instance
instance (a0):Mi (Gr a0):=by delta Gr;infer_instance
instance (a0) (s):Mi (Ga a0 s):=by delta Ga;infer_instance
instance (a0) (s):Mi (Ih a0 s):=by delta Ih;infer_instance
instance (a0):Mi (HY a0):=by delta HY;infer_instance
instance (a):Mi (Gb a):=by delta Gb;infer_instance
instance (a0) (a2) (self) [∀ c d e,Mi (self c d e)] (s):Mi (FD a0 a2 self s):=by obtain⟨b,a⟩:=s;delta FD;dsimp only;infer_instance
instance (a0) (a2) (self) [∀ a b c,Mi (self a b c)] (s):Mi (HC a0 a2 self s):=by delta HC;infer_instance
instance (self) [∀ a b c,Mi (self a b c)] (a0) (a1) (a2):Mi (Gc self a0 a1 a2):=by delta Gc;infer_instance
instance Pa:∀ (n:Nat) (y0) (y1) (y2),Mi (G4 n y0 y1 y2)
 | 0,_,_,_=>⟨none,fun _ h=>by cases h⟩
 | n+1,y0,y1,y2=>by
  haveI:=Pa n
  show Mi (Gc (G4 n) y0 y1 y2)
  infer_instance
instance (y0) (y1) (y2):Mi (Ko y0 y1 y2):=by delta Ko;infer_instance
instance (_self1) (self2) [∀ a b c,Mi (self2 a b c)] (a0):Mi (G6 _self1 self2 a0):=by delta G6;repeat' first | (show Mi _;infer_instance) | refine @iB _ _ _ _ ?_ (fun _=>?_) | refine @iC _ _ _ _ ?_ | refine @iI _ _ _ _ _ ?_ ?_
instance:Mi (Dz):=by delta Dz;infer_instance
instance (a0) (a1) (s):Mi (BJ a0 a1 s):=by delta BJ;infer_instance
instance (a0) (a1) (s):Mi (EF a0 a1 s):=by delta EF;infer_instance
instance (a0) (a1):Mi (E3 a0 a1):=by delta E3;infer_instance
instance (a0) (a1):Mi (Cm a0 a1):=by delta Cm;infer_instance
instance (c) (a) (b):Mi (EC c a b):=by delta EC;infer_instance
instance (a1) (a):Mi (Gf a1 a):=by delta Gf;infer_instance
instance (a0) (a1) (a2) (self1) [∀ b,Mi (self1 b)] (s):Mi (FG a0 a1 a2 self1 s):=by obtain⟨c,a⟩:=s;delta FG;dsimp only;infer_instance
instance (a0) (a1) (a2) (self1) [∀ a,Mi (self1 a)] (s):Mi (HF a0 a1 a2 self1 s):=by delta HF;infer_instance
instance (self1) [∀ a,Mi (self1 a)] (_self2) (a0) (a1) (a2):Mi (Gg self1 _self2 a0 a1 a2):=by delta Gg;infer_instance
def Gl:(n:Nat)->(∀ a,Mi ((BU n).1 a))×(∀ y0 y1 y2,Mi ((BU n).2 y0 y1 y2))
 | 0=>(fun _=>⟨none,fun _ h=>(by cases h)⟩,fun _ _ _=>⟨none,fun _ h=>(by cases h)⟩)
 | n+1=>(fun a=>by
  haveI:=(Gl n).1
  haveI:=(Gl n).2
  show Mi (G6 ((BU n).1) ((BU n).2) a)
  infer_instance,fun y0 y1 y2=>by
  haveI:=(Gl n).1
  haveI:=(Gl n).2
  show Mi (Gg ((BU n).1) ((BU n).2) y0 y1 y2)
  infer_instance)
instance (y0):Mi (MN y0):=(Gl 1000).1 y0
instance (a0):Mi (GK a0):=by delta GK;infer_instance
instance (a0) (a1):Mi (BI a0 a1):=by delta BI;infer_instance
instance (a0) (a1):Mi (CT a0 a1):=by delta CT;infer_instance
instance (a0) (a1):Mi (CU a0 a1):=by delta CU;infer_instance
instance (a0) (a1):Mi (Hq a0 a1):=by delta Hq;infer_instance
instance (a0) (a1):Mi (B4 a0 a1):=by delta B4;infer_instance
instance (a1) (y8) (a) (b) (c):Mi (DO a1 y8 a b c):=by delta DO;infer_instance
instance (a1) (a2) (self) [∀ a,Mi (self a)] (y8) (s):Mi (D2 a1 a2 self y8 s):=by obtain⟨b,c,d⟩:=s;delta D2;dsimp only;infer_instance
instance (a1) (a2) (self) [∀ a,Mi (self a)] (y8) (s):Mi (F7 a1 a2 self y8 s):=by delta F7;infer_instance
instance (self) [∀ a,Mi (self a)] (a0) (a1) (a2):Mi (EI self a0 a1 a2):=by delta EI;infer_instance
instance (self) [∀ a,Mi (self a)] (a0_0):Mi (Ed self a0_0):=by delta Ed;infer_instance
instance (a1) (y8) (a) (b) (c):Mi (EJ a1 y8 a b c):=by delta EJ;infer_instance
instance (a1) (a2) (self) [∀ a,Mi (self a)] (y8) (s):Mi (Ew a1 a2 self y8 s):=by obtain⟨b,c,d⟩:=s;delta Ew;dsimp only;infer_instance
instance (a1) (a2) (self) [∀ a,Mi (self a)] (y8) (s):Mi (G7 a1 a2 self y8 s):=by delta G7;infer_instance
instance (self) [∀ a,Mi (self a)] (a0) (a1) (a2):Mi (Gj self a0 a1 a2):=by delta Gj;infer_instance
instance (self) [∀ a,Mi (self a)] (a0):Mi (Fa self a0):=by delta Fa;infer_instance
instance (a0) (a1):Mi (Gk a0 a1):=by delta Gk;infer_instance
instance:Mi (FV):=by delta FV;infer_instance
instance (a0) (s):Mi (Cg a0 s):=by delta Cg;infer_instance
instance (a0) (s):Mi (E6 a0 s):=by delta E6;infer_instance
instance (a0):Mi (BZ a0):=by delta BZ;infer_instance
instance (a1) (a):Mi (FW a1 a):=by delta FW;infer_instance
instance (a0) (a1) (a) (s):Mi (FC a0 a1 a s):=by delta FC;repeat' first | (show Mi _;infer_instance) | refine @iB _ _ _ _ ?_ (fun _=>?_) | refine @iC _ _ _ _ ?_ | refine @iI _ _ _ _ _ ?_ ?_
instance (a0) (a1) (a) (s):Mi (H0 a0 a1 a s):=by delta H0;infer_instance
instance (a0) (a1) (a):Mi (E7 a0 a1 a):=by delta E7;infer_instance
instance:Mi (FX):=by delta FX;infer_instance
instance (a0) (a1) (s):Mi (Ea a0 a1 s):=by delta Ea;repeat' first | (show Mi _;infer_instance) | refine @iB _ _ _ _ ?_ (fun _=>?_) | refine @iC _ _ _ _ ?_ | refine @iI _ _ _ _ _ ?_ ?_
instance (a0) (a1) (s):Mi (H3 a0 a1 s):=by delta H3;infer_instance
instance (a0) (a1):Mi (Da a0 a1):=by delta Da;infer_instance
instance (a0) (a):Mi (EZ a0 a):=by delta EZ;infer_instance
instance:Mi (Gt):=by delta Gt;infer_instance
instance (a0) (a1) (s):Mi (Gi a0 a1 s):=by delta Gi;infer_instance
instance (a0) (a1) (s):Mi (Ii a0 a1 s):=by delta Ii;infer_instance
instance (a0) (a1):Mi (Gu a0 a1):=by delta Gu;infer_instance
instance (a0) (a1):Mi (strings_IndexAny a0 a1):=by delta strings_IndexAny;infer_instance
instance (s) (c):Mi (Ow s c):=by delta Ow;infer_instance
instance (a0) (a):Mi (DP a0 a):=by delta DP;infer_instance
instance (a0) (a1):Mi (Gv a0 a1):=by delta Gv;infer_instance
instance (self) [∀ a,Mi (self a)] (a0):Mi (DQ self a0):=by delta DQ;repeat' first | (show Mi _;infer_instance) | refine @iB _ _ _ _ ?_ (fun _=>?_) | refine @iC _ _ _ _ ?_ | refine @iI _ _ _ _ _ ?_ ?_
instance Mr:∀ (n:Nat) (y0),Mi (DS n y0)
 | 0,_=>⟨none,fun _ h=>by cases h⟩
 | n+1,y0=>by
  haveI:=Mr n
  show Mi (DQ (DS n) y0)
  infer_instance
instance (y0):Mi (Hr y0):=by delta Hr;infer_instance
instance (_a0) (_a1):Mi (GO _a0 _a1):=by delta GO;infer_instance
instance (_a0) (_a1):Mi (FJ _a0 _a1):=by delta FJ;infer_instance
instance (a0) (a1):Mi (Hs a0 a1):=by delta Hs;infer_instance
instance (y22):Mi (I1 y22):=by delta I1;infer_instance
instance (a0):Mi (Jm a0):=by delta Jm;repeat' first | (show Mi _;infer_instance) | refine @iB _ _ _ _ ?_ (fun _=>?_) | refine @iC _ _ _ _ ?_ | refine @iI _ _ _ _ _ ?_ ?_
instance (a0):Mi (JN a0):=by delta JN;infer_instance
instance (a0) (a1):Mi (Kj a0 a1):=by delta Kj;infer_instance
def Em(a0:List UInt8)(a:List Int):Option ((List Int)):=
 Go.L.Bh (a=Go.L.iota a0.length/\a0.length<4611686018427387904) (some ((Go.L.YJ a0)))
theorem Nr:@Em = @FM:=by
 unfold Em FM;simp only [Y0,Yz,Uk]
instance (a0) (a):Mi (Em a0 a):=by delta Em;infer_instance
instance (a0) (a):Mi (FM a0 a):=⟨(inferInstance:Mi (Em a0 a)).c,by rw [<- Nr];exact(inferInstance:Mi (Em a0 a)).h⟩
instance (a0) (s):Mi (CO a0 s):=by obtain⟨b,a⟩:=s;delta CO;dsimp only;infer_instance
instance (a0) (s):Mi (Iv a0 s):=by delta Iv;infer_instance
instance (a0):Mi (HL a0):=by delta HL;infer_instance
instance (a0):Mi (HN a0):=by delta HN;infer_instance
instance (a1):Mi (DE a1):=by delta DE;infer_instance
instance (_a0) (a1):Mi (EU _a0 a1):=by delta EU;infer_instance
instance (a):Mi (Et a):=by delta Et;infer_instance
instance (a0) (s):Mi (Bo a0 s):=by obtain⟨b,a⟩:=s;delta Bo;dsimp only;infer_instance
instance (a0) (s):Mi (Dh a0 s):=by delta Dh;infer_instance
instance (a0) (a):Mi (Di a0 a):=by delta Di;infer_instance
instance (a0) (s):Mi (Bp a0 s):=by obtain⟨b,a⟩:=s;delta Bp;dsimp only;infer_instance
instance (a0) (s):Mi (Eu a0 s):=by delta Eu;infer_instance
instance (a0):Mi (De a0):=by delta De;infer_instance
instance (a) (c) (b):Mi (D8 a c b):=by delta D8;infer_instance
instance (a0) (a) (s):Mi (Co a0 a s):=by obtain⟨d,c,b⟩:=s;delta Co;dsimp only;infer_instance
instance (a0) (a) (s):Mi (Fc a0 a s):=by delta Fc;infer_instance
instance (c) (d) (a) (e) (b):Mi (D9 c d a e b):=by delta D9;infer_instance
instance (a0) (d) (b) (c) (a):Mi (DA a0 d b c a):=by delta DA;infer_instance
instance (a0) (d) (a) (s):Mi (BO a0 d a s):=by obtain⟨e,b,c⟩:=s;delta BO;dsimp only;infer_instance
instance (a0) (b) (a) (s):Mi (DB a0 b a s):=by delta DB;infer_instance
instance (a0) (b) (c) (a):Mi (DC a0 b c a):=by delta DC;infer_instance
instance (a0) (b) (c) (s):Mi (Cp a0 b c s):=by obtain⟨e,d,a⟩:=s;delta Cp;dsimp only;infer_instance
instance (a0) (a) (b) (s):Mi (GH a0 a b s):=by delta GH;infer_instance
instance (a0) (a) (b) (c):Mi (DD a0 a b c):=by delta DD;infer_instance
instance (a0):Mi (CY a0):=by delta CY;repeat' first | (show Mi _;infer_instance) | refine @iB _ _ _ _ ?_ (fun _=>?_) | refine @iC _ _ _ _ ?_ | refine @iI _ _ _ _ _ ?_ ?_
instance (a):Mi (Gy a):=by delta Gy;infer_instance
instance (a0) (b) (s):Mi (DF a0 b s):=by obtain⟨c,a⟩:=s;delta DF;dsimp only;repeat' first | (show Mi _;infer_instance) | refine @iB _ _ _ _ ?_ (fun _=>?_) | refine @iC _ _ _ _ ?_ | refine @iI _ _ _ _ _ ?_ ?_
instance (a0) (a) (s):Mi (Jz a0 a s):=by delta Jz;infer_instance
instance (a) (b):Mi (HP a b):=by delta HP;infer_instance
instance (a0):Mi (Hf a0):=by delta Hf;infer_instance
instance (a0) (a1):Mi (IF a0 a1):=by delta IF;infer_instance
instance (a0) (a1):Mi (BK a0 a1):=by delta BK;infer_instance
instance (a0):Mi (J4 a0):=by delta J4;infer_instance
instance (a0):Mi (FY a0):=by delta FY;infer_instance
instance:Mi (EW):=by delta EW;infer_instance
instance (a0) (s):Mi (Cx a0 s):=by delta Cx;infer_instance
instance (a0) (s):Mi (Gq a0 s):=by delta Gq;infer_instance
instance (a0):Mi (Gz a0):=by delta Gz;infer_instance
instance (a0):Mi (Ft a0):=by delta Ft;infer_instance
instance:Mi (Cw):=by delta Cw;infer_instance
instance (a0) (a1) (s):Mi (Bx a0 a1 s):=by delta Bx;infer_instance
instance (a0) (a1) (s):Mi (CZ a0 a1 s):=by delta CZ;infer_instance
instance (a0) (a1):Mi (CD a0 a1):=by delta CD;infer_instance
instance (a0) (a1):Mi (BN a0 a1):=by delta BN;infer_instance
instance:Mi (F3):=by delta F3;infer_instance
instance (a) (s):Mi (C3 a s):=by delta C3;infer_instance
instance (a) (s):Mi (I6 a s):=by delta I6;infer_instance
instance (_c84) (_c85) (_c86) (b) (c) (a):Mi (B1 _c84 _c85 _c86 b c a):=by delta B1;infer_instance
instance (b) (c) (d) (e) (f) (a):Mi (Eh b c d e f a):=by delta Eh;repeat' first | (show Mi _;infer_instance) | refine @iB _ _ _ _ ?_ (fun _=>?_) | refine @iC _ _ _ _ ?_ | refine @iI _ _ _ _ _ ?_ ?_
instance (b) (c) (d) (e) (f) (a):Mi (Ei b c d e f a):=by delta Ei;infer_instance
instance (b) (c) (d) (e) (f) (a):Mi (Ej b c d e f a):=by delta Ej;infer_instance
instance (a0):Mi (EO a0):=by delta EO;infer_instance
instance (a):Mi (EX a):=by delta EX;infer_instance
instance (a0) (a2) (self) [∀ c d e,Mi (self c d e)] (s):Mi (Ca a0 a2 self s):=by obtain⟨b,a⟩:=s;delta Ca;dsimp only;infer_instance
instance (a0) (a2) (self) [∀ a b c,Mi (self a b c)] (s):Mi (Ig a0 a2 self s):=by delta Ig;infer_instance
instance (self) [∀ a b c,Mi (self a b c)] (a0) (a1) (a2):Mi (CR self a0 a1 a2):=by delta CR;infer_instance
instance PE:∀ (n:Nat) (y0) (y1) (y2),Mi (D3 n y0 y1 y2)
 | 0,_,_,_=>⟨none,fun _ h=>by cases h⟩
 | n+1,y0,y1,y2=>by
  haveI:=PE n
  show Mi (CR (D3 n) y0 y1 y2)
  infer_instance
instance (y0) (y1) (y2):Mi (JT y0 y1 y2):=by delta JT;infer_instance
instance (b) (a):Mi (H5 b a):=by delta H5;infer_instance
instance (s):Mi (DU s):=by obtain⟨b,a⟩:=s;delta DU;dsimp only;infer_instance
instance (s):Mi (Jd s):=by delta Jd;infer_instance
instance (a0):Mi (CG a0):=by delta CG;infer_instance
instance (a0):Mi (F4 a0):=by delta F4;infer_instance
instance (a0) (a) (self) [∀ c,Mi (self c)] (b):Mi (CH a0 a self b):=by delta CH;infer_instance
instance (a):Mi (E9 a):=by delta E9;infer_instance
instance (a0) (self) [∀ b,Mi (self b)] (s):Mi (BG a0 self s):=by obtain⟨c,a⟩:=s;delta BG;dsimp only;infer_instance
instance (a0) (self) [∀ a,Mi (self a)] (s):Mi (H6 a0 self s):=by delta H6;infer_instance
instance (self) [∀ a,Mi (self a)] (a0):Mi (DI self a0):=by delta DI;infer_instance
instance Pb:∀ (n:Nat) (y0),Mi (DJ n y0)
 | 0,_=>⟨none,fun _ h=>by cases h⟩
 | n+1,y0=>by
  haveI:=Pb n
  show Mi (DI (DJ n) y0)
  infer_instance
instance (y0):Mi (Je y0):=by delta Je;infer_instance
instance (a0):Mi (Jf a0):=by delta Jf;infer_instance
instance (a0):Mi (Dj a0):=by delta Dj;infer_instance
instance (a) (b) (c) (d):Mi (GY a b c d):=by delta GY;infer_instance
instance (a0) (a1):Mi (Hw a0 a1):=by delta Hw;infer_instance
instance (a0):Mi (GB a0):=by delta GB;infer_instance
instance (a) (b):Mi (Hy a b):=by delta Hy;infer_instance
instance (a) (b) (s):Mi (EN a b s):=by obtain⟨d,c⟩:=s;delta EN;dsimp only;infer_instance
instance (a) (b) (s):Mi (Hz a b s):=by delta Hz;infer_instance
instance (a) (b):Mi (CE a b):=by delta CE;repeat' first | (show Mi _;infer_instance) | refine @iB _ _ _ _ ?_ (fun _=>?_) | refine @iC _ _ _ _ ?_ | refine @iI _ _ _ _ _ ?_ ?_
instance (a) (b):Mi (Ee a b):=by delta Ee;infer_instance
instance (a) (b):Mi (Ef a b):=by delta Ef;infer_instance
instance (a0):Mi (FN a0):=by delta FN;infer_instance
instance (a0):Mi (Iq a0):=by delta Iq;infer_instance
instance (a0):Mi (E5 a0):=by delta E5;infer_instance
instance (a0) (a1):Mi (AM a0 a1):=by delta AM;infer_instance
instance (a) (b):Mi (DG a b):=by delta DG;infer_instance
instance (a0) (a) (s):Mi (B7 a0 a s):=by obtain⟨c,d,e,b⟩:=s;delta B7;dsimp only;repeat' first | (show Mi _;infer_instance) | refine @iB _ _ _ _ ?_ (fun _=>?_) | refine @iC _ _ _ _ ?_ | refine @iI _ _ _ _ _ ?_ ?_
instance (a0) (a) (s):Mi (Fe a0 a s):=by delta Fe;infer_instance
instance (a0) (a) (b):Mi (DH a0 a b):=by delta DH;infer_instance
instance (a0) (a) (s):Mi (BP a0 a s):=by obtain⟨c,b⟩:=s;delta BP;dsimp only;infer_instance
instance (a0) (a) (s):Mi (Ff a0 a s):=by delta Ff;infer_instance
instance (a0) (s):Mi (BQ a0 s):=by obtain⟨b,a⟩:=s;delta BQ;dsimp only;infer_instance
instance (a0) (s):Mi (Fg a0 s):=by delta Fg;infer_instance
instance (a0) (a1_c0):Mi (DR a0 a1_c0):=by delta DR;infer_instance
instance (a0) (a):Mi (F1 a0 a):=by delta F1;infer_instance
instance (a0) (a1) (a) (s):Mi (EM a0 a1 a s):=by obtain⟨c,b⟩:=s;delta EM;dsimp only;infer_instance
instance (a0) (a1) (a) (s):Mi (Jc a0 a1 a s):=by delta Jc;infer_instance
instance (a0) (a1):Mi (IE a0 a1):=by delta IE;infer_instance
instance (a0) (a):Mi (F2 a0 a):=by delta F2;infer_instance
instance (a0) (s):Mi (Dn a0 s):=by obtain⟨b,a⟩:=s;delta Dn;dsimp only;infer_instance
instance (a0) (s):Mi (K4 a0 s):=by delta K4;infer_instance
instance (a0):Mi (GC a0):=by delta GC;infer_instance
instance (a0) (a1):Mi (Fh a0 a1):=by delta Fh;infer_instance
instance (a0):Mi (Cn a0):=by delta Cn;infer_instance
noncomputable instance {σ:Type} (a0:Go.L.Pv) (a1:List (List UInt8)) (a:Int) (self:Go.L.Pv->(List (List UInt8))->σ->Option σ) [∀ c d e,Mi (self c d e)] (b:List UInt8) (sJ72:σ):Mi (C6 a0 a1 a self b sJ72):=by delta C6;infer_instance
noncomputable instance {σ:Type} (a0:Go.L.Pv) (a1:List (List UInt8)) (self:Go.L.Pv->(List (List UInt8))->σ->Option σ) [∀ b c d,Mi (self b c d)] (s:Int×σ):Mi (Cc a0 a1 self s):=by obtain⟨a,sJ55⟩:=s;delta Cc;dsimp only;infer_instance
noncomputable instance {σ:Type} (a0:Go.L.Pv) (a1:List (List UInt8)) (self:Go.L.Pv->(List (List UInt8))->σ->Option σ) [∀ a b c,Mi (self a b c)] (s:Int×σ):Mi (Hj a0 a1 self s):=by delta Hj;infer_instance
noncomputable instance {σ:Type} (step:σ->((List UInt8)×Int×Int×(List UInt8))->Option σ) [∀ a b,Mi (step a b)] (self:Go.L.Pv->(List (List UInt8))->σ->Option σ) [∀ a b c,Mi (self a b c)] (a0:Go.L.Pv) (a1:List (List UInt8)) (s:σ):Mi (Dw step self a0 a1 s):=by delta Dw;infer_instance
instance Oy {σ:Type} (step:σ->((List UInt8)×Int×Int×(List UInt8))->Option σ) [∀ a b,Mi (step a b)]:∀ (n:Nat) (y0) (y1) (y2),Mi (DV step n y0 y1 y2)
 | 0,_,_,_=>⟨none,fun _ h=>by cases h⟩
 | n+1,y0,y1,y2=>by
  haveI:=Oy step n
  show Mi (Dw step (DV step n) y0 y1 y2)
  infer_instance
noncomputable instance {σ:Type} (step:σ->((List UInt8)×Int×Int×(List UInt8))->Option σ) [∀ a b,Mi (step a b)] (y0) (y1) (y2):Mi (Hg step y0 y1 y2):=by delta Hg;infer_instance
instance (i) (l) (x):Mi (HT i l x):=by delta HT;infer_instance
instance (a0):Mi (D0 a0):=by delta D0;infer_instance
instance (a):Mi (G2 a):=by delta G2;infer_instance
instance (a0) (s):Mi (EH a0 s):=by obtain⟨b,a⟩:=s;delta EH;dsimp only;infer_instance
instance (a0) (s):Mi (HU a0 s):=by delta HU;infer_instance
instance (a0):Mi (Hh a0):=by delta Hh;infer_instance
instance (a1):Mi (Dk a1):=by delta Dk;infer_instance
instance (_a0) (a1):Mi (Df _a0 a1):=by delta Df;infer_instance
instance (a):Mi (CI a):=by delta CI;infer_instance
instance (a0) (s):Mi (Cd a0 s):=by obtain⟨b,a⟩:=s;delta Cd;dsimp only;infer_instance
instance (a0) (s):Mi (DK a0 s):=by delta DK;infer_instance
instance (a0) (a):Mi (Cq a0 a):=by delta Cq;infer_instance
instance (a0) (s):Mi (Ce a0 s):=by obtain⟨b,a⟩:=s;delta Ce;dsimp only;infer_instance
instance (a0) (s):Mi (DL a0 s):=by delta DL;infer_instance
instance (a0):Mi (CA a0):=by delta CA;infer_instance
instance (a):Mi (Jg a):=by delta Jg;infer_instance
instance (a0):Mi (H9 a0):=by delta H9;infer_instance
instance (a):Mi (HA a):=by delta HA;infer_instance
instance (a0) (s):Mi (FO a0 s):=by obtain⟨b,a⟩:=s;delta FO;dsimp only;infer_instance
instance (a0) (s):Mi (Jh a0 s):=by delta Jh;infer_instance
instance (a0):Mi (IH a0):=by delta IH;infer_instance
instance (a0):Mi (Ek a0):=by delta Ek;infer_instance
instance (a0) (a):Mi (EP a0 a):=by delta EP;infer_instance
def DT(a0:Int)(a1:List (((List UInt8)×Int×Int×(List UInt8))×(List Int)))(b:(List ((List UInt8)×Int×Int×(List UInt8)))):(List (((List UInt8)×Int×Int×(List UInt8))×(List Int)))×Int->Option (((List (((List UInt8)×Int×Int×(List UInt8))×(List Int)))×Int) ⊕ ((Int×(List (((List UInt8)×Int×Int×(List UInt8))×(List Int))))×(Int×Int))):=fun⟨d,a⟩=>
 if a<(b.length:Int) then Go.L.Bh (0<=a/\a<(b.length:Int)) (Option.bind (D0 (Go.L.Ct [] ((b.getD a.toNat default).1,(b.getD a.toNat default).2.1,(b.getD a.toNat default).2.2.1,(b.getD a.toNat default).2.2.2) a1)) (fun c=>Go.L.Bh (c.length<4611686018427387904) (Go.L.Bh ((isI c).length<=9223372036854775807) (Go.L.Bh (Go.E.Ij 72 (d.length+([(((b.getD a.toNat default).1,(b.getD a.toNat default).2.1,(b.getD a.toNat default).2.2.1,(b.getD a.toNat default).2.2.2),(Lib.compact (isI c)))]).length)) (Go.L.Bh (Go.L.C0 (a+(1:Int))) (some (Sum.inl ((d++[(((b.getD a.toNat default).1,(b.getD a.toNat default).2.1,(b.getD a.toNat default).2.2.1,(b.getD a.toNat default).2.2.2),(Lib.compact (isI c)))]),(a+(1:Int)))))))))) else Option.map Sum.inr ((EP a0) d)
theorem MT:@DT = @El:=by
 unfold DT El;simp only [Y0,Yz,Uk]
instance (a0) (a1) (b) (s):Mi (DT a0 a1 b s):=by obtain⟨c,a⟩:=s;delta DT;dsimp only;infer_instance
instance (a0) (a1) (a) (s):Mi (El a0 a1 a s):=⟨(inferInstance:Mi (DT a0 a1 a s)).c,by rw [<- MT];exact(inferInstance:Mi (DT a0 a1 a s)).h⟩
instance (a0) (a1) (a) (s):Mi (Ix a0 a1 a s):=by delta Ix;infer_instance
instance (a0) (a1):Mi (Fi a0 a1):=by delta Fi;infer_instance
instance (a0) (a):Mi (GW a0 a):=by delta GW;infer_instance
instance (a0) (s):Mi (Cr a0 s):=by obtain⟨b,a⟩:=s;delta Cr;dsimp only;infer_instance
instance (a0) (s):Mi (Iy a0 s):=by delta Iy;infer_instance
instance (a0):Mi (HV a0):=by delta HV;infer_instance
instance (g) (a) (b) (c) (d) (e) (f):Mi (ER g a b c d e f):=by delta ER;infer_instance
instance (a) (b) (c):Mi (FR a b c):=by delta FR;infer_instance
instance (a0) (s):Mi (Cs a0 s):=by obtain⟨b,c,d,a⟩:=s;delta Cs;dsimp only;repeat' first | (show Mi _;infer_instance) | refine @iB _ _ _ _ ?_ (fun _=>?_) | refine @iC _ _ _ _ ?_ | refine @iI _ _ _ _ _ ?_ ?_
instance (a0) (s):Mi (GZ a0 s):=by delta GZ;infer_instance
instance (a0):Mi (GL a0):=by delta GL;infer_instance
instance (a0):Mi (FQ a0):=by delta FQ;infer_instance
instance (a0):Mi (BC a0):=by delta BC;infer_instance
instance (a0):Mi (Hi a0):=by delta Hi;infer_instance
instance (a0) (a1):Mi (CN a0 a1):=by delta CN;infer_instance
instance (a0) (a1):Mi (strings_Compare a0 a1):=by delta strings_Compare;infer_instance
instance (a0) (a1):Mi (F0 a0 a1):=by delta F0;infer_instance
instance (a0) (a1) (a):Mi (Bq a0 a1 a):=by delta Bq;infer_instance
instance (a0) (a1) (s):Mi (Bn a0 a1 s):=by obtain⟨b,a⟩:=s;delta Bn;dsimp only;repeat' first | (show Mi _;infer_instance) | refine @iB _ _ _ _ ?_ (fun _=>?_) | refine @iC _ _ _ _ ?_ | refine @iI _ _ _ _ _ ?_ ?_
instance (a0) (a1) (s):Mi (BA a0 a1 s):=by delta BA;infer_instance
instance (a0) (a1):Mi (Bv a0 a1):=by delta Bv;infer_instance
instance (a0) (a1):Mi (HQ a0 a1):=by delta HQ;infer_instance
instance (a0):Mi (Dm a0):=by delta Dm;infer_instance
instance (a0) (a1):Mi (HX a0 a1):=by delta HX;infer_instance
instance (a):Mi (HZ a):=by delta HZ;infer_instance
instance (a0) (s):Mi (Hp a0 s):=by obtain⟨b,a⟩:=s;delta Hp;dsimp only;infer_instance
instance (a0) (s):Mi (J6 a0 s):=by delta J6;infer_instance
instance (a0):Mi (JF a0):=by delta JF;infer_instance
instance (a):Mi (Fl a):=by delta Fl;infer_instance
instance (a0) (a1):Mi (Gs a0 a1):=by delta Gs;infer_instance
instance (a):Mi (FH a):=by delta FH;infer_instance
instance (a1) (s):Mi (Fk a1 s):=by obtain⟨b,a⟩:=s;delta Fk;dsimp only;infer_instance
instance (a1) (s):Mi (Hl a1 s):=by delta Hl;infer_instance
instance (a0) (a1):Mi (GM a0 a1):=by delta GM;infer_instance
instance (a):Mi (Dp a):=by delta Dp;infer_instance
instance (a1) (a) (s):Mi (Db a1 a s):=by delta Db;infer_instance
instance (a1) (a) (s):Mi (ES a1 a s):=by delta ES;infer_instance
instance (a1) (a):Mi (Cz a1 a):=by delta Cz;infer_instance
instance (a1) (a) (s):Mi (Dc a1 a s):=by obtain⟨c,b⟩:=s;delta Dc;dsimp only;infer_instance
instance (a1) (a) (s):Mi (ET a1 a s):=by delta ET;infer_instance
instance (self) [∀ a b,Mi (self a b)] (a0) (a1):Mi (CX self a0 a1):=by delta CX;infer_instance
instance KV:∀ (n:Nat) (y0) (y1),Mi (CS n y0 y1)
 | 0,_,_=>⟨none,fun _ h=>by cases h⟩
 | n+1,y0,y1=>by
  haveI:=KV n
  show Mi (CX (CS n) y0 y1)
  infer_instance
instance (y0) (y1):Mi (Gh y0 y1):=by delta Gh;infer_instance
instance (a):Mi (FI a):=by delta FI;infer_instance
instance (a2) (a) (s):Mi (Fm a2 a s):=by obtain⟨c,b⟩:=s;delta Fm;dsimp only;infer_instance
instance (a2) (a) (s):Mi (Hm a2 a s):=by delta Hm;infer_instance
instance (a0) (a1) (a2):Mi (F6 a0 a1 a2):=by delta F6;infer_instance
instance (a0):Mi (D7 a0):=by delta D7;infer_instance
instance (a0):Mi (B3 a0):=by delta B3;infer_instance
instance (a0) (a1):Mi (Gn a0 a1):=by delta Gn;infer_instance
instance (a):Mi (FA a):=by delta FA;infer_instance
instance (a0) (s):Mi (BW a0 s):=by obtain⟨c,a,b⟩:=s;delta BW;dsimp only;infer_instance
instance (a0) (s):Mi (DZ a0 s):=by delta DZ;infer_instance
instance (a0):Mi (Dv a0):=by delta Dv;infer_instance
instance (a0):Mi (CP a0):=by delta CP;infer_instance
instance (a0) (a1) (a2):Mi (C5 a0 a1 a2):=by delta C5;repeat' first | (show Mi _;infer_instance) | refine @iB _ _ _ _ ?_ (fun _=>?_) | refine @iC _ _ _ _ ?_ | refine @iI _ _ _ _ _ ?_ ?_
instance (a0):Mi (Ec a0):=by delta Ec;infer_instance
instance (a0) (a1) (a2) (a3):Mi (DN a0 a1 a2 a3):=by delta DN;repeat' first | (show Mi _;infer_instance) | refine @iB _ _ _ _ ?_ (fun _=>?_) | refine @iC _ _ _ _ ?_ | refine @iI _ _ _ _ _ ?_ ?_
instance (a0) (a1) (a2) (a3) (a4) (a):Mi (Cy a0 a1 a2 a3 a4 a):=by delta Cy;infer_instance
instance (a0) (a1) (a2) (a3) (a4):Mi (BR a0 a1 a2 a3 a4):=by delta BR;infer_instance
instance (a0) (a) (b):Mi (Gd a0 a b):=by delta Gd;infer_instance
instance (a0) (a) (b) (s):Mi (FE a0 a b s):=by delta FE;infer_instance
instance (a0) (a) (b) (s):Mi (HE a0 a b s):=by delta HE;infer_instance
instance (_self) (a0):Mi (Ge _self a0):=by delta Ge;infer_instance
instance Pc:∀ (n:Nat) (y0),Mi (G5 n y0)
 | 0,_=>⟨none,fun _ h=>by cases h⟩
 | n+1,y0=>by
  haveI:=Pc n
  show Mi (Ge (G5 n) y0)
  infer_instance
instance (y0):Mi (Jk y0):=by delta Jk;infer_instance
instance (a) (b):Mi (FF a b):=by delta FF;infer_instance
instance (a0) (a1) (b) (self) [∀ c d,Mi (self c d)] (s):Mi (Fj a0 a1 b self s):=by obtain⟨e,a⟩:=s;delta Fj;dsimp only;infer_instance
instance (a0) (a1) (a) (self) [∀ b c,Mi (self b c)] (s):Mi (Hk a0 a1 a self s):=by delta Hk;infer_instance
instance (a0) (a1) (self) [∀ b c,Mi (self b c)] (a):Mi (Eb a0 a1 self a):=by delta Eb;infer_instance
instance (self) [∀ a b,Mi (self a b)] (a0) (a1):Mi (F5 self a0 a1):=by delta F5;repeat' first | (show Mi _;infer_instance) | refine @iB _ _ _ _ ?_ (fun _=>?_) | refine @iC _ _ _ _ ?_ | refine @iI _ _ _ _ _ ?_ ?_
instance O0:∀ (n:Nat) (y0) (y1),Mi (FP n y0 y1)
 | 0,_,_=>⟨none,fun _ h=>by cases h⟩
 | n+1,y0,y1=>by
  haveI:=O0 n
  show Mi (F5 (FP n) y0 y1)
  infer_instance
instance (y0) (y1):Mi (JD y0 y1):=by delta JD;infer_instance
instance (a0):Mi (JE a0):=by delta JE;infer_instance
instance (a0) (a1):Mi (E2 a0 a1):=by delta E2;infer_instance
instance:Mi (JA):=by delta JA;infer_instance
instance (a0) (a1) (s):Mi (IZ a0 a1 s):=by delta IZ;infer_instance
instance (a0) (a1) (s):Mi (KP a0 a1 s):=by delta KP;infer_instance
instance (a0) (a1):Mi (LL a0 a1):=by delta LL;infer_instance
instance:Mi (Fo):=by delta Fo;infer_instance
instance (a0) (a1) (self) [∀ a b,Mi (self a b)] (s):Mi (EK a0 a1 self s):=by delta EK;infer_instance
instance (a0) (a1) (self) [∀ a b,Mi (self a b)] (s):Mi (GP a0 a1 self s):=by delta GP;infer_instance
instance (a0) (a1) (self) [∀ a b,Mi (self a b)]:Mi (Fp a0 a1 self):=by delta Fp;infer_instance
instance (self) [∀ a b,Mi (self a b)] (a0) (a1):Mi (Fb self a0 a1):=by delta Fb;infer_instance
instance NJ:∀ (n:Nat) (y0) (y1),Mi (Fv n y0 y1)
 | 0,_,_=>⟨none,fun _ h=>by cases h⟩
 | n+1,y0,y1=>by
  haveI:=NJ n
  show Mi (Fb (Fv n) y0 y1)
  infer_instance
instance (y0) (y1):Mi (Jn y0 y1):=by delta Jn;infer_instance
instance:Mi (Ki):=by delta Ki;infer_instance
instance (a0) (a1) (s):Mi (J9 a0 a1 s):=by delta J9;infer_instance
instance (a0) (a1) (s):Mi (LK a0 a1 s):=by delta LK;infer_instance
instance (a0) (a1):Mi (Na a0 a1):=by delta Na;infer_instance
instance (a0) (a1):Mi (Kh a0 a1):=by delta Kh;infer_instance
instance (a):Mi (Ex a):=by delta Ex;infer_instance
instance:Mi (II):=by delta II;repeat' first | (show Mi _;infer_instance) | refine @iB _ _ _ _ ?_ (fun _=>?_) | refine @iC _ _ _ _ ?_ | refine @iI _ _ _ _ _ ?_ ?_
theorem WE:II=some true:=(inferInstance:Mi II).h true (by kernel_rfl)
end
end Go.Proofs.YtekmbcbgknmhiaaGreatDoor
end
noncomputable section
namespace Go.Proofs.YtekmbcbgknmhiaaGreatDoor
open Go Go.E Go.RowKit Go.L
set_option maxHeartbeats 1000000
set_option maxRecDepth 10000
open _root_.Go.Proofs.Tryz
def Bz(a0:List (Aaz×Go.L.Pv))(a1 a2 a3:Int)(a:Aaz×(Int×Int))(b c:Int):Option Bool:=
 if b=0 then(if a.2.1=0 then Bh (0<=a1/\a1<(a0.length:Int)) (Bh (0<=a2/\a2<=a3/\a3<=(((a0.getD a1.toNat default).1).length:Int)) (Option.bind (E2 a.1 ((((a0.getD a1.toNat default).1).drop a2.toNat).take (a3.toNat - a2.toNat))) (fun d=>some d))) else some false) else(if a.2.1=b/\a.2.2=c then some (decide ((a.1.length:Int)=0)) else some false)
def ED(a0:List (Aaz×Go.L.Pv))(a1 a2 a3:Int)(a4:List Bool)(b:Ady×(Int×Int)):Option Bool:=
 Option.bind (BR ((b.1.1.1,b.1.1.2),(b.1.2.1.1,b.1.2.1.2),b.1.2.2) a1 a2 a3 a4) (fun a=>Bh (C0 ((a0.length:Int) - 1)) (if 0<=a1/\a1<=((a0.length:Int) - 1) then(if(a4.length:Int)=(a0.length:Int) then Bh (0<=a1/\a1<(a4.length:Int)) (if !(a4.getD a1.toNat default) then Option.bind (Kh (20:Int) (-1:Int)) (fun c=>(Bz a0 a1 a2 a3 a) c.1 c.2) else Bh (0<=a1/\a1<(a0.length:Int)) (if 0<=a2/\a2<=(((a0.getD a1.toNat default).1).length:Int) then Bh (0<=a1/\a1<(a0.length:Int)) (if a2<=a3/\a3<=(((a0.getD a1.toNat default).1).length:Int) then(Bz a0 a1 a2 a3 a) (0:Int) (0:Int) else Option.bind (Kh (4:Int) (-3:Int)) (fun d=>(Bz a0 a1 a2 a3 a) d.1 d.2)) else Option.bind (Kh (4:Int) (-2:Int)) (fun e=>(Bz a0 a1 a2 a3 a) e.1 e.2))) else Option.bind (Kh (9:Int) (-4:Int)) (fun f=>(Bz a0 a1 a2 a3 a) f.1 f.2)) else Option.bind (Kh (4:Int) (-1:Int)) (fun g=>(Bz a0 a1 a2 a3 a) g.1 g.2)))
def F8(a0:List (Aaz×Go.L.Pv))(a1 a2 a3:Int)(a4:List Bool):Option Bool:=
 Option.bind (GL a0) (fun a=>Option.bind II (fun b=>if !b then Option.bind II (fun c=>if c then Option.bind (BC ((a.1.1.1,a.1.1.2),(a.1.2.1.1,a.1.2.1.2),a.1.2.2)) (fun d=>some (decide (d=0))) else some false) else if a.2.1=0 then(ED a0 a1 a2 a3 a4 a) else Option.bind II (fun e=>if e then Option.bind (BC ((a.1.1.1,a.1.1.2),(a.1.2.1.1,a.1.2.1.2),a.1.2.2)) (fun f=>some (decide (f=0))) else some false)))
theorem JU(w:World)(H:PH)(hH:Le H (hp w))(hU:EE H){a0:List (Aaz×Go.L.Pv)}{a1 a2 a3:Int}{a4:List Bool}{am ap:Value}(ak:AA (.pair (.vec .byte) .tree) H am a0)(bg:AA .bool H ap a4){r:Bool}(h:F8 a0 a1 a2 a3 a4=some r):
  Ok prog 10 [am,No a1,No a2,No a3,ap] w (fun v w'=>Ext w w'/\v=.bool r):=by
 refine Aw (n:=110) [(0,am),(1,No a1),(2,No a2),(3,No a3),(4,ap)] func10 rfl fun hL=>AD 1 rfl<|Bs 1 rfl<|Aq h fun k dm h=>Bf rfl rfl hL (Mf _ _ (Al hH hL) (hU.mono (Ae hH)) (ak.mono (Ae hH)) dm) ?_;rintro _ w2 ⟨aq,ar,au,rfl,bx,bz,b0⟩ bo dn d6;have m:=bx.mono (Ds hH hL bo);have o:=bz.mono (Ds hH hL bo);have p:=b0.C8 hH hL bo;refine As 3 rfl<|A3 I3 rfl rfl dn fun w3 b3 dp aa _=>A3 AI rfl rfl dp fun w4 b4 dr ab _=>Ad 1 rfl I3 dr rfl (Bb rfl (Bb m.one (Bb rfl (Bb o.one (Bb p.one I8))))) fun w5 ds ac=>Ad 0 rfl AI ds rfl (AT rfl) fun w6 bp ad=>Ac ?_
 refine Bw (σ:=Unit) (fun(_:Unit)=>[(0,am),(1,No a1),(2,No a2),(3,No a3),(4,ap),(11,(Aas b3))]) (fun(_:Unit) wr=>FL w [.box b4 [No k.2.1,No k.2.2] 28,.box b3 [No k.1.1.1,aq,No k.1.2.1.1,ar,au] 52] wr fun Oz=>AA (.pair .st (.vec Ad4)) (gz H w wr Oz) aq (k.1.1.2)/\AA Ad3 (gz H w wr Oz) ar (k.1.2.1.2)/\AA Ad2 (gz H w wr Oz) au (k.1.2.2)/\(ED a0 a1 a2 a3 a4 k)=some r) ?_ ?_
 ·have j:=bp.rG H;refine Ai<|Aq h fun ex c5 h=>A8 rfl rfl bp (LZ _ _ (Al hH bp) (hU.mono (Ae hH)) c5) fun ey d7 al av=>As 2 rfl<|Bl (s:=23) rfl (fun ae=>?_) (fun ae=>?_)
  ·have h:=IU ae h
   iterate 3 refine Ao rfl ae rfl ?_
   refine Ah (AH rfl ae rfl) rfl<|Ac<|DW rfl<|Ai<|Aq h fun ez c6 h=>A8 rfl rfl al (LZ _ _ (Al hH al) (hU.mono (Ae hH)) c6) fun e0 d8 aw b1=>As 1 rfl<|Bl (s:=29) rfl (fun af=>?_) (fun af=>?_)
   ·have h:=IU af h;refine Ab rfl af<|Ah (A5 1 rfl Adl rfl I3 aw rfl) rfl<|Ab rfl af<|Aq h fun e1 c7 h=>?_;have m:=m.mono (Aa hH (aa.trans (ab.trans (ac.trans ad))));have o:=o.mono (Aa hH (aa.trans (ab.trans (ac.trans ad))));have p:=p.mono (Aa hH (aa.trans (ab.trans (ac.trans ad))));have j:=j.trans (Aa hH (av.trans b1));refine A8 rfl rfl aw (CB (a0:=((k.1.1.1,k.1.1.2),(k.1.2.1.1,k.1.2.1.2),k.1.2.2)) _ _ (Al hH aw) (m.mono j) (o.mono j) (p.mono j) c7) fun e2 d9 c8 du=>Ab rfl af<|Ah (Aj rfl) rfl<|Ah (AH rfl af rfl) rfl<|A4 1 rfl<|Ax<|BH ?_
    cases h
    refine Am rfl ⟨c8.ext,rfl⟩
   have h:=IV af h
   iterate 3 refine Ao rfl af rfl ?_
   refine Ah (AS rfl af rfl) rfl<|A4 1 rfl<|Ax<|BH ?_
   cases h
   refine Am rfl ⟨aw.ext,rfl⟩
  have h:=IV ae h;refine Ab rfl ae<|Ah (Af rfl AcP rfl Dd) rfl<|Ab rfl ae<|Ah (Ag 0 rfl AaA rfl al rfl) rfl<|Ab rfl ae<|Ah (Aj rfl) rfl<|Ah (AS rfl ae rfl) rfl<|Ac<|Cf rfl h (fun c9 h=>?_) (fun c9 h=>?_)
  ·refine Ai<|Aq h fun e3 da h=>A8 rfl rfl al (LZ _ _ (Al hH al) (hU.mono (Ae hH)) da) fun e4 ea ax b2=>As 1 rfl<|Bl (s:=29) rfl (fun ag=>?_) (fun ag=>?_)
   ·have h:=IU ag h;refine Ab rfl ag<|Ah (A5 1 rfl Adl rfl I3 ax rfl) rfl<|Ab rfl ag<|Aq h fun e5 db h=>?_;have m:=m.mono (Aa hH (aa.trans (ab.trans (ac.trans ad))));have o:=o.mono (Aa hH (aa.trans (ab.trans (ac.trans ad))));have p:=p.mono (Aa hH (aa.trans (ab.trans (ac.trans ad))));have j:=j.trans (Aa hH (av.trans b2));refine A8 rfl rfl ax (CB (a0:=((k.1.1.1,k.1.1.2),(k.1.2.1.1,k.1.2.1.2),k.1.2.2)) _ _ (Al hH ax) (m.mono j) (o.mono j) (p.mono j) db) fun e6 eb dc dv=>Ab rfl ag<|Ah (Aj rfl) rfl<|Ah (AH rfl ag rfl) rfl<|A4 1 rfl<|Ax<|BH ?_
    cases h
    refine Am rfl ⟨dc.ext,rfl⟩
   have h:=IV ag h
   iterate 3 refine Ao rfl ag rfl ?_
   refine Ah (AS rfl ag rfl) rfl<|A4 1 rfl<|Ax<|BH ?_
   cases h
   refine Am rfl ⟨ax.ext,rfl⟩
  refine Au ?_;have m:=m.mono (Aa hH (aa.trans (ab.trans (ac.trans ad))));have o:=o.mono (Aa hH (aa.trans (ab.trans (ac.trans ad))));have p:=p.mono (Aa hH (aa.trans (ab.trans (ac.trans ad))));have j:=j.trans (Aa hH av);refine A6 () (Sub.of rfl) ⟨al,(m.mono j),(o.mono j),(p.mono j),h⟩
 rintro _ ec ⟨an,u,x,y,h⟩;have a:=an.rG H;refine Ai<|Ah (A5 1 rfl Adl rfl I3 an rfl) rfl<|As 4 rfl<|Aq h fun bh dd h=>Bf rfl rfl an (GN (a0:=((k.1.1.1,k.1.1.2),(k.1.2.1.1,k.1.2.1.2),k.1.2.2)) _ _ (Al hH an) (u.mono a) (x.mono a) (y.mono a) (bg.mono (Ae hH)) dd) ?_;rintro _ e7 ⟨bi,rfl,bq⟩ de df ah;have b:=bq.mono (Ds hH an de);refine As 3 rfl<|A3 AI rfl rfl df fun e8 c2 dg e _=>As 1 rfl<|Ad 0 rfl AI dg rfl (AT rfl) fun e9 dh f=>Ac<|Ai<|Ah (AN rfl (fun _=>BL _)) rfl<|A3 AI rfl rfl dh fun fa c3 di g _=>Ad 0 rfl AI di rfl (AT rfl) fun fb br i=>Ac ?_
 refine Bw (σ:=Int×Int) (fun⟨ay,az⟩=>[(0,am),(1,No a1),(2,No a2),(3,No a3),(13,bi),(14,(Aas c2)),(15,(Aas c3))]) (fun⟨ay,az⟩ wr=>FL w [.box c3 [No ay,No az] 28,.box c2 [No bh.2.1,No bh.2.2] 28,.box b4 [No k.2.1,No k.2.2] 28,.box b3 [No k.1.1.1,aq,No k.1.2.1.1,ar,au] 52] wr fun Oz=>AA .byte (gz H w wr Oz) bi (bh.1)/\AA (.pair .st (.vec Ad4)) (gz H w wr Oz) aq (k.1.1.2)/\AA Ad3 (gz H w wr Oz) ar (k.1.2.1.2)/\AA Ad2 (gz H w wr Oz) au (k.1.2.2)/\(Bz a0 a1 a2 a3 bh) ay az=some r) ?_ ?_
 ·refine Bs 2 rfl<|Ah (Bj rfl Adk ak) rfl<|AB h fun b5 h=>Ah (AK rfl b5) rfl<|A8 rfl rfl br (Abs _ _ (Al hH br)) fun ed dw q d=>A4 1 rfl<|Cf rfl h (fun b6 h=>?_) (fun b6 h=>?_)
  ·refine Av<|Aq h fun bs b7 h=>A8 rfl rfl q (Jy _ _ (Al hH q) b7) fun ee dx b8 a6=>Ad 0 rfl AI b8 rfl (AT rfl) fun ef b9 a7=>AQ ?_;have a:=a.trans (Aa hH (ah.trans (e.trans (f.trans (g.trans (i.trans (d.trans (a6.trans a7))))))));have b:=b.mono (Aa hH (e.trans (f.trans (g.trans (i.trans (d.trans (a6.trans a7)))))));refine A6 (bs.1,bs.2) (Sub.of rfl) ⟨b9,b,(u.mono a),(x.mono a),(y.mono a),h⟩
  refine Bs 1 rfl<|Ah (Bj rfl Ado bg) rfl<|As 1 rfl<|Ah (Bj rfl Adk ak) rfl<|A4 1 rfl<|Cf rfl h (fun ca h=>?_) (fun ca h=>?_)
  ·refine Av<|Aq h fun bt cb h=>A8 rfl rfl q (Jy _ _ (Al hH q) cb) fun eg dy cc a8=>Ad 0 rfl AI cc rfl (AT rfl) fun eh cd a9=>AQ ?_;have a:=a.trans (Aa hH (ah.trans (e.trans (f.trans (g.trans (i.trans (d.trans (a8.trans a9))))))));have b:=b.mono (Aa hH (e.trans (f.trans (g.trans (i.trans (d.trans (a8.trans a9)))))));refine A6 (bt.1,bt.2) (Sub.of rfl) ⟨cd,b,(u.mono a),(x.mono a),(y.mono a),h⟩
  refine Bs 2 rfl<|AB h fun bj h=>Be rfl rfl Ado YQ bg a1.toNat (Hc bj) (Ba bj) rfl ?_;rintro ei _ rfl ce;refine Ah (Bu rfl Aby rfl ce (hH.trans q.arg)) rfl<|A4 1 rfl<|By rfl h (fun cf h=>?_) (fun cf h=>?_)
  ·refine Av<|Aq h fun bu cg h=>A8 rfl rfl q (Jy _ _ (Al hH q) cg) fun ej dz ch ba=>Ad 0 rfl AI ch rfl (AT rfl) fun ek ci bb=>AQ ?_;have a:=a.trans (Aa hH (ah.trans (e.trans (f.trans (g.trans (i.trans (d.trans (ba.trans bb))))))));have b:=b.mono (Aa hH (e.trans (f.trans (g.trans (i.trans (d.trans (ba.trans bb)))))));refine A6 (bu.1,bu.2) (Sub.of rfl) ⟨ci,b,(u.mono a),(x.mono a),(y.mono a),h⟩
  refine Bs 3 rfl<|AB h fun bk h=>Be rfl rfl Adk U0 ak a1.toNat (Hc bk) (Ba bk) rfl ?_;rintro el _ ⟨_,_,rfl,⟨e133v0,rfl,e133h0⟩,e133t1⟩ cj;obtain⟨_,_,rfl,rfl,⟨_,_,rfl,rfl,⟨_,_,rfl,⟨e133v3,rfl,e133h3⟩,⟨_,_,rfl,⟨e133v4,rfl,e133h4⟩,⟨e133v5,rfl,e133h5⟩⟩⟩⟩⟩:=Go.E.Rp.IA e133t1;refine Ah (Af rfl Adm rfl Hv) rfl ?_;have ck:=cj.add 0;refine Ah (Bu rfl Abj rfl ck (hH.trans q.arg)) rfl<|Ah (Bj rfl Abj e133h0) rfl<|A8 rfl rfl q (Abs _ _ (Al hH q)) fun em d0 ai z=>A4 1 rfl<|Cf rfl h (fun cl h=>?_) (fun cl h=>?_)
  ·refine Av<|Aq h fun bv cm h=>A8 rfl rfl ai (Jy _ _ (Al hH ai) cm) fun en d1 cn bc=>Ad 0 rfl AI cn rfl (AT rfl) fun eo co bd=>AQ ?_;have a:=a.trans (Aa hH (ah.trans (e.trans (f.trans (g.trans (i.trans (d.trans (z.trans (bc.trans bd)))))))));have b:=b.mono (Aa hH (e.trans (f.trans (g.trans (i.trans (d.trans (z.trans (bc.trans bd))))))));refine A6 (bv.1,bv.2) (Sub.of rfl) ⟨co,b,(u.mono a),(x.mono a),(y.mono a),h⟩
  refine Bs 4 rfl<|AB h fun bl h=>Be rfl rfl Adk U0 ak a1.toNat (Hc bl) (Ba bl) rfl ?_;rintro ep _ ⟨_,_,rfl,⟨e143v0,rfl,e143h0⟩,e143t1⟩ cp;obtain⟨_,_,rfl,rfl,⟨_,_,rfl,rfl,⟨_,_,rfl,⟨e143v3,rfl,e143h3⟩,⟨_,_,rfl,⟨e143v4,rfl,e143h4⟩,⟨e143v5,rfl,e143h5⟩⟩⟩⟩⟩:=Go.E.Rp.IA e143t1;refine Ah (Af rfl Adm rfl Hv) rfl ?_;have cq:=cp.add 0;refine Ah (Bu rfl Abj rfl cq (hH.trans ai.arg)) rfl<|Ah (Bj rfl Abj e143h0) rfl<|A8 rfl rfl ai (Abs _ _ (Al hH ai)) fun eq d2 a5 aj=>A4 1 rfl<|Cf rfl h (fun cr h=>?_) (fun cr h=>?_)
  ·refine Av<|Aq h fun bw cs h=>A8 rfl rfl a5 (Jy _ _ (Al hH a5) cs) fun er d3 ct be=>Ad 0 rfl AI ct rfl (AT rfl) fun es cu bf=>AQ ?_;have a:=a.trans (Aa hH (ah.trans (e.trans (f.trans (g.trans (i.trans (d.trans (z.trans (aj.trans (be.trans bf))))))))));have b:=b.mono (Aa hH (e.trans (f.trans (g.trans (i.trans (d.trans (z.trans (aj.trans (be.trans bf)))))))));refine A6 (bw.1,bw.2) (Sub.of rfl) ⟨cu,b,(u.mono a),(x.mono a),(y.mono a),h⟩
  refine Au ?_;have a:=a.trans (Aa hH (ah.trans (e.trans (f.trans (g.trans (i.trans (d.trans (z.trans aj))))))));have b:=b.mono (Aa hH (e.trans (f.trans (g.trans (i.trans (d.trans (z.trans aj)))))));refine A6 (0,0) (Sub.of rfl) ⟨a5,b,(u.mono a),(x.mono a),(y.mono a),h⟩
 rintro⟨ay,az⟩ d4 ⟨l,ao,dj,dk,dl,h⟩;refine A9 ?_;have bm:=l.rG H;refine Ai<|Ah (Af rfl AcP rfl Dd) rfl<|Ah (Ag 0 rfl AaA rfl l rfl) rfl<|A4 1 rfl<|Cf rfl h (fun cv h=>?_) (fun cv h=>?_)
 ·refine Ai<|Ah (A5 1 rfl AcP rfl AI l rfl) rfl<|Ah (A5 0 rfl AcP rfl AI l rfl) rfl<|Ah (WZ rfl rfl ID (Ld _ _ _ _)) rfl<|As 1 rfl<|Bl (s:=90) rfl (fun t=>?_) (fun t=>?_)
  ·have h:=Eo (of_decide_eq_true t) h;refine Ab rfl t<|Ah (Aj rfl) rfl<|Ab rfl t<|Ah (Bj rfl Abj (ao.mono bm)) rfl<|Ab rfl t<|Ah (Aj rfl) rfl<|Ah (AH rfl t rfl) rfl<|A4 1 rfl<|Ax<|Ay ?_
   cases h
   refine Am rfl ⟨l.ext,rfl⟩
  have h:=Ep (of_decide_eq_false t) h
  iterate 3 refine Ao rfl t rfl ?_
  refine Ah (AS rfl t rfl) rfl<|A4 1 rfl<|Ax<|Ay ?_
  cases h
  refine Am rfl ⟨l.ext,rfl⟩
 refine Au<|Ar<|Ai<|Ah (Af rfl AcP rfl Dd) rfl<|Ah (Ag 1 rfl AaA rfl l rfl) rfl<|As 2 rfl<|Bl (s:=98) rfl (fun c=>?_) (fun c=>?_)
 ·have h:=Eo (of_decide_eq_true c) h;refine Ab rfl c<|Ah (Aj rfl) rfl<|Ab rfl c<|Ah (Aj rfl) rfl<|Ab rfl c<|Ah (Aj rfl) rfl<|Ab rfl c<|AB h fun bn h=>Be rfl rfl Adk U0 ak a1.toNat (Hc bn) (Ba bn) rfl ?_;rintro et _ ⟨_,_,rfl,⟨e163v0,rfl,e163h0⟩,e163t1⟩ cw;obtain⟨_,_,rfl,rfl,⟨_,_,rfl,rfl,⟨_,_,rfl,⟨e163v3,rfl,e163h3⟩,⟨_,_,rfl,⟨e163v4,rfl,e163h4⟩,⟨e163v5,rfl,e163h5⟩⟩⟩⟩⟩:=Go.E.Rp.IA e163t1;refine Ab rfl c<|Ah (Af rfl Adm rfl Hv) rfl ?_;have cx:=cw.add 0;refine Ab rfl c<|Ah (Bu rfl Abj rfl cx (hH.trans l.arg)) rfl<|Ab rfl c<|Ah (Aj rfl) rfl<|Ab rfl c<|Ah (Aj rfl) rfl<|Ab rfl c<|AB h fun cy h=>Ts rfl rfl rfl Abj NK e163h0 cy rfl fun eu cz=>Ab rfl c<|Aq h fun ev c0 h=>A8 rfl rfl l (IY _ _ (Al hH l) (ao.mono bm) (cz.mono (Ae hH)) c0) fun ew d5 c1 dt=>Ah (AH rfl c rfl) rfl<|A4 1 rfl<|Ax ?_
  cases h
  refine Am rfl ⟨c1.ext,rfl⟩
 have h:=Ep (of_decide_eq_false c) h
 iterate 10 refine Ao rfl c rfl ?_
 refine Ah (AS rfl c rfl) rfl<|A4 1 rfl<|Ax ?_
 cases h
 refine Am rfl ⟨l.ext,rfl⟩
end Go.Proofs.YtekmbcbgknmhiaaGreatDoor
end
noncomputable section
namespace Go.Proofs.YtekmbcbgknmhiaaGreatDoor
open Go Go.L
theorem Abt(a:List UInt8):E2 a a=some true:=by
 unfold E2;simp
theorem YK{l:List (List UInt8×Pv)}(hn:l.length<=1048576)(hs:∀ d∈l,Sd d){it fr to:Int}{vis:List Bool}:F8 l it fr to vis=some true:=by
 obtain⟨⟨⟨⟨b,e⟩,⟨g,h⟩,ps⟩,f⟩,hb,hr⟩:=WC hs;unfold F8;rw [hb,Option.bind_some,WE];simp only [Option.bind_some,Bool.not_true,Bool.false_eq_true,if_false,if_true];simp only at hr
 rcases hr with ⟨i,j,ht,rfl⟩ | ⟨i,hl⟩
 ·rw [if_pos i];unfold ED;simp only;generalize hX:(l.map fun d=>idx d.1)=ps;have hpl:ps.length=l.length:=by rw [<- hX,List.length_map]
  have hI:BC ((b,e),(g,h),ps)=some (l.length:Int):=by
   unfold BC;simp only [hpl]
  by_cases c1:0<=it/\it<(l.length:Int)
  ·have hsh:BR ((b,e),(g,h),ps) it fr to vis=Cy ((b,e),(g,h),ps) it fr to vis false:=by
    unfold BR;rw [if_neg (by omega)];simp only;rw [hI,Option.bind_some,decide_eq_false (by omega)]
   have hil:it.toNat<l.length:=by omega
   have hgl:l.getD it.toNat default=l[it.toNat]:=by rw [List.getD_eq_getElem?_getD,List.getElem?_eq_getElem hil];rfl
   have hgp:ps.getD it.toNat default=idx l[it.toNat].1:=by
    rw [<- hX,List.getD_eq_getElem?_getD,List.getElem?_map,List.getElem?_eq_getElem hil]
    rfl
   have a:=ht _ (List.getElem_mem hil);unfold Cy at hsh;simp only [Bool.false_eq_true,if_false] at hsh;rw [hI,Option.bind_some] at hsh
   by_cases c2:vis.length=l.length
   ·rw [if_pos (by omega),Ak (by omega)] at hsh
    by_cases c3:vis.getD it.toNat default=true
    ·rw [c3] at hsh;simp only [Bool.not_true,Bool.false_eq_true,if_false] at hsh;unfold DN BI at hsh;simp only at hsh;rw [Ak (by omega),hgp] at hsh;have hlen:B3 ((idx l[it.toNat].1).1,(idx l[it.toNat].1).2.1,(idx l[it.toNat].1).2.2)=some (l[it.toNat].1.length:Int):=UC _ a;rw [hlen,Option.bind_some] at hsh
     by_cases c4:0<=fr/\fr<=(l[it.toNat].1.length:Int)
     ·rw [if_neg (by omega)] at hsh
      by_cases c5:fr<=to/\to<=(l[it.toNat].1.length:Int)
      ·have hex:C5 ((idx l[it.toNat].1).1,(idx l[it.toNat].1).2.1,(idx l[it.toNat].1).2.2) fr to=_:=UD _ a fr to;rw [if_neg (by omega),Ak (by omega),hex,Option.bind_some,if_pos c4,if_pos c5] at hsh;unfold Ec at hsh;simp only [Option.bind_some] at hsh;rw [hsh,Option.bind_some,Ak (by unfold C0;omega),if_pos (by omega),if_pos (by omega),Ak (by omega),c3];simp only [Bool.not_true,Bool.false_eq_true,if_false];rw [Ak (by omega),hgl,if_pos c4,Ak (by omega),if_pos c5];unfold Bz;rw [if_pos rfl,if_pos rfl,Ak (by omega),hgl,Ak (by omega),Abt]
       rfl
      ·rw [if_pos (by omega),Option.bind_some] at hsh;rw [hsh,Option.bind_some,Ak (by unfold C0;omega),if_pos (by omega),if_pos (by omega),Ak (by omega),c3];simp only [Bool.not_true,Bool.false_eq_true,if_false];rw [Ak (by omega),hgl,if_pos c4,Ak (by omega),if_neg c5]
       rfl
     ·rw [if_pos (by omega),Option.bind_some] at hsh;rw [hsh,Option.bind_some,Ak (by unfold C0;omega),if_pos (by omega),if_pos (by omega),Ak (by omega),c3];simp only [Bool.not_true,Bool.false_eq_true,if_false];rw [Ak (by omega),hgl,if_neg c4]
      rfl
    ·rw [Bool.not_eq_true] at c3;rw [c3] at hsh;simp only [Bool.not_false,if_true] at hsh;unfold BI at hsh;rw [Option.bind_some] at hsh;rw [hsh,Option.bind_some,Ak (by unfold C0;omega),if_pos (by omega),if_pos (by omega),Ak (by omega),c3]
     rfl
   ·rw [if_neg (by omega)] at hsh;unfold BI at hsh;rw [Option.bind_some] at hsh;rw [hsh,Option.bind_some,Ak (by unfold C0;omega),if_pos (by omega),if_neg (by omega)]
    rfl
  ·have hsh:BR ((b,e),(g,h),ps) it fr to vis=some ([],(4,-1)):=by
    unfold BR
    by_cases c:it<0
    ·rw [if_pos c]
     rfl
    ·rw [if_neg c];simp only;rw [hI,Option.bind_some,decide_eq_true (by omega)]
     rfl
   rw [hsh,Option.bind_some,Ak (by unfold C0;omega),if_neg (by omega)]
   rfl
 ·rw [if_neg i];have h2:ps=[]:=congrArg (fun x=>x.2.2) hl;subst h2
  rfl
end Go.Proofs.YtekmbcbgknmhiaaGreatDoor
end
noncomputable section
namespace Go.E
open Go Go.RowKit Go.ChangeShapes Go.WideShapes
section
variable {H:Type} {enc:TypeId×Value->H} {P:Program} {w:World} {base:Nat} {spare:Nat->Bool} {held:Bool}
theorem wf_u8{n:Int}(h:(Lit.int .u8 n).wf=true):0<=n/\n<=255:=by
 simpa [Lit.wf,IntKind.min,IntKind.max,IntKind.signed,IntKind.bits] using h
theorem wf_i64{n:Int}(h:(Lit.int .i64 n).wf=true): -9223372036854775808<=n/\n<=9223372036854775807:=by
 simpa [Lit.wf,IntKind.min,IntKind.max,IntKind.signed,IntKind.bits] using h
theorem N4(hl:laidOutB P=true){W W':World}(hb:Below W.heap.size W W'):∀ {ts:List TypeId} {vs:List Value} {ds:List (DataW H)} {ps:List MemPlace},(∀ t∈ts,P.readableRec t=true/\t<P.types.size)->
  DataW.TrodAll enc P W 0 (fun _=>true) true ts vs ds ps->(∀ x∈ps,x.block<W.heap.size)->DataW.TrodAll enc P W' 0 (fun b=>decide (b<W.heap.size)) true ts vs ds ps
 | [],[],[],ps,_,h,_=>h
 | t::ts,v::vs,d::ds,ps,ht,h,hlt=>by
  obtain⟨p,q,c,h2,rfl⟩:=h;have a:=ht t (.head _);exact⟨p,q,Below.trod hl a.1 a.2 c hb (fun x hx=>hlt x (List.mem_append.2 (.inl hx))),N4 hl hb (fun t' h'=>ht t' (.tail _ h')) h2 (fun x hx=>hlt x (List.mem_append.2 (.inr hx))),rfl⟩
 | [],[],_::_,_,_,h,_=>by cases h
 | [],_::_,_,_,_,h,_=>by cases h
 | _::_,[],_,_,_,h,_=>by cases h
 | _::_,_::_,[],_,_,h,_=>by cases h
end
end Go.E
namespace Go.E
open Go Go.RowKit Go.ChangeShapes Go.WideShapes Go.Deep
def Reads(P:Program)(t:TypeId){α:Type}(r:Rp α)(ok:α->Prop):Prop:=
 ∀
  {H:Type} {enc:TypeId×Value->H} {w:World} {base:Nat} {spare:Nat->Bool} {held:Bool} {fuel:Nat} {cs:List Value} {x:DataW H×List MemPlace},
  DataW.trod enc P w base spare held fuel t cs=some x->∃ a,r.rel (hp w) a cs/\ok a
section
variable {P:Program} {t e:TypeId}
theorem Sj(ht:P.underlying t=some (.int .i64)):Reads P t (.int .i64) (fun n=>Go.L.C0 n):=fun h=>by
 obtain⟨n,rfl,_,hw⟩:=DataW.trod_int ht h;exact⟨n,rfl,wf_i64 hw⟩
theorem Rl(ht:P.underlying t=some (.int .u8)):Reads P t .byte (fun _=>True):=fun h=>by
 obtain⟨n,rfl,_,hw⟩:=DataW.trod_int ht h;have hw':=wf_u8 hw;refine⟨Go.L.u8 n,?_,trivial⟩
 show[_]=[_]
 rw [Go.L.Qj,Int.emod_eq_of_lt (by omega) (by omega)]
theorem UT(ht:P.underlying t=some .bool):Reads P t .bool (fun _=>True):=fun h=>by
 obtain⟨n,rfl,_⟩:=DataW.trod_bool ht h;exact⟨n,rfl,trivial⟩
theorem Ul[Dr]{α:Type}{r:Rp α}{ok:α->Prop}(ht:P.underlying t=some (.slice e))(hc:P.cellsOf e=r.sz)(hsz:0<r.sz)(hr:Reads P e r ok):Reads P t (.vec r) (fun l=>l.length<=9223372036854775807/\∀ x∈l,ok x):=fun {H enc w base spare held fuel cs x} h=>by
 rcases open_slice ht h with ⟨rfl,_⟩ | ⟨a,len,cap,m,n,D,Pl,rfl,hb,hl,hm,rfl,_,hel⟩
 ·exact⟨[],⟨_,rfl,AA.nil _ _⟩,by simp,by simp⟩
 ·have q:len<=(if spare a.block then cap else len):=by split <;> omega
  have hx:∀ i,i<len->∃ y,ok y/\∃ c,r.rel (hp w) y c/\w.cells? base (a.add (i * r.sz)) r.sz=some c:=fun i hi=>by
   obtain⟨cs',f,h2⟩:=hel i (by omega);obtain⟨y,h3,b⟩:=hr h2;rw [hc] at f;exact⟨y,b,cs',h3,f⟩
  have key:∀ k,k<=len->∃ l:List α,l.length=k/\(∀ x∈l,ok x)/\∀ i y,l[i]? = some y->∃ c,r.rel (hp w) y c/\w.cells? base (a.add (i * r.sz)) r.sz=some c:=by
   intro k
   induction k with
   | zero=>intro _;exact⟨[],rfl,by simp,by simp⟩
   | succ k ih=>
    intro hk;obtain⟨l,f,h2,h3⟩:=ih (by omega);obtain⟨y,b,c,d,p⟩:=hx k (by omega);refine⟨l++[y],by simp [f],fun z hz=>?_,fun i z hz=>?_⟩
    ·rcases List.mem_append.1 hz with hz | hz
     ·exact h2 z hz
     ·simp at hz;subst hz;exact b
    ·rcases Nat.lt_or_ge i l.length with hi | hi
     ·rw [List.getElem?_append_left hi] at hz;exact h3 i z hz
     ·rw [List.getElem?_append_right hi] at hz
      have g:i - l.length=0:=by
       have:=(List.getElem?_eq_some_iff.1 hz).1;simp at this;omega
      rw [g] at hz;simp at hz;subst hz;obtain rfl:i=k:=by omega
      exact⟨c,d,p⟩
  obtain⟨l,f,h2,h3⟩:=key len (Nat.le_refl _);have hlm:len<=9223372036854775807:=by unfold maxLen at hm;omega
  refine⟨l,⟨_,rfl,some a,cap,by rw [f],by omega,hm,(fun h=>by cases h),fun A hA hne=>?_⟩,by omega,h2⟩
  cases hA
  have cell:∀ i y,l[i]? = some y->∃ c,r.rel (hp w) y c/\∀ j u,c[j]? = some u->w.cell? ((a.add (i * r.sz)).add j)=some u:=fun i y hy=>by
   obtain⟨c,b,d⟩:=h3 i y hy;obtain⟨_,hlen,hcell⟩:=World.cells?_some d;exact⟨c,b,fun j u hu=>by rw [<- hu];exact hcell j (by rw [<- hlen];exact(List.getElem?_eq_some_iff.1 hu).1)⟩
  have hspot:a.spot=none:=by
   obtain⟨y,l',rfl⟩:=List.exists_cons_of_ne_nil hne;obtain⟨c,b,d⟩:=cell 0 y rfl;have o:0<c.length:=by rw [r.len b];omega
   have:=World.cell?_spot (d 0 _ (List.getElem?_eq_getElem o))
   simpa [Addr.add] using this
  refine⟨hspot,fun i y hy=>?_⟩;obtain⟨c,b,d⟩:=cell i y hy;refine⟨c,b,fun j u hu=>?_⟩;rw [<- HH hspot];exact d j u hu
end
end Go.E
end
noncomputable section
namespace Go.Proofs.YtekmbcbgknmhiaaGreatDoor.Mh
open Go Go.E
theorem one_le{H:Type}(d:DataW H):1<=Rows.uptoBulk d:=by
 cases d with
 | lit l=>cases l <;> simp [Rows.uptoBulk]
 | nil=>simp [Rows.uptoBulk]
 | ptr d=>simp [Rows.uptoBulk]
 | slice elems spare=>simp [Rows.uptoBulk]
 | agg parts=>simp [Rows.uptoBulk]
 | iface t d=>simp [Rows.uptoBulk]
 | map entries=>simp [Rows.uptoBulk]
 | held h=>simp [Rows.uptoBulk]
theorem length_le{H:Type}(l:List (DataW H)):l.length<=Rows.uptoBulkAll l:=by
 induction l with
 | nil=>simp [Rows.uptoBulkAll]
 | cons x r ih=>have:=one_le x;simp only [Rows.uptoBulkAll,List.length_cons];omega
theorem bound{H:Type}{l:List (DataW H)}(hk:Rows.uptoSmall H l=true):Rows.uptoBulkAll l<=1048576:=of_decide_eq_true hk
theorem UU{H:Type}{enc:TypeId×Value->H}{P:Program}{w:World}{base:Nat}{spare:Nat->Bool}{held:Bool}{fuel:Nat}{t e:TypeId}{b:Option Addr}{len cap:Nat}{x:DataW H×List MemPlace}
  (ht:P.underlying t=some (.slice e)) (h:DataW.trod enc P w base spare held fuel t [.slice b len cap]=some x):len+1<=Rows.uptoBulk x.1:=by
 rcases Deep.open_slice ht h with ⟨c,rfl⟩ | ⟨a,len',cap',m,n,D,Pl,c,_,_,_,_,rfl,_⟩
 ·simp only [List.cons.injEq,Value.slice.injEq,and_true] at c;obtain⟨_,rfl,_⟩:=c;exact Nat.le_refl _
 ·simp only [List.cons.injEq,Value.slice.injEq,and_true] at c;obtain⟨_,rfl,_⟩:=c;have h2:=length_le ((List.range len).map D);rw [List.length_map,List.length_range] at h2;simp only [Rows.uptoBulk];omega
theorem Aan{α:Type}{r:Rp α}{H:PH}{b:Option Addr}{len cap:Nat}{l:List α}(h:AA r H (.slice b len cap) l):l.length=len:=by
 obtain⟨_,_,a,_⟩:=h.ex;simp only [Value.slice.injEq] at a;exact a.2.1.symm
end Go.Proofs.YtekmbcbgknmhiaaGreatDoor.Mh
namespace Go.Proofs.YtekmbcbgknmhiaaGreatDoor.Mh
open Go Go.E Go.RowKit Go.ChangeShapes Go.WideShapes Go.Deep Go.L
theorem SZ{H:Type}{l:List (DataW H)}{x:DataW H}(h:x∈l):Rows.uptoBulk x<=Rows.uptoBulkAll l:=by
 induction l with
 | nil=>cases h
 | cons y l ih=>
  simp only [Rows.uptoBulkAll]
  rcases List.mem_cons.1 h with rfl | h
  ·omega
  ·have:=ih h;omega
def RB(P:Program)(t:TypeId){α:Type}(r:Rp α)(ok:α->Prop)(k:Nat):Prop:=
 ∀
  {H:Type} {enc:TypeId×Value->H} {w:World} {base:Nat} {spare:Nat->Bool} {held:Bool} {fuel:Nat} {cs:List Value} {x:DataW H×List MemPlace},
  Rows.uptoBulk x.1<=k->DataW.trod enc P w base spare held fuel t cs=some x->∃ a,r.rel (hp w) a cs/\ok a
section
variable {P:Program} {t e:TypeId} {k:Nat}
theorem RB.use{α:Type}{r:Rp α}{ok:α->Prop}(h:RB P t r ok k){H:Type}{enc:TypeId×Value->H}{w:World}{base:Nat}{spare:Nat->Bool}{held:Bool}{fuel:Nat}{cs:List Value}{d:DataW H}{p:List MemPlace}
  (hk:Rows.uptoBulk d<=k) (hx:DataW.trod enc P w base spare held fuel t cs=some (d,p)):∃ a,r.rel (hp w) a cs/\ok a:=@h H enc w base spare held fuel cs (d,p) hk hx
theorem VO{α:Type}{r:Rp α}{ok:α->Prop}(h:Reads P t r ok):RB P t r ok k:=fun _ hx=>h hx
theorem Abu(ht:P.underlying t=some .string):RB P t .st (fun l=>l.length<=k) k:=fun hk h=>by
 obtain⟨s,rfl,rfl,hs⟩:=DataW.trod_string ht h;simp only [Rows.uptoBulk] at hk;exact⟨s.data.toList,by show[_]=[_];simp,by omega⟩
theorem MU{α:Type}{r:Rp α}{ok:α->Prop}(ht:P.underlying t=some (.slice e))(hc:P.cellsOf e=r.sz)(hsz:0<r.sz)(hr:RB P e r ok k):RB P t (.vec r) (fun l=>l.length<=k/\∀ x∈l,ok x) k:=fun {H enc w base spare held fuel cs x} hk h=>by
 rcases open_slice ht h with ⟨rfl,_⟩ | ⟨a,len,cap,m,n,D,Pl,rfl,hb,hl,hm,rfl,rfl,hel⟩
 ·exact⟨[],⟨_,rfl,AA.nil _ _⟩,by simp,by simp⟩
 ·have s:len<=(if spare a.block then cap else len):=by split <;> omega
  simp only [Rows.uptoBulk] at hk;have hlk:=length_le ((List.range len).map D);rw [List.length_map,List.length_range] at hlk
  have hx:∀ i,i<len->∃ y,ok y/\∃ c,r.rel (hp w) y c/\w.cells? base (a.add (i * r.sz)) r.sz=some c:=fun i hi=>by
   obtain⟨cs',g,h2⟩:=hel i (by omega);have hDi:=SZ (List.mem_map_of_mem (f:=D) (List.mem_range.2 hi));obtain⟨y,h3,b⟩:=hr (x:=(D i,Pl i)) (by show Rows.uptoBulk (D i)<=k;omega) h2;rw [hc] at g;exact⟨y,b,cs',h3,g⟩
  have key:∀ k,k<=len->∃ l:List α,l.length=k/\(∀ x∈l,ok x)/\∀ i y,l[i]? = some y->∃ c,r.rel (hp w) y c/\w.cells? base (a.add (i * r.sz)) r.sz=some c:=by
   intro k
   induction k with
   | zero=>intro _;exact⟨[],rfl,by simp,by simp⟩
   | succ k ih=>
    intro hk;obtain⟨l,g,h2,h3⟩:=ih (by omega);obtain⟨y,b,c,d,q⟩:=hx k (by omega);refine⟨l++[y],by simp [g],fun z hz=>?_,fun i z hz=>?_⟩
    ·rcases List.mem_append.1 hz with hz | hz
     ·exact h2 z hz
     ·simp at hz;subst hz;exact b
    ·rcases Nat.lt_or_ge i l.length with hi | hi
     ·rw [List.getElem?_append_left hi] at hz;exact h3 i z hz
     ·rw [List.getElem?_append_right hi] at hz
      have o:i - l.length=0:=by
       have:=(List.getElem?_eq_some_iff.1 hz).1;simp at this;omega
      rw [o] at hz;simp at hz;subst hz;obtain rfl:i=k:=by omega
      exact⟨c,d,q⟩
  obtain⟨l,g,h2,h3⟩:=key len (Nat.le_refl _);refine⟨l,⟨_,rfl,some a,cap,by rw [g],by omega,hm,(fun h=>by cases h),fun A hA hne=>?_⟩,by omega,h2⟩
  cases hA
  have cell:∀ i y,l[i]? = some y->∃ c,r.rel (hp w) y c/\∀ j u,c[j]? = some u->w.cell? ((a.add (i * r.sz)).add j)=some u:=fun i y hy=>by
   obtain⟨c,b,d⟩:=h3 i y hy;obtain⟨_,hlen,hcell⟩:=World.cells?_some d;exact⟨c,b,fun j u hu=>by rw [<- hu];exact hcell j (by rw [<- hlen];exact(List.getElem?_eq_some_iff.1 hu).1)⟩
  have hspot:a.spot=none:=by
   obtain⟨y,l',rfl⟩:=List.exists_cons_of_ne_nil hne;obtain⟨c,b,d⟩:=cell 0 y rfl;have p:0<c.length:=by rw [r.len b];omega
   have:=World.cell?_spot (d 0 _ (List.getElem?_eq_getElem p))
   simpa [Addr.add] using this
  refine⟨hspot,fun i y hy=>?_⟩;obtain⟨c,b,d⟩:=cell i y hy;refine⟨c,b,fun j u hu=>?_⟩;rw [<- HH hspot];exact d j u hu
end
end Go.Proofs.YtekmbcbgknmhiaaGreatDoor.Mh
end
noncomputable section
namespace Go.Proofs.YtekmbcbgknmhiaaGreatDoor.Mh
open Go Go.E Go.RowKit Go.ChangeShapes Go.WideShapes Go.Deep Go.L
section
variable {P:Program} {t e:TypeId} {k:Nat}
theorem Aao{f0 f1 f2 f3 f4:Field}{tb ts tp te:TypeId}(ht:P.underlying t=some (.struct #[f0,f1,f2,f3,f4]))(hc:P.cellsOf t=5)
  (b:f0.offset=0) (c:f1.offset=1) (e:f2.offset=2) (g:f3.offset=3) (j:f4.offset=4)
  (l:P.underlying f0.type=some (.int .i64)) (m:P.underlying f1.type=some (.int .i64)) (o:f2.type=tb) (q:f3.type=ts) (s:f4.type=tp)
  (u:P.cellsOf f0.type=1) (c1:P.cellsOf f1.type=1) (c2:P.cellsOf tb=1) (c3:P.cellsOf ts=1) (c4:P.cellsOf tp=1)
  (ub:P.underlying tb=some (.slice te)) (ue:P.underlying te=some (.int .u8)) (ce:P.cellsOf te=1) {tg:TypeId} (us:P.underlying ts=some (.slice tg)) (ug:P.underlying tg=some .string) (cg:P.cellsOf tg=1) (up:P.underlying tp=some (.slice t)) (B:Nat) (k:Nat) (hB:k<=B):RB P t .tree (fun v=>∀ d,Sm B d v) k:=by
 induction k with
 | zero=>
  intro H enc w base spare held fuel cs x hk h;have:=one_le x.1;omega
 | succ k ih0=>
  intro H enc w base spare held fuel cs x hk h;subst o;subst q;subst s;obtain⟨xs,n,rfl,rfl,hl,hlen,hfs⟩:=DataW.trod_struct ht h;have ih:RB P t .tree (fun v=>∀ d,Sm B d v) k:=@ih0 (by omega);simp only [Rows.uptoBulk] at hk
  have hb:∀ y∈xs,Rows.uptoBulk y.1<=k:=fun y hy=>by
   have:=SZ (List.mem_map_of_mem (f:=fun z:DataW H×List MemPlace=>z.1) hy);omega
  have an:xs.length=5:=by simpa using hlen
  have get:∀ (i:Nat) (f:Field),(#[f0,f1,f2,f3,f4]:Array Field)[i]? = some f->i<5->P.cellsOf f.type=1->f.offset=i->∃ y:DataW H×List MemPlace,Rows.uptoBulk y.1<=k/\DataW.trod enc P w base spare held n f.type ((cs.drop i).take 1)=some y:=fun i f hf hi hcf hof=>by
   have a:=hfs i f hf;rw [hcf,hof,List.getElem?_eq_getElem (by omega:i<xs.length)] at a;exact⟨_,hb _ (List.getElem_mem _),a⟩
  obtain⟨y0,b0,t0⟩:=get 0 f0 rfl (by omega) u b;obtain⟨y1,b1,t1⟩:=get 1 f1 rfl (by omega) c1 c;obtain⟨y2,b2,t2⟩:=get 2 f2 rfl (by omega) c2 e;obtain⟨y3,b3,t3⟩:=get 3 f3 rfl (by omega) c3 g;obtain⟨y4,b4,t4⟩:=get 4 f4 rfl (by omega) c4 j;obtain⟨a0,r0,q0⟩:=VO (k:=k) (Sj l) b0 t0;obtain⟨a1,r1,q1⟩:=VO (k:=k) (Sj m) b1 t1;obtain⟨a2,r2,q2,_⟩:=MU ub ce (by decide) (VO (k:=k) (Rl ue)) b2 t2;obtain⟨a3,r3,q3,q3'⟩:=MU us cg (by decide) (Abu (k:=k) ug) b3 t3;obtain⟨a4,r4,q4,q4'⟩:=MU up (r:=.tree) hc (by decide) ih b4 t4;refine⟨.mk a0 a1 a2 a3 a4,Rp.Dt ?_,fun d=>?_⟩
  ·have hcs:cs=(cs.drop 0).take 1++((cs.drop 1).take 1++((cs.drop 2).take 1++((cs.drop 3).take 1++(cs.drop 4).take 1))):=by
    have h5:cs.length=5:=by rw [hl,hc]
    match cs,h5 with
    | [_,_,_,_,_],_=>rfl
   exact⟨_,_,hcs,r0,_,_,rfl,r1,_,_,rfl,r2,_,_,rfl,r3,r4⟩
  ·cases d with
   | zero=>exact trivial
   | succ d=>exact⟨by show a2.length<=B;omega,by show a3.length<=B;omega,by show a4.length<=B;omega,fun x hx=>by have:=q3' x hx;omega,q0,q1,fun p hp=>q4' p hp d⟩
theorem Abv{f0 f1:Field}{tb tv te:TypeId}{ok:Pv->Prop}(ht:P.underlying t=some (.struct #[f0,f1]))(hc:P.cellsOf t=6)(c:f0.offset=0)(e:f1.offset=1)(g:f0.type=tb)(i:f1.type=tv)(j:P.cellsOf tb=1)(c1:P.cellsOf tv=5)
  (ub:P.underlying tb=some (.slice te)) (ue:P.underlying te=some (.int .u8)) (ce:P.cellsOf te=1) (hv:RB P tv .tree ok k):RB P t (.pair (.vec .byte) .tree) (fun d=>d.1.length<=k/\ok d.2) k:=fun {H enc w base spare held fuel cs x} hk h=>by
 subst g;subst i;obtain⟨xs,n,rfl,rfl,hl,hlen,hfs⟩:=DataW.trod_struct ht h;simp only [Rows.uptoBulk] at hk
 have hb:∀ y∈xs,Rows.uptoBulk y.1<=k:=fun y hy=>by
  have:=SZ (List.mem_map_of_mem (f:=fun z:DataW H×List MemPlace=>z.1) hy);omega
 have p:xs.length=2:=by simpa using hlen
 have a:=hfs 0 f0 rfl;have b:=hfs 1 f1 rfl;rw [j,c,List.getElem?_eq_getElem (by omega:0<xs.length)] at a;rw [c1,e,List.getElem?_eq_getElem (by omega:1<xs.length)] at b;obtain⟨a0,r0,l,_⟩:=MU ub ce (by decide) (VO (k:=k) (Rl ue)) (hb _ (List.getElem_mem _)) a;obtain⟨a1,r1,m⟩:=hv (hb _ (List.getElem_mem _)) b;refine⟨(a0,a1),⟨(cs.drop 0).take 1,(cs.drop 1).take 5,?_,r0,r1⟩,l,m⟩;have o:cs.length=6:=by rw [hl,hc]
 match cs,o with
 | [_,_,_,_,_,_],_=>rfl
end
end Go.Proofs.YtekmbcbgknmhiaaGreatDoor.Mh
end
noncomputable section
namespace Go.Proofs.YtekmbcbgknmhiaaGreatDoor
open Go Go.E Go.Shelf Go.Lib
def Aci:Ren:=⟨fun n=>n,fun | 119=>349 | 138=>351 | 139=>352 | n=>n,fun | 3=>4 | 4=>5 | n=>n⟩
theorem Aap:U8Types Tryz.prog Aci:=⟨Tryz.underlying5,Tryz.underlying349,Tryz.underlying351,Tryz.underlying352⟩
def VP : List (String × DataW Unit) := [("math/bits.deBruijn32tab", Rows.laid_math_bits_deBruijn32tab), ("math/bits.deBruijn64tab", Rows.laid_math_bits_deBruijn64tab), ("internal/strconv.uint64pow10", Rows.laid_internal_strconv_uint64pow10), ("unicode/utf8.acceptRanges", Rows.laid_unicode_utf8_acceptRanges), ("strconv.ErrRange", Rows.laid_strconv_ErrRange), ("strconv.ErrSyntax", Rows.laid_strconv_ErrSyntax), ("unicode/utf8.first", Rows.laid_unicode_utf8_first)]
theorem star : "*" ++ "errors.errorString" = "*errors.errorString" := by decide
theorem YL (u : TypeId) (h : Tryz.prog.typeName? 3 u = some "*errors.errorString") : u = 364 :=
 typeName_ptr_named (nm := "errors.errorString") (by rw [star]; kernel_rfl) (by kernel_rfl) (by decide) u (by rw [star]; exact h)
theorem Abw{W w:World}{n:String}{cs:Array Value}(hs:Le (hp W) (hp w))(h:W.var? Tryz.prog n=some cs):w.var? Tryz.prog n=some cs:=by
 unfold World.var? at h ⊢
 cases hg:Tryz.prog.globalNamed n with
 | none=>rw [hg] at h;cases h
 | some g=>
  rw [hg] at h;simp only [Option.bind_some] at h ⊢
  cases ho:W.heap[g]? with
  | none=>rw [ho] at h;cases h
  | some o=>rw [ho] at h;rw [show w.heap[g]? = some o from hs g o ho];exact h
theorem Pw{W:World}{n:String}{g:Nat}{v:Value}(hg:Tryz.prog.globalNamed n=some g)(h:W.var? Tryz.prog n=some #[v]):Gp (hp W) ⟨g,0,none⟩=some v:=by
 rw [Te,World.var?_cell hg h 0]
 rfl
theorem Ta{W:World}(h:laidMetH Tryz.prog VP W):EE (hp W):=by
 rw [MakeChecks.laidMetH_plain _ _ _ (by kernel_rfl)] at h;have i:Rows.laid_unicode_utf8_first=firstData:=by kernel_rfl
 have j:(Rows.laid_unicode_utf8_acceptRanges:DataW Unit)=acceptData:=by kernel_rfl
 have k:(Rows.laid_internal_strconv_uint64pow10:DataW Unit)=tabData .u64 pow10Tab:=by kernel_rfl
 have b := laidMet.reads h (n := "unicode/utf8.acceptRanges") (d := Rows.laid_unicode_utf8_acceptRanges) (by simp [VP])
 have h2 := laidMet.reads h (n := "unicode/utf8.first") (d := Rows.laid_unicode_utf8_first) (by simp [VP])
 rw [j] at b;rw [i] at h2;have ht := utf8Tabs_of_readsT Aap ⟨by kernel_rfl, by kernel_rfl, by kernel_rfl, by kernel_rfl, by kernel_rfl, by kernel_rfl, by kernel_rfl⟩ h2 b;have hT : laidMet Tryz.prog (("internal/strconv.uint64pow10", tabData .u64 pow10Tab) :: _) W := k ▸ h.tail.tail
 have a : TabIs Tryz.prog W "internal/strconv.uint64pow10" .u64 pow10Tab := tabIs_of_head (g := 1) (t := 305) (e := 205) (n := 20) (by kernel_rfl) (by kernel_rfl) Tryz.underlying305 Tryz.underlying205 (by kernel_rfl) (by kernel_rfl) hT
 obtain⟨a1,l,c,_⟩:=laid_sentinel (g:=3) h.tail.tail.tail.tail (by kernel_rfl) (by kernel_rfl) Tryz.underlying167 YL Tryz.underlying364 Tryz.underlying366 rfl rfl Tryz.underlying9 (by kernel_rfl) (by kernel_rfl);obtain⟨a2,m,f,_⟩:=laid_sentinel (g:=2) h.tail.tail.tail.tail.tail (by kernel_rfl) (by kernel_rfl) Tryz.underlying167 YL Tryz.underlying364 Tryz.underlying366 rfl rfl Tryz.underlying9 (by kernel_rfl) (by kernel_rfl);exact⟨⟨ht.1,ht.2⟩,fun w hw=>Abw hw a,⟨_,_,Pw (by kernel_rfl) f⟩,⟨_,_,Pw (by kernel_rfl) c⟩⟩
def Pd(os:Os):World:=
 let N:=(World.settled Tryz.prog os).heap.size
 let a:=World.holding Tryz.prog os ⟨#[.cells #[.string ⟨#[118,97,108,117,101,32,111,117,116,32,111,102,32,114,97,110,103,101]⟩] 366,.cells #[.string ⟨#[105,110,118,97,108,105,100,32,115,121,110,116,97,120]⟩] 366],#[],[]⟩
 let put (h:Array Obj) (g:Nat) (cs:Array Value):Array Obj:=h.modify g fun
  | .cells _ t frozen=>.cells cs t frozen
  | o=>o
 let b:=put (put a.heap 3 #[.iface 364 (.pointer (some ⟨N,0,none⟩))]) 2 #[.iface 364 (.pointer (some ⟨N+1,0,none⟩))]
 let c:=put (put b 4 (Lib.firstTab.map fun z=>Value.int .u8 z).toArray) 5 ((List.range 16).flatMap fun i=>[Value.int .u8 (Lib.accLo i),Value.int .u8 (Lib.accHi i)]).toArray
 let h2:=put c 1 (pow10Tab.map (Value.int .u64)).toArray
 let nums (d:DataW Unit):Array Value:=match d with
  | .agg l=>(l.map fun | .lit (.int k z)=>Value.int k z | _=>.int .u8 0).toArray
  | _=>#[]
 let h3:=put (put h2 6 (nums Rows.laid_math_bits_deBruijn32tab)) 7 (nums Rows.laid_math_bits_deBruijn64tab)
 {a with heap:=h3}
set_option maxRecDepth 100000 in
theorem YM(os:Os)(args:Array Value):laidMetH Tryz.prog VP ((Pd os).forCall (fun _ _=>0) ⟨#[],args,[]⟩).memory:=
 laidMetH_of_parts3 (fuel:=12) (laidMet_of_run' 12 (by kernel_rfl) (by kernel_rfl)) (by kernel_rfl) (by kernel_rfl)
end Go.Proofs.YtekmbcbgknmhiaaGreatDoor
end
