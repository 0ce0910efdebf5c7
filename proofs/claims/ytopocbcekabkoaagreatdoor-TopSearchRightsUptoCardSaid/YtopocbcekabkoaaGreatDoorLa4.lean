/- Texts of a claim, merged. -/
import Derived.Test.YtopocbcekabkoaaGreatDoorLa3
import Derived.KernelRfl
open _root_.Go.Proofs.Tryz renaming underlying33→Aco,underlying125→Ads,underlying27→Ae1,underlying35→Ae3,underlying26→Ae5,underlying90→Ae7,underlying120→Afi,underlying177→AiB,underlying41→AiE,underlying43→AiW,underlying30→AjR,underlying164→Ajf,underlying38→Ajg,underlying40→Ajm,underlying118→Ajn
open Option renaming bind->Qq9,map->Qzx
open Prod renaming fst->Qzz
open List renaming length_map->Qza,map_cons->QzA,mem_map_of_mem->QkE,size_toArray->Qjy
open Nat renaming le_refl->Qzu
set_option linter.unusedVariables false
set_option linter.unusedSimpArgs false
set_option linter.unusedSectionVars false
noncomputable section
namespace Go
abbrev AlF:=Go.E.Rp.pair Go.E.Rp.st (Go.E.Rp.pair (Go.E.Rp.int .i64) (Go.E.Rp.pair (Go.E.Rp.int .i64) Go.E.Rp.st))
end Go
namespace Go.Proofs.YtopocbcekabkoaaGreatDoor
open Go Go.E Go.RowKit Go.L
set_option maxHeartbeats 1000000
set_option maxRecDepth 10000
open _root_.Go.Proofs.Tryz
def Ic(a0:Int×Alz):Option Abv:=
 Qq9 (Df a0.1) (fun a=>Qq9 (OM a0.2) (fun b=>AU (Go.E.Fz 1 (a.length+b.length)) (some ((a++b)))))
section
variable(w:World)(H:PH)(hH:Le H (hp w)) include hH
theorem QU{a0:Int×Alz}{c:Value}(ac:AS Al9 H c (a0.2)){r:Abv}(h:Ic a0=some r):
  Qqv 92 [.agg #[No a0.1,c]] w (fun v w'=>∃u0,v=u0/\Cd 5 .byte H w w' u0 r):=by
 refine A4 10 [(0,.agg #[No a0.1,c])] func92 Z fun hL=>Ao<|BM (t:=43) Z Z hL fun w1 b1 aj ap _=>AA 1 Z<|BZ (.q 0 (.q 1 (.q 3 (.q 4 (.h 2 (.h 5 (.tail 6))))))) mixed Qqb (fun w2 ak=>?_);have e:=aj.call ak;refine B2 Z (Ae Z AiW Z BB.e) Z<|B2 Z (Af 0 Z e Z) Z<|B2 Z (Ae Z AiW Z AbG.e) Z<|B2 Z (Af 0 Z e Z) Z<|A1 h fun x4 al h=>BC Z Z Z (fun w6 j=>BT _ _ (Av (e.call j)) al) ?_;rintro w6 au w5 j k ⟨_,rfl,y⟩;have o:=e.call j;have f:=o.call k;have ad:=AH o k;obtain⟨ay,f,ad,p⟩:=y.take hH o k;refine A1 h fun x8 am h=>BC Z Z Z (fun an a=>WQ _ _ (Av (f.call a)) (ac.mono  Aj) am) ?_;rintro an aw w9 a s ⟨_,rfl,z⟩;have d:=f.call a;have aa:=AH f a;have ab:=d.call s;have ae:=AH d s;have b:=z.Cu hH d s;refine Bt (fun az u=>?_);have af:=ab.call u;have g:=AH ab u;refine Ax h fun ag h=>?_;have p:=p.mono (Ab (aa.trans (ae.trans g)));have b:=b.mono (Ab g)
 refine Bp (r:=.byte) 0 x4 x8 Z Ae1 af Z p b ag fun a1 a2 ax x ao ah=>AA 1 Z<|Aw ?_
 cases h
 refine Ah Z ⟨x.ext,_,Z,(x.FV hH (i:=0) Z ah)⟩
def KD(a0:Int)(b:Alz):Option ((Int×Alz)×Qq7):=
 Qq9 (Ic (a0,b)) (fun c=>if 16384<(c.length:Int)then Qq9 (DK (14:Int) (-1:Int)) (fun a=>some ((0,[]),(a.1,a.2)))else some ((a0,b),(0,0)))
def JN(a0:Int)(a1:Alz)(b:(List Alu)):Alz×Int->Option ((Alz×Int)⊕((Int×Alz)×Qq7)):=fun⟨d,a⟩=>
 if a<(b.length:Int)then AU (0<=a/\a<(b.length:Int)) (Qq9 (Ju (BF [] ((b.getD a.toNat Qq2).1,(b.getD a.toNat Qq2).2.1,(b.getD a.toNat Qq2).2.2.1,(b.getD a.toNat Qq2).2.2.2) a1)) (fun c=>AU (c.length<4611686018427387904) (AU ((ML c).length<=9223372036854775807) (AU (Go.E.Fz 72 (d.length+([(((b.getD a.toNat Qq2).1,(b.getD a.toNat Qq2).2.1,(b.getD a.toNat Qq2).2.2.1,(b.getD a.toNat Qq2).2.2.2),(Lib.compact (ML c)))]).length)) (AU (Bq (a+1)) (some (Sum.inl ((d++[(((b.getD a.toNat Qq2).1,(b.getD a.toNat Qq2).2.1,(b.getD a.toNat Qq2).2.2.1,(b.getD a.toNat Qq2).2.2.2),(Lib.compact (ML c)))]),(a+1)))))))))else Qzx Sum.inr ((KD a0) d)
def QI(a0:Int)(a1:Alz)(a:(List Alu))(s:Alz×Int):Option ((Int×Alz)×Qq7):=Go.L.run (JN a0 a1 a) s
def Ie(a0:Int)(a1:Alz):Option ((Int×Alz)×Qq7):=
 Qq9 (Si a1) (fun a=>(QI a0 a1 a) (([]:Alz),0))
theorem VB{a0:Int}{a1:Alz}{ag:Value}(a9:XH KU (.vec (.int .i64)) H ag a1){r:(Int×Alz)×Qq7}(h:Ie a0 a1=some r):
  Qqv 51 [No a0,ag] w (fun v w'=>∃u0,v=.tuple #[.agg #[No r.1.1,u0],.agg #[No r.2.1,No r.2.2]]/\Cd 177 Al9 H w w' u0 (r.1.2)):=by
 refine A4 43 [(0,No a0),(1,ag)] func51 Z fun hL=>Ao<|AO Md.e Z hL fun w1 b1 cn c0 _=>AO AI.e Z cn fun w2 b2 co c1 _=>Ad<|Bo 1 Z<|Ag (Ba (fun _=>AhC _ _))<|AO Md.e Z co fun w3 b3 cp c2 _=>Ak 0 Z cp Z fun w4 ba c3=>Ad<|Bb (Alz×Value×Qq6) (fun⟨af,ah,ab⟩=>[(4,(Abo b1)),(5,(Abo b2)),(6,(Abo b3))]) (fun⟨af,ah,ab⟩ wr=>C5 w [.row ah 177 5 (af).length ab,.box b3 [No a0,ah] 43,.box b2 [No 0,No 0] 35,.box b1 [No 0,Aal] 43] wr fun Oz=>AK Al9 (gz H w wr Oz) af ab/\(KD a0) af=some r) ?_ ?_
 ·refine Bo 1 Z<|A1 h fun b ci h=>Br ba (AbQ _ _ (Av ba) (a9.mono  Aj) ci) ?_;rintro aw du ⟨_,rfl,bb⟩ cj ck cu;have t:=bb.Cu hH ba cj;refine Ag (AZ t)<|AA 1 Z<|A2 ?_;obtain⟨bm,bc,bn⟩:=Cp Al9 H 177 ck;obtain⟨av,h⟩:=AR h;have t:=t.mono (Ab bc)
  refine Bj (Alz×Int×Value×Qq6×Nat) (fun⟨g,a,d,e,n⟩=>[(1,ag),(4,(Abo b1)),(5,(Abo b2)),(6,(Abo b3)),(13,aw),(14,No (b.length:Int)),(15,No a)]) (fun⟨g,a,d,e,n⟩ wr=>C5 w [.row d 177 5 (g).length e,.box b3 [No a0,d] 43,.box b2 [No 0,No 0] 35,.box b1 [No 0,Aal] 43] wr fun Oz=>AS AlF (gz H w wr Oz) aw b/\AK Al9 (gz H w wr Oz) g e/\DR (JN a0 a1 b) n (g,a)=some r) (fun⟨g,a,d,e,n⟩=>n) (([]:Alz),0,Aal,[],av) Z ⟨bm,t,bn,h⟩ ?_;rintro⟨g,a,d,e,nn107⟩ cv ⟨ai,p,u,h⟩;obtain⟨av,c4,rfl,h,ax⟩:=AQ h;refine A7 1 Z<|A6<|AL h ?_ ?_<;>intro bo h
  ·refine Au<|Aq<|A6<|A2<|Ao<|Ax h fun ay h=>AW p a.toNat (Cx ay) (AM ay) ?_;rintro c6 _ ⟨_,_,rfl,rfl,⟨_,_,rfl,rfl,⟨_,_,rfl,rfl,rfl⟩⟩⟩ bp;refine Ag (BI bp (Av ai))<|AO Jl.e Z ai fun c7 bd bq ap _=>Ak 0 Z bq Z fun c8 x aq=>Ad<|Bo 1 Z<|Ag (AJ 0 Z Jl.e x Z)<|AcQ (k:=((b.getD a.toNat Qq2).1,(b.getD a.toNat Qq2).2.1,(b.getD a.toNat Qq2).2.2.1,(b.getD a.toNat Qq2).2.2.2)) Af2 zeroValue33 a9 (hH.trans x.arg) fun c9 br=>A1 h fun aj bs h=>Br x (P7 _ _ (Av x) (br.mono  Aj) bs) ?_;rintro be da ⟨_,rfl,a6⟩ bt ak ae;obtain⟨cw,ak,ae,bu⟩:=a6.take hH x bt;refine AA 1 Z ?_;have y:=ak.rG H;refine Bo 1 Z<|Ax h fun bv h=>VT (i:=0) Tryz.Ac4 ⟨Tryz.f90,_,func90,Z,Z⟩ Z hH ak Z (bu.mono y) bv fun db bw az bf al=>Ad ?_
   refine KX (I3 (Ww (T1 (I3 (PY OF))))) (fun z0 z=>Le (gz H w z0 [.row be 3 1 ((ML aj)).length bw,.box bd [.string ⟨((b.getD a.toNat Qq2).1).toArray⟩,No ((b.getD a.toNat Qq2).2.1),No ((b.getD a.toNat Qq2).2.2.1),.string ⟨((b.getD a.toNat Qq2).2.2.2).toArray⟩] 125,.row d 177 5 (g).length e,.box b3 [No a0,d] 43,.box b2 [No 0,No 0] 35,.box b1 [No 0,Aal] 43]) (hp z)/\z.heap[bd]? = some (.cells [.string ⟨((b.getD a.toNat Qq2).1).toArray⟩,No ((b.getD a.toNat Qq2).2.1),No ((b.getD a.toNat Qq2).2.2.1),.string ⟨((b.getD a.toNat Qq2).2.2.2).toArray⟩].toArray 125 (0,0))/\z.heap[b3]? = some (.cells [No a0,d].toArray 43 (0,0))/\z.heap[b2]? = some (.cells [No 0,No 0].toArray 35 (0,0))/\z.heap[b1]? = some (.cells [No 0,Aal].toArray 43 (0,0))) mixed Z (fun q dd a2=>?_);have j:=az.call a2;have ar:=AH az a2;have c:=j.rG H;refine OG ⟨c.trans (Av j),j.at (i:=1) Z,j.at (i:=3) Z,j.at (i:=4) Z,j.at (i:=5) Z⟩ fun kI125=>Bn 0 q kI125 Z (fun _ _=>Ae Z AiW Z AbG.e) Z ?_
   refine Bn 1 q kI125 Z (fun _ hI=>Km Z hI.2.2.1 Z) Z<|Bn 2 q kI125 Z (fun _ hI=>Rr hI.2.1) Z<|Bn 3 q kI125 Z (fun _ _=>Ai Z) Z<|Fg 4 Z<|Ax h fun bx h=>?_;have al:=al.mono (Ab ar);refine VU (i:=0) Tryz.Ac5 ⟨Tryz.f91,_,func91,Z,Z⟩ Z hH j Z (al.mono c) bx ?_;intro de df cx f bg bz;have c:=c.trans (Ab bg);refine Be ⟨c.trans (Av f),f.at (i:=1) Z,f.at (i:=3) Z,f.at (i:=4) Z,f.at (i:=5) Z⟩ fun kI128=>Bn 5 q kI128 Z (fun _ _=>Ba (fun _=>AbJ _ _ _ _ _ (row_one (f.at (i:=0) Z)) _)) Z<|Fg 6 Z ?_;have b0:=f.Cu hH (i:=0) Z bz;have b4:=f.Bl (i:=0) Z
   refine Bx [(((b.getD a.toNat Qq2).1,(b.getD a.toNat Qq2).2.1,(b.getD a.toNat Qq2).2.2.1,(b.getD a.toNat Qq2).2.2.2),(Lib.compact (ML aj)))] (r:=Al9) (fun _=>AhK _ _ _ _ _ _) b4 (.c5 ⟨_,_,Z,⟨_,_,Z,Z,⟨_,_,Z,Z,⟨_,_,Z,Z,Z⟩⟩⟩,⟨_,Z,b0⟩⟩ .nil) ?_;intro dg dh cy s bh b5;have c:=c.trans (Ab ((AB (i:=0) Z).trans bh));refine Be ⟨c.trans (Av s),s.at (i:=0) Z,s.at (i:=2) Z,s.at (i:=3) Z,s.at (i:=4) Z⟩ fun kI131=>Fg 7 Z<|Ax h fun b6 h=>?_;have u:=u.mono (Ab (ap.trans (aq.trans ae)));have y:=y.trans (Ab (bf.trans ar));refine Bp (r:=Al9) 1 g [(((b.getD a.toNat Qq2).1,(b.getD a.toNat Qq2).2.1,(b.getD a.toNat Qq2).2.2.1,(b.getD a.toNat Qq2).2.2.2),(Lib.compact (ML aj)))] Z AiE s Z ((u.mono y).mono c) b5 b6 ?_;intro cl di b7 o bi am;have c:=c.trans (Ab bi)
   refine Be ⟨c.trans (Av o),o.at (i:=0) Z,o.at (i:=2) Z,o.at (i:=3) Z,o.at (i:=4) Z⟩ fun kI134=>Bn 8 q kI134 Z (fun _ _=>Ae Z AiW Z AbG.e) Z<|Fg 9 Z<|BE 2 Z (row_one (o.at (i:=1) Z)) o Z Z fun dj b8 au=>F0<|FW<|Az<|Aq<|An<|Ax h fun b9 h=>Ag (Ay b9)<|As 1 Z<|AE ?_;have ca:=b8.Bl (i:=0) Z;have h:=Bw.again h ax;have p:=p.mono (Ab (ap.trans (aq.trans ae)));have am:=am.mono (Ab (au.trans (AB (i:=0) Z)));have c:=c.trans (Ab (au.trans (AB (i:=0) Z)));refine AD (_,_,_,_,_) Z ⟨ca,((p.mono y).mono c),am,h⟩
  refine Bf<|A5<|A3 ?_;have h:=Bw.out h ax;refine AY<|A8 (_,_,_) ⟨ai,u,h⟩
 rintro⟨af,ah,ab⟩ dk ⟨an,ac,h⟩;refine A6<|Ao<|Ag (AJ 1 Z Md.e an Z)<|A1 h fun dl cb h=>Br an (QU (a0:=(a0,af)) _ _ (Le.refl _) (an.MZ hH (i:=0) Z ac) cb) ?_;rintro cq dm ⟨_,rfl,a7⟩ cc aa bj;have a8:=(a7.YT Ab5).Cu hH an cc;refine Ag (AZ a8)<|AA 1 Z<|AL h ?_ ?_<;>intro cd h
 ·refine Ao<|Ag (Ba (fun _=>Za _))<|A1 h fun dn ce h=>A9 aa (FF _ _ (Av aa) ce) fun dp cz cf cr=>Ak 3 Z cf Z fun dq cg cs=>Ak 2 Z cg Z fun dr ao ct=>Ad<|Aw<|Am ?_
  cases h
  refine Bv (.cell Z AiW Z Md.e (AP (i:=3) ao Z)) (.cell Z Ae3 Z AI.e (AP (i:=2) ao Z)) ⟨ao.ext,_,Z,Cd.nil⟩
 refine Au<|Aq<|Ao<|Ag (AJ 1 Z Md.e aa Z)<|Ag (Ba (fun _=>B8 _))<|Ak 3 Z aa Z (a:=(CB Z (CB (row_one (aa.at (i:=0) Z)) Ps))) fun ds ch bk=>Ak 2 Z ch Z fun dt ad bl=>Ad<|Aw ?_
 cases h
 refine Bv (.cell Z AiW Z Md.e (AP (i:=3) ad Z)) (.cell Z Ae3 Z AI.e (AP (i:=2) ad Z)) ?_;have ac:=ac.mono (Ab (bj.trans (bk.trans bl)));exact⟨ad.ext,_,Z,(ad.FV hH (i:=0) Z ac)⟩
def Nh(a0:List Pv)(b:Alz):Option ((Int×Alz)×Qq7):=
 Qq9 (Ie (a0.length:Int) b) (fun a=>some ((a.1.1,a.1.2),(a.2.1,a.2.2)))
def Ds(a0:List Pv):Alz×Int->Option ((Alz×Int)⊕((Int×Alz)×Qq7)):=fun⟨d,a⟩=>
 if a<(a0.length:Int)then AU (0<=a/\a<(a0.length:Int)) (Qq9 (CG (a0.getD a.toNat Qq2)) (fun b=>if b.1=0/\b.2=0 then Qq9 (M0 (Mh a) (a0.getD a.toNat Qq2) ([]:List Abv) d) (fun e=>AU (Bq (a+1)) (some (Sum.inl (e,(a+1)))))else Qq9 (DK b.1 a) (fun c=>Qzx Sum.inr (some ((0,[]),(c.1,c.2))))))else Qzx Sum.inr ((Nh a0) d)
def QJ(a0:List Pv)(s:Alz×Int):Option ((Int×Alz)×Qq7):=Go.L.run (Ds a0) s
def Lu(a0:List Pv):Option ((Int×Alz)×Qq7):=
 if 64<(a0.length:Int)then Qq9 (DK (2:Int) (-1:Int)) (fun a=>some ((0,[]),(a.1,a.2)))else(QJ a0) (([]:Alz),0)
theorem VC{a0:List Pv}{j:Value}(p:AS .tree H j a0){r:(Int×Alz)×Qq7}(h:Lu a0=some r):
  Qqv 21 [j] w (fun v w'=>∃u0,v=.tuple #[.agg #[No r.1.1,u0],.agg #[No r.2.1,No r.2.2]]/\AS Al9 (un H (nw w w')) u0 (r.1.2)):=by
 refine A4 41 [(0,j)] func21 Z fun hL=>Ao<|AO Md.e Z hL fun w1 x bp cg _=>AO AI.e Z bp fun w2 y ag ch _=>Ad<|A6<|Bo 1 Z<|Ag (AZ p)<|AA 1 Z<|AL h ?_ ?_<;>intro bq h
 ·refine Ao<|Ag (Ba (fun _=>Za _))<|A1 h fun x5 br h=>A9 ag (FF _ _ (Av ag) br) fun w6 c3 bs ci=>Ak 1 Z bs Z fun w7 bt cj=>Ak 0 Z bt Z fun w8 ah ck=>Ad<|Aw<|Am ?_
  cases h
  refine Bv (.cell Z AiW Z Md.e (AP (i:=1) ah Z)) (.cell Z Ae3 Z AI.e (AP (i:=0) ah Z)) ⟨ah.ext,_,Z,(AS.nil _ _)⟩
 refine Au<|Aq<|Ao<|U2 KU Qq5 ag fun c4 g bk cb=>AO Aja.e Z bk fun c5 o bl cc _=>BE 0 Z Z bl Z Z fun c6 bm cd=>Ad<|Bb (Alz×Qq6) (fun⟨m,vsl68⟩=>[(0,j),(2,(Abo x)),(3,(Abo y)),(4,(Abo o))]) (fun⟨m,vsl68⟩ wr=>C5 w (Ha [.box o [.map (some g)] 122,QE KU g m vsl68,.box y [No 0,No 0] 35,.box x [No 0,Aal] 43] (mT cwI 3 1 m vsl68)) wr fun Oz=>(m).length=(vsl68).length/\(Nh a0) m=some r) ?_ ?_
 ·refine Bo 1 Z<|Ag (AZ p)<|AA 1 Z<|A2 ?_;obtain⟨ai,h⟩:=AR h;refine Bj (Alz×Int×Qq6×Nat) (fun⟨b,a,vsl97,n⟩=>[(0,j),(2,(Abo x)),(3,(Abo y)),(4,(Abo o)),(14,j),(15,No (a0.length:Int)),(16,No a)]) (fun⟨b,a,vsl97,n⟩ wr=>C5 w (Ha [.box o [.map (some g)] 122,QE KU g b vsl97,.box y [No 0,No 0] 35,.box x [No 0,Aal] 43] (mT cwI 3 1 b vsl97)) wr fun Oz=>(b).length=(vsl97).length/\DR (Ds a0) n (b,a)=some r) (fun⟨b,a,vsl97,n⟩=>n) (([]:Alz),0,([]:Qq6),ai) Z ⟨bm,Z,h⟩ ?_;rintro⟨b,a,vsl97,nn99⟩ cl ⟨z,ad,h⟩;obtain⟨ai,c7,rfl,h,aa⟩:=AQ h;refine A7 1 Z<|A6<|AL h ?_ ?_<;>intro ao h
  ·refine Au<|Aq<|A6<|A2<|Bo 1 Z<|Ax h fun ae h=>AW p a.toNat (Cx ae) (AM ae) ?_;rintro cm _ e103t0 ap;obtain⟨_,_,rfl,rfl,⟨_,_,rfl,rfl,⟨_,_,rfl,⟨e103v2,rfl,e103h2⟩,⟨_,_,rfl,⟨e103v3,rfl,e103h3⟩,⟨e103v4,rfl,e103h4⟩⟩⟩⟩⟩:=Go.E.Rp.Mb e103t0;refine Ag (BI ap (hH.trans z.arg))<|AO BB.e Z z fun cn aj aq bu _=>AO EK.e Z aq fun co ab ar bv _=>BE 1 Z Z ar Z Z fun cp au bw=>Ak 0 Z au Z (a:=(CB Z (CB Z (CB e103h2.one (CB e103h3.one (CB e103h4.one Ps)))))) fun cq q bx=>Ad<|A6<|Ao<|Ag (AJ 0 Z EK.e q Z)<|A1 h fun k av h=>A9 q (OK (a0:=(a0.getD a.toNat Qq2)) _ _ (Av q) (e103h2.mono  Aj) (e103h3.mono  Aj) (e103h4.mono  Aj) av) fun cr ce aw bz=>AO AI.e Z aw fun cs ac ax b0 _=>Ak 0 Z ax Z fun ak c b3=>Ad<|Ao<|Ag (AJ 0 Z AI.e c Z) ?_
   refine Ag (Ba (fun _=>B8 _))<|Ag (IX I4 (Nc _ _ _ _))<|Ad<|BG h ?_ ?_<;>intro ay h
   ·refine Ao<|Ag (Ba (fun _=>Za _))<|Ag (Ae Z Ae3 Z BB.e)<|Ag (Af 0 Z c Z)<|Ag (Af 2 Z c Z)<|A1 h fun ct az h=>A9 c (FF _ _ (Av c) az) fun cu cf a2 b4=>Ak 6 Z a2 Z fun cv a3 b5=>Ak 5 Z a3 Z fun cw s b6=>Ad<|Aw<|Am<|Al<|Am<|Bc ?_;have h:=Bw.out h aa;refine Al<|AN ?_
    cases h
    refine Bv (.cell Z AiW Z Md.e (AP (i:=6) s Z)) (.cell Z Ae3 Z AI.e (AP (i:=5) s Z)) ⟨s.ext,_,Z,(AS.nil _ _)⟩
   refine Au<|Aq<|An<|Ag (AJ 1 Z EK.e c Z)<|As 1 Z ?_;have a4:Bk w (Ha [.box aj [No a] 3,QE KU g b vsl97,.box ac [No k.1,No k.2] 35,.box ab [No ((a0.getD a.toNat Qq2).f.1),No ((a0.getD a.toNat Qq2).f.2.1),e103v2,e103v3,e103v4] 51,.box o [.map (some g)] 122,.box y [No 0,No 0] 35,.box x [No 0,Aal] 43] (mT cwI 3 1 b vsl97)) ak:=c.DC [4,3] Z;have a5:Bk w (Ha [.box o [.map (some g)] 122,.box aj [No a] 3,QE KU g b vsl97,.box ac [No k.1,No k.2] 35,.box ab [No ((a0.getD a.toNat Qq2).f.1),No ((a0.getD a.toNat Qq2).f.2.1),e103v2,e103v3,e103v4] 51,.box y [No 0,No 0] 35,.box x [No 0,Aal] 43] (mT cwI 3 1 b vsl97)) ak:=a4.DC [4] Z;refine A1 h fun bn a6 h=>?_
   refine Fh (Zi hH (O:=[.box ac [No k.1,No k.2] 35,.box ab [No ((a0.getD a.toNat Qq2).f.1),No ((a0.getD a.toNat Qq2).f.2.1),e103v2,e103v3,e103v4] 51,.box y [No 0,No 0] 35,.box x [No 0,Aal] 43]) (i:=a) (l:=b) (vs:=vsl97) (a0:=(a0.getD a.toNat Qq2)) (a1:=([]:List Abv)) a5 (e103h2.mono  Aj) (e103h3.mono  Aj) (e103h4.mono  Aj) (AS.nil _ _) ad a6) ?_;rintro _ cx ⟨rfl,a7,a8,a9,b7⟩;refine AE<|Az<|Aq<|An<|Ax h fun ba h=>Ag (Ay ba)<|As 1 Z<|AE ?_;have bb:=a9.Bl (i:=1) Z;have bc:=bb.Bl (i:=2) Z;have bd:=bc.Bl (i:=2) Z;have h:=Bw.again h aa;refine AD (_,_,_,_) Z ⟨bd,a8,h⟩
  refine Bf<|A5<|A3 ?_;have h:=Bw.out h aa;refine AY<|A8 (_,_) ⟨z,ad,h⟩
 rintro⟨m,vsl68⟩ cy ⟨al,be,h⟩;refine Bo 1 Z<|Ag (AZ p)<|Ag (Af 0 Z al Z) ?_;obtain⟨t,b8,bf⟩:=AcP (A:=[.box o [.map (some g)] 122,QE KU g m vsl68,.box y [No 0,No 0] 35,.box x [No 0,Aal] 43]) (l:=m) (vs:=vsl68) (e:=3) (r:=(.int .i64)) 1 Z AiX hH be al Z;refine A1 h fun cz bg h=>Br t (VB _ _ (Av t) bf bg) ?_;rintro _ c0 ⟨b9,rfl,af⟩ bh bi ca;have d:=af.Cu hH t bh;refine As 2 Z<|Ak 2 Z bi Z (a:=(CB Z (CB d.one Ps))) fun c1 bj am=>Ak 1 Z bj Z fun c2 u an=>Ad<|Aw ?_
 cases h
 refine Bv (.cell Z AiW Z Md.e (AP (i:=2) u Z)) (.cell Z Ae3 Z AI.e (AP (i:=1) u Z)) ?_;have d:=d.mono (Ab (am.trans an));exact⟨u.ext,_,Z,(d.mono (OV hH))⟩
end
end Go.Proofs.YtopocbcekabkoaaGreatDoor
end
noncomputable section
namespace Go.Proofs.YtopocbcekabkoaaGreatDoor
open Go Go.E Go.RowKit Go.L
set_option maxHeartbeats 1000000
set_option maxRecDepth 10000
open _root_.Go.Proofs.Tryz
def Kd(_a0:Alu×Qq5):Option Bool:=
 some true
section
variable(w:World)(H:PH)(hH:Le H (hp w)) include hH
theorem Ql{a0:Alu×Qq5}{a:Value}(_h0_0:AS (.int .i64) H a (a0.2)){r:Bool}(h:Kd a0=some r):
  Qqv 153 [.agg #[Abu a0.1.1,No a0.1.2.1,No a0.1.2.2.1,Abu a0.1.2.2.2,a]] w (fun v w'=>v=.bool r):=by
 refine A4 3 [(0,.agg #[Abu a0.1.1,No a0.1.2.1,No a0.1.2.2.1,Abu a0.1.2.2.2,a])] func153 Z fun hL=>Ao<|BM (t:=177) Z Z hL fun d e b c _=>AA 1 Z<|A7 1 Z<|Aw ?_
 cases h
 refine Ah Z ⟨b.ext,Z⟩
end
def HA(a:Qq5):Option (Qq5):=
 AU (a.length<4611686018427387904) (AU ((ML a).length<=9223372036854775807) (some ((Lib.compact (ML a)))))
def Fe(a0:Int×Alz)(a1:Abv):Qq5×Int->Option (Al6⊕(Qq5)):=fun⟨b,a⟩=>
 if a<(a0.2.length:Int)then AU (0<=a/\a<(a0.2.length:Int)) (Qq9 (Kd ((((a0.2.getD a.toNat Qq2).1).1,((a0.2.getD a.toNat Qq2).1).2.1,((a0.2.getD a.toNat Qq2).1).2.2.1,((a0.2.getD a.toNat Qq2).1).2.2.2),(a0.2.getD a.toNat Qq2).2)) (fun c=>if c then Qq9 (Ex a1 (((a0.2.getD a.toNat Qq2).1).1)) (fun d=>if d then AU (Go.E.Fz 8 (b.length+((a0.2.getD a.toNat Qq2).2).length)) (AU (Bq (a+1)) (some (Sum.inl ((b++(a0.2.getD a.toNat Qq2).2),(a+1)))))else AU (Bq (a+1)) (some (Sum.inl (b,(a+1)))))else AU (Bq (a+1)) (some (Sum.inl (b,(a+1))))))else Qzx Sum.inr (HA b)
def La(a0:Int×Alz)(a1:Abv)(s:Al6):Option (Qq5):=Go.L.run (Fe a0 a1) s
def GW(a0:Int×Alz)(a1:Abv):Option (Qq5):=
 (La a0 a1) (([]:Qq5),0)
theorem PB{x w:World}{H:PH}(hH:Le H (hp x)){O:List BV}{a0:Int×Alz}{a1:Abv}{va0_1:Value}(hL:Bk x (Ha [] O) w)(q:AS Al9 (gz H x w (Ha [] O)) va0_1 (a0.2)){r:Qq5}(h:GW a0 a1=some r):
  Ok prog 152 [.agg #[No a0.1,va0_1],Abu a1,.func (.func 153) #[] #[]] w (fun v w'=>∃(u0:Value) (y0:Qq6),v=u0/\Bk x (Ha [.row u0 3 1 (r).length y0] O) w'/\Le (fz w (Ha [] O)) (fz w' (Ha [.row u0 3 1 (r).length y0] O))/\AK (.int .i64) (gz H x w' (Ha [.row u0 3 1 (r).length y0] O)) r y0):=by
 refine Cj (n:=36) [(0,.agg #[No a0.1,va0_1]),(1,(Abu a1)),(2,.func (.func 153) #[] #[])] func152 Z Z Z Z ?_;have hT:=Le.refl (fz w (Ha [] O));refine Ao<|BM (t:=43) Z Z hL fun w1 b1 bl ah _=>AA 1 Z<|Bo 1 Z ?_;obtain⟨ba,ai,bm⟩:=Cp (.int .i64) H 3 bl;refine Ad<|Bb (Qq5×Value×Qq6) (fun⟨ae,y,s⟩=>[(7,y)]) (fun⟨ae,y,s⟩ wr=>C5 x (Ha [.row y 3 1 (ae).length s,.box b1 [No a0.1,va0_1] 43] O) wr fun Oz=>AK (.int .i64) (gz H x wr Oz) ae s/\AS Al9 (gz H x wr Oz) va0_1 (a0.2)/\Le (fz w (Ha [] O)) (fz wr Oz)/\HA ae=some r) ?_ ?_
 ·refine Ao<|Ag (Ae Z AiW Z AbG.e)<|Ag (Af 1 Z ba Z) ?_;have q:=q.mono (Ab (ah.trans ai));refine Ag (AZ q)<|AA 1 Z<|A2 ?_;obtain⟨af,h⟩:=AR h;have hT:=hT.trans (ah.trans ai);refine Bj (Qq5×Int×Value×Qq6×Nat) (fun⟨k,a,o,g,n⟩=>[(1,(Abu a1)),(2,.func (.func 153) #[] #[]),(7,o),(11,va0_1),(12,No (a0.2.length:Int)),(13,No a)]) (fun⟨k,a,o,g,n⟩ wr=>C5 x (Ha [.row o 3 1 (k).length g,.box b1 [No a0.1,va0_1] 43] O) wr fun Oz=>AS Al9 (gz H x wr Oz) va0_1 (a0.2)/\AK (.int .i64) (gz H x wr Oz) k g/\Le (fz w (Ha [] O)) (fz wr Oz)/\DR (Fe a0 a1) n (k,a)=some r) (fun⟨k,a,o,g,n⟩=>n) (([]:Qq5),0,Aal,[],af) Z ⟨ba,q,bm,hT,h⟩ ?_;rintro⟨k,a,o,g,nn83⟩ bp ⟨aj,b,d,hT,h⟩;obtain⟨af,bw,rfl,h,z⟩:=AQ h;refine A7 1 Z<|A6<|AL h ?_ ?_<;>intro bb h
  ·refine Au<|Aq<|A6<|A2<|Ao<|Ax h fun al h=>AW b a.toNat (Cx al) (AM al) ?_;rintro bx _ ⟨_,_,rfl,⟨_,_,rfl,rfl,⟨_,_,rfl,rfl,⟨_,_,rfl,rfl,rfl⟩⟩⟩,⟨e87v4,rfl,e87h4⟩⟩ bc;refine Ag (BI bc (Av aj))<|AO Kn.e Z aj fun bz b0 bd e _=>Ak 0 Z bd Z (a:=(CB Z (CB Z (CB Z (CB Z (CB e87h4.one Ps)))))) fun b2 aa f=>Ad ?_;have c:=aa.rG H;refine Bo 1 Z<|Ag (AJ 0 Z Kn.e aa Z)<|A1 h fun b3 be h=>?_;have e87h4:=e87h4.mono (Ab (e.trans f));refine P1 aa (Ql _ _ (Av aa) (e87h4.mono c) be) ?_;rintro _ b4 rfl bq ab p;refine As 1 Z<|Cv 20 h ?_ ?_<;>intro j h
   ·refine Aa j<|Ag (Ai Z)<|Aa j<|Ag (Ae Z AiB Z Jl.e)<|Aa j<|Ag (Ae Z Ads Z Dl.e)<|Aa j<|Ag (Af 0 Z ab Z)<|Aa j<|A1 h fun b5 bf h=>A9 ab (Lq _ _ (Av ab) bf) fun b6 br ak u=>Ag (AF j Z)<|Ad<|Bi h ?_ ?_<;>intro bg h
    ·refine An<|As 1 Z<|Ag (Ae Z AiB Z V2.e)<|Ag (Af 0 Z ak Z)<|Ax h fun ap h=>?_;have d:=d.mono (Ab (e.trans f));have c:=c.trans (Ab (p.trans u));refine Bp (r:=(.int .i64)) 1 k ((a0.2.getD a.toNat Qq2).2) Z Aco ak Z (d.mono c) (e87h4.mono c) ap fun bh bs aq ar ag ac=>As 1 Z<|AE<|Az<|Aq<|An<|Ax h fun au h=>Ag (Ay au)<|As 1 Z<|AE ?_;have av:=ar.Bl (i:=0) Z;have h:=Bw.again h z;have b:=b.mono (Ab (e.trans f));have hT:=hT.trans (e.trans (f.trans (p.trans (u.trans (ag.trans (AB (i:=0) Z))))));have c:=c.trans (Ab (ag.trans (AB (i:=0) Z)));have ac:=ac.mono (Ab (AB (i:=0) Z));refine AD (_,_,_,_,_) Z ⟨av,(b.mono c),ac,hT,h⟩
    refine Au<|Az<|Aq<|An<|Ax h fun aw h=>Ag (Ay aw)<|As 1 Z<|AE ?_;have ax:=ak.Bl (i:=0) Z;have h:=Bw.again h z;have b:=b.mono (Ab (e.trans f));have d:=d.mono (Ab (e.trans f));have hT:=hT.trans (e.trans (f.trans (p.trans (u.trans (AB (i:=0) Z)))));have c:=c.trans (Ab (p.trans (u.trans (AB (i:=0) Z))));refine AD (_,_,_,_,_) Z ⟨ax,(b.mono c),(d.mono c),hT,h⟩
   iterate 5 refine Ar j ?_
   refine Ag (AG j Z)<|Ad<|Co<|Au<|Az<|Aq<|An<|Ax h fun ay h=>Ag (Ay ay)<|As 1 Z<|AE ?_;have az:=ab.Bl (i:=0) Z;have h:=Bw.again h z;have b:=b.mono (Ab (e.trans f));have d:=d.mono (Ab (e.trans f));have hT:=hT.trans (e.trans (f.trans (p.trans (AB (i:=0) Z))));have c:=c.trans (Ab (p.trans (AB (i:=0) Z)));refine AD (_,_,_,_,_) Z ⟨az,(b.mono c),(d.mono c),hT,h⟩
  refine Bf<|A5<|A3 ?_;have h:=Bw.out h z;refine AY<|A8 (_,_,_) ⟨aj,d,b,hT,h⟩
 have hT:=hT.trans (ah.trans ai);rintro⟨ae,y,s⟩ bt ⟨bi,a2,bn,hT,h⟩;refine Bo 1 Z<|Ax h fun a3 h=>VT (i:=0) Tryz.Ac4 ⟨Tryz.f90,_,func90,Z,Z⟩ Z hH bi Z a2 a3 fun bu bo a4 am a5=>Ad<|Bo 1 Z<|Ax h fun a6 h=>VU (i:=0) Tryz.Ac5 ⟨Tryz.f91,_,func91,Z,Z⟩ Z hH a4 Z a5 a6 fun bj bv a7 a8 an ad=>AA 1 Z<|Aw ?_
 cases h
 refine Ah Z ?_;have a9:=a8.Bl (i:=1) Z;have hT:=hT.trans (am.trans (an.trans (AB (i:=1) Z)));have ad:=ad.mono (Ab (AB (i:=1) Z));exact⟨bj,a7,Z,a9,hT,ad⟩
def GX(a0:Int×Alz)(a1:Abv):Option Al3:=
 Qq9 (HR a1) (fun a=>if a.1=0/\a.2=0 then Qq9 (GW (a0.1,a0.2) a1) (fun b=>some (b,(0,0)))else some ([],(a.1,a.2)))
section
variable(w:World)(H:PH)(hH:Le H (hp w)) include hH
theorem RE{a0:Int×Alz}{a1:Abv}{b:Value}(k:AS Al9 H b (a0.2)){r:Al3}(h:GX a0 a1=some r):
  Qqv 100 [.agg #[No a0.1,b],Abu a1] w (fun v w'=>∃s,v=.tuple #[s,.agg #[No r.2.1,No r.2.2]]/\Cd 3 (.int .i64) H w w' s (r.1)):=by
 refine A4 17 [(0,.agg #[No a0.1,b]),(1,(Abu a1))] func100 Z fun hL=>Ao<|BM (t:=43) Z Z hL fun w1 b1 u ah _=>As 1 Z<|AO AI.e Z u fun w2 b2 j aj _=>Ad<|A6<|Bo 1 Z<|A1 h fun x y h=>A9 j (KA _ _ (Av j) y) fun w4 ao z ak=>AO AI.e Z z fun w5 b5 aa am _=>Ak 0 Z aa Z fun w6 d an=>Ad<|Ao<|Ag (AJ 0 Z AI.e d Z)<|Ag (Ba (fun _=>B8 _))<|Ag (IX I4 (Nc _ _ _ _))<|Ad<|BG h ?_ ?_<;>intro ab h
 ·refine BZ (.q 0 (.q 1 (.tail 2))) mixed Qqb (fun w9 ac=>?_);have e:=d.call ac;refine B2 Z (AJ 0 Z AI.e e Z) Z<|B9 1 Z<|Bt (fun ap l=>?_);have m:=e.call l;refine Ak 1 Z m Z fun aq f ad=>Ad<|Aw<|Am ?_
  cases h
  refine Bv (.tmp Z) (.cell Z Ae3 Z AI.e (AP (i:=1) f Z)) ⟨f.ext,_,Z,Cd.nil⟩
 refine Au<|Aq<|Ao<|Ag (AJ 2 Z Md.e d Z)<|As 1 Z<|A1 h fun ar o h=>Fh (PB (a0:=(a0.1,a0.2)) (a1:=a1) (O:=[.box b5 [No x.1,No x.2] 35,.box b2 [No 0,No 0] 35,.box b1 [No a0.1,b] 43]) hH d (k.mono  Aj) o) ?_;rintro ae au ⟨_,y16_0,rfl,p,af,a⟩;refine Ag (Ba (fun _=>B8 _))<|As 1 Z<|Ak 2 Z p Z fun av c g=>Ad<|Aw ?_
 cases h
 refine Bv (.tmp Z) (.cell Z Ae3 Z AI.e (AP (i:=2) c Z)) ?_;have a:=a.mono (Ab g);exact⟨c.ext,_,Z,(c.FV hH (i:=0) Z a)⟩
end
def EI(a0:Alu×Qq5)(a1 a2:Int):Option (Bool×Int×Int):=
 if a0.1.2.1=1 then if a1<=a0.1.2.2.1 then some (decide (a0.1.2.2.1<=a2),a1,a2)else some (false,a1,a2)else some (false,a1,a2)
theorem Pc{e w:World}{H:PH}(hH:Le H (hp e)){O:List BV}{a0:Alu×Qq5}{a1 a2:Int}{va0_4:Value}{ba1 ba2:Nat}(hL:Bk e (Ha [.box ba1 [No a1] 3,.box ba2 [No a2] 3] O) w)(k:AS (.int .i64) (gz H e w (Ha [.box ba1 [No a1] 3,.box ba2 [No a2] 3] O)) va0_4 (a0.2)){r:Bool×Int×Int}(h:EI a0 a1 a2=some r):
  Ok prog 154 [.agg #[Abu a0.1.1,No a0.1.2.1,No a0.1.2.2.1,Abu a0.1.2.2.2,va0_4],Abo ba1,Abo ba2] w (fun v w'=>v=.bool r.1/\Bk e (Ha [.box ba1 [No r.2.1] 3,.box ba2 [No r.2.2] 3] O) w'/\Le (fz w (Ha [.box ba1 [No a1] 3,.box ba2 [No a2] 3] O)) (fz w' (Ha [.box ba1 [No r.2.1] 3,.box ba2 [No r.2.2] 3] O))):=by
 refine Cj (n:=23) [(0,.agg #[Abu a0.1.1,No a0.1.2.1,No a0.1.2.2.1,Abu a0.1.2.2.2,va0_4]),(1,(Abo ba1)),(2,(Abo ba2))] func154 Z Z Z Z ?_;have hT:=Le.refl (fz w (Ha [.box ba1 [No a1] 3,.box ba2 [No a2] 3] O));refine Ao<|BM (t:=177) Z Z hL fun l m c d _=>AA 1 Z<|Ao<|Ag (Ae Z AiB Z Jl.e)<|Ag (Ae Z Ads Z BB.e)<|Ag (Af 0 Z c Z)<|As 2 Z<|Bz 9 h ?_ ?_<;>intro a h
 ·refine Aa a<|Ag (Ae Z AiB Z Jl.e)<|Aa a<|Ag (Ae Z Ads Z BB.e)<|Aa a<|Ag (Af 0 Z c Z)<|Aa a<|Ag (Af 1 Z c Z)<|Aa a<|Ag (Ai Z)<|Ag (AF a Z)<|As 1 Z<|Bz 16 h ?_ ?_<;>intro b h
  ·refine Aa b<|Ag (Ae Z AiB Z Jl.e)<|Aa b<|Ag (Ae Z Ads Z BB.e)<|Aa b<|Ag (Af 0 Z c Z)<|Aa b<|Ag (Af 2 Z c Z)<|Aa b<|Ag (Ai Z)<|Ag (AF b Z)<|AA 1 Z<|Aw ?_
   cases h
   refine Ah Z ?_;have g:=c.Bl (i:=0) Z;have hT:=hT.trans (d.trans (AB (i:=0) Z));exact⟨Z,g,hT⟩
  iterate 5 refine Ar b ?_
  refine Ag (AG b Z)<|AA 1 Z<|Aw ?_
  cases h
  refine Ah Z ?_;have j:=c.Bl (i:=0) Z;have hT:=hT.trans (d.trans (AB (i:=0) Z));exact⟨Z,j,hT⟩
 iterate 5 refine Ar a ?_
 refine Ag (AG a Z)<|As 1 Z ?_
 iterate 5 refine Ar Z ?_
 refine Ag (AG Z Z)<|AA 1 Z<|Aw ?_
 cases h
 refine Ah Z ?_;have f:=c.Bl (i:=0) Z;have hT:=hT.trans (d.trans (AB (i:=0) Z));exact⟨Z,f,hT⟩
def G0(a:Qq5)(b c:Int):Option (Qq5×Int×Int):=
 AU (a.length<4611686018427387904) (AU ((ML a).length<=9223372036854775807) (some ((Lib.compact (ML a)),b,c)))
def El(a0:Int×Alz)(a1:Abv):Qq5×Int×Int×Int->Option ((Qq5×Int×Int×Int)⊕(Qq5×Int×Int)):=fun⟨c,d,e,a⟩=>
 if a<(a0.2.length:Int)then AU (0<=a/\a<(a0.2.length:Int)) (Qq9 (EI ((((a0.2.getD a.toNat Qq2).1).1,((a0.2.getD a.toNat Qq2).1).2.1,((a0.2.getD a.toNat Qq2).1).2.2.1,((a0.2.getD a.toNat Qq2).1).2.2.2),(a0.2.getD a.toNat Qq2).2) d e) (fun b=>if b.1 then Qq9 (Ex a1 (((a0.2.getD a.toNat Qq2).1).1)) (fun f=>if f then AU (Go.E.Fz 8 (c.length+((a0.2.getD a.toNat Qq2).2).length)) (AU (Bq (a+1)) (some (Sum.inl ((c++(a0.2.getD a.toNat Qq2).2),b.2.1,b.2.2,(a+1)))))else AU (Bq (a+1)) (some (Sum.inl (c,b.2.1,b.2.2,(a+1)))))else AU (Bq (a+1)) (some (Sum.inl (c,b.2.1,b.2.2,(a+1))))))else Qzx Sum.inr (G0 c d e)
def J1(a0:Int×Alz)(a1:Abv)(s:Qq5×Int×Int×Int):Option (Qq5×Int×Int):=Go.L.run (El a0 a1) s
def F7(a0:Int×Alz)(a1:Abv)(a2_c0 a2_c1:Int):Option (Qq5×Int×Int):=
 (J1 a0 a1) (([]:Qq5),a2_c0,a2_c1,0)
theorem Og{s w:World}{H:PH}(hH:Le H (hp s)){O:List BV}{a0:Int×Alz}{a1:Abv}{a2_c0 a2_c1:Int}{va0_1:Value}{ba2_c0 ba2_c1:Nat}(hL:Bk s (Ha [.box ba2_c0 [No a2_c0] 3,.box ba2_c1 [No a2_c1] 3] O) w)(aa:AS Al9 (gz H s w (Ha [.box ba2_c0 [No a2_c0] 3,.box ba2_c1 [No a2_c1] 3] O)) va0_1 (a0.2)){r:Qq5×Int×Int}(h:F7 a0 a1 a2_c0 a2_c1=some r):
  Ok prog 152 [.agg #[No a0.1,va0_1],Abu a1,.func (.func 154) #[] #[Abo ba2_c0,Abo ba2_c1]] w (fun v w'=>∃(u0:Value) (y0:Qq6),v=u0/\Bk s (Ha [.row u0 3 1 (r.1).length y0,.box ba2_c0 [No r.2.1] 3,.box ba2_c1 [No r.2.2] 3] O) w'/\Le (fz w (Ha [.box ba2_c0 [No a2_c0] 3,.box ba2_c1 [No a2_c1] 3] O)) (fz w' (Ha [.row u0 3 1 (r.1).length y0,.box ba2_c0 [No r.2.1] 3,.box ba2_c1 [No r.2.2] 3] O))/\AK (.int .i64) (gz H s w' (Ha [.row u0 3 1 (r.1).length y0,.box ba2_c0 [No r.2.1] 3,.box ba2_c1 [No r.2.2] 3] O)) (r.1) y0):=by
 refine Cj (n:=36) [(0,.agg #[No a0.1,va0_1]),(1,(Abu a1)),(2,.func (.func 154) #[] #[Abo ba2_c0,Abo ba2_c1])] func152 Z Z Z Z ?_;have hT:=Le.refl (fz w (Ha [.box ba2_c0 [No a2_c0] 3,.box ba2_c1 [No a2_c1] 3] O));refine Ao<|BM (t:=43) Z Z hL fun w1 b1 b5 aq _=>AA 1 Z<|Bo 1 Z ?_;obtain⟨bt,ar,b6⟩:=Cp (.int .i64) H 3 b5;refine Ad<|Bb (Qq5×Int×Int×Value×Qq6) (fun⟨ak,av,aw,ae,ab⟩=>[(7,ae)]) (fun⟨ak,av,aw,ae,ab⟩ wr=>C5 s (Ha [.row ae 3 1 (ak).length ab,.box b1 [No a0.1,va0_1] 43,.box ba2_c0 [No av] 3,.box ba2_c1 [No aw] 3] O) wr fun Oz=>AK (.int .i64) (gz H s wr Oz) ak ab/\AS Al9 (gz H s wr Oz) va0_1 (a0.2)/\Le (fz w (Ha [.box ba2_c0 [No a2_c0] 3,.box ba2_c1 [No a2_c1] 3] O)) (fz wr Oz)/\G0 ak av aw=some r) ?_ ?_
 ·refine Ao<|Ag (Ae Z AiW Z AbG.e)<|Ag (Af 1 Z bt Z) ?_;have aa:=aa.mono (Ab (aq.trans ar));refine Ag (AZ aa)<|AA 1 Z<|A2 ?_;obtain⟨al,h⟩:=AR h;have hT:=hT.trans (aq.trans ar);refine Bj (Qq5×Int×Int×Int×Value×Qq6×Nat) (fun⟨o,y,z,a,j,d,n⟩=>[(1,(Abu a1)),(2,.func (.func 154) #[] #[Abo ba2_c0,Abo ba2_c1]),(7,j),(11,va0_1),(12,No (a0.2.length:Int)),(13,No a)]) (fun⟨o,y,z,a,j,d,n⟩ wr=>C5 s (Ha [.row j 3 1 (o).length d,.box b1 [No a0.1,va0_1] 43,.box ba2_c0 [No y] 3,.box ba2_c1 [No z] 3] O) wr fun Oz=>AS Al9 (gz H s wr Oz) va0_1 (a0.2)/\AK (.int .i64) (gz H s wr Oz) o d/\Le (fz w (Ha [.box ba2_c0 [No a2_c0] 3,.box ba2_c1 [No a2_c1] 3] O)) (fz wr Oz)/\DR (El a0 a1) n (o,y,z,a)=some r) (fun⟨o,y,z,a,j,d,n⟩=>n) (([]:Qq5),a2_c0,a2_c1,0,Aal,[],al) Z ⟨bt,aa,b6,hT,h⟩ ?_;rintro⟨o,y,z,a,j,d,nn92⟩ cb ⟨au,c,e,hT,h⟩
  obtain⟨al,cg,rfl,h,af⟩:=AQ h;refine A7 1 Z<|A6<|AL h ?_ ?_<;>intro bv h
  ·refine Au<|Aq<|A6<|A2<|Ao<|Ax h fun a8 h=>AW c a.toNat (Cx a8) (AM a8) ?_;rintro ch _ ⟨_,_,rfl,⟨_,_,rfl,rfl,⟨_,_,rfl,rfl,⟨_,_,rfl,rfl,rfl⟩⟩⟩,⟨e96v4,rfl,e96h4⟩⟩ bw;refine Ag (BI bw (Av au))<|AO Kn.e Z au fun ci bu bx f _=>Ak 0 Z bx Z (a:=(CB Z (CB Z (CB Z (CB Z (CB e96h4.one Ps)))))) fun b7 ag g=>Ad ?_;have b:=ag.rG H;refine Bo 1 Z<|Ag (AJ 0 Z Kn.e ag Z) ?_;have ax:Bk s (Ha [.box ba2_c0 [No y] 3,.box ba2_c1 [No z] 3,.box bu [.string ⟨(((a0.2.getD a.toNat Qq2).1).1).toArray⟩,No (((a0.2.getD a.toNat Qq2).1).2.1),No (((a0.2.getD a.toNat Qq2).1).2.2.1),.string ⟨(((a0.2.getD a.toNat Qq2).1).2.2.2).toArray⟩,e96v4] 177,.row j 3 1 (o).length d,.box b1 [No a0.1,va0_1] 43] O) b7:=ag.DC [4,4] Z;have u:=Ck [4,4] ag ax Z;refine A1 h fun k bd h=>?_;have e96h4:=e96h4.mono (Ab (f.trans g));have b:=b.trans (Ab u)
   refine D6 Z Z (Pc (a0:=((((a0.2.getD a.toNat Qq2).1).1,((a0.2.getD a.toNat Qq2).1).2.1,((a0.2.getD a.toNat Qq2).1).2.2.1,((a0.2.getD a.toNat Qq2).1).2.2.2),(a0.2.getD a.toNat Qq2).2)) (a1:=y) (a2:=z) (O:=(Ha [.box bu [.string ⟨(((a0.2.getD a.toNat Qq2).1).1).toArray⟩,No (((a0.2.getD a.toNat Qq2).1).2.1),No (((a0.2.getD a.toNat Qq2).1).2.2.1),.string ⟨(((a0.2.getD a.toNat Qq2).1).2.2.2).toArray⟩,e96v4] 177,.row j 3 1 (o).length d,.box b1 [No a0.1,va0_1] 43] O)) hH ax (e96h4.mono b) bd) ?_;rintro _ bz ⟨rfl,ac,q⟩;refine As 1 Z<|Cv 20 h ?_ ?_<;>intro p h
   ·refine Aa p<|Ag (Ai Z)<|Aa p<|Ag (Ae Z AiB Z Jl.e)<|Aa p<|Ag (Ae Z Ads Z Dl.e)<|Aa p<|Ag (Af 2 Z ac Z)<|Aa p<|A1 h fun cc be h=>A9 ac (Lq _ _ (Av ac) be) fun b0 b9 ah x=>Ag (AF p Z)<|Ad<|Bi h ?_ ?_<;>intro bf h
    ·refine An<|As 1 Z<|Ag (Ae Z AiB Z V2.e)<|Ag (Af 2 Z ah Z)<|Ax h fun bg h=>?_;have e:=e.mono (Ab (f.trans g));have b:=b.trans (Ab (q.trans x));refine Bp (r:=(.int .i64)) 3 o ((a0.2.getD a.toNat Qq2).2) Z Aco ah Z (e.mono b) (e96h4.mono b) bg fun a9 b2 ay bh am ai=>As 1 Z<|AE<|Az<|Aq<|An<|Ax h fun bi h=>Ag (Ay bi)<|As 1 Z<|AE ?_;have az:=bh.Bl (i:=2) Z;have a3:Bk s (Ha [.row a9 3 1 ((o++(a0.2.getD a.toNat Qq2).2)).length ay,.box b1 [No a0.1,va0_1] 43,.box ba2_c0 [No k.2.1] 3,.box ba2_c1 [No k.2.2] 3] O) b2:=az.DC [3,3] Z;have ad:=Ck [3,3] az a3 Z;have h:=Bw.again h af;have c:=c.mono (Ab (f.trans g));have hT:=hT.trans (f.trans (g.trans (u.trans (q.trans (x.trans (am.trans ((AB (i:=2) Z).trans ad)))))));have b:=b.trans (Ab (am.trans ((AB (i:=2) Z).trans ad)))
     have ai:=ai.mono (Ab ((AB (i:=2) Z).trans ad));refine AD ((o++(a0.2.getD a.toNat Qq2).2),k.2.1,k.2.2,(a+1),a9,ay,al) Z ⟨a3,(c.mono b),ai,hT,h⟩
    refine Au<|Az<|Aq<|An<|Ax h fun bj h=>Ag (Ay bj)<|As 1 Z<|AE ?_;have a4:=ah.Bl (i:=2) Z;have a5:Bk s (Ha [.row j 3 1 (o).length d,.box b1 [No a0.1,va0_1] 43,.box ba2_c0 [No k.2.1] 3,.box ba2_c1 [No k.2.2] 3] O) b0:=a4.DC [3,3] Z;have an:=Ck [3,3] a4 a5 Z;have h:=Bw.again h af;have c:=c.mono (Ab (f.trans g));have e:=e.mono (Ab (f.trans g));have hT:=hT.trans (f.trans (g.trans (u.trans (q.trans (x.trans ((AB (i:=2) Z).trans an))))));have b:=b.trans (Ab (q.trans (x.trans ((AB (i:=2) Z).trans an))));refine AD (o,k.2.1,k.2.2,(a+1),j,d,al) Z ⟨a5,(c.mono b),(e.mono b),hT,h⟩
   iterate 5 refine Ar p ?_
   refine Ag (AG p Z)<|Ad<|Co<|Au<|Az<|Aq<|An<|Ax h fun bk h=>Ag (Ay bk)<|As 1 Z<|AE ?_;have a6:=ac.Bl (i:=2) Z;have a7:Bk s (Ha [.row j 3 1 (o).length d,.box b1 [No a0.1,va0_1] 43,.box ba2_c0 [No k.2.1] 3,.box ba2_c1 [No k.2.2] 3] O) bz:=a6.DC [3,3] Z;have ao:=Ck [3,3] a6 a7 Z;have h:=Bw.again h af;have c:=c.mono (Ab (f.trans g));have e:=e.mono (Ab (f.trans g));have hT:=hT.trans (f.trans (g.trans (u.trans (q.trans ((AB (i:=2) Z).trans ao)))));have b:=b.trans (Ab (q.trans ((AB (i:=2) Z).trans ao)));refine AD (o,k.2.1,k.2.2,(a+1),j,d,al) Z ⟨a7,(c.mono b),(e.mono b),hT,h⟩
  refine Bf<|A5<|A3 ?_;have h:=Bw.out h af;refine AY<|A8 (_,_,_,_,_) ⟨au,e,c,hT,h⟩
 have hT:=hT.trans (aq.trans ar);rintro⟨ak,av,aw,ae,ab⟩ cd ⟨b3,bl,b8,hT,h⟩;refine Bo 1 Z<|Ax h fun bm h=>VT (i:=0) Tryz.Ac4 ⟨Tryz.f90,_,func90,Z,Z⟩ Z hH b3 Z bl bm fun ce ca bn ba bo=>Ad<|Bo 1 Z<|Ax h fun bp h=>VU (i:=0) Tryz.Ac5 ⟨Tryz.f91,_,func91,Z,Z⟩ Z hH bn Z bo bp fun b4 cf bq br bb aj=>AA 1 Z<|Aw ?_
 cases h
 refine Ah Z ?_;have bs:=br.Bl (i:=1) Z;have hT:=hT.trans (ba.trans (bb.trans (AB (i:=1) Z)));have aj:=aj.mono (Ab (AB (i:=1) Z));exact⟨b4,bq,Z,bs,hT,aj⟩
def FN(a0:Int×Alz)(a1:Abv)(a2 a3:Int):Option Al3:=
 Qq9 (HR a1) (fun a=>if a.1=0/\a.2=0 then(if a3<a2 then Qq9 (DK (4:Int) (-3:Int)) (fun b=>some ([],(b.1,b.2)))else Qq9 (F7 (a0.1,a0.2) a1 a2 a3) (fun c=>some (c.1,(0,0))))else some ([],(a.1,a.2)))
section
variable(w:World)(H:PH)(hH:Le H (hp w)) include hH
theorem Qm{a0:Int×Alz}{a1:Abv}{a2 a3:Int}{b:Value}(m:AS Al9 H b (a0.2)){r:Al3}(h:FN a0 a1 a2 a3=some r):
  Qqv 101 [.agg #[No a0.1,b],Abu a1,No a2,No a3] w (fun v w'=>∃u0,v=.tuple #[u0,.agg #[No r.2.1,No r.2.2]]/\Cd 3 (.int .i64) H w w' u0 (r.1)):=by
 refine A4 26 [(0,.agg #[No a0.1,b]),(1,(Abu a1)),(2,No a2),(3,No a3)] func101 Z fun hL=>Ao<|BM (t:=43) Z Z hL fun w1 b1 ae au _=>Te (t:=3) Z Z ae fun w2 b2 af aw _=>Te (t:=3) Z Z af fun w3 b3 ag ay _=>As 1 Z<|AO AI.e Z ag fun w4 b4 l az _=>Ad<|A6<|Bo 1 Z<|A1 h fun j ai h=>A9 l (KA _ _ (Av l) ai) fun w6 a9 aj a4=>AO AI.e Z aj fun w7 b7 al a5 _=>Ak 0 Z al Z fun w8 a a7=>Ad<|Ao<|Ag (AJ 0 Z AI.e a Z)<|Ag (Ba (fun _=>B8 _))<|Ag (IX I4 (Nc _ _ _ _))<|Ad<|BG h ?_ ?_<;>intro am h
 ·refine BZ (.q 0 (.q 1 (.tail 2))) mixed Qqb (fun ba o=>?_);have e:=a.call o;refine B2 Z (AJ 0 Z AI.e e Z) Z<|B9 1 Z<|Bt (fun bb p=>?_);have s:=e.call p;refine Ak 1 Z s Z fun bc f an=>Ad<|Aw<|Am ?_
  cases h
  refine Bv (.tmp Z) (.cell Z Ae3 Z AI.e (AP (i:=1) f Z)) ⟨f.ext,_,Z,Cd.nil⟩
 refine Au<|Aq<|A6<|Ao<|Ag (Af 3 Z a Z)<|Ag (Af 2 Z a Z)<|AA 1 Z<|AL h ?_ ?_<;>intro u h
 ·refine Ao<|A1 h fun bd x h=>A9 a (FF _ _ (Av a) x) fun be a8 y ao=>As 1 Z<|Ak 1 Z y Z fun bf g ap=>Ad<|Aw<|Am ?_
  cases h
  refine Bv (.tmp Z) (.cell Z Ae3 Z AI.e (AP (i:=1) g Z)) ⟨g.ext,_,Z,Cd.nil⟩
 refine Au<|Aq<|Ao<|Ag (AJ 4 Z Md.e a Z)<|As 2 Z ?_;have z:Bk w [.box b2 [No a2] 3,.box b3 [No a3] 3,.box b7 [No j.1,No j.2] 35,.box b4 [No 0,No 0] 35,.box b1 [No a0.1,b] 43] w8:=a.DC [2,3] Z;refine A1 h fun bg aa h=>Fh (Og (a0:=(a0.1,a0.2)) (a1:=a1) (a2_c0:=a2) (a2_c1:=a3) (O:=[.box b7 [No j.1,No j.2] 35,.box b4 [No 0,No 0] 35,.box b1 [No a0.1,b] 43]) hH z (m.mono  Aj) aa) ?_;rintro aq bh ⟨_,y25_0,rfl,ab,ar,c⟩;refine Ag (Ba (fun _=>B8 _))<|As 1 Z<|Ak 4 Z ab Z fun bi d k=>Ad<|Aw ?_
 cases h
 refine Bv (.tmp Z) (.cell Z Ae3 Z AI.e (AP (i:=4) d Z)) ?_;have c:=c.mono (Ab k);exact⟨d.ext,_,Z,(d.FV hH (i:=0) Z c)⟩
end
def FO(a0:Alu×Qq5)(a1:Abv):Option (Bool×Abv):=
 if a0.1.2.1=2 then some (decide (a0.1.2.2.2=a1),a1)else some (false,a1)
theorem Qn{e w:World}{H:PH}(hH:Le H (hp e)){O:List BV}{a0:Alu×Qq5}{a1:Abv}{va0_4:Value}{ba1:Nat}{va1_0:Value}(hL:Bk e (Ha [.box ba1 [va1_0] 27] O) w)(k:AS (.int .i64) (gz H e w (Ha [.box ba1 [va1_0] 27] O)) va0_4 (a0.2))(a:AS .byte (gz H e w (Ha [.box ba1 [va1_0] 27] O)) va1_0 a1){r:Bool×Abv}(h:FO a0 a1=some r):
  Ok prog 155 [.agg #[Abu a0.1.1,No a0.1.2.1,No a0.1.2.2.1,Abu a0.1.2.2.2,va0_4],Abo ba1] w (fun v w'=>∃(f:Value),v=.bool r.1/\Bk e (Ha [.box ba1 [f] 27] O) w'/\Le (fz w (Ha [.box ba1 [va1_0] 27] O)) (fz w' (Ha [.box ba1 [f] 27] O))/\AS .byte (gz H e w' (Ha [.box ba1 [f] 27] O)) f (r.2)):=by
 refine Cj (n:=16) [(0,.agg #[Abu a0.1.1,No a0.1.2.1,No a0.1.2.2.1,Abu a0.1.2.2.2,va0_4]),(1,(Abo ba1))] func155 Z Z Z Z ?_;have hT:=Le.refl (fz w (Ha [.box ba1 [va1_0] 27] O));refine Ao<|BM (t:=177) Z Z hL fun l m c d _=>AA 1 Z<|Ao<|Ag (Ae Z AiB Z Jl.e)<|Ag (Ae Z Ads Z BB.e)<|Ag (Af 0 Z c Z)<|As 2 Z<|Bz 8 h ?_ ?_<;>intro b h
 ·refine Aa b<|Ag (Ae Z AiB Z Jl.e)<|Aa b<|Ag (Ae Z Ads Z Dl.e)<|Aa b<|Ag (Af 0 Z c Z)<|Aa b<|Ag (Af 1 Z c Z)<|Aa b ?_;have a:=a.mono (Ab d);refine Ag (NS a (Av c))<|Aa b<|Ag (Kj Z Z)<|Ag (AF b Z)<|AA 1 Z<|Aw ?_
  cases h
  refine Ah Z ?_;have g:=c.Bl (i:=0) Z;have hT:=hT.trans (d.trans (AB (i:=0) Z));have a:=a.mono (Ab (AB (i:=0) Z));exact⟨va1_0,Z,g,hT,a⟩
 iterate 6 refine Ar b ?_
 refine Ag (AG b Z)<|AA 1 Z<|Aw ?_
 cases h
 refine Ah Z ?_;have j:=c.Bl (i:=0) Z;have a:=a.mono (Ab (d.trans (AB (i:=0) Z)));have hT:=hT.trans (d.trans (AB (i:=0) Z));exact⟨va1_0,Z,j,hT,a⟩
def G1(a:Qq5)(b:Abv):Option (Qq5×Abv):=
 AU (a.length<4611686018427387904) (AU ((ML a).length<=9223372036854775807) (some ((Lib.compact (ML a)),b)))
def Em(a0:Int×Alz)(a1:Abv):Qq5×Abv×Int->Option ((Qq5×Abv×Int)⊕(Qq5×Abv)):=fun⟨c,d,a⟩=>
 if a<(a0.2.length:Int)then AU (0<=a/\a<(a0.2.length:Int)) (Qq9 (FO ((((a0.2.getD a.toNat Qq2).1).1,((a0.2.getD a.toNat Qq2).1).2.1,((a0.2.getD a.toNat Qq2).1).2.2.1,((a0.2.getD a.toNat Qq2).1).2.2.2),(a0.2.getD a.toNat Qq2).2) d) (fun b=>if b.1 then Qq9 (Ex a1 (((a0.2.getD a.toNat Qq2).1).1)) (fun e=>if e then AU (Go.E.Fz 8 (c.length+((a0.2.getD a.toNat Qq2).2).length)) (AU (Bq (a+1)) (some (Sum.inl ((c++(a0.2.getD a.toNat Qq2).2),b.2,(a+1)))))else AU (Bq (a+1)) (some (Sum.inl (c,b.2,(a+1)))))else AU (Bq (a+1)) (some (Sum.inl (c,b.2,(a+1))))))else Qzx Sum.inr (G1 c d)
def J2(a0:Int×Alz)(a1:Abv)(s:Qq5×Abv×Int):Option (Qq5×Abv):=Go.L.run (Em a0 a1) s
def F8(a0:Int×Alz)(a1:Abv)(a2_c0:Abv):Option (Qq5×Abv):=
 (J2 a0 a1) (([]:Qq5),a2_c0,0)
theorem Oh{p w:World}{H:PH}(hH:Le H (hp p)){O:List BV}{a0:Int×Alz}{a1 a2_c0:Abv}{va0_1:Value}{ba2_c0:Nat}{va2_c0_0:Value}(hL:Bk p (Ha [.box ba2_c0 [va2_c0_0] 27] O) w)(aa:AS Al9 (gz H p w (Ha [.box ba2_c0 [va2_c0_0] 27] O)) va0_1 (a0.2))(ha2_c0_0:AS .byte (gz H p w (Ha [.box ba2_c0 [va2_c0_0] 27] O)) va2_c0_0 a2_c0){r:Qq5×Abv}(h:F8 a0 a1 a2_c0=some r):
  Ok prog 152 [.agg #[No a0.1,va0_1],Abu a1,.func (.func 155) #[] #[Abo ba2_c0]] w (fun v w'=>∃(u0:Value) (y0:Qq6) (u1:Value),v=u0/\Bk p (Ha [.row u0 3 1 (r.1).length y0,.box ba2_c0 [u1] 27] O) w'/\Le (fz w (Ha [.box ba2_c0 [va2_c0_0] 27] O)) (fz w' (Ha [.row u0 3 1 (r.1).length y0,.box ba2_c0 [u1] 27] O))/\AK (.int .i64) (gz H p w' (Ha [.row u0 3 1 (r.1).length y0,.box ba2_c0 [u1] 27] O)) (r.1) y0/\AS .byte (gz H p w' (Ha [.row u0 3 1 (r.1).length y0,.box ba2_c0 [u1] 27] O)) u1 (r.2)):=by
 refine Cj (n:=36) [(0,.agg #[No a0.1,va0_1]),(1,(Abu a1)),(2,.func (.func 155) #[] #[Abo ba2_c0])] func152 Z Z Z Z ?_;have hT:=Le.refl (fz w (Ha [.box ba2_c0 [va2_c0_0] 27] O));refine Ao<|BM (t:=43) Z Z hL fun w1 b1 cd ak _=>AA 1 Z<|Bo 1 Z ?_;obtain⟨bh,al,ce⟩:=Cp (.int .i64) H 3 cd;refine Ad<|Bb (Qq5×Abv×Value×Qq6×Value) (fun⟨av,a4,am,ab,af⟩=>[(7,am)]) (fun⟨av,a4,am,ab,af⟩ wr=>C5 p (Ha [.row am 3 1 (av).length ab,.box b1 [No a0.1,va0_1] 43,.box ba2_c0 [af] 27] O) wr fun Oz=>AK (.int .i64) (gz H p wr Oz) av ab/\AS Al9 (gz H p wr Oz) va0_1 (a0.2)/\AS .byte (gz H p wr Oz) af a4/\Le (fz w (Ha [.box ba2_c0 [va2_c0_0] 27] O)) (fz wr Oz)/\G1 av a4=some r) ?_ ?_
 ·have an:=bh.rG H;refine Ao<|Ag (Ae Z AiW Z AbG.e)<|Ag (Af 1 Z bh Z) ?_;have aa:=aa.mono (Ab (ak.trans al));refine Ag (AZ (aa.mono an))<|AA 1 Z<|A2 ?_;obtain⟨aw,h⟩:=AR h;have ha2_c0_0:=ha2_c0_0.mono (Ab (ak.trans al));have hT:=hT.trans (ak.trans al);refine Bj (Qq5×Abv×Int×Value×Qq6×Value×Nat) (fun⟨f,ag,a,e,d,x,n⟩=>[(1,(Abu a1)),(2,.func (.func 155) #[] #[Abo ba2_c0]),(7,e),(11,va0_1),(12,No (a0.2.length:Int)),(13,No a)]) (fun⟨f,ag,a,e,d,x,n⟩ wr=>C5 p (Ha [.row e 3 1 (f).length d,.box b1 [No a0.1,va0_1] 43,.box ba2_c0 [x] 27] O) wr fun Oz=>AS Al9 (gz H p wr Oz) va0_1 (a0.2)/\AK (.int .i64) (gz H p wr Oz) f d/\AS .byte (gz H p wr Oz) x ag/\Le (fz w (Ha [.box ba2_c0 [va2_c0_0] 27] O)) (fz wr Oz)/\DR (Em a0 a1) n (f,ag,a)=some r) (fun⟨f,ag,a,e,d,x,n⟩=>n) (([]:Qq5),a2_c0,0,Aal,[],va2_c0_0,aw) Z ⟨bh,(aa.mono an),(ce.mono an),(ha2_c0_0.mono an),hT,h⟩ ?_
  rintro⟨f,ag,a,e,d,x,nn92⟩ ci ⟨ao,q,ac,a5,hT,h⟩;obtain⟨aw,cn,rfl,h,ap⟩:=AQ h;have b:=ao.rG H;refine A7 1 Z<|A6<|AL h ?_ ?_<;>intro b5 h
  ·refine Au<|Aq<|A6<|A2<|Ao<|Ax h fun bi h=>AW (q.mono b) a.toNat (Cx bi) (AM bi) ?_;rintro co _ ⟨_,_,rfl,⟨_,_,rfl,rfl,⟨_,_,rfl,rfl,⟨_,_,rfl,rfl,rfl⟩⟩⟩,⟨e97v4,rfl,e97h4⟩⟩ b6;refine Ag (BI b6 (Av ao))<|AO Kn.e Z ao fun cp b4 b7 y _=>Ak 0 Z b7 Z (a:=(CB Z (CB Z (CB Z (CB Z (CB e97h4.one Ps)))))) fun b8 aq s=>Ad<|Bo 1 Z<|Ag (AJ 0 Z Kn.e aq Z) ?_;have a6:Bk p (Ha [.box ba2_c0 [x] 27,.box b4 [.string ⟨(((a0.2.getD a.toNat Qq2).1).1).toArray⟩,No (((a0.2.getD a.toNat Qq2).1).2.1),No (((a0.2.getD a.toNat Qq2).1).2.2.1),.string ⟨(((a0.2.getD a.toNat Qq2).1).2.2.2).toArray⟩,e97v4] 177,.row e 3 1 (f).length d,.box b1 [No a0.1,va0_1] 43] O) b8:=aq.DC [3] Z;have u:=Ck [3] aq a6 Z;refine A1 h fun a3 bl h=>?_;have e97h4:=e97h4.mono (Ab (y.trans (s.trans u)));have b:=b.trans (Ab (y.trans (s.trans u)))
   refine D6 Z Z (Qn (a0:=((((a0.2.getD a.toNat Qq2).1).1,((a0.2.getD a.toNat Qq2).1).2.1,((a0.2.getD a.toNat Qq2).1).2.2.1,((a0.2.getD a.toNat Qq2).1).2.2.2),(a0.2.getD a.toNat Qq2).2)) (a1:=ag) (O:=(Ha [.box b4 [.string ⟨(((a0.2.getD a.toNat Qq2).1).1).toArray⟩,No (((a0.2.getD a.toNat Qq2).1).2.1),No (((a0.2.getD a.toNat Qq2).1).2.2.1),.string ⟨(((a0.2.getD a.toNat Qq2).1).2.2.2).toArray⟩,e97v4] 177,.row e 3 1 (f).length d,.box b1 [No a0.1,va0_1] 43] O)) hH a6 e97h4 (a5.mono b) bl) ?_;rintro _ b9 ⟨o,rfl,ad,j,c⟩;refine As 1 Z<|Cv 20 h ?_ ?_<;>intro g h
   ·refine Aa g<|Ag (Ai Z)<|Aa g<|Ag (Ae Z AiB Z Jl.e)<|Aa g<|Ag (Ae Z Ads Z Dl.e)<|Aa g<|Ag (Af 1 Z ad Z)<|Aa g<|A1 h fun cj bm h=>A9 ad (Lq _ _ (Av ad) bm) fun ca cg ar k=>Ag (AF g Z)<|Ad<|Bi h ?_ ?_<;>intro bn h
    ·refine An<|As 1 Z<|Ag (Ae Z AiB Z V2.e)<|Ag (Af 1 Z ar Z)<|Ax h fun bo h=>?_;have e97h4:=e97h4.mono (Ab (j.trans k));have b:=b.trans (Ab (j.trans k));refine Bp (r:=(.int .i64)) 2 f ((a0.2.getD a.toNat Qq2).2) Z Aco ar Z (ac.mono b) e97h4 bo fun bj cb a7 a8 ah bp=>As 1 Z<|AE<|Az<|Aq ?_;have z:=a8.rG H;refine An<|Ax h fun bq h=>Ag (Ay bq)<|As 1 Z<|AE ?_;have a9:=a8.Bl (i:=1) Z;have ba:Bk p (Ha [.row bj 3 1 ((f++(a0.2.getD a.toNat Qq2).2)).length a7,.box b1 [No a0.1,va0_1] 43,.box ba2_c0 [o] 27] O) cb:=a9.DC [2,2] Z;have ax:=Ck [2,2] a9 ba Z;have h:=Bw.again h ap;have hT:=hT.trans (y.trans (s.trans (u.trans (j.trans (k.trans (ah.trans ((AB (i:=1) Z).trans ax)))))));have c:=c.mono (Ab (k.trans ah));have b:=b.trans (Ab ah);have z:=z.trans (Ab ((AB (i:=1) Z).trans ax))
     refine AD ((f++(a0.2.getD a.toNat Qq2).2),a3.2,(a+1),bj,a7,o,aw) Z ⟨ba,((q.mono b).mono z),(bp.mono z),(c.mono z),hT,h⟩
    refine Au<|Az<|Aq<|An<|Ax h fun br h=>Ag (Ay br)<|As 1 Z<|AE ?_;have bb:=ar.Bl (i:=1) Z;have bc:Bk p (Ha [.row e 3 1 (f).length d,.box b1 [No a0.1,va0_1] 43,.box ba2_c0 [o] 27] O) ca:=bb.DC [2,2] Z;have ai:=Ck [2,2] bb bc Z;have h:=Bw.again h ap;have hT:=hT.trans (y.trans (s.trans (u.trans (j.trans (k.trans ((AB (i:=1) Z).trans ai))))));have b:=b.trans (Ab (j.trans (k.trans ((AB (i:=1) Z).trans ai))));have c:=c.mono (Ab (k.trans ((AB (i:=1) Z).trans ai)));refine AD (f,a3.2,(a+1),e,d,o,aw) Z ⟨bc,(q.mono b),(ac.mono b),c,hT,h⟩
   iterate 5 refine Ar g ?_
   refine Ag (AG g Z)<|Ad<|Co<|Au<|Az<|Aq<|An<|Ax h fun bs h=>Ag (Ay bs)<|As 1 Z<|AE ?_;have bd:=ad.Bl (i:=1) Z;have be:Bk p (Ha [.row e 3 1 (f).length d,.box b1 [No a0.1,va0_1] 43,.box ba2_c0 [o] 27] O) b9:=bd.DC [2,2] Z;have aj:=Ck [2,2] bd be Z;have h:=Bw.again h ap;have hT:=hT.trans (y.trans (s.trans (u.trans (j.trans ((AB (i:=1) Z).trans aj)))));have b:=b.trans (Ab (j.trans ((AB (i:=1) Z).trans aj)));have c:=c.mono (Ab ((AB (i:=1) Z).trans aj));refine AD (f,a3.2,(a+1),e,d,o,aw) Z ⟨be,(q.mono b),(ac.mono b),c,hT,h⟩
  refine Bf<|A5<|A3 ?_;have h:=Bw.out h ap;refine AY<|A8 (_,_,_,_,_) ⟨ao,(ac.mono b),(q.mono b),(a5.mono b),hT,h⟩
 have hT:=hT.trans (ak.trans al);rintro⟨av,a4,am,ab,af⟩ ck ⟨bk,bt,cf,bu,hT,h⟩;have ae:=bk.rG H;refine Bo 1 Z<|Ax h fun bv h=>VT (i:=0) Tryz.Ac4 ⟨Tryz.f90,_,func90,Z,Z⟩ Z hH bk Z (bt.mono ae) bv fun cl ch bw ay bx=>Ad<|Bo 1 Z<|Ax h fun bz h=>VU (i:=0) Tryz.Ac5 ⟨Tryz.f91,_,func91,Z,Z⟩ Z hH bw Z bx bz fun cc cm b0 b2 az au=>AA 1 Z<|Aw ?_
 cases h
 refine Ah Z ?_;have b3:=b2.Bl (i:=1) Z;have ae:=ae.trans (Ab (ay.trans (az.trans (AB (i:=1) Z))));have hT:=hT.trans (ay.trans (az.trans (AB (i:=1) Z)));have au:=au.mono (Ab (AB (i:=1) Z));exact⟨cc,b0,af,Z,b3,hT,au,(bu.mono ae)⟩
def GY(a0:Int×Alz)(a1:Abv)(a2:Abv):Option Al3:=
 Qq9 (HR a1) (fun a=>if a.1=0/\a.2=0 then(if 4000<(a2.length:Int)then Qq9 (DK (3:Int) (-2:Int)) (fun b=>some ([],(b.1,b.2)))else Qq9 (F8 (a0.1,a0.2) a1 a2) (fun c=>some (c.1,(0,0))))else some ([],(a.1,a.2)))
section
variable(w:World)(H:PH)(hH:Le H (hp w)) include hH
theorem RF{a0:Int×Alz}{a1 a2:Abv}{a d:Value}(p:AS Al9 H a (a0.2))(e:AS .byte H d a2){r:Al3}(h:GY a0 a1 a2=some r):
  Qqv 102 [.agg #[No a0.1,a],Abu a1,d] w (fun v w'=>∃u0,v=.tuple #[u0,.agg #[No r.2.1,No r.2.2]]/\Cd 3 (.int .i64) H w w' u0 (r.1)):=by
 refine A4 24 [(0,.agg #[No a0.1,a]),(1,(Abu a1)),(2,d)] func102 Z fun hL=>Ao<|BM (t:=43) Z Z hL fun w1 b1 ag ax _=>Te (t:=27) Z e.one ag fun w2 b2 ah az _=>As 1 Z<|AO AI.e Z ah fun w3 b3 o a3 _=>Ad<|A6<|Bo 1 Z<|A1 h fun l aj h=>A9 o (KA _ _ (Av o) aj) fun w5 a9 ak a4=>AO AI.e Z ak fun w6 b6 am a5 _=>Ak 0 Z am Z fun w7 b a7=>Ad<|Ao<|Ag (AJ 0 Z AI.e b Z)<|Ag (Ba (fun _=>B8 _))<|Ag (IX I4 (Nc _ _ _ _))<|Ad<|BG h ?_ ?_<;>intro an h
 ·refine BZ (.q 0 (.q 1 (.tail 2))) mixed Qqb (fun ba s=>?_);have g:=b.call s;refine B2 Z (AJ 0 Z AI.e g Z) Z<|B9 1 Z<|Bt (fun bb u=>?_);have x:=g.call u;refine Ak 1 Z x Z fun bc j ap=>Ad<|Aw<|Am ?_
  cases h
  refine Bv (.tmp Z) (.cell Z Ae3 Z AI.e (AP (i:=1) j Z)) ⟨j.ext,_,Z,Cd.nil⟩
 refine Au<|Aq<|A6<|Ao<|Ag (Af 2 Z b Z)<|Ag (AZ e)<|AA 1 Z<|AL h ?_ ?_<;>intro y h
 ·refine Ao<|A1 h fun bd z h=>A9 b (FF _ _ (Av b) z) fun be a8 aa aq=>As 1 Z<|Ak 1 Z aa Z fun bf k ar=>Ad<|Aw<|Am ?_
  cases h
  refine Bv (.tmp Z) (.cell Z Ae3 Z AI.e (AP (i:=1) k Z)) ⟨k.ext,_,Z,Cd.nil⟩
 refine Au<|Aq<|Ao<|Ag (AJ 3 Z Md.e b Z)<|As 2 Z ?_;have ab:Bk w [.box b2 [d] 27,.box b6 [No l.1,No l.2] 35,.box b3 [No 0,No 0] 35,.box b1 [No a0.1,a] 43] w7:=b.DC [2] Z;refine A1 h fun bg ac h=>Fh (Oh (a0:=(a0.1,a0.2)) (a1:=a1) (a2_c0:=a2) (O:=[.box b6 [No l.1,No l.2] 35,.box b3 [No 0,No 0] 35,.box b1 [No a0.1,a] 43]) hH ab (p.mono  Aj) (e.mono  Aj) ac) ?_;rintro au bh ⟨_,y24_0,av,rfl,ad,aw,c,ao⟩;refine Ag (Ba (fun _=>B8 _))<|As 1 Z<|Ak 3 Z ad Z fun bi f m=>Ad<|Aw ?_
 cases h
 refine Bv (.tmp Z) (.cell Z Ae3 Z AI.e (AP (i:=3) f Z)) ?_;have c:=c.mono (Ab m);exact⟨f.ext,_,Z,(f.FV hH (i:=0) Z c)⟩
end
end Go.Proofs.YtopocbcekabkoaaGreatDoor
end
noncomputable section
namespace Go
abbrev Al1:=List (Abv×Alr)
end Go
namespace Go.Proofs.YtopocbcekabkoaaGreatDoor
open Go Go.E Go.RowKit Go.L
set_option maxHeartbeats 1000000
set_option maxRecDepth 10000
open _root_.Go.Proofs.Tryz
def Ig(a0:Abv×Alr)(a1:Abv):Option Int:=
 Qq9 (strings_Compare a0.1 a1) (fun a=>some a)
theorem LR{b w:World}{H:PH}(hH:Le H (hp b)){O:List BV}{a0:Abv×Alr}{a1:Abv}{va0_1:Value}(hL:Bk b (Ha [] O) w)(j:AS AlA (gz H b w (Ha [] O)) va0_1 (a0.2)){r:Int}(h:Ig a0 a1=some r):
  Ok prog 190 [.agg #[Abu a0.1,va0_1],Abu a1] w (fun v w'=>v=No r/\Bk b (Ha [] O) w'/\Le (fz w (Ha [] O)) (fz w' (Ha [] O))):=by
 refine Cj (n:=9) [(0,.agg #[Abu a0.1,va0_1]),(1,(Abu a1))] func190 Z Z Z Z ?_;have hT:=Le.refl (fz w (Ha [] O));refine Ao<|BM (t:=164) Z Z hL fun l m a c _=>AA 1 Z<|Ao<|Ag (Ae Z Ajf Z Dl.e)<|Ag (Af 0 Z a Z)<|As 1 Z<|A1 h fun o e h=>A9 a (KM _ _ (Av a) e) fun p k f d=>AA 1 Z<|Aw ?_
 cases h
 refine Ah Z ?_;have g:=f.Bl (i:=0) Z;have hT:=hT.trans (c.trans (d.trans (AB (i:=0) Z)));exact⟨Z,g,hT⟩
def BQ(a0:Al1)(a1:Abv)(a:Int):Option (Int×Bool):=
 if a<(a0.length:Int)then AU (0<=a/\a<(a0.length:Int)) (Qq9 (Ig ((a0.getD a.toNat Qq2).1,(a0.getD a.toNat Qq2).2) a1) (fun b=>some (a,decide (b=0))))else some (a,false)
def BO(a0:Al1)(a1:Abv):Int×Int->Option (Qq7⊕(Int×Bool)):=fun⟨b,a⟩=>
 if b<a then AU (Bq (b+a)) (AU (0<=(IntKind.i64.wrap ((IntKind.u64.wrap (b+a)) / 2))/\(IntKind.i64.wrap ((IntKind.u64.wrap (b+a)) / 2))<(a0.length:Int)) (Qq9 (Ig ((a0.getD ((IntKind.i64.wrap ((IntKind.u64.wrap (b+a)) / 2)).toNat) Qq2).1,(a0.getD ((IntKind.i64.wrap ((IntKind.u64.wrap (b+a)) / 2)).toNat) Qq2).2) a1) (fun c=>if c<0 then AU (Bq ((IntKind.i64.wrap ((IntKind.u64.wrap (b+a)) / 2))+1)) (some (Sum.inl (((IntKind.i64.wrap ((IntKind.u64.wrap (b+a)) / 2))+1),a)))else some (Sum.inl (b,(IntKind.i64.wrap ((IntKind.u64.wrap (b+a)) / 2)))))))else Qzx Sum.inr ((BQ a0 a1) b)
def C4(a0:Al1)(a1:Abv)(s:Int×Int):Option (Int×Bool):=Go.L.run (BO a0 a1) s
def BA(a0:Al1)(a1:Abv):Option (Int×Bool):=
 (C4 a0 a1) (0,(a0.length:Int))
theorem Ff{i w:World}{H:PH}(hH:Le H (hp i)){O:List BV}{a0:Al1}{a1:Abv}{va0:Value}(hL:Bk i (Ha [] O) w)(x:AS (.pair .st (.vec AlA)) (gz H i w (Ha [] O)) va0 a0){r:Int×Bool}(h:BA a0 a1=some r):
  Ok prog 189 [va0,Abu a1,.func (.func 190) #[] #[]] w (fun v w'=>v=.tuple #[No r.1,.bool r.2]/\Bk i (Ha [] O) w'/\Le (fz w (Ha [] O)) (fz w' (Ha [] O))):=by
 refine Cj (n:=49) [(0,va0),(1,(Abu a1)),(2,.func (.func 190) #[] #[])] func189 Z Z Z Z ?_;have hT:=Le.refl (fz w (Ha [] O));refine A7 2 Z<|Bo 1 Z<|Ag (AZ x)<|AA 1 Z<|A7 3 Z<|Bb Int (fun f=>[(0,va0),(1,(Abu a1)),(2,.func (.func 190) #[] #[]),(8,No (a0.length:Int)),(9,No f)]) (fun f wr=>C5 i (Ha [] O) wr fun Oz=>AS (.pair .st (.vec AlA)) (gz H i wr Oz) va0 a0/\Le (fz w (Ha [] O)) (fz wr Oz)/\(BQ a0 a1) f=some r) ?_ ?_
 ·refine A2 ?_;obtain⟨o,h⟩:=AR h;refine Bj (Int×Int×Nat) (fun⟨b,a,n⟩=>[(0,va0),(1,(Abu a1)),(2,.func (.func 190) #[] #[]),(8,No (a0.length:Int)),(9,No b),(10,No a)]) (fun⟨b,a,n⟩ wr=>C5 i (Ha [] O) wr fun Oz=>AS (.pair .st (.vec AlA)) (gz H i wr Oz) va0 a0/\Le (fz w (Ha [] O)) (fz wr Oz)/\DR (BO a0 a1) n (b,a)=some r) (fun⟨b,a,n⟩=>n) (0,(a0.length:Int),o) Z ⟨hL,x,hT,h⟩ ?_;rintro⟨b,a,nn48⟩ ah ⟨j,d,hT,h⟩;obtain⟨o,aj,rfl,h,k⟩:=AQ h;refine A6<|A7 3 Z<|AL h ?_ ?_<;>intro y h
  ·refine Au<|Aq<|A2<|Bo 2 Z<|Ax h fun z h=>Ag (Ay z)<|Ag (Gn Z)<|Ag (Wq (c:=1) (m:=2) Z Z Qqc)<|Ag (Gn Z)<|AA 1 Z<|Bo 3 Z<|Ax h fun p h=>AW d ((IntKind.i64.wrap ((IntKind.u64.wrap (b+a)) / 2)).toNat) (Cx p) (AM p) ?_;rintro ak _ ⟨_,_,rfl,rfl,⟨e53v1,rfl,e53h1⟩⟩ aa;refine Ag (BI aa (Av j))<|As 1 Z<|A1 h fun al ab h=>D6 Z Z (LR (a0:=((a0.getD ((IntKind.i64.wrap ((IntKind.u64.wrap (b+a)) / 2)).toNat) Qq2).1,(a0.getD ((IntKind.i64.wrap ((IntKind.u64.wrap (b+a)) / 2)).toNat) Qq2).2)) (a1:=a1) (O:=(Ha [] O)) hH j e53h1 ab) ?_;rintro _ am ⟨rfl,q,g⟩;refine AA 1 Z<|AL h ?_ ?_<;>intro ac h
   ·refine An<|As 1 Z<|Ax h fun ad h=>Ag (Ay ad)<|As 1 Z<|AE<|Az ?_;have h:=Bw.again h k;have d:=d.mono (Ab g);have hT:=hT.trans g;refine AD (_,_,_) Z ⟨q,d,hT,h⟩
   refine An<|As 2 Z<|AE<|Az ?_;have h:=Bw.again h k;have d:=d.mono (Ab g);have hT:=hT.trans g;refine AD (_,_,_) Z ⟨q,d,hT,h⟩
  refine Bf<|A5<|A3 ?_;have h:=Bw.out h k;refine AY<|A8 _ ⟨j,d,hT,h⟩
 rintro f ai ⟨l,s,hT,h⟩;refine Bo 5 Z<|Bz 39 h ?_ ?_<;>intro e h
 ·refine Aa e<|Ag (Ai Z)<|Aa e<|Ag (Ai Z)<|Aa e<|Ag (Ai Z)<|Aa e<|Ax h fun t h=>AW s f.toNat (Cx t) (AM t) ?_;rintro an _ ⟨_,_,rfl,rfl,⟨e65v1,rfl,e65h1⟩⟩ ae;refine Aa e<|Ag (BI ae (Av l))<|Aa e<|Ag (Ai Z)<|Aa e<|A1 h fun ao af h=>D6 Z Z (LR (a0:=((a0.getD f.toNat Qq2).1,(a0.getD f.toNat Qq2).2)) (a1:=a1) (O:=(Ha [] O)) hH l e65h1 af) ?_;rintro _ ap ⟨rfl,ag,u⟩;refine Aa e<|Ag (Ai Z)<|Ag (AF e Z)<|AA 2 Z<|Aw ?_
  cases h
  refine Ah Z ?_;have hT:=hT.trans u;exact⟨Z,ag,hT⟩
 iterate 8 refine Ar e ?_
 refine Ag (AG e Z)<|AA 2 Z<|Aw ?_
 cases h
 refine Ah Z ⟨Z,l,hT⟩
def Ea(a0:Int×Al1)(a1:Abv):Option (Alr):=
 Qq9 (BA a0.2 a1) (fun a=>if !a.2 then some ([])else AU (0<=a.1/\a.1<(a0.2.length:Int)) (some ((a0.2.getD a.1.toNat Qq2).2)))
section
variable(w:World)(H:PH)(hH:Le H (hp w)) include hH
theorem FP{a0:Int×Al1}{a1:Abv}{a:Value}(c:AS (.pair .st (.vec AlA)) H a (a0.2)){r:Alr}(h:Ea a0 a1=some r):
  Qqv 145 [.agg #[No a0.1,a],Abu a1] w (fun v w'=>∃f,v=f/\AS AlA (un H (nw w w')) f r):=by
 refine A4 22 [(0,.agg #[No a0.1,a]),(1,(Abu a1))] func145 Z fun hL=>Ao<|BM (t:=40) Z Z hL fun q l d m _=>AA 1 Z<|Ao<|Ag (Ae Z Ajm Z AbF.e)<|Ag (Af 0 Z d Z)<|As 1 Z<|A1 h fun o g h=>Fh (Ff (a0:=a0.2) (a1:=a1) (O:=[.box l [No a0.1,a] 40]) hH d (c.mono  Aj) g) ?_;rintro _ s ⟨rfl,b,p⟩;refine AA 5 Z<|A6<|A7 2 Z<|Bi h ?_ ?_<;>intro i h
 ·refine A7 1 Z<|Aw<|Am ?_
  cases h
  refine Ah Z ⟨b.ext,_,Z,(AS.nil _ _)⟩
 refine Au<|Aq<|Ao<|Ag (Ae Z Ajm Z AbF.e)<|Ag (Af 0 Z b Z)<|As 1 Z<|Ax h fun e h=>AW c o.1.toNat (Cx e) (AM e) ?_;rintro u _ ⟨_,_,rfl,rfl,⟨e7v1,rfl,e7h1⟩⟩ j;refine Ag (Ae Z Ajf Z AjG.e) ?_;have k:=j.add 1;refine Ag (AT k (hH.trans b.arg))<|AA 1 Z<|Aw ?_
 cases h
 refine Ah Z ⟨b.ext,_,Z,(e7h1.mono (NT hH))⟩
def N7(a0:Abv):Option (Abv×Int):=
 AU (0<=(0:Int)/\(0:Int)<(a0.length:Int)) (if(48<=((a0.getD ((0:Int).toNat) Qq2).toNat:Int))/\(((a0.getD ((0:Int).toNat) Qq2).toNat:Int)<=57)then AU ((a0.getD ((0:Int).toNat) Qq2).toNat<128) (some ([a0.getD ((0:Int).toNat) Qq2],1))else if 97<=((a0.getD ((0:Int).toNat) Qq2).toNat:Int)then if((a0.getD ((0:Int).toNat) Qq2).toNat:Int)<=122 then AU ((a0.getD ((0:Int).toNat) Qq2).toNat<128) (some ([a0.getD ((0:Int).toNat) Qq2],1))else(if(65<=((a0.getD ((0:Int).toNat) Qq2).toNat:Int))/\(((a0.getD ((0:Int).toNat) Qq2).toNat:Int)<=90)then AU (((a0.getD ((0:Int).toNat) Qq2 - (65:UInt8))+(97:UInt8)).toNat<128) (some ([((a0.getD ((0:Int).toNat) Qq2 - (65:UInt8))+(97:UInt8))],1))else(if((a0.getD ((0:Int).toNat) Qq2).toNat:Int)<128 then some (([]:Abv),1)else Qq9 (Af7 a0) (fun a=>if(a.1=65533)/\(a.2=1)then some (([]:Abv),1)else AU (0<=a.2/\a.2<=(a0.length:Int)) (some ((a0.take a.2.toNat),a.2)))))else if(65<=((a0.getD ((0:Int).toNat) Qq2).toNat:Int))/\(((a0.getD ((0:Int).toNat) Qq2).toNat:Int)<=90)then AU (((a0.getD ((0:Int).toNat) Qq2 - (65:UInt8))+(97:UInt8)).toNat<128) (some ([((a0.getD ((0:Int).toNat) Qq2 - (65:UInt8))+(97:UInt8))],1))else(if((a0.getD ((0:Int).toNat) Qq2).toNat:Int)<128 then some (([]:Abv),1)else Qq9 (Af7 a0) (fun b=>if(b.1=65533)/\(b.2=1)then some (([]:Abv),1)else AU (0<=b.2/\b.2<=(a0.length:Int)) (some ((a0.take b.2.toNat),b.2)))))
theorem VD(hU:HG H){a0:Abv}{e:Value}(c:AS .byte H e a0){r:Abv×Int}(h:N7 a0=some r):
  Qqv 124 [e] w (fun v w'=>v=.tuple #[Abu r.1,No r.2]):=by
 refine A4 57 [(0,e)] func124 Z fun hL=>A7 2 Z<|A6<|Bo 1 Z<|Ax h fun i h=>AW c ((0:Int).toNat) (Cx i) (AM i) ?_;rintro p1 _ rfl ac;refine Ag (AT ac (hH.trans hL.arg))<|AA 1 Z<|A2<|Bo 3 Z<|Ns 2 2 Z Z Z Z Z Z<|As 1 Z<|Bz 17 h ?_ ?_<;>intro a h
 ·iterate 3 refine Ar a ?_
  iterate 2 refine BS ?_
  refine Ar a<|Ag (AF a Z)<|AA 1 Z<|DS<|Bo 1 Z<|Ax h fun ad h=>Ag (AcK ad)<|AA 2 Z<|Aw<|Al<|Am ?_
  cases h
  refine Ah Z ⟨hL.ext,Z⟩
 refine Aa a<|Ag (Ai Z)<|Aa a<|Ag (Ai Z)<|Aa a<|Ag (Ai Z)<|Bz 20 h ?_ ?_<;>intro d h
 ·refine Aa d<|Ag (Ai Z)<|Aa d<|Ag (Ai Z)<|Aa a<|Ag (AF d Z)<|Ag (AG a Z)<|AA 1 Z<|AL h ?_ ?_<;>intro ae h
  ·refine Bo 1 Z<|Ax h fun j h=>Ag (AcK j)<|AA 2 Z<|Aw<|Al<|Am ?_
   cases h
   refine Ah Z ⟨hL.ext,Z⟩
  refine Bo 3 Z<|Ns 2 2 Z Z Z Z Z Z<|AA 1 Z<|AL h ?_ ?_<;>intro k h
  ·refine Bo 1 Z<|Ag (Aaf 65 Z Z Z)<|Ag (Aaf 97 Z Z Z)<|Ax h fun l h=>Ag (AcK l)<|AA 2 Z<|Aw<|Al<|Am ?_
   cases h
   refine Ah Z ⟨hL.ext,Z⟩
  refine A7 3 Z<|AL h ?_ ?_<;>intro m h
  ·refine A7 2 Z<|Aw<|Al<|Am ?_
   cases h
   refine Ah Z ⟨hL.ext,Z⟩
  refine Au<|Az<|Aq<|Bo 1 Z<|A1 h fun aj o h=>A9 hL (Ajc _ _ (Av hL) (hU.mono  Aj) (c.mono  Aj) o) fun ak ah f af=>AA 5 Z<|A6<|Bo 3 Z<|Ns 2 2 Z Z Z Z Z Z<|Ad<|AL h ?_ ?_<;>intro p h
  ·refine A7 2 Z<|Aw<|Am ?_
   cases h
   refine Ah Z ⟨f.ext,Z⟩
  refine Au<|Aq<|Bo 2 Z<|Ax h fun q h=>Wv c q fun al s=>Ag (NS s (hH.trans f.arg))<|AA 3 Z<|Aw ?_
  cases h
  refine Ah Z ⟨f.ext,Z⟩
 iterate 2 refine Ar d ?_
 refine Aa a<|Ag (AG d Z)<|Ag (AG a Z)<|AA 1 Z<|Co<|Bo 3 Z<|Ns 2 2 Z Z Z Z Z Z<|AA 1 Z<|AL h ?_ ?_<;>intro t h
 ·refine Bo 1 Z<|Ag (Aaf 65 Z Z Z)<|Ag (Aaf 97 Z Z Z)<|Ax h fun u h=>Ag (AcK u)<|AA 2 Z<|Aw<|Al<|Am ?_
  cases h
  refine Ah Z ⟨hL.ext,Z⟩
 refine A7 3 Z<|AL h ?_ ?_<;>intro x h
 ·refine A7 2 Z<|Aw<|Al<|Am ?_
  cases h
  refine Ah Z ⟨hL.ext,Z⟩
 refine Au<|Az<|Aq<|Bo 1 Z<|A1 h fun am y h=>A9 hL (Ajc _ _ (Av hL) (hU.mono  Aj) (c.mono  Aj) y) fun an ai g ag=>AA 5 Z<|A6<|Bo 3 Z<|Ns 2 2 Z Z Z Z Z Z<|Ad<|AL h ?_ ?_<;>intro z h
 ·refine A7 2 Z<|Aw<|Am ?_
  cases h
  refine Ah Z ⟨g.ext,Z⟩
 refine Au<|Aq<|Bo 2 Z<|Ax h fun aa h=>Wv c aa fun ao ab=>Ag (NS ab (hH.trans g.arg))<|AA 3 Z<|Aw ?_
 cases h
 refine Ah Z ⟨g.ext,Z⟩
end
end Go.Proofs.YtopocbcekabkoaaGreatDoor
end
noncomputable section
namespace Go
abbrev Alx:=List (Abv×Int×Int)
end Go
namespace Go.Proofs.YtopocbcekabkoaaGreatDoor
open Go Go.E Go.RowKit Go.L
set_option maxHeartbeats 1000000
set_option maxRecDepth 10000
open _root_.Go.Proofs.Tryz
def JO(c:Int)(d:Abv)(a:Alx)(b:Int):Option ((Alx×Int)⊕(Alx)):=
 AU (Go.E.Fz 32 (a.length+1)) (Qzx Sum.inr (some ((a++[(d,c,b)]))))
def CS(a1:Abv)(d:Alx)(e:Int):Abv×Int->Option ((Abv×Int)⊕((Alx×Int)⊕(Alx))):=fun⟨c,a⟩=>
 if a<(a1.length:Int)then AU (0<=a/\a<=(a1.length:Int)) (Qq9 (N7 (a1.drop a.toNat)) (fun b=>if b.1=([]:Abv)then AU (Bq (a+b.2)) (if c=([]:Abv)then Qzx Sum.inr (some (Sum.inl (d,(a+b.2))))else AU (Go.E.Fz 32 (d.length+1)) (Qzx Sum.inr (some (Sum.inl ((d++[(c,e,a)]),(a+b.2))))))else AU (c.length+b.1.length<=9223372036854775807) (AU (Bq (a+b.2)) (some (Sum.inl ((c++b.1),(a+b.2)))))))else Qzx Sum.inr ((JO e) c d a)
def U9(a1:Abv)(b:Alx)(a:Int)(s:Abv×Int):Option ((Alx×Int)⊕(Alx)):=Go.L.run (CS a1 b a) s
def CT(a1:Abv):Alx×Int->Option ((Alx×Int)⊕(Alx)):=fun⟨b,a⟩=>
 if a<(a1.length:Int)then(U9 a1 b a) (([]:Abv),a)else Qzx Sum.inr (some b)
def UA(a1:Abv)(s:Alx×Int):Option (Alx):=Go.L.run (CT a1) s
def Pd(a0:Alx)(a1:Abv):Option (Alx):=
 (UA a1) (a0,0)
theorem UB{l w:World}{H:PH}(hH:Le H (hp l))(hU:HG H){O:List BV}{a0:Alx}{a1:Abv}{la0 Da0 ba0:Nat}{ca0:Loop}{va0:Value}{xsa0:Qq6}{va1_0:Value}{pa1:Addr}(bb:AeW prog (.pair .st AlA) 3 32 la0 Da0 ba0 ca0 114 118)(hL:Bk l (Ha [.obj la0 (.loop ca0),.obj Da0 (.deferred (some [])),.box ba0 [va0] 114,.row va0 118 3 (a0).length xsa0] O) w)(b2:AK (.pair .st AlA) (gz H l w (Ha [.obj la0 (.loop ca0),.obj Da0 (.deferred (some [])),.box ba0 [va0] 114,.row va0 118 3 (a0).length xsa0] O)) a0 xsa0)(be:AS .byte (gz H l w (Ha [.obj la0 (.loop ca0),.obj Da0 (.deferred (some [])),.box ba0 [va0] 114,.row va0 118 3 (a0).length xsa0] O)) va1_0 a1)(b3:Hy (gz H l w (Ha [.obj la0 (.loop ca0),.obj Da0 (.deferred (some [])),.box ba0 [va0] 114,.row va0 118 3 (a0).length xsa0] O)) pa1 [va1_0]){r:Alx}(h:Pd a0 a1=some r):
  Ok prog 123 [.func (.yield la0) #[] #[],.pointer (some pa1)] w (fun v w'=>∃(u0:Value) (y0:Qq6),v=.tuple #[]/\Bk l (Ha [.obj la0 (.loop ca0),.obj Da0 (.deferred (some [])),.box ba0 [u0] 114,.row u0 118 3 (r).length y0] O) w'/\Le (fz w (Ha [.obj la0 (.loop ca0),.obj Da0 (.deferred (some [])),.box ba0 [va0] 114,.row va0 118 3 (a0).length xsa0] O)) (fz w' (Ha [.obj la0 (.loop ca0),.obj Da0 (.deferred (some [])),.box ba0 [u0] 114,.row u0 118 3 (r).length y0] O))/\AK (.pair .st AlA) (gz H l w' (Ha [.obj la0 (.loop ca0),.obj Da0 (.deferred (some [])),.box ba0 [u0] 114,.row u0 118 3 (r).length y0] O)) r y0):=by
 refine Cj (n:=53) [(0,.func (.yield la0) #[] #[]),(1,.pointer (some pa1))] func123 Z Z Z Z ?_;have hT:=Le.refl (fz w (Ha [.obj la0 (.loop ca0),.obj Da0 (.deferred (some [])),.box ba0 [va0] 114,.row va0 118 3 (a0).length xsa0] O));refine VR ?_;have bc:=hL.rG H;refine A7 1 Z<|A6<|AcN<|Aq<|A2 ?_;obtain⟨a6,h⟩:=AR h;refine Bj (Alx×Int×Value×Qq6×Nat) (fun⟨m,a,g,d,n⟩=>[(0,.func (.yield la0) #[] #[]),(1,.pointer (some pa1)),(3,No a)]) (fun⟨m,a,g,d,n⟩ wr=>C5 l (Ha [.obj la0 (.loop ca0),.obj Da0 (.deferred (some [])),.box ba0 [g] 114,.row g 118 3 (m).length d] O) wr fun Oz=>Hy (gz H l wr Oz) pa1 [va1_0]/\AS .byte (gz H l wr Oz) va1_0 a1/\AK (.pair .st AlA) (gz H l wr Oz) m d/\Le (fz w (Ha [.obj la0 (.loop ca0),.obj Da0 (.deferred (some [])),.box ba0 [va0] 114,.row va0 118 3 (a0).length xsa0] O)) (fz wr Oz)/\DR (CT a1) n (m,a)=some r) (fun⟨m,a,g,d,n⟩=>n) (a0,0,va0,xsa0,a6) Z ⟨hL,(b3.mono bc),(be.mono bc),(b2.mono bc),hT,h⟩ ?_;rintro⟨m,a,g,d,nn68⟩ cc ⟨af,aq,ar,a7,hT,h⟩;obtain⟨a6,b1,rfl,h,ag⟩:=AQ h;refine A6 ?_;have x:=af.rG H
 refine Bo 1 Z<|Ag (AT (aq.mono x) (Av af))<|Ag (AZ (ar.mono x))<|AA 1 Z<|AL h ?_ ?_<;>intro b4 h
 ·refine Au<|Aq<|A2<|Bo 1 Z<|Ag (Ba (fun _=>Afw _ _))<|AO Nu.e Z af fun cj aa b5 ah _=>Ak 0 Z b5 Z fun ck b6 ai=>Ad<|Bb (Abv×Alx×Int×Value×Qq6) (fun⟨p,y,f,k,o⟩=>[(0,.func (.yield la0) #[] #[]),(3,No f),(4,(Abo aa))]) (fun⟨p,y,f,k,o⟩ wr=>C5 l (Ha [.box aa [Abu p,No a,No 0] 118,.obj la0 (.loop ca0),.obj Da0 (.deferred (some [])),.box ba0 [k] 114,.row k 118 3 (y).length o] O) wr fun Oz=>AK (.pair .st AlA) (gz H l wr Oz) y o/\Le (fz w (Ha [.obj la0 (.loop ca0),.obj Da0 (.deferred (some [])),.box ba0 [va0] 114,.row va0 118 3 (a0).length xsa0] O)) (fz wr Oz)/\(JO a) p y f=some b1) ?_ ?_
  ·refine A2 ?_;obtain⟨a3,h⟩:=AR h;have x:=x.trans (Ab (ah.trans ai));have hT:=hT.trans (ah.trans ai);refine Bj (Abv×Int×Nat) (fun⟨j,c,n⟩=>[(0,.func (.yield la0) #[] #[]),(1,.pointer (some pa1)),(3,No c),(4,(Abo aa))]) (fun⟨j,c,n⟩ wr=>C5 l (Ha [.box aa [Abu j,No a,No 0] 118,.obj la0 (.loop ca0),.obj Da0 (.deferred (some [])),.box ba0 [g] 114,.row g 118 3 (m).length d] O) wr fun Oz=>Hy (gz H l wr Oz) pa1 [va1_0]/\AS .byte (gz H l wr Oz) va1_0 a1/\AK (.pair .st AlA) (gz H l wr Oz) m d/\Le (fz w (Ha [.obj la0 (.loop ca0),.obj Da0 (.deferred (some [])),.box ba0 [va0] 114,.row va0 118 3 (a0).length xsa0] O)) (fz wr Oz)/\DR (CS a1 m a) n (j,c)=some b1) (fun⟨j,c,n⟩=>n) (([]:Abv),a,a3) Z ⟨b6,(aq.mono x),(ar.mono x),(a7.mono x),hT,h⟩ ?_;rintro⟨j,c,nn155⟩ b9 ⟨z,q,t,he155_Ra0,hT,h⟩;obtain⟨a3,cd,rfl,h,ad⟩:=AQ h;refine A6 ?_;have b:=z.rG H;refine Bo 1 Z<|Ag (AT (q.mono b) (Av z))<|Ag (AZ (t.mono b))<|AA 1 Z ?_
   refine AL h ?_ ?_<;>intro bf h
   ·refine Au<|Aq<|A2<|Ao<|Ag (AT (q.mono b) (Av z))<|As 1 Z<|Ax h fun bg h=>Aag (t.mono b) bg fun ce bh=>A1 h fun aj bi h=>A9 z (VD _ _ (Av z) (hU.mono  Aj) bh bi) fun cf ca ak u=>AA 5 Z<|A6<|Bo 1 Z<|Ag (Kj Z Z)<|Ad<|AL h ?_ ?_<;>intro bj h
    ·refine Bo 1 Z<|Ag (Ae Z Ajn Z BB.e)<|BE 0 Z Z ak Z Z fun a4 ab ac=>Ad<|Bo 2 Z<|Ax h fun bk h=>Ag (Ay bk)<|AA 1 Z<|A6<|AeU<|NU (C1 (C1 (C1 (Bu (Dc (Bu (Ma (Bu (Dc (Bu (Gr HP)))))))))))<|Ag (Ae Z Ajn Z Dl.e)<|HQ<|NU (C1 (C1 (C1 (Bu (Dc (Bu (Ma (Bu (Dc (Bu (Gr HP)))))))))))<|Ag (Af 0 Z ab Z)<|HQ<|NU (C1 (C1 (C1 (Bu (Dc (Bu (Ma (Bu (Dc (Bu (Gr HP)))))))))))<|Ag (Rn Z Z)<|HQ<|NU (C1 (C1 (C1 (Bu (Dc (Bu (Ma (Bu (Dc (Bu (Gr HP)))))))))))<|As 1 Z<|HQ<|AeV (s:=34) Z (fun e=>?_) (fun e=>?_)
     ·have h:=OE (Yg e) h;refine PZ e<|NU (C1 (C1 (C1 (Bu (Dc (Bu (Ma (Bu (Dc (Bu (Gr HP)))))))))))<|As 1 Z<|HQ<|PZ e<|NU (C1 (C1 (C1 (Bu (Dc (Bu (Ma (Bu (Dc (Bu (Gr HP)))))))))))<|Ag (AJ 0 Z Nu.e ab Z)<|HQ<|PZ e ?_;have al:Bk l (Ha [.box ba0 [g] 114,.row g 118 3 (m).length d,.box aa [Abu j,No a,No c] 118,.obj la0 (.loop ca0),.obj Da0 (.deferred (some []))] O) a4:=ab.DC [4,4] Z;have au:=Ck [4,4] ab al Z;have a8:Bk l (Ha [.obj la0 (.loop ca0),.obj Da0 (.deferred (some [])),.box ba0 [g] 114,.row g 118 3 (m).length d,.box aa [Abu j,No a,No c] 118] O) a4:=al.DC [4,4] Z;have av:=Ck [4,4] al a8 Z;refine Ax h fun bl h=>?_;have b:=b.trans (Ab (u.trans (ac.trans (au.trans av))))
      have bm:=@bb l a4 H ((Ha [.box aa [Abu j,No a,No c] 118] O)) g (.agg #[Abu j,No a,No c]) d [Abu j,No a,No c] m (j,a,c) hH a8 (he155_Ra0.mono b) Z ⟨_,_,Z,Z,⟨_,_,Z,Z,Z⟩⟩ bl;refine Aai bm ?_;rintro cg ⟨b7,bn,bo,aw,am⟩;refine PZ e<|NU (C1 (C1 (C1 (Bu (Dc (Bu (Ma (Bu (Dc (Bu (Gr HP)))))))))))<|As 1 Z<|HQ<|NU (C1 (C1 (C1 (Bu (Dc (Bu (Ma (Bu (Dc (Bu (Gr HP)))))))))))<|Ag (AF e Z)<|HQ<|Uz<|Co<|Au<|Aq<|Bf<|A5<|LW<|A3 ?_;have h:=Bw.out h ad;refine LW<|Ra<|AY ?_;have bp:=bo.Bl (i:=4) Z;have h:=Bw.again h ag;have hT:=hT.trans (u.trans (ac.trans (au.trans (av.trans (aw.trans (AB (i:=4) Z))))));have b:=b.trans (Ab (aw.trans (AB (i:=4) Z)));have am:=am.mono (Ab (AB (i:=4) Z))
      refine AD (_,_,_,_,_) Z ⟨bp,(q.mono b),(t.mono b),am,hT,h⟩
     have h:=OD (Yh e) h;refine NU (C1 (C1 (C1 (Bu (Dc (Bu (Ma (Bu (Dc (Bu (Gr HP)))))))))))<|Ar e<|HQ<|NU (C1 (C1 (C1 (Bu (Dc (Bu (Ma (Bu (Dc (Bu (Gr HP)))))))))))<|Ar e<|HQ<|NU (C1 (C1 (C1 (Bu (Dc (Bu (Ma (Bu (Dc (Bu (Gr HP)))))))))))<|Ar e<|HQ<|NU (C1 (C1 (C1 (Bu (Dc (Bu (Ma (Bu (Dc (Bu (Gr HP)))))))))))<|Ar e<|HQ<|NU (C1 (C1 (C1 (Bu (Dc (Bu (Ma (Bu (Dc (Bu (Gr HP)))))))))))<|Ag (AG e Z)<|HQ<|Uz<|Co<|Au<|Aq<|Bf<|A5<|LW<|A3 ?_;have h:=Bw.out h ad;refine LW<|Ra<|AY ?_;have bq:=ab.Bl (i:=0) Z;have h:=Bw.again h ag;have b:=b.trans (Ab (u.trans (ac.trans (AB (i:=0) Z))))
     have hT:=hT.trans (u.trans (ac.trans (AB (i:=0) Z)));refine AD (_,_,_,_,_) Z ⟨bq,(q.mono b),(t.mono b),(he155_Ra0.mono b),hT,h⟩
    refine Au<|Aq<|Ao<|Ag (Ae Z Ajn Z Dl.e)<|Ag (Af 0 Z ak Z)<|As 1 Z<|Ax h fun br h=>Ag (D7 br)<|Ag (Ae Z Ajn Z Dl.e)<|BE 0 Z Z ak Z Z fun ch bs ax=>Ad<|An<|As 2 Z<|Ax h fun bt h=>Ag (Ay bt)<|As 1 Z<|AE<|Az ?_;have h:=Bw.again h ad;have b:=b.trans (Ab (u.trans ax));have hT:=hT.trans (u.trans ax);refine AD (_,_,_) Z ⟨bs,(q.mono b),(t.mono b),(he155_Ra0.mono b),hT,h⟩
   refine Bf<|A5<|A3 ?_;have h:=Bw.out h ad;refine AY<|A8 (_,_,_,_,_) ⟨z,(he155_Ra0.mono b),hT,h⟩
  have hT:=hT.trans (ah.trans ai);rintro⟨p,y,f,k,o⟩ cb ⟨bu,ae,hT,h⟩;refine Bo 1 Z<|Ag (Ae Z Ajn Z BB.e)<|BE 0 Z Z bu Z Z fun a5 an ay=>Ad<|AeU<|NU (C1 (Bu (Dc (Bu (Gr HP)))))<|As 1 Z<|HQ<|NU (C1 (Bu (Dc (Bu (Gr HP)))))<|Ag (AJ 0 Z Nu.e an Z)<|HQ ?_;have ao:Bk l (Ha [.box ba0 [k] 114,.row k 118 3 (y).length o,.box aa [Abu p,No a,No f] 118,.obj la0 (.loop ca0),.obj Da0 (.deferred (some []))] O) a5:=an.DC [4,4] Z;have az:=Ck [4,4] an ao Z;have a9:Bk l (Ha [.obj la0 (.loop ca0),.obj Da0 (.deferred (some [])),.box ba0 [k] 114,.row k 118 3 (y).length o,.box aa [Abu p,No a,No f] 118] O) a5:=ao.DC [4,4] Z;have a2:=Ck [4,4] ao a9 Z;refine Ax h fun bv h=>?_;have ae:=ae.mono (Ab (ay.trans (az.trans a2)))
  have bw:=@bb l a5 H ((Ha [.box aa [Abu p,No a,No f] 118] O)) k (.agg #[Abu p,No a,No f]) o [Abu p,No a,No f] y (p,a,f) hH a9 ae Z ⟨_,_,Z,Z,⟨_,_,Z,Z,Z⟩⟩ bv;refine Aai bw ?_;rintro ci ⟨b8,bx,bz,bd,ap⟩;refine Uz<|Aw<|Al<|Bc ?_;have h:=Bw.out h ag;refine Al<|Fb ?_
  cases h
  refine Ahz ?_;have b0:=bz.Bl (i:=4) Z;have hT:=hT.trans (ay.trans (az.trans (a2.trans (bd.trans (AB (i:=4) Z)))));have ap:=ap.mono (Ab (AB (i:=4) Z));exact⟨b8,bx,Z,b0,hT,ap⟩
 refine Bf<|A5<|A3 ?_;have h:=Bw.out h ag;refine AY<|AeS ?_
 cases h
 refine Rk ⟨g,d,Z,af,hT,(a7.mono x)⟩
end Go.Proofs.YtopocbcekabkoaaGreatDoor
end
noncomputable section
namespace Go.Proofs.YtopocbcekabkoaaGreatDoor
open Go Go.E Go.RowKit
def Iter(H:PH)(v:Value)(l:Qq4):Prop:=∃p u,v=.func (.func 123) #[] #[.pointer (some p)]/\Hy H p [u]/\AS .byte H u l
theorem Iter.mono{H H':PH}{v:Value}{l:Qq4}(h:Iter H v l)(hs:Le H H'):Iter H' v l:=by
 obtain⟨p,u,a,h2,h3⟩:=h;exact⟨p,u,a,h2.mono hs,h3.mono hs⟩
abbrev rpW:Rp (Qq4×Int×Int):=.pair .st (.pair (.int .i64) (.int .i64))
noncomputable def TP(l:Qq4):Option (List (Qq4×Int×Int)):=Pd [] l
section
variable(w:World)(H:PH)(hH:Le H (hp w)) include hH
theorem Aa6{a0:Qq4}{b:Value}(e:AS .byte H b a0):
  Ok Tryz.prog 79 [b] w (fun v w'=>Ext w w'/\Iter (un H (nw w w')) v a0):=by
 refine Cj (n:=4) [(0,b)] Tryz.func79 Z Z Z Z ?_;have hL:=Bk.start w;refine Ao<|Te (t:=27) Z e.one hL fun c a d l _=>As 1 Z<|Ad<|Ao<|As 2 Z<|Ad<|Aw<|VN Z Z ?_;have f:Hy (hp c) ⟨a,0,none⟩ [b]:=AP (i:=0) d Z;have hn:a>=w.heap.size:=d.own _ (.head _) a Z;refine⟨d.ext,⟨a,0,none⟩,b,Z,⟨Z,fun j u hj=>?_⟩,e.mono (NT hH)⟩;have g:=f.2 j u hj
 have h2:un H (nw w c) a=hp c a:=by
  have h3:nw w c a=hp c a:=by unfold nw;rw[if_pos hn];rfl
  cases h:hp c a with
  | none=>
   have:=d.at (i:=0) Z;have k:c.heap[a]? = none:=h;rw[show c.heap[a]? = _ from this]at k
   cases k
  | some o=>exact GR a o (h3.trans h)
 simp only[Addr.add_lit,IW]at g ⊢;rw[h2];exact g
end
set_option maxRecDepth 10000 in
section
variable(w:World)(H:PH)(hH:Le H (hp w)) include hH
theorem Zj(hU:HG H){p:Addr}{u:Value}{l0:Qq4}(hpt:Hy H p [u])(hv:AS .byte H u l0){r:List (Qq4×Int×Int)}(h:Pd [] l0=some r):
  Ok Tryz.prog 122 [.slice none 0 0,.func (.func 123) #[] #[.pointer (some p)]] w (fun v w'=>Ext w w'/\Cd 118 rpW H w w' v r):=by
 refine AdG (k:=13) [(0,.slice none 0 0),(1,.func (.func 123) #[] #[.pointer (some p)])] Tryz.func122 Z Z Z Z ?_;have hL:=Bk.start w;refine Ao<|Te (t:=114) Z Z hL fun w1 d af ax _=>As 1 Z<|Ad<|A6<|Ao<|As 1 Z<|Ad<|A2<|Ah4 (cap:=[.pointer (some p)]) Z ⟨Tryz.f123,_,Tryz.func123,Z,Z⟩ af ?_;intro a fr fn l D w2 rec hrec ag ay
 have hY:AeW Tryz.prog rpW 3 32 l D d rec 114 118:=by
  subst hrec;refine Afa (p:=7) (k:=13) Z Z Z ⟨fr.size,Z,fr.get⟩ Z ?_;intro x0 x1 G P v y xs c m x hG hM he hy hx hc;obtain⟨xa,xb,xc⟩:=x;obtain⟨_,_,rfl,rfl,_,_,rfl,rfl,rfl⟩:=hx;refine Yi Z Ah3<|AO Nu.e Z hM fun w3 bx ah f _=>Ux 0 Z Z hy Nu.e ah Z Z (CB Z (CB Z (CB Z Ps))) fun w4 ai g=>AE<|AeZ (i:=1) Z ai Z fun w5 b j=>AeX<|Yi Z (Bu AeY)<|Ag (Ri 3 Z b Z Z)<|Ag (AJ 0 Z Nu.e b Z)<|Bx [(xa,xb,xc)] (r:=rpW) (fun _=>Aat _ _ _ _) (hlen:=(show 1<=9223372036854775807 by decide)) (hH:=hG) b (.c3 ⟨_,_,Z,Z,_,_,Z,Z,Z⟩ .nil) fun v6 w6 a6 aj n ak=>Bp (r:=rpW) 4 m [(xa,xb,xc)] Z Tryz.underlying114 (hH:=hG) aj Z (((he.mono (Ab (hH:=hG) f)).mono (Ab (hH:=hG) g)).mono (Ab (hH:=hG) j) |>.mono (Ab (hH:=hG) n)) ak hc fun v7 w7 al o am an=>BE 3 Z (row_one (o.at (i:=4) Z)) o Z Z fun w8 ao q=>AE<|Az<|YV (i:=1) ao Z ?_;intro w9 ap s;refine⟨Z,v7,al,ap.Bl (i:=0) Z,((((((f.trans g).trans j).trans n).trans am).trans q).trans s).trans (AB (i:=0) Z),?_⟩
  exact((an.mono (Ab (hH:=hG) q)).mono (Ab (hH:=hG) s)).mono (Ab (hH:=hG) (AB (i:=0) Z))
 obtain⟨aq,a3,a7⟩:=Cp rpW H 118 ag
 have ar:(yR l D d rec 114 118 3 (.slice none 0 0) ([]:List (Qq4×Int×Int)).length []++[]).Perm (.row (.slice none 0 0) 118 rpW.sz ([]:List (Qq4×Int×Int)).length []::[.obj l (.loop rec),.obj D (.deferred (some [])),.box d [.slice none 0 0] 114]):=
  List.perm_append_comm (l₁:=([.obj l (.loop rec),.obj D (.deferred (some [])),.box d [.slice none 0 0] 114]:List BV)) (l₂:=([.row (.slice none 0 0) 118 3 0 []]:List BV))
 have au:=aq.perm ar;have hc:=UB hH hU (O:=[]) hY au .nil (hv.mono  Aj) (hpt.mono  Aj) h;refine hc.2.mono fun e w5 ⟨v5,av,hR⟩=>⟨⟨v5,av⟩,?_⟩;obtain⟨u0,y0,_,aw,a5,ab⟩:=hR;refine⟨_,aw,fun w6 z ac=>?_⟩;refine Az<|Aq<|Ao<|Ag (Ri 2 Z z Z Z)<|As 1 Z<|Ad<|Aw<|Ah5 (i:=1) (l:=[.tmp 4]) Z Z z Z ?_;intro w7 aa ad;exact⟨aa.ext,aa.FV hH (i:=3) Z ((ab.mono (Ab ac)).mono (Ab ad))⟩
theorem WT(hU:HG H){a:Value}{a0:Qq4}(b:Iter H a a0){r:List (Qq4×Int×Int)}(h:TP a0=some r):
  Ok Tryz.prog 78 [a] w (fun v w'=>Ext w w'/\∃c,v=c/\Cd 118 rpW H w w' c r):=by
 obtain⟨p,u,rfl,h2,h3⟩:=b;refine Cj (n:=5) [(0,.func (.func 123) #[] #[.pointer (some p)])] Tryz.func78 Z Z Z Z<|Ao<|As 1 Z<|Ad<|Ao<|As 1 Z<|Fh (Zj w H hH hU h2 h3 h) ?_;intro v w' ⟨hx,ho⟩;refine As 1 Z<|Ad<|Aw<|VN Z Z ⟨hx,_,Z,ho⟩
end
end Go.Proofs.YtopocbcekabkoaaGreatDoor
end
noncomputable section
namespace Go.Proofs.YtopocbcekabkoaaGreatDoor
open Go Go.E Go.RowKit Go.L
set_option maxHeartbeats 1000000
set_option maxRecDepth 10000
open _root_.Go.Proofs.Tryz
def Lb(a0:Abv):Option (Alx×Qq7):=
 if 2048<(a0.length:Int)then Qq9 (DX (3:Int) (-1:Int)) (fun a=>some ([],(a.1,a.2)))else Qq9 (TP a0) (fun b=>some (b,(0,0)))
section
variable(w:World)(H:PH)(hH:Le H (hp w)) include hH
theorem WU(hU:HG H){a0:Abv}{b:Value}(e:AS .byte H b a0){r:Alx×Qq7}(h:Lb a0=some r):
  Qqv 46 [b] w (fun v w'=>∃p,v=.tuple #[p,.agg #[No r.2.1,No r.2.2]]/\Cd 118 (.pair .st AlA) H w w' p (r.1)):=by
 refine A4 12 [(0,b)] func46 Z fun hL=>Bo 1 Z<|AO AI.e Z hL fun w1 b1 a ab _=>Ad<|A6<|Bo 1 Z<|Ag (AZ e)<|AA 1 Z<|AL h ?_ ?_<;>intro q h
 ·refine Ao<|A1 h fun x4 s h=>A9 a (CF _ _ (Av a) s) fun w5 ag t ac=>As 1 Z<|Ak 0 Z t Z fun w6 m ad=>Ad<|Aw<|Am ?_
  cases h
  refine Bv (.tmp Z) (.cell Z Ae3 Z AI.e (AP (i:=0) m Z)) ⟨m.ext,_,Z,Cd.nil⟩
 refine Au<|Aq<|Bo 1 Z<|Br a (Aa6 _ _ (Av a) (e.mono  Aj)) ?_;intro u8 w8 u x f ae;have y:=u.mono (Kk hH a x);refine A1 h fun x9 z h=>Br f (WT _ _ (Av f) (hU.mono  Aj) y z) ?_;rintro aa ah ⟨_,rfl,g⟩ o j k;obtain⟨af,j,k,c⟩:=g.take hH f o;refine Ag (Ba (fun _=>B8 _))<|As 1 Z<|Ak 1 Z j Z fun ai d l=>Ad<|Aw ?_
 cases h
 refine Bv (.tmp Z) (.cell Z Ae3 Z AI.e (AP (i:=1) d Z)) ?_;have c:=c.mono (Ab l);exact⟨d.ext,_,Z,(d.FV hH (i:=0) Z c)⟩
def N8(a0:Abv):Option Bool:=
 AU (a0.length<=9223372036854775807) (Qq9 (TP a0) (fun a=>if(a.length:Int)=1 then AU (0<=(0:Int)/\(0:Int)<(a.length:Int)) (some (decide ((a.getD ((0:Int).toNat) Qq2).1=a0)))else some false))
theorem VE(hU:HG H){a0:Abv}{r:Bool}(h:N8 a0=some r):
  Qqv 188 [Abu a0] w (fun v w'=>v=.bool r):=by
 refine A4 19 [(0,(Abu a0))] func188 Z fun hL=>A7 1 Z<|Bo 1 Z<|Ax h fun j h=>AcL (H:=H) hL j fun v1 w1 z c t k=>Br c (Aa6 _ _ (Av c) k) ?_;intro u3 w3 l m d u;have o:=l.mono (Kk hH c m);refine A1 h fun x4 p h=>Br d (WT _ _ (Av d) (hU.mono  Aj) o p) ?_;rintro x w5 ⟨_,rfl,f⟩ q e y;have b:=f.Cu hH d q;refine AA 1 Z<|Bo 1 Z<|Ag (AZ b)<|As 2 Z<|Bz 11 h ?_ ?_<;>intro a h
 ·refine Aa a<|Ag (Ai Z)<|Aa a<|Ax h fun g h=>AW b ((0:Int).toNat) (Cx g) (AM g) ?_;rintro p8 _ ⟨_,_,rfl,rfl,⟨_,_,rfl,rfl,rfl⟩⟩ s;refine Aa a<|Ag (Ae Z Ajn Z Dl.e) ?_;have i:=s.add 0;refine Aa a<|Ag (AT i (Av e))<|Aa a<|Ag (Ai Z)<|Aa a<|Ag (Kj Z Z)<|Ag (AF a Z)<|AA 1 Z<|Aw ?_
  cases h
  refine Ah Z ⟨e.ext,Z⟩
 iterate 6 refine Ar a ?_
 refine Ag (AG a Z)<|AA 1 Z<|Aw ?_
 cases h
 refine Ah Z ⟨e.ext,Z⟩
def HL(a0:Abv):Option Al5:=
 if 64<(a0.length:Int)then Qq9 (DX (3:Int) (-1:Int)) (fun b=>some ((b.1,b.2)))else Qq9 (N8 a0) (fun c=>if !c then Qq9 (DX (6:Int) (-1:Int)) (fun a=>some ((a.1,a.2)))else some ((0,0)))
theorem J3(hU:HG H){a0:Abv}{r:Al5}(h:HL a0=some r):
  Qqv 143 [Abu a0] w (fun v w'=>v=.agg #[No r.1,No r.2]):=by
 refine A4 12 [(0,(Abu a0))] func143 Z fun hL=>Ao<|AO AI.e Z hL fun w1 b1 a t _=>Ad<|A6<|Bo 1 Z<|Ag (Gq Z)<|AA 1 Z<|AL h ?_ ?_<;>intro k h
 ·refine Ao<|A1 h fun x4 l h=>A9 a (CF _ _ (Av a) l) fun w5 aa m u=>Ak 0 Z m Z fun w6 e x=>Ad<|Aw<|Am ?_
  cases h
  refine BX (.cell Z Ae3 Z AI.e (AP (i:=0) e Z)) ⟨e.ext,Z⟩
 refine Au<|Aq<|A6<|Bo 1 Z<|A1 h fun x8 o h=>A9 a (VE _ _ (Av a) (hU.mono  Aj) o) fun w9 ab b y=>AA 1 Z<|Bi h ?_ ?_<;>intro f h
 ·refine Ao<|A1 h fun ac g h=>A9 b (CF _ _ (Av b) g) fun ad z j p=>Ak 0 Z j Z fun ae c q=>Ad<|Aw<|Am ?_
  cases h
  refine BX (.cell Z Ae3 Z AI.e (AP (i:=0) c Z)) ⟨c.ext,Z⟩
 refine Au<|Aq<|Ao<|Ag (Ba (fun _=>B8 _))<|Ak 0 Z b Z fun af d s=>Ad<|Aw ?_
 cases h
 refine BX (.cell Z Ae3 Z AI.e (AP (i:=0) d Z)) ⟨d.ext,Z⟩
end
end Go.Proofs.YtopocbcekabkoaaGreatDoor
end
noncomputable section
namespace Go.Proofs.YtopocbcekabkoaaGreatDoor
open Go Go.E Go.RowKit Go.Shelf Go.Maps Go.Sort Go.WideElems Go.MapKept
abbrev rpH:Rp Qq7:=.pair (.int .i64) (.int .i64)
abbrev AkE(H:PH)(v:Value)(l:List (Qq4×List Qq7)):Prop:=XH encS (.vec rpH) H v l
def Aa7(H:PH)(v:Value)(l:List (Qq4×List Qq7)):Prop:=∃b u,v=.func (.func 127) #[] #[.pointer (some ⟨b,0,none⟩)]/\H b=some (.cells #[u] 113 (0,0))/\AkE H u l
theorem Aa7.mono{H H':PH}{v:Value}{l:List (Qq4×List Qq7)}(h:Aa7 H v l)(hs:Le H H'):Aa7 H' v l:=by
 obtain⟨b,u,a,h2,h3⟩:=h;exact⟨b,u,a,hs _ _ h2,h3.mono hs⟩
section
variable(w:World)(H:PH)(hH:Le H (hp w)) include hH
theorem AhT{v:Value}{l:List (Qq4×List Qq7)}(hm:AkE H v l):Ok Tryz.prog 81 [v] w (fun v' w'=>Ext w w'/\Aa7 (un H (nw w w')) v' l):=by
 obtain⟨b,vs,rfl,h⟩:=id hm;have hc:CallsIn Fence.wide 5 Tryz.prog 81 #[.map (some b)] w fun e w'=>e=.returned (.func (.func 127) #[] #[.pointer (some ⟨w.heap.size,0,none⟩)])/\w'=w.alloc (.cells #[.map (some b)] 113):=AnyZ.keys_in Tryz.AiM Fence.wide 5 trivial Z (some b) w;refine⟨⟨Tryz.f81,_,Tryz.func81,Z,Z⟩,(callsIn_wide.1 hc).mono fun e w' he=>?_⟩;obtain⟨rfl,rfl⟩:=he;refine⟨_,Z,CW w _,w.heap.size,.map (some b),Z,?_,hm.mono (NT hH)⟩;refine GR _ _ ?_;unfold nw;rw[if_pos (Qzu _)];exact World.alloc_heap_new w _
end
theorem Sg{κ:Type}{enc:κ->Value}:∀(l:List κ) (vs:Qq6) (i:Nat),l.length=vs.length->(mE enc i l vs).map (·.born)=List.range' i l.length
 | [],[],_,_=>rfl
 | a::l,u::vs,i,h=>by
  simp only[mE,QzA,List.length_cons,List.range'_succ];rw[Sg l vs (i+1) (by simpa using h)]
theorem Zk{κ:Type}{enc:κ->Value}:∀(l:List κ) (vs:Qq6) (i:Nat),l.length=vs.length->(mE enc i l vs).map (·.key)=l.map enc
 | [],[],_,_=>rfl
 | a::l,u::vs,i,h=>by
  simp only[mE,QzA];rw[Zk l vs (i+1) (by simpa using h)]
def AfF:Value->Option (DataW Unit×List MemPlace):=fun _=>some (.nil,[])
theorem Aa8{P:Program}{k:TypeId}(hk:P.underlying k=some .string){s:Qq4}(h:s.length<=maxLen):keyOf P k (encS s)=some (.string s):=by
 have:(ByteArray.mk s.toArray).size<=maxLen:=h;simp[keyOf,hk,mapKey,encS,this]
theorem Ajd{P:Program}{k:TypeId}(hk:P.underlying k=some .string):∀(l:Qq8) (vs:Qq6) (i:Nat),l.length=vs.length->(∀x∈l,x.length<=maxLen)->
  (mE encS i l vs).map (rg P k AfF)=l.map fun s=>(Lit.string s,(DataW.nil:DataW Unit))
 | [],[],_,_,_=>rfl
 | a::l,u::vs,i,h,hb=>by
  simp only[mE,QzA];rw[Ajd hk l vs (i+1) (by simpa using h) (fun x hx=>hb x (.tail _ hx))]
  congr 1
  simp[WideElems.rg,WideElems.rd,Aa8 hk (hb a (.head _)),AfF]
def Zl{β:Type}(l:List (Qq4×β)):Prop:=(l.map Qzz).Nodup/\(∀x∈l.map Qzz,x.length<=maxLen)/\l.length * 16<=140737488355328
noncomputable instance {β:Type} (l:List (Qq4×β)):Decidable (Zl l):=Classical.propDecidable _
noncomputable def Ti{β:Type}(l:List (Qq4×β)):Option Qq8:=Go.L.AU (Zl l) (some ((l.map Qzz).mergeSort leB))
theorem AkF(m:Nat):AnyZ.SortsIn Tryz.prog Tryz.Vb Fence.wide m:=
 ⟨fun blk off cap ss W hH hblk hsz=>callsIn_wide.2 (Any.slices_Sort_string Tryz.AiK blk off cap ss W hH hblk hsz),
  fun p cap W=>callsIn_wide.2 (Any.slices_Sort_string_none Tryz.AiK p cap W)⟩
theorem Yr(G:PH):∀l:Qq8,AK Rp.st G l (l.map Go.Proofs.encStr)
 | []=>.nil
 | _::l=>.cons (c:=[_]) Z (Yr G l)
section
variable(w:World)(H:PH)(hH:Le H (hp w)) include hH
theorem AdT{v:Value}{l:List (Qq4×List Qq7)}(hi:Aa7 H v l){r:Qq8}(h:Ti l=some r):
  Ok Tryz.prog 80 [v] w (fun v' w'=>Ext w w'/\∃f,v'=f/\Cd 9 .st H w w' f r):=by
 obtain⟨⟨hnd,hlen,hby⟩,h⟩:=Go.L.Gp h;obtain rfl:=Option.some.inj h;obtain⟨bx,u,rfl,hbx,b,vs,rfl,hb,hl,_⟩:=hi;have hbx':w.heap[bx]? = _:=hH _ _ hbx;have hb':w.heap[b]? = _:=hH _ _ hb;have hlk:(l.map Qzz).length=vs.length:=by rw[Qza];exact hl
 have hml:(mE encS 0 (l.map Qzz) vs).length=l.length:=by rw[U1 _ _ _ hlk,Qza]
 have hrg:=Ajd (P:=Tryz.prog) Tryz.underlying9 (l.map Qzz) vs 0 hlk hlen
 have hown:w.ownsMap Tryz.prog 9 AfF b l.length (.map (((mE encS 0 (l.map Qzz) vs).map (rg Tryz.prog 9 AfF)).foldr DataW.insert [])):=by
  refine⟨_,_,hb',⟨?_,⟨?_,?_,?_⟩,?_⟩,?_,Z⟩
  ·rw[Qjy,hml];unfold maxLen;omega
  ·intro x hx;have c:x.born∈(mE encS 0 (l.map Qzz) vs).map (·.born):=QkE (by simpa using hx);rw[Sg _ _ _ hlk,List.mem_range'_1,Qza]at c;omega
  ·rw[List.toList_toArray,Sg _ _ _ hlk];exact List.nodup_range'
  ·rw[List.toList_toArray,Zk _ _ _ hlk];exact List.pairwise_map.2 (hnd.imp fun {a b} hab he=>hab (by simpa[encS]using he))
  ·intro x hx;have hx':x∈mE encS 0 (l.map Qzz) vs:=by simpa using hx
   have c:x.key∈(mE encS 0 (l.map Qzz) vs).map (·.key):=QkE hx';rw[Zk _ _ _ hlk]at c;obtain⟨s,hs,he⟩:=List.mem_map.1 c;exact⟨(.string s,.nil),by simp[WideElems.rd,<- he,Aa8 Tryz.underlying9 (hlen s hs),AfF]⟩
  ·rw[Qjy,hml];exact Qzu _
 rw[hrg]at hown
 have hq:∀ks:Qq8,(strKeys (.map ((ks.map fun s=>(Lit.string s,(DataW.nil:DataW Unit))).foldr DataW.insert []))).Perm ks:=fun ks=>by
  have c:=(WideShapes.sorted_perm (ks.map fun s=>(Lit.string s,(DataW.nil:DataW Unit)))).map (fun p=>strOf p.1);rw[List.map_map]at c;have h2:((fun p:Lit×DataW Unit=>strOf p.1)∘fun s=>(Lit.string s,(DataW.nil:DataW Unit)))=id:=by funext s;rfl
  rw[h2,List.map_id]at c;exact c
 have hperm:=hq (l.map Qzz)
 have hsz:Go.Maps.size (.map (((l.map Qzz).map fun s=>(Lit.string s,(DataW.nil:DataW Unit))).foldr DataW.insert []))=l.length:=by
  have c:=(WideShapes.sorted_perm ((l.map Qzz).map fun s=>(Lit.string s,(DataW.nil:DataW Unit)))).length_eq;rw[Qza,Qza]at c;exact c
 have hseq:SeqGives Fence.wide 2 Tryz.prog 127 #[.pointer (some ⟨bx,0,none⟩)] Go.Proofs.encStr (fun ss=>ss.Perm (strKeys (.map (((l.map Qzz).map fun s=>(Lit.string s,(DataW.nil:DataW Unit))).foldr DataW.insert [])))) (Go.Maps.size (.map (((l.map Qzz).map fun s=>(Lit.string s,(DataW.nil:DataW Unit))).foldr DataW.insert []))) w:=
  AnyZ.keys_gives (ρ:=Tryz.XZ) {Tryz.AiM with} Fence.wide _ trivial Z U bx b l.length _ _ (EJ hbx') (by simp[World.cell?,hbx']) hown
 have cS:=AnyZ.sorted_in Tryz.Ahk Fence.wide 5 trivial trivial trivial trivial Z U (AkF _) (enters_of Tryz.func126 Qqb Z) 127 #[.pointer (some ⟨bx,0,none⟩)] trivial (enters_of Tryz.func127 Qqb Z) _ _ (by rw[hsz];unfold maxLen;omega) (by rw[hsz];exact hby) _ hseq
 change CallsIn _ _ Tryz.prog 80 _ _ _ at cS
 refine⟨⟨Tryz.f80,_,Tryz.func80,Z,Z⟩,(callsIn_wide.1 cS).mono fun e w' he=>?_⟩;obtain⟨v',ss,rfl,hS,hrow,_,hbel⟩:=he;refine⟨_,Z,Ext.off hbel,v',Z,_,?_,Yr _ _⟩;have d:ss.mergeSort leB=(l.map Qzz).mergeSort leB:=mergeSort_of_perm (hS.trans hperm);have g:ss.length=((l.map Qzz).mergeSort leB).length:=by rw[<- d];simp
 rw[g]at hrow;rw[<- d];rw[<- d]at hrow;exact hrow
end
end Go.Proofs.YtopocbcekabkoaaGreatDoor
end
noncomputable section
namespace Go
abbrev Al8:=(Int×Al1)×Qq7
end Go
namespace Go.Proofs.YtopocbcekabkoaaGreatDoor
open Go Go.E Go.RowKit Go.L
set_option maxHeartbeats 1000000
set_option maxRecDepth 10000
open _root_.Go.Proofs.Tryz
def Bg(a0 a1:Int):Option Int:=
 Qq9 (H7 a0) (fun a=>AU (Bq (a1+a)) (some ((a1+a))))
theorem Dt{d w:World}{H:PH}(_hH:Le H (hp d))(O:List BV)(a0 a1:Int){ba1:Nat}(hL:Bk d (Ha [.box ba1 [No a1] 3] O) w){r:Int}(h:Bg a0 a1=some r):
  Ok prog 83 [No a0,Abo ba1] w (fun v w'=>v=.tuple #[]/\Bk d (Ha [.box ba1 [No r] 3] O) w'/\Le (fz w (Ha [.box ba1 [No a1] 3] O)) (fz w' (Ha [.box ba1 [No r] 3] O))):=by
 refine Cj (n:=7) [(0,No a0),(1,(Abo ba1))] func83 Z Z Z Z ?_;have hT:=Le.refl (fz w (Ha [.box ba1 [No a1] 3] O));refine LX (Qqz 0 4 (.tail 4)) mixed Qqb (fun o b=>?_);have a:=hL.call b;have e:=AH hL b;refine B2 Z (Af 0 Z a Z) Z<|B9 1 Z<|A1 h fun p i h=>Er Z Z Z (fun s m=>TJ _ _ (Le.refl _) i)<|Ax h fun j h=>B2 Z (Ay j) Z<|Bt (fun t c=>?_);have k:=a.call c;have f:=AH a c;refine BE 0 Z Z k Z Z fun u l g=>AE ?_
 cases h
 refine Rk ?_;have hT:=hT.trans (e.trans (f.trans g));exact⟨Z,l,hT⟩
def Ih(a b:Int):Option (Qq7⊕(Int)):=
 AU (Bq (a+1)) (some (Sum.inl (b,(a+1))))
def Ci(a0:Int×Al1)(b:Int):Int×Int×Int×Int->Option ((Int×Int×Int×Int)⊕(Qq7⊕(Int))):=fun⟨c,e,d,a⟩=>
 if a<(((a0.2.getD b.toNat Qq2).2).length:Int)then AU (0<=a/\a<(((a0.2.getD b.toNat Qq2).2).length:Int)) (if(((a0.2.getD b.toNat Qq2).2).getD a.toNat Qq2).1=c then Qq9 (Bg (1:Int) d) (fun f=>AU (Bq ((((a0.2.getD b.toNat Qq2).2).getD a.toNat Qq2).2 - e)) (Qq9 (Bg ((((a0.2.getD b.toNat Qq2).2).getD a.toNat Qq2).2 - e) f) (fun g=>AU (Bq (a+1)) (some (Sum.inl ((((a0.2.getD b.toNat Qq2).2).getD a.toNat Qq2).1,(((a0.2.getD b.toNat Qq2).2).getD a.toNat Qq2).2,g,(a+1)))))))else AU (Bq (1+(((a0.2.getD b.toNat Qq2).2).getD a.toNat Qq2).1)) (AU (Bq ((1+(((a0.2.getD b.toNat Qq2).2).getD a.toNat Qq2).1) - c)) (Qq9 (Bg ((1+(((a0.2.getD b.toNat Qq2).2).getD a.toNat Qq2).1) - c) d) (fun h=>AU (Bq ((((a0.2.getD b.toNat Qq2).2).getD a.toNat Qq2).2+1)) (Qq9 (Bg ((((a0.2.getD b.toNat Qq2).2).getD a.toNat Qq2).2+1) h) (fun i=>AU (Bq (a+1)) (some (Sum.inl ((((a0.2.getD b.toNat Qq2).2).getD a.toNat Qq2).1,(((a0.2.getD b.toNat Qq2).2).getD a.toNat Qq2).2,i,(a+1))))))))))else Qzx Sum.inr ((Ih b) d)
def Lv(a0:Int×Al1)(a:Int)(s:Int×Int×Int×Int):Option (Qq7⊕(Int)):=Go.L.run (Ci a0 a) s
def Ii(a0:Int×Al1)(a b:Int):Option (Qq7⊕(Int)):=
 Qq9 (Bg (((a0.2.getD a.toNat Qq2).2).length:Int) b) (fun c=>(Lv a0 a) (0,(-1),c,0))
def CY(a0:Int×Al1)(b:Int):Int×Int->Option (Qq7⊕(Qq7⊕(Int))):=fun⟨c,a⟩=>
 if a<(((a0.2.getD b.toNat Qq2).1).length:Int)then AU (0<=a/\a<(((a0.2.getD b.toNat Qq2).1).length:Int)) (AU (Bq (((((a0.2.getD b.toNat Qq2).1).getD a.toNat Qq2).toNat:Int)+1)) (Qq9 (Bg (((((a0.2.getD b.toNat Qq2).1).getD a.toNat Qq2).toNat:Int)+1) c) (fun d=>AU (Bq (a+1)) (some (Sum.inl (d,(a+1)))))))else Qzx Sum.inr ((Ii a0 b) c)
def Lx(a0:Int×Al1)(a:Int)(s:Int×Int):Option (Qq7⊕(Int)):=Go.L.run (CY a0 a) s
def CZ(a0:Int×Al1):Int×Int->Option (Qq7⊕(Int)):=fun⟨b,a⟩=>
 if a<(a0.2.length:Int)then AU (0<=a/\a<(a0.2.length:Int)) (Qq9 (Bg (((a0.2.getD a.toNat Qq2).1).length:Int) b) (fun c=>AU (((a0.2.getD a.toNat Qq2).1).length<=9223372036854775807) ((Lx a0 a) (c,0))))else Qzx Sum.inr (some b)
def Ly(a0:Int×Al1)(s:Int×Int):Option Int:=Go.L.run (CZ a0) s
def Hs(a0:Int×Al1)(a1_c0:Int):Option Int:=
 AU (Bq (a0.1+1)) (Qq9 (Bg (a0.1+1) a1_c0) (fun a=>AU (Bq ((a0.2.length:Int)+1)) (Qq9 (Bg ((a0.2.length:Int)+1) a) (fun b=>(Ly a0) (b,0)))))
theorem Qo{k w:World}{H:PH}(hH:Le H (hp k)){O:List BV}{a0:Int×Al1}{a1_c0:Int}{va0_1:Value}{ba1_c0:Nat}(hL:Bk k (Ha [.box ba1_c0 [No a1_c0] 3] O) w)(y:AS (.pair .st (.vec AlA)) (gz H k w (Ha [.box ba1_c0 [No a1_c0] 3] O)) va0_1 (a0.2)){r:Int}(h:Hs a0 a1_c0=some r):
  Ok prog 82 [.agg #[No a0.1,va0_1],.func (.func 83) #[] #[Abo ba1_c0]] w (fun v w'=>v=.tuple #[]/\Bk k (Ha [.box ba1_c0 [No r] 3] O) w'/\Le (fz w (Ha [.box ba1_c0 [No a1_c0] 3] O)) (fz w' (Ha [.box ba1_c0 [No r] 3] O))):=by
 refine Cj (n:=91) [(0,.agg #[No a0.1,va0_1]),(1,.func (.func 83) #[] #[Abo ba1_c0])] func82 Z Z Z Z ?_;have hT:=Le.refl (fz w (Ha [.box ba1_c0 [No a1_c0] 3] O));refine Ao<|BM (t:=40) Z Z hL fun w1 q b2 b3 _=>Ad<|Bo 1 Z<|Ag (Ae Z Ajm Z BB.e)<|Ag (Af 0 Z b2 Z)<|Ax h fun dm h=>Ag (Ay dm) ?_;have db:Bk k (Ha [.box ba1_c0 [No a1_c0] 3,.box q [No a0.1,va0_1] 40] O) w1:=b2.DC [1] Z;have b4:=Ck [1] b2 db Z;refine A1 h fun x4 dn h=>D6 Z Z (Dt hH (Ha [.box q [No a0.1,va0_1] 40] O) (a0.1+1) a1_c0 db dn) ?_;rintro _ w5 ⟨rfl,dc,b5⟩;refine Ad<|Bo 1 Z<|Ag (Ae Z Ajm Z AbF.e)<|Ag (Af 1 Z dc Z) ?_;have y:=y.mono (Ab (b3.trans (b4.trans b5)));refine Ag (AZ y)<|Ax h fun dp h=>Ag (Ay dp)<|A1 h fun x7 dq h=>D6 Z Z (Dt hH (Ha [.box q [No a0.1,va0_1] 40] O) (((a0.2.length:Int)+1)) x4 dc dq) ?_;rintro _ w8 ⟨rfl,dd,b6⟩
 refine Ad<|Ao<|Ag (Ae Z Ajm Z AbF.e)<|Ag (Af 1 Z dd Z) ?_;have y:=y.mono (Ab b6);refine Ag (AZ y)<|AA 1 Z<|A2 ?_;obtain⟨be,h⟩:=AR h;have hT:=hT.trans (b3.trans (b4.trans (b5.trans b6)));refine Bj (Int×Int×Nat) (fun⟨aa,a,n⟩=>[(1,.func (.func 83) #[] #[Abo ba1_c0]),(23,va0_1),(24,No (a0.2.length:Int)),(25,No a)]) (fun⟨aa,a,n⟩ wr=>C5 k (Ha [.box ba1_c0 [No aa] 3,.box q [No a0.1,va0_1] 40] O) wr fun Oz=>AS (.pair .st (.vec AlA)) (gz H k wr Oz) va0_1 (a0.2)/\Le (fz w (Ha [.box ba1_c0 [No a1_c0] 3] O)) (fz wr Oz)/\DR (CZ a0) n (aa,a)=some r) (fun⟨aa,a,n⟩=>n) (x7,0,be) Z ⟨dd,y,hT,h⟩ ?_;rintro⟨aa,a,nn119⟩ dr ⟨a6,z,hT,h⟩;obtain⟨be,a7,rfl,h,bg⟩:=AQ h;refine A7 1 Z<|A6<|AL h ?_ ?_<;>intro cb h
 ·refine Au<|Aq<|Bb Int (fun aj=>[(1,.func (.func 83) #[] #[Abo ba1_c0]),(23,va0_1),(24,No (a0.2.length:Int)),(25,No a)]) (fun aj wr=>C5 k (Ha [.box ba1_c0 [No aj] 3,.box q [No a0.1,va0_1] 40] O) wr fun Oz=>AS (.pair .st (.vec AlA)) (gz H k wr Oz) va0_1 (a0.2)/\Le (fz w (Ha [.box ba1_c0 [No a1_c0] 3] O)) (fz wr Oz)/\(Ih a) aj=some a7) ?_ ?_
  ·refine A2<|Ao<|Ax h fun bh h=>AW z a.toNat (Cx bh) (AM bh) ?_;rintro d0 _ ⟨_,_,rfl,rfl,⟨e228v1,rfl,e228h1⟩⟩ cc;refine Ag (BI cc (Av a6))<|AO SD.e Z a6 fun d1 c cd ac _=>Ak 0 Z cd Z (a:=(CB Z (CB e228h1.one Ps))) fun de a8 ad=>Ad<|Bo 1 Z<|Ag (Ae Z Ajf Z Dl.e)<|Ag (Af 0 Z a8 Z)<|Ag (Gq Z) ?_;have bi:Bk k (Ha [.box ba1_c0 [No aa] 3,.box c [.string ⟨((a0.2.getD a.toNat Qq2).1).toArray⟩,e228v1] 164,.box q [No a0.1,va0_1] 40] O) de:=a8.DC [1] Z;have ae:=Ck [1] a8 bi Z;refine A1 h fun df ce h=>D6 Z Z (Dt hH ((Ha [.box c [.string ⟨((a0.2.getD a.toNat Qq2).1).toArray⟩,e228v1] 164,.box q [No a0.1,va0_1] 40] O)) ((((a0.2.getD a.toNat Qq2).1).length:Int)) aa bi ce) ?_;rintro _ d2 ⟨rfl,bj,af⟩;refine Ad ?_
   refine Bb Int (fun ak=>[(1,.func (.func 83) #[] #[Abo ba1_c0]),(5,(Abo c)),(23,va0_1),(24,No (a0.2.length:Int)),(25,No a)]) (fun ak wr=>C5 k (Ha [.box ba1_c0 [No ak] 3,.box c [.string ⟨((a0.2.getD a.toNat Qq2).1).toArray⟩,e228v1] 164,.box q [No a0.1,va0_1] 40] O) wr fun Oz=>AS (.pair .st (.vec AlA)) (gz H k wr Oz) va0_1 (a0.2)/\AS AlA (gz H k wr Oz) e228v1 ((a0.2.getD a.toNat Qq2).2)/\Le (fz w (Ha [.box ba1_c0 [No a1_c0] 3] O)) (fz wr Oz)/\(Ii a0 a) ak=some a7) ?_ ?_
   ·refine Ao<|Ag (Ae Z Ajf Z Dl.e)<|Ag (Af 1 Z bj Z)<|Ax h fun cf h=>AcL (H:=H) bj cf fun b7 d3 ds cg al bk=>Ag (AZ bk)<|AA 1 Z<|A2 ?_;obtain⟨bf,h⟩:=AR h;have z:=z.mono (Ab (ac.trans (ad.trans (ae.trans (af.trans al)))));have e228h1:=e228h1.mono (Ab (ac.trans (ad.trans (ae.trans (af.trans al)))));have hT:=hT.trans (ac.trans (ad.trans (ae.trans (af.trans al))))
    refine Bj (Int×Int×Nat) (fun⟨ab,e,n⟩=>[(1,.func (.func 83) #[] #[Abo ba1_c0]),(5,(Abo c)),(23,va0_1),(24,No (a0.2.length:Int)),(25,No a),(36,b7),(37,No (((a0.2.getD a.toNat Qq2).1).length:Int)),(38,No e)]) (fun⟨ab,e,n⟩ wr=>C5 k (Ha [.box ba1_c0 [No ab] 3,.box c [.string ⟨((a0.2.getD a.toNat Qq2).1).toArray⟩,e228v1] 164,.box q [No a0.1,va0_1] 40] O) wr fun Oz=>AS (.pair .st (.vec AlA)) (gz H k wr Oz) va0_1 (a0.2)/\AS .byte (gz H k wr Oz) b7 ((a0.2.getD a.toNat Qq2).1)/\AS AlA (gz H k wr Oz) e228v1 ((a0.2.getD a.toNat Qq2).2)/\Le (fz w (Ha [.box ba1_c0 [No a1_c0] 3] O)) (fz wr Oz)/\DR (CY a0 a) n (ab,e)=some a7) (fun⟨ab,e,n⟩=>n) (df,0,bf) Z ⟨cg,z,bk,e228h1,hT,h⟩ ?_;rintro⟨ab,e,nn280⟩ dt ⟨ai,a3,a4,a5,hT,h⟩;obtain⟨bf,d4,rfl,h,bl⟩:=AQ h;have l:=ai.rG H;refine A7 1 Z<|A6<|AL h ?_ ?_<;>intro ch h
    ·refine Au<|Aq<|A6<|A2<|Ao<|Ax h fun bm h=>AW (a4.mono l) e.toNat (Cx bm) (AM bm) ?_;rintro d5 _ rfl ci;refine Ag (AT ci (Av ai))<|AA 1 Z<|An<|As 2 Z<|Ag (Gn (Hz _))<|Ax h fun cj h=>Ag (Ay cj)<|A1 h fun dg ck h=>D6 Z Z (Dt hH ((Ha [.box c [.string ⟨((a0.2.getD a.toNat Qq2).1).toArray⟩,e228v1] 164,.box q [No a0.1,va0_1] 40] O)) ((((((a0.2.getD a.toNat Qq2).1).getD e.toNat Qq2).toNat:Int)+1)) ab ai ck) ?_;rintro _ d6 ⟨rfl,cl,bd⟩;refine AE<|Az<|Aq<|An<|Ax h fun cm h=>Ag (Ay cm)<|As 1 Z<|AE ?_;have h:=Bw.again h bl;have l:=l.trans (Ab bd);have hT:=hT.trans bd;refine AD (_,_,_) Z ⟨cl,(a3.mono l),(a4.mono l),(a5.mono l),hT,h⟩
    refine Bf<|A5<|A3 ?_;have h:=Bw.out h bl;refine AY<|A8 _ ⟨ai,(a3.mono l),(a5.mono l),hT,h⟩
   have hT:=hT.trans (ac.trans (ad.trans (ae.trans af)));rintro ak du ⟨bn,ag,s,hT,h⟩;refine Bo 1 Z<|Ag (Ae Z Ajf Z AjG.e)<|Ag (Af 1 Z bn Z)<|Ag (AZ s)<|A1 h fun dh cn h=>D6 Z Z (Dt hH ((Ha [.box c [.string ⟨((a0.2.getD a.toNat Qq2).1).toArray⟩,e228v1] 164,.box q [No a0.1,va0_1] 40] O)) ((((a0.2.getD a.toNat Qq2).2).length:Int)) ak bn cn) ?_;rintro _ d7 ⟨rfl,co,am⟩;refine Ad<|Ao<|Ag (Ba (fun _=>Afx _ _))<|AO Fk.e Z co fun d8 o cp an _=>Ak 0 Z cp Z fun d9 bo ao=>Ad<|Ao<|Ag (Ae Z Ajf Z AjG.e)<|Ag (Af 2 Z bo Z) ?_;have s:=s.mono (Ab (am.trans (an.trans ao)));refine Ag (AZ s)<|AA 1 Z<|A2 ?_;obtain⟨a9,h⟩:=AR h;have ag:=ag.mono (Ab (am.trans (an.trans ao)));have hT:=hT.trans (am.trans (an.trans ao))
   refine Bj (Int×Int×Int×Int×Nat) (fun⟨g,j,p,b,n⟩=>[(1,.func (.func 83) #[] #[Abo ba1_c0]),(8,(Abo o)),(23,va0_1),(24,No (a0.2.length:Int)),(25,No a),(55,e228v1),(56,No (((a0.2.getD a.toNat Qq2).2).length:Int)),(57,No b)]) (fun⟨g,j,p,b,n⟩ wr=>C5 k (Ha [.box o [No g,No j] 120,.box ba1_c0 [No p] 3,.box c [.string ⟨((a0.2.getD a.toNat Qq2).1).toArray⟩,e228v1] 164,.box q [No a0.1,va0_1] 40] O) wr fun Oz=>AS (.pair .st (.vec AlA)) (gz H k wr Oz) va0_1 (a0.2)/\AS AlA (gz H k wr Oz) e228v1 ((a0.2.getD a.toNat Qq2).2)/\Le (fz w (Ha [.box ba1_c0 [No a1_c0] 3] O)) (fz wr Oz)/\DR (Ci a0 a) n (g,j,p,b)=some a7) (fun⟨g,j,p,b,n⟩=>n) (0,(-1),dh,0,a9) Z ⟨bo,ag,s,hT,h⟩ ?_;rintro⟨g,j,p,b,nn330⟩ dv ⟨ba,d,f,hT,h⟩;obtain⟨a9,ea,rfl,h,bb⟩:=AQ h;refine A7 1 Z<|A6<|AL h ?_ ?_<;>intro cq h
   ·refine Au<|Aq<|A6<|A2<|Ao<|Ax h fun bp h=>AW f b.toNat (Cx bp) (AM bp) ?_;rintro eb _ ⟨_,_,rfl,rfl,rfl⟩ cr;refine Ag (BI cr (Av ba))<|AO Fk.e Z ba fun ec ah cs u _=>Ak 0 Z cs Z fun b8 m x=>Ad<|A6<|Ao<|Ag (Ae Z Afi Z BB.e)<|Ag (Af 0 Z m Z)<|Ag (Ae Z Afi Z BB.e)<|Ag (Af 1 Z m Z)<|AA 1 Z<|BG h ?_ ?_<;>intro ct h
    ·refine Bo 1 Z<|Ag (Ae Z Afi Z BB.e)<|Ag (Af 0 Z m Z)<|Ax h fun cu h=>Ag (Ay cu)<|Ag (Ae Z Afi Z BB.e)<|Ag (Af 1 Z m Z)<|Ax h fun cv h=>Ag (Ay cv) ?_;have bq:Bk k (Ha [.box ba1_c0 [No p] 3,.box ah [No ((((a0.2.getD a.toNat Qq2).2).getD b.toNat Qq2).1),No ((((a0.2.getD a.toNat Qq2).2).getD b.toNat Qq2).2)] 120,.box o [No g,No j] 120,.box c [.string ⟨((a0.2.getD a.toNat Qq2).1).toArray⟩,e228v1] 164,.box q [No a0.1,va0_1] 40] O) b8:=m.DC [2] Z;have ap:=Ck [2] m bq Z;refine A1 h fun di cw h=>D6 Z Z (Dt hH ((Ha [.box ah [No ((((a0.2.getD a.toNat Qq2).2).getD b.toNat Qq2).1),No ((((a0.2.getD a.toNat Qq2).2).getD b.toNat Qq2).2)] 120,.box o [No g,No j] 120,.box c [.string ⟨((a0.2.getD a.toNat Qq2).1).toArray⟩,e228v1] 164,.box q [No a0.1,va0_1] 40] O)) (((1+(((a0.2.getD a.toNat Qq2).2).getD b.toNat Qq2).1) - g)) p bq cw) ?_
     rintro _ ed ⟨rfl,br,aq⟩;refine Ad<|An<|As 1 Z<|Ag (Ae Z Afi Z BB.e)<|Ag (Af 1 Z br Z)<|Ax h fun cx h=>Ag (Ay cx)<|A1 h fun b9 cy h=>D6 Z Z (Dt hH ((Ha [.box ah [No ((((a0.2.getD a.toNat Qq2).2).getD b.toNat Qq2).1),No ((((a0.2.getD a.toNat Qq2).2).getD b.toNat Qq2).2)] 120,.box o [No g,No j] 120,.box c [.string ⟨((a0.2.getD a.toNat Qq2).1).toArray⟩,e228v1] 164,.box q [No a0.1,va0_1] 40] O)) (((((a0.2.getD a.toNat Qq2).2).getD b.toNat Qq2).2+1)) di br cy) ?_;rintro _ ee ⟨rfl,bs,ar⟩;refine AE<|Aq<|An<|Ag (AJ 1 Z Fk.e bs Z)<|Ak 2 Z bs Z fun dj cz au=>AE<|Az<|Aq<|An<|Ax h fun c0 h=>Ag (Ay c0)<|As 1 Z<|AE ?_;have bt:=cz.Bl (i:=1) Z
     have bu:Bk k (Ha [.box o [No ((((a0.2.getD a.toNat Qq2).2).getD b.toNat Qq2).1),No ((((a0.2.getD a.toNat Qq2).2).getD b.toNat Qq2).2)] 120,.box ba1_c0 [No b9] 3,.box c [.string ⟨((a0.2.getD a.toNat Qq2).1).toArray⟩,e228v1] 164,.box q [No a0.1,va0_1] 40] O) dj:=bt.DC [1] Z;have av:=Ck [1] bt bu Z;have h:=Bw.again h bb;have d:=d.mono (Ab (u.trans (x.trans (ap.trans (aq.trans (ar.trans (au.trans ((AB (i:=1) Z).trans av))))))));have f:=f.mono (Ab (u.trans (x.trans (ap.trans (aq.trans (ar.trans (au.trans ((AB (i:=1) Z).trans av))))))));have hT:=hT.trans (u.trans (x.trans (ap.trans (aq.trans (ar.trans (au.trans ((AB (i:=1) Z).trans av)))))));refine AD (_,_,_,_,_) Z ⟨bu,d,f,hT,h⟩
    refine Bo 1 Z ?_;have bv:Bk k (Ha [.box ba1_c0 [No p] 3,.box ah [No ((((a0.2.getD a.toNat Qq2).2).getD b.toNat Qq2).1),No ((((a0.2.getD a.toNat Qq2).2).getD b.toNat Qq2).2)] 120,.box o [No g,No j] 120,.box c [.string ⟨((a0.2.getD a.toNat Qq2).1).toArray⟩,e228v1] 164,.box q [No a0.1,va0_1] 40] O) b8:=m.DC [2] Z;have aw:=Ck [2] m bv Z;refine A1 h fun dk c1 h=>D6 Z Z (Dt hH ((Ha [.box ah [No ((((a0.2.getD a.toNat Qq2).2).getD b.toNat Qq2).1),No ((((a0.2.getD a.toNat Qq2).2).getD b.toNat Qq2).2)] 120,.box o [No g,No j] 120,.box c [.string ⟨((a0.2.getD a.toNat Qq2).1).toArray⟩,e228v1] 164,.box q [No a0.1,va0_1] 40] O)) 1 p bv c1) ?_;rintro _ ef ⟨rfl,bc,ax⟩;refine Ad<|An<|As 1 Z<|Ag (Ae Z Afi Z BB.e)<|Ag (Af 1 Z bc Z)<|Ag (Ae Z Afi Z BB.e)<|Ag (Af 2 Z bc Z)<|Ax h fun c2 h=>Ag (Ay c2)<|A1 h fun ca c3 h=>?_
    refine D6 Z Z (Dt hH ((Ha [.box ah [No ((((a0.2.getD a.toNat Qq2).2).getD b.toNat Qq2).1),No ((((a0.2.getD a.toNat Qq2).2).getD b.toNat Qq2).2)] 120,.box o [No g,No j] 120,.box c [.string ⟨((a0.2.getD a.toNat Qq2).1).toArray⟩,e228v1] 164,.box q [No a0.1,va0_1] 40] O)) (((((a0.2.getD a.toNat Qq2).2).getD b.toNat Qq2).2 - j)) dk bc c3) ?_;rintro _ eg ⟨rfl,bw,ay⟩;refine AE<|Aq<|An<|Ag (AJ 1 Z Fk.e bw Z)<|Ak 2 Z bw Z fun dl c4 az=>AE<|Az<|Aq<|An<|Ax h fun c5 h=>Ag (Ay c5)<|As 1 Z<|AE ?_;have bx:=c4.Bl (i:=1) Z;have bz:Bk k (Ha [.box o [No ((((a0.2.getD a.toNat Qq2).2).getD b.toNat Qq2).1),No ((((a0.2.getD a.toNat Qq2).2).getD b.toNat Qq2).2)] 120,.box ba1_c0 [No ca] 3,.box c [.string ⟨((a0.2.getD a.toNat Qq2).1).toArray⟩,e228v1] 164,.box q [No a0.1,va0_1] 40] O) dl:=bx.DC [1] Z;have a2:=Ck [1] bx bz Z;have h:=Bw.again h bb
    have d:=d.mono (Ab (u.trans (x.trans (aw.trans (ax.trans (ay.trans (az.trans ((AB (i:=1) Z).trans a2))))))));have f:=f.mono (Ab (u.trans (x.trans (aw.trans (ax.trans (ay.trans (az.trans ((AB (i:=1) Z).trans a2))))))));have hT:=hT.trans (u.trans (x.trans (aw.trans (ax.trans (ay.trans (az.trans ((AB (i:=1) Z).trans a2)))))));refine AD (_,_,_,_,_) Z ⟨bz,d,f,hT,h⟩
   refine Bf<|A5<|A3 ?_;have h:=Bw.out h bb;refine AY<|Az ?_;have c6:=ba.Bl (i:=0) Z;have c7:=c6.Bl (i:=1) Z;have d:=d.mono (Ab ((AB (i:=0) Z).trans (AB (i:=1) Z)));have hT:=hT.trans ((AB (i:=0) Z).trans (AB (i:=1) Z));refine A8 _ ⟨c7,d,hT,h⟩
  rintro aj dw ⟨c8,b0,hT,h⟩;refine An<|Ax h fun c9 h=>Ag (Ay c9)<|As 1 Z<|AE ?_;have h:=Bw.again h bg;refine AD (_,_,_) Z ⟨c8,b0,hT,h⟩
 refine Bf<|A5<|A3 ?_;have h:=Bw.out h bg;refine AY ?_
 cases h
 refine Rk ?_;have da:=a6.Bl (i:=1) Z;have hT:=hT.trans (AB (i:=1) Z);exact⟨Z,da,hT⟩
def J4(a0:Int)(a:Al1):Option Al8:=
 Qq9 (Hs (a0,a) (0:Int)) (fun c=>if 131072<c then Qq9 (DX (14:Int) (-1:Int)) (fun b=>some ((0,[]),(b.1,b.2)))else some ((a0,a),(0,0)))
def I6(a0:Int)(a1:Al1)(b:(List Abv)):Al1×Int->Option ((Al1×Int)⊕Al8):=fun⟨c,a⟩=>
 if a<(b.length:Int)then AU (0<=a/\a<(b.length:Int)) (AU (Go.E.Fz 40 (c.length+([(b.getD a.toNat Qq2,(BF [] (b.getD a.toNat Qq2) a1))]).length)) (AU (Bq (a+1)) (some (Sum.inl ((c++[(b.getD a.toNat Qq2,(BF [] (b.getD a.toNat Qq2) a1))]),(a+1))))))else Qzx Sum.inr ((J4 a0) c)
def RG(a0:Int)(a1:Al1)(a:(List Abv))(s:Al1×Int):Option Al8:=Go.L.run (I6 a0 a1 a) s
def ON(a0:Int)(a1:Al1):Option Al8:=
 Qq9 (Ti a1) (fun a=>(RG a0 a1 a) (([]:Al1),0))
section
variable(w:World)(H:PH)(hH:Le H (hp w)) include hH
theorem WV{a0:Int}{a1:Al1}{x:Value}(ah:XH encS (.vec AlA) H x a1){r:Al8}(h:ON a0 a1=some r):
  Qqv 47 [No a0,x] w (fun v w'=>∃u0,v=.tuple #[.agg #[No r.1.1,u0],.agg #[No r.2.1,No r.2.2]]/\AS (.pair .st (.vec AlA)) (un H (nw w w')) u0 (r.1.2)):=by
 refine A4 40 [(0,No a0),(1,x)] func47 Z fun hL=>Ao<|AO Lk.e Z hL fun w1 b1 bt b6 _=>AO AI.e Z bt fun w2 b2 bu b7 _=>Ad<|Bo 1 Z<|Ag (Ba (fun _=>AhB _ _))<|AO Lk.e Z bu fun w3 b3 bv b8 _=>Ak 0 Z bv Z fun w4 al b9=>Ad<|Bb (Al1×Value×Qq6) (fun⟨u,p,j⟩=>[(4,(Abo b1)),(5,(Abo b2)),(6,(Abo b3))]) (fun⟨u,p,j⟩ wr=>C5 w [.row p 164 2 (u).length j,.box b3 [No a0,p] 40,.box b2 [No 0,No 0] 35,.box b1 [No 0,Aal] 40] wr fun Oz=>AK (.pair .st (.vec AlA)) (gz H w wr Oz) u j/\(J4 a0) u=some r) ?_ ?_
 ·refine Bo 1 Z<|Br al (AhT _ _ (Av al) (ah.mono  Aj)) ?_;intro ce cf a3 a4 z bx;have a5:=a3.mono (Kk hH al a4);refine A1 h fun c a6 h=>Br z (AdT _ _ (Av z) a5 a6) ?_;rintro ae cg ⟨_,rfl,am⟩ a7 a8 bz;have d:=am.Cu hH z a7;refine Ag (AZ d)<|AA 1 Z<|A2 ?_;obtain⟨a9,au,ba⟩:=Cp (.pair .st (.vec AlA)) H 164 a8;obtain⟨an,h⟩:=AR h;have d:=d.mono (Ab au)
  refine Bj (Al1×Int×Value×Qq6×Nat) (fun⟨e,a,g,b,n⟩=>[(1,x),(4,(Abo b1)),(5,(Abo b2)),(6,(Abo b3)),(14,ae),(15,No (c.length:Int)),(16,No a)]) (fun⟨e,a,g,b,n⟩ wr=>C5 w [.row g 164 2 (e).length b,.box b3 [No a0,g] 40,.box b2 [No 0,No 0] 35,.box b1 [No 0,Aal] 40] wr fun Oz=>AS .st (gz H w wr Oz) ae c/\AK (.pair .st (.vec AlA)) (gz H w wr Oz) e b/\DR (I6 a0 a1 c) n (e,a)=some r) (fun⟨e,a,g,b,n⟩=>n) (([]:Al1),0,Aal,[],an) Z ⟨a9,d,ba,h⟩ ?_;rintro⟨e,a,g,b,nn60⟩ ca ⟨q,f,o,h⟩;obtain⟨an,ch,rfl,h,ao⟩:=AQ h;refine A7 1 Z<|A6<|AL h ?_ ?_<;>intro bb h
  ·refine Au<|Aq<|A6<|A2<|Ao<|Ax h fun ap h=>AW f a.toNat (Cx ap) (AM ap) ?_;rintro ci _ rfl bc;refine Ag (AT bc (Av q))<|AA 1 Z<|An<|Ag (Ae Z Ajm Z AbF.e)<|Ag (Af 1 Z q Z)<|As 3 Z<|AcQ (k:=c.getD a.toNat Qq2) AjJ zeroValue90 ah (hH.trans q.arg) fun cj aq=>Ag (Ba (fun _=>AbI _ Z _ aq.one _))<|Bx ([(c.getD a.toNat Qq2,(BF [] (c.getD a.toNat Qq2) a1))]) (r:=(.pair .st (.vec AlA))) (fun _=>AhJ _ _ _) q (.c2 ⟨_,_,Z,Z,⟨_,Z,(aq.mono  Aj)⟩⟩ .nil) fun ck cl cb bd af be=>Ax h fun bf h=>?_;have o:=o.mono (Ab af);refine Bp (r:=(.pair .st (.vec AlA))) 0 e ([(c.getD a.toNat Qq2,(BF [] (c.getD a.toNat Qq2) a1))]) Z Ajg bd Z o be bf fun bw cm bg ar av aa=>Ag (Ae Z Ajm Z AbF.e) ?_
   refine BE 1 Z (row_one (ar.at (i:=0) Z)) ar Z Z fun cn bh ag=>AE<|Az<|Aq<|An<|Ax h fun bi h=>Ag (Ay bi)<|As 1 Z<|AE ?_;have h:=Bw.again h ao;have f:=f.mono (Ab (af.trans (av.trans ag)));have aa:=aa.mono (Ab ag);refine AD (_,_,_,_,_) Z ⟨bh,f,aa,h⟩
  refine Bf<|A5<|A3 ?_;have h:=Bw.out h ao;refine AY<|A8 (_,_,_) ⟨q,o,h⟩
 rintro⟨u,p,j⟩ cc ⟨bj,y,h⟩;refine Ao<|AO BB.e Z bj fun co cp bk aw _=>BE 0 Z Z bk Z Z fun cq ab ax=>Ad<|Ao<|Ag (AJ 2 Z Lk.e ab Z)<|As 1 Z ?_;have y:=y.mono (Ab (aw.trans ax));have s:=ab.Cu hH (i:=1) Z y;have bl:=ab.Bl (i:=1) Z;refine A1 h fun cr bm h=>Fh (Qo (a0:=(a0,u)) (a1_c0:=0) (O:=[.box b3 [No a0,p] 40,.box b2 [No 0,No 0] 35,.box b1 [No 0,Aal] 40]) hH bl s bm) ?_;rintro _ cs ⟨rfl,t,ay⟩;refine Ad<|A6<|Ao<|Ag (Af 0 Z t Z)<|AA 1 Z<|AL h ?_ ?_<;>intro bn h
 ·refine Ao<|Ag (Ba (fun _=>YZ _))<|A1 h fun ct bo h=>A9 t (CF _ _ (Av t) bo) fun cu cd bp b0=>Ak 3 Z bp Z fun cv bq b4=>Ak 2 Z bq Z fun cw ac b5=>Ad<|Aw<|Am ?_
  cases h
  refine Bv (.cell Z Ajm Z Lk.e (AP (i:=3) ac Z)) (.cell Z Ae3 Z AI.e (AP (i:=2) ac Z)) ⟨ac.ext,_,Z,(AS.nil _ _)⟩
 refine Au<|Aq<|Ao<|Ag (AJ 1 Z Lk.e t Z)<|Ag (Ba (fun _=>B8 _))<|Ak 3 Z t Z (a:=(CB Z (CB s.one Ps))) fun cx br az=>Ak 2 Z br Z fun cy ad a2=>Ad<|Aw ?_
 cases h
 refine Bv (.cell Z Ajm Z Lk.e (AP (i:=3) ad Z)) (.cell Z Ae3 Z AI.e (AP (i:=2) ad Z)) ?_;have s:=s.mono (Ab (ay.trans (az.trans a2)));exact⟨ad.ext,_,Z,(s.mono (OV hH))⟩
def Oi(a:Int)(b:Al1):Option ((Al1×Int)⊕Al8):=
 AU (Bq (a+1)) (some (Sum.inl (b,(a+1))))
def I7(c:Int)(b:Alx×Qq7):Al1×Int->Option ((Al1×Int)⊕((Al1×Int)⊕Al8)):=fun⟨d,a⟩=>
 if a<(b.1.length:Int)then AU (0<=a/\a<(b.1.length:Int)) (AU (Go.E.Fz 16 ((BF [] ((b.1.getD a.toNat Qq2).1) d).length+1)) (AU (Bq (a+1)) (some (Sum.inl ((Dm ((b.1.getD a.toNat Qq2).1) ((BF [] ((b.1.getD a.toNat Qq2).1) d)++[(c,a)]) d),(a+1))))))else Qzx Sum.inr ((Oi c) d)
def Oj(a:Int)(b:Alx×Qq7)(s:Al1×Int):Option ((Al1×Int)⊕Al8):=Go.L.run (I7 a b) s
def J5(a0:List Abv)(b:Al1):Option Al8:=
 Qq9 (ON (a0.length:Int) b) (fun a=>some ((a.1.1,a.1.2),(a.2.1,a.2.2)))
def FK(a0:List Abv):Al1×Int->Option ((Al1×Int)⊕Al8):=fun⟨c,a⟩=>
 if a<(a0.length:Int)then AU (0<=a/\a<(a0.length:Int)) (Qq9 (Lb (a0.getD a.toNat Qq2)) (fun b=>if b.2.1=0/\b.2.2=0 then(Oj a b) (c,0)else Qq9 (DX b.2.1 a) (fun d=>Qzx Sum.inr (some ((0,[]),(d.1,d.2))))))else Qzx Sum.inr ((J5 a0) c)
def WW(a0:List Abv)(s:Al1×Int):Option Al8:=Go.L.run (FK a0) s
def J6(a0:List Abv):Option Al8:=
 if 64<(a0.length:Int)then Qq9 (DX (2:Int) (-1:Int)) (fun a=>some ((0,[]),(a.1,a.2)))else(WW a0) (([]:Al1),0)
theorem WX(hU:HG H){a0:List Abv}{m:Value}(ah:AS (.vec .byte) H m a0){r:Al8}(h:J6 a0=some r):
  Qqv 20 [m] w (fun v w'=>∃u0,v=.tuple #[.agg #[No r.1.1,u0],.agg #[No r.2.1,No r.2.2]]/\AS (.pair .st (.vec AlA)) (un H (nw w w')) u0 (r.1.2)):=by
 refine A4 64 [(0,m)] func20 Z fun hL=>Ao<|AO Lk.e Z hL fun w1 b1 cg cz _=>AO AI.e Z cg fun w2 b2 a2 c0 _=>Ad<|A6<|Bo 1 Z<|Ag (AZ ah)<|AA 1 Z<|AL h ?_ ?_<;>intro ch h
 ·refine Ao<|Ag (Ba (fun _=>YZ _))<|A1 h fun x5 ci h=>A9 a2 (CF _ _ (Av a2) ci) fun w6 dt cj c1=>Ak 1 Z cj Z fun w7 ck c3=>Ak 0 Z ck Z fun w8 a3 c4=>Ad<|Aw<|Am ?_
  cases h
  refine Bv (.cell Z Ajm Z Lk.e (AP (i:=1) a3 Z)) (.cell Z Ae3 Z AI.e (AP (i:=0) a3 Z)) ⟨a3.ext,_,Z,(AS.nil _ _)⟩
 refine Au<|Aq<|Ao<|U2 encS Alr a2 fun du o ce cs=>AA 1 Z<|Bb (Al1×Qq6) (fun⟨t,vsl142⟩=>[(0,m),(2,(Abo b1)),(3,(Abo b2)),(4,.map (some o))]) (fun⟨t,vsl142⟩ wr=>C5 w (Ha [QE encS o t vsl142,.box b2 [No 0,No 0] 35,.box b1 [No 0,Aal] 40] (mT AdI 120 2 t vsl142)) wr fun Oz=>(t).length=(vsl142).length/\(J5 a0) t=some r) ?_ ?_
 ·refine Bo 1 Z<|Ag (AZ ah)<|AA 1 Z<|A2 ?_;obtain⟨aq,h⟩:=AR h;refine Bj (Al1×Int×Qq6×Nat) (fun⟨p,c,vsl209,n⟩=>[(0,m),(2,(Abo b1)),(3,(Abo b2)),(4,.map (some o)),(17,m),(18,No (a0.length:Int)),(19,No c)]) (fun⟨p,c,vsl209,n⟩ wr=>C5 w (Ha [QE encS o p vsl209,.box b2 [No 0,No 0] 35,.box b1 [No 0,Aal] 40] (mT AdI 120 2 p vsl209)) wr fun Oz=>(p).length=(vsl209).length/\DR (FK a0) n (p,c)=some r) (fun⟨p,c,vsl209,n⟩=>n) (([]:Al1),0,([]:Qq6),aq) Z ⟨ce,Z,h⟩ ?_;rintro⟨p,c,vsl209,nn211⟩ ct ⟨ab,ao,h⟩;obtain⟨aq,a4,rfl,h,ai⟩:=AQ h;refine A7 1 Z<|A6<|AL h ?_ ?_<;>intro bi h
  ·refine Au<|Aq<|Bb (Al1×Qq6) (fun⟨aa,vsl273⟩=>[(0,m),(2,(Abo b1)),(3,(Abo b2)),(4,.map (some o)),(17,m),(18,No (a0.length:Int)),(19,No c)]) (fun⟨aa,vsl273⟩ wr=>C5 w (Ha [QE encS o aa vsl273,.box b2 [No 0,No 0] 35,.box b1 [No 0,Aal] 40] (mT AdI 120 2 aa vsl273)) wr fun Oz=>(aa).length=(vsl273).length/\(Oi c) aa=some a4) ?_ ?_
   ·refine A2<|Bo 1 Z<|Ax h fun au h=>AW ah c.toNat (Cx au) (AM au) ?_;rintro c5 _ ⟨e276v0,rfl,e276h0⟩ bj;refine Ag (AT bj (hH.trans ab.arg))<|AA 2 Z<|Bo 1 Z<|A1 h fun b bk h=>Br ab (WU _ _ (Av ab) (hU.mono  Aj) (e276h0.mono  Aj) bk) ?_;rintro _ c6 ⟨ap,rfl,az⟩ bl bm cl;have u:=az.Cu hH ab bl;refine As 3 Z<|AO AI.e Z bm fun c7 af bn a5 _=>As 1 Z<|Ak 0 Z bn Z fun c8 ac a6=>Ad<|A6<|Ao<|Ag (AJ 0 Z AI.e ac Z)<|Ag (Ba (fun _=>B8 _))<|Ag (IX I4 (Nc _ _ _ _))<|Ad<|BG h ?_ ?_<;>intro bo h
    ·refine Ao<|Ag (Ba (fun _=>YZ _))<|Ag (Ae Z Ae3 Z BB.e)<|Ag (Af 0 Z ac Z)<|As 1 Z<|A1 h fun c9 bp h=>A9 ac (CF _ _ (Av ac) bp) fun da cu bq cm=>Ak 3 Z bq Z fun db br cn=>Ak 2 Z br Z fun dc aj co=>Ad<|Aw<|Am<|Al<|AN<|Bc ?_;have h:=Bw.out h ai;refine Al<|AN ?_
     cases h
     refine Bv (.cell Z Ajm Z Lk.e (AP (i:=3) aj Z)) (.cell Z Ae3 Z AI.e (AP (i:=2) aj Z)) ⟨aj.ext,_,Z,(AS.nil _ _)⟩
    refine Au<|Aq<|Bo 1 Z ?_;have u:=u.mono (Ab (a5.trans a6));refine Ag (AZ u)<|AA 1 Z<|A2 ?_;obtain⟨ar,h⟩:=AR h;refine Bj (Al1×Int×Qq6×Nat) (fun⟨d,a,vsl310,n⟩=>[(0,m),(2,(Abo b1)),(3,(Abo b2)),(4,.map (some o)),(5,No c),(17,m),(18,No (a0.length:Int)),(19,No c),(37,ap),(38,No (b.1.length:Int)),(39,No a)]) (fun⟨d,a,vsl310,n⟩ wr=>C5 w (Ha [.box af [No b.2.1,No b.2.2] 35,QE encS o d vsl310,.box b2 [No 0,No 0] 35,.box b1 [No 0,Aal] 40] (mT AdI 120 2 d vsl310)) wr fun Oz=>AS (.pair .st AlA) (gz H w wr Oz) ap (b.1)/\(d).length=(vsl310).length/\DR (I7 c b) n (d,a)=some a4) (fun⟨d,a,vsl310,n⟩=>n) (p,0,vsl209,ar) Z ⟨ac,u,ao,h⟩ ?_;rintro⟨d,a,vsl310,nn312⟩ cv ⟨ak,x,ag,h⟩;obtain⟨ar,dd,rfl,h,av⟩:=AQ h;refine A7 1 Z<|A6<|AL h ?_ ?_<;>intro bs h
    ·refine Au<|Aq<|A6<|A2<|Bo 1 Z<|Ax h fun aw h=>AW x a.toNat (Cx aw) (AM aw) ?_;rintro de _ ⟨_,_,rfl,rfl,⟨_,_,rfl,rfl,rfl⟩⟩ bt;refine Ag (BI bt (Av ak))<|AO Nu.e Z ak fun df al bu a7 _=>As 1 Z<|Ak 0 Z bu Z fun dg ax a8=>Ad ?_
     refine KX (I3 (Ww (T1 (I3 (I3 (PY (T1 (I3 (PY OF))))))))) (fun z0 z=>Le (gz H w z0 (Ha [.box al [.string ⟨((b.1.getD a.toNat Qq2).1).toArray⟩,No ((b.1.getD a.toNat Qq2).2.1),No ((b.1.getD a.toNat Qq2).2.2)] 118,.box af [No b.2.1,No b.2.2] 35,QE encS o d vsl310,.box b2 [No 0,No 0] 35,.box b1 [No 0,Aal] 40] (mT AdI 120 2 d vsl310))) (hp z)/\z.heap[al]? = some (.cells [.string ⟨((b.1.getD a.toNat Qq2).1).toArray⟩,No ((b.1.getD a.toNat Qq2).2.1),No ((b.1.getD a.toNat Qq2).2.2)].toArray 118 (0,0))/\z.heap[af]? = some (.cells [No b.2.1,No b.2.2].toArray 35 (0,0))/\z.heap[b2]? = some (.cells [No 0,No 0].toArray 35 (0,0))/\z.heap[b1]? = some (.cells [No 0,Aal].toArray 40 (0,0))/\z.heap[o]? = some (.map (mE encS 0 ((d).map Qzz) vsl310).toArray (d).length)) mixed Z (fun f di ay=>?_);have j:=ax.call ay;have a9:=AH ax ay;have g:=j.rG H;refine OG ⟨g.trans (Av j),j.at (i:=0) Z,j.at (i:=1) Z,j.at (i:=3) Z,j.at (i:=4) Z,j.at (i:=2) Z⟩ fun kI323=>?_
     refine Bn 0 f kI323 Z (fun _ _=>Ai Z) Z<|Bn 1 f kI323 Z (fun _ _=>Ae Z Ajn Z Dl.e) Z<|Bn 2 f kI323 Z (fun _ hI=>Km Z hI.2.1 Z) Z<|Bn 3 f kI323 Z (fun _ _=>Ai Z) Z<|Bn 4 f kI323 Z (fun _ _=>Ae Z Ajn Z Dl.e) Z<|Bn 5 f kI323 Z (fun _ hI=>Km Z hI.2.1 Z) Z<|Bn 6 f kI323 Z (fun _ hI=>Ah7 (k:=(b.1.getD a.toNat Qq2).1) (enc:=encS) Z AjJ zeroValue90 hI.2.2.2.2.2 (by rw[Qza];exact ag)) Z<|Bn 7 f kI323 Z (fun _ _=>Ai Z) Z<|Bn 8 f kI323 Z (fun _ _=>Ai Z) Z<|Bn 9 f kI323 Z (fun _ _=>Ba (fun _=>Tf _ _ _)) Z<|Fg 10 Z<|Bx [(c,a)] (r:=AlA) (fun _=>Zc _ _ _) j (.c2 ⟨_,_,Z,Z,Z⟩ .nil) ?_;intro dj dk cw q ba bv;have g:=g.trans (Ab ba)
     refine Be ⟨g.trans (Av q),q.at (i:=0) Z,q.at (i:=1) Z,q.at (i:=3) Z,q.at (i:=4) Z,q.at (i:=2) Z⟩ fun kI325=>Fg 11 Z<|Ax h fun bw h=>Afg (A:=[.box al [.string ⟨((b.1.getD a.toNat Qq2).1).toArray⟩,No ((b.1.getD a.toNat Qq2).2.1),No ((b.1.getD a.toNat Qq2).2.2)] 118,.box af [No b.2.1,No b.2.2] 35,QE encS o d vsl310,.box b2 [No 0,No 0] 35,.box b1 [No 0,Aal] 40]) (l:=d) (vs:=vsl310) (k:=(b.1.getD a.toNat Qq2).1) (z:=(c,a)) (r:=AlA) (H:=H) Afh Z Ae7 Qqc hH q ag bv bw ?_;intro dl dm T327 bb s bc;have g:=g.trans (Ab bc);refine Be ⟨g.trans (Av s),s.at (i:=0) Z,s.at (i:=1) Z,s.at (i:=3) Z,s.at (i:=4) Z,s.at (i:=2) Z⟩ fun kI329=>Fg 12 Z ?_
     refine Aj7 (A:=[.box al [.string ⟨((b.1.getD a.toNat Qq2).1).toArray⟩,No ((b.1.getD a.toNat Qq2).2.1),No ((b.1.getD a.toNat Qq2).2.2)] 118,.box af [No b.2.1,No b.2.2] 35,QE encS o d vsl310,.box b2 [No 0,No 0] 35,.box b1 [No 0,Aal] 40]) (T:=T327) 2 bb Z AjJ s Z fun bx dn bz b0 bd=>F0<|FW<|Az<|Aq<|An<|Ax h fun b3 h=>Ag (Ay b3)<|As 1 Z<|AE ?_;have b4:=b0.Bl (i:=0) Z;have h:=Bw.again h av;have x:=x.mono (Ab (a7.trans (a8.trans a9)));have g:=g.trans (Ab (bd.trans (AB (i:=0) Z)));refine AD (_,_,_,_) Z ⟨b4,(x.mono g),bz,h⟩
    refine Bf<|A5<|A3 ?_;have h:=Bw.out h av;refine AY<|Az ?_;have b5:=ak.Bl (i:=0) Z;refine A8 (_,_) ⟨b5,ag,h⟩
   rintro⟨aa,vsl273⟩ cx ⟨b6,be,h⟩;refine An<|Ax h fun b7 h=>Ag (Ay b7)<|As 1 Z<|AE ?_;have h:=Bw.again h ai;refine AD (_,_,_,_) Z ⟨b6,be,h⟩
  refine Bf<|A5<|A3 ?_;have h:=Bw.out h ai;refine AY<|A8 (_,_) ⟨ab,ao,h⟩
 rintro⟨t,vsl142⟩ cy ⟨b8,bf,h⟩;refine Bo 1 Z<|Ag (AZ ah)<|As 1 Z ?_;obtain⟨am,cp,b9⟩:=AcP (A:=[QE encS o t vsl142,.box b2 [No 0,No 0] 35,.box b1 [No 0,Aal] 40]) (l:=t) (vs:=vsl142) (e:=120) (r:=AlA) 0 Z Afh hH bf b8 Z;refine A1 h fun dp ca h=>Br am (WV _ _ (Av am) b9 ca) ?_;rintro _ dq ⟨cq,rfl,a1⟩ cb cc cr;have y:=a1.mono (Kk hH am cb);refine As 2 Z<|Ak 1 Z cc Z (a:=(CB Z (CB y.one Ps))) fun dr cd bg=>Ak 0 Z cd Z fun ds an bh=>Ad<|Aw ?_
 cases h
 refine Bv (.cell Z Ajm Z Lk.e (AP (i:=1) an Z)) (.cell Z Ae3 Z AI.e (AP (i:=0) an Z)) ?_;have y:=y.mono (Ab (bg.trans bh));exact⟨an.ext,_,Z,(y.mono (OV hH))⟩
end
end Go.Proofs.YtopocbcekabkoaaGreatDoor
end
noncomputable section
namespace Go.Proofs.YtopocbcekabkoaaGreatDoor
open Go Go.E Go.RowKit Go.L
set_option maxHeartbeats 1000000
set_option maxRecDepth 10000
open _root_.Go.Proofs.Tryz
def HC(a0:Int×Al1)(a1:Abv):Option (Alr×Qq7):=
 Qq9 (HL a1) (fun a=>if a.1=0/\a.2=0 then Qq9 (Ea (a0.1,a0.2) a1) (fun b=>Qq9 (FH b) (fun c=>some (c,(0,0))))else some ([],(a.1,a.2)))
section
variable(w:World)(H:PH)(hH:Le H (hp w)) include hH
theorem Nz(hU:HG H){a0:Int×Al1}{a1:Abv}{b:Value}(u:AS (.pair .st (.vec AlA)) H b (a0.2)){r:Alr×Qq7}(h:HC a0 a1=some r):
  Qqv 95 [.agg #[No a0.1,b],Abu a1] w (fun v w'=>∃u0,v=.tuple #[u0,.agg #[No r.2.1,No r.2.2]]/\Cd 120 AlA H w w' u0 (r.1)):=by
 refine A4 18 [(0,.agg #[No a0.1,b]),(1,(Abu a1))] func95 Z fun hL=>Ao<|BM (t:=40) Z Z hL fun w1 b1 ae ao _=>As 1 Z<|AO AI.e Z ae fun w2 b2 s ap _=>Ad<|A6<|Bo 1 Z<|A1 h fun x3 af h=>A9 s (J3 _ _ (Av s) (hU.mono  Aj) af) fun w4 aw ag aq=>AO AI.e Z ag fun w5 b5 ah ar _=>Ak 0 Z ah Z fun w6 a au=>Ad<|Ao<|Ag (AJ 0 Z AI.e a Z)<|Ag (Ba (fun _=>B8 _))<|Ag (IX I4 (Nc _ _ _ _))<|Ad<|BG h ?_ ?_<;>intro ai h
 ·refine BZ (.q 0 (.q 1 (.tail 2))) mixed Qqb (fun w9 aj=>?_);have f:=a.call aj;refine B2 Z (AJ 0 Z AI.e f Z) Z<|B9 1 Z<|Bt (fun ax x=>?_);have y:=f.call x;refine Ak 1 Z y Z fun ay g ak=>Ad<|Aw<|Am ?_
  cases h
  refine Bv (.tmp Z) (.cell Z Ae3 Z AI.e (AP (i:=1) g Z)) ⟨g.ext,_,Z,Cd.nil⟩
 refine Au<|Aq<|Ao<|Ag (AJ 2 Z Lk.e a Z)<|As 1 Z<|A1 h fun az z h=>Br a (FP (a0:=(a0.1,a0.2)) _ _ (Av a) (u.mono  Aj) z) ?_;rintro al a2 ⟨_,rfl,j⟩ aa c am;have k:=j.mono (Kk hH a aa);refine A1 h fun a3 ab h=>Br c (LI _ _ (Av c) k ab) ?_;rintro an a4 ⟨_,rfl,l⟩ ac m o;obtain⟨av,m,o,d⟩:=l.take hH c ac;refine Ag (Ba (fun _=>B8 _))<|As 1 Z<|Ak 2 Z m Z fun a5 e p=>Ad<|Aw ?_
 cases h
 refine Bv (.tmp Z) (.cell Z Ae3 Z AI.e (AP (i:=2) e Z)) ?_;have d:=d.mono (Ab p);exact⟨e.ext,_,Z,(e.FV hH (i:=0) Z d)⟩
def IN(a:Alr):Option (Alr×Qq7):=
 some (a,(0,0))
def DA(a:Int)(b:Alr):Option ((Alr×Int)⊕(Alr×Qq7)):=
 AU (Bq (a+1)) (some (Sum.inl (b,(a+1))))
def GC(c:Alr)(a:Int)(b:Alr):Option ((Alr×Int)⊕(Alr×Qq7)):=
 AU (Go.E.Fz 16 (c.length+([((b.getD a.toNat Qq2).1,(b.getD a.toNat Qq2).2)]).length)) ((DA a) (c++[((b.getD a.toNat Qq2).1,(b.getD a.toNat Qq2).2)]))
def CC(a0:Int×Al1)(a1:List Abv)(d:Alr)(b:Int)(c:Alr):Int->Option ((Int)⊕((Alr×Int)⊕(Alr×Qq7))):=fun a=>
 if a<(a1.length:Int)then AU (0<=a/\a<(a1.length:Int)) (AU (Bq ((c.getD b.toNat Qq2).2+a)) (Qq9 (Ea (a0.1,a0.2) (a1.getD a.toNat Qq2)) (fun e=>Qq9 (Dd e ((c.getD b.toNat Qq2).1,((c.getD b.toNat Qq2).2+a))) (fun f=>if !f then Qzx Sum.inr ((DA b) d)else AU (Bq (a+1)) (some (Sum.inl (a+1)))))))else Qzx Sum.inr ((GC d b c))
def LS(a0:Int×Al1)(a1:List Abv)(b:Alr)(a:Int)(c:Alr)(s:Int):Option ((Alr×Int)⊕(Alr×Qq7)):=Go.L.run (CC a0 a1 b a c) s
def Du(a0:Int×Al1)(a1:List Abv)(b:Alr):Alr×Int->Option ((Alr×Int)⊕(Alr×Qq7)):=fun⟨c,a⟩=>
 if a<(b.length:Int)then AU (0<=a/\a<(b.length:Int)) ((LS a0 a1 c a b) (0:Int))else Qzx Sum.inr (IN c)
def LU(a0:Int×Al1)(a1:List Abv)(a:Alr)(s:Alr×Int):Option (Alr×Qq7):=Go.L.run (Du a0 a1 a) s
def IP(a0:Int×Al1)(a1:List Abv):Option (Alr×Qq7):=
 AU (0<=(0:Int)/\(0:Int)<(a1.length:Int)) (Qq9 (Ea (a0.1,a0.2) (a1.getD ((0:Int).toNat) Qq2)) (fun a=>(LU a0 a1 a) (([]:Alr),0)))
def Dv(a0:Int×Al1)(a1:List Abv):Int->Option ((Int)⊕(Alr×Qq7)):=fun a=>
 if a<(a1.length:Int)then AU (0<=a/\a<(a1.length:Int)) (Qq9 (HL (a1.getD a.toNat Qq2)) (fun b=>if b.1=0/\b.2=0 then AU (Bq (a+1)) (some (Sum.inl (a+1)))else Qq9 (DX b.1 a) (fun c=>Qzx Sum.inr (some ([],(c.1,c.2))))))else Qzx Sum.inr ((IP a0 a1))
def LV(a0:Int×Al1)(a1:List Abv)(s:Int):Option (Alr×Qq7):=Go.L.run (Dv a0 a1) s
def ER(a0:Int×Al1)(a1:List Abv):Option (Alr×Qq7):=
 if(a1.length:Int)=0 then Qq9 (DX (10:Int) (-1:Int)) (fun b=>some ([],(b.1,b.2)))else(if 16<(a1.length:Int)then Qq9 (DX (2:Int) (-1:Int)) (fun a=>some ([],(a.1,a.2)))else(LV a0 a1) (0:Int))
theorem QV(hU:HG H){a0:Int×Al1}{a1:List Abv}{s o:Value}(bx:AS (.pair .st (.vec AlA)) H s (a0.2))(aa:AS .st H o a1){r:Alr×Qq7}(h:ER a0 a1=some r):
  Qqv 97 [.agg #[No a0.1,s],o] w (fun v w'=>∃u0,v=.tuple #[u0,.agg #[No r.2.1,No r.2.2]]/\Cd 120 AlA H w w' u0 (r.1)):=by
 refine A4 76 [(0,.agg #[No a0.1,s]),(1,o)] func97 Z fun hL=>Ao<|BM (t:=40) Z Z hL fun w1 b1 dn d8 _=>As 1 Z<|AO AI.e Z dn fun w2 b2 ba d9 _=>Ad<|VR<|A6<|Bo 1 Z<|Ag (AZ aa)<|AA 1 Z<|AL h ?_ ?_<;>intro dp h
 ·refine Ao<|A1 h fun x5 dq h=>A9 ba (CF _ _ (Av ba) dq) fun w6 ey dr ea=>As 1 Z<|Ak 0 Z dr Z fun w7 c4 eb=>Ad<|Aw<|Am<|Fb ?_
  cases h
  refine Bv (.tmp Z) (.cell Z Ae3 Z AI.e (AP (i:=0) c4 Z)) ⟨c4.ext,_,Z,Cd.nil⟩
 refine Au<|Aq<|A6<|Bo 1 Z<|Ag (AZ aa)<|AA 1 Z<|AL h ?_ ?_<;>intro ds h
 ·refine Ao<|A1 h fun ez c5 h=>A9 ba (CF _ _ (Av ba) c5) fun e0 ec c6 du=>As 1 Z<|Ak 0 Z c6 Z fun e1 bz dv=>Ad<|Aw<|Am<|Fb ?_
  cases h
  refine Bv (.tmp Z) (.cell Z Ae3 Z AI.e (AP (i:=0) bz Z)) ⟨bz.ext,_,Z,Cd.nil⟩
 refine Au<|Aq<|Bb Unit (fun(_:Unit)=>[(1,o),(2,(Abo b1)),(5,(Abo b2))]) (fun(_:Unit) wr=>Bk w [.box b2 [No 0,No 0] 35,.box b1 [No a0.1,s] 40] wr/\(IP a0 a1)=some r) ?_ ?_
 ·refine Bo 1 Z<|Ag (AZ aa)<|AA 1 Z<|A2 ?_;obtain⟨b0,h⟩:=AR h;refine Bj (Int×Nat) (fun⟨p,n⟩=>[(1,o),(2,(Abo b1)),(5,(Abo b2)),(22,o),(23,No (a1.length:Int)),(24,No p)]) (fun⟨p,n⟩ wr=>Bk w [.box b2 [No 0,No 0] 35,.box b1 [No a0.1,s] 40] wr/\DR (Dv a0 a1) n p=some r) (fun⟨p,n⟩=>n) (0,b0) Z ⟨ba,h⟩ ?_;rintro⟨p,nn71⟩ ed ⟨ax,h⟩;obtain⟨b0,e2,rfl,h,bd⟩:=AQ h;refine A7 1 Z<|A6<|AL h ?_ ?_<;>intro c7 h
  ·refine Au<|Aq<|A6<|A2<|Bo 1 Z<|Ax h fun b3 h=>AW aa p.toNat (Cx b3) (AM b3) ?_;rintro e3 _ rfl c8;refine Ag (AT c8 (hH.trans ax.arg))<|AA 2 Z<|Bo 1 Z<|A1 h fun e4 c9 h=>A9 ax (J3 _ _ (Av ax) (hU.mono  Aj) c9) fun e5 ee da dw=>AO AI.e Z da fun e6 e7 db dx _=>Ak 0 Z db Z fun e8 aq dy=>Ad<|Ao<|Ag (AJ 0 Z AI.e aq Z)<|Ag (Ba (fun _=>B8 _))<|Ag (IX I4 (Nc _ _ _ _))<|Ad<|BG h ?_ ?_<;>intro dc h
   ·refine Ao<|Ag (Ae Z Ae3 Z BB.e)<|Ag (Af 0 Z aq Z)<|As 1 Z<|A1 h fun e9 dd h=>A9 aq (CF _ _ (Av aq) dd) fun fa ef de dz=>As 1 Z<|Ak 1 Z de Z fun fb b4 d0=>Ad<|Aw<|Al<|Am<|Bc ?_;have h:=Bw.out h bd;refine Al<|AN<|Fb ?_
    cases h
    refine Bv (.tmp Z) (.cell Z Ae3 Z AI.e (AP (i:=1) b4 Z)) ⟨b4.ext,_,Z,Cd.nil⟩
   refine Au<|Az<|Aq<|An<|Ax h fun df h=>Ag (Ay df)<|As 1 Z<|AE ?_;have dg:=aq.Bl (i:=0) Z;have h:=Bw.again h bd;refine AD (_,_) Z ⟨dg,h⟩
  refine Bf<|A5<|A3 ?_;have h:=Bw.out h bd;refine AY<|A8 () ⟨ax,h⟩
 rintro _ eg ⟨dh,h⟩;refine Bo 1 Z ?_;obtain⟨b5,d1,be⟩:=Cp AlA H 120 dh;refine Ad<|A6<|AcN<|Aq<|Bb (Alr×Value×Qq6) (fun⟨ar,am,ac⟩=>[(5,(Abo b2)),(9,am)]) (fun⟨ar,am,ac⟩ wr=>C5 w [.row am 120 2 (ar).length ac,.box b2 [No 0,No 0] 35,.box b1 [No a0.1,s] 40] wr fun Oz=>AK AlA (gz H w wr Oz) ar ac/\IN ar=some r) ?_ ?_
 ·refine BZ (Qqz 0 4 (.q 6 (.h 4 (.q 5 (.tail 7))))) mixed Qqb (fun eh bi=>?_);have ad:=b5.call bi;have b6:=AH b5 bi;refine B2 Z (AJ 2 Z Lk.e ad Z) Z<|B9 1 Z<|Ax h fun bj h=>CP Z Z Z Ae5 aa ((0:Int).toNat) (Cx bj) (AM bj) Z ?_;rintro ei _ rfl ce;refine B2 Z (AT ce (hH.trans ad.arg)) Z<|B9 1 Z<|A1 h fun c cf h=>BC Z Z Z (fun di an=>FP _ _ (Av (ad.call an)) (bx.mono  Aj) cf) ?_;rintro di k ej an ay ⟨_,rfl,bt⟩;have az:=ad.call an;have b7:=AH ad an;have bk:=az.call ay;have b8:=AH az ay;have x:=bt.mono (Kk hH az ay);refine B2 Z (AZ x) Z<|Bt (fun ek bl=>?_);have cg:=bk.call bl;have bb:=AH bk bl;refine Ad<|A2 ?_;obtain⟨bf,h⟩:=AR h;have be:=be.mono (Ab (b6.trans (b7.trans (b8.trans bb))));have x:=x.mono (Ab bb)
  refine Bj (Alr×Int×Value×Qq6×Nat) (fun⟨e,a,f,d,n⟩=>[(1,o),(2,(Abo b1)),(5,(Abo b2)),(9,f),(43,k),(44,No (c.length:Int)),(45,No a)]) (fun⟨e,a,f,d,n⟩ wr=>C5 w [.row f 120 2 (e).length d,.box b2 [No 0,No 0] 35,.box b1 [No a0.1,s] 40] wr fun Oz=>AS AlA (gz H w wr Oz) k c/\AK AlA (gz H w wr Oz) e d/\DR (Du a0 a1 c) n (e,a)=some r) (fun⟨e,a,f,d,n⟩=>n) (([]:Alr),0,Aal,[],bf) Z ⟨cg,x,be,h⟩ ?_;rintro⟨e,a,f,d,nn294⟩ d2 ⟨a2,y,b,h⟩;obtain⟨bf,bg,rfl,h,bm⟩:=AQ h;refine A7 1 Z<|A6<|AL h ?_ ?_<;>intro ch h
  ·refine Au<|Aq<|Bb (Alr×Value×Qq6) (fun⟨ak,ae,u⟩=>[(1,o),(2,(Abo b1)),(5,(Abo b2)),(9,ae),(43,k),(44,No (c.length:Int)),(45,No a)]) (fun⟨ak,ae,u⟩ wr=>C5 w [.row ae 120 2 (ak).length u,.box b2 [No 0,No 0] 35,.box b1 [No a0.1,s] 40] wr fun Oz=>AS AlA (gz H w wr Oz) k c/\AK AlA (gz H w wr Oz) ak u/\(DA a) ak=some bg) ?_ ?_
   ·refine A2<|Ao<|Ax h fun bn h=>AW y a.toNat (Cx bn) (AM bn) ?_;rintro el _ ⟨_,_,rfl,rfl,rfl⟩ ci;refine Ag (BI ci (Av a2))<|AO Fk.e Z a2 fun em a3 cj au _=>Ak 0 Z cj Z fun en ck av=>Ad<|Bb Unit (fun(_:Unit)=>[(1,o),(2,(Abo b1)),(5,(Abo b2)),(9,f),(11,(Abo a3)),(43,k),(44,No (c.length:Int)),(45,No a)]) (fun(_:Unit) wr=>C5 w [.box a3 [No ((c.getD a.toNat Qq2).1),No ((c.getD a.toNat Qq2).2)] 120,.row f 120 2 (e).length d,.box b2 [No 0,No 0] 35,.box b1 [No a0.1,s] 40] wr fun Oz=>AS AlA (gz H w wr Oz) k c/\AK AlA (gz H w wr Oz) e d/\(GC e a c)=some bg) ?_ ?_
    ·refine Bo 1 Z<|Ag (AZ aa)<|AA 1 Z<|A2 ?_;obtain⟨bh,h⟩:=AR h;have y:=y.mono (Ab (au.trans av));have b:=b.mono (Ab (au.trans av));refine Bj (Int×Nat) (fun⟨g,n⟩=>[(1,o),(2,(Abo b1)),(5,(Abo b2)),(9,f),(11,(Abo a3)),(43,k),(44,No (c.length:Int)),(45,No a),(49,o),(50,No (a1.length:Int)),(51,No g)]) (fun⟨g,n⟩ wr=>C5 w [.box a3 [No ((c.getD a.toNat Qq2).1),No ((c.getD a.toNat Qq2).2)] 120,.row f 120 2 (e).length d,.box b2 [No 0,No 0] 35,.box b1 [No a0.1,s] 40] wr fun Oz=>AS AlA (gz H w wr Oz) k c/\AK AlA (gz H w wr Oz) e d/\DR (CC a0 a1 e a c) n g=some bg) (fun⟨g,n⟩=>n) (0,bh) Z ⟨ck,y,b,h⟩ ?_;rintro⟨g,nn425⟩ d3 ⟨ao,j,b,h⟩;obtain⟨bh,eo,rfl,h,a4⟩:=AQ h;refine A7 1 Z<|A6<|AL h ?_ ?_<;>intro cl h
     ·refine Au<|Aq<|A6<|A2<|Bo 1 Z<|Ax h fun bo h=>AW aa g.toNat (Cx bo) (AM bo) ?_;rintro ep _ rfl cm;refine Ag (AT cm (hH.trans ao.arg))<|AA 2 Z<|BZ (.q 0 (.q 1 (Qqz 3 7 (.h 2 (.q 10 (.q 11 (.tail 12))))))) mixed Qqb (fun eq bp=>?_);have z:=ao.call bp;have af:=AH ao bp;refine B2 Z (AJ 3 Z Lk.e z Z) Z<|B9 1 Z<|B2 Z (Ae Z Afi Z BB.e) Z<|B2 Z (Af 0 Z z Z) Z<|B2 Z (Ae Z Afi Z BB.e) Z<|B2 Z (Af 0 Z z Z) Z<|B9 1 Z<|Ax h fun cn h=>B2 Z (Ay cn) Z<|B2 Z (Ba (fun _=>Tf _ _ _)) Z<|A1 h fun er co h=>BC Z Z Z (fun dj ap=>FP _ _ (Av (z.call ap)) (bx.mono  Aj) co) ?_;rintro dj dt dk ap a5 ⟨_,rfl,bu⟩;have a6:=z.call ap;have ag:=AH z ap;have a7:=a6.call a5;have ah:=AH a6 a5;have bv:=bu.mono (Kk hH a6 a5)
      refine A1 h fun es cp h=>?_;have b9:=(fun(ca:World) (cq:Ext dk ca)=>KO ca _ (Le.refl _) ((bv.mono (Av a7)).mono cq.le) cp);refine Er Z Z Z b9<|B9 1 Z<|Bt (fun et bq=>?_);have br:=a7.call bq;have ai:=AH a7 bq;refine Ad<|Bi h ?_ ?_<;>intro cr h
      ·refine Bf<|LW<|A5<|A3 ?_;have h:=Bw.out h a4;refine LW<|Ra<|AY ?_;have cs:=br.Bl (i:=0) Z;have j:=j.mono (Ab (af.trans (ag.trans (ah.trans (ai.trans (AB (i:=0) Z))))));have b:=b.mono (Ab (af.trans (ag.trans (ah.trans (ai.trans (AB (i:=0) Z))))));refine A8 (_,_,_) ⟨cs,j,b,h⟩
      refine Au<|Az<|Aq<|An<|Ax h fun ct h=>Ag (Ay ct)<|As 1 Z<|AE ?_;have h:=Bw.again h a4;have j:=j.mono (Ab (af.trans (ag.trans (ah.trans ai))));have b:=b.mono (Ab (af.trans (ag.trans (ah.trans ai))));refine AD (_,_) Z ⟨br,j,b,h⟩
     refine Bf<|A5<|A3 ?_;have h:=Bw.out h a4;refine AY<|A8 () ⟨ao,j,b,h⟩
    have b:=b.mono (Ab (au.trans av));rintro _ d4 ⟨bs,al,b,h⟩;refine An<|As 1 Z<|Ag (AJ 0 Z Fk.e bs Z)<|Bx [((c.getD a.toNat Qq2).1,(c.getD a.toNat Qq2).2)] (r:=AlA) (fun _=>Zc _ _ _) bs (.c2 ⟨_,_,Z,Z,Z⟩ .nil) fun eu ev d5 cu bc cv=>Ax h fun cw h=>?_;have b:=b.mono (Ab bc);refine Bp (r:=AlA) 1 e [((c.getD a.toNat Qq2).1,(c.getD a.toNat Qq2).2)] Z Ae7 cu Z b cv cw fun dl ew cx cy cb a8=>As 1 Z<|AE<|Az ?_;have cz:=cy.Bl (i:=0) Z;have al:=al.mono (Ab (bc.trans (cb.trans (AB (i:=0) Z))));have a8:=a8.mono (Ab (AB (i:=0) Z));refine A8 (_,_,_) ⟨cz,al,a8,h⟩
   rintro⟨ak,ae,u⟩ d6 ⟨c0,bw,cc,h⟩;refine An<|Ax h fun c1 h=>Ag (Ay c1)<|As 1 Z<|AE ?_;have h:=Bw.again h bm;refine AD (_,_,_,_,_) Z ⟨c0,bw,cc,h⟩
  refine Bf<|A5<|A3 ?_;have h:=Bw.out h bm;refine AY<|A8 (_,_,_) ⟨a2,b,h⟩
 rintro⟨ar,am,ac⟩ d7 ⟨c3,aw,h⟩;refine Bo 1 Z<|Ag (Ba (fun _=>B8 _))<|As 1 Z<|Ak 1 Z c3 Z fun ex a9 cd=>Ad<|Aw<|Fb ?_
 cases h
 refine Bv (.tmp Z) (.cell Z Ae3 Z AI.e (AP (i:=1) a9 Z)) ?_;have aw:=aw.mono (Ab cd);exact⟨a9.ext,_,Z,(a9.FV hH (i:=0) Z aw)⟩
end
def G2(a0:Int×Int)(a1:Int×Int)(a2:Int):Option (Bool×Qq7×Int):=
 AU (Bq (a1.2 - a0.2)) (AU (Bq (a0.2 - a1.2)) (if(a1.1=a0.1)/\(0<(max (a1.2 - a0.2) (a0.2 - a1.2)))then some (decide ((max (a1.2 - a0.2) (a0.2 - a1.2))<=a2),(a1.1,a1.2),a2)else some (false,(a1.1,a1.2),a2)))
theorem QW{d w:World}{H:PH}(_hH:Le H (hp d)){O:List BV}{a0 a1:Int×Int}{a2:Int}{ba1 ba2:Nat}(hL:Bk d (Ha [.box ba1 [No a1.1,No a1.2] 120,.box ba2 [No a2] 3] O) w){r:Bool×Qq7×Int}(h:G2 a0 a1 a2=some r):
  Ok prog 148 [.agg #[No a0.1,No a0.2],Abo ba1,Abo ba2] w (fun v w'=>v=.bool r.1/\Bk d (Ha [.box ba1 [No r.2.1.1,No r.2.1.2] 120,.box ba2 [No r.2.2] 3] O) w'/\Le (fz w (Ha [.box ba1 [No a1.1,No a1.2] 120,.box ba2 [No a2] 3] O)) (fz w' (Ha [.box ba1 [No r.2.1.1,No r.2.1.2] 120,.box ba2 [No r.2.2] 3] O))):=by
 refine Cj (n:=31) [(0,.agg #[No a0.1,No a0.2]),(1,(Abo ba1)),(2,(Abo ba2))] func148 Z Z Z Z ?_;have hT:=Le.refl (fz w (Ha [.box ba1 [No a1.1,No a1.2] 120,.box ba2 [No a2] 3] O));refine Ao<|BM (t:=120) Z Z hL fun k l a c _=>AA 1 Z<|Ao<|Ag (Ae Z Afi Z BB.e)<|Ag (Af 1 Z a Z)<|Ag (Ae Z Afi Z BB.e)<|Ag (Af 0 Z a Z)<|Ax h fun e h=>Ag (Ay e)<|Ag (Ae Z Afi Z BB.e)<|Ag (Af 0 Z a Z)<|Ag (Ae Z Afi Z BB.e)<|Ag (Af 1 Z a Z)<|Ax h fun f h=>Ag (Ay f)<|Ag (AeN Z Z)<|AA 1 Z<|Ao<|Ag (Ae Z Afi Z BB.e)<|Ag (Af 1 Z a Z)<|Ag (Ae Z Afi Z BB.e)<|Ag (Af 0 Z a Z)<|As 2 Z ?_;refine Ns 2 5 Z Z Z Z Z Z<|As 1 Z<|Bz 26 h ?_ ?_<;>intro b h
 ·refine Aa b<|Ag (Ai Z)<|Aa b<|Ag (Af 2 Z a Z)<|Aa b<|Ag (Ai Z)<|Ag (AF b Z)<|AA 1 Z<|Aw ?_
  cases h
  refine Ah Z ?_;have g:=a.Bl (i:=0) Z;have hT:=hT.trans (c.trans (AB (i:=0) Z));exact⟨Z,g,hT⟩
 iterate 3 refine Ar b ?_
 refine Ag (AG b Z)<|AA 1 Z<|Aw ?_
 cases h
 refine Ah Z ?_;have j:=a.Bl (i:=0) Z;have hT:=hT.trans (c.trans (AB (i:=0) Z));exact⟨Z,j,hT⟩
def DI(a b c:Int):Option (Int×Qq7×Int):=
 some ((-1),(a,b),c)
def B7(a0:Alr):Int×Int×Int×Int->Option ((Int×Int×Int×Int)⊕(Int×Qq7×Int)):=fun⟨c,d,e,a⟩=>
 if a<(a0.length:Int)then AU (0<=a/\a<(a0.length:Int)) (Qq9 (G2 ((a0.getD a.toNat Qq2).1,(a0.getD a.toNat Qq2).2) (c,d) e) (fun b=>if b.1 then Qzx Sum.inr (some (a,(b.2.1.1,b.2.1.2),b.2.2))else AU (Bq (a+1)) (some (Sum.inl (b.2.1.1,b.2.1.2,b.2.2,(a+1))))))else Qzx Sum.inr (DI c d e)
def Gh(a0:Alr)(s:Int×Int×Int×Int):Option (Int×Qq7×Int):=Go.L.run (B7 a0) s
def E1(a0:Alr)(a1_c0:Int×Int)(a1_c1:Int):Option (Int×Qq7×Int):=
 (Gh a0) (a1_c0.1,a1_c0.2,a1_c1,0)
theorem Ku{g w:World}{H:PH}(hH:Le H (hp g)){O:List BV}{a0:Alr}{a1_c0:Int×Int}{a1_c1:Int}{va0:Value}{ba1_c0 ba1_c1:Nat}(hL:Bk g (Ha [.box ba1_c0 [No a1_c0.1,No a1_c0.2] 120,.box ba1_c1 [No a1_c1] 3] O) w)(t:AS AlA (gz H g w (Ha [.box ba1_c0 [No a1_c0.1,No a1_c0.2] 120,.box ba1_c1 [No a1_c1] 3] O)) va0 a0){r:Int×Qq7×Int}(h:E1 a0 a1_c0 a1_c1=some r):
  Ok prog 192 [va0,.func (.func 148) #[] #[Abo ba1_c0,Abo ba1_c1]] w (fun v w'=>v=No r.1/\Bk g (Ha [.box ba1_c0 [No r.2.1.1,No r.2.1.2] 120,.box ba1_c1 [No r.2.2] 3] O) w'/\Le (fz w (Ha [.box ba1_c0 [No a1_c0.1,No a1_c0.2] 120,.box ba1_c1 [No a1_c1] 3] O)) (fz w' (Ha [.box ba1_c0 [No r.2.1.1,No r.2.1.2] 120,.box ba1_c1 [No r.2.2] 3] O))):=by
 refine Cj (n:=19) [(0,va0),(1,.func (.func 148) #[] #[Abo ba1_c0,Abo ba1_c1])] func192 Z Z Z Z ?_;have hT:=Le.refl (fz w (Ha [.box ba1_c0 [No a1_c0.1,No a1_c0.2] 120,.box ba1_c1 [No a1_c1] 3] O));refine A7 1 Z<|Bb (Int×Int×Int) (fun⟨k,l,m⟩=>[]) (fun⟨k,l,m⟩ wr=>C5 g (Ha [.box ba1_c0 [No k,No l] 120,.box ba1_c1 [No m] 3] O) wr fun Oz=>Le (fz w (Ha [.box ba1_c0 [No a1_c0.1,No a1_c0.2] 120,.box ba1_c1 [No a1_c1] 3] O)) (fz wr Oz)/\DI k l m=some r) ?_ ?_
 ·refine Bo 1 Z<|Ag (AZ t)<|AA 1 Z<|A2 ?_;obtain⟨o,h⟩:=AR h;refine Bj (Int×Int×Int×Int×Nat) (fun⟨c,d,e,a,n⟩=>[(0,va0),(1,.func (.func 148) #[] #[Abo ba1_c0,Abo ba1_c1]),(7,No (a0.length:Int)),(8,No a)]) (fun⟨c,d,e,a,n⟩ wr=>C5 g (Ha [.box ba1_c0 [No c,No d] 120,.box ba1_c1 [No e] 3] O) wr fun Oz=>AS AlA (gz H g wr Oz) va0 a0/\Le (fz w (Ha [.box ba1_c0 [No a1_c0.1,No a1_c0.2] 120,.box ba1_c1 [No a1_c1] 3] O)) (fz wr Oz)/\DR (B7 a0) n (c,d,e,a)=some r) (fun⟨c,d,e,a,n⟩=>n) (a1_c0.1,a1_c0.2,a1_c1,0,o) Z ⟨hL,t,hT,h⟩ ?_;rintro⟨c,d,e,a,nn51⟩ ac ⟨i,b,hT,h⟩;obtain⟨o,ae,rfl,h,j⟩:=AQ h;refine A7 1 Z<|A6<|AL h ?_ ?_<;>intro u h
  ·refine Au<|Aq<|A6<|A2<|A7 2 Z<|Bo 3 Z<|Ax h fun p h=>AW b a.toNat (Cx p) (AM p) ?_;rintro af _ ⟨_,_,rfl,rfl,rfl⟩ x;refine Ag (BI x (Av i))<|A1 h fun q y h=>D6 Z Z (QW (a0:=((a0.getD a.toNat Qq2).1,(a0.getD a.toNat Qq2).2)) (a1:=(c,d)) (a2:=e) (O:=(Ha [] O)) hH i y) ?_;rintro _ ag ⟨rfl,s,f⟩;refine Ad<|Bi h ?_ ?_<;>intro z h
   ·refine A7 2 Z<|Aw<|Al<|Am<|Bc ?_;have h:=Bw.out h j;refine Al<|AN ?_
    cases h
    refine Ah Z ?_;have hT:=hT.trans f;exact⟨Z,s,hT⟩
   refine Au<|Az<|Aq<|An<|Ax h fun aa h=>Ag (Ay aa)<|As 1 Z<|AE ?_;have h:=Bw.again h j;have b:=b.mono (Ab f);have hT:=hT.trans f;refine AD (_,_,_,_,_) Z ⟨s,b,hT,h⟩
  refine Bf<|A5<|A3 ?_;have h:=Bw.out h j;refine AY<|A8 (_,_,_) ⟨i,hT,h⟩
 rintro⟨k,l,m⟩ ad ⟨ab,hT,h⟩;refine A7 1 Z<|Aw ?_
 cases h
 refine Ah Z ⟨Z,ab,hT⟩
def Ca(a0:Alr)(a1_c0:Int×Int)(a1_c1:Int):Option (Bool×Qq7×Int):=
 Qq9 (E1 a0 (a1_c0.1,a1_c0.2) a1_c1) (fun a=>some (decide (0<=a.1),(a.2.1.1,a.2.1.2),a.2.2))
theorem J7{a w:World}{H:PH}(hH:Le H (hp a)){O:List BV}{a0:Alr}{a1_c0:Int×Int}{a1_c1:Int}{va0:Value}{ba1_c0 ba1_c1:Nat}(hL:Bk a (Ha [.box ba1_c0 [No a1_c0.1,No a1_c0.2] 120,.box ba1_c1 [No a1_c1] 3] O) w)(c:AS AlA (gz H a w (Ha [.box ba1_c0 [No a1_c0.1,No a1_c0.2] 120,.box ba1_c1 [No a1_c1] 3] O)) va0 a0){r:Bool×Qq7×Int}(h:Ca a0 a1_c0 a1_c1=some r):
  Ok prog 147 [va0,.func (.func 148) #[] #[Abo ba1_c0,Abo ba1_c1]] w (fun v w'=>v=.bool r.1/\Bk a (Ha [.box ba1_c0 [No r.2.1.1,No r.2.1.2] 120,.box ba1_c1 [No r.2.2] 3] O) w'/\Le (fz w (Ha [.box ba1_c0 [No a1_c0.1,No a1_c0.2] 120,.box ba1_c1 [No a1_c1] 3] O)) (fz w' (Ha [.box ba1_c0 [No r.2.1.1,No r.2.1.2] 120,.box ba1_c1 [No r.2.2] 3] O))):=by
 refine Cj (n:=9) [(0,va0),(1,.func (.func 148) #[] #[Abo ba1_c0,Abo ba1_c1])] func147 Z Z Z Z ?_;have hT:=Le.refl (fz w (Ha [.box ba1_c0 [No a1_c0.1,No a1_c0.2] 120,.box ba1_c1 [No a1_c1] 3] O));refine A7 1 Z<|Bo 2 Z<|A1 h fun f d h=>Fh (Ku (a0:=a0) (a1_c0:=(a1_c0.1,a1_c0.2)) (a1_c1:=a1_c1) (O:=(Ha [] O)) hH hL c d) ?_;rintro _ g ⟨rfl,e,b⟩;refine AA 2 Z<|Aw ?_
 cases h
 refine Ah Z ?_;have hT:=hT.trans b;exact⟨Z,e,hT⟩
def Ke(a:Qq5)(_c100:Int):Option Al3:=
 some (a,(0,0))
def Eb(a0:Int×Al1)(a2:Abv)(d:Alr):Qq5×Int×Int->Option ((Qq5×Int×Int)⊕Al3):=fun⟨c,e,a⟩=>
 if a<(d.length:Int)then AU (0<=a/\a<(d.length:Int)) (Qq9 (Ea (a0.1,a0.2) a2) (fun f=>Qq9 (Ca f ((d.getD a.toNat Qq2).1,(d.getD a.toNat Qq2).2) e) (fun b=>if b.1 then Qq9 (BH c b.2.1.1) (fun g=>if !g then AU (Go.E.Fz 8 (c.length+([b.2.1.1]).length)) (AU (Bq (a+1)) (some (Sum.inl ((c++[b.2.1.1]),b.2.2,(a+1)))))else AU (Bq (a+1)) (some (Sum.inl (c,b.2.2,(a+1)))))else AU (Bq (a+1)) (some (Sum.inl (c,b.2.2,(a+1)))))))else Qzx Sum.inr (Ke c e)
def S3(a0:Int×Al1)(a2:Abv)(a:Alr)(s:Qq5×Int×Int):Option Al3:=Go.L.run (Eb a0 a2 a) s
def Gl(a0:Int×Al1)(a1:Abv)(a2:Abv)(a3:Int):Option Al3:=
 Qq9 (HL a1) (fun b=>if b.1=0/\b.2=0 then Qq9 (HL a2) (fun a=>if a.1=0/\a.2=0 then(if a3<1 then Qq9 (DX (4:Int) (-3:Int)) (fun c=>some ([],(c.1,c.2)))else if 2048<a3 then Qq9 (DX (4:Int) (-3:Int)) (fun d=>some ([],(d.1,d.2)))else Qq9 (Ea (a0.1,a0.2) a1) (fun f=>(S3 a0 a2 f) (([]:Qq5),a3,0)))else Qq9 (DX a.1 (-2:Int)) (fun e=>some ([],(e.1,e.2))))else some ([],(b.1,b.2)))
section
variable(w:World)(H:PH)(hH:Le H (hp w)) include hH
theorem S4(hU:HG H){a0:Int×Al1}{a1 a2:Abv}{a3:Int}{k:Value}(bw:AS (.pair .st (.vec AlA)) H k (a0.2)){r:Al3}(h:Gl a0 a1 a2 a3=some r):
  Qqv 98 [.agg #[No a0.1,k],Abu a1,Abu a2,No a3] w (fun v w'=>∃u0,v=.tuple #[u0,.agg #[No r.2.1,No r.2.2]]/\Cd 3 (.int .i64) H w w' u0 (r.1)):=by
 refine A4 66 [(0,.agg #[No a0.1,k]),(1,(Abu a1)),(2,(Abu a2)),(3,No a3)] func98 Z fun hL=>Ao<|BM (t:=40) Z Z hL fun w1 b1 dg d3 _=>Te (t:=3) Z Z dg fun w2 b2 dh d4 _=>As 1 Z<|AO AI.e Z dh fun w3 b3 cw d5 _=>Ad<|A6<|Bo 1 Z<|A1 h fun s di h=>A9 cw (J3 _ _ (Av cw) (hU.mono  Aj) di) fun w5 em dj d6=>AO AI.e Z dj fun w6 b6 dk d7 _=>Ak 0 Z dk Z fun w7 bk d8=>Ad<|Ao<|Ag (AJ 0 Z AI.e bk Z)<|Ag (Ba (fun _=>B8 _))<|Ag (IX I4 (Nc _ _ _ _))<|Ad<|BG h ?_ ?_<;>intro dl h
 ·refine BZ (.q 0 (.q 1 (.tail 2))) mixed Qqb (fun en cx=>?_);have bx:=bk.call cx;refine B2 Z (AJ 0 Z AI.e bx Z) Z<|B9 1 Z<|Bt (fun eo cy=>?_);have cz:=bx.call cy;refine Ak 1 Z cz Z fun ep bz dn=>Ad<|Aw<|Am ?_
  cases h
  refine Bv (.tmp Z) (.cell Z Ae3 Z AI.e (AP (i:=1) bz Z)) ⟨bz.ext,_,Z,Cd.nil⟩
 refine Au<|Aq<|A6<|Bo 1 Z<|A1 h fun g c0 h=>A9 bk (J3 _ _ (Av bk) (hU.mono  Aj) c0) fun eq d9 c2 dp=>AO AI.e Z c2 fun er ac c3 dq _=>Ak 0 Z c3 Z fun es p dr=>Ad<|Ao<|Ag (AJ 0 Z AI.e p Z)<|Ag (Ba (fun _=>B8 _))<|Ag (IX I4 (Nc _ _ _ _))<|Ad<|BG h ?_ ?_<;>intro c4 h
 ·refine Ao<|Ag (Ae Z Ae3 Z BB.e)<|Ag (Af 0 Z p Z)<|A1 h fun et c5 h=>A9 p (CF _ _ (Av p) c5) fun eu ea c6 ds=>As 1 Z<|Ak 2 Z c6 Z fun ev b0 dt=>Ad<|Aw<|Am ?_
  cases h
  refine Bv (.tmp Z) (.cell Z Ae3 Z AI.e (AP (i:=2) b0 Z)) ⟨b0.ext,_,Z,Cd.nil⟩
 refine Au<|Aq<|A6<|Ao<|Ag (Af 3 Z p Z)<|As 2 Z<|Bz 32 h ?_ ?_<;>intro af h
 ·iterate 2 refine Ar af ?_
  refine Ag (AF af Z)<|Ad<|DS<|Ao<|A1 h fun ew c7 h=>A9 p (CF _ _ (Av p) c7) fun ex eb c8 du=>As 1 Z<|Ak 2 Z c8 Z fun ey b4 dv=>Ad<|Aw<|Am ?_
  cases h
  refine Bv (.tmp Z) (.cell Z Ae3 Z AI.e (AP (i:=2) b4 Z)) ⟨b4.ext,_,Z,Cd.nil⟩
 refine Aa af<|Ag (Af 3 Z p Z)<|Aa af<|Ag (Ai Z)<|Ag (AG af Z)<|Ad<|AL h ?_ ?_<;>intro c9 h
 ·refine Ao<|A1 h fun ez da h=>A9 p (CF _ _ (Av p) da) fun e0 ec db dw=>As 1 Z<|Ak 2 Z db Z fun e1 b5 dx=>Ad<|Aw<|Am ?_
  cases h
  refine Bv (.tmp Z) (.cell Z Ae3 Z AI.e (AP (i:=2) b5 Z)) ⟨b5.ext,_,Z,Cd.nil⟩
 refine Au<|Aq<|Bo 1 Z ?_;obtain⟨ar,dy,bi⟩:=Cp (.int .i64) H 3 p;refine Ad<|Bb (Qq5×Int×Value×Qq6) (fun⟨a9,au,av,ai⟩=>[(9,(Abo b3)),(12,av)]) (fun⟨a9,au,av,ai⟩ wr=>C5 w [.row av 3 1 (a9).length ai,.box ac [No g.1,No g.2] 35,.box b6 [No s.1,No s.2] 35,.box b3 [No 0,No 0] 35,.box b2 [No au] 3,.box b1 [No a0.1,k] 40] wr fun Oz=>AK (.int .i64) (gz H w wr Oz) a9 ai/\Ke a9 au=some r) ?_ ?_
 ·refine Ao<|Ag (AJ 5 Z Lk.e ar Z)<|As 1 Z<|A1 h fun ad cd h=>Br ar (FP (a0:=(a0.1,a0.2)) _ _ (Av ar) (bw.mono  Aj) cd) ?_;rintro ba ed ⟨_,rfl,bu⟩ ce cf b7;have aq:=bu.mono (Kk hH ar ce);refine Ag (AZ aq)<|AA 1 Z<|A2 ?_;obtain⟨an,h⟩:=AR h;have bi:=bi.mono (Ab b7)
  refine Bj (Qq5×Int×Int×Value×Qq6×Nat) (fun⟨d,x,a,f,b,n⟩=>[(2,(Abu a2)),(4,(Abo b1)),(7,(Abo b2)),(9,(Abo b3)),(12,f),(39,ba),(40,No (ad.length:Int)),(41,No a)]) (fun⟨d,x,a,f,b,n⟩ wr=>C5 w [.row f 3 1 (d).length b,.box ac [No g.1,No g.2] 35,.box b6 [No s.1,No s.2] 35,.box b3 [No 0,No 0] 35,.box b2 [No x] 3,.box b1 [No a0.1,k] 40] wr fun Oz=>AS AlA (gz H w wr Oz) ba ad/\AK (.int .i64) (gz H w wr Oz) d b/\DR (Eb a0 a2 ad) n (d,x,a)=some r) (fun⟨d,x,a,f,b,n⟩=>n) (([]:Qq5),a3,0,Aal,[],an) Z ⟨cf,aq,bi,h⟩ ?_;rintro⟨d,x,a,f,b,nn135⟩ dz ⟨aw,e,c,h⟩;obtain⟨an,ee,rfl,h,aj⟩:=AQ h;refine A7 1 Z<|A6<|AL h ?_ ?_<;>intro cg h
  ·refine Au<|Aq<|A6<|A2<|Ao<|Ax h fun bl h=>AW e a.toNat (Cx bl) (AM bl) ?_;rintro ef _ ⟨_,_,rfl,rfl,rfl⟩ ch;refine Ag (BI ch (Av aw))<|AO Fk.e Z aw fun eg dc ci y _=>Ak 0 Z ci Z fun eh ak z=>Ad<|Ao<|Ag (AJ 6 Z Lk.e ak Z)<|As 1 Z<|A1 h fun dd cj h=>Br ak (FP (a0:=(a0.1,a0.2)) _ _ (Av ak) (bw.mono  Aj) cj) ?_;rintro dm de ⟨_,rfl,bv⟩ ck bm aa;have ag:=bv.mono (Kk hH ak ck);refine As 1 Z ?_;have bn:Bk w [.box dc [No ((ad.getD a.toNat Qq2).1),No ((ad.getD a.toNat Qq2).2)] 120,.box b2 [No x] 3,.row f 3 1 (d).length b,.box ac [No g.1,No g.2] 35,.box b6 [No s.1,No s.2] 35,.box b3 [No 0,No 0] 35,.box b1 [No a0.1,k] 40] de:=bm.DC [5,1] Z;have u:=Ck [5,1] bm bn Z;refine A1 h fun j cl h=>?_;have ag:=ag.mono (Ab u)
   refine Fh (J7 (a0:=dd) (a1_c0:=((ad.getD a.toNat Qq2).1,(ad.getD a.toNat Qq2).2)) (a1_c1:=x) (O:=[.row f 3 1 (d).length b,.box ac [No g.1,No g.2] 35,.box b6 [No s.1,No s.2] 35,.box b3 [No 0,No 0] 35,.box b1 [No a0.1,k] 40]) hH bn ag cl) ?_;rintro _ b8 ⟨rfl,al,ab⟩;refine AA 1 Z<|Bo 2 Z<|Cv 51 h ?_ ?_<;>intro o h
   ·refine Aa o<|Ag (Ai Z)<|Aa o<|Ag (Ae Z Afi Z BB.e)<|Aa o<|Ag (Af 0 Z al Z)<|Aa o<|A1 h fun ei cm h=>?_;have c:=c.mono (Ab (y.trans (z.trans (aa.trans (u.trans ab)))));refine A9 al (Gt _ _ (Le.refl _) (al.MZ hH (i:=2) Z c) cm) fun b9 d0 ax ae=>Aa o<|Ag (Ai Z)<|Ag (AF o Z)<|Ad<|Bi h ?_ ?_<;>intro cn h
    ·refine An<|As 1 Z<|Ag (Ae Z Afi Z BB.e)<|Ag (Af 0 Z ax Z)<|Bx [j.2.1.1] (r:=(.int .i64)) (fun _=>FX _ _) ax (.c1 Z .nil) fun ej ek d1 co bb cp=>Ax h fun cq h=>?_;have c:=c.mono (Ab (ae.trans bb));refine Bp (r:=(.int .i64)) 2 d [j.2.1.1] Z Aco co Z c cp cq fun bj ca ay cr cb az=>As 1 Z<|AE<|Az<|Aq<|An<|Ax h fun cs h=>Ag (Ay cs)<|As 1 Z<|AE ?_;have bo:=cr.Bl (i:=0) Z;have a4:Bk w [.box b6 [No s.1,No s.2] 35,.box b3 [No 0,No 0] 35,.box b2 [No j.2.2] 3,.row bj 3 1 ((d++[j.2.1.1])).length ay,.box ac [No g.1,No g.2] 35,.box b1 [No a0.1,k] 40] ca:=bo.DC [4,4] Z;have bc:=Ck [4,4] bo a4 Z
     have bp:Bk w [.row bj 3 1 ((d++[j.2.1.1])).length ay,.box ac [No g.1,No g.2] 35,.box b6 [No s.1,No s.2] 35,.box b3 [No 0,No 0] 35,.box b2 [No j.2.2] 3,.box b1 [No a0.1,k] 40] ca:=a4.DC [4,4] Z;have bd:=Ck [4,4] a4 bp Z;have h:=Bw.again h aj;have e:=e.mono (Ab (y.trans (z.trans (aa.trans (u.trans (ab.trans (ae.trans (bb.trans (cb.trans ((AB (i:=0) Z).trans (bc.trans bd)))))))))));have az:=az.mono (Ab ((AB (i:=0) Z).trans (bc.trans bd)));refine AD ((d++[j.2.1.1]),j.2.2,(a+1),bj,ay,an) Z ⟨bp,e,az,h⟩
    refine Au<|Az<|Aq<|An<|Ax h fun ct h=>Ag (Ay ct)<|As 1 Z<|AE ?_;have bq:=ax.Bl (i:=0) Z;have a5:Bk w [.box b6 [No s.1,No s.2] 35,.box b3 [No 0,No 0] 35,.box b2 [No j.2.2] 3,.row f 3 1 (d).length b,.box ac [No g.1,No g.2] 35,.box b1 [No a0.1,k] 40] b9:=bq.DC [4,4] Z;have be:=Ck [4,4] bq a5 Z;have br:Bk w [.row f 3 1 (d).length b,.box ac [No g.1,No g.2] 35,.box b6 [No s.1,No s.2] 35,.box b3 [No 0,No 0] 35,.box b2 [No j.2.2] 3,.box b1 [No a0.1,k] 40] b9:=a5.DC [4,4] Z;have bf:=Ck [4,4] a5 br Z;have h:=Bw.again h aj;have e:=e.mono (Ab (y.trans (z.trans (aa.trans (u.trans (ab.trans (ae.trans ((AB (i:=0) Z).trans (be.trans bf)))))))));have c:=c.mono (Ab (ae.trans ((AB (i:=0) Z).trans (be.trans bf))));refine AD (d,j.2.2,(a+1),f,b,an) Z ⟨br,e,c,h⟩
   iterate 5 refine Ar o ?_
   refine Ag (AG o Z)<|Ad<|Co<|Au<|Az<|Aq<|An<|Ax h fun cu h=>Ag (Ay cu)<|As 1 Z<|AE ?_;have bs:=al.Bl (i:=0) Z;have a6:Bk w [.box b6 [No s.1,No s.2] 35,.box b3 [No 0,No 0] 35,.box b2 [No j.2.2] 3,.row f 3 1 (d).length b,.box ac [No g.1,No g.2] 35,.box b1 [No a0.1,k] 40] b8:=bs.DC [4,4] Z;have bg:=Ck [4,4] bs a6 Z;have bt:Bk w [.row f 3 1 (d).length b,.box ac [No g.1,No g.2] 35,.box b6 [No s.1,No s.2] 35,.box b3 [No 0,No 0] 35,.box b2 [No j.2.2] 3,.box b1 [No a0.1,k] 40] b8:=a6.DC [4,4] Z;have bh:=Ck [4,4] a6 bt Z;have h:=Bw.again h aj;have e:=e.mono (Ab (y.trans (z.trans (aa.trans (u.trans (ab.trans ((AB (i:=0) Z).trans (bg.trans bh))))))));have c:=c.mono (Ab (y.trans (z.trans (aa.trans (u.trans (ab.trans ((AB (i:=0) Z).trans (bg.trans bh))))))))
   refine AD (d,j.2.2,(a+1),f,b,an) Z ⟨bt,e,c,h⟩
  refine Bf<|A5<|A3 ?_;have h:=Bw.out h aj;refine AY<|A8 (_,_,_,_) ⟨aw,c,h⟩
 rintro⟨a9,au,av,ai⟩ d2 ⟨cv,a7,h⟩;refine Bo 1 Z<|Ag (Ba (fun _=>B8 _))<|As 1 Z<|Ak 3 Z cv Z fun el a8 cc=>Ad<|Aw ?_
 cases h
 refine Bv (.tmp Z) (.cell Z Ae3 Z AI.e (AP (i:=3) a8 Z)) ?_;have a7:=a7.mono (Ab cc);exact⟨a8.ext,_,Z,(a8.FV hH (i:=0) Z a7)⟩
end
end Go.Proofs.YtopocbcekabkoaaGreatDoor
end
noncomputable section
namespace Go.Proofs.YtopocbcekabkoaaGreatDoor
open Go Go.E Go.RowKit
section
variable(w:World)(H:PH)(hH:Le H (hp w)) include hH
theorem Aa9{a b c:Int}:Ok Tryz.prog 11 [.int .i64 a,.int .i64 b,.int .i64 c] w (fun v w'=>Ext w w'/\v=.bool (decide (b<=a/\a<=c))):=by
 refine D0 w H hH ?_
 first
  | rfl
  | (unfold Ew;congr 1;by_cases d:b<=a <;> by_cases h2:a<=c <;> simp[d,h2])
end
end Go.Proofs.YtopocbcekabkoaaGreatDoor
end
noncomputable section
namespace Go.Proofs.YtopocbcekabkoaaGreatDoor
open Go Go.E Go.RowKit Go.L
set_option maxHeartbeats 1000000
set_option maxRecDepth 10000
open _root_.Go.Proofs.Tryz
def DL(a0 a1:Int):Option Al5:=
 some ((a0,a1))
section
variable(w:World)(H:PH)(hH:Le H (hp w)) include hH
theorem EA{a0 a1:Int}{r:Al5}(h:DL a0 a1=some r):
  Qqv 17 [No a0,No a1] w (fun v w'=>v=.agg #[No r.1,No r.2]):=by
 refine A4 8 [(0,No a0),(1,No a1)] func17 Z fun hL=>Ao<|AO AI.e Z hL fun e f b c _=>Ad<|Bo 2 Z<|Ag (Ba (fun _=>JI _ _ _))<|Ak 0 Z b Z fun g a d=>Ad<|Aw ?_
 cases h
 refine BX (.cell Z Ae3 Z AI.e (AP (i:=0) a Z)) ⟨a.ext,Z⟩
def Pe(a0:Int):Option Bool:=
 some (decide ((1<=a0)/\(a0<=7)))
theorem UC{a0:Int}{r:Bool}(h:Pe a0=some r):
  Qqv 53 [No a0] w (fun v w'=>v=.bool r):=by
 refine A4 9 [(0,No a0)] func53 Z fun hL=>A7 1 Z<|Bo 3 Z<|Ns 2 2 Z Z Z Z Z Z<|AA 1 Z<|Aw ?_
 cases h
 refine Ah Z ⟨hL.ext,Z⟩
end
def Ni(a0:Qv)(a1:Qv):Option (Bool×Qv):=
 some (decide (a0.f.1=a1.f.1),a1)
theorem Tj{a w:World}{H:PH}(hH:Le H (hp a)){O:List BV}{a0 a1:Qv}{va0_1 va0_3 va0_6:Value}{ba1:Nat}{va1_1 va1_3 va1_6:Value}(hL:Bk a (Ha [.box ba1 [No a1.f.1,va1_1,Abu a1.f.2.2.1,va1_3,No a1.f.2.2.2.2.1,No a1.f.2.2.2.2.2.1,va1_6] 30] O) w)(_ha0_1:AS .st (gz H a w (Ha [.box ba1 [No a1.f.1,va1_1,Abu a1.f.2.2.1,va1_3,No a1.f.2.2.2.2.1,No a1.f.2.2.2.2.2.1,va1_6] 30] O)) va0_1 (a0.f.2.1))(_ha0_3:AS .byte (gz H a w (Ha [.box ba1 [No a1.f.1,va1_1,Abu a1.f.2.2.1,va1_3,No a1.f.2.2.2.2.1,No a1.f.2.2.2.2.2.1,va1_6] 30] O)) va0_3 (a0.f.2.2.2.1))(_ha0_6:AS .Cy (gz H a w (Ha [.box ba1 [No a1.f.1,va1_1,Abu a1.f.2.2.1,va1_3,No a1.f.2.2.2.2.1,No a1.f.2.2.2.2.2.1,va1_6] 30] O)) va0_6 (a0.f.2.2.2.2.2.2))(k:AS .st (gz H a w (Ha [.box ba1 [No a1.f.1,va1_1,Abu a1.f.2.2.1,va1_3,No a1.f.2.2.2.2.1,No a1.f.2.2.2.2.2.1,va1_6] 30] O)) va1_1 (a1.f.2.1))(l:AS .byte (gz H a w (Ha [.box ba1 [No a1.f.1,va1_1,Abu a1.f.2.2.1,va1_3,No a1.f.2.2.2.2.1,No a1.f.2.2.2.2.2.1,va1_6] 30] O)) va1_3 (a1.f.2.2.2.1))(m:AS .Cy (gz H a w (Ha [.box ba1 [No a1.f.1,va1_1,Abu a1.f.2.2.1,va1_3,No a1.f.2.2.2.2.1,No a1.f.2.2.2.2.2.1,va1_6] 30] O)) va1_6 (a1.f.2.2.2.2.2.2)){r:Bool×Qv}(h:Ni a0 a1=some r):
  Ok prog 241 [.agg #[No a0.f.1,va0_1,Abu a0.f.2.2.1,va0_3,No a0.f.2.2.2.2.1,No a0.f.2.2.2.2.2.1,va0_6],Abo ba1] w (fun v w'=>∃(c:Value) (d:Value) (e:Value),v=.bool r.1/\Bk a (Ha [.box ba1 [No r.2.f.1,c,Abu r.2.f.2.2.1,d,No r.2.f.2.2.2.2.1,No r.2.f.2.2.2.2.2.1,e] 30] O) w'/\Le (fz w (Ha [.box ba1 [No a1.f.1,va1_1,Abu a1.f.2.2.1,va1_3,No a1.f.2.2.2.2.1,No a1.f.2.2.2.2.2.1,va1_6] 30] O)) (fz w' (Ha [.box ba1 [No r.2.f.1,c,Abu r.2.f.2.2.1,d,No r.2.f.2.2.2.2.1,No r.2.f.2.2.2.2.2.1,e] 30] O))/\AS .st (gz H a w' (Ha [.box ba1 [No r.2.f.1,c,Abu r.2.f.2.2.1,d,No r.2.f.2.2.2.2.1,No r.2.f.2.2.2.2.2.1,e] 30] O)) c (r.2.f.2.1)/\AS .byte (gz H a w' (Ha [.box ba1 [No r.2.f.1,c,Abu r.2.f.2.2.1,d,No r.2.f.2.2.2.2.1,No r.2.f.2.2.2.2.2.1,e] 30] O)) d (r.2.f.2.2.2.1)/\AS .Cy (gz H a w' (Ha [.box ba1 [No r.2.f.1,c,Abu r.2.f.2.2.1,d,No r.2.f.2.2.2.2.1,No r.2.f.2.2.2.2.2.1,e] 30] O)) e (r.2.f.2.2.2.2.2.2)):=by
 refine Cj (n:=9) [(0,.agg #[No a0.f.1,va0_1,Abu a0.f.2.2.1,va0_3,No a0.f.2.2.2.2.1,No a0.f.2.2.2.2.2.1,va0_6]),(1,(Abo ba1))] func241 Z Z Z Z ?_;have hT:=Le.refl (fz w (Ha [.box ba1 [No a1.f.1,va1_1,Abu a1.f.2.2.1,va1_3,No a1.f.2.2.2.2.1,No a1.f.2.2.2.2.2.1,va1_6] 30] O));have b:=hL.rG H;refine Ao<|BM (t:=30) Z Z hL fun p q g j _=>AA 1 Z<|Ao<|Ag (Ae Z AjR Z BB.e)<|Ag (Af 0 Z g Z)<|Ag (Ae Z AjR Z BB.e)<|Ag (Af 1 Z g Z)<|AA 2 Z<|Aw ?_
 cases h
 refine Ah Z ?_;have o:=g.Bl (i:=0) Z;have b:=b.trans (Ab (j.trans (AB (i:=0) Z)));have hT:=hT.trans (j.trans (AB (i:=0) Z));exact⟨va1_1,va1_3,va1_6,Z,o,hT,(k.mono b),(l.mono b),(m.mono b)⟩
def EZ(a:Int)(b:List Abv)(c:Abv)(d:Abv)(e f:Int)(g:List Qv):Option (Int×Qv):=
 some ((-1),(Qv.mk a b c d e f g))
def B0(a0:List Qv):Int×(List Abv)×Abv×Abv×Int×Int×(List Qv)×Int->Option ((Int×(List Abv)×Abv×Abv×Int×Int×(List Qv)×Int)⊕(Int×Qv)):=fun⟨c,d,e,g,h,i,j,a⟩=>
 if a<(a0.length:Int)then AU (0<=a/\a<(a0.length:Int)) (Qq9 (Ni (a0.getD a.toNat Qq2) (Qv.mk c d e g h i j)) (fun b=>if b.1 then Qzx Sum.inr (some (a,b.2))else AU (Bq (a+1)) (some (Sum.inl (b.2.f.1,b.2.f.2.1,b.2.f.2.2.1,b.2.f.2.2.2.1,b.2.f.2.2.2.2.1,b.2.f.2.2.2.2.2.1,b.2.f.2.2.2.2.2.2,(a+1))))))else Qzx Sum.inr (EZ c d e g h i j)
def Fa(a0:List Qv)(s:Int×(List Abv)×Abv×Abv×Int×Int×(List Qv)×Int):Option (Int×Qv):=Go.L.run (B0 a0) s
def D3(a0:List Qv)(a1_c0:Qv):Option (Int×Qv):=
 (Fa a0) (a1_c0.f.1,a1_c0.f.2.1,a1_c0.f.2.2.1,a1_c0.f.2.2.2.1,a1_c0.f.2.2.2.2.1,a1_c0.f.2.2.2.2.2.1,a1_c0.f.2.2.2.2.2.2,0)
theorem Jk{c w:World}{H:PH}(hH:Le H (hp c)){O:List BV}{a0:List Qv}{a1_c0:Qv}{va0:Value}{ba1_c0:Nat}{va1_c0_1 va1_c0_3 va1_c0_6:Value}(hL:Bk c (Ha [.box ba1_c0 [No a1_c0.f.1,va1_c0_1,Abu a1_c0.f.2.2.1,va1_c0_3,No a1_c0.f.2.2.2.2.1,No a1_c0.f.2.2.2.2.2.1,va1_c0_6] 30] O) w)(a9:AS .Cy (gz H c w (Ha [.box ba1_c0 [No a1_c0.f.1,va1_c0_1,Abu a1_c0.f.2.2.1,va1_c0_3,No a1_c0.f.2.2.2.2.1,No a1_c0.f.2.2.2.2.2.1,va1_c0_6] 30] O)) va0 a0)(ha1_c0_1:AS .st (gz H c w (Ha [.box ba1_c0 [No a1_c0.f.1,va1_c0_1,Abu a1_c0.f.2.2.1,va1_c0_3,No a1_c0.f.2.2.2.2.1,No a1_c0.f.2.2.2.2.2.1,va1_c0_6] 30] O)) va1_c0_1 (a1_c0.f.2.1))(ha1_c0_3:AS .byte (gz H c w (Ha [.box ba1_c0 [No a1_c0.f.1,va1_c0_1,Abu a1_c0.f.2.2.1,va1_c0_3,No a1_c0.f.2.2.2.2.1,No a1_c0.f.2.2.2.2.2.1,va1_c0_6] 30] O)) va1_c0_3 (a1_c0.f.2.2.2.1))(ha1_c0_6:AS .Cy (gz H c w (Ha [.box ba1_c0 [No a1_c0.f.1,va1_c0_1,Abu a1_c0.f.2.2.1,va1_c0_3,No a1_c0.f.2.2.2.2.1,No a1_c0.f.2.2.2.2.2.1,va1_c0_6] 30] O)) va1_c0_6 (a1_c0.f.2.2.2.2.2.2)){r:Int×Qv}(h:D3 a0 a1_c0=some r):
  Ok prog 259 [va0,.func (.func 241) #[] #[Abo ba1_c0]] w (fun v w'=>∃(u2:Value) (u4:Value) (u7:Value),v=No r.1/\Bk c (Ha [.box ba1_c0 [No r.2.f.1,u2,Abu r.2.f.2.2.1,u4,No r.2.f.2.2.2.2.1,No r.2.f.2.2.2.2.2.1,u7] 30] O) w'/\Le (fz w (Ha [.box ba1_c0 [No a1_c0.f.1,va1_c0_1,Abu a1_c0.f.2.2.1,va1_c0_3,No a1_c0.f.2.2.2.2.1,No a1_c0.f.2.2.2.2.2.1,va1_c0_6] 30] O)) (fz w' (Ha [.box ba1_c0 [No r.2.f.1,u2,Abu r.2.f.2.2.1,u4,No r.2.f.2.2.2.2.1,No r.2.f.2.2.2.2.2.1,u7] 30] O))/\AS .st (gz H c w' (Ha [.box ba1_c0 [No r.2.f.1,u2,Abu r.2.f.2.2.1,u4,No r.2.f.2.2.2.2.1,No r.2.f.2.2.2.2.2.1,u7] 30] O)) u2 (r.2.f.2.1)/\AS .byte (gz H c w' (Ha [.box ba1_c0 [No r.2.f.1,u2,Abu r.2.f.2.2.1,u4,No r.2.f.2.2.2.2.1,No r.2.f.2.2.2.2.2.1,u7] 30] O)) u4 (r.2.f.2.2.2.1)/\AS .Cy (gz H c w' (Ha [.box ba1_c0 [No r.2.f.1,u2,Abu r.2.f.2.2.1,u4,No r.2.f.2.2.2.2.1,No r.2.f.2.2.2.2.2.1,u7] 30] O)) u7 (r.2.f.2.2.2.2.2.2)):=by
 refine Cj (n:=19) [(0,va0),(1,.func (.func 241) #[] #[Abo ba1_c0])] func259 Z Z Z Z ?_;have hT:=Le.refl (fz w (Ha [.box ba1_c0 [No a1_c0.f.1,va1_c0_1,Abu a1_c0.f.2.2.1,va1_c0_3,No a1_c0.f.2.2.2.2.1,No a1_c0.f.2.2.2.2.2.1,va1_c0_6] 30] O));have ab:=hL.rG H;refine A7 1 Z<|Bb (Int×(List Abv)×Abv×Abv×Int×Int×(List Qv)×Value×Value×Value) (fun⟨aj,ak,al,am,an,ao,ap,i,j,k⟩=>[]) (fun⟨aj,ak,al,am,an,ao,ap,i,j,k⟩ wr=>C5 c (Ha [.box ba1_c0 [No aj,i,Abu al,j,No an,No ao,k] 30] O) wr fun Oz=>AS .st (gz H c wr Oz) i ak/\AS .byte (gz H c wr Oz) j am/\AS .Cy (gz H c wr Oz) k ap/\Le (fz w (Ha [.box ba1_c0 [No a1_c0.f.1,va1_c0_1,Abu a1_c0.f.2.2.1,va1_c0_3,No a1_c0.f.2.2.2.2.1,No a1_c0.f.2.2.2.2.2.1,va1_c0_6] 30] O)) (fz wr Oz)/\EZ aj ak al am an ao ap=some r) ?_ ?_
 ·refine Bo 1 Z<|Ag (AZ (a9.mono ab))<|AA 1 Z<|A2 ?_;obtain⟨a3,h⟩:=AR h
  refine Bj (Int×(List Abv)×Abv×Abv×Int×Int×(List Qv)×Int×Value×Value×Value×Nat) (fun⟨l,m,o,p,q,s,t,a,d,e,g,n⟩=>[(0,va0),(1,.func (.func 241) #[] #[Abo ba1_c0]),(7,No (a0.length:Int)),(8,No a)]) (fun⟨l,m,o,p,q,s,t,a,d,e,g,n⟩ wr=>C5 c (Ha [.box ba1_c0 [No l,d,Abu o,e,No q,No s,g] 30] O) wr fun Oz=>AS .Cy (gz H c wr Oz) va0 a0/\AS .st (gz H c wr Oz) d m/\AS .byte (gz H c wr Oz) e p/\AS .Cy (gz H c wr Oz) g t/\Le (fz w (Ha [.box ba1_c0 [No a1_c0.f.1,va1_c0_1,Abu a1_c0.f.2.2.1,va1_c0_3,No a1_c0.f.2.2.2.2.1,No a1_c0.f.2.2.2.2.2.1,va1_c0_6] 30] O)) (fz wr Oz)/\DR (B0 a0) n (l,m,o,p,q,s,t,a)=some r) (fun⟨l,m,o,p,q,s,t,a,d,e,g,n⟩=>n) (a1_c0.f.1,a1_c0.f.2.1,a1_c0.f.2.2.1,a1_c0.f.2.2.2.1,a1_c0.f.2.2.2.2.1,a1_c0.f.2.2.2.2.2.1,a1_c0.f.2.2.2.2.2.2,0,va1_c0_1,va1_c0_3,va1_c0_6,a3) Z ⟨hL,(a9.mono ab),(ha1_c0_1.mono ab),(ha1_c0_3.mono ab),(ha1_c0_6.mono ab),hT,h⟩ ?_;rintro⟨l,m,o,p,q,s,t,a,d,e,g,nn71⟩ bf ⟨x,ac,aq,ar,au,hT,h⟩
  obtain⟨a3,bh,rfl,h,ag⟩:=AQ h;have b:=x.rG H;refine A7 1 Z<|A6<|AL h ?_ ?_<;>intro ba h
  ·refine Au<|Aq<|A6<|A2<|A7 2 Z<|Bo 3 Z<|Ax h fun a4 h=>AW (ac.mono b) a.toNat (Cx a4) (AM a4) ?_;rintro bi _ e76t0 bb;obtain⟨_,_,rfl,rfl,⟨_,_,rfl,⟨e76v1,rfl,e76h1⟩,⟨_,_,rfl,rfl,⟨_,_,rfl,⟨e76v3,rfl,e76h3⟩,⟨_,_,rfl,rfl,⟨_,_,rfl,rfl,⟨e76v6,rfl,e76h6⟩⟩⟩⟩⟩⟩⟩:=Go.E.Rp.Ev e76t0;refine Ag (BI bb (Av x))<|A1 h fun u bc h=>D6 Z Z (Tj (a0:=(a0.getD a.toNat Qq2)) (a1:=(Qv.mk l m o p q s t)) (O:=(Ha [] O)) hH x e76h1 e76h3 e76h6 (aq.mono b) (ar.mono b) (au.mono b) bc) ?_;rintro _ bj ⟨av,aw,ax,rfl,y,z,ad,ae,af⟩;refine Ad<|Bi h ?_ ?_<;>intro bd h
   ·have ah:=y.rG H;refine A7 2 Z<|Aw<|Al<|Am<|Bc ?_;have h:=Bw.out h ag;refine Al<|AN ?_
    cases h
    refine Ah Z ?_;have hT:=hT.trans z;exact⟨av,aw,ax,Z,y,hT,(ad.mono ah),(ae.mono ah),(af.mono ah)⟩
   refine Au<|Az<|Aq ?_;have aa:=y.rG H;refine An<|Ax h fun be h=>Ag (Ay be)<|As 1 Z<|AE ?_;have h:=Bw.again h ag;have b:=b.trans (Ab z);have hT:=hT.trans z;refine AD (u.2.f.1,u.2.f.2.1,u.2.f.2.2.1,u.2.f.2.2.2.1,u.2.f.2.2.2.2.1,u.2.f.2.2.2.2.2.1,u.2.f.2.2.2.2.2.2,(a+1),av,aw,ax,a3) Z ⟨y,((ac.mono b).mono aa),(ad.mono aa),(ae.mono aa),(af.mono aa),hT,h⟩
  refine Bf<|A5<|A3 ?_;have h:=Bw.out h ag;refine AY<|A8 (l,m,o,p,q,s,t,d,e,g) ⟨x,(aq.mono b),(ar.mono b),(au.mono b),hT,h⟩
 rintro⟨aj,ak,al,am,an,ao,ap,i,j,k⟩ bg ⟨a5,a6,a7,a8,hT,h⟩;have ai:=a5.rG H;refine A7 1 Z<|Aw ?_
 cases h
 refine Ah Z ⟨i,j,k,Z,a5,hT,(a6.mono ai),(a7.mono ai),(a8.mono ai)⟩
def Bm(a0:List Qv)(a1_c0:Qv):Option (Bool×Qv):=
 Qq9 (D3 a0 a1_c0) (fun a=>some (decide (0<=a.1),a.2))
theorem By{a w:World}{H:PH}(hH:Le H (hp a))(O:List BV)(a0:List Qv)(a1_c0:Qv){va0:Value}{ba1_c0:Nat}{va1_c0_1 va1_c0_3 va1_c0_6:Value}(hL:Bk a (Ha [.box ba1_c0 [No a1_c0.f.1,va1_c0_1,Abu a1_c0.f.2.2.1,va1_c0_3,No a1_c0.f.2.2.2.2.1,No a1_c0.f.2.2.2.2.2.1,va1_c0_6] 30] O) w)(p:AS .Cy (gz H a w (Ha [.box ba1_c0 [No a1_c0.f.1,va1_c0_1,Abu a1_c0.f.2.2.1,va1_c0_3,No a1_c0.f.2.2.2.2.1,No a1_c0.f.2.2.2.2.2.1,va1_c0_6] 30] O)) va0 a0)(ha1_c0_1:AS .st (gz H a w (Ha [.box ba1_c0 [No a1_c0.f.1,va1_c0_1,Abu a1_c0.f.2.2.1,va1_c0_3,No a1_c0.f.2.2.2.2.1,No a1_c0.f.2.2.2.2.2.1,va1_c0_6] 30] O)) va1_c0_1 (a1_c0.f.2.1))(ha1_c0_3:AS .byte (gz H a w (Ha [.box ba1_c0 [No a1_c0.f.1,va1_c0_1,Abu a1_c0.f.2.2.1,va1_c0_3,No a1_c0.f.2.2.2.2.1,No a1_c0.f.2.2.2.2.2.1,va1_c0_6] 30] O)) va1_c0_3 (a1_c0.f.2.2.2.1))(ha1_c0_6:AS .Cy (gz H a w (Ha [.box ba1_c0 [No a1_c0.f.1,va1_c0_1,Abu a1_c0.f.2.2.1,va1_c0_3,No a1_c0.f.2.2.2.2.1,No a1_c0.f.2.2.2.2.2.1,va1_c0_6] 30] O)) va1_c0_6 (a1_c0.f.2.2.2.2.2.2)){r:Bool×Qv}(h:Bm a0 a1_c0=some r):
  Ok prog 240 [va0,.func (.func 241) #[] #[Abo ba1_c0]] w (fun v w'=>∃(c:Value) (d:Value) (e:Value),v=.bool r.1/\Bk a (Ha [.box ba1_c0 [No r.2.f.1,c,Abu r.2.f.2.2.1,d,No r.2.f.2.2.2.2.1,No r.2.f.2.2.2.2.2.1,e] 30] O) w'/\Le (fz w (Ha [.box ba1_c0 [No a1_c0.f.1,va1_c0_1,Abu a1_c0.f.2.2.1,va1_c0_3,No a1_c0.f.2.2.2.2.1,No a1_c0.f.2.2.2.2.2.1,va1_c0_6] 30] O)) (fz w' (Ha [.box ba1_c0 [No r.2.f.1,c,Abu r.2.f.2.2.1,d,No r.2.f.2.2.2.2.1,No r.2.f.2.2.2.2.2.1,e] 30] O))/\AS .st (gz H a w' (Ha [.box ba1_c0 [No r.2.f.1,c,Abu r.2.f.2.2.1,d,No r.2.f.2.2.2.2.1,No r.2.f.2.2.2.2.2.1,e] 30] O)) c (r.2.f.2.1)/\AS .byte (gz H a w' (Ha [.box ba1_c0 [No r.2.f.1,c,Abu r.2.f.2.2.1,d,No r.2.f.2.2.2.2.1,No r.2.f.2.2.2.2.2.1,e] 30] O)) d (r.2.f.2.2.2.1)/\AS .Cy (gz H a w' (Ha [.box ba1_c0 [No r.2.f.1,c,Abu r.2.f.2.2.1,d,No r.2.f.2.2.2.2.1,No r.2.f.2.2.2.2.2.1,e] 30] O)) e (r.2.f.2.2.2.2.2.2)):=by
 refine Cj (n:=9) [(0,va0),(1,.func (.func 241) #[] #[Abo ba1_c0])] func240 Z Z Z Z ?_;have hT:=Le.refl (fz w (Ha [.box ba1_c0 [No a1_c0.f.1,va1_c0_1,Abu a1_c0.f.2.2.1,va1_c0_3,No a1_c0.f.2.2.2.2.1,No a1_c0.f.2.2.2.2.2.1,va1_c0_6] 30] O));have b:=hL.rG H;refine A7 1 Z<|Bo 2 Z<|A1 h fun t q h=>Fh (Jk (a0:=a0) (a1_c0:=a1_c0) (O:=(Ha [] O)) hH hL (p.mono b) (ha1_c0_1.mono b) (ha1_c0_3.mono b) (ha1_c0_6.mono b) q) ?_;rintro _ u ⟨k,l,m,rfl,s,o,g,i,j⟩;refine AA 2 Z<|Aw ?_
 cases h
 refine Ah Z ?_;have hT:=hT.trans o;exact⟨k,l,m,Z,s,hT,g,i,j⟩
def C2(a0:Qv)(d:Abv)(o:Abv)(e g b c a:Int):Option Bool:=
 if((decide ((a0.f.2.1.length:Int)<b))||(decide (c<(a0.f.2.1.length:Int))))then(if((decide ((a0.f.2.1.length:Int)<b))||(decide (c<(a0.f.2.1.length:Int))))then some false else(if !((decide (a0.f.1=8))||(decide (a0.f.1=9)))then some true else Qq9 (Bm a0.f.2.2.2.2.2.2 a0) (fun h=>some (!h.1))))else(if(a0.f.2.2.2.2.2.2.length:Int)<a then(if(a0.f.2.2.2.2.2.2.length:Int)<a then some false else(if !((decide (a0.f.1=8))||(decide (a0.f.1=9)))then some true else Qq9 (Bm a0.f.2.2.2.2.2.2 a0) (fun i=>some (!i.1))))else(if(bif !((decide (a0.f.1=8))||(decide (a0.f.1=9)))then decide (a<(a0.f.2.2.2.2.2.2.length:Int))else false)then(if(bif !((decide (a0.f.1=8))||(decide (a0.f.1=9)))then decide (a<(a0.f.2.2.2.2.2.2.length:Int))else false)then some false else(if !((decide (a0.f.1=8))||(decide (a0.f.1=9)))then some true else Qq9 (Bm a0.f.2.2.2.2.2.2 a0) (fun j=>some (!j.1))))else(if d=a0.f.2.2.1 then(if e=a0.f.2.2.2.2.1 then(if g=a0.f.2.2.2.2.2.1 then(if(o.length:Int)=(a0.f.2.2.2.1.length:Int)then(if !((decide (a0.f.1=8))||(decide (a0.f.1=9)))then some true else Qq9 (Bm a0.f.2.2.2.2.2.2 a0) (fun k=>some (!k.1)))else some false)else(if g=a0.f.2.2.2.2.2.1 then(if !((decide (a0.f.1=8))||(decide (a0.f.1=9)))then some true else Qq9 (Bm a0.f.2.2.2.2.2.2 a0) (fun l=>some (!l.1)))else some false))else(if e=a0.f.2.2.2.2.1 then(if !((decide (a0.f.1=8))||(decide (a0.f.1=9)))then some true else Qq9 (Bm a0.f.2.2.2.2.2.2 a0) (fun m=>some (!m.1)))else some false))else(if d=a0.f.2.2.1 then(if !((decide (a0.f.1=8))||(decide (a0.f.1=9)))then some true else Qq9 (Bm a0.f.2.2.2.2.2.2 a0) (fun n=>some (!n.1)))else some false))))
def M3(a0:Qv):Option Bool:=
 if a0.f.1=1 then(C2 a0) ([]:Abv) ([]) (0:Int) (0:Int) (1:Int) (1:Int) (0:Int)else(if a0.f.1=2 then(C2 a0) ([]:Abv) ([]) (0:Int) (0:Int) (2:Int) (16:Int) (0:Int)else(if a0.f.1=3 then(C2 a0) ([]:Abv) ([]) a0.f.2.2.2.2.1 (0:Int) (2:Int) (2:Int) (0:Int)else(if a0.f.1=4 then(C2 a0) ([]:Abv) a0.f.2.2.2.1 (0:Int) (0:Int) (0:Int) (0:Int) (0:Int)else(if a0.f.1=5 then(C2 a0) a0.f.2.2.1 ([]) (0:Int) (0:Int) (0:Int) (0:Int) (0:Int)else(if a0.f.1=6 then(C2 a0) a0.f.2.2.1 ([]) a0.f.2.2.2.2.1 a0.f.2.2.2.2.2.1 (0:Int) (0:Int) (0:Int)else(if a0.f.1=7 then(C2 a0) a0.f.2.2.1 a0.f.2.2.2.1 (0:Int) (0:Int) (0:Int) (0:Int) (0:Int)else(if a0.f.1=10 then(C2 a0) ([]:Abv) ([]) (0:Int) (0:Int) (0:Int) (0:Int) (1:Int)else(C2 a0) ([]:Abv) ([]) (0:Int) (0:Int) (0:Int) (0:Int) (2:Int))))))))
section
variable(w:World)(H:PH)(hH:Le H (hp w)) include hH
theorem UD{a0:Qv}{b e c:Value}(ae:AS .st H b (a0.f.2.1))(o:AS .byte H e (a0.f.2.2.2.1))(g:AS .Cy H c (a0.f.2.2.2.2.2.2)){r:Bool}(h:M3 a0=some r):
  Qqv 186 [.agg #[No a0.f.1,b,Abu a0.f.2.2.1,e,No a0.f.2.2.2.2.1,No a0.f.2.2.2.2.2.1,c]] w (fun v w'=>v=.bool r):=by
 refine A4 123 [(0,.agg #[No a0.f.1,b,Abu a0.f.2.2.1,e,No a0.f.2.2.2.2.1,No a0.f.2.2.2.2.2.1,c])] func186 Z fun hL=>Ao<|BM (t:=30) Z Z hL fun w1 b1 ax eb _=>AA 1 Z<|Ao<|Ag (Ae Z AjR Z BB.e)<|Ag (Af 0 Z ax Z)<|Ag (Ae Z AjR Z H3.e)<|Ag (Af 0 Z ax Z)<|Ag (Ae Z AjR Z Lj.e)<|Ag (Af 0 Z ax Z)<|Ag (Ba (fun _=>Aas _ _ ae.one _ g.one _))<|AO Fj.e Z ax fun w2 b2 dc ec _=>Ak 0 Z dc Z (a:=(CB Z (CB ae.one (CB Z (CB Z (CB Z (CB Z (CB g.one Ps)))))))) fun w3 ag ed=>Ad<|A7 2 Z<|A7 1 Z ?_
 refine Bb (Abv×Abv×Int×Int×Int×Int×Int×Value) (fun⟨k,ay,l,m,ak,al,ao,d⟩=>[(1,(Abo b1)),(3,(Abo b2)),(4,No ak),(5,No al),(6,No ao)]) (fun⟨k,ay,l,m,ak,al,ao,d⟩ wr=>C5 w [.box b2 [No a0.f.1,b,Abu k,d,No l,No m,c] 30,.box b1 [No a0.f.1,b,Abu a0.f.2.2.1,e,No a0.f.2.2.2.2.1,No a0.f.2.2.2.2.2.1,c] 30] wr fun Oz=>AS .byte (gz H w wr Oz) d ay/\(C2 a0) k ay l m ak al ao=some r) ?_ ?_
 ·refine Ao<|Ag (Ae Z AjR Z BB.e)<|Ag (Af 1 Z ag Z)<|Ad<|A2<|A7 2 Z<|AL h ?_ ?_<;>intro ca h
  ·refine An<|As 2 Z<|AE<|Az<|A8 (([]:Abv),[],0,0,1,1,0,Aal) ⟨ag,(AS.nil _ _),h⟩
  refine A7 2 Z<|AL h ?_ ?_<;>intro cb h
  ·refine An<|As 2 Z<|AE<|Az<|A8 (([]:Abv),[],0,0,2,16,0,Aal) ⟨ag,(AS.nil _ _),h⟩
  refine A7 2 Z<|AL h ?_ ?_<;>intro cc h
  ·refine LX (Qqz 0 5 (.tail 5)) mixed Qqb (fun eu cd=>?_);have a2:=ag.call cd;refine B2 Z (Ae Z AjR Z BB.e) Z<|B2 Z (Af 1 Z a2 Z) Z<|B9 2 Z<|B2 Z (Ae Z AjR Z BB.e) Z<|Bt (fun ev ce=>?_);have cf:=a2.call ce;refine BE 0 Z Z cf Z Z fun ew cg d7=>AE<|Az<|A8 (([]:Abv),[],a0.f.2.2.2.2.1,0,2,2,0,Aal) ⟨cg,(AS.nil _ _),h⟩
  refine A7 2 Z<|AL h ?_ ?_<;>intro ch h
  ·refine An<|Ag (Ae Z AjR Z Fy.e)<|Ag (Af 1 Z ag Z)<|Ag (Ae Z AjR Z Fy.e)<|BE 0 Z o.one ag Z Z fun ex ci d8=>AE<|Az<|A8 (([]:Abv),a0.f.2.2.2.1,0,0,0,0,0,e) ⟨ci,(o.mono  Aj),h⟩
  refine A7 2 Z<|AL h ?_ ?_<;>intro cj h
  ·refine An<|Ag (Ae Z AjR Z Dl.e)<|Ag (Af 1 Z ag Z)<|Ag (Ae Z AjR Z Dl.e)<|BE 0 Z Z ag Z Z fun ey ck d9=>AE<|Az<|A8 (a0.f.2.2.1,[],0,0,0,0,0,Aal) ⟨ck,(AS.nil _ _),h⟩
  refine A7 2 Z<|AL h ?_ ?_<;>intro cl h
  ·refine KX (I3 (PY OF)) (fun z0 z=>Le (gz H w z0 [.box b2 [No a0.f.1,b,(Abu []),Aal,No 0,No 0,c] 30,.box b1 [No a0.f.1,b,Abu a0.f.2.2.1,e,No a0.f.2.2.2.2.1,No a0.f.2.2.2.2.2.1,c] 30]) (hp z)/\z.heap[b1]? = some (.cells [No a0.f.1,b,Abu a0.f.2.2.1,e,No a0.f.2.2.2.2.1,No a0.f.2.2.2.2.2.1,c].toArray 30 (0,0))) mixed Z (fun af ez cn=>?_);have ap:=ag.call cn;have ai:=ap.rG H;refine OG ⟨ai.trans (Av ap),ap.at (i:=1) Z⟩ fun kI88=>Bn 0 af kI88 Z (fun _ _=>Ae Z AjR Z Dl.e) Z<|Bn 1 af kI88 Z (fun _ hI=>Km Z hI.2 Z) Z<|Bn 2 af kI88 Z (fun _ _=>Ae Z AjR Z BB.e) Z<|Bn 3 af kI88 Z (fun _ hI=>Km Z hI.2 Z) Z<|Bn 4 af kI88 Z (fun _ _=>Ae Z AjR Z BB.e) Z<|Bn 5 af kI88 Z (fun _ hI=>Km Z hI.2 Z) Z<|Bn 6 af kI88 Z (fun _ _=>Ae Z AjR Z Dl.e) Z<|Fg 7 Z ?_
   refine BE 0 Z Z ap Z Z ?_;intro e0 av a4;have ai:=ai.trans (Ab a4);refine Be ⟨ai.trans (Av av),av.at (i:=1) Z⟩ fun kI90=>Bn 8 af kI90 Z (fun _ _=>Ae Z AjR Z BB.e) Z<|Fg 9 Z<|BE 0 Z Z av Z Z ?_;intro e1 aw a5;have ai:=ai.trans (Ab a5);refine Be ⟨ai.trans (Av aw),aw.at (i:=1) Z⟩ fun kI92=>Bn 10 af kI92 Z (fun _ _=>Ae Z AjR Z BB.e) Z<|Fg 11 Z<|BE 0 Z Z aw Z Z fun e2 co ea=>F0<|FW<|Az<|A8 (a0.f.2.2.1,[],a0.f.2.2.2.2.1,a0.f.2.2.2.2.2.1,0,0,0,Aal) ⟨co,(AS.nil _ _),h⟩
  refine A7 2 Z<|AL h ?_ ?_<;>intro cp h
  ·refine KX (I3 (PY OF)) (fun z0 z=>Le (gz H w z0 [.box b2 [No a0.f.1,b,(Abu []),Aal,No 0,No 0,c] 30,.box b1 [No a0.f.1,b,Abu a0.f.2.2.1,e,No a0.f.2.2.2.2.1,No a0.f.2.2.2.2.2.1,c] 30]) (hp z)/\z.heap[b1]? = some (.cells [No a0.f.1,b,Abu a0.f.2.2.1,e,No a0.f.2.2.2.2.1,No a0.f.2.2.2.2.2.1,c].toArray 30 (0,0))) mixed Z (fun an e3 cq=>?_);have aq:=ag.call cq;have ar:=aq.rG H;refine OG ⟨ar.trans (Av aq),aq.at (i:=1) Z⟩ fun kI100=>Bn 0 an kI100 Z (fun _ _=>Ae Z AjR Z Dl.e) Z<|Bn 1 an kI100 Z (fun _ hI=>Km Z hI.2 Z) Z<|Bn 2 an kI100 Z (fun _ _=>Ae Z AjR Z Fy.e) Z<|Bn 3 an kI100 Z (fun _ hI=>Km Z hI.2 Z) Z<|Bn 4 an kI100 Z (fun _ _=>Ae Z AjR Z Dl.e) Z<|Fg 5 Z<|BE 0 Z Z aq Z Z ?_;intro ee au a3;have ar:=ar.trans (Ab a3);refine Be ⟨ar.trans (Av au),au.at (i:=1) Z⟩ fun kI102=>?_
   refine Bn 6 an kI102 Z (fun _ _=>Ae Z AjR Z Fy.e) Z<|Fg 7 Z<|BE 0 Z o.one au Z Z fun ef a6 dd=>F0<|FW<|Az<|A8 (a0.f.2.2.1,a0.f.2.2.2.1,0,0,0,0,0,e) ⟨a6,(o.mono  Aj),h⟩
  refine A7 2 Z<|AL h ?_ ?_<;>intro a7 h
  ·refine An<|As 1 Z<|AE<|Az<|A8 (([]:Abv),[],0,0,0,0,1,Aal) ⟨ag,(AS.nil _ _),h⟩
  refine An<|As 1 Z<|AE<|Az<|A8 (([]:Abv),[],0,0,0,0,2,Aal) ⟨ag,(AS.nil _ _),h⟩
 rintro⟨k,ay,l,m,ak,al,ao,d⟩ aj ⟨a,a8,h⟩;refine Ao<|Ag (Ae Z AjR Z Lj.e)<|Ag (Af 1 Z a Z)<|Ag (AZ g)<|AA 1 Z<|Ao<|Ag (Ae Z AjR Z BB.e)<|Ag (Af 1 Z a Z)<|As 2 Z<|Jm 4 68 (.bool ((decide (a0.f.1=8))||(decide (a0.f.1=9)))) (fun az=>?_) ?_
 ·refine D5 (s:=64) Z (fun p=>?_) (fun p=>?_)
  ·iterate 3 refine Ar p ?_
   refine Ag (AF p Z)<|az.to 3 (XL p) Z Z
  refine Aa p<|Ag (Ae Z AjR Z BB.e)<|Aa p<|Ag (Af 1 Z a Z)<|Aa p<|Ag (Ai Z)<|Ag (AG p Z)<|az.to 3 (XM p) Z Z
 refine AA 1 Z<|A6<|A2<|A6<|Ao<|Ag (Ae Z AjR Z H3.e)<|Ag (Af 1 Z a Z)<|Ag (AZ ae)<|As 3 Z<|Jm 6 81 (.bool ((decide ((a0.f.2.1.length:Int)<ak))||(decide (al<(a0.f.2.1.length:Int))))) (fun a1=>?_) ?_
 ·refine D5 (s:=75) Z (fun j=>?_) (fun j=>?_)
  ·iterate 5 refine Ar j ?_
   refine Ag (AF j Z)<|a1.to 5 (XL j) Z Z
  refine Aa j<|Ag (Ae Z AjR Z H3.e)<|Aa j<|Ag (Af 1 Z a Z)<|Aa j<|Ag (AZ ae)<|Aa j<|Ag (Ai Z)<|Aa j<|Ag (Ai Z)<|Ag (AG j Z)<|a1.to 5 (XM j) Z Z
 refine AA 1 Z<|Bi h ?_ ?_<;>intro a9 h
 ·refine Au<|Aq<|Bi h ?_ ?_<;>intro ba h
  ·refine A7 1 Z<|Aw<|Al<|Am ?_
   cases h
   refine Ah Z ⟨a.ext,Z⟩
  refine Au<|Az<|Aq<|Bo 3 Z<|Cv 116 h ?_ ?_<;>intro u h
  ·iterate 5 refine Ar u ?_
   refine Ag (AF u Z)<|AA 1 Z<|Aw ?_
   cases h
   refine Ah Z ⟨a.ext,Z⟩
  refine Aa u<|Ag (Ae Z AjR Z Lj.e)<|Aa u<|Ag (Af 1 Z a Z)<|Aa u<|Ag (Ai Z)<|Aa u ?_;have bb:Bk w [.box b1 [No a0.f.1,b,Abu a0.f.2.2.1,e,No a0.f.2.2.2.2.1,No a0.f.2.2.2.2.2.1,c] 30,.box b2 [No a0.f.1,b,Abu k,d,No l,No m,c] 30] aj:=a.DC [1] Z;refine A1 h fun eg bc h=>Fh (By hH ([.box b2 [No a0.f.1,b,Abu k,d,No l,No m,c] 30]) a0.f.2.2.2.2.2.2 a0 bb (g.mono  Aj) (ae.mono  Aj) (o.mono  Aj) (g.mono  Aj) bc) ?_;rintro _ eh ⟨de,df,dg,rfl,bd,dh,cr,cs,ct⟩;refine Aa u<|Ag (Ai Z)<|Ag (AG u Z)<|AA 1 Z<|Aw ?_
  cases h
  refine Ah Z ⟨bd.ext,Z⟩
 refine A7 4 Z<|AL h ?_ ?_<;>intro be h
 ·refine Au<|Aq<|AL h ?_ ?_<;>intro bf h
  ·refine A7 1 Z<|Aw<|Al<|Am ?_
   cases h
   refine Ah Z ⟨a.ext,Z⟩
  refine Au<|Az<|Aq<|Bo 3 Z<|Cv 116 h ?_ ?_<;>intro x h
  ·iterate 5 refine Ar x ?_
   refine Ag (AF x Z)<|AA 1 Z<|Aw ?_
   cases h
   refine Ah Z ⟨a.ext,Z⟩
  refine Aa x<|Ag (Ae Z AjR Z Lj.e)<|Aa x<|Ag (Af 1 Z a Z)<|Aa x<|Ag (Ai Z)<|Aa x ?_;have bg:Bk w [.box b1 [No a0.f.1,b,Abu a0.f.2.2.1,e,No a0.f.2.2.2.2.1,No a0.f.2.2.2.2.2.1,c] 30,.box b2 [No a0.f.1,b,Abu k,d,No l,No m,c] 30] aj:=a.DC [1] Z;refine A1 h fun ei bh h=>Fh (By hH ([.box b2 [No a0.f.1,b,Abu k,d,No l,No m,c] 30]) a0.f.2.2.2.2.2.2 a0 bg (g.mono  Aj) (ae.mono  Aj) (o.mono  Aj) (g.mono  Aj) bh) ?_;rintro _ ej ⟨di,dj,dk,rfl,bi,dl,cu,cv,cw⟩;refine Aa x<|Ag (Ai Z)<|Ag (AG x Z)<|AA 1 Z<|Aw ?_
  cases h
  refine Ah Z ⟨bi.ext,Z⟩
 refine Bo 3 Z<|VP 3 2 Z Z Z Z Z Z Z<|AA 1 Z<|Bi h ?_ ?_<;>intro bj h
 ·refine Au<|Aq<|Bi h ?_ ?_<;>intro bk h
  ·refine A7 1 Z<|Aw<|Al<|Am ?_
   cases h
   refine Ah Z ⟨a.ext,Z⟩
  refine Au<|Az<|Aq<|Bo 3 Z<|Cv 116 h ?_ ?_<;>intro y h
  ·iterate 5 refine Ar y ?_
   refine Ag (AF y Z)<|AA 1 Z<|Aw ?_
   cases h
   refine Ah Z ⟨a.ext,Z⟩
  refine Aa y<|Ag (Ae Z AjR Z Lj.e)<|Aa y<|Ag (Af 1 Z a Z)<|Aa y<|Ag (Ai Z)<|Aa y ?_;have bl:Bk w [.box b1 [No a0.f.1,b,Abu a0.f.2.2.1,e,No a0.f.2.2.2.2.1,No a0.f.2.2.2.2.2.1,c] 30,.box b2 [No a0.f.1,b,Abu k,d,No l,No m,c] 30] aj:=a.DC [1] Z;refine A1 h fun ek bm h=>Fh (By hH ([.box b2 [No a0.f.1,b,Abu k,d,No l,No m,c] 30]) a0.f.2.2.2.2.2.2 a0 bl (g.mono  Aj) (ae.mono  Aj) (o.mono  Aj) (g.mono  Aj) bm) ?_;rintro _ el ⟨dm,dn,dp,rfl,bn,dq,cx,cy,cz⟩;refine Aa y<|Ag (Ai Z)<|Ag (AG y Z)<|AA 1 Z<|Aw ?_
  cases h
  refine Ah Z ⟨bn.ext,Z⟩
 refine Ao<|Ag (Ae Z AjR Z Dl.e)<|Ag (Af 0 Z a Z)<|Ag (Ae Z AjR Z Dl.e)<|Ag (Af 1 Z a Z)<|Ag (Rn Z Z)<|AA 1 Z<|BG h ?_ ?_<;>intro bo h
 ·refine Au<|Aq<|BG h ?_ ?_<;>intro bp h
  ·refine A7 1 Z<|Aw<|Al<|Am ?_
   cases h
   refine Ah Z ⟨a.ext,Z⟩
  refine Au<|Az<|Aq<|Bo 3 Z<|Cv 116 h ?_ ?_<;>intro aa h
  ·iterate 5 refine Ar aa ?_
   refine Ag (AF aa Z)<|AA 1 Z<|Aw ?_
   cases h
   refine Ah Z ⟨a.ext,Z⟩
  refine Aa aa<|Ag (Ae Z AjR Z Lj.e)<|Aa aa<|Ag (Af 1 Z a Z)<|Aa aa<|Ag (Ai Z)<|Aa aa ?_;have bq:Bk w [.box b1 [No a0.f.1,b,Abu a0.f.2.2.1,e,No a0.f.2.2.2.2.1,No a0.f.2.2.2.2.2.1,c] 30,.box b2 [No a0.f.1,b,Abu k,d,No l,No m,c] 30] aj:=a.DC [1] Z;refine A1 h fun em br h=>Fh (By hH ([.box b2 [No a0.f.1,b,Abu k,d,No l,No m,c] 30]) a0.f.2.2.2.2.2.2 a0 bq (g.mono  Aj) (ae.mono  Aj) (o.mono  Aj) (g.mono  Aj) br) ?_;rintro _ en ⟨dr,ds,dt,rfl,bs,du,c0,c1,c2⟩;refine Aa aa<|Ag (Ai Z)<|Ag (AG aa Z)<|AA 1 Z<|Aw ?_
  cases h
  refine Ah Z ⟨bs.ext,Z⟩
 refine Ao<|Ag (Ae Z AjR Z BB.e)<|Ag (Af 0 Z a Z)<|Ag (Ae Z AjR Z BB.e)<|Ag (Af 1 Z a Z)<|AA 2 Z<|BG h ?_ ?_<;>intro bt h
 ·refine Au<|Aq<|BG h ?_ ?_<;>intro bu h
  ·refine A7 1 Z<|Aw<|Al<|Am ?_
   cases h
   refine Ah Z ⟨a.ext,Z⟩
  refine Au<|Az<|Aq<|Bo 3 Z<|Cv 116 h ?_ ?_<;>intro ab h
  ·iterate 5 refine Ar ab ?_
   refine Ag (AF ab Z)<|AA 1 Z<|Aw ?_
   cases h
   refine Ah Z ⟨a.ext,Z⟩
  refine Aa ab<|Ag (Ae Z AjR Z Lj.e)<|Aa ab<|Ag (Af 1 Z a Z)<|Aa ab<|Ag (Ai Z)<|Aa ab ?_;have bv:Bk w [.box b1 [No a0.f.1,b,Abu a0.f.2.2.1,e,No a0.f.2.2.2.2.1,No a0.f.2.2.2.2.2.1,c] 30,.box b2 [No a0.f.1,b,Abu k,d,No l,No m,c] 30] aj:=a.DC [1] Z;refine A1 h fun eo bw h=>Fh (By hH ([.box b2 [No a0.f.1,b,Abu k,d,No l,No m,c] 30]) a0.f.2.2.2.2.2.2 a0 bv (g.mono  Aj) (ae.mono  Aj) (o.mono  Aj) (g.mono  Aj) bw) ?_;rintro _ ep ⟨dv,dw,dx,rfl,bx,dy,c3,c4,c5⟩;refine Aa ab<|Ag (Ai Z)<|Ag (AG ab Z)<|AA 1 Z<|Aw ?_
  cases h
  refine Ah Z ⟨bx.ext,Z⟩
 refine Ao<|Ag (Ae Z AjR Z BB.e)<|Ag (Af 0 Z a Z)<|Ag (Ae Z AjR Z BB.e)<|Ag (Af 1 Z a Z)<|AA 2 Z<|BG h ?_ ?_<;>intro bz h
 ·refine Au<|Aq<|BG h ?_ ?_<;>intro b0 h
  ·refine A7 1 Z<|Aw<|Al<|Am ?_
   cases h
   refine Ah Z ⟨a.ext,Z⟩
  refine Au<|Az<|Aq<|Bo 3 Z<|Cv 116 h ?_ ?_<;>intro ac h
  ·iterate 5 refine Ar ac ?_
   refine Ag (AF ac Z)<|AA 1 Z<|Aw ?_
   cases h
   refine Ah Z ⟨a.ext,Z⟩
  refine Aa ac<|Ag (Ae Z AjR Z Lj.e)<|Aa ac<|Ag (Af 1 Z a Z)<|Aa ac<|Ag (Ai Z)<|Aa ac ?_;have b3:Bk w [.box b1 [No a0.f.1,b,Abu a0.f.2.2.1,e,No a0.f.2.2.2.2.1,No a0.f.2.2.2.2.2.1,c] 30,.box b2 [No a0.f.1,b,Abu k,d,No l,No m,c] 30] aj:=a.DC [1] Z;refine A1 h fun eq b4 h=>Fh (By hH ([.box b2 [No a0.f.1,b,Abu k,d,No l,No m,c] 30]) a0.f.2.2.2.2.2.2 a0 b3 (g.mono  Aj) (ae.mono  Aj) (o.mono  Aj) (g.mono  Aj) b4) ?_;rintro _ er ⟨dz,d0,d1,rfl,b5,d2,c6,c7,c8⟩;refine Aa ac<|Ag (Ai Z)<|Ag (AG ac Z)<|AA 1 Z<|Aw ?_
  cases h
  refine Ah Z ⟨b5.ext,Z⟩
 refine An<|Ag (Ae Z AjR Z Fy.e)<|Ag (Af 0 Z a Z)<|Ag (AZ a8)<|Ag (Ae Z AjR Z Fy.e)<|Ag (Af 1 Z a Z)<|Ag (AZ o)<|As 2 Z<|AE<|Aq<|BG h ?_ ?_<;>intro b6 h
 ·refine A7 1 Z<|Aw<|Al<|Am ?_
  cases h
  refine Ah Z ⟨a.ext,Z⟩
 refine Au<|Az<|Aq<|Bo 3 Z<|Cv 116 h ?_ ?_<;>intro ad h
 ·iterate 5 refine Ar ad ?_
  refine Ag (AF ad Z)<|AA 1 Z<|Aw ?_
  cases h
  refine Ah Z ⟨a.ext,Z⟩
 refine Aa ad<|Ag (Ae Z AjR Z Lj.e)<|Aa ad<|Ag (Af 1 Z a Z)<|Aa ad<|Ag (Ai Z)<|Aa ad ?_;have b7:Bk w [.box b1 [No a0.f.1,b,Abu a0.f.2.2.1,e,No a0.f.2.2.2.2.1,No a0.f.2.2.2.2.2.1,c] 30,.box b2 [No a0.f.1,b,Abu k,d,No l,No m,c] 30] aj:=a.DC [1] Z;refine A1 h fun es b8 h=>Fh (By hH ([.box b2 [No a0.f.1,b,Abu k,d,No l,No m,c] 30]) a0.f.2.2.2.2.2.2 a0 b7 (g.mono  Aj) (ae.mono  Aj) (o.mono  Aj) (g.mono  Aj) b8) ?_;rintro _ et ⟨d3,d4,d5,rfl,b9,d6,c9,da,db⟩;refine Aa ad<|Ag (Ai Z)<|Ag (AG ad Z)<|AA 1 Z<|Aw ?_
 cases h
 refine Ah Z ⟨b9.ext,Z⟩
def Ht(a0:Qv)(a:Bool):Option Int:=
 if a then some (4)else(if((decide (a0.f.1=4))&&(decide ((a0.f.2.2.2.1.length:Int)=0)))then some (10)else(if 64<(a0.f.2.2.2.1.length:Int)then some (3)else some (0)))
def Hu(a0:Qv):Option Int:=
 Qq9 (HR a0.f.2.2.1) (fun a=>if a.1=0/\a.2=0 then(if((decide (a0.f.1=3))&&((decide (a0.f.2.2.2.2.1<1))||(decide (2048<a0.f.2.2.2.2.1))))then(Ht a0) ((decide (a0.f.1=3))&&((decide (a0.f.2.2.2.2.1<1))||(decide (2048<a0.f.2.2.2.2.1))))else(Ht a0) ((decide (a0.f.1=6))&&(decide (a0.f.2.2.2.2.2.1<a0.f.2.2.2.2.1))))else some (a.1))
def Fu(a0:Qv):Int->Option ((Int)⊕(Int)):=fun a=>
 if a<(a0.f.2.1.length:Int)then AU (0<=a/\a<(a0.f.2.1.length:Int)) (Qq9 (HL (a0.f.2.1.getD a.toNat Qq2)) (fun b=>if b.1=0/\b.2=0 then AU (Bq (a+1)) (some (Sum.inl (a+1)))else Qzx Sum.inr (some (b.1))))else Qzx Sum.inr ((Hu a0))
def N0(a0:Qv)(s:Int):Option Int:=Go.L.run (Fu a0) s
def JP(a0:Qv):Option Int:=
 if((decide (a0.f.1<1))||(decide (10<a0.f.1)))then some (5)else Qq9 (M3 a0) (fun a=>if !a then some (6)else(N0 a0) (0:Int))
theorem S5(hU:HG H){a0:Qv}{j o p:Value}(y:AS .st H j (a0.f.2.1))(z:AS .byte H o (a0.f.2.2.2.1))(ao:AS .Cy H p (a0.f.2.2.2.2.2.2)){r:Int}(h:JP a0=some r):
  Qqv 139 [.agg #[No a0.f.1,j,Abu a0.f.2.2.1,o,No a0.f.2.2.2.2.1,No a0.f.2.2.2.2.2.1,p]] w (fun v w'=>v=No r):=by
 refine A4 80 [(0,.agg #[No a0.f.1,j,Abu a0.f.2.2.1,o,No a0.f.2.2.2.2.1,No a0.f.2.2.2.2.2.1,p])] func139 Z fun hL=>Ao<|BM (t:=30) Z Z hL fun w1 b1 q bg _=>AA 1 Z<|A6<|Ao<|Ag (Ae Z AjR Z BB.e)<|Ag (Af 0 Z q Z)<|As 2 Z<|Jm 4 14 (.bool ((decide (a0.f.1<1))||(decide (10<a0.f.1)))) (fun am=>?_) ?_
 ·refine D5 (s:=10) Z (fun l=>?_) (fun l=>?_)
  ·iterate 3 refine Ar l ?_
   refine Ag (AF l Z)<|am.to 3 (XL l) Z Z
  refine Aa l<|Ag (Ae Z AjR Z BB.e)<|Aa l<|Ag (Af 0 Z q Z)<|Aa l<|Ag (Ai Z)<|Ag (AG l Z)<|am.to 3 (XM l) Z Z
 refine Ad<|Bi h ?_ ?_<;>intro a6 h
 ·refine A7 1 Z<|Aw<|Am ?_
  cases h
  refine Ah Z ⟨q.ext,Z⟩
 refine Au<|Aq<|A6<|Ao<|Ag (AJ 0 Z Fj.e q Z)<|A1 h fun x6 a7 h=>A9 q (UD (a0:=a0) _ _ (Av q) (y.mono  Aj) (z.mono  Aj) (ao.mono  Aj) a7) fun w7 bn ae bh=>AA 1 Z<|Bi h ?_ ?_<;>intro a8 h
 ·refine A7 1 Z<|Aw<|Am ?_
  cases h
  refine Ah Z ⟨ae.ext,Z⟩
 refine Au<|Aq<|Bb Unit (fun(_:Unit)=>[(1,(Abo b1))]) (fun(_:Unit) wr=>Bk w [.box b1 [No a0.f.1,j,Abu a0.f.2.2.1,o,No a0.f.2.2.2.2.1,No a0.f.2.2.2.2.2.1,p] 30] wr/\(Hu a0)=some r) ?_ ?_
 ·refine Ao<|Ag (Ae Z AjR Z H3.e)<|Ag (Af 0 Z ae Z)<|Ag (AZ y)<|AA 1 Z<|A2 ?_;obtain⟨af,h⟩:=AR h;refine Bj (Int×Nat) (fun⟨c,n⟩=>[(1,(Abo b1)),(19,j),(20,No (a0.f.2.1.length:Int)),(21,No c)]) (fun⟨c,n⟩ wr=>Bk w [.box b1 [No a0.f.1,j,Abu a0.f.2.2.1,o,No a0.f.2.2.2.2.1,No a0.f.2.2.2.2.2.1,p] 30] wr/\DR (Fu a0) n c=some r) (fun⟨c,n⟩=>n) (0,af) Z ⟨ae,h⟩ ?_;rintro⟨c,nn58⟩ bi ⟨u,h⟩;obtain⟨af,bo,rfl,h,aa⟩:=AQ h;refine A7 1 Z<|A6<|AL h ?_ ?_<;>intro ap h
  ·refine Au<|Aq<|A6<|A2<|Ao<|Ax h fun ag h=>AW y c.toNat (Cx ag) (AM ag) ?_;rintro bp _ rfl aq;refine Ag (AT aq (hH.trans u.arg))<|AA 1 Z<|Bo 1 Z<|A1 h fun bq ar h=>A9 u (J3 _ _ (Av u) (hU.mono  Aj) ar) fun br bj au ba=>AO AI.e Z au fun bs bt av bb _=>Ak 0 Z av Z fun bu x bc=>Ad<|Ao<|Ag (AJ 0 Z AI.e x Z)<|Ag (Ba (fun _=>B8 _))<|Ag (IX I4 (Nc _ _ _ _))<|Ad<|BG h ?_ ?_<;>intro aw h
   ·refine Ao<|Ag (Ae Z Ae3 Z BB.e)<|Ag (Af 0 Z x Z)<|AA 1 Z<|Aw<|Al<|Am<|Bc ?_;have h:=Bw.out h aa;refine Al<|AN ?_
    cases h
    refine Ah Z ⟨x.ext,Z⟩
   refine Au<|Az<|Aq<|An<|Ax h fun ax h=>Ag (Ay ax)<|As 1 Z<|AE ?_;have ay:=x.Bl (i:=0) Z;have h:=Bw.again h aa;refine AD (_,_) Z ⟨ay,h⟩
  refine Bf<|A5<|A3 ?_;have h:=Bw.out h aa;refine AY<|A8 () ⟨u,h⟩
 rintro _ bk ⟨ab,h⟩;refine A6<|Ao<|Ag (Ae Z AjR Z Dl.e)<|Ag (Af 0 Z ab Z)<|A1 h fun an az h=>A9 ab (KA _ _ (Av ab) az) fun bv bl a1 bd=>AO AI.e Z a1 fun bw a9 a2 be _=>Ak 0 Z a2 Z fun bx d bf=>Ad<|Ao<|Ag (AJ 0 Z AI.e d Z)<|Ag (Ba (fun _=>B8 _))<|Ag (IX I4 (Nc _ _ _ _))<|Ad<|BG h ?_ ?_<;>intro a3 h
 ·refine Ao<|Ag (Ae Z Ae3 Z BB.e)<|Ag (Af 0 Z d Z)<|AA 1 Z<|Aw<|Am ?_
  cases h
  refine Ah Z ⟨d.ext,Z⟩
 refine Au<|Aq<|A6<|A2<|Bb Bool (fun m=>[(1,(Abo b1)),(41,.bool m)]) (fun m wr=>Bk w [.box a9 [No an.1,No an.2] 35,.box b1 [No a0.f.1,j,Abu a0.f.2.2.1,o,No a0.f.2.2.2.2.1,No a0.f.2.2.2.2.2.1,p] 30] wr/\(Ht a0) m=some r) ?_ ?_
 ·refine Ao<|Ag (Ae Z AjR Z BB.e)<|Ag (Af 1 Z d Z)<|As 2 Z<|Jm 9 54 (.bool ((decide (a0.f.1=3))&&((decide (a0.f.2.2.2.2.1<1))||(decide (2048<a0.f.2.2.2.2.1))))) (fun ah=>?_) ?_
  ·refine D5 (s:=45) Z (fun a=>?_) (fun a=>?_)
   ·refine Aa a<|Ag (Ae Z AjR Z BB.e)<|Aa a<|Ag (Af 1 Z d Z)<|Aa a<|Ag (Ai Z)<|Aa a<|Ag (Ai Z)<|Jm 4 53 (.bool ((decide (a0.f.2.2.2.2.1<1))||(decide (2048<a0.f.2.2.2.2.1)))) (fun ai=>?_) ?_
    ·refine D5 (s:=49) Z (fun g=>?_) (fun g=>?_)
     ·iterate 3 refine Ar g ?_
      refine Aa a<|Ag (AF g Z)<|ai.to 3 (XL g) Z Z
     refine Aa g<|Ag (Ae Z AjR Z BB.e)<|Aa g<|Ag (Af 1 Z d Z)<|Aa g<|Ag (Ai Z)<|Aa a<|Ag (AG g Z)<|ai.to 3 (XM g) Z Z
    refine Ag (AF a Z)<|ah.to 5 (LM a) Z Z
   iterate 4 refine Ar a ?_
   iterate 3 refine BS ?_
   refine Ar a<|Ag (AG a Z)<|ah.to 8 (LN a) Z Z
  refine AA 1 Z<|Bi h ?_ ?_<;>intro a4 h
  ·refine Au<|A8 _ ⟨d,h⟩
  refine An<|Ag (Ae Z AjR Z BB.e)<|Ag (Af 1 Z d Z)<|As 2 Z<|Jm 6 64 (.bool ((decide (a0.f.1=6))&&(decide (a0.f.2.2.2.2.2.1<a0.f.2.2.2.2.1)))) (fun aj=>?_) ?_
  ·refine D5 (s:=58) Z (fun e=>?_) (fun e=>?_)
   ·refine Aa e<|Ag (Ae Z AjR Z BB.e)<|Aa e<|Ag (Af 1 Z d Z)<|Aa e<|Ag (Ae Z AjR Z BB.e)<|Aa e<|Ag (Af 1 Z d Z)<|Aa e<|Ag (Ai Z)<|Ag (AF e Z)<|aj.to 5 (LM e) Z Z
   iterate 5 refine Ar e ?_
   refine Ag (AG e Z)<|aj.to 5 (LN e) Z Z
  refine As 1 Z<|AE<|A8 _ ⟨d,h⟩
 rintro m bm ⟨k,h⟩;refine Bi h ?_ ?_<;>intro a5 h
 ·refine A7 1 Z<|Aw<|Al<|Am ?_
  cases h
  refine Ah Z ⟨k.ext,Z⟩
 refine Ao<|Ag (Ae Z AjR Z BB.e)<|Ag (Af 1 Z k Z)<|As 2 Z<|Jm 5 74 (.bool ((decide (a0.f.1=4))&&(decide ((a0.f.2.2.2.1.length:Int)=0)))) (fun ac=>?_) ?_
 ·refine D5 (s:=69) Z (fun b=>?_) (fun b=>?_)
  ·refine Aa b<|Ag (Ae Z AjR Z Fy.e)<|Aa b<|Ag (Af 1 Z k Z)<|Aa b<|Ag (AZ z)<|Aa b<|Ag (Ai Z)<|Ag (AF b Z)<|ac.to 4 (LM b) Z Z
  iterate 4 refine Ar b ?_
  refine Ag (AG b Z)<|ac.to 4 (LN b) Z Z
 refine AA 1 Z<|Bi h ?_ ?_<;>intro ak h
 ·refine A7 1 Z<|Aw<|Al<|Am ?_
  cases h
  refine Ah Z ⟨k.ext,Z⟩
 refine Ao<|Ag (Ae Z AjR Z Fy.e)<|Ag (Af 1 Z k Z)<|Ag (AZ z)<|AA 2 Z<|AL h ?_ ?_<;>intro al h
 ·refine A7 1 Z<|Aw<|Al<|Am ?_
  cases h
  refine Ah Z ⟨k.ext,Z⟩
 refine Au<|Az<|Aq<|A7 1 Z<|Aw ?_
 cases h
 refine Ah Z ⟨k.ext,Z⟩
end
def MP(a:Int):Option Al2:=
 some (a,(0,0))
def GD(a0:Qv)(a2:Int)(self:Qv->Int->Int->Option Al2):Int×Int->Option (Qq7⊕Al2):=fun⟨c,a⟩=>
 if a<(a0.f.2.2.2.2.2.2.length:Int)then AU (0<=a/\a<(a0.f.2.2.2.2.2.2.length:Int)) (AU (Bq (a2+1)) (Qq9 (self (a0.f.2.2.2.2.2.2.getD a.toNat Qq2) c (a2+1)) (fun b=>if b.2.1=0/\b.2.2=0 then AU (Bq (a+1)) (some (Sum.inl (b.1,(a+1))))else Qzx Sum.inr (some (0,(b.2.1,b.2.2))))))else Qzx Sum.inr (MP c)
def RH(a0:Qv)(a2:Int)(self:Qv->Int->Int->Option Al2)(s:Int×Int):Option Al2:=Go.L.run (GD a0 a2 self) s
def Jb(self:Qv->Int->Int->Option Al2)(a0:Qv)(a1 a2:Int):Option Al2:=
 if(40<=a1)\/(8<a2)then Qq9 (DL (2:Int) a1) (fun b=>some (0,(b.1,b.2)))else Qq9 (JP a0) (fun c=>if c=0 then AU (Bq (a1+1)) ((RH a0 a2 self) ((a1+1),0))else Qq9 (DL c a1) (fun a=>some (0,(a.1,a.2))))
def J8(self:Qv->Int->Int->Option Al2):Prop:=∀(w:World) (H:PH) (hH:Le H (hp w)) (hU:HG H) {a0:Qv}{a1:Int}{a2:Int}{a:Value}{b:Value}{c:Value} (d:AS .st H a (a0.f.2.1)) (e:AS .byte H b (a0.f.2.2.2.1)) (g:AS .Cy H c (a0.f.2.2.2.2.2.2)) {r:Al2} (h:self a0 a1 a2=some r),Ok prog 93 [.agg #[No a0.f.1,a,Abu a0.f.2.2.1,b,No a0.f.2.2.2.2.1,No a0.f.2.2.2.2.2.1,c],No a1,No a2] w (fun v w'=>Ext w w'/\v=.tuple #[No r.1,.agg #[No r.2.1,No r.2.2]])
def G3:Nat->Qv->Int->Int->Option Al2
 | 0=>fun _ _ _=>none
 | n+1=>Jb (G3 n)
def Qp:Qv->Int->Int->Option Al2:=G3 1000
theorem RI(self:Qv->Int->Int->Option Al2)(hself:J8 self):J8 (Jb self):=by
 intro w H hH hU a0 a1 a2 l m d an ao o r h;unfold J8 at hself;refine A4 52 [(0,.agg #[No a0.f.1,l,Abu a0.f.2.2.1,m,No a0.f.2.2.2.2.1,No a0.f.2.2.2.2.2.1,d]),(1,No a1),(2,No a2)] func93 Z fun hL=>Ao<|BM (t:=30) Z Z hL fun w1 b1 a5 bl _=>As 1 Z<|AO AI.e Z a5 fun w2 b2 k bm _=>Ad<|A6<|Bo 3 Z<|Ab3 2 2 Z Z Z Z Z Z<|Ad<|AL h ?_ ?_<;>intro a6 h
 ·refine Bo 1 Z<|A1 h fun x5 a7 h=>A9 k (EA _ _ (Av k) a7) fun w6 b4 a8 bn=>As 1 Z<|Ak 0 Z a8 Z fun w7 am bo=>Ad<|Aw<|Am ?_
  cases h
  refine Bv (.tmp Z) (.cell Z Ae3 Z AI.e (AP (i:=0) am Z)) ⟨am.ext,Z⟩
 refine Au<|Aq<|A6<|Ao<|Ag (AJ 1 Z Fj.e k Z)<|A1 h fun x9 a9 h=>A9 k (S5 (a0:=a0) _ _ (Av k) (hU.mono  Aj) (an.mono  Aj) (ao.mono  Aj) (o.mono  Aj) a9) fun b5 bp e bf=>AA 1 Z<|A7 2 Z<|BG h ?_ ?_<;>intro ap h
 ·refine Bo 2 Z<|A1 h fun b6 aq h=>A9 e (EA _ _ (Av e) aq) fun b7 bq ar bg=>As 1 Z<|Ak 0 Z ar Z fun b8 y bh=>Ad<|Aw<|Am ?_
  cases h
  refine Bv (.tmp Z) (.cell Z Ae3 Z AI.e (AP (i:=0) y Z)) ⟨y.ext,Z⟩
 refine Au<|Aq<|Bo 1 Z<|Ax h fun au h=>Ag (Ay au)<|AA 1 Z<|Bb Int (fun c=>[(7,(Abo b2)),(9,No c)]) (fun c wr=>Bk w [.box b2 [No 0,No 0] 35,.box b1 [No a0.f.1,l,Abu a0.f.2.2.1,m,No a0.f.2.2.2.2.1,No a0.f.2.2.2.2.2.1,d] 30] wr/\MP c=some r) ?_ ?_
 ·refine Ao<|Ag (Ae Z AjR Z Lj.e)<|Ag (Af 1 Z e Z)<|Ag (AZ o)<|AA 1 Z<|A2 ?_;obtain⟨z,h⟩:=AR h;refine Bj (Int×Int×Nat) (fun⟨b,a,n⟩=>[(2,No a2),(7,(Abo b2)),(9,No b),(31,d),(32,No (a0.f.2.2.2.2.2.2.length:Int)),(33,No a)]) (fun⟨b,a,n⟩ wr=>Bk w [.box b2 [No 0,No 0] 35,.box b1 [No a0.f.1,l,Abu a0.f.2.2.1,m,No a0.f.2.2.2.2.1,No a0.f.2.2.2.2.2.1,d] 30] wr/\DR (GD a0 a2 self) n (b,a)=some r) (fun⟨b,a,n⟩=>n) ((a1+1),0,z) Z ⟨e,h⟩ ?_;rintro⟨b,a,nn92⟩ br ⟨p,h⟩;obtain⟨z,b9,rfl,h,s⟩:=AQ h;refine A7 1 Z<|A6<|AL h ?_ ?_<;>intro av h
  ·refine Au<|Aq<|A6<|A2<|Ao<|Ax h fun aa h=>AW o a.toNat (Cx aa) (AM aa) ?_;rintro ca _ e96t0 aw;obtain⟨_,_,rfl,rfl,⟨_,_,rfl,⟨e96v1,rfl,e96h1⟩,⟨_,_,rfl,rfl,⟨_,_,rfl,⟨e96v3,rfl,e96h3⟩,⟨_,_,rfl,rfl,⟨_,_,rfl,rfl,⟨e96v6,rfl,e96h6⟩⟩⟩⟩⟩⟩⟩:=Go.E.Rp.Ev e96t0;refine Ag (BI aw (hH.trans p.arg))<|AO Fj.e Z p fun cb cc ax bi _=>Ak 0 Z ax Z (a:=(CB Z (CB e96h1.one (CB Z (CB e96h3.one (CB Z (CB Z (CB e96h6.one Ps)))))))) fun cd ay bj=>Ad<|Ao<|AO AI.e Z ay fun bs bt g ba _=>Ad<|Ao<|Ag (AJ 1 Z Fj.e g Z)<|As 2 Z<|Ax h fun ac h=>Ag (Ay ac)<|A1 h fun az ad h=>A9 g (hself _ _ (Av g) (hU.mono  Aj) (e96h1.mono  Aj) (e96h3.mono  Aj) (e96h6.mono  Aj) ad) fun bu bk ae bb=>As 4 Z<|Ak 0 Z ae Z fun bv j bc=>Ad<|Ao<|Ag (AJ 0 Z AI.e j Z) ?_
   refine Ag (Ba (fun _=>B8 _))<|Ag (IX I4 (Nc _ _ _ _))<|Ad<|BG h ?_ ?_<;>intro af h
   ·refine BZ (.q 0 (.q 1 (.tail 2))) mixed Qqb (fun bw ag=>?_);have u:=j.call ag;refine B2 Z (AJ 0 Z AI.e u Z) Z<|B9 1 Z<|Bt (fun bx ah=>?_);have ai:=u.call ah;refine Ak 2 Z ai Z fun bz v bd=>Ad<|Aw<|Al<|Am<|Bc ?_;have h:=Bw.out h s;refine Al<|AN ?_
    cases h
    refine Bv (.tmp Z) (.cell Z Ae3 Z AI.e (AP (i:=2) v Z)) ⟨v.ext,Z⟩
   refine Au<|Az<|Aq<|An<|Ax h fun aj h=>Ag (Ay aj)<|As 1 Z<|AE ?_;have ak:=j.Bl (i:=0) Z;have al:=ak.Bl (i:=0) Z;have h:=Bw.again h s;refine AD (_,_,_) Z ⟨al,h⟩
  refine Bf<|A5<|A3 ?_;have h:=Bw.out h s;refine AY<|A8 _ ⟨p,h⟩
 rintro c b0 ⟨a3,h⟩;refine Bo 1 Z<|Ag (Ba (fun _=>B8 _))<|As 1 Z<|Ak 0 Z a3 Z fun b3 x be=>Ad<|Aw ?_
 cases h
 refine Bv (.tmp Z) (.cell Z Ae3 Z AI.e (AP (i:=0) x Z)) ⟨x.ext,Z⟩
theorem TQ(n:Nat):J8 (G3 n):=by
 induction n with
 | zero=>unfold J8;intros;rename_i h;cases h
 | succ n ih=>exact RI (G3 n) ih
section
variable(w:World)(H:PH)(hH:Le H (hp w)) include hH
theorem VF(hU:HG H){a0:Qv}{a1 a2:Int}{a b c:Value}(d:AS .st H a (a0.f.2.1))(e:AS .byte H b (a0.f.2.2.2.1))(g:AS .Cy H c (a0.f.2.2.2.2.2.2)){r:Al2}(h:Qp a0 a1 a2=some r):Ok prog 93 [.agg #[No a0.f.1,a,Abu a0.f.2.2.1,b,No a0.f.2.2.2.2.1,No a0.f.2.2.2.2.2.1,c],No a1,No a2] w (fun v w'=>Ext w w'/\v=.tuple #[No r.1,.agg #[No r.2.1,No r.2.2]]):=TQ 1000 w H hH hU d e g h
def Ml(a:Abv):Option Abv:=
 AU (Go.E.Fz 1 (a.length+([(39:UInt8)]).length)) (some ((a++[(39:UInt8)])))
def F9(a0:Abv):Abv×Int->Option ((Abv×Int)⊕(Abv)):=fun⟨b,a⟩=>
 if a<(a0.length:Int)then AU (0<=a/\a<(a0.length:Int)) (if(((((a0.getD a.toNat Qq2).toNat:Int)=92)\/(((a0.getD a.toNat Qq2).toNat:Int)=39))\/(((a0.getD a.toNat Qq2).toNat:Int)<32))\/(126<((a0.getD a.toNat Qq2).toNat:Int))then AU (0<=((a0.getD a.toNat Qq2 >>> (4:UInt8)).toNat:Int)/\((a0.getD a.toNat Qq2 >>> (4:UInt8)).toNat:Int)<(([48,49,50,51,52,53,54,55,56,57,97,98,99,100,101,102]:Abv).length:Int)) (AU (0<=((a0.getD a.toNat Qq2 &&& (15:UInt8)).toNat:Int)/\((a0.getD a.toNat Qq2 &&& (15:UInt8)).toNat:Int)<(([48,49,50,51,52,53,54,55,56,57,97,98,99,100,101,102]:Abv).length:Int)) (AU (Go.E.Fz 1 (b.length+([(92:UInt8),(([48,49,50,51,52,53,54,55,56,57,97,98,99,100,101,102]:Abv).getD ((a0.getD a.toNat Qq2 >>> (4:UInt8)).toNat:Int).toNat Qq2),(([48,49,50,51,52,53,54,55,56,57,97,98,99,100,101,102]:Abv).getD ((a0.getD a.toNat Qq2 &&& (15:UInt8)).toNat:Int).toNat Qq2)]).length)) (AU (Bq (a+1)) (some (Sum.inl ((b++[(92:UInt8),(([48,49,50,51,52,53,54,55,56,57,97,98,99,100,101,102]:Abv).getD ((a0.getD a.toNat Qq2 >>> (4:UInt8)).toNat:Int).toNat Qq2),(([48,49,50,51,52,53,54,55,56,57,97,98,99,100,101,102]:Abv).getD ((a0.getD a.toNat Qq2 &&& (15:UInt8)).toNat:Int).toNat Qq2)]),(a+1)))))))else AU (Go.E.Fz 1 (b.length+([a0.getD a.toNat Qq2]).length)) (AU (Bq (a+1)) (some (Sum.inl ((b++[a0.getD a.toNat Qq2]),(a+1))))))else Qzx Sum.inr (Ml b)
def PC(a0:Abv)(s:Abv×Int):Option Abv:=Go.L.run (F9 a0) s
def Kv(a0:Abv):Option Abv:=
 (PC a0) ([(39:UInt8)],0)
theorem PD{a0:Abv}{p:Value}(ab:AS .byte H p a0){r:Abv}(h:Kv a0=some r):
  Qqv 141 [p] w (fun v w'=>v=(Abu r)):=by
 refine A4 45 [(0,p)] func141 Z fun hL=>A7 1 Z<|Ao<|Rl [(39:UInt8)] (r:=.byte) (fun _=>JJ _ _) (B4 1) hH hL (.c1 Z .nil) fun v1 w1 bb bc bm bd=>AA 1 Z<|Bb (Abv×Value×Qq6) (fun⟨o,s,j⟩=>[(3,s)]) (fun⟨o,s,j⟩ wr=>C5 w [.row s 5 1 (o).length j] wr fun Oz=>AK .byte (gz H w wr Oz) o j/\Ml o=some r) ?_ ?_
 ·refine Bo 1 Z<|Ag (AZ ab)<|AA 1 Z<|A2 ?_;obtain⟨y,h⟩:=AR h;refine Bj (Abv×Int×Value×Qq6×Nat) (fun⟨e,a,g,f,n⟩=>[(3,g),(7,p),(8,No (a0.length:Int)),(9,No a)]) (fun⟨e,a,g,f,n⟩ wr=>C5 w [.row g 5 1 (e).length f] wr fun Oz=>AK .byte (gz H w wr Oz) e f/\DR (F9 a0) n (e,a)=some r) (fun⟨e,a,g,f,n⟩=>n) ([(39:UInt8)],0,v1,bb,y) Z ⟨bc,bd,h⟩ ?_;rintro⟨e,a,g,f,nn79⟩ bn ⟨k,d,h⟩;obtain⟨y,bv,rfl,h,u⟩:=AQ h;refine A7 1 Z<|A6<|AL h ?_ ?_<;>intro aq h
  ·refine Au<|Aq<|A6<|A2<|Ao<|Ax h fun ac h=>AW ab a.toNat (Cx ac) (AM ac) ?_;rintro bw _ rfl ar;refine Ag (AT ar (hH.trans k.arg))<|AA 1 Z<|Bo 3 Z<|Ab3 2 2 Z Z Z Z Z Z<|As 1 Z<|Ab3 2 6 Z Z Z Z Z Z<|As 1 Z<|Ab3 2 10 Z Z Z Z Z Z<|Ad<|AL h ?_ ?_<;>intro au h
   ·refine LX (Qqz 0 7 (.h 7 (.tail 8))) mixed Qqb (fun bx ad=>?_);have av:=k.call ad;have ah:=AH k ad;refine B9 2 Z<|B2 Z (Aj0 (c:=4) Z Qqc) Z<|Ax h fun aw h=>B2 Z (Na aw) Z<|B9 1 Z<|B2 Z (AeK (b:=15) Z Z Z) Z<|Ax h fun ax h=>B2 Z (Na ax) Z<|Rm ([(92:UInt8),(([48,49,50,51,52,53,54,55,56,57,97,98,99,100,101,102]:Abv).getD ((a0.getD a.toNat Qq2 >>> (4:UInt8)).toNat:Int).toNat Qq2),(([48,49,50,51,52,53,54,55,56,57,97,98,99,100,101,102]:Abv).getD ((a0.getD a.toNat Qq2 &&& (15:UInt8)).toNat:Int).toNat Qq2)]) (r:=.byte) Z Z (fun _=>AcX _ _ _ _) Z (B4 3) hH av (.c1 Z (.c1 Z (.c1 Z .nil))) fun bz b0 bo ae ai x=>Bt (fun b1 af=>?_);have ay:=ae.call af;have z:=AH ae af;refine Ax h fun az h=>?_;have d:=d.mono (Ab (ah.trans (ai.trans z)));have x:=x.mono (Ab z)
    refine Bp (r:=.byte) 0 e ([(92:UInt8),(([48,49,50,51,52,53,54,55,56,57,97,98,99,100,101,102]:Abv).getD ((a0.getD a.toNat Qq2 >>> (4:UInt8)).toNat:Int).toNat Qq2),(([48,49,50,51,52,53,54,55,56,57,97,98,99,100,101,102]:Abv).getD ((a0.getD a.toNat Qq2 &&& (15:UInt8)).toNat:Int).toNat Qq2)]) Z Ae1 ay Z d x az fun be b2 a1 a2 bh a3=>As 1 Z<|AE<|Az<|Aq<|An<|Ax h fun a4 h=>Ag (Ay a4)<|As 1 Z<|AE ?_;have h:=Bw.again h u;refine AD (_,_,_,_,_) Z ⟨a2,a3,h⟩
   refine An<|As 2 Z<|Bx [a0.getD a.toNat Qq2] (r:=.byte) (fun _=>JJ _ _) k (.c1 Z .nil) fun b3 b4 bp a5 aj a6=>Ax h fun ak h=>?_;have d:=d.mono (Ab aj);refine Bp (r:=.byte) 0 e [a0.getD a.toNat Qq2] Z Ae1 a5 Z d a6 ak fun bf b5 a7 a8 bi a9=>As 1 Z<|AE<|Az<|Aq<|An<|Ax h fun al h=>Ag (Ay al)<|As 1 Z<|AE ?_;have h:=Bw.again h u;refine AD (_,_,_,_,_) Z ⟨a8,a9,h⟩
  refine Bf<|A5<|A3 ?_;have h:=Bw.out h u;refine AY<|A8 (_,_,_) ⟨k,d,h⟩
 rintro⟨o,s,j⟩ bq ⟨ba,t,h⟩;refine Bo 1 Z<|Bx [(39:UInt8)] (r:=.byte) (fun _=>JJ _ _) ba (.c1 Z .nil) fun br bs bj am ag an=>Ax h fun ao h=>?_;have t:=t.mono (Ab ag);refine Bp (r:=.byte) 0 o [(39:UInt8)] Z Ae1 am Z t an ao fun bt bu bk aa bg ap=>Ag (NS (aa.MZ hH (i:=0) Z ap) (Le.refl _))<|AA 1 Z<|Aw ?_
 cases h
 refine Ah Z ⟨aa.ext,Z⟩
end
end Go.Proofs.YtopocbcekabkoaaGreatDoor
end
