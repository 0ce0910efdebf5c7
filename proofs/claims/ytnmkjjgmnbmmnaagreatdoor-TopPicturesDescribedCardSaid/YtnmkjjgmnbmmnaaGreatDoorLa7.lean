/- Texts of a claim, merged. -/
import Derived.Test.YtnmkjjgmnbmmnaaGreatDoorLa6
import Derived.KernelRfl
import Derived.ProofKit
import Derived.OpenShut
import Derived.Carry
import Derived.Deep.Slices
import Derived.Test.YtnmkjjgmnbmmnaaGreatDoorRows
import Derived.Lib.LaidU8T
import Derived.Lib.LaidTab
import Derived.Stop.LaidErr
import Derived.LaidMore
import Derived.MakeChecks
import Derived.LaidHandle
open _root_.Go.Proofs.Tryz renaming underlying32→Aa3,underlying180→Aa8,underlying70→Aa9,underlying220→AaA,underlying68→AaB,underlying22→Aag,underlying5→Aah,underlying27→Aaj,underlying3→Aal,underlying4→Aap,underlying34→Aaz
open Option renaming bind->Qq8,bind_some->Qq9,map->Qzq
open List renaming length_append->Qzk,length_cons->Qzj,replicate->Qzw,perm_append_comm->Qzc,length_drop->QzQ,getElem_eq_getD->Qz6,length_take->QzA,getElem?_eq_some_iff->Qxq,length_set->Qz4,mem_cons->QzJ,not_mem_nil->Qz5,getElem_mem->Qxa,mem_append->Qxc
open HAppend renaming hAppend->Qzu
open Nat renaming le_refl->Qzx,lt_or_ge->QzX,succ_mul->QxQ
open UInt8 renaming ofNat->Qzv
set_option linter.unusedVariables false
set_option linter.unusedSimpArgs false
set_option linter.unusedSectionVars false
noncomputable section
namespace Go
abbrev AaL:=Go.E.Rp.pair Go.E.Rp.byte (Go.E.Rp.pair Go.E.Rp.byte Go.E.Rp.byte)
end Go
namespace Go
abbrev AaG:=List (UInt8×UInt8×UInt8)
end Go
namespace Go.Proofs.YtnmkjjgmnbmmnaaGreatDoor
open Go Go.E Go.RowKit Go.L
set_option maxHeartbeats 1000000
set_option maxRecDepth 10000
open _root_.Go.Proofs.Tryz
def Hj(a0:Int):Option Bool:=
 Bb (0<=a0/\a0<=9223372036854775807/\0<(16:Int)) (if(a0 / (16:Int))<=3 then Bb (0<=a0/\a0<=9223372036854775807/\0<(16:Int)) (some (decide ((a0 % (16:Int))<=3)))else some false)
section
variable(w:World)(H:PH)(hH:Le H (hp w)) include hH
theorem MX{a0:Int}{r:Bool}(h:Hj a0=some r):
  Qqv 66 [No a0] w (fun v w'=>v=.bool r):=by
 refine AG 11 [(0,No a0)] func66 Z fun hL=>AI 1 Z<|B1 1 Z<|A3 h fun c h=>Ag (Sa c)<|Ar 2 Z<|AQ 6 h ?_ ?_<;>intro a h
 ·refine Aa a<|Ag (Ad Z)<|Aa a<|A3 h fun b h=>Ag (Tt Z Z ⟨b.1,b.2.2⟩)<|Aa a<|Ag (Ad Z)<|Ag (Ak a Z)<|A1 1 Z<|Au ?_
  cases h
  refine Aj Z ⟨hL.ext,Z⟩
 iterate 3 refine Ab a ?_
 refine Ag (Am a Z)<|A1 1 Z<|Au ?_
 cases h
 refine Aj Z ⟨hL.ext,Z⟩
def GI(a:Int):Option Int:=
 some a
def Fe(a0:Aae):Int->Option ((Int)⊕(Int)):=fun a=>
 if a<(a0.length:Int)then if a<129 then Bb (0<=a/\a<(a0.length:Int)) (Bb (0<=(0:Int)/\(0:Int)<(a0.length:Int)) (if((a0.getD a.toNat Qq1).toNat:Int)=((a0.getD ((0:Int).toNat) Qq1).toNat:Int)then Bb (BH (a+1)) (some (Sum.inl (a+1)))else Qzq Sum.inr (GI a)))else Qzq Sum.inr (GI a)else Qzq Sum.inr (GI a)
def GJ(a0:Aae)(s:Int):Option Int:=Go.L.run (Fe a0) s
def K6(a0:Aae):Option Int:=
 (GJ a0) (0:Int)
theorem N6{a0:Aae}{f:Value}(i:AL .byte H f a0){r:Int}(h:K6 a0=some r):
  Qqv 181 [f] w (fun v w'=>v=No r):=by
 refine AG 25 [(0,f)] func181 Z fun hL=>AI 1 Z<|AI 1 Z<|Bm Int (fun d=>[(3,No d)]) (fun d wr=>AW w [] wr/\GI d=some r) ?_ ?_
 ·refine A8 ?_;obtain⟨j,h⟩:=Bc h;refine Bz (Int×Nat) (fun⟨b,n⟩=>[(0,f),(3,No b)]) (fun⟨b,n⟩ wr=>AW w [] wr/\FW (Fe a0) n b=some r) (fun⟨b,n⟩=>n) (0,j) Z ⟨hL,h⟩ ?_;rintro⟨b,nn76⟩ af ⟨o,h⟩;obtain⟨j,ah,rfl,h,g⟩:=Ba h;refine AM<|CI (Qqz 0 18 (.tail 18)) mixed V (fun ai p=>?_);have e:=o.call p;refine BJ 2 Z<|B9 Z (AT i) Z<|BJ 2 Z<|Ic 8 Z (fun c=>?_) (fun c=>?_)
  ·have h:=MQ (of_decide_eq_true c) h
   iterate 2 refine CE Z (Ad Z) Z Z Z c Z ?_
   refine B9 Z (Ak c Z) Z<|BJ 1 Z<|Ic 12 Z (fun a=>?_) (fun a=>?_)
   ·have h:=MQ (of_decide_eq_true a) h
    iterate 2 refine CE Z (Ad Z) Z Z Z a Z ?_
    refine A3 h fun k h=>HM Z Z Z Z a Z Z Aag i b.toNat (CT k) (AD k) Z ?_;rintro aj _ rfl t;refine CE Z (AX t (hH.trans e.arg)) Z Z Z a Z<|CE Z (Ad Z) Z Z Z a Z<|A3 h fun l h=>HM Z Z Z Z a Z Z Aag i ((0:Int).toNat) (CT l) (AD l) Z ?_;rintro ak _ rfl u;refine CE Z (AX u (hH.trans e.arg)) Z Z Z a Z<|CE Z (Ad Z) Z Z Z a Z<|B9 Z (Ak a Z) Z<|B8 (fun al x=>?_);have m:=e.call x;refine Al<|AS h ?_ ?_<;>intro y h
    ·refine A4<|A2<|A8<|Az<|Ar 1 Z<|A3 h fun z h=>Ag (AA z)<|Ar 1 Z<|AP<|A9 ?_;have h:=BW.again h g;refine AN (_,_) ⟨m,h⟩
    refine Bq<|AK<|AF ?_;have h:=BW.out h g;refine Bj<|AH _ ⟨m,h⟩
   have h:=MR (of_decide_eq_false a) h
   iterate 8 refine M3 Z Z Z Z a Z ?_
   refine B9 Z (Am a Z) Z<|B8 (fun am aa=>?_);have ab:=e.call aa;refine Al<|Gw<|Bq<|AK<|AF ?_;have h:=BW.out h g;refine Bj<|AH _ ⟨ab,h⟩
  have h:=MR (of_decide_eq_false c) h
  iterate 2 refine M3 Z Z Z Z c Z ?_
  refine B9 Z (Am c Z) Z<|BJ 1 Z ?_
  iterate 8 refine M3 Z Z Z Z Z Z ?_
  refine B9 Z (Am Z Z) Z<|B8 (fun an ac=>?_);have ad:=e.call ac;refine Al<|Gw<|Bq<|AK<|AF ?_;have h:=BW.out h g;refine Bj<|AH _ ⟨ad,h⟩
 rintro d ag ⟨ae,h⟩;refine AI 2 Z<|Au ?_
 cases h
 refine Aj Z ⟨ae.ext,Z⟩
def KN(b:Aae)(a:Int)(c:Aae):Option ((Aae×Aae)⊕(Aae)):=
 Bb (0<=a/\a<=(b.length:Int)) (some (Sum.inl (c,(b.drop a.toNat))))
def Hs(c:Aae)(b:Aae)(a:Int):Option ((Aae×Aae)⊕(Aae)):=
 Bb (BH (a - 1)) (Bb (Go.E.Gx 1 (c.length+([(Go.L.u8 (a - 1))]).length)) (Bb (0<=a/\a<=(b.length:Int)) (Bb (Go.E.Gx 1 ((c++[(Go.L.u8 (a - 1))]).length+(b.take a.toNat).length)) ((KN b a) ((c++[(Go.L.u8 (a - 1))])++(b.take a.toNat))))))
def Fx(c:Aae)(b:Aae):Int->Option ((Int)⊕((Aae×Aae)⊕(Aae))):=fun a=>
 if(a<(b.length:Int))/\(a<128)then Bb (0<=a/\a<=(b.length:Int)) (Qq8 (K6 (b.drop a.toNat)) (fun d=>if d<3 then Bb (BH (a+1)) (some (Sum.inl (a+1)))else Qzq Sum.inr ((Hs c b) a)))else Qzq Sum.inr ((Hs c b) a)
def Ht(b:Aae)(a:Aae)(s:Int):Option ((Aae×Aae)⊕(Aae)):=Go.L.run (Fx b a) s
def KO(a:Aae):Option Aae:=
 some a
def GK:Aae×Aae->Option ((Aae×Aae)⊕(Aae)):=fun⟨c,a⟩=>
 if 0<(a.length:Int)then Qq8 (K6 a) (fun b=>if 3<=b then Bb (BH (126+b)) (Bb (0<=(0:Int)/\(0:Int)<(a.length:Int)) (Bb (Go.E.Gx 1 (c.length+([(Go.L.u8 (126+b)),a.getD ((0:Int).toNat) Qq1]).length)) (Bb (0<=b/\b<=(a.length:Int)) (some (Sum.inl ((c++[(Go.L.u8 (126+b)),a.getD ((0:Int).toNat) Qq1]),(a.drop b.toNat)))))))else(Ht c a) (1:Int))else Qzq Sum.inr (KO c)
def Ji(s:Aae×Aae):Option Aae:=Go.L.run GK s
def MK(a0:Aae):Option Aae:=
 Ji (([]:Aae),a0)
theorem P0{a0:Aae}{am:Value}(cp:AL .byte H am a0){r:Aae}(h:MK a0=some r):
  Qqv 142 [am] w (fun v w'=>∃u0,v=u0/\Cv 5 .byte H w w' u0 r):=by
 refine AG 56 [(0,am)] func142 Z fun hL=>AI 1 Z<|B1 1 Z ?_;obtain⟨cx,dd,cy⟩:=CF .byte H 5 hL;refine Al<|Bm (Aae×Value×Qq5) (fun⟨al,aj,ab⟩=>[(3,aj)]) (fun⟨al,aj,ab⟩ wr=>DE w [.row aj 5 1 (al).length ab] wr fun Oz=>A5 .byte (gz H w wr Oz) al ab/\KO al=some r) ?_ ?_
 ·refine A8 ?_;obtain⟨an,h⟩:=Bc h;refine Bz (Aae×Aae×Value×Qq5×Value×Nat) (fun⟨e,d,q,o,k,n⟩=>[(0,k),(3,q)]) (fun⟨e,d,q,o,k,n⟩ wr=>DE w [.row q 5 1 (e).length o] wr fun Oz=>AL .byte (gz H w wr Oz) k d/\A5 .byte (gz H w wr Oz) e o/\FW GK n (e,d)=some r) (fun⟨e,d,q,o,k,n⟩=>n) (([]:Aae),a0,Aaa,[],am,an) Z ⟨cx,(cp.mono  Ai),cy,h⟩ ?_;rintro⟨e,d,q,o,k,nn244⟩ cz ⟨ao,f,b,h⟩;obtain⟨an,a4,rfl,h,ap⟩:=Ba h;refine AM<|B1 1 Z<|Ag (AT f)<|A1 1 Z<|AS h ?_ ?_<;>intro br h
  ·refine A4<|A2<|A8<|AM<|B1 1 Z<|Av h fun aq bs h=>A6 ao (N6 _ _ (Ao ao) f bs) fun de c0 ar y=>A1 1 Z<|AI 2 Z<|AS h ?_ ?_<;>intro bt h
   ·refine B1 2 Z<|A3 h fun bu h=>Ag (AA bu)<|Ag (EA (Gm _))<|Ar 1 Z<|A3 h fun a6 h=>?_;have f:=f.mono (Ac y);refine Bf f ((0:Int).toNat) (CT a6) (AD a6) ?_;rintro df _ rfl bv;refine Ag (AX bv (Ao ar))<|BV [(Go.L.u8 (126+aq)),d.getD ((0:Int).toNat) Qq1] (r:=.byte) (fun _=>Wz _ _ _) (hlen:=(Ch 2)) ar (.c1 Z (.c1 Z .nil)) fun dg dh c2 bw az bx=>A3 h fun bz h=>?_;have b:=b.mono (Ac (y.trans az));refine BL (r:=.byte) 0 e [(Go.L.u8 (126+aq)),d.getD ((0:Int).toNat) Qq1] Z Aag bw Z b bx bz fun cq di b0 b1 bj b2=>A1 1 Z<|B1 2 Z<|A3 h fun b3 h=>?_;have f:=f.mono (Ac (az.trans bj));refine DQ f b3 fun cr b4=>A1 1 Z<|Bq<|AK<|Bj ?_;have h:=BW.again h ap
    refine AN ((e++[(Go.L.u8 (126+aq)),d.getD ((0:Int).toNat) Qq1]),(d.drop aq.toNat),cq,b0,cr,an) ⟨b1,b4,b2,h⟩
   refine A4<|A2<|AI 1 Z<|Bm Int (fun c=>[(0,k),(3,q),(5,No c)]) (fun c wr=>DE w [.row q 5 1 (e).length o] wr fun Oz=>AL .byte (gz H w wr Oz) k d/\A5 .byte (gz H w wr Oz) e o/\(Hs e d) c=some a4) ?_ ?_
   ·refine A8 ?_;obtain⟨a5,h⟩:=Bc h;have f:=f.mono (Ac y);have b:=b.mono (Ac y);refine Bz (Int×Nat) (fun⟨s,n⟩=>[(0,k),(3,q),(5,No s)]) (fun⟨s,n⟩ wr=>DE w [.row q 5 1 (e).length o] wr fun Oz=>AL .byte (gz H w wr Oz) k d/\A5 .byte (gz H w wr Oz) e o/\FW (Fx e d) n s=some a4) (fun⟨s,n⟩=>n) (1,a5) Z ⟨ar,f,b,h⟩ ?_;rintro⟨s,nn303⟩ c3 ⟨au,p,b,h⟩;obtain⟨a5,dj,rfl,h,av⟩:=Ba h;refine AM<|B1 2 Z<|Ag (AT p)<|Ar 2 Z<|RN 2 4 Z Z Z Z Z Z<|Ar 1 Z<|AQ 33 h ?_ ?_<;>intro t h
    ·refine Aa t<|Ag (Ad Z)<|Aa t<|Ag (Ad Z)<|Aa t<|A3 h fun b5 h=>DQ p b5 fun dk b6=>Aa t<|Av h fun dl b7 h=>A6 au (N6 _ _ (Ao au) b6 b7) fun dm c4 a7 ac=>Aa t<|Ag (Ad Z)<|Ag (Ak t Z)<|Al<|AS h ?_ ?_<;>intro b8 h
     ·refine A4<|A2<|A8<|Az<|Ar 1 Z<|A3 h fun b9 h=>Ag (AA b9)<|Ar 1 Z<|AP<|A9 ?_;have h:=BW.again h av;have p:=p.mono (Ac ac);have b:=b.mono (Ac ac);refine AN (_,_) ⟨a7,p,b,h⟩
     refine Bq<|AK<|AF ?_;have h:=BW.out h av;refine Bj ?_;have p:=p.mono (Ac ac);have b:=b.mono (Ac ac);refine AH _ ⟨a7,p,b,h⟩
    iterate 5 refine Ab t ?_
    refine Ag (Am t Z)<|Al<|Gw<|Bq<|AK<|AF ?_;have h:=BW.out h av;refine Bj<|AH _ ⟨au,p,b,h⟩
   have b:=b.mono (Ac y);rintro c c5 ⟨a8,g,b,h⟩;refine Bm (Aae×Value×Qq5) (fun⟨ai,ad,aa⟩=>[(0,k),(3,ad),(5,No c)]) (fun⟨ai,ad,aa⟩ wr=>DE w [.row ad 5 1 (ai).length aa] wr fun Oz=>AL .byte (gz H w wr Oz) k d/\A5 .byte (gz H w wr Oz) ai aa/\(KN d c) ai=some a4) ?_ ?_
   ·refine Ek (IB (D6 (LG (D6 (IB Gy))))) (fun z0 z=>Le (gz H w z0 [.row q 5 1 (e).length o]) (hp z)) mixed Z (fun u dp a9=>?_);have ae:=a8.call a9;have x:=Bd a8 a9;have a:=ae.rG H;refine Gz (a.trans (Ao ae)) fun kI354=>Aw 0 u kI354 Z (fun _ _=>Ad Z) Z<|Aw 1 u kI354 Z (fun _ _=>Ad Z) Z<|A3 h fun ca h=>Aw 2 u kI354 Z (fun _ _=>AA ca) Z<|Aw 3 u kI354 Z (fun _ _=>EA (Gm _)) Z<|Aw 6 u kI354 Z (fun _ _=>Ad Z) Z<|Aw 7 u kI354 Z (fun _ _=>Ad Z) Z<|Q3 4 8 Z Z ?_ ?_
    ·refine BV [(Go.L.u8 (c - 1))] (r:=.byte) (fun _=>Kh _ _) ae (.c1 Z .nil) ?_;intro dq dr c6 ak bk ba;have a:=a.trans (Ac bk);refine AB (a.trans (Ao ak)) fun kI357=>Q3 5 8 Z Z ?_ ?_
     ·refine A3 h fun af h=>?_;have b:=b.mono (Ac x);refine BL (r:=.byte) 0 e [(Go.L.u8 (c - 1))] Z Aag ak Z (b.mono a) ba af ?_;intro ds dt c7 aw bl cb;have a:=a.trans (Ac bl);refine AB (a.trans (Ao aw)) fun kI360=>CK 8 Z<|A3 h fun ag h=>?_;have g:=g.mono (Ac x);refine J1 (g.mono a) ag fun du cc=>AB (a.trans (Ao aw)) fun kI363=>CK 9 Z<|A3 h fun ah h=>BL (r:=.byte) 0 ((e++[(Go.L.u8 (c - 1))])) (d.take c.toNat) Z Aag aw Z cb cc ah ?_;intro cs dv cd bb bm ce;have a:=a.trans (Ac bm);refine AB (a.trans (Ao bb)) fun kI366=>Aw 10 u kI366 Z (fun _ _=>Ad Z) Z<|Cq<|AH (_,_,_) ⟨bb,(g.mono a),ce,h⟩
     refine A3 h fun af h=>A3 h fun ag h=>A3 h fun ah h=>?_;have g:=g.mono (Ac x);refine J1 (g.mono a) ag fun dw ax=>AB (a.trans (Ao ak)) fun kI368=>CK 5 Z ?_;have b:=b.mono (Ac x);refine BL (r:=.byte) 0 e [(Go.L.u8 (c - 1))] Z Aag ak Z (b.mono a) ba af ?_;intro dx dy c8 bc a1 cf;have a:=a.trans (Ac a1);refine AB (a.trans (Ao bc)) fun kI370=>CK 9 Z ?_;have ax:=ax.mono (Ac a1);refine BL (r:=.byte) 0 ((e++[(Go.L.u8 (c - 1))])) (d.take c.toNat) Z Aag bc Z cf ax ah ?_;intro ct dz cg bd bn ch;have a:=a.trans (Ac bn);refine AB (a.trans (Ao bd)) fun kI372=>Aw 10 u kI372 Z (fun _ _=>Ad Z) Z<|Cq<|AH (_,_,_) ⟨bd,(g.mono a),ch,h⟩
    refine A3 h fun af h=>A3 h fun ag h=>A3 h fun ah h=>?_;have g:=g.mono (Ac x);refine J1 (g.mono a) ag fun d0 ay=>AB (a.trans (Ao ae)) fun kI374=>CK 4 Z<|BV [(Go.L.u8 (c - 1))] (r:=.byte) (fun _=>Kh _ _) ae (.c1 Z .nil) ?_;intro d1 d2 c9 be a2 ci;have a:=a.trans (Ac a2);refine AB (a.trans (Ao be)) fun kI376=>CK 5 Z ?_;have b:=b.mono (Ac x);refine BL (r:=.byte) 0 e [(Go.L.u8 (c - 1))] Z Aag be Z (b.mono a) ci af ?_;intro d3 d4 da bf a3 cj;have a:=a.trans (Ac a3);refine AB (a.trans (Ao bf)) fun kI378=>CK 9 Z ?_;have ay:=ay.mono (Ac (a2.trans a3));refine BL (r:=.byte) 0 ((e++[(Go.L.u8 (c - 1))])) (d.take c.toNat) Z Aag bf Z cj ay ah ?_;intro cu d5 ck bg bo cl;have a:=a.trans (Ac bo)
    refine AB (a.trans (Ao bg)) fun kI380=>Aw 10 u kI380 Z (fun _ _=>Ad Z) Z<|Cq<|AH (_,_,_) ⟨bg,(g.mono a),cl,h⟩
   rintro⟨ai,ad,aa⟩ db ⟨cm,bi,bp,h⟩;refine Az<|Ar 2 Z<|A3 h fun cn h=>DQ bi cn fun cv co=>Ar 1 Z<|AP<|A9 ?_;have h:=BW.again h ap;refine AN (ai,(d.drop c.toNat),ad,aa,cv,an) ⟨cm,co,bp,h⟩
  refine Bq<|AK<|AF ?_;have h:=BW.out h ap;refine Bj<|AH (_,_,_) ⟨ao,b,h⟩
 rintro⟨al,aj,ab⟩ dc ⟨bh,bq,h⟩;refine AI 2 Z<|Au ?_
 cases h
 refine Aj Z ⟨bh.ext,_,Z,(bh.Hn hH (i:=0) Z bq)⟩
def Jj(a0:Int):Option (Pv):=
 some ((Pv.mk (1:Int) a0 ([]) ([]) ([])))
theorem L6{a0:Int}{r:Pv}(h:Jj a0=some r):
  Qqv 71 [No a0] w (fun v w'=>∃b c d,v=.agg #[No r.f.1,No r.f.2.1,b,c,d]/\Cv 5 .byte H w w' b (r.f.2.2.1)/\Cv 9 .st H w w' c (r.f.2.2.2.1)/\Cv 34 .tree H w w' d (r.f.2.2.2.2)):=by
 refine AG 5 [(0,No a0)] func71 Z fun hL=>Aq<|AZ B5.e Z hL fun k l e g _=>Al<|B1 1 Z<|Ag (B7 (fun _=>QS _ _ _))<|A7 0 Z e Z fun m a j=>Al<|Au ?_
 cases h
 refine DO (.cell Z Aaz Z B5.e (Bo (i:=0) a Z)) ⟨a.ext,_,_,_,Z,Cv.nil,Cv.nil,Cv.nil⟩
def Md(a0 a1:Int)(a2:Aae):Option (Pv):=
 Qq8 (Jj a0) (fun a=>Qq8 (Jj a1) (fun b=>Qq8 (Cl a2) (fun c=>some ((Pv.mk (4:Int) (0:Int) ([]) ([([119,105,100,116,104]:Aae),([104,101,105,103,104,116]:Aae),([112,105,120,101,108,115]:Aae)]) ([a,b,(Pv.mk (2:Int) (0:Int) c ([]) ([]))]))))))
theorem OZ{a0 a1:Int}{a2:Aae}{s:Value}(ai:AL .byte H s a2){r:Pv}(h:Md a0 a1 a2=some r):
  Qqv 26 [No a0,No a1,s] w (fun v w'=>∃u0 u1 u2,v=.agg #[No r.f.1,No r.f.2.1,u0,u1,u2]/\Cv 5 .byte H w w' u0 (r.f.2.2.1)/\AL .st (un H (nw w w')) u1 (r.f.2.2.2.1)/\AL .tree (un H (nw w w')) u2 (r.f.2.2.2.2)):=by
 refine AG 20 [(0,No a0),(1,No a1),(2,s)] func26 Z fun hL=>Aq<|AZ B5.e Z hL fun w1 b1 ao ax _=>Al<|AI 1 Z<|Aq<|BV ([([119,105,100,116,104]:Aae),([104,101,105,103,104,116]:Aae),([112,105,120,101,108,115]:Aae)]) (r:=.st) (fun _=>W5 _ Z _ Z _ Z _) (hlen:=(Ch 3)) ao (.c1 Z (.c1 Z (.c1 Z .nil))) fun v2 w2 bc m ay o=>Ar 2 Z<|Av h fun x3 ap h=>Nn m (L6 _ _ (Ao m) ap) ?_;rintro _ w4 ⟨a3,a4,a5,rfl,ab,ac,ad⟩ x p aj;have b:=ab.Dj hH m x;have c:=ac.Dj hH m x;have d:=ad.Dj hH m x;refine Ar 2 Z<|Av h fun x5 aq h=>Nn p (L6 _ _ (Ao p) aq) ?_;rintro _ w6 ⟨a7,a8,a9,rfl,ae,af,ag⟩ y z e;have g:=ae.Dj hH p y;have j:=af.Dj hH p y;have k:=ag.Dj hH p y;refine Ar 1 Z<|Av h fun x7 ar h=>Bv z (Ep _ _ (Ao z) (ai.mono  Ai) ar) ?_;rintro bb w8 ⟨_,rfl,ah⟩ au av a;have t:=ah.Dj hH z au;refine Ag (B7 (fun _=>QT _ _ t.one _)) ?_
 have b:=b.mono (Ac (e.trans a));have c:=c.mono (Ac (e.trans a));have d:=d.mono (Ac (e.trans a));have g:=g.mono (Ac a);have j:=j.mono (Ac a);have k:=k.mono (Ac a);refine BV ([x3,x5,(Pv.mk (2:Int) (0:Int) x7 ([]) ([]))]) (r:=.tree) (fun _=>W7 _ _ _ _ _ _ _ _ _ _ _ _ _ _ _ _) (hlen:=(Ch 3)) av (.c5 (Go.E.Rp.Fa ⟨_,_,Z,Z,⟨_,_,Z,Z,⟨_,_,Z,⟨_,Z,b⟩,⟨_,_,Z,⟨_,Z,c⟩,⟨_,Z,d⟩⟩⟩⟩⟩) (.c5 (Go.E.Rp.Fa ⟨_,_,Z,Z,⟨_,_,Z,Z,⟨_,_,Z,⟨_,Z,g⟩,⟨_,_,Z,⟨_,Z,j⟩,⟨_,Z,k⟩⟩⟩⟩⟩) (.c5 (Go.E.Rp.Fa ⟨_,_,Z,Z,⟨_,_,Z,Z,⟨_,_,Z,⟨_,Z,t⟩,⟨_,_,Z,⟨_,Z,AL.nil _ _⟩,⟨_,Z,AL.nil _ _⟩⟩⟩⟩⟩) .nil))) fun v9 w9 bd aw ak q=>Ag (B7 (fun _=>Sl _ _ o.one _ q.one _))<|A7 0 Z aw Z (h1:=(BP Z (BP Z (BP Z (BP o.one (BP q.one Mx)))))) fun be aa u=>Al<|Au ?_
 cases h
 refine DO (.cell Z Aaz Z B5.e (Bo (i:=0) aa Z)) ?_;have o:=o.mono (Ac (aj.trans (e.trans (a.trans (ak.trans u)))));have q:=q.mono (Ac u);exact⟨aa.ext,_,_,_,Z,Cv.nil,(o.mono (GQ hH)),(q.mono (GQ hH))⟩
def Dk(a0:Int×AaG):Option Int:=
 Bb (0<=a0.1/\a0.1<=9223372036854775807/\0<(16:Int)) (some ((a0.1 / (16:Int))))
theorem Fs(a0:Int×AaG){a:Value}(_h0_0:AL AaL H a (a0.2)){r:Int}(h:Dk a0=some r):
  Qqv 69 [.agg #[No a0.1,a]] w (fun v w'=>v=No r):=by
 refine AG 6 [(0,.agg #[No a0.1,a])] func69 Z fun hL=>Aq<|Cj (t:=70) Z Z hL fun e f b d _=>A1 1 Z<|Aq<|Ag (Af Z Aa9 Z B4.e)<|Ag (Ae 0 Z b Z)<|A3 h fun c h=>Ag (Sa c)<|A1 1 Z<|Au ?_
 cases h
 refine Aj Z ⟨b.ext,Z⟩
def Ec(a0:Int×AaG)(a1:Int):Option Bool:=
 Bb ((0<=a0.1/\a0.1<2 ^ 63)/\(0<=a1/\a1<2 ^ 63)) (some (!decide (((a0.1.toNat &&& a1.toNat:Nat):Int)=0)))
theorem K7{a0:Int×AaG}{a1:Int}{a:Value}(_h0_0:AL AaL H a (a0.2)){r:Bool}(h:Ec a0 a1=some r):
  Qqv 100 [.agg #[No a0.1,a],No a1] w (fun v w'=>v=.bool r):=by
 refine AG 10 [(0,.agg #[No a0.1,a]),(1,No a1)] func100 Z fun hL=>Aq<|Cj (t:=70) Z Z hL fun e f b d _=>A1 1 Z<|Aq<|Ag (Af Z Aa9 Z B4.e)<|Ag (Ae 0 Z b Z)<|Ar 1 Z<|A3 h fun c h=>Ag (OH Z c)<|A1 2 Z<|Au ?_
 cases h
 refine Aj Z ⟨b.ext,Z⟩
def Ew(a0:Int×AaG):Option Bool:=
 Qq8 (Dk a0) (fun a=>some (decide (a<2)))
theorem IN{a0:Int×AaG}{a:Value}(c:AL AaL H a (a0.2)){r:Bool}(h:Ew a0=some r):
  Qqv 67 [.agg #[No a0.1,a]] w (fun v w'=>v=.bool r):=by
 refine AG 6 [(0,.agg #[No a0.1,a])] func67 Z fun hL=>Aq<|Cj (t:=70) Z Z hL fun j k b f _=>A1 1 Z<|Aq<|Ag (Ax 0 Z Jv.e b Z)<|Av h fun l d h=>A6 b (Fs _ _ (Ao b) a0 (c.mono  Ai) d) fun m i e g=>A1 2 Z<|Au ?_
 cases h
 refine Aj Z ⟨e.ext,Z⟩
def FG(a0:Int×AaG):Option Int:=
 Qq8 (Dk a0) (fun a=>Bb (0<=a/\a<4) (some ((([1,4,8,24]:Qq4).getD a.toNat Qq1))))
theorem JN{a0:Int×AaG}{a:Value}(c:AL AaL H a (a0.2)){r:Int}(h:FG a0=some r):
  Qqv 140 [.agg #[No a0.1,a]] w (fun v w'=>v=No r):=by
 refine AG 7 [(0,.agg #[No a0.1,a])] func140 Z fun hL=>Aq<|Cj (t:=70) Z Z hL fun k m b g _=>A1 1 Z<|Aq<|Ag (B7 (fun _=>Qb _ _ _ _ _))<|Ag (Ax 0 Z Jv.e b Z)<|Av h fun o d h=>A6 b (Fs _ _ (Ao b) a0 (c.mono  Ai) d) fun p j e i=>A3 h fun f h=>Ag (Y3 (l:=([1,4,8,24]:Qq4)) Z Z AaA Aal f)<|A1 1 Z<|Au ?_
 cases h
 refine Aj Z ⟨e.ext,Z⟩
def FQ(a0:Int×AaG)(a1:Int):Option Int:=
 Qq8 (FG a0) (fun a=>Bb (BH (a1 * a)) (Bb (BH ((a1 * a)+7)) (Bb (0<=((a1 * a)+7)/\((a1 * a)+7)<=9223372036854775807/\0<(8:Int)) (some ((((a1 * a)+7) / (8:Int)))))))
theorem Me{a0:Int×AaG}{a1:Int}{a:Value}(c:AL AaL H a (a0.2)){r:Int}(h:FQ a0 a1=some r):
  Qqv 99 [.agg #[No a0.1,a],No a1] w (fun v w'=>v=No r):=by
 refine AG 11 [(0,.agg #[No a0.1,a]),(1,No a1)] func99 Z fun hL=>Aq<|Cj (t:=70) Z Z hL fun m o b j _=>A1 1 Z<|B1 1 Z<|Ag (Ax 0 Z Jv.e b Z)<|Av h fun p d h=>A6 b (JN (a0:=a0) _ _ (Ao b) (c.mono  Ai) d) fun q l e k=>A3 h fun f h=>Ag (AA f)<|A3 h fun g h=>Ag (AA g)<|A3 h fun i h=>Ag (Sa i)<|A1 1 Z<|Au ?_
 cases h
 refine Aj Z ⟨e.ext,Z⟩
end
def Ci{σ:Type}(b:Aae)(c:Int)(step:σ->Aae->Option (σ×Bool)):Int×σ->Option ((Int×σ)⊕(σ)):=fun⟨a,sJ23⟩=>
 if a<(b.length:Int)then Bb (0<=a/\a<=(b.length:Int)) (Bb (BH (a+(min c ((b.drop a.toNat).length:Int)))) (Bb (BH (a+(min c ((b.drop a.toNat).length:Int)))) (Bb (0<=a/\a<=(a+(min c ((b.drop a.toNat).length:Int)))/\(a+(min c ((b.drop a.toNat).length:Int)))<=(b.length:Int)) (Qq8 (step sJ23 ((b.drop a.toNat).take ((a+(min c ((b.drop a.toNat).length:Int))).toNat - a.toNat))) (fun d=>if !d.2 then Qzq Sum.inr (some d.1)else Bb (BH (a+c)) (some (Sum.inl ((a+c),d.1))))))))else Qzq Sum.inr (some sJ23)
def Cp{σ:Type}(a:Aae)(b:Int)(step:σ->Aae->Option (σ×Bool))(s:Int×σ):Option (σ):=Go.L.run (Ci a b step) s
def GO{σ:Type}(step:σ->Aae->Option (σ×Bool))(_self:Aae->Int->σ->Option σ)(a:Aae)(b:Int)(s:σ):Option (σ):=
 (Cp a b step) (0,s)
def Ee{σ:Type}(step:σ->Aae->Option (σ×Bool)):Nat->Aae->Int->σ->Option σ
 | 0=>fun _ _ _=>none
 | n+1=>GO step (Ee step n)
def E7{σ:Type}(step:σ->Aae->Option (σ×Bool)):Aae->Int->σ->Option σ:=Ee step 1000
theorem JJ{σ:Type}{c:World}{H:PH}(hH:Le H (hp c)){l:Nat}{J:σ->List BN->PH->Prop}{step:σ->Aae->Option (σ×Bool)}(hcb:Yc prog c H l .byte J step){self:Aae->Int->σ->Option σ}(_hself:∀{w:World}{O R:List BN}{s:σ}{p:Aae}{t:Int}{d:Value}{pc0:Addr}{pc1:Addr} (hL:AW c (Ha O R) w) (z:AL .byte (gz H c w (Ha O R)) d p) (aa:CJ (gz H c w (Ha O R)) pc0 [d]) (ab:CJ (gz H c w (Ha O R)) pc1 [No t]) (hJ:J s R (gz H c w (Ha O R))) {r:σ} (h:self p t s=some r),Ok prog 143 [.func (.yield l) #[] #[],.pointer (some pc0),.pointer (some pc1)] w (fun v w'=>v=.tuple #[]/\∃R':List BN,AW c (Ha O R') w'/\Le (fz w (Ha O R)) (fz w' (Ha O R'))/\J r R' (gz H c w' (Ha O R')))){w:World}{O R:List BN}{s:σ}{p:Aae}{t:Int}{d:Value}{pc0 pc1:Addr}(hL:AW c (Ha O R) w)(z:AL .byte (gz H c w (Ha O R)) d p)(aa:CJ (gz H c w (Ha O R)) pc0 [d])(ab:CJ (gz H c w (Ha O R)) pc1 [No t])(hJ:J s R (gz H c w (Ha O R))){r:σ}(h:GO step self p t s=some r):
  Ok prog 143 [.func (.yield l) #[] #[],.pointer (some pc0),.pointer (some pc1)] w (fun v w'=>v=.tuple #[]/\∃R':List BN,AW c (Ha O R') w'/\Le (fz w (Ha O R)) (fz w' (Ha O R'))/\J r R' (gz H c w' (Ha O R'))):=by
 refine BC (n:=31) [(0,.func (.yield l) #[] #[]),(1,.pointer (some pc0)),(2,.pointer (some pc1))] func143 Z Z Z Z ?_;have hT:=Le.refl (fz w (Ha O R));have ac:=hL.rG H;refine AI 1 Z<|A8 ?_;obtain⟨ad,h⟩:=Bc h;refine Bz (Int×σ×(List BN)×Nat) (fun⟨b,sJ23,RJ23,n⟩=>[(0,.func (.yield l) #[] #[]),(1,.pointer (some pc0)),(2,.pointer (some pc1)),(4,No b)]) (fun⟨b,sJ23,RJ23,n⟩ wr=>DE c (Ha [] (Ha O RJ23)) wr fun Oz=>CJ (gz H c wr Oz) pc0 [d]/\AL .byte (gz H c wr Oz) d p/\CJ (gz H c wr Oz) pc1 [No t]/\Le (fz w (Ha O R)) (fz wr Oz)/\J sJ23 RJ23 (gz H c wr Oz)/\FW (Ci p t step) n (b,sJ23)=some r) (fun⟨b,sJ23,RJ23,n⟩=>n) (0,s,R,ad) Z ⟨hL,(aa.mono ac),(z.mono ac),(ab.mono ac),hT,hJ,h⟩ ?_;rintro⟨b,sJ23,RJ23,nn23⟩ ax ⟨k,e,f,m,hT,hJ,h⟩;obtain⟨ad,ay,rfl,h,y⟩:=Ba h;refine AM ?_;have a:=k.rG H;refine B1 1 Z<|Ag (AX (e.mono a) (Ao k))<|Ag (AT (f.mono a))<|A1 1 Z<|AS h ?_ ?_<;>intro aj h
 ·refine A4<|A2<|AM<|A8<|CI (Qqz 0 7 (.tail 7)) mixed V (fun az ae=>?_);have u:=k.call ae;have i:=Bd k ae;have hJ:=hcb.mono (Ac i) hJ;have a:=a.trans (Ac i);refine B9 Z (AX (m.mono a) (Ao u)) Z<|B9 Z (AX (e.mono a) (Ao u)) Z<|BJ 1 Z<|A3 h fun ak h=>PU Z Z Aag (f.mono a) ak Z fun a0 al=>B9 Z (AT al) Z<|B9 Z (YR Z Z) Z<|BJ 1 Z<|B8 (fun aw af=>?_);have ag:=u.call af;have j:=Bd u af;have hJ:=hcb.mono (Ac j) hJ;refine Al<|XR<|Nj (FX (CP (FX (J3 (CP J2)))))<|Ar 1 Z<|J5<|Nj (FX (CP (FX (J3 (CP J2))))) ?_;have a:=a.trans (Ac j);refine Ag (AX (e.mono a) (Ao ag))<|J5<|Nj (FX (CP (FX (J3 (CP J2)))))<|Ar 1 Z<|J5<|Nj (FX (CP (FX (J3 (CP J2))))) ?_
  refine Ar 1 Z<|J5<|Nj (FX (CP (FX (J3 (CP J2)))))<|Ar 1 Z<|J5<|Nj (FX (CP (FX (J3 (CP J2)))))<|A3 h fun am h=>Ag (AA am)<|J5<|Nj (FX (CP (FX (J3 (CP J2)))))<|Ar 1 Z<|J5<|Nj (FX (CP (FX (J3 (CP J2)))))<|Ar 1 Z<|J5<|Nj (FX (CP (FX (J3 (CP J2)))))<|A3 h fun an h=>Ag (AA an)<|J5<|Nj (FX (CP (FX (J3 (CP J2)))))<|A3 h fun ao h=>Uq (f.mono a) ao fun a1 ap=>J5<|Av h fun ai aq h=>?_;refine Us (hcb.ok (O:=(Ha [] O)) (R:=RJ23) (x:=((p.drop b.toNat).take ((b+(min t ((p.drop b.toNat).length:Int))).toNat - b.toNat))) ag ap hJ aq) ?_;rintro ah ⟨R38,o,g,ar⟩;replace o:AW c (Ha [] (Ha O R38)) ah:=o;replace g:Le (fz aw (Ha [] (Ha O RJ23))) (fz ah (Ha [] (Ha O R38))):=g;replace hJ:J ai.1 R38 (gz H c ah (Ha [] (Ha O R38))):=ar
  refine Nj (FX (CP (FX (J3 (CP J2)))))<|Ar 1 Z<|J5<|Ua<|Bi h ?_ ?_<;>intro au h
  ·refine Au<|Ay<|AE<|BM ?_;have h:=BW.out h y;refine Ay ?_
   cases h
   refine Wn ?_;have hT:=hT.trans (i.trans (j.trans g));exact⟨Z,R38,o,hT,hJ⟩
  refine A4<|A9<|A2<|Az<|Ar 1 Z ?_;have a:=a.trans (Ac g);refine Ag (AX (m.mono a) (Ao o))<|A3 h fun av h=>Ag (AA av)<|Ar 1 Z<|AP ?_;have h:=BW.again h y;have hT:=hT.trans (i.trans (j.trans g));refine AN (_,_,_,_) ⟨o,(e.mono a),(f.mono a),(m.mono a),hT,hJ,h⟩
 refine Bq<|AK<|AF ?_;have h:=BW.out h y;refine Bj ?_
 cases h
 refine Et ⟨Z,RJ23,k,hT,hJ⟩
theorem KP{σ:Type}{a:World}{H:PH}(hH:Le H (hp a)){l:Nat}{J:σ->List BN->PH->Prop}{step:σ->Aae->Option (σ×Bool)}(hcb:Yc prog a H l .byte J step)(n:Nat):∀{w:World}{O R:List BN}{s:σ}{f:Aae}{g:Int}{b:Value}{pc0:Addr}{pc1:Addr} (hL:AW a (Ha O R) w) (c:AL .byte (gz H a w (Ha O R)) b f) (d:CJ (gz H a w (Ha O R)) pc0 [b]) (e:CJ (gz H a w (Ha O R)) pc1 [No g]) (hJ:J s R (gz H a w (Ha O R))) {r:σ} (h:Ee step n f g s=some r),Ok prog 143 [.func (.yield l) #[] #[],.pointer (some pc0),.pointer (some pc1)] w (fun v w'=>v=.tuple #[]/\∃R':List BN,AW a (Ha O R') w'/\Le (fz w (Ha O R)) (fz w' (Ha O R'))/\J r R' (gz H a w' (Ha O R'))):=by
 induction n with
 | zero=>intros;rename_i h;cases h
 | succ n ih=>exact fun {_}{_}{_}{_}{_}{_}{_}{_}{_} hL c d e hJ {_} h=>JJ hH hcb (self:=Ee step n) ih hL c d e hJ h
theorem FH{σ:Type}{a:World}{H:PH}(hH:Le H (hp a)){l:Nat}{J:σ->List BN->PH->Prop}{step:σ->Aae->Option (σ×Bool)}(hcb:Yc prog a H l .byte J step){w:World}{O R:List BN}{s:σ}{f:Aae}{g:Int}{b:Value}{pc0 pc1:Addr}(hL:AW a (Ha O R) w)(c:AL .byte (gz H a w (Ha O R)) b f)(d:CJ (gz H a w (Ha O R)) pc0 [b])(e:CJ (gz H a w (Ha O R)) pc1 [No g])(hJ:J s R (gz H a w (Ha O R))){r:σ}(h:E7 step f g s=some r):Ok prog 143 [.func (.yield l) #[] #[],.pointer (some pc0),.pointer (some pc1)] w (fun v w'=>v=.tuple #[]/\∃R':List BN,AW a (Ha O R') w'/\Le (fz w (Ha O R)) (fz w' (Ha O R'))/\J r R' (gz H a w' (Ha O R'))):=KP hH hcb 1000 hL c d e hJ h
def ER:Option Int:=
 some ((-1))
def BY(a0:AaG)(a1:UInt8×UInt8×UInt8):Int->Option ((Int)⊕(Int)):=fun a=>
 if a<(a0.length:Int)then Bb (0<=a/\a<(a0.length:Int)) (if(a1.1.toNat:Int)=(((a0.getD a.toNat Qq1).1).toNat:Int)/\(a1.2.1.toNat:Int)=(((a0.getD a.toNat Qq1).2.1).toNat:Int)/\(a1.2.2.toNat:Int)=(((a0.getD a.toNat Qq1).2.2).toNat:Int)then Qzq Sum.inr (some a)else Bb (BH (a+1)) (some (Sum.inl (a+1))))else Qzq Sum.inr ER
def C6(a0:AaG)(a1:UInt8×UInt8×UInt8)(s:Int):Option Int:=Go.L.run (BY a0 a1) s
def FI(a0:AaG)(a1:UInt8×UInt8×UInt8):Option Int:=
 (C6 a0 a1) (0:Int)
section
variable(w:World)(H:PH)(hH:Le H (hp w)) include hH
theorem K8{a0:AaG}{a1:UInt8×UInt8×UInt8}{b:Value}(e:AL AaL H b a0){r:Int}(h:FI a0 a1=some r):
  Qqv 139 [b,.agg #[.int .u8 (a1.1.toNat:Int),.int .u8 (a1.2.1.toNat:Int),.int .u8 (a1.2.2.toNat:Int)]] w (fun v w'=>v=No r):=by
 refine AG 19 [(0,b),(1,.agg #[.int .u8 (a1.1.toNat:Int),.int .u8 (a1.2.1.toNat:Int),.int .u8 (a1.2.2.toNat:Int)])] func139 Z fun hL=>Aq<|Cj (t:=144) Z Z hL fun w1 k y z _=>A1 1 Z<|Bm Unit (fun(_:Unit)=>[]) (fun(_:Unit) wr=>AW w [.box k [.int .u8 (a1.1.toNat:Int),.int .u8 (a1.2.1.toNat:Int),.int .u8 (a1.2.2.toNat:Int)] 144] wr/\ER=some r) ?_ ?_
 ·refine B1 1 Z<|Ag (AT e)<|A1 1 Z<|A8 ?_;obtain⟨f,h⟩:=Bc h;refine Bz (Int×Nat) (fun⟨a,n⟩=>[(0,b),(3,(Aac k)),(7,No (a0.length:Int)),(8,No a)]) (fun⟨a,n⟩ wr=>AW w [.box k [.int .u8 (a1.1.toNat:Int),.int .u8 (a1.2.1.toNat:Int),.int .u8 (a1.2.2.toNat:Int)] 144] wr/\FW (BY a0 a1) n a=some r) (fun⟨a,n⟩=>n) (0,f) Z ⟨y,h⟩ ?_;rintro⟨a,nn49⟩ aa ⟨g,h⟩;obtain⟨f,ac,rfl,h,c⟩:=Ba h;refine AI 1 Z<|AM<|AS h ?_ ?_<;>intro l h
  ·refine A4<|A2<|AM<|A8<|AI 2 Z<|CI (Qqz 0 6 (.tail 6)) mixed V (fun ad m=>?_);have d:=g.call m;refine B9 Z (Ax 0 Z Lp.e d Z) Z<|BJ 2 Z<|A3 h fun i h=>Fl Z Z Z AaB e a.toNat (CT i) (AD i) Z ?_;rintro ae _ ⟨_,_,rfl,rfl,⟨_,_,rfl,rfl,rfl⟩⟩ o;refine B9 Z (Ce o (hH.trans d.arg)) Z<|B9 Z (Xv Y6 (Zu _ _ _ _ _ _)) Z<|B8 (fun af p=>?_);have j:=d.call p;refine Al<|AS h ?_ ?_<;>intro s h
   ·refine AI 2 Z<|Au<|Ay<|AE<|BM ?_;have h:=BW.out h c;refine Ay<|Bp ?_
    cases h
    refine Aj Z ⟨j.ext,Z⟩
   refine A4<|A9<|A2<|Az<|A3 h fun u h=>Ag (AA u)<|Ar 1 Z<|AP ?_;have h:=BW.again h c;refine AN (_,_) ⟨j,h⟩
  refine Bq<|AK<|AF ?_;have h:=BW.out h c;refine Bj<|AH () ⟨g,h⟩
 rintro _ ab ⟨x,h⟩;refine AI 1 Z<|Au ?_
 cases h
 refine Aj Z ⟨x.ext,Z⟩
def C7(a0:AaG)(a1:UInt8×UInt8×UInt8):Option Bool:=
 Qq8 (FI a0 a1) (fun a=>some (decide (0<=a)))
theorem JH{a0:AaG}{a1:UInt8×UInt8×UInt8}{a:Value}(c:AL AaL H a a0){r:Bool}(h:C7 a0 a1=some r):
  Qqv 98 [a,.agg #[.int .u8 (a1.1.toNat:Int),.int .u8 (a1.2.1.toNat:Int),.int .u8 (a1.2.2.toNat:Int)]] w (fun v w'=>v=.bool r):=by
 refine AG 9 [(0,a),(1,.agg #[.int .u8 (a1.1.toNat:Int),.int .u8 (a1.2.1.toNat:Int),.int .u8 (a1.2.2.toNat:Int)])] func98 Z fun hL=>Aq<|Cj (t:=144) Z Z hL fun j k b f _=>A1 1 Z<|B1 1 Z<|Ag (Ax 0 Z Lp.e b Z)<|Av h fun l d h=>A6 b (K8 (a1:=a1) _ _ (Ao b) (c.mono  Ai) d) fun m i e g=>A1 2 Z<|Au ?_
 cases h
 refine Aj Z ⟨e.ext,Z⟩
def Hk(a0:Aae)(a:AaG):Option (AaG×Aae×Bool):=
 Bb (BH (3 * ((a0.getD ((0:Int).toNat) Qq1).toNat:Int))) (Bb (0<=(3 * ((a0.getD ((0:Int).toNat) Qq1).toNat:Int))/\(3 * ((a0.getD ((0:Int).toNat) Qq1).toNat:Int))<=((a0.drop (1:Int).toNat).length:Int)) (some (a,((a0.drop (1:Int).toNat).drop (3 * ((a0.getD ((0:Int).toNat) Qq1).toNat:Int)).toNat),true)))
def DD(a0:Aae):AaG×Int->Option ((AaG×Int)⊕(AaG×Aae×Bool)):=fun⟨b,a⟩=>
 if a<((a0.getD ((0:Int).toNat) Qq1).toNat:Int)then Bb (BH (3 * a)) (Bb (BH (a+1)) (Bb (BH (3 * (a+1))) (Bb (0<=(3 * a)/\(3 * a)<=(3 * (a+1))/\(3 * (a+1))<=((a0.drop (1:Int).toNat).length:Int)) (Bb (3<=((((a0.drop (1:Int).toNat).drop (3 * a).toNat).take ((3 * (a+1)).toNat - (3 * a).toNat)).length:Int)) (Qq8 (C7 b (((((a0.drop (1:Int).toNat).drop (3 * a).toNat).take ((3 * (a+1)).toNat - (3 * a).toNat)).getD 0 Qq1),((((a0.drop (1:Int).toNat).drop (3 * a).toNat).take ((3 * (a+1)).toNat - (3 * a).toNat)).getD 1 Qq1),((((a0.drop (1:Int).toNat).drop (3 * a).toNat).take ((3 * (a+1)).toNat - (3 * a).toNat)).getD 2 Qq1))) (fun c=>if c then Qzq Sum.inr (some ([],[],false))else Bb (Go.E.Gx 3 (b.length+([(((((a0.drop (1:Int).toNat).drop (3 * a).toNat).take ((3 * (a+1)).toNat - (3 * a).toNat)).getD 0 Qq1),((((a0.drop (1:Int).toNat).drop (3 * a).toNat).take ((3 * (a+1)).toNat - (3 * a).toNat)).getD 1 Qq1),((((a0.drop (1:Int).toNat).drop (3 * a).toNat).take ((3 * (a+1)).toNat - (3 * a).toNat)).getD 2 Qq1))]).length)) (Bb (BH (a+1)) (some (Sum.inl ((b++[(((((a0.drop (1:Int).toNat).drop (3 * a).toNat).take ((3 * (a+1)).toNat - (3 * a).toNat)).getD 0 Qq1),((((a0.drop (1:Int).toNat).drop (3 * a).toNat).take ((3 * (a+1)).toNat - (3 * a).toNat)).getD 1 Qq1),((((a0.drop (1:Int).toNat).drop (3 * a).toNat).take ((3 * (a+1)).toNat - (3 * a).toNat)).getD 2 Qq1))]),(a+1)))))))))))else Qzq Sum.inr ((Hk a0) b)
def Ef(a0:Aae)(s:AaG×Int):Option (AaG×Aae×Bool):=Go.L.run (DD a0) s
def Hl(a0:Aae):Option (AaG×Aae×Bool):=
 Bb (0<=(0:Int)/\(0:Int)<(a0.length:Int)) (Bb (0<=(1:Int)/\(1:Int)<=(a0.length:Int)) (Bb (BH (3 * ((a0.getD ((0:Int).toNat) Qq1).toNat:Int))) (if((a0.drop (1:Int).toNat).length:Int)<(3 * ((a0.getD ((0:Int).toNat) Qq1).toNat:Int))then some ([],[],false)else(Ef a0) (([]:AaG),0))))
def Eg(a0:Aae)(a:Int):Option (AaG×Aae×Bool):=
 if(a0.length:Int)=0 then some ([],[],false)else Bb (0<=(0:Int)/\(0:Int)<(a0.length:Int)) (if((a0.getD ((0:Int).toNat) Qq1).toNat:Int)=0 then some ([],[],false)else Bb (0<=(0:Int)/\(0:Int)<(a0.length:Int)) (if a<((a0.getD ((0:Int).toNat) Qq1).toNat:Int)then some ([],[],false)else(Hl a0)))
def G6(a0:Aae)(a1:Int):Option (AaG×Aae×Bool):=
 if a1=1 then(Eg a0) (16:Int)else(Eg a0) (2:Int)
theorem ML{a0:Aae}{a1:Int}{k:Value}(o:AL .byte H k a0){r:AaG×Aae×Bool}(h:G6 a0 a1=some r):
  Qqv 68 [k,No a1] w (fun v w'=>∃u0 u1,v=.tuple #[u0,u1,.bool r.2.2]/\Cv 144 AaL H w w' u0 (r.1)/\AL .byte (un H (nw w w')) u1 (r.2.1)):=by
 refine AG 68 [(0,k),(1,No a1)] func68 Z fun hL=>AI 3 Z<|AI 1 Z<|Bm Int (fun s=>[(0,k),(7,No s)]) (fun s wr=>AW w [] wr/\(Eg a0) s=some r) ?_ ?_
 ·refine AI 2 Z<|AS h ?_ ?_<;>intro bw h
  ·refine Az<|Ar 1 Z<|AP<|AH _ ⟨hL,h⟩
  refine A4<|AH _ ⟨hL,h⟩
 rintro s cj ⟨p,h⟩;refine Bm Unit (fun(_:Unit)=>[(0,k)]) (fun(_:Unit) wr=>AW w [] wr/\(Hl a0)=some r) ?_ ?_
 ·refine B1 1 Z<|Ag (AT o)<|Ar 2 Z<|AQ 17 h ?_ ?_<;>intro f h
  ·iterate 4 refine Ab f ?_
   refine Ag (Ak f Z)<|Ar 1 Z ?_
   iterate 6 refine Ab Z ?_
   refine Ag (Ak Z Z)<|Al<|Fy<|AI 3 Z<|Au<|Bp ?_
   cases h
   refine Aj Z ⟨p.ext,_,_,Z,Cv.nil,(AL.nil _ _)⟩
  refine Aa f<|Ag (Ad Z)<|Aa f<|A3 h fun ak h=>Bf o ((0:Int).toNat) (CT ak) (AD ak) ?_;rintro ck _ rfl bk;refine Aa f<|Ag (AX bk (hH.trans p.arg))<|Aa f<|Ag (Ad Z)<|Ag (Am f Z)<|Ar 1 Z<|AQ 23 h ?_ ?_<;>intro c h
  ·iterate 6 refine Ab c ?_
   refine Ag (Ak c Z)<|Al<|Fy<|AI 3 Z<|Au<|Bp ?_
   cases h
   refine Aj Z ⟨p.ext,_,_,Z,Cv.nil,(AL.nil _ _)⟩
  refine Aa c<|Ag (Ad Z)<|Aa c<|A3 h fun al h=>Bf o ((0:Int).toNat) (CT al) (AD al) ?_;rintro cl _ rfl bl;refine Aa c<|Ag (AX bl (hH.trans p.arg))<|Aa c<|Ag (EA (G8 _))<|Aa c<|Ag (Ad Z)<|Aa c<|Ag (Ad Z)<|Ag (Am c Z)<|Al<|AS h ?_ ?_<;>intro bm h
  ·refine AI 3 Z<|Au<|Bp ?_
   cases h
   refine Aj Z ⟨p.ext,_,_,Z,Cv.nil,(AL.nil _ _)⟩
  refine A4<|AH () ⟨p,h⟩
 rintro _ b3 ⟨ad,h⟩;refine B1 1 Z<|A3 h fun am h=>Bf o ((0:Int).toNat) (CT am) (AD am) ?_;rintro cm _ rfl bn;refine Ag (AX bn (hH.trans ad.arg))<|Ag (EA (G8 _))<|A1 1 Z<|AM<|B1 1 Z<|A3 h fun bo h=>DQ o bo fun bj ae=>A1 1 Z<|B1 1 Z<|Ag (AT ae)<|Ar 1 Z<|A3 h fun bp h=>Ag (AA bp)<|A1 1 Z<|AS h ?_ ?_<;>intro bq h
 ·refine AI 3 Z<|Au<|AE ?_
  cases h
  refine Aj Z ⟨ad.ext,_,_,Z,Cv.nil,(AL.nil _ _)⟩
 refine A4<|A2<|B1 1 Z ?_;obtain⟨br,bz,bs⟩:=CF AaL H 144 ad;refine Al<|Bm (AaG×Value×Qq5) (fun⟨ac,t,j⟩=>[(0,bj),(8,No ((a0.getD ((0:Int).toNat) Qq1).toNat:Int)),(9,t)]) (fun⟨ac,t,j⟩ wr=>DE w [.row t 144 3 (ac).length j] wr fun Oz=>A5 AaL (gz H w wr Oz) ac j/\(Hk a0) ac=some r) ?_ ?_
 ·refine AI 2 Z<|A8 ?_;obtain⟨af,h⟩:=Bc h;refine Bz (AaG×Int×Value×Qq5×Nat) (fun⟨e,a,g,d,n⟩=>[(0,bj),(8,No ((a0.getD ((0:Int).toNat) Qq1).toNat:Int)),(9,g),(42,No ((a0.getD ((0:Int).toNat) Qq1).toNat:Int)),(43,No a)]) (fun⟨e,a,g,d,n⟩ wr=>DE w [.row g 144 3 (e).length d] wr fun Oz=>A5 AaL (gz H w wr Oz) e d/\FW (DD a0) n (e,a)=some r) (fun⟨e,a,g,d,n⟩=>n) (([]:AaG),0,Aaa,[],af) Z ⟨br,bs,h⟩ ?_;rintro⟨e,a,g,d,nn125⟩ b0 ⟨u,b,h⟩;obtain⟨af,b4,rfl,h,x⟩:=Ba h;refine AI 1 Z<|AM<|AS h ?_ ?_<;>intro aw h
  ·refine A4<|A2<|AM<|A8<|AI 2 Z<|B1 2 Z<|A3 h fun ax h=>Ag (AA ax)<|Ar 1 Z<|A3 h fun ay h=>Ag (AA ay)<|A3 h fun az h=>Ag (AA az)<|A3 h fun a2 h=>UF ae a2 fun b5 a3=>A3 h fun a4 h=>Y5 a3 a4 fun b6 a5=>Ag (Ce a5 (hH.trans u.arg))<|AZ Lp.e Z u fun b7 b8 a6 an _=>A7 0 Z a6 Z fun b9 y ao=>Al<|AM<|B1 1 Z<|Ag (Ax 0 Z Lp.e y Z) ?_;refine Av h fun ca a7 h=>?_;have b:=b.mono (Ac (an.trans ao))
   refine A6 y (JH (a1:=(((((a0.drop (1:Int).toNat).drop (3 * a).toNat).take ((3 * (a+1)).toNat - (3 * a).toNat)).getD 0 Qq1),((((a0.drop (1:Int).toNat).drop (3 * a).toNat).take ((3 * (a+1)).toNat - (3 * a).toNat)).getD 1 Qq1),((((a0.drop (1:Int).toNat).drop (3 * a).toNat).take ((3 * (a+1)).toNat - (3 * a).toNat)).getD 2 Qq1))) _ _ (Le.refl _) (y.KA hH (i:=1) Z b) a7) fun cb b1 z ap=>Al<|Bi h ?_ ?_<;>intro a8 h
   ·refine AI 3 Z<|Au<|AE<|Ay<|AE<|BM ?_;have h:=BW.out h x;refine Ay<|Bp ?_
    cases h
    refine Aj Z ⟨z.ext,_,_,Z,Cv.nil,(AL.nil _ _)⟩
   refine A4<|A2<|Az<|Ar 1 Z<|Ag (Ax 0 Z Lp.e z Z)<|BV [(((((a0.drop (1:Int).toNat).drop (3 * a).toNat).take ((3 * (a+1)).toNat - (3 * a).toNat)).getD 0 Qq1),((((a0.drop (1:Int).toNat).drop (3 * a).toNat).take ((3 * (a+1)).toNat - (3 * a).toNat)).getD 1 Qq1),((((a0.drop (1:Int).toNat).drop (3 * a).toNat).take ((3 * (a+1)).toNat - (3 * a).toNat)).getD 2 Qq1))] (r:=AaL) (fun _=>WY _ _ _ _) z (.c3 ⟨_,_,Z,Z,⟨_,_,Z,Z,Z⟩⟩ .nil) fun cc cd b2 a9 aq ba=>A3 h fun bb h=>?_;have b:=b.mono (Ac (ap.trans aq))
   refine BL (r:=AaL) 1 e [(((((a0.drop (1:Int).toNat).drop (3 * a).toNat).take ((3 * (a+1)).toNat - (3 * a).toNat)).getD 0 Qq1),((((a0.drop (1:Int).toNat).drop (3 * a).toNat).take ((3 * (a+1)).toNat - (3 * a).toNat)).getD 1 Qq1),((((a0.drop (1:Int).toNat).drop (3 * a).toNat).take ((3 * (a+1)).toNat - (3 * a).toNat)).getD 2 Qq1))] Z AaB a9 Z b ba bb fun bt ce bc bd bx aa=>Ar 1 Z<|AP<|A9<|A2<|Az<|A3 h fun be h=>Ag (AA be)<|Ar 1 Z<|AP ?_;have bf:=bd.AR (i:=0) Z;have h:=BW.again h x;have aa:=aa.mono (Ac (Ah (i:=0) Z))
   refine AN (_,_,_,_,_) ⟨bf,aa,h⟩
  refine Bq<|AK<|AF ?_;have h:=BW.out h x;refine Bj<|AH (_,_,_) ⟨u,b,h⟩
 rintro⟨ac,t,j⟩ cf ⟨ar,ab,h⟩;refine CI (Qqz 0 8 (.tail 8)) mixed V (fun cg ag=>?_);have ah:=ar.call ag;have au:=Bd ar ag;refine BJ 3 Z<|A3 h fun bg h=>B9 Z (AA bg) Z<|A3 h fun bh h=>PU Z Z Aag ae bh Z fun ch bi=>BJ 3 Z<|B8 (fun ci ai=>?_);have aj:=ah.call ai;have av:=Bd ah ai;refine Al<|Au ?_
 cases h
 refine Aj Z ?_;have ab:=ab.mono (Ac (au.trans av));exact⟨aj.ext,_,_,Z,(aj.Hn hH (i:=0) Z ab),(bi.mono (GP hH))⟩
def KQ(a:Aae):Option Aae:=
 some a
def I5(a0:AaG):Aae×Int->Option ((Aae×Int)⊕(Aae)):=fun⟨b,a⟩=>
 if a<(a0.length:Int)then Bb (0<=a/\a<(a0.length:Int)) (Bb (Go.E.Gx 1 (b.length+([(a0.getD a.toNat Qq1).1,(a0.getD a.toNat Qq1).2.1,(a0.getD a.toNat Qq1).2.2]).length)) (Bb (BH (a+1)) (some (Sum.inl ((b++[(a0.getD a.toNat Qq1).1,(a0.getD a.toNat Qq1).2.1,(a0.getD a.toNat Qq1).2.2]),(a+1))))))else Qzq Sum.inr (KQ b)
def Hu(a0:AaG)(s:Aae×Int):Option Aae:=Go.L.run (I5 a0) s
def MM(a0:AaG):Option Aae:=
 (Hu a0) ([(Go.L.u8 (a0.length:Int))],0)
theorem MU{a0:AaG}{g:Value}(o:AL AaL H g a0){r:Aae}(h:MM a0=some r):
  Qqv 72 [g] w (fun v w'=>∃u0,v=u0/\Cv 5 .byte H w w' u0 r):=by
 refine AG 21 [(0,g)] func72 Z fun hL=>AI 1 Z<|B1 1 Z<|Ag (AT o)<|Ag (EA (Gm _))<|NU [(Go.L.u8 (a0.length:Int))] (r:=.byte) (fun _=>Kh _ _) (Ch 1) hH hL (.c1 Z .nil) fun v1 w1 ao ap aw aq=>A1 1 Z<|Bm (Aae×Value×Qq5) (fun⟨k,j,e⟩=>[(3,j)]) (fun⟨k,j,e⟩ wr=>DE w [.row j 5 1 (k).length e] wr fun Oz=>A5 .byte (gz H w wr Oz) k e/\KQ k=some r) ?_ ?_
 ·refine B1 1 Z<|Ag (AT o)<|A1 1 Z<|A8 ?_;obtain⟨q,h⟩:=Bc h;refine Bz (Aae×Int×Value×Qq5×Nat) (fun⟨c,a,d,b,n⟩=>[(3,d),(10,g),(11,No (a0.length:Int)),(12,No a)]) (fun⟨c,a,d,b,n⟩ wr=>DE w [.row d 5 1 (c).length b] wr fun Oz=>A5 .byte (gz H w wr Oz) c b/\FW (I5 a0) n (c,a)=some r) (fun⟨c,a,d,b,n⟩=>n) ([(Go.L.u8 (a0.length:Int))],0,v1,ao,q) Z ⟨ap,aq,h⟩ ?_;rintro⟨c,a,d,b,nn49⟩ ax ⟨p,f,h⟩;obtain⟨q,az,rfl,h,s⟩:=Ba h;refine AI 1 Z<|AM<|AS h ?_ ?_<;>intro ab h
  ·refine A4<|A2<|AM<|A8<|Aq<|A3 h fun t h=>Bf o a.toNat (CT t) (AD t) ?_;rintro a1 _ ⟨_,_,rfl,rfl,⟨_,_,rfl,rfl,rfl⟩⟩ ac;refine Ag (Ce ac (hH.trans p.arg))<|AZ Lp.e Z p fun a2 a3 ad x _=>A7 0 Z ad Z fun a4 ae y=>Al<|Az<|Ar 1 Z ?_;obtain⟨af,z,ag⟩:=N9 (H:=H) 0 ae Z;refine VC ag fun a5 ah=>A3 h fun ai h=>?_;have f:=f.mono (Ac (x.trans (y.trans z)));refine BL (r:=.byte) 0 c [(a0.getD a.toNat Qq1).1,(a0.getD a.toNat Qq1).2.1,(a0.getD a.toNat Qq1).2.2] Z Aag af Z f ah ai fun ar a6 aj ak au al=>Ar 1 Z<|AP<|A9<|A2<|Az<|A3 h fun am h=>Ag (AA am)<|Ar 1 Z<|AP ?_;have h:=BW.again h s;refine AN (_,_,_,_,_) ⟨ak,al,h⟩
  refine Bq<|AK<|AF ?_;have h:=BW.out h s;refine Bj<|AH (_,_,_) ⟨p,f,h⟩
 rintro⟨k,j,e⟩ ay ⟨u,aa,h⟩;refine AI 2 Z<|Au ?_
 cases h
 refine Aj Z ⟨u.ext,_,Z,(u.Hn hH (i:=0) Z aa)⟩
def KR(a0 a1:Int):Option Qq6:=
 Bb ((0<=a0/\a0<2 ^ 64)/\(0<=(4294967295:Int)/\(4294967295:Int)<2 ^ 64)) (Bb ((0<=a1/\a1<2 ^ 64)/\(0<=(4294967295:Int)/\(4294967295:Int)<2 ^ 64)) (Bb ((0<=(IntKind.u64.wrap ((IntKind.u64.wrap ((a0 / 4294967296) * ((a1.toNat &&& (4294967295:Int).toNat:Nat):Int)))+((IntKind.u64.wrap (((a0.toNat &&& (4294967295:Int).toNat:Nat):Int) * ((a1.toNat &&& (4294967295:Int).toNat:Nat):Int))) / 4294967296)))/\(IntKind.u64.wrap ((IntKind.u64.wrap ((a0 / 4294967296) * ((a1.toNat &&& (4294967295:Int).toNat:Nat):Int)))+((IntKind.u64.wrap (((a0.toNat &&& (4294967295:Int).toNat:Nat):Int) * ((a1.toNat &&& (4294967295:Int).toNat:Nat):Int))) / 4294967296)))<2 ^ 64)/\(0<=(4294967295:Int)/\(4294967295:Int)<2 ^ 64)) (some ((IntKind.u64.wrap ((IntKind.u64.wrap ((IntKind.u64.wrap ((a0 / 4294967296) * (a1 / 4294967296)))+((IntKind.u64.wrap ((IntKind.u64.wrap ((a0 / 4294967296) * ((a1.toNat &&& (4294967295:Int).toNat:Nat):Int)))+((IntKind.u64.wrap (((a0.toNat &&& (4294967295:Int).toNat:Nat):Int) * ((a1.toNat &&& (4294967295:Int).toNat:Nat):Int))) / 4294967296))) / 4294967296)))+((IntKind.u64.wrap ((((IntKind.u64.wrap ((IntKind.u64.wrap ((a0 / 4294967296) * ((a1.toNat &&& (4294967295:Int).toNat:Nat):Int)))+((IntKind.u64.wrap (((a0.toNat &&& (4294967295:Int).toNat:Nat):Int) * ((a1.toNat &&& (4294967295:Int).toNat:Nat):Int))) / 4294967296))).toNat &&& (4294967295:Int).toNat:Nat):Int)+(IntKind.u64.wrap (((a0.toNat &&& (4294967295:Int).toNat:Nat):Int) * (a1 / 4294967296))))) / 4294967296))),(IntKind.u64.wrap (a0 * a1))))))
theorem Ol{a0 a1:Int}{r:Int×Int}(h:KR a0 a1=some r):
  Qqv 197 [.int .u64 a0,.int .u64 a1] w (fun v w'=>v=.tuple #[.int .u64 r.1,.int .u64 r.2]):=by
 refine AG 51 [(0,.int .u64 a0),(1,.int .u64 a1)] func197 Z fun hL=>AI 2 Z<|B1 1 Z<|A3 h fun a h=>Ag (Ry Z a)<|A1 1 Z<|B1 1 Z<|Ag (Ot (c:=32) (m:=4294967296) Z Z Z Qqb)<|A1 1 Z<|B1 1 Z<|A3 h fun b h=>Ag (Ry Z b)<|A1 1 Z<|B1 1 Z<|Ag (Ot (c:=32) (m:=4294967296) Z Z Z Qqb)<|A1 1 Z<|B1 2 Z<|Ag (Q7 Z Z Z Z)<|A1 1 Z<|B1 2 Z<|Ag (Q7 Z Z Z Z)<|Ar 1 Z<|Ag (Ot (c:=32) (m:=4294967296) Z Z Z Qqb)<|Ag (Q7 Z Z Z Z) ?_;refine A1 1 Z<|B1 1 Z<|A3 h fun d h=>Ag (Ry Z d)<|A1 1 Z<|B1 1 Z<|Ag (Ot (c:=32) (m:=4294967296) Z Z Z Qqb)<|A1 1 Z<|B1 3 Z ?_
 iterate 2 refine Ag (Q7 Z Z Z Z) ?_
 refine A1 1 Z<|B1 2 Z<|Ag (Q7 Z Z Z Z)<|Ar 1 Z<|Ag (Q7 Z Z Z Z)<|Ar 1 Z<|Ag (Ot (c:=32) (m:=4294967296) Z Z Z Qqb)<|Ag (Q7 Z Z Z Z)<|A1 1 Z<|B1 2 Z<|Ag (Q7 Z Z Z Z)<|A1 1 Z<|Au ?_
 cases h
 refine Aj Z ⟨hL.ext,Z⟩
def Mf(a0 a1:Int):Option Qq6:=
 Qq8 (KR a0 a1) (fun a=>some (a.1,a.2))
theorem Pa{a0 a1:Int}{r:Int×Int}(h:Mf a0 a1=some r):
  Qqv 180 [.int .u64 a0,.int .u64 a1] w (fun v w'=>v=.tuple #[.int .u64 r.1,.int .u64 r.2]):=by
 refine AG 30 [(0,.int .u64 a0),(1,.int .u64 a1)] func180 Z fun hL=>AI 2 Z<|AM<|Gw<|A4<|A2<|B1 2 Z<|Av h fun e a h=>A6 hL (Ol _ _ (Ao hL) a) fun f d b c=>A1 5 Z<|AI 4 Z<|Au ?_
 cases h
 refine Aj Z ⟨b.ext,Z⟩
def FJ(a:Aae):Option Aae:=
 some a
def DL:Aae×Int->Option ((Aae×Int)⊕(Aae)):=fun⟨b,a⟩=>
 if a<(b.length:Int)then Bb (0<=a/\a<(b.length:Int)) (Bb (0<=a/\a<(b.length:Int)) (Bb (0<a/\a<(b.length:Int)) (Bb (BH (a+(min ((a.toNat:Nat):Int) ((b.length:Int) - ((a.toNat:Nat):Int))))) (some (Sum.inl ((Mw b a.toNat),(a+(min ((a.toNat:Nat):Int) ((b.length:Int) - ((a.toNat:Nat):Int))))))))))else Qzq Sum.inr (FJ b)
def Eh(s:Aae×Int):Option Aae:=Go.L.run DL s
def FK(a0:Aae)(a:Int×Int):Option Aae:=
 Bb (0<=(IntKind.i64.wrap a.2)/\((1:Nat):Int) * (IntKind.i64.wrap a.2)<=281474976710656/\(IntKind.i64.wrap a.2)<=9223372036854775807) (Bb (0<((Qzw (IntKind.i64.wrap a.2).toNat (0:UInt8)).length:Int)/\0<(a0.length:Int)) (Eh ((Q0 (Qzw (IntKind.i64.wrap a.2).toNat (0:UInt8)) a0),(min ((Qzw (IntKind.i64.wrap a.2).toNat (0:UInt8)).length:Int) (a0.length:Int)))))
def FL(a0:Aae)(a1:Int):Option Aae:=
 Qq8 (Mf (IntKind.u64.wrap (a0.length:Int)) (IntKind.u64.wrap a1)) (fun a=>if(0<a.1)\/(9223372036854775807<a.2)then none else(FK a0 a))
def EY(a0:Aae)(a1:Int):Option Aae:=
 if a1<0 then none else(FL a0 a1)
theorem L7{a0:Aae}{a1:Int}{o:Value}(ag:AL .byte H o a0){r:Aae}(h:EY a0 a1=some r):
  Qqv 141 [o,No a1] w (fun v w'=>∃u0,v=u0/\Cv 5 .byte H w w' u0 r):=by
 refine AG 48 [(0,o),(1,No a1)] func141 Z fun hL=>AI 1 Z<|Bm Unit (fun(_:Unit)=>[(0,o),(1,No a1)]) (fun(_:Unit) wr=>AW w [] wr/\(FL a0 a1)=some r) ?_ ?_
 ·refine AI 2 Z<|AS h ?_ ?_<;>intro bb h
  ·refine Az ?_
   cases h
  refine A4<|AH () ⟨hL,h⟩
 rintro _ bt ⟨aw,h⟩;refine B1 1 Z<|Ag (AT ag)<|Ag (EA Z)<|Ar 1 Z<|Ag (EA Z)<|Av h fun y ax h=>A6 aw (Pa _ _ (Ao aw) ax) fun bu bg ay bc=>A1 5 Z<|Bm Unit (fun(_:Unit)=>[(0,o),(6,.int .u64 y.2)]) (fun(_:Unit) wr=>AW w [] wr/\(FK a0 y)=some r) ?_ ?_
 ·refine B1 3 Z<|Wb 2 2 Z Z Z Z Z Z<|Al<|AS h ?_ ?_<;>intro az h
  ·refine Az ?_
   cases h
  refine A4<|AH () ⟨ay,h⟩
 rintro _ bh ⟨a2,h⟩;refine B1 1 Z<|Ag (EA Z)<|A3 h fun a3 h=>Rt (r:=.byte) (z:=(0:UInt8)) Aag (fun _=>Z) hH a2 a3 fun aa bv bi a4 bd a5=>A1 1 Z<|B1 2 Z<|A3 h fun a6 h=>Xa (l:=(Qzw (IntKind.i64.wrap y.2).toNat (0:UInt8))) (yy:=a0) 0 Z Aag hH a4 Z a5 (ag.mono  Ai) a6 fun bw a7 a8 be a9=>A1 1 Z<|Bm (Aae×Qq5) (fun⟨ab,k⟩=>[(7,aa)]) (fun⟨ab,k⟩ wr=>DE w [.row aa 5 1 (ab).length k] wr fun Oz=>A5 .byte (gz H w wr Oz) ab k/\FJ ab=some r) ?_ ?_
 ·refine A8 ?_;obtain⟨p,h⟩:=Bc h;refine Bz (Aae×Int×Qq5×Nat) (fun⟨b,a,f,n⟩=>[(7,aa),(8,No a)]) (fun⟨b,a,f,n⟩ wr=>DE w [.row aa 5 1 (b).length f] wr fun Oz=>A5 .byte (gz H w wr Oz) b f/\FW DL n (b,a)=some r) (fun⟨b,a,f,n⟩=>n) ((Q0 (Qzw (IntKind.i64.wrap y.2).toNat (0:UInt8)) a0),(min ((Qzw (IntKind.i64.wrap y.2).toNat (0:UInt8)).length:Int) (a0.length:Int)),a7,p) Z ⟨a8,a9,h⟩ ?_;rintro⟨b,a,f,nn107⟩ bf ⟨m,g,h⟩;obtain⟨p,bj,rfl,h,q⟩:=Ba h;refine AM<|B1 2 Z<|Ag (Ng 0 Z m Z)<|A1 1 Z<|AS h ?_ ?_<;>intro ak h
  ·refine A4<|A2<|A8<|Ek (D6 (LG (D6 (IB Gy)))) (fun z0 z=>Le (gz H w z0 [.row aa 5 1 (b).length f]) (hp z)) mixed Z (fun e bl ad=>?_);have d:=m.call ad;have ac:=Bd m ad;have c:=d.rG H;refine Gz (c.trans (Ao d)) fun kI114=>Aw 0 e kI114 Z (fun _ _=>Ad Z) Z<|Aw 1 e kI114 Z (fun _ _=>Ad Z) Z<|Aw 2 e kI114 Z (fun _ _=>Ad Z) Z<|Aw 4 e kI114 Z (fun _ _=>Ad Z) Z<|Aw 5 e kI114 Z (fun _ _=>Ad Z) Z<|Q3 3 6 Z Z ?_ ?_
   ·refine A3 h fun s h=>VG (l:=b) 0 Z Aag d Z s fun bm al=>AB (c.trans (Ao d)) fun kI117=>CK 6 Z<|A3 h fun t h=>VH (l:=b) 0 Z Aag d Z t fun bn am=>AB (c.trans (Ao d)) fun kI120=>CK 7 Z<|A3 h fun u h=>?_;have g:=g.mono (Ac ac);refine TI (l:=b) 0 Aag hH d Z (g.mono c) al am (VF u) ?_;intro bo an ae ah ao;have c:=c.trans (Ac ah);refine AB (c.trans (Ao ae)) fun kI123=>A3 h fun x h=>Aw 8 e kI123 Z (fun _ _=>AA x) Z<|Aw 9 e kI123 Z (fun _ _=>Ad Z) Z<|Cq<|A9 ?_;have h:=BW.again h q;refine AN (_,_,_,_) ⟨ae,ao,h⟩
   refine A3 h fun s h=>A3 h fun t h=>A3 h fun u h=>A3 h fun x h=>VH (l:=b) 0 Z Aag d Z t fun bp ap=>AB (c.trans (Ao d)) fun kI126=>CK 3 Z<|VG (l:=b) 0 Z Aag d Z s fun bq aq=>AB (c.trans (Ao d)) fun kI128=>CK 7 Z ?_;have g:=g.mono (Ac ac);refine TI (l:=b) 0 Aag hH d Z (g.mono c) aq ap (VF u) ?_;intro br ar af ai au;have c:=c.trans (Ac ai);refine AB (c.trans (Ao af)) fun kI130=>Aw 8 e kI130 Z (fun _ _=>AA x) Z<|Aw 9 e kI130 Z (fun _ _=>Ad Z) Z<|Cq<|A9 ?_;have h:=BW.again h q;refine AN (_,_,_,_) ⟨af,au,h⟩
  refine Bq<|AK<|AF ?_;have h:=BW.out h q;refine Bj<|AH (_,_) ⟨m,g,h⟩
 rintro⟨ab,k⟩ bs ⟨aj,av,h⟩;refine AI 2 Z<|Au ?_
 cases h
 refine Aj Z ⟨aj.ext,_,Z,(aj.Hn hH (i:=0) Z av)⟩
def EZ(b:Aae)(a:Aae)(c:Bool):Option ((Aae×Aae)⊕(Aae×Bool)):=
 if c then Bb (0<=(1:Int)/\(1:Int)<=((a.drop (1:Int).toNat).length:Int)) (Bb (BH (((a.getD ((0:Int).toNat) Qq1).toNat:Int) - 126)) (Qq8 (EY ((a.drop (1:Int).toNat).take (1:Int).toNat) (((a.getD ((0:Int).toNat) Qq1).toNat:Int) - 126)) (fun d=>Bb (Go.E.Gx 1 (b.length+d.length)) (Bb (0<=(1:Int)/\(1:Int)<=((a.drop (1:Int).toNat).length:Int)) (some (Sum.inl ((b++d),((a.drop (1:Int).toNat).drop (1:Int).toNat))))))))else(if((a.getD ((0:Int).toNat) Qq1).toNat:Int)<128 then if((a.getD ((0:Int).toNat) Qq1).toNat:Int)<((a.drop (1:Int).toNat).length:Int)then Bb (BH (((a.getD ((0:Int).toNat) Qq1).toNat:Int)+1)) (Bb (0<=(((a.getD ((0:Int).toNat) Qq1).toNat:Int)+1)/\(((a.getD ((0:Int).toNat) Qq1).toNat:Int)+1)<=((a.drop (1:Int).toNat).length:Int)) (Bb (Go.E.Gx 1 (b.length+((a.drop (1:Int).toNat).take (((a.getD ((0:Int).toNat) Qq1).toNat:Int)+1).toNat).length)) (Bb (BH (((a.getD ((0:Int).toNat) Qq1).toNat:Int)+1)) (Bb (0<=(((a.getD ((0:Int).toNat) Qq1).toNat:Int)+1)/\(((a.getD ((0:Int).toNat) Qq1).toNat:Int)+1)<=((a.drop (1:Int).toNat).length:Int)) (some (Sum.inl ((b++((a.drop (1:Int).toNat).take (((a.getD ((0:Int).toNat) Qq1).toNat:Int)+1).toNat)),((a.drop (1:Int).toNat).drop (((a.getD ((0:Int).toNat) Qq1).toNat:Int)+1).toNat))))))))else Qzq Sum.inr (some ([],false))else Qzq Sum.inr (some ([],false)))
def JI(b:Aae)(a:Aae):Option ((Aae×Aae)⊕(Aae×Bool)):=
 Bb (0<=(0:Int)/\(0:Int)<(a.length:Int)) (Bb (0<=(1:Int)/\(1:Int)<=(a.length:Int)) (if 129<=((a.getD ((0:Int).toNat) Qq1).toNat:Int)then(EZ b a) (decide (0<((a.drop (1:Int).toNat).length:Int)))else(EZ b a) false))
def Gl(a0:Aae)(a1:Int)(a:Aae):Option (Aae×Bool):=
 if(a.length:Int)=a1 then Qq8 (MK a) (fun b=>Qq8 (Kw b a0) (fun c=>some (a,c)))else some (a,false)
def D4(a0:Aae)(a1:Int):Aae×Aae->Option ((Aae×Aae)⊕(Aae×Bool)):=fun⟨a,b⟩=>
 if 0<(b.length:Int)then if(a.length:Int)<=a1 then(JI a b)else Qzq Sum.inr ((Gl a0 a1) a)else Qzq Sum.inr ((Gl a0 a1) a)
def HK(a0:Aae)(a1:Int)(s:Aae×Aae):Option (Aae×Bool):=Go.L.run (D4 a0 a1) s
def L8(a0:Aae)(a1:Int):Option (Aae×Bool):=
 (HK a0 a1) (([]:Aae),a0)
theorem O9{a0:Aae}{a1:Int}{q:Value}(aq:AL .byte H q a0){r:Aae×Bool}(h:L8 a0 a1=some r):
  Qqv 101 [q,No a1] w (fun v w'=>∃u0,v=.tuple #[u0,.bool r.2]/\Cv 5 .byte H w w' u0 (r.1)):=by
 refine AG 72 [(0,q),(1,No a1)] func101 Z fun hL=>AI 2 Z<|B1 1 Z ?_;obtain⟨b2,ca,b3⟩:=CF .byte H 5 hL;refine Al<|AI 2 Z<|Bm (Aae×Value×Qq5) (fun⟨ah,ad,z⟩=>[(0,q),(1,No a1),(6,ad)]) (fun⟨ah,ad,z⟩ wr=>DE w [.row ad 5 1 (ah).length z] wr fun Oz=>A5 .byte (gz H w wr Oz) ah z/\(Gl a0 a1) ah=some r) ?_ ?_
 ·refine A8 ?_;obtain⟨ae,h⟩:=Bc h;refine Bz (Aae×Aae×Value×Qq5×Value×Nat) (fun⟨b,a,f,c,g,n⟩=>[(0,q),(1,No a1),(6,f),(7,g)]) (fun⟨b,a,f,c,g,n⟩ wr=>DE w [.row f 5 1 (b).length c] wr fun Oz=>AL .byte (gz H w wr Oz) g a/\A5 .byte (gz H w wr Oz) b c/\FW (D4 a0 a1) n (b,a)=some r) (fun⟨b,a,f,c,g,n⟩=>n) (([]:Aae),a0,Aaa,[],q,ae) Z ⟨b2,(aq.mono  Ai),b3,h⟩ ?_;rintro⟨b,a,f,c,g,nn139⟩ b6 ⟨aa,ab,d,h⟩;obtain⟨ae,ar,rfl,h,s⟩:=Ba h;refine Bm Unit (fun(_:Unit)=>[(0,q),(1,No a1),(6,f),(7,g)]) (fun(_:Unit) wr=>DE w [.row f 5 1 (b).length c] wr fun Oz=>AL .byte (gz H w wr Oz) g a/\A5 .byte (gz H w wr Oz) b c/\(JI b a)=some ar) ?_ ?_
  ·refine B1 1 Z<|Ag (AT ab)<|Ar 2 Z<|AQ 13 h ?_ ?_<;>intro j h
   ·refine Aa j<|Ag (Ad Z)<|Aa j<|Ag (Ng 0 Z aa Z)<|Aa j<|Ag (Ad Z)<|Aa j<|Ag (Ad Z)<|Ag (Ak j Z)<|Al<|AS h ?_ ?_<;>intro a2 h
    ·refine A4<|AH () ⟨aa,ab,d,h⟩
    refine Bq<|Pe<|AF ?_;have h:=BW.out h s;refine Bj<|AH (_,_,_) ⟨aa,d,h⟩
   iterate 4 refine Ab j ?_
   refine Ag (Am j Z)<|Al<|Gw<|Bq<|Pe<|AF ?_;have h:=BW.out h s;refine Bj<|AH (_,_,_) ⟨aa,d,h⟩
  rintro _ b7 ⟨af,ac,d,h⟩;refine A8<|B1 1 Z<|A3 h fun aj h=>Bf ac ((0:Int).toNat) (CT aj) (AD aj) ?_;rintro cb _ rfl a3;refine Ag (AX a3 (Ao af))<|Ag (EA (G8 _))<|A1 1 Z<|B1 1 Z<|A3 h fun a4 h=>DQ ac a4 fun au ag=>A1 1 Z<|A8<|Bm Bool (fun t=>[(0,q),(1,No a1),(6,f),(7,au),(8,No ((a.getD ((0:Int).toNat) Qq1).toNat:Int)),(25,.bool t)]) (fun t wr=>DE w [.row f 5 1 (b).length c] wr fun Oz=>AL .byte (gz H w wr Oz) au ((a.drop (1:Int).toNat))/\A5 .byte (gz H w wr Oz) b c/\(EZ b a) t=some ar) ?_ ?_
  ·refine Az<|Ar 3 Z<|AQ 28 h ?_ ?_<;>intro p h
   ·refine Aa p<|Ag (Ad Z)<|Aa p<|Ag (AT ag)<|Aa p<|Ag (Ad Z)<|Ag (Ak p Z)<|Ar 1 Z<|AP<|AH _ ⟨af,ag,d,h⟩
   iterate 3 refine Ab p ?_
   refine Ag (Am p Z)<|Ar 1 Z<|AP<|AH _ ⟨af,ag,d,h⟩
  rintro t b8 ⟨u,e,d,h⟩;refine Bi h ?_ ?_<;>intro a5 h
  ·refine B1 2 Z<|A3 h fun a6 h=>Ur e a6 fun cc a7=>Ar 1 Z<|A3 h fun a8 h=>Ag (AA a8)<|Av h fun av a9 h=>Bv u (L7 _ _ (Ao u) a7 a9) ?_;rintro b4 cd ⟨_,rfl,am⟩ ba bb ai;have an:=am.Dj hH u ba;refine A3 h fun bc h=>?_;have d:=d.mono (Ac ai);refine BL (r:=.byte) 0 b av Z Aag bb Z d an bc fun bw ce bd be aw bf=>A1 1 Z<|Az<|Ar 1 Z<|A3 h fun bg h=>?_;have e:=e.mono (Ac (ai.trans aw));refine DQ e bg fun bx bh=>Ar 1 Z<|AP ?_
   iterate 2 refine A9 ?_
   have h:=BW.again h s;refine AN ((b++av),((a.drop (1:Int).toNat).drop (1:Int).toNat),bw,bd,bx,ae) ⟨be,bh,bf,h⟩
  refine B1 3 Z<|AQ 45 h ?_ ?_<;>intro k h
  ·refine Aa k<|Ag (Ad Z)<|Aa k<|Ag (AT e)<|Aa k<|Ag (Ad Z)<|Aa k<|Ag (Ad Z)<|Ag (Ak k Z)<|A1 1 Z<|AS h ?_ ?_<;>intro bi h
   ·refine B1 3 Z<|A3 h fun bj h=>Ag (AA bj)<|A3 h fun bk h=>J1 e bk fun cf bl=>A3 h fun bm h=>BL (r:=.byte) 0 b (((a.drop (1:Int).toNat).take (((a.getD ((0:Int).toNat) Qq1).toNat:Int)+1).toNat)) Z Aag u Z d bl bm fun bz cg bn bo ax bp=>A1 1 Z<|Az<|Ar 2 Z<|A3 h fun bq h=>Ag (AA bq)<|A3 h fun br h=>?_;have e:=e.mono (Ac ax);refine DQ e br fun b0 bs=>Ar 1 Z<|AP ?_
    iterate 2 refine A9 ?_
    have h:=BW.again h s;refine AN ((b++((a.drop (1:Int).toNat).take (((a.getD ((0:Int).toNat) Qq1).toNat:Int)+1).toNat)),((a.drop (1:Int).toNat).drop (((a.getD ((0:Int).toNat) Qq1).toNat:Int)+1).toNat),bz,bn,b0,ae) ⟨bo,bs,bp,h⟩
   refine AI 2 Z<|Au ?_
   iterate 2 refine Ay ?_
   refine BM ?_;have h:=BW.out h s;refine Ay<|Bp ?_
   cases h
   refine Aj Z ⟨u.ext,_,Z,Cv.nil⟩
  iterate 4 refine Ab k ?_
  refine Ag (Am k Z)<|A1 1 Z<|Gw<|AI 2 Z<|Au ?_
  iterate 2 refine Ay ?_
  refine BM ?_;have h:=BW.out h s;refine Ay<|Bp ?_
  cases h
  refine Aj Z ⟨u.ext,_,Z,Cv.nil⟩
 rintro⟨ah,ad,z⟩ ch ⟨y,x,h⟩;refine B1 2 Z<|Ag (Ng 0 Z y Z)<|Ar 3 Z<|AQ 66 h ?_ ?_<;>intro o h
 ·refine Aa o<|Ag (Ad Z)<|Aa o<|Av h fun ci bt h=>Bv y (P0 _ _ (Le.refl _) (y.KA hH (i:=0) Z x) bt) ?_;rintro b5 cj ⟨_,rfl,ao⟩ bu ak ay;have ap:=(ao.Ov NV).Dj hH y bu;refine Aa o<|Ag (Ad Z)<|Aa o<|Av h fun ck bv h=>A6 ak (Np _ _ (Ao ak) ap (aq.mono  Ai) bv) fun cl b9 al az=>Ag (Ak o Z)<|A1 2 Z<|Au ?_
  cases h
  refine Aj Z ?_;have x:=x.mono (Ac (ay.trans az));exact⟨al.ext,_,Z,(al.Hn hH (i:=0) Z x)⟩
 iterate 4 refine Ab o ?_
 refine Ag (Am o Z)<|A1 2 Z<|Au ?_
 cases h
 refine Aj Z ⟨y.ext,_,Z,(y.Hn hH (i:=0) Z x)⟩
def Gs(a:Aae):Option (Aae×Bool):=
 some (a,true)
def Es(a1:Aae):Aae×Int->Option ((Aae×Int)⊕(Aae×Bool)):=fun⟨b,a⟩=>
 if a<(a1.length:Int)then Bb (0<=a/\a<(a1.length:Int)) (Bb (Go.E.Gx 1 (b.length+([a1.getD a.toNat Qq1,a1.getD a.toNat Qq1,a1.getD a.toNat Qq1]).length)) (Bb (BH (a+1)) (some (Sum.inl ((b++[a1.getD a.toNat Qq1,a1.getD a.toNat Qq1,a1.getD a.toNat Qq1]),(a+1))))))else Qzq Sum.inr (Gs b)
def E8(a1:Aae)(s:Aae×Int):Option (Aae×Bool):=Go.L.run (Es a1) s
def Gt(a:Aae):Option (Aae×Bool):=
 some (a,true)
def C9(a0:Int×AaG)(a1:Aae)(a2 b:Int):Aae×Int->Option ((Aae×Int)⊕(Aae×Bool)):=fun⟨c,a⟩=>
 if a<((8 * (a1.length:Int)) / b)then Bb (BH (8 - b)) (Bb (BH (a * b)) (Bb (0<=(a * b)/\(a * b)<=9223372036854775807/\0<(8:Int)) (Bb (BH ((8 - b) - ((a * b) % (8:Int)))) (Bb (BH (a * b)) (Bb (0<=(a * b)/\(a * b)<=9223372036854775807/\0<(8:Int)) (Bb (0<=((a * b) / (8:Int))/\((a * b) / (8:Int))<(a1.length:Int)) (Bb (0<=((8 - b) - ((a * b) % (8:Int)))/\((8 - b) - ((a * b) % (8:Int)))<=63) (Bb ((0<=b/\b<=63)/\BH ((1:Int) * 2 ^ b.toNat)) (Bb (BH (((1:Int) * 2 ^ b.toNat) - 1)) (Bb ((0<=(((a1.getD (((a * b) / (8:Int)).toNat) Qq1).toNat:Int) / 2 ^ ((8 - b) - ((a * b) % (8:Int))).toNat)/\(((a1.getD (((a * b) / (8:Int)).toNat) Qq1).toNat:Int) / 2 ^ ((8 - b) - ((a * b) % (8:Int))).toNat)<2 ^ 63)/\(0<=(((1:Int) * 2 ^ b.toNat) - 1)/\(((1:Int) * 2 ^ b.toNat) - 1)<2 ^ 63)) (if a2<=a then(if(((((a1.getD (((a * b) / (8:Int)).toNat) Qq1).toNat:Int) / 2 ^ ((8 - b) - ((a * b) % (8:Int))).toNat).toNat &&& (((1:Int) * 2 ^ b.toNat) - 1).toNat:Nat):Int)=0 then Bb (BH (a+1)) (some (Sum.inl (c,(a+1))))else Qzq Sum.inr (some ([],false)))else(if(a0.2.length:Int)<=(((((a1.getD (((a * b) / (8:Int)).toNat) Qq1).toNat:Int) / 2 ^ ((8 - b) - ((a * b) % (8:Int))).toNat).toNat &&& (((1:Int) * 2 ^ b.toNat) - 1).toNat:Nat):Int)then Qzq Sum.inr (some ([],false))else Bb (0<=(((((a1.getD (((a * b) / (8:Int)).toNat) Qq1).toNat:Int) / 2 ^ ((8 - b) - ((a * b) % (8:Int))).toNat).toNat &&& (((1:Int) * 2 ^ b.toNat) - 1).toNat:Nat):Int)/\(((((a1.getD (((a * b) / (8:Int)).toNat) Qq1).toNat:Int) / 2 ^ ((8 - b) - ((a * b) % (8:Int))).toNat).toNat &&& (((1:Int) * 2 ^ b.toNat) - 1).toNat:Nat):Int)<(a0.2.length:Int)) (Bb (Go.E.Gx 1 (c.length+([(a0.2.getD ((((((a1.getD (((a * b) / (8:Int)).toNat) Qq1).toNat:Int) / 2 ^ ((8 - b) - ((a * b) % (8:Int))).toNat).toNat &&& (((1:Int) * 2 ^ b.toNat) - 1).toNat:Nat):Int).toNat) Qq1).1,(a0.2.getD ((((((a1.getD (((a * b) / (8:Int)).toNat) Qq1).toNat:Int) / 2 ^ ((8 - b) - ((a * b) % (8:Int))).toNat).toNat &&& (((1:Int) * 2 ^ b.toNat) - 1).toNat:Nat):Int).toNat) Qq1).2.1,(a0.2.getD ((((((a1.getD (((a * b) / (8:Int)).toNat) Qq1).toNat:Int) / 2 ^ ((8 - b) - ((a * b) % (8:Int))).toNat).toNat &&& (((1:Int) * 2 ^ b.toNat) - 1).toNat:Nat):Int).toNat) Qq1).2.2]).length)) (Bb (BH (a+1)) (some (Sum.inl ((c++[(a0.2.getD ((((((a1.getD (((a * b) / (8:Int)).toNat) Qq1).toNat:Int) / 2 ^ ((8 - b) - ((a * b) % (8:Int))).toNat).toNat &&& (((1:Int) * 2 ^ b.toNat) - 1).toNat:Nat):Int).toNat) Qq1).1,(a0.2.getD ((((((a1.getD (((a * b) / (8:Int)).toNat) Qq1).toNat:Int) / 2 ^ ((8 - b) - ((a * b) % (8:Int))).toNat).toNat &&& (((1:Int) * 2 ^ b.toNat) - 1).toNat:Nat):Int).toNat) Qq1).2.1,(a0.2.getD ((((((a1.getD (((a * b) / (8:Int)).toNat) Qq1).toNat:Int) / 2 ^ ((8 - b) - ((a * b) % (8:Int))).toNat).toNat &&& (((1:Int) * 2 ^ b.toNat) - 1).toNat:Nat):Int).toNat) Qq1).2.2]),(a+1))))))))))))))))))else Qzq Sum.inr (Gt c)
def Dw(a0:Int×AaG)(a1:Aae)(a2 a:Int)(s:Aae×Int):Option (Aae×Bool):=Go.L.run (C9 a0 a1 a2 a) s
def Gu(a0:Int×AaG)(a1:Aae)(a2:Int):Option (Aae×Bool):=
 Qq8 (FG a0) (fun a=>Bb (BH (8 * (a1.length:Int))) (Bb (0<=(8 * (a1.length:Int))/\(8 * (a1.length:Int))<=9223372036854775807/\0<a) ((Dw a0 a1 a2 a) (([]:Aae),0))))
def FR(a0:Int×AaG)(a1:Aae)(a2:Int):Option (Aae×Bool):=
 Qq8 (Dk a0) (fun a=>if a=3 then some (a1,true)else(if a=2 then(E8 a1) (([]:Aae),0)else(Gu a0 a1 a2)))
theorem Mg{a0:Int×AaG}{a1:Aae}{a2:Int}{j x:Value}(af:AL AaL H j (a0.2))(ac:AL .byte H x a1){r:Aae×Bool}(h:FR a0 a1 a2=some r):
  Qqv 103 [.agg #[No a0.1,j],x,No a2] w (fun v w'=>∃u0,v=.tuple #[u0,.bool r.2]/\AL .byte (un H (nw w w')) u0 (r.1)):=by
 refine AG 88 [(0,.agg #[No a0.1,j]),(1,x),(2,No a2)] func103 Z fun hL=>Aq<|Cj (t:=70) Z Z hL fun w1 b1 ci co _=>A1 2 Z<|B1 1 Z ?_;obtain⟨a3,cp,ae⟩:=CF .byte H 5 ci;refine Al<|Bm Unit (fun(_:Unit)=>[(1,x),(2,No a2),(3,(Aac b1)),(8,Aaa)]) (fun(_:Unit) wr=>DE w [.row Aaa 5 1 (([]:Aae)).length ([]),.box b1 [No a0.1,j] 70] wr fun Oz=>A5 .byte (gz H w wr Oz) (([]:Aae)) ([])/\(Gu a0 a1 a2)=some r) ?_ ?_
 ·refine Aq<|Ag (Ax 1 Z Jv.e a3 Z)<|Av h fun c4 b2 h=>A6 a3 (Fs _ _ (Ao a3) a0 (af.mono  Ai) b2) fun c5 cq ao ar=>Al<|A8<|AI 2 Z<|AS h ?_ ?_<;>intro b3 h
  ·refine AI 3 Z<|Au<|Ay<|Bp ?_
   cases h
   refine Aj Z ⟨ao.ext,_,Z,(ac.mono (GP hH))⟩
  refine AI 2 Z<|AS h ?_ ?_<;>intro b4 h
  ·refine Bm (Aae×Value×Qq5) (fun⟨ak,ag,z⟩=>[(8,ag)]) (fun⟨ak,ag,z⟩ wr=>DE w [.row ag 5 1 (ak).length z,.box b1 [No a0.1,j] 70] wr fun Oz=>A5 .byte (gz H w wr Oz) ak z/\Gs ak=some r) ?_ ?_
   ·refine B1 1 Z<|Ag (AT ac)<|A1 1 Z<|A8 ?_;obtain⟨a4,h⟩:=Bc h;have ae:=ae.mono (Ac ar);refine Bz (Aae×Int×Value×Qq5×Nat) (fun⟨p,b,y,k,n⟩=>[(8,y),(22,x),(23,No (a1.length:Int)),(24,No b)]) (fun⟨p,b,y,k,n⟩ wr=>DE w [.row y 5 1 (p).length k,.box b1 [No a0.1,j] 70] wr fun Oz=>A5 .byte (gz H w wr Oz) p k/\FW (Es a1) n (p,b)=some r) (fun⟨p,b,y,k,n⟩=>n) (([]:Aae),0,Aaa,[],a4) Z ⟨ao,ae,h⟩ ?_;rintro⟨p,b,y,k,nn83⟩ cr ⟨ap,aa,h⟩;obtain⟨a4,c6,rfl,h,a5⟩:=Ba h;refine AI 1 Z<|AM<|AS h ?_ ?_<;>intro b5 h
    ·refine A4<|A2<|AM<|A8<|Aq<|A3 h fun a6 h=>Bf ac b.toNat (CT a6) (AD a6) ?_;rintro c7 _ rfl b6;refine Ag (AX b6 (hH.trans ap.arg))<|A1 1 Z<|Az<|Ar 4 Z<|BV [a1.getD b.toNat Qq1,a1.getD b.toNat Qq1,a1.getD b.toNat Qq1] (r:=.byte) (fun _=>W0 _ _ _ _) (hlen:=(Ch 3)) ap (.c1 Z (.c1 Z (.c1 Z .nil))) fun c8 c9 cs b7 a9 b8=>A3 h fun b9 h=>?_;have aa:=aa.mono (Ac a9);refine BL (r:=.byte) 0 p [a1.getD b.toNat Qq1,a1.getD b.toNat Qq1,a1.getD b.toNat Qq1] Z Aag b7 Z aa b8 b9 fun cj da ca cb cl cc=>Ar 1 Z<|AP<|A9<|A2<|Az<|A3 h fun cd h=>Ag (AA cd)<|Ar 1 Z<|AP ?_;have h:=BW.again h a5;refine AN (_,_,_,_,_) ⟨cb,cc,h⟩
    refine Bq<|AK<|AF ?_;have h:=BW.out h a5;refine Bj<|AH (_,_,_) ⟨ap,aa,h⟩
   rintro⟨ak,ag,z⟩ ct ⟨a7,ba,h⟩;refine AI 3 Z<|Au<|Ay<|Bp ?_
   cases h
   refine Aj Z ⟨a7.ext,_,Z,((a7.Hn hH (i:=0) Z ba).vec hH)⟩
  refine A4<|A9 ?_;have ae:=ae.mono (Ac ar);refine AH () ⟨ao,ae,h⟩
 rintro _ cu ⟨aq,he36_r2,h⟩;refine Aq<|Ag (Ax 1 Z Jv.e aq Z)<|Av h fun c ce h=>A6 aq (JN (a0:=a0) _ _ (Ao aq) (af.mono  Ai) ce) fun db cv cf bb=>A1 1 Z<|Bm (Aae×Value×Qq5) (fun⟨ad,ab,s⟩=>[(8,ab)]) (fun⟨ad,ab,s⟩ wr=>DE w [.row ab 5 1 (ad).length s,.box b1 [No a0.1,j] 70] wr fun Oz=>A5 .byte (gz H w wr Oz) ad s/\Gt ad=some r) ?_ ?_
 ·refine B1 1 Z<|Ag (AT ac)<|A3 h fun bc h=>Ag (AA bc)<|Ar 1 Z<|A3 h fun bd h=>Ag (Sa bd)<|A1 1 Z<|A8 ?_;obtain⟨ah,h⟩:=Bc h;have he36_r2:=he36_r2.mono (Ac bb);refine Bz (Aae×Int×Value×Qq5×Nat) (fun⟨f,a,g,d,n⟩=>[(1,x),(2,No a2),(3,(Aac b1)),(8,g),(11,No c),(42,No ((8 * (a1.length:Int)) / c)),(43,No a)]) (fun⟨f,a,g,d,n⟩ wr=>DE w [.row g 5 1 (f).length d,.box b1 [No a0.1,j] 70] wr fun Oz=>A5 .byte (gz H w wr Oz) f d/\FW (C9 a0 a1 a2 c) n (f,a)=some r) (fun⟨f,a,g,d,n⟩=>n) (([]:Aae),0,Aaa,[],ah) Z ⟨cf,he36_r2,h⟩ ?_;rintro⟨f,a,g,d,nn219⟩ cm ⟨ai,e,h⟩;obtain⟨ah,cw,rfl,h,u⟩:=Ba h;refine AI 1 Z<|AM<|AS h ?_ ?_<;>intro be h
  ·refine A4<|A2<|AM<|A8<|AI 2 Z<|B1 1 Z<|A3 h fun bf h=>Ag (AA bf)<|Ar 2 Z<|A3 h fun bg h=>Ag (AA bg)<|A3 h fun au h=>Ag (Tt Z Z ⟨au.1,au.2.2⟩)<|A3 h fun bh h=>Ag (AA bh)<|A1 1 Z<|CI (Qqz 0 15 (.tail 15)) mixed V (fun cx av=>?_);have aj:=ai.call av;have al:=Bd ai av;refine BJ 3 Z<|A3 h fun bi h=>B9 Z (AA bi) Z<|A3 h fun bj h=>B9 Z (Sa bj) Z<|A3 h fun aw h=>Fl Z Z Z Aag ac (((a * c) / (8:Int)).toNat) (CT aw) (AD aw) Z ?_;rintro cy _ rfl bk;refine B9 Z (AX bk (hH.trans aj.arg)) Z<|B9 Z (EA (G8 _)) Z<|BJ 1 Z<|A3 h fun bl h=>B9 Z (Ru Z bl) Z<|BJ 1 Z<|A3 h fun bm h=>B9 Z (Se bm) Z<|A3 h fun bn h=>?_
   refine B9 Z (AA bn) Z<|A3 h fun bo h=>B9 Z (OH Z bo) Z<|BJ 1 Z<|B8 (fun cz ax=>?_);have o:=aj.call ax;have am:=Bd aj ax;refine Al<|A8<|AI 4 Z<|AS h ?_ ?_<;>intro bp h
   ·refine AI 2 Z<|DP h ?_ ?_<;>intro bq h
    ·refine AI 2 Z<|Au ?_
     iterate 2 refine Ay ?_
     refine AE<|BM ?_;have h:=BW.out h u;refine Ay<|Bp ?_
     cases h
     refine Aj Z ⟨o.ext,_,Z,(AL.nil _ _)⟩
    refine A4 ?_
    iterate 2 refine A9 ?_
    refine A2<|Az<|A3 h fun br h=>Ag (AA br)<|Ar 1 Z<|AP ?_;have h:=BW.again h u;have e:=e.mono (Ac (al.trans am));refine AN (_,_,_,_,_) ⟨o,e,h⟩
   refine B1 1 Z<|Ag (Af Z Aa9 Z UZ.e)<|Ag (Ae 1 Z o Z)<|Ag (AT af)<|A1 2 Z<|AS h ?_ ?_<;>intro bs h
   ·refine AI 2 Z<|Au ?_
    iterate 2 refine Ay ?_
    refine AE<|BM ?_;have h:=BW.out h u;refine Ay<|Bp ?_
    cases h
    refine Aj Z ⟨o.ext,_,Z,(AL.nil _ _)⟩
   refine Az<|Ar 1 Z<|Ag (Af Z Aa9 Z UZ.e)<|Ag (Ae 1 Z o Z)<|Ar 1 Z<|A3 h fun ay h=>Bf af ((((((a1.getD (((a * c) / (8:Int)).toNat) Qq1).toNat:Int) / 2 ^ ((8 - c) - ((a * c) % (8:Int))).toNat).toNat &&& (((1:Int) * 2 ^ c.toNat) - 1).toNat:Nat):Int).toNat) (CT ay) (AD ay) ?_;rintro c0 _ ⟨_,_,rfl,rfl,⟨_,_,rfl,rfl,rfl⟩⟩ bt;refine VC bt fun c2 bu=>A3 h fun bv h=>?_;have e:=e.mono (Ac (al.trans am))
   refine BL (r:=.byte) 0 f [(a0.2.getD ((((((a1.getD (((a * c) / (8:Int)).toNat) Qq1).toNat:Int) / 2 ^ ((8 - c) - ((a * c) % (8:Int))).toNat).toNat &&& (((1:Int) * 2 ^ c.toNat) - 1).toNat:Nat):Int).toNat) Qq1).1,(a0.2.getD ((((((a1.getD (((a * c) / (8:Int)).toNat) Qq1).toNat:Int) / 2 ^ ((8 - c) - ((a * c) % (8:Int))).toNat).toNat &&& (((1:Int) * 2 ^ c.toNat) - 1).toNat:Nat):Int).toNat) Qq1).2.1,(a0.2.getD ((((((a1.getD (((a * c) / (8:Int)).toNat) Qq1).toNat:Int) / 2 ^ ((8 - c) - ((a * c) % (8:Int))).toNat).toNat &&& (((1:Int) * 2 ^ c.toNat) - 1).toNat:Nat):Int).toNat) Qq1).2.2] Z Aag o Z e (bu.mono  Ai) bv fun cg c3 bw bx ck bz=>Ar 1 Z<|AP ?_
   iterate 2 refine A9 ?_
   refine A2<|Az<|A3 h fun b0 h=>Ag (AA b0)<|Ar 1 Z<|AP ?_;have h:=BW.again h u;refine AN (_,_,_,_,_) ⟨bx,bz,h⟩
  refine Bq<|AK<|AF ?_;have h:=BW.out h u;refine Bj<|AH (_,_,_) ⟨ai,e,h⟩
 rintro⟨ad,ab,s⟩ cn ⟨az,a8,h⟩;refine AI 3 Z<|Au ?_
 cases h
 refine Aj Z ⟨az.ext,_,Z,((az.Hn hH (i:=0) Z a8).vec hH)⟩
def IP(a:Aae):Option Aae:=
 some a
def FT(a0:Int×AaG):Option Aae:=
 if a0.1=48 then some ([])else Qq8 (Ew a0) (fun b=>if b then Qq8 (MM a0.2) (fun a=>Bb (Go.E.Gx 1 (([(Go.L.u8 a0.1)]).length+a.length)) (IP ([(Go.L.u8 a0.1)]++a)))else some ([(Go.L.u8 a0.1)]))
theorem Mh{a0:Int×AaG}{e:Value}(p:AL AaL H e (a0.2)){r:Aae}(h:FT a0=some r):
  Qqv 27 [.agg #[No a0.1,e]] w (fun v w'=>∃u0,v=u0/\Cv 5 .byte H w w' u0 r):=by
 refine AG 22 [(0,.agg #[No a0.1,e])] func27 Z fun hL=>Aq<|Cj (t:=70) Z Z hL fun w1 b1 j bn _=>A1 1 Z<|AM<|A8<|Aq<|Ag (Af Z Aa9 Z B4.e)<|Ag (Ae 0 Z j Z)<|A1 2 Z<|AS h ?_ ?_<;>intro a9 h
 ·refine AI 1 Z<|Au<|Ay<|AE ?_
  cases h
  refine Aj Z ⟨j.ext,_,Z,Cv.nil⟩
 refine Aq<|Ag (Ax 0 Z Jv.e j Z)<|Av h fun x5 ba h=>A6 j (IN (a0:=a0) _ _ (Ao j) (p.mono  Ai) ba) fun w6 bt af bo=>A1 1 Z<|Bi h ?_ ?_<;>intro bb h
 ·refine Bm (Aae×Value×Qq5) (fun⟨k,f,a⟩=>[(2,f)]) (fun⟨k,f,a⟩ wr=>DE w [.row f 5 1 (k).length a,.box b1 [No a0.1,e] 70] wr fun Oz=>A5 .byte (gz H w wr Oz) k a/\IP k=some r) ?_ ?_
  ·refine Nf (Qqz 0 3 (.q 4 (.q 5 (.h2 3 (.h 6 (.tail 7)) 6 (.h 3 (.tail 7)))))) mixed V (fun bu aw=>?_);have b:=af.call aw;refine B9 Z (Af Z Aa9 Z B4.e) Z<|B9 Z (Ae 0 Z b Z) Z<|B9 Z (EA (Gm _)) Z<|B9 Z (Af Z Aa9 Z UZ.e) Z<|B9 Z (Ae 0 Z b Z) Z<|U8 ?_ ?_
   ·refine PS [(Go.L.u8 a0.1)] (r:=.byte) Z Z (fun _=>Kh _ _) Z (Ch 1) hH b (.c1 Z .nil) fun bv bw bp s bg u=>Av h fun o x h=>IQ Z Z Z (fun bc g=>MU _ _ (Ao (s.call g)) (p.mono  Ai) x) ?_;rintro bc bh bx g y ⟨_,rfl,ag⟩;have z:=s.call g;have aq:=Bd s g;have ah:=z.call y;have ar:=Bd z y;have c:=ag.Dj hH z y;refine B8 (fun bz ai=>?_);have ax:=ah.call ai;have ad:=Bd ah ai;refine A3 h fun aa h=>?_;have u:=u.mono (Ac (aq.trans (ar.trans ad)));have c:=c.mono (Ac ad);refine BL (r:=.byte) 0 [(Go.L.u8 a0.1)] o Z Aag ax Z u c aa fun bd b0 ay az bi a1=>Ar 1 Z<|AP<|AH (_,_,_) ⟨az,a1,h⟩
   refine Av h fun o x h=>A3 h fun aa h=>IQ Z Z Z (fun be ab=>MU _ _ (Ao (b.call ab)) (p.mono  Ai) x) ?_;rintro be bj b2 ab aj ⟨_,rfl,ak⟩;have al:=b.call ab;have a2:=al.call aj;have d:=ak.Dj hH al aj;refine PS [(Go.L.u8 a0.1)] (r:=.byte) Z Z (fun _=>Kh _ _) Z (Ch 1) hH a2 (.c1 Z .nil) fun b3 b4 bq am au ac=>B8 (fun b5 an=>?_);have a3:=am.call an;have ae:=Bd am an;have d:=d.mono (Ac (au.trans ae));have ac:=ac.mono (Ac ae);refine BL (r:=.byte) 0 [(Go.L.u8 a0.1)] o Z Aag a3 Z ac d aa fun bf b6 a4 a5 bk a6=>Ar 1 Z<|AP<|AH (_,_,_) ⟨a5,a6,h⟩
  rintro⟨k,f,a⟩ br ⟨ao,av,h⟩;refine Au<|Ay<|AE ?_
  cases h
  refine Aj Z ⟨ao.ext,_,Z,(ao.Hn hH (i:=0) Z av)⟩
 refine A4<|A9<|A2<|Aq<|Ag (Af Z Aa9 Z B4.e)<|Ag (Ae 0 Z af Z)<|Ag (EA (Gm _))<|NU [(Go.L.u8 a0.1)] (r:=.byte) (fun _=>Kh _ _) (Ch 1) hH af (.c1 Z .nil) fun b7 b8 bs ap bl a7=>A1 1 Z<|Au ?_
 cases h
 refine Aj Z ⟨ap.ext,_,Z,(ap.Hn hH (i:=0) Z a7)⟩
end
end Go.Proofs.YtnmkjjgmnbmmnaaGreatDoor
end
noncomputable section
namespace Go.Proofs.YtnmkjjgmnbmmnaaGreatDoor
open Go Go.E Go.RowKit Go.L
def Q1(H:PH)(v:Value)(x:Qq3×Int):Prop:=∃p u q,v=.func (.func 143) #[] #[.pointer (some p),.pointer (some q)]/\CJ H p [u]/\AL .byte H u x.1/\CJ H q [.int .i64 x.2]
theorem Q1.mono{H H':PH}{v:Value}{x:Qq3×Int}(h:Q1 H v x)(hs:Le H H'):Q1 H' v x:=by
 obtain⟨p,u,q,h1,h2,h3,a⟩:=h;exact⟨p,u,q,h1,h2.mono hs,h3.mono hs,a.mono hs⟩
end Go.Proofs.YtnmkjjgmnbmmnaaGreatDoor
end
noncomputable section
namespace Go.Proofs.YtnmkjjgmnbmmnaaGreatDoor
open Go Go.E Go.RowKit Go.L
set_option maxHeartbeats 1000000
set_option maxRecDepth 10000
open _root_.Go.Proofs.Tryz
def Ei(a0:Aae)(a1:Int):Option ((Aae×Int)):=
 if a1<1 then none else some ((a0,a1))
section
variable(w:World)(H:PH)(hH:Le H (hp w)) include hH
theorem I9{a0:Aae}{a1:Int}{a:Value}(b:AL .byte H a a0){r:(Aae×Int)}(h:Ei a0 a1=some r):
  Qqv 102 [a,No a1] w (fun v w'=>∃g,v=g/\Q1 (un H (nw w w')) g r):=by
 refine AG 9 [(0,a),(1,No a1)] func102 Z fun hL=>Aq<|Nh (t:=22) Z b.one hL fun y o i p _=>Nh (t:=3) Z Z i fun q s d u _=>A1 1 Z<|AM<|Aq<|Ag (Ae 0 Z d Z)<|A1 1 Z<|AS h ?_ ?_<;>intro j h
 ·refine Az ?_
  cases h
 refine A4<|A2<|AI 2 Z<|Au ?_;obtain⟨k,x,c⟩:=N9 (H:=H) 1 d Z;obtain⟨l,e,m⟩:=N9 (H:=H) 0 k Z;have c:=c.mono (Ac e);have f:Q1 (gz H w q ([])) (.func (.func 143) #[] #[Aac o,Aac s]) (a0,a1):=⟨_,_,_,Z,c,(b.mono  Ai),m⟩
 cases h
 refine Aj Z ⟨l.ext,_,Z,(f.mono (GQ hH))⟩
def CH(a0:List Aae)(a1:Aae):Option ((List Aae)):=
 Bb (Go.E.Gx 24 (a0.length+([a1]).length)) (some ((a0++[a1])))
def FM(_a0:List Aae)(a1:Aae×Int):Option ((List Aae)):=
 Qq8 (E7 (S2 (fun s x=>CH s x)) a1.1 a1.2 ([]:List Aae)) (fun a=>some a)
theorem K9{a0:List Aae}{a1:Aae×Int}{g:Value}(_:AL (.vec .byte) H Aaa a0)(ae:Q1 H g a1){r:(List Aae)}(h:FM a0 a1=some r):
  Qqv 182 [Aaa,g] w (fun v w'=>∃u0,v=u0/\Cv 22 (.vec .byte) H w w' u0 r):=by
 refine QO (k:=13) [(0,Aaa),(1,g)] func182 Z Z Z Z ?_;have hL:=AW.start w;refine Aq<|Nh (t:=180) Z Z hL fun w1 o p d _=>A1 1 Z<|AM<|AI 1 Z<|A8 ?_;obtain⟨ab,an,q⟩:=CF (.vec .byte) H 22 p;have n:AW w [.box o [Aaa] 180,.row Aaa 22 1 (([]:List Aae)).length ([])] w1:=ab.Bn [1] Z;have c:=AJ [1] ab n Z;obtain⟨zi0,zi1,zi2,rfl,u,y,z⟩:=(ae.mono  Ai);refine S0 (cap:=[.pointer (some zi0),.pointer (some zi2)]) Z ⟨Tryz.f143,_,func143,Z,Z⟩ n ?_;intro af fr fn lY DY wY rec hrec hLY hleY
 have hcb:Yc prog w H lY .byte (σ:=List Aae) (fun s R G=>∃(v:Value) (xs:Qq5),R=([.box o [v] 180,.row v 22 1 s.length xs,.obj lY (.loop rec),.obj DY (.deferred (some []))]:List BN)/\A5 (.vec .byte) G s xs) (S2 (fun s x=>CH s x)):=by
  subst hrec;refine⟨fun hle ⟨v,xs,e,he⟩=>⟨v,xs,e,he.mono hle⟩,?_⟩;rintro w1 O R a0 r0 a1 va1 hL b ⟨va0_0,xsa0_0,rfl,a⟩ h;obtain⟨r,h0,rfl⟩:=Ti h;clear h;have h:=h0;clear h0;have hL:=hL.perm Qzc;have b:=b.mono  CN;have a:=a.mono  CN;refine Sy Z ⟨fr.size,Z,fr.get⟩ Z (hL.at (i:=2) Z)<|OJ Z Tz<|Ar 1 Z<|AP<|Sg (i:=2) Z hL Z ?_;intro w hLB hleB;clear hL;have hL:=hLB;have b:=b.mono (Ac hleB);have a:=a.mono (Ac hleB);have hT:=XE hL;refine Sf<|Oj Z<|Ag (Ae 0 Z hL Z)<|Ar 1 Z<|BV [a1] (r:=(.vec .byte)) (fun _=>Vb _ b.one _) hL (.c1 ⟨_,Z,b⟩ .nil) ?_;intro v1 w1 aq p d f;have a:=a.mono (Ac d);have b:=b.mono (Ac d);have hT:=hT.trans d;refine A3 h fun ak h=>BL (r:=(.vec .byte)) 1 a0 [a1] Z Aa8 p Z a f ak ?_;intro v2 w2 al ac j aa;have b:=b.mono (Ac j);have f:=f.mono (Ac j);have hT:=hT.trans j;refine AY 0 Z Z (row_one (ac.at (i:=1) Z)) ac Z Z ?_;intro w4 n c
  have b:=b.mono (Ac c);have f:=f.mono (Ac c);have aa:=aa.mono (Ac c);have hT:=hT.trans c;refine AP<|A9 ?_
  cases h
  refine Ow (i:=2) n Z ?_;intro wE hLE hlE;refine⟨Z,_,?_,?_,v2,al,Z,?_⟩
  ·exact hLE.perm Qzc
  ·exact Qz ((hleB.trans hT).trans hlE)
  ·exact(aa.mono (Ac hlE)).mono (Hi hH Qzc)
 refine Av h fun x5 am h=>?_;have hLS:AW w (Qzu ([.box o [Aaa] 180,.row Aaa 22 1 ([]:List Aae).length [],.obj lY (.loop rec),.obj DY (.deferred (some []))]:List BN) []) wY:=hLY.Bn [3,3] Z;have hleS:Le (fz wY _) (fz wY (Qzu ([.box o [Aaa] 180,.row Aaa 22 1 ([]:List Aae).length [],.obj lY (.loop rec),.obj DY (.deferred (some []))]:List BN) [])):=AJ [3,3] hLY hLS Z;have q:=q.mono (Ac (c.trans hleY));have u:=u.mono (Ac hleY);have y:=y.mono (Ac hleY);have z:=z.mono (Ac hleY);have hcY:=FH hH hcb (O:=[]) (hLS.perm Qzc) ((y.mono (Ac hleS)).mono  CN) ((u.mono (Ac hleS)).mono  CN) ((z.mono (Ac hleS)).mono  CN) ⟨_,_,Z,(q.mono (Ac hleS)).mono  CN⟩ am;refine hcY.2.mono fun e wZ ⟨vZ,heZ,hRZ⟩=>⟨⟨vZ,heZ⟩,?_⟩;obtain⟨_,RZ,hLZ,hleZ,vZ2,xsZ,rfl,hJZ⟩:=hRZ;have hLZ:=hLZ.perm Qzc;have hJZ:=hJZ.mono  CN;have hleZ:=hleS.trans (Qy hleZ);have ad:AW w [.obj lY (.loop rec),.box o [vZ2] 180,.row vZ2 22 1 (x5).length xsZ,.obj DY (.deferred (some []))] wZ:=hLZ.Bn [2] Z;have ah:=AJ [2] hLZ ad Z;refine .inl ⟨_,ad,fun wX hLX hleX=>?_⟩;refine A9<|A2 ?_
 refine Aq<|Ag (Ae 1 Z hLX Z)<|A1 1 Z<|Au ?_
 cases h
 refine O8 3 hLX Z ?_;intro wE hLE hlE;refine fun az frz=>⟨_,VD Z (.tmp Z) frz,?_⟩;have hJZ:=hJZ.mono (Ac (ah.trans (hleX.trans hlE)));exact⟨hLE.ext,_,Z,(hLE.Hn hH (i:=2) Z hJZ)⟩
def G7(a0:Aae×Int):Option ((List Aae)):=
 Qq8 (FM ([]) a0) (fun a=>some a)
theorem MN{a0:Aae×Int}{a:Value}(d:Q1 H a a0){r:(List Aae)}(h:G7 a0=some r):
  Qqv 144 [a] w (fun v w'=>∃f,v=f/\Cv 22 (.vec .byte) H w w' f r):=by
 refine AG 5 [(0,a)] func144 Z fun hL=>AI 1 Z<|B1 1 Z<|Av h fun o g h=>Bv hL (K9 _ _ (Ao hL) (AL.nil _ _) (d.mono  Ai) g) ?_;rintro l p ⟨_,rfl,c⟩ j b e;obtain⟨m,b,e,k⟩:=c.take hH hL j;refine A1 1 Z<|Au ?_
 cases h
 refine Aj Z ⟨b.ext,_,Z,(b.Hn hH (i:=0) Z k)⟩
end
def CD:(List Aae)×Int×Int->Option (((List Aae)×Int×Int)⊕((List Aae))):=fun⟨c,a,b⟩=>
 if a<b then Bb (0<=b/\b<(c.length:Int)) (Bb (0<=a/\a<(c.length:Int)) (Bb (0<=a/\a<(c.length:Int)) (Bb (0<=b/\b<((c.set a.toNat (c.getD b.toNat Qq1)).length:Int)) (Bb (BH (a+1)) (Bb (BH (b - 1)) (some (Sum.inl (((c.set a.toNat (c.getD b.toNat Qq1)).set b.toNat (c.getD a.toNat Qq1)),(a+1),(b - 1)))))))))else Qzq Sum.inr (some c)
def DM(s:(List Aae)×Int×Int):Option ((List Aae)):=Go.L.run CD s
def E9(a0:List Aae):Option ((List Aae)):=
 Bb (BH ((a0.length:Int) - 1)) (DM (a0,0,((a0.length:Int) - 1)))
theorem Lg{w0 w:World}{H:PH}(hH:Le H (hp w0)){O:List BN}{a0:List Aae}{va0:Value}{xsa0:Qq5}(hL:AW w0 (Ha [.row va0 22 1 (a0).length xsa0] O) w)(b7:A5 (.vec .byte) (gz H w0 w (Ha [.row va0 22 1 (a0).length xsa0] O)) a0 xsa0){r:(List Aae)}(h:E9 a0=some r):
  Ok prog 145 [va0] w (fun v w'=>∃(y0:Qq5),v=.tuple #[]/\AW w0 (Ha [.row va0 22 1 (r).length y0] O) w'/\Le (fz w (Ha [.row va0 22 1 (a0).length xsa0] O)) (fz w' (Ha [.row va0 22 1 (r).length y0] O))/\A5 (.vec .byte) (gz H w0 w' (Ha [.row va0 22 1 (r).length y0] O)) r y0):=by
 refine BC (n:=28) [(0,va0)] func145 Z Z Z Z ?_;have hT:=Le.refl (fz w (Ha [.row va0 22 1 (a0).length xsa0] O));refine B1 1 Z<|Ag (Ng 0 Z hL Z)<|A3 h fun cc h=>Ag (AA cc)<|A1 2 Z<|A8 ?_;obtain⟨x,h⟩:=Bc h;refine Bz ((List Aae)×Int×Int×Qq5×Nat) (fun⟨e,b,c,s,n⟩=>[(0,va0),(2,No b),(3,No c)]) (fun⟨e,b,c,s,n⟩ wr=>DE w0 (Ha [.row va0 22 1 (e).length s] O) wr fun Oz=>A5 (.vec .byte) (gz H w0 wr Oz) e s/\Le (fz w (Ha [.row va0 22 1 (a0).length xsa0] O)) (fz wr Oz)/\FW CD n (e,b,c)=some r) (fun⟨e,b,c,s,n⟩=>n) (a0,0,((a0.length:Int) - 1),xsa0,x) Z ⟨hL,b7,hT,h⟩ ?_;rintro⟨e,b,c,s,nn85⟩ cj ⟨an,k,hT,h⟩;obtain⟨x,dd,rfl,h,u⟩:=Ba h;refine AM<|AI 3 Z<|AS h ?_ ?_<;>intro b8 h
 ·refine A4<|A2<|AM<|A8<|Ek (D6 (OI (LG (D6 Gy)))) (fun z0 z=>Le (gz H w0 z0 (Ha [.row va0 22 1 (e).length s] O)) (hp z)) mixed Z (fun t de ar=>?_);have d:=an.call ar;have m:=Bd an ar;have a:=d.rG H;refine Gz (a.trans (Ao d)) fun kI92=>Aw 0 t kI92 Z (fun _ _=>Ad Z) Z<|Aw 1 t kI92 Z (fun _ _=>Ad Z) Z<|Aw 2 t kI92 Z (fun _ _=>Ad Z) Z<|Aw 3 t kI92 Z (fun _ _=>Ad Z) Z<|Aw 4 t kI92 Z (fun _ _=>Ad Z) Z<|Aw 5 t kI92 Z (fun _ _=>Ad Z) Z<|Aw 8 t kI92 Z (fun _ _=>Ad Z) Z<|Aw 9 t kI92 Z (fun _ _=>Ad Z) Z<|Q3 6 10 Z Z ?_ ?_
  ·refine A3 h fun q h=>Ck 0 Z Aa8 CC.e d Z c.toNat (CT q) (AD q) ?_;intro df ao;have k:=k.mono (Ac m);obtain⟨_,b9,hcell93⟩:=(k.mono a).at c.toNat _ (getD_some ((AD q)));obtain⟨e93v0,rfl,e93h0⟩:=b9;refine AB (a.trans (Ao d)) fun kI95=>Q3 7 10 Z Z ?_ ?_
   ·refine Ag (Ie 0 d ao (hcell93 0 _ Z))<|AB (a.trans (Ao d)) fun kI96=>CK 10 Z<|A3 h fun l h=>Ck 0 Z Aa8 CC.e d Z b.toNat (CT l) (AD l) ?_;intro dg ca;obtain⟨_,cb,hcell97⟩:=(k.mono a).at b.toNat _ (getD_some ((AD l)));obtain⟨e97v0,rfl,e97h0⟩:=cb;refine AB (a.trans (Ao d)) fun kI99=>CK 11 Z<|Ag (Ie 0 d ca (hcell97 0 _ Z))<|AB (a.trans (Ao d)) fun kI100=>CK 12 Z<|A3 h fun f h=>Ck 0 Z Aa8 CC.e d Z b.toNat (CT f) (AD f) fun cl a1=>AB (a.trans (Ao d)) fun kI103=>CK 13 Z<|CO 0 b.toNat (e.getD c.toNat Qq1) e93h0.one hH d Z (k.mono a) a1 (AD f) ⟨_,Z,e93h0⟩ ?_;intro cm cd y af a2;have a:=a.trans (Ac af);refine AB (a.trans (Ao y)) fun kI105=>CK 14 Z<|A3 h fun g h=>?_
    refine Ck 0 Z Aa8 CC.e y Z c.toNat (CT g) (AD g) fun cn a3=>AB (a.trans (Ao y)) fun kI108=>CK 15 Z ?_;have e97h0:=e97h0.mono (Ac af);refine CO 0 c.toNat (e.getD b.toNat Qq1) e97h0.one hH y Z a2 a3 (AD g) ⟨_,Z,e97h0⟩ fun co a4 a5 au a6=>En<|Cq<|A9<|A2<|Az<|Ar 1 Z<|A3 h fun o h=>Ag (AA o)<|Ar 1 Z<|A3 h fun p h=>Ag (AA p)<|Ar 2 Z<|AP ?_;have h:=BW.again h u;have hT:=hT.trans (m.trans (af.trans au));refine AN (_,_,_,_,_) ⟨a5,a6,hT,h⟩
   refine A3 h fun l h=>A3 h fun f h=>A3 h fun g h=>A3 h fun o h=>A3 h fun p h=>Ck 0 Z Aa8 CC.e d Z b.toNat (CT l) (AD l) ?_;intro cp ap;obtain⟨_,a7,hcell112⟩:=(k.mono a).at b.toNat _ (getD_some ((AD l)));obtain⟨e112v0,rfl,e112h0⟩:=a7;refine AB (a.trans (Ao d)) fun kI113=>Q3 7 11 Z Z ?_ ?_
   ·refine Ag (Ie 0 d ao (hcell93 0 _ Z))<|AB (a.trans (Ao d)) fun kI114=>CK 11 Z<|Ag (Ie 0 d ap (hcell112 0 _ Z))<|AB (a.trans (Ao d)) fun kI115=>CK 12 Z<|Ck 0 Z Aa8 CC.e d Z b.toNat (CT f) (AD f) fun cq a8=>AB (a.trans (Ao d)) fun kI117=>CK 13 Z<|CO 0 b.toNat (e.getD c.toNat Qq1) e93h0.one hH d Z (k.mono a) a8 (AD f) ⟨_,Z,e93h0⟩ ?_;intro cr ce aa ag a9;have a:=a.trans (Ac ag);refine AB (a.trans (Ao aa)) fun kI119=>CK 14 Z<|Ck 0 Z Aa8 CC.e aa Z c.toNat (CT g) (AD g) fun cs ba=>AB (a.trans (Ao aa)) fun kI121=>CK 15 Z ?_;have e112h0:=e112h0.mono (Ac ag);refine CO 0 c.toNat (e.getD b.toNat Qq1) e112h0.one hH aa Z a9 ba (AD g) ⟨_,Z,e112h0⟩ fun ct bb bc av bd=>En<|Cq ?_
    refine A9<|A2<|Az<|Ar 1 Z<|Ag (AA o)<|Ar 1 Z<|Ag (AA p)<|Ar 2 Z<|AP ?_;have h:=BW.again h u;have hT:=hT.trans (m.trans (ag.trans av));refine AN (_,_,_,_,_) ⟨bc,bd,hT,h⟩
   refine Ag (Ie 0 d ap (hcell112 0 _ Z))<|AB (a.trans (Ao d)) fun kI123=>CK 7 Z<|Ag (Ie 0 d ao (hcell93 0 _ Z))<|AB (a.trans (Ao d)) fun kI124=>CK 12 Z<|Ck 0 Z Aa8 CC.e d Z b.toNat (CT f) (AD f) fun cu be=>AB (a.trans (Ao d)) fun kI126=>CK 13 Z<|CO 0 b.toNat (e.getD c.toNat Qq1) e93h0.one hH d Z (k.mono a) be (AD f) ⟨_,Z,e93h0⟩ ?_;intro cv cf ab ah bf;have a:=a.trans (Ac ah);refine AB (a.trans (Ao ab)) fun kI128=>CK 14 Z<|Ck 0 Z Aa8 CC.e ab Z c.toNat (CT g) (AD g) fun cw bg=>AB (a.trans (Ao ab)) fun kI130=>CK 15 Z ?_;have e112h0:=e112h0.mono (Ac ah);refine CO 0 c.toNat (e.getD b.toNat Qq1) e112h0.one hH ab Z bf bg (AD g) ⟨_,Z,e112h0⟩ fun cx bh bi aw bj=>En<|Cq ?_
   refine A9<|A2<|Az<|Ar 1 Z<|Ag (AA o)<|Ar 1 Z<|Ag (AA p)<|Ar 2 Z<|AP ?_;have h:=BW.again h u;have hT:=hT.trans (m.trans (ah.trans aw));refine AN (_,_,_,_,_) ⟨bi,bj,hT,h⟩
  refine A3 h fun q h=>A3 h fun l h=>A3 h fun f h=>A3 h fun g h=>A3 h fun o h=>A3 h fun p h=>Ck 0 Z Aa8 CC.e d Z b.toNat (CT l) (AD l) ?_;intro cy al;have k:=k.mono (Ac m);obtain⟨_,bk,hcell132⟩:=(k.mono a).at b.toNat _ (getD_some ((AD l)));obtain⟨e132v0,rfl,e132h0⟩:=bk;refine AB (a.trans (Ao d)) fun kI133=>Q3 6 11 Z Z ?_ ?_
  ·refine Ck 0 Z Aa8 CC.e d Z c.toNat (CT q) (AD q) ?_;intro cz aq;obtain⟨_,bl,hcell134⟩:=(k.mono a).at c.toNat _ (getD_some ((AD q)));obtain⟨e134v0,rfl,e134h0⟩:=bl;refine AB (a.trans (Ao d)) fun kI135=>Q3 7 11 Z Z ?_ ?_
   ·refine Ag (Ie 0 d aq (hcell134 0 _ Z))<|AB (a.trans (Ao d)) fun kI136=>CK 11 Z<|Ag (Ie 0 d al (hcell132 0 _ Z))<|AB (a.trans (Ao d)) fun kI137=>CK 12 Z<|Ck 0 Z Aa8 CC.e d Z b.toNat (CT f) (AD f) fun c0 bm=>AB (a.trans (Ao d)) fun kI139=>CK 13 Z<|CO 0 b.toNat (e.getD c.toNat Qq1) e134h0.one hH d Z (k.mono a) bm (AD f) ⟨_,Z,e134h0⟩ ?_;intro c1 cg ac ai bn;have a:=a.trans (Ac ai);refine AB (a.trans (Ao ac)) fun kI141=>CK 14 Z<|Ck 0 Z Aa8 CC.e ac Z c.toNat (CT g) (AD g) fun c2 bo=>AB (a.trans (Ao ac)) fun kI143=>CK 15 Z ?_;have e132h0:=e132h0.mono (Ac ai);refine CO 0 c.toNat (e.getD b.toNat Qq1) e132h0.one hH ac Z bn bo (AD g) ⟨_,Z,e132h0⟩ fun c3 bp bq ax br=>En<|Cq ?_
    refine A9<|A2<|Az<|Ar 1 Z<|Ag (AA o)<|Ar 1 Z<|Ag (AA p)<|Ar 2 Z<|AP ?_;have h:=BW.again h u;have hT:=hT.trans (m.trans (ai.trans ax));refine AN (_,_,_,_,_) ⟨bq,br,hT,h⟩
   refine Ag (Ie 0 d al (hcell132 0 _ Z))<|AB (a.trans (Ao d)) fun kI145=>CK 7 Z<|Ag (Ie 0 d aq (hcell134 0 _ Z))<|AB (a.trans (Ao d)) fun kI146=>CK 12 Z<|Ck 0 Z Aa8 CC.e d Z b.toNat (CT f) (AD f) fun c4 bs=>AB (a.trans (Ao d)) fun kI148=>CK 13 Z<|CO 0 b.toNat (e.getD c.toNat Qq1) e134h0.one hH d Z (k.mono a) bs (AD f) ⟨_,Z,e134h0⟩ ?_;intro c5 ch ad aj bt;have a:=a.trans (Ac aj);refine AB (a.trans (Ao ad)) fun kI150=>CK 14 Z<|Ck 0 Z Aa8 CC.e ad Z c.toNat (CT g) (AD g) fun c6 bu=>AB (a.trans (Ao ad)) fun kI152=>CK 15 Z ?_;have e132h0:=e132h0.mono (Ac aj);refine CO 0 c.toNat (e.getD b.toNat Qq1) e132h0.one hH ad Z bt bu (AD g) ⟨_,Z,e132h0⟩ fun c7 bv bw ay bx=>En<|Cq ?_
   refine A9<|A2<|Az<|Ar 1 Z<|Ag (AA o)<|Ar 1 Z<|Ag (AA p)<|Ar 2 Z<|AP ?_;have h:=BW.again h u;have hT:=hT.trans (m.trans (aj.trans ay));refine AN (_,_,_,_,_) ⟨bw,bx,hT,h⟩
  refine Ag (Ie 0 d al (hcell132 0 _ Z))<|AB (a.trans (Ao d)) fun kI154=>CK 6 Z<|Ck 0 Z Aa8 CC.e d Z c.toNat (CT q) (AD q) ?_;intro c8 bz;obtain⟨_,b0,hcell155⟩:=(k.mono a).at c.toNat _ (getD_some ((AD q)));obtain⟨e155v0,rfl,e155h0⟩:=b0;refine AB (a.trans (Ao d)) fun kI156=>CK 7 Z<|Ag (Ie 0 d bz (hcell155 0 _ Z))<|AB (a.trans (Ao d)) fun kI157=>CK 12 Z<|Ck 0 Z Aa8 CC.e d Z b.toNat (CT f) (AD f) fun c9 b1=>AB (a.trans (Ao d)) fun kI159=>CK 13 Z<|CO 0 b.toNat (e.getD c.toNat Qq1) e155h0.one hH d Z (k.mono a) b1 (AD f) ⟨_,Z,e155h0⟩ ?_;intro da ci ae ak b2;have a:=a.trans (Ac ak);refine AB (a.trans (Ao ae)) fun kI161=>CK 14 Z<|Ck 0 Z Aa8 CC.e ae Z c.toNat (CT g) (AD g) fun db b3=>AB (a.trans (Ao ae)) fun kI163=>?_
  refine CK 15 Z ?_;have e132h0:=e132h0.mono (Ac ak);refine CO 0 c.toNat (e.getD b.toNat Qq1) e132h0.one hH ae Z b2 b3 (AD g) ⟨_,Z,e132h0⟩ fun dc b4 b5 az b6=>En<|Cq<|A9<|A2<|Az<|Ar 1 Z<|Ag (AA o)<|Ar 1 Z<|Ag (AA p)<|Ar 2 Z<|AP ?_;have h:=BW.again h u;have hT:=hT.trans (m.trans (ak.trans az));refine AN (_,_,_,_,_) ⟨b5,b6,hT,h⟩
 refine Bq<|AK<|AF ?_;have h:=BW.out h u;refine Bj ?_
 cases h
 refine Et ⟨s,Z,an,hT,k⟩
def GL(a0:Aae)(a1:Int):Option Aae:=
 Qq8 (Ei a0 a1) (fun a=>Qq8 (G7 a) (fun b=>Qq8 (E9 b) (fun c=>Qq8 (GH c) (fun d=>some d))))
section
variable(w:World)(H:PH)(hH:Le H (hp w)) include hH
theorem NL{a0:Aae}{a1:Int}{a:Value}(m:AL .byte H a a0){r:Aae}(h:GL a0 a1=some r):
  Qqv 104 [a,No a1] w (fun v w'=>∃q,v=q/\Cv 5 .byte H w w' q r):=by
 refine AG 14 [(0,a),(1,No a1)] func104 Z fun hL=>AI 1 Z<|B1 2 Z<|Av h fun x1 s h=>Bv hL (I9 _ _ (Ao hL) (m.mono  Ai) s) ?_;rintro ad w2 ⟨_,rfl,e⟩ t b ae;have f:=e.mono (DN hL t);refine Av h fun x3 u h=>Bv b (MN _ _ (Ao b) f u) ?_;rintro ag w4 ⟨_,rfl,g⟩ x l o;obtain⟨aj,l,o,y⟩:=g.take hH b x;refine A1 1 Z<|B1 1 Z<|Av h fun x5 z h=>BO (Lg (a0:=x3) (O:=[]) hH l y z) ?_;rintro _ w6 ⟨y6_0,rfl,c,ah,j⟩;refine Al<|B1 1 Z<|Av h fun x7 aa h=>Bv c (L5 _ _ (Le.refl _) (c.KA hH (i:=0) Z j) aa) ?_;rintro ai w8 ⟨_,rfl,k⟩ ab d p;obtain⟨ak,d,p,ac⟩:=(k.Ov NV).take hH c ab;refine A1 1 Z<|Au ?_
 cases h
 refine Aj Z ⟨d.ext,_,Z,(d.Hn hH (i:=0) Z ac)⟩
def D0(a0:Int×AaG)(a1:Int)(a2:Aae)(a3:Aae):Option (Bool×Aae):=
 Qq8 (FR a0 a3 a1) (fun a=>if !a.2 then some (false,a2)else Bb (Go.E.Gx 1 (a2.length+a.1.length)) (some (true,(a2++a.1))))
def Dh(a0:Int×AaG)(a2 h:Int)(b:Aae)(a:Bool):Option (Aae×Bool):=
 if !a then some ([],false)else Qq8 (Ei b h) (fun c=>Qq8 (E7 (Rc (fun s x=>D0 a0 a2 s x)) c.1 c.2 (([]:Aae),true)) (fun d=>(fun(e:Aae) (lv:Bool)=>if lv then Qq8 (Ec a0 (1:Int)) (fun f=>if f then Bb (BH (3 * a2)) (Qq8 (GL e (3 * a2)) (fun g=>some (g,true)))else some (e,true))else some ([],false)) d.1 d.2))
def Ft(a0:Int×AaG)(a1:Aae)(a2 a3:Int):Option (Aae×Bool):=
 Qq8 (FQ a0 a2) (fun a=>Bb (BH (a * a3)) (Qq8 (Ec a0 (2:Int)) (fun c=>if c then Bb (BH (a * a3)) (Qq8 (L8 a1 (a * a3)) (fun b=>(Dh a0 a2 a) b.1 b.2))else(Dh a0 a2 a) a1 (decide ((a1.length:Int)=(a * a3))))))
theorem LB{a0:Int×AaG}{a1:Aae}{a2 a3:Int}{ad aq:Value}(aj:AL AaL H ad (a0.2))(ay:AL .byte H aq a1){r:Aae×Bool}(h:Ft a0 a1 a2 a3=some r):
  Qqv 70 [.agg #[No a0.1,ad],aq,No a2,No a3] w (fun v w'=>∃u0,v=.tuple #[u0,.bool r.2]/\AL .byte (un H (nw w w')) u0 (r.1)):=by
 refine QO (k:=60) [(0,.agg #[No a0.1,ad]),(1,aq),(2,No a2),(3,No a3)] func70 Z Z Z Z ?_;have hL:=AW.start w;refine Aq<|Cj (t:=70) Z Z hL fun w1 b1 c1 dm _=>Nh (t:=3) Z Z c1 fun w2 b2 c2 dn _=>AZ CC.e Z c2 fun w3 b3 aw a4 _=>AZ Fv.e Z aw fun w4 b4 a9 dq _=>Al<|Aq<|Ag (Ax 3 Z Jv.e a9 Z)<|Ag (Ae 2 Z a9 Z)<|Av h fun x5 c3 h=>A6 a9 (Me (a0:=a0) _ _ (Ao a9) (aj.mono  Ai) c3) fun w6 dy bd dr=>A1 1 Z<|B1 1 Z<|Ag (AT ay)<|Ar 2 Z<|A3 h fun c4 h=>Ag (AA c4)<|A1 2 Z ?_
 refine Bm (Aae×Bool×Value) (fun⟨ah,y,z⟩=>[(1,z),(4,(Aac b1)),(6,(Aac b2)),(8,(Aac b3)),(9,(Aac b4)),(10,No x5),(11,.bool y)]) (fun⟨ah,y,z⟩ wr=>DE w [.box b4 [.bool false] 4,.box b3 [Aaa] 22,.box b2 [No a2] 3,.box b1 [No a0.1,ad] 70] wr fun Oz=>AL .byte (gz H w wr Oz) z ah/\(Dh a0 a2 x5) ah y=some r) ?_ ?_
 ·refine Aq<|Ag (Ax 3 Z Jv.e bd Z)<|Av h fun dz ca h=>A6 bd (K7 (a0:=a0) _ _ (Ao bd) (aj.mono  Ai) ca) fun d0 ds ar dd=>Al<|Bi h ?_ ?_<;>intro cb h
  ·refine Az<|Ar 3 Z<|A3 h fun cc h=>Ag (AA cc)<|Av h fun bz cd h=>Bv ar (O9 _ _ (Ao ar) (ay.mono  Ai) cd) ?_;rintro _ d1 ⟨bp,rfl,be⟩ ce cf de;have bf:=be.Dj hH ar ce;refine Ar 5 Z<|AP<|AH (_,_,_) ⟨cf,bf,h⟩
  refine A4<|AH (_,_,_) ⟨ar,(ay.mono  Ai),h⟩
 rintro⟨ah,y,z⟩ dt ⟨bg,ae,h⟩;refine AM<|AI 2 Z<|Bi h ?_ ?_<;>intro cg h
 ·refine Aq<|AY 1 Z Z Z bg Z Z fun d2 ch df=>AY 0 Z Z Z ch Z Z fun d3 a5 dg=>Al<|Au<|AE ?_
  cases h
  refine Ut ?_;refine fun az frz=>⟨_,MI Z Z Aag Z (Bo (i:=1) a5 Z) Z Aap Z (Bo (i:=0) a5 Z) frz,?_⟩;exact⟨a5.ext,_,Z,(AL.nil _ _)⟩
 refine A4<|A2<|Aq<|AZ CC.e Z bg fun d4 aa a6 bq _=>Al<|AM<|B1 2 Z<|Av h fun d5 ci h=>?_;have ae:=ae.mono (Ac bq);refine Bv a6 (I9 _ _ (Ao a6) ae ci) ?_;rintro dh b0 ⟨_,rfl,bh⟩ cj ck di;have am:=bh.mono (DN a6 cj);refine Al<|A8 ?_;obtain⟨cl,br,c⟩:=N9 (H:=H) 4 ck Z;obtain⟨cm,au,d⟩:=N9 (H:=H) 3 cl Z;obtain⟨bi,ab,ag⟩:=CF .byte H 5 cm;have a7:AW w [.row Aaa 5 1 (([]:Aae)).length ([]),.box b3 [Aaa] 22,.box aa [Aaa] 22,.box b4 [.bool false] 4] b0:=bi.Bn [3,1] Z;have f:=AJ [3,1] bi a7 Z;have bj:AW w [.box aa [Aaa] 22,.row Aaa 5 1 (([]:Aae)).length ([]),.box b3 [Aaa] 22,.box b4 [.bool false] 4] b0:=a7.Bn [2] Z;have g:=AJ [2] a7 bj Z;have am:=am.mono (Ac (br.trans (au.trans (ab.trans (f.trans g)))));obtain⟨zi0,zi1,zi2,rfl,an,ao,ap⟩:=am;refine S0 (cap:=[.pointer (some zi0),.pointer (some zi2)]) Z ⟨Tryz.f143,_,func143,Z,Z⟩ bj ?_;intro af fr fn lY DY wY rec hrec hLY hleY
 have hcb:Yc prog w H lY .byte (σ:=Aae×Bool) (fun s R G=>∃(v:Value) (xs:Qq5),R=([.box aa [v] 22,.row v 5 1 s.1.length xs,.obj lY (.loop (Y8 rec s.2)),.obj DY (.deferred (some [])),.box b3 [Aaa] 22,.box b4 [.bool false] 4]:List BN)/\A5 .byte G s.1 xs/\CJ G ⟨b1,0,none⟩ [No a0.1,ad]/\AL AaL G ad (a0.2)/\CJ G ⟨b2,0,none⟩ [No a2]) (Rc (fun s x=>D0 a0 a2 s x)):=by
  subst hrec;refine⟨fun hle ⟨v,xs,e,he,j0,j1,j2⟩=>⟨v,xs,e,he.mono hle,j0.mono hle,j1.mono hle,j2.mono hle⟩,?_⟩;rintro w1 O R ⟨a2,lv⟩ r0 a3 va3 hL ax ⟨va2_0,xsa2_0,rfl,b,q,j,u⟩ h;obtain⟨rfl,r,h0,rfl⟩:=Tj h;clear h;have h:=h0;clear h0;have hL:=hL.perm Qzc;have ax:=ax.mono  CN;have b:=b.mono  CN;have q:=q.mono  CN;have j:=j.mono  CN;have u:=u.mono  CN;refine Sy Z ⟨fr.size,Z,fr.get⟩ Z (hL.at (i:=2) Z)<|OJ Z Tz<|Ar 1 Z<|AP<|Sg (i:=2) Z hL Z ?_;intro w hLB hleB;clear hL;have hL:=hLB;have ax:=ax.mono (Ac hleB);have b:=b.mono (Ac hleB);have q:=q.mono (Ac hleB);have j:=j.mono (Ac hleB);have u:=u.mono (Ac hleB);have hT:=XE hL;refine Sf ?_;have a:=hL.rG H;refine RC Z<|Ag (Ce (q.mono a) (Ao hL))<|Ar 1 Z<|Ag (AX (u.mono a) (Ao hL))<|Av h fun x2 c6 h=>Bv hL (Mg (a0:=a0) _ _ (Ao hL) (j.mono a) (ax.mono a) c6) ?_;rintro _ w3 ⟨dv,rfl,bs⟩ c7 aw a4;have ac:=bs.mono (DN hL c7)
  have a:=a.trans (Ac a4);have hT:=hT.trans a4;refine Ar 5 Z<|OY<|VA<|RC Z<|Ar 2 Z<|OY<|VE Z h ?_ ?_<;>intro c8 h
  ·refine RC Z<|AY 4 Z Z Z aw Z Z ?_;intro we1 cn ba;have a:=a.trans (Ac ba);have hT:=hT.trans ba;refine AY 5 Z Z Z cn Z Z ?_;intro we2 co bb;have a:=a.trans (Ac bb);have hT:=hT.trans bb;refine OY<|Y7<|S1<|Ay ?_
   cases h
   refine RD (i:=2) co Z ?_;intro wE hLE hlE;refine⟨Z,_,?_,?_,va2_0,xsa2_0,Z,?_,?_,?_,?_⟩
   ·exact hLE.perm Qzc
   ·exact Qz ((hleB.trans hT).trans hlE)
   ·exact((b.mono a).mono (Ac hlE)).mono (Hi hH Qzc)
   ·exact(q.mono (Ac (hT.trans hlE))).mono (Hi hH Qzc)
   ·exact(j.mono (Ac (hT.trans hlE))).mono (Hi hH Qzc)
   ·exact(u.mono (Ac (hT.trans hlE))).mono (Hi hH Qzc)
  ·refine WW<|WZ<|Oj Z<|Ag (Ae 0 Z aw Z)<|Ar 1 Z<|A3 h fun c9 h=>BL (r:=.byte) 1 a2 x2.1 Z Aag aw Z (b.mono a) ac c9 ?_;intro v7 w7 da b5 a8 bk;have ac:=ac.mono (Ac a8);have a:=a.trans (Ac a8);have hT:=hT.trans a8;refine AY 0 Z Z (row_one (b5.at (i:=1) Z)) b5 Z Z ?_;intro w9 db av;have ac:=ac.mono (Ac av);have bk:=bk.mono (Ac av);have a:=a.trans (Ac av);have hT:=hT.trans av;refine AP<|A9 ?_
   cases h
   refine Ow (i:=2) db Z ?_;intro wE hLE hlE;refine⟨Z,_,?_,?_,v7,da,Z,?_,?_,?_,?_⟩
   ·exact hLE.perm Qzc
   ·exact Qz ((hleB.trans hT).trans hlE)
   ·exact(bk.mono (Ac hlE)).mono (Hi hH Qzc)
   ·exact(q.mono (Ac (hT.trans hlE))).mono (Hi hH Qzc)
   ·exact(j.mono (Ac (hT.trans hlE))).mono (Hi hH Qzc)
   ·exact(u.mono (Ac (hT.trans hlE))).mono (Hi hH Qzc)
 refine Av h fun dc bl h=>?_;obtain⟨b6,lvZ⟩:=dc;dsimp only at h
 cases lvZ
 ·have h:=LF Z h;have hLS:AW w (Qzu ([.box aa [Aaa] 22,.row Aaa 5 1 ([]:Aae).length [],.obj lY (.loop rec),.obj DY (.deferred (some [])),.box b3 [Aaa] 22,.box b4 [.bool false] 4]:List BN) []) wY:=hLY.Bn [3,3] Z;have hleS:Le (fz wY _) (fz wY (Qzu ([.box aa [Aaa] 22,.row Aaa 5 1 ([]:Aae).length [],.obj lY (.loop rec),.obj DY (.deferred (some [])),.box b3 [Aaa] 22,.box b4 [.bool false] 4]:List BN) [])):=AJ [3,3] hLY hLS Z;have c:=c.mono (Ac (au.trans (ab.trans (f.trans (g.trans hleY)))));have d:=d.mono (Ac (ab.trans (f.trans (g.trans hleY))));have ag:=ag.mono (Ac (f.trans (g.trans hleY)));have an:=an.mono (Ac hleY);have ao:=ao.mono (Ac hleY);have ap:=ap.mono (Ac hleY);have hcY:=FH hH hcb (O:=[]) (hLS.perm Qzc) ((ao.mono (Ac hleS)).mono  CN) ((an.mono (Ac hleS)).mono  CN) ((ap.mono (Ac hleS)).mono  CN) ⟨_,_,Z,(ag.mono (Ac hleS)).mono  CN,(c.mono (Ac hleS)).mono  CN,((aj.mono  Ai).mono (Ac hleS)).mono  CN,(d.mono (Ac hleS)).mono  CN⟩ bl
  refine hcY.2.mono fun e wZ ⟨vZ,heZ,hRZ⟩=>⟨⟨vZ,heZ⟩,?_⟩;obtain⟨_,RZ,hLZ,hleZ,vZ2,xsZ,rfl,hJZ,_,_,_⟩:=hRZ;have hLZ:=hLZ.perm Qzc;have hJZ:=hJZ.mono  CN;have hleZ:=hleS.trans (Qy hleZ);have cp:AW w [.obj lY (.loop {rec with state:=.done,pending:=some .ret}),.box aa [vZ2] 22,.row vZ2 5 1 (b6).length xsZ,.obj DY (.deferred (some [])),.box b3 [Aaa] 22,.box b4 [.bool false] 4] wZ:=hLZ.Bn [2] Z;refine .inr ⟨_,cp,fun wX hLX hleX=>?_⟩;refine Ay<|AE ?_
  cases h
  refine O8 3 hLX Z ?_;intro wE hLE hlE;refine fun az frz=>⟨_,MI Z Z Aag Z (Bo (i:=4) hLE Z) Z Aap Z (Bo (i:=5) hLE Z) frz,?_⟩;exact⟨hLE.ext,_,Z,(AL.nil _ _)⟩
 have h:=LD Z h;have hLS:AW w (Qzu ([.box aa [Aaa] 22,.row Aaa 5 1 ([]:Aae).length [],.obj lY (.loop rec),.obj DY (.deferred (some [])),.box b3 [Aaa] 22,.box b4 [.bool false] 4]:List BN) []) wY:=hLY.Bn [3,3] Z;have hleS:Le (fz wY _) (fz wY (Qzu ([.box aa [Aaa] 22,.row Aaa 5 1 ([]:Aae).length [],.obj lY (.loop rec),.obj DY (.deferred (some [])),.box b3 [Aaa] 22,.box b4 [.bool false] 4]:List BN) [])):=AJ [3,3] hLY hLS Z;have c:=c.mono (Ac (au.trans (ab.trans (f.trans (g.trans hleY)))));have d:=d.mono (Ac (ab.trans (f.trans (g.trans hleY))));have ag:=ag.mono (Ac (f.trans (g.trans hleY)));have an:=an.mono (Ac hleY);have ao:=ao.mono (Ac hleY);have ap:=ap.mono (Ac hleY);have hcY:=FH hH hcb (O:=[]) (hLS.perm Qzc) ((ao.mono (Ac hleS)).mono  CN) ((an.mono (Ac hleS)).mono  CN) ((ap.mono (Ac hleS)).mono  CN) ⟨_,_,Z,(ag.mono (Ac hleS)).mono  CN,(c.mono (Ac hleS)).mono  CN,((aj.mono  Ai).mono (Ac hleS)).mono  CN,(d.mono (Ac hleS)).mono  CN⟩ bl
 refine hcY.2.mono fun e wZ ⟨vZ,heZ,hRZ⟩=>⟨⟨vZ,heZ⟩,?_⟩;obtain⟨_,RZ,hLZ,hleZ,vZ2,xsZ,rfl,hJZ,_,_,_⟩:=hRZ;have hLZ:=hLZ.perm Qzc;have hJZ:=hJZ.mono  CN;have hleZ:=hleS.trans (Qy hleZ);have bm:AW w [.obj lY (.loop rec),.box aa [vZ2] 22,.row vZ2 5 1 (b6).length xsZ,.obj DY (.deferred (some [])),.box b3 [Aaa] 22,.box b4 [.bool false] 4] wZ:=hLZ.Bn [2] Z;have ai:=AJ [2] hLZ bm Z;refine .inl ⟨_,bm,fun wX hLX hleX=>?_⟩;refine A9<|A2<|AM ?_;have n:=hLX.rG H;refine Aq ?_;have c:=c.mono (Ac (hleZ.trans (ai.trans hleX)));refine Ag (Ce (c.mono n) (Ao hLX))<|Av h fun d6 cq h=>A6 hLX (K7 (a0:=a0) _ _ (Ao hLX) (aj.mono  Ai) cq) fun d7 dx o bc=>Al<|Bi h ?_ ?_<;>intro cr h
 ·refine Az<|Ag (Ae 1 Z o Z) ?_;have d:=d.mono (Ac (hleZ.trans (ai.trans hleX)));have n:=n.trans (Ac bc);refine Ag (AX (d.mono n) (Ao o))<|A3 h fun cs h=>Ag (AA cs)<|Av h fun d8 ct h=>?_;have hJZ:=hJZ.mono (Ac (ai.trans hleX));refine Bv o (NL _ _ (Le.refl _) (o.KA hH (i:=2) Z (hJZ.mono n)) ct) ?_;rintro dj d9 ⟨_,rfl,bn⟩ cu cv dk;have p:=(bn.Ov NV).Dj hH o cu;refine AY 1 Z Z p.one cv Z Z fun ea bo bt=>AP<|A2<|Aq<|Ag (Ae 1 Z bo Z)<|AY 4 Z Z p.one bo Z Z fun eb cw bu=>AY 5 Z Z Z cw Z Z fun ec cx bv=>Al<|Au ?_
  cases h
  refine O8 3 cx Z ?_;intro wE hLE hlE;refine fun az frz=>⟨_,MI Z Z Aag Z (Bo (i:=4) hLE Z) Z Aap Z (Bo (i:=5) hLE Z) frz,?_⟩;have p:=p.mono (Ac (bt.trans (bu.trans (bv.trans hlE))));exact⟨hLE.ext,_,Z,(p.mono (GQ hH))⟩
 refine A4<|A2<|Aq<|Ag (Ae 1 Z o Z)<|AY 4 Z Z (row_one (o.at (i:=2) Z)) o Z Z fun ed cy bw=>AY 5 Z Z Z cy Z Z fun ee cz bx=>Al<|Au ?_
 cases h
 refine O8 3 cz Z ?_;intro wE hLE hlE;refine fun az frz=>⟨_,MI Z Z Aag Z (Bo (i:=4) hLE Z) Z Aap Z (Bo (i:=5) hLE Z) frz,?_⟩;have hJZ:=hJZ.mono (Ac (ai.trans hleX));have n:=n.trans (Ac (bc.trans (bw.trans (bx.trans hlE))));exact⟨hLE.ext,_,Z,((hLE.Hn hH (i:=2) Z (hJZ.mono n)).vec hH)⟩
end
end Go.Proofs.YtnmkjjgmnbmmnaaGreatDoor
end
noncomputable section
namespace Go.E
open Go Go.RowKit
theorem NC{P:Program}{L:Env}{w:World}{v:Value}{k₀:Nat}{fn:Func}{R:Value->World->Prop}{q q' q'' b c:ResultVar}{v' v'' d e:Value}[hl:Qqq fn.results (#[q,q',q'',b,c])](h:Rr P L w q v)(h':Rr P L w q' v')(h'':Rr P L w q'' v'')(h3:Rr P L w b d)(f:Rr P L w c e)(hR:R (.tuple #[v,v',v'',d,e]) w):At ⟨k₀,[]⟩ (Ml P fn R) .ret L w:=
 fun a fr=>⟨fr.defers,_,by rw[HN,hl.e];simp[h.run fr,h'.run fr,h''.run fr,h3.run fr,f.run fr],_,Z,hR⟩
theorem Q2{Inv:World->Prop}{P:Program}{n:Sz}{lo:List Oper}{Q:Exit->Act->World->Prop}{L:Env}{w:World}{fuel m:Nat}{done:List Nat}{α:Type}[Inhabited α]{r:Rp α}{H:PH}{l:List α}{k:IntKind}{i:Int}{zz v:Value}{bt d:Nat}{ty t e:TypeId}{pos:String}{af:Array Edge}{x y:Operand}(ix:Nat)(hq:GR Q)(hI:Inv w)(hc:(NW lo m done ix&&YJ lo.toArray (MY m done))=true)(ho:HL lo ix=some ⟨some d,.indexAddr t x y,ty,pos,af,none⟩)
  (hx:ev L x=some v) (hy:ev L y=some (.int k i)) (ht:P.underlying t=some (.slice e)) [he:Qqx P e zz r.sz bt] (hv:AL r H v l) (j:Nat) (hm:i=(j:Int)) (hlt:j<l.length) (hn:Nat.blt d n.n=true)
  (h:∀p c,r.rel H (l.getD j Qq1) c->CJ H p c->Nw Inv P n lo Q fuel (MY m (ix::done)) ((d,.pointer (some p))::L) w):Nw Inv P n lo Q (fuel+1) (MY m done) L w:=by
 obtain⟨p,c,h1,h2,h3⟩:=P4 (P:=P) (ty:=ty) hx hy ht he.e hv j hm (getD_some hlt);exact Aw ix hq hI (hc:=hc) ho (fun w _=>h3 w) hn (h p c h1 h2)
end Go.E
end
noncomputable section
namespace Go.Proofs.YtnmkjjgmnbmmnaaGreatDoor
open Go Go.E Go.RowKit Go.L
set_option maxHeartbeats 1000000
set_option maxRecDepth 10000
open _root_.Go.Proofs.Tryz
def KS(f:Int)(e:AaG)(a b:Int)(c:Aae)(d:Bool):Option (Int×Int×Aae×(Int×AaG)×Bool):=
 some (a,b,c,(f,e),d)
def Ge(e:Int)(f:AaG)(b c:Int)(a:Aae):Option (Int×Int×Aae×(Int×AaG)×Bool):=
 if(a.length:Int)<2 then some (0,0,[],(0,[]),false)else Bb (0<=(0:Int)/\(0:Int)<(a.length:Int)) (Bb (BH (((a.getD ((0:Int).toNat) Qq1).toNat:Int) * 256)) (Bb (0<=(1:Int)/\(1:Int)<(a.length:Int)) (Bb ((0<=(((a.getD ((0:Int).toNat) Qq1).toNat:Int) * 256)/\(((a.getD ((0:Int).toNat) Qq1).toNat:Int) * 256)<2 ^ 63)/\(0<=((a.getD ((1:Int).toNat) Qq1).toNat:Int)/\((a.getD ((1:Int).toNat) Qq1).toNat:Int)<2 ^ 63)) (Bb (BH ((a.length:Int) - 2)) (if(((((a.getD ((0:Int).toNat) Qq1).toNat:Int) * 256).toNat ||| ((a.getD ((1:Int).toNat) Qq1).toNat:Int).toNat:Nat):Int)=((a.length:Int) - 2)then Bb (0<=(2:Int)/\(2:Int)<=(a.length:Int)) (Qq8 (Ft (e,f) (a.drop (2:Int).toNat) b c) (fun d=>(KS e) f b c d.1 d.2))else some (0,0,[],(0,[]),false))))))
def Jk(e:Aae×Bool)(c a b:Int):Option (Int×Int×Aae×(Int×AaG)×Bool):=
 Bb (0<=(3:Int)/\(3:Int)<=(e.1.length:Int)) (Qq8 (Hj c) (fun f=>if(bif (bif (bif (bif !f then true else decide (a<1))then true else decide (64<a))then true else decide (b<1))then true else decide (64<b))then some (0,0,[],(0,[]),false)else Qq8 (Ew (c,[])) (fun g=>if g then Qq8 (Dk (c,[])) (fun h=>Qq8 (G6 (e.1.drop (3:Int).toNat) h) (fun d=>if !d.2.2 then some (0,0,[],(0,[]),false)else(Ge c) d.1 a b d.2.1))else(Ge c) ([]) a b (e.1.drop (3:Int).toNat))))
def Lh(a0:Aae):Option (Int×Int×Aae×(Int×AaG)×Bool):=
 Bb ([(82:UInt8),(65:UInt8),(83:UInt8),(49:UInt8)]≠[]) (Qq8 (KC a0 ([(82:UInt8),(65:UInt8),(83:UInt8),(49:UInt8)])) (fun a=>if((!a.2)||(decide ((a.1.length:Int)<3)))then some (0,0,[],(0,[]),false)else Bb (0<=(0:Int)/\(0:Int)<(a.1.length:Int)) (Bb (0<=(1:Int)/\(1:Int)<(a.1.length:Int)) (Bb (0<=(2:Int)/\(2:Int)<(a.1.length:Int)) ((Jk a) ((a.1.getD ((0:Int).toNat) Qq1).toNat:Int) ((a.1.getD ((1:Int).toNat) Qq1).toNat:Int) ((a.1.getD ((2:Int).toNat) Qq1).toNat:Int))))))
section
variable(w:World)(H:PH)(hH:Le H (hp w)) include hH
theorem P1{a0:Aae}{a8:Value}(cy:AL .byte H a8 a0){r:Int×Int×Aae×(Int×AaG)×Bool}(h:Lh a0=some r):
  Qqv 25 [a8] w (fun v w'=>∃u0 u1,v=.tuple #[No r.1,No r.2.1,u0,.agg #[No r.2.2.2.1.1,u1],.bool r.2.2.2.2]/\AL .byte (un H (nw w w')) u0 (r.2.2.1)/\AL AaL (un H (nw w w')) u1 (r.2.2.2.1.2)):=by
 refine AG 107 [(0,a8)] func25 Z fun hL=>B1 3 Z<|AZ Jv.e Z hL fun w1 b1 dk d1 _=>A1 1 Z<|B1 1 Z<|NU [(82:UInt8),(65:UInt8),(83:UInt8),(49:UInt8)] (r:=.byte) (fun _=>W2 _ _ _ _ _) (Ch 4) hH dk (.c1 Z (.c1 Z (.c1 Z (.c1 Z .nil)))) fun v2 w2 ei dl d2 dm=>A3 h fun dn h=>YT 0 Z Aag Aah hH dl Z dm dn fun w3 bq d3 dp=>Av h fun x5 dq h=>Bv bq (Oa _ _ (Ao bq) (cy.mono  Ai) dp dq) ?_;rintro _ w6 ⟨br,rfl,ck⟩ dr bs d4;have g:=ck.mono (DN bq dr);refine A1 5 Z<|AM<|B1 3 Z<|BS 4 21 (.bool ((!x5.2)||(decide ((x5.1.length:Int)<3)))) (fun cw=>?_) ?_
 ·refine Bk (s:=17) Z (fun aa=>?_) (fun aa=>?_)
  ·iterate 3 refine Ab aa ?_
   refine Ag (Ak aa Z)<|cw.to 3 (GS aa) Z Z
  refine Aa aa<|Ag (Ad Z)<|Aa aa<|Ag (AT g)<|Aa aa<|Ag (Ad Z)<|Ag (Am aa Z)<|cw.to 3 (GU aa) Z Z
 refine Al<|Bi h ?_ ?_<;>intro ds h
 ·refine Aq<|Ag (B7 (fun _=>Ox _))<|Ar 3 Z<|A7 0 Z bs Z fun ej bt dv=>A1 1 Z<|Au<|AE ?_
  cases h
  refine NC (.tmp Z) (.tmp Z) (.tmp Z) (.cell Z Aa9 Z Jv.e (Bo (i:=0) bt Z)) (.tmp Z) ⟨bt.ext,_,_,Z,(AL.nil _ _),(AL.nil _ _)⟩
 refine A4<|A2<|Bm (Int×Int×Int) (fun⟨k,p,t⟩=>[(2,No p),(3,No t),(5,(Aac b1)),(7,br)]) (fun⟨k,p,t⟩ wr=>DE w [.box b1 [No k,Aaa] 70] wr fun Oz=>AL .byte (gz H w wr Oz) br (x5.1)/\(Jk x5) k p t=some r) ?_ ?_
 ·refine Ek (IB Gy) (fun z0 z=>Le (gz H w z0 [.box b1 [No 0,Aaa] 70]) (hp z)) mixed Z (fun d ek bu=>?_);have a9:=bs.call bu;have cl:=Bd bs bu;have o:=a9.rG H;refine Gz (o.trans (Ao a9)) fun kI33=>Aw 0 d kI33 Z (fun _ _=>Ad Z) Z<|A3 h fun bv h=>?_;have g:=g.mono (Ac cl);refine Q2 1 d kI33 V Z Z Z Aag (g.mono o) ((0:Int).toNat) (CT bv) (AD bv) Z ?_;rintro el _ rfl c0;refine Aw 2 d kI33 Z (fun _ hI=>AX c0 hI) Z<|Aw 3 d kI33 Z (fun _ _=>EA (G8 _)) Z<|Aw 4 d kI33 Z (fun _ _=>Ad Z) Z<|A3 h fun bw h=>Q2 5 d kI33 V Z Z Z Aag (g.mono o) ((1:Int).toNat) (CT bw) (AD bw) Z ?_;rintro em _ rfl c2;refine Aw 6 d kI33 Z (fun _ hI=>AX c2 hI) Z<|Aw 7 d kI33 Z (fun _ _=>EA (G8 _)) Z<|Aw 8 d kI33 Z (fun _ _=>Ad Z) Z<|A3 h fun bx h=>?_
  refine Q2 9 d kI33 V Z Z Z Aag (g.mono o) ((2:Int).toNat) (CT bx) (AD bx) Z ?_;rintro en _ rfl c3;refine Aw 10 d kI33 Z (fun _ hI=>AX c3 hI) Z<|Aw 11 d kI33 Z (fun _ _=>EA (G8 _)) Z<|Aw 12 d kI33 Z (fun _ _=>Af Z Aa9 Z B4.e) Z<|CK 13 Z<|AY 0 Z Z Z a9 Z Z ?_;intro eo bz cm;have o:=o.trans (Ac cm);refine AB (o.trans (Ao bz)) fun kI41=>Aw 14 d kI41 Z (fun _ _=>Ad Z) Z<|Aw 15 d kI41 Z (fun _ _=>Ad Z) Z<|Cq<|AH (_,_,_) ⟨bz,(g.mono o),h⟩
 rintro⟨k,p,t⟩ d5 ⟨ba,b0,h⟩;refine B1 1 Z<|A3 h fun c4 h=>DQ b0 c4 fun dt ak=>A1 1 Z<|AM<|Aq<|Ag (Af Z Aa9 Z B4.e)<|Ag (Ae 0 Z ba Z)<|Av h fun ep c5 h=>A6 ba (MX _ _ (Ao ba) c5) fun eq d6 au bc=>Ar 2 Z<|Jz 2 4 Z Z Z Z Z Z Z<|Ar 1 Z<|Jz 2 8 Z Z Z Z Z Z Z<|Ar 1 Z<|Jz 2 12 Z Z Z Z Z Z Z<|Ar 1 Z<|Jz 2 16 Z Z Z Z Z Z Z<|Al<|Bi h ?_ ?_<;>intro c6 h
 ·refine Aq<|Ag (B7 (fun _=>Ox _))<|Ar 3 Z<|A7 0 Z au Z fun er b2 dw=>A1 1 Z<|Au<|AE ?_
  cases h
  refine NC (.tmp Z) (.tmp Z) (.tmp Z) (.cell Z Aa9 Z Jv.e (Bo (i:=0) b2 Z)) (.tmp Z) ⟨b2.ext,_,_,Z,(AL.nil _ _),(AL.nil _ _)⟩
 refine A4<|A2<|Bm (AaG×Int×Int×Aae×Value×Value) (fun⟨ar,ab,ac,an,al,ad⟩=>[(2,No ab),(3,No ac),(5,(Aac b1)),(7,ad)]) (fun⟨ar,ab,ac,an,al,ad⟩ wr=>DE w [.box b1 [No k,al] 70] wr fun Oz=>AL .byte (gz H w wr Oz) ad an/\AL AaL (gz H w wr Oz) al ar/\(Ge k) ar ab ac an=some r) ?_ ?_
 ·refine Aq<|Ag (Ax 0 Z Jv.e au Z)<|Av h fun es c7 h=>A6 au (IN (a0:=(k,[])) _ _ (Ao au) (AL.nil _ _) c7) fun et d7 av bd=>Al<|Bi h ?_ ?_<;>intro c8 h
  ·refine B1 1 Z<|Ag (Ax 0 Z Jv.e av Z)<|Av h fun eu c9 h=>A6 av (Fs _ _ (Ao av) (k,[]) (AL.nil _ _) c9) fun ev d8 aw cn=>Av h fun cx da h=>?_;have ak:=ak.mono (Ac (bc.trans (bd.trans cn)));refine Bv aw (ML _ _ (Ao aw) ak da) ?_;rintro _ ew ⟨co,cp,rfl,b3,b4⟩ b5 db dx;have ae:=b3.Dj hH aw b5;have ap:=b4.mono (DN aw b5);refine Ar 4 Z<|Ag (Af Z Aa9 Z UZ.e)<|AY 0 Z Z ae.one db Z Z fun ex b6 be=>A1 2 Z<|AI 2 Z<|Bi h ?_ ?_<;>intro dc h
   ·refine Aq<|Ag (B7 (fun _=>Ox _))<|Ar 3 Z<|A7 0 Z b6 Z fun ey b7 dy=>A1 1 Z<|Au<|Bp ?_
    cases h
    refine NC (.tmp Z) (.tmp Z) (.tmp Z) (.cell Z Aa9 Z Jv.e (Bo (i:=0) b7 Z)) (.tmp Z) ⟨b7.ext,_,_,Z,(AL.nil _ _),(AL.nil _ _)⟩
   refine A4 ?_;have ae:=ae.mono (Ac be);have ap:=ap.mono (Ac be);refine AH (cx.1,p,t,cx.2.1,co,cp) ⟨b6,ap,ae,h⟩
  refine A4 ?_;have ak:=ak.mono (Ac (bc.trans bd));refine AH ([],p,t,(x5.1.drop (3:Int).toNat),Aaa,dt) ⟨av,ak,(AL.nil _ _),h⟩
 rintro⟨ar,ab,ac,an,al,ad⟩ d9 ⟨b8,b,j,h⟩;refine AM<|CI (Qqz 0 19 (.tail 19)) mixed V (fun ez b9=>?_);have aq:=b8.call b9;have bf:=Bd b8 b9;refine BJ 1 Z ?_;have b:=b.mono (Ac bf);refine B9 Z (AT b) Z<|BJ 2 Z<|Ic 76 Z (fun a=>?_) (fun a=>?_)
 ·have h:=MQ (of_decide_eq_true a) h
  iterate 14 refine M3 Z Z Z Z a Z ?_
  refine B9 Z (Ak a Z) Z<|B8 (fun e0 dd=>?_);have de:=aq.call dd;refine Al<|Fy<|Aq<|Ag (B7 (fun _=>Ox _))<|Ar 3 Z<|A7 0 Z de Z fun e1 ca dz=>A1 1 Z<|Au<|AE ?_
  cases h
  refine NC (.tmp Z) (.tmp Z) (.tmp Z) (.cell Z Aa9 Z Jv.e (Bo (i:=0) ca Z)) (.tmp Z) ⟨ca.ext,_,_,Z,(AL.nil _ _),(AL.nil _ _)⟩
 have h:=MR (of_decide_eq_false a) h;refine CE Z (Ad Z) Z Z Z a Z<|A3 h fun cb h=>HM Z Z Z Z a Z Z Aag b ((0:Int).toNat) (CT cb) (AD cb) Z ?_;rintro e2 _ rfl df;refine CE Z (AX df (Ao aq)) Z Z Z a Z<|CE Z (EA (G8 _)) Z Z Z a Z<|A3 h fun cc h=>CE Z (Sb (c:=8) (m:=256) Qqb (wrap64 cc.1 cc.2)) Z Z Z a Z<|CE Z (Ad Z) Z Z Z a Z<|A3 h fun cd h=>HM Z Z Z Z a Z Z Aag b ((1:Int).toNat) (CT cd) (AD cd) Z ?_;rintro e3 _ rfl dg;refine CE Z (AX dg (Ao aq)) Z Z Z a Z<|CE Z (EA (G8 _)) Z Z Z a Z<|A3 h fun cq h=>CE Z (OH Z cq) Z Z Z a Z<|CE Z (Ad Z) Z Z Z a Z<|CE Z (AT b) Z Z Z a Z<|A3 h fun cr h=>CE Z (AA cr) Z Z Z a Z<|CE Z (Ad Z) Z Z Z a Z<|B9 Z (Am a Z) Z ?_
 refine B8 (fun ea bg=>?_);have ax:=aq.call bg;have a4:=Bd aq bg;refine Al<|DP h ?_ ?_<;>intro cs h
 ·refine Aq<|Ag (B7 (fun _=>Ox _))<|Ar 3 Z<|A7 0 Z ax Z fun eb bh du=>A1 1 Z<|Au<|AE ?_
  cases h
  refine NC (.tmp Z) (.tmp Z) (.tmp Z) (.cell Z Aa9 Z Jv.e (Bo (i:=0) bh Z)) (.tmp Z) ⟨bh.ext,_,_,Z,(AL.nil _ _),(AL.nil _ _)⟩
 refine A4<|A2<|CI (Qqz 0 5 (.h 5 (Qqz 6 5 (.tail 11)))) mixed V (fun ec bi=>?_);have u:=ax.call bi;have a5:=Bd ax bi;refine B9 Z (Ax 0 Z Jv.e u Z) Z<|BJ 1 Z<|A3 h fun ct h=>?_;have b:=b.mono (Ac (a4.trans a5));refine PU Z Z Aag b ct Z fun ed cu=>BJ 2 Z<|Av h fun ce cv h=>?_;have j:=j.mono (Ac (bf.trans (a4.trans a5)));refine IQ Z Z Z (fun dh x=>LB (a0:=(k,ar)) _ _ (Ao (u.call x)) (j.mono (Ac (Bd u x))) (cu.mono (Ac (Bd u x))) cv) ?_;rintro dh _ ee x ay ⟨cf,rfl,bp⟩;have az:=u.call x;have cg:=Bd u x;have bj:=az.call ay;have ch:=Bd az ay;have am:=bp.mono (DN az ay);refine BJ 5 Z<|B8 (fun ef bk=>?_);have bl:=bj.call bk;have a6:=Bd bj bk;refine Al ?_
 refine Bm (AaG×Int×Int×Aae×Bool×Value×Value) (fun⟨a1,af,ag,ah,ai,ao,y⟩=>[(2,No af),(3,No ag),(4,y),(5,(Aac b1)),(6,.bool ai)]) (fun⟨a1,af,ag,ah,ai,ao,y⟩ wr=>DE w [.box b1 [No k,ao] 70] wr fun Oz=>AL .byte (gz H w wr Oz) y ah/\AL AaL (gz H w wr Oz) ao a1/\(KS k) a1 af ag ah ai=some r) ?_ ?_
 ·refine Ek (IB Gy) (fun z0 z=>Le (gz H w z0 [.box b1 [No k,al] 70]) (hp z)) mixed Z (fun e eg bm=>?_);have aj:=bl.call bm;have a7:=Bd bl bm;have f:=aj.rG H;refine Gz (f.trans (Ao aj)) fun kI136=>Aw 0 e kI136 Z (fun _ _=>Ad Z) Z<|Aw 1 e kI136 Z (fun _ _=>Ad Z) Z<|Aw 2 e kI136 Z (fun _ _=>Ad Z) Z<|Aw 4 e kI136 Z (fun _ _=>Ad Z) Z<|Aw 5 e kI136 Z (fun _ _=>Ad Z) Z<|Aw 6 e kI136 Z (fun _ _=>Ad Z) Z<|Aw 7 e kI136 Z (fun _ _=>Ad Z) Z<|CK 3 Z<|Ag (Ax 0 Z Jv.e aj Z)<|AB (f.trans (Ao aj)) fun kI137=>CK 8 Z ?_;have j:=j.mono (Ac (cg.trans (ch.trans (a6.trans a7))));refine A7 0 Z aj Z (h1:=(BP Z (BP (j.mono f).one Mx))) ?_;intro eh bn ci;have f:=f.trans (Ac ci);refine AB (f.trans (Ao bn)) fun kI139=>Aw 9 e kI139 Z (fun _ _=>Ad Z) Z ?_
  refine Cq ?_;have am:=am.mono (Ac (a6.trans a7));refine AH (ar,ab,ac,ce.1,ce.2,al,cf) ⟨bn,(am.mono f),(j.mono f),h⟩
 rintro⟨a1,af,ag,ah,ai,ao,y⟩ d0 ⟨bo,bb,cj,h⟩;refine Au ?_
 cases h
 refine NC (.tmp Z) (.tmp Z) (.tmp Z) (.cell Z Aa9 Z Jv.e (Bo (i:=0) bo Z)) (.tmp Z) ⟨bo.ext,_,_,Z,(bb.mono (GQ hH)),(cj.mono (GQ hH))⟩
def Mj(a b c d:Int)(e:Aae)(f:List Aae)(g:List Pv)(h:Aae):Option (Pv×Aae×Qq6):=
 some ((Pv.mk c d e f g),h,(a,b))
def Ks:Option (Pv×Aae×Qq6):=
 Qq8 (Ki (21:Int) (-1:Int)) (fun a=>some ((Pv.mk (0:Int) (0:Int) ([]) ([]) ([])),[],a))
def MO(a0:Aae):Option (Pv×Aae×Qq6):=
 if 1000<(a0.length:Int)then Qq8 (Ki (3:Int) (-1:Int)) (fun e=>some ((Pv.mk (0:Int) (0:Int) ([]) ([]) ([])),[],e))else Qq8 (Lh a0) (fun b=>if b.2.2.2.2 then Qq8 (Md b.1 b.2.1 b.2.2.1) (fun a=>Qq8 (Cn a) (fun c=>if c.1=0/\c.2=0 then Qq8 (FT b.2.2.2.1) (fun d=>Mj (0:Int) (0:Int) a.f.1 a.f.2.1 a.f.2.2.1 a.f.2.2.2.1 a.f.2.2.2.2 d)else Ks))else Ks)
theorem QF{a0:Aae}{ao:Value}(a9:AL .byte H ao a0){r:Pv×Aae×Qq6}(h:MO a0=some r):
  Qqv 8 [ao] w (fun v w'=>∃u0 u1 u2 u3,v=.tuple #[.agg #[No r.1.f.1,No r.1.f.2.1,u0,u1,u2],u3,.agg #[No r.2.2.1,No r.2.2.2]]/\AL .byte (un H (nw w w')) u0 (r.1.f.2.2.1)/\AL .st (un H (nw w w')) u1 (r.1.f.2.2.2.1)/\AL .tree (un H (nw w w')) u2 (r.1.f.2.2.2.2)/\Cv 5 .byte H w w' u3 (r.2.1)):=by
 refine AG 39 [(0,ao)] func8 Z fun hL=>Aq<|AZ B5.e Z hL fun w1 b1 cg cw _=>Ar 1 Z<|AZ BB.e Z cg fun w2 b2 ae cx _=>Al<|AM<|B1 1 Z<|Ag (AT a9)<|A1 1 Z<|AS h ?_ ?_<;>intro ch h
 ·refine Aq<|Ag (B7 (fun _=>T3 _))<|Av h fun x5 ci h=>A6 ae (Mr _ _ (Ao ae) ci) fun w6 c8 cj cy=>A7 1 Z cj Z fun w7 ck cz=>Ar 1 Z<|A7 0 Z ck Z fun w8 bb c0=>Al<|Au<|AE ?_
  cases h
  refine P5 (.cell Z Aaz Z B5.e (Bo (i:=1) bb Z)) (.tmp Z) (.cell Z Aaj Z BB.e (Bo (i:=0) bb Z)) ⟨bb.ext,_,_,_,_,Z,(AL.nil _ _),(AL.nil _ _),(AL.nil _ _),Cv.nil⟩
 refine A4<|A2<|B1 1 Z<|Av h fun ab bt h=>Bv ae (P1 _ _ (Ao ae) (a9.mono  Ai) bt) ?_;rintro _ c9 ⟨ct,l,rfl,bc,bd⟩ be bu cu;have ac:=bc.mono (DN ae be);have c:=bd.mono (DN ae be);refine Ar 6 Z<|AZ Jv.e Z bu fun da au bv x _=>Ar 3 Z<|A7 0 Z bv Z (h1:=(BP Z (BP c.one Mx))) fun db t y=>A1 1 Z<|Bm Unit (fun(_:Unit)=>[(2,(Aac b1)),(4,(Aac b2))]) (fun(_:Unit) wr=>DE w [.box au [No ab.2.2.2.1.1,l] 70,.box b2 [No 0,No 0] 27,.box b1 [No 0,No 0,Aaa,Aaa,Aaa] 34] wr fun Oz=>AL AaL (gz H w wr Oz) l (ab.2.2.2.1.2)/\Ks=some r) ?_ ?_
 ·refine AI 1 Z<|Bi h ?_ ?_<;>intro bw h
  ·refine B1 3 Z<|Av h fun d bx h=>?_;have ac:=ac.mono (Ac (x.trans y));refine Bv t (OZ _ _ (Ao t) ac bx) ?_;rintro _ dc ⟨m,o,p,rfl,bf,bg,bh⟩ ap bz av;have e:=bf.Dj hH t ap;have g:=bg.mono (DN t ap);have j:=bh.mono (DN t ap);refine AZ B5.e Z bz fun dd bi b0 q _=>A7 0 Z b0 Z (h1:=(BP Z (BP Z (BP e.one (BP g.one (BP j.one Mx)))))) fun de af s=>Al ?_;have b:=af.rG H;refine Aq<|Ag (Ax 0 Z B5.e af Z)<|Av h fun df b3 h=>?_;have e:=e.mono (Ac (q.trans s));have g:=g.mono (Ac (q.trans s));have j:=j.mono (Ac (q.trans s));refine A6 af (HJ _ _ (Ao af) d (e.mono b) (g.mono b) (j.mono b) b3) fun dg c1 aq aw=>Ag (B7 (fun _=>Dx _))<|Ag (Xv Mq (OK _ _ _ _))<|Al<|AS h ?_ ?_<;>intro b4 h
   ·refine Bm (Int×Int×Int×Int×Aae×(List Aae)×(List Pv)×Aae×Value×Value×Value×Value×Qq5) (fun⟨ax,ay,az,a1,a2,a3,a4,an,ag,ah,ai,aj,aa⟩=>[(2,(Aac b1)),(3,aj),(4,(Aac b2))]) (fun⟨ax,ay,az,a1,a2,a3,a4,an,ag,ah,ai,aj,aa⟩ wr=>DE w [.row aj 5 1 (an).length aa,.box bi [No d.f.1,No d.f.2.1,m,o,p] 34,.box au [No ab.2.2.2.1.1,l] 70,.box b2 [No ax,No ay] 27,.box b1 [No az,No a1,ag,ah,ai] 34] wr fun Oz=>A5 .byte (gz H w wr Oz) an aa/\AL .byte (gz H w wr Oz) m (d.f.2.2.1)/\AL .st (gz H w wr Oz) o (d.f.2.2.2.1)/\AL .tree (gz H w wr Oz) p (d.f.2.2.2.2)/\AL AaL (gz H w wr Oz) l (ab.2.2.2.1.2)/\AL .byte (gz H w wr Oz) ag a2/\AL .st (gz H w wr Oz) ah a3/\AL .tree (gz H w wr Oz) ai a4/\Mj ax ay az a1 a2 a3 a4 an=some r) ?_ ?_
    ·refine Ek (IB (IB Gy)) (fun z0 z=>Le (gz H w z0 [.box bi [No d.f.1,No d.f.2.1,m,o,p] 34,.box au [No ab.2.2.2.1.1,l] 70,.box b2 [No 0,No 0] 27,.box b1 [No 0,No 0,Aaa,Aaa,Aaa] 34]) (hp z)/\z.heap[bi]? = some (.cells [No d.f.1,No d.f.2.1,m,o,p].toArray 34 (0,0))/\z.heap[au]? = some (.cells [No ab.2.2.2.1.1,l].toArray 70 (0,0))/\z.heap[b2]? = some (.cells [No 0,No 0].toArray 27 (0,0))) mixed Z (fun ak dh bj=>?_);have k:=aq.call bj;have bm:=Bd aq bj;have a:=k.rG H;refine Gz ⟨a.trans (Ao k),k.at (i:=0) Z,k.at (i:=1) Z,k.at (i:=2) Z⟩ fun kI86=>Aw 0 ak kI86 Z (fun _ hI=>Ku hI.2.1) Z<|Aw 1 ak kI86 Z (fun _ hI=>Ku hI.2.2.1) Z<|Aw 3 ak kI86 Z (fun _ _=>B7 (fun _=>Dx _)) Z<|CK 2 Z<|Av h fun cl b5 h=>?_;have c:=c.mono (Ac (x.trans (y.trans (av.trans (q.trans s)))));have b:=b.trans (Ac (aw.trans bm))
     refine Bv k (Mh (a0:=ab.2.2.2.1) _ _ (Ao k) ((c.mono b).mono a) b5) ?_;rintro bn di ⟨_,rfl,bk⟩ b6 u a5;obtain⟨b7,u,a5,ar⟩:=bk.take hH k b6;have a:=a.trans (Ac a5);refine AB ⟨a.trans (Ao u),u.at (i:=1) Z,u.at (i:=2) Z,u.at (i:=3) Z⟩ fun kI89=>CK 4 Z<|A7 4 Z u Z (h1:=(BP Z (BP Z (BP ((e.mono b).mono a).one (BP ((g.mono b).mono a).one (BP ((j.mono b).mono a).one Mx)))))) ?_;intro dj ad a6;have a:=a.trans (Ac a6);refine AB ⟨a.trans (Ao ad),ad.at (i:=1) Z,ad.at (i:=2) Z,ad.at (i:=3) Z⟩ fun kI91=>Aw 5 ak kI91 Z (fun _ _=>Ad Z) Z<|CK 6 Z<|A7 3 Z ad Z fun dk b8 a7=>En<|Cq ?_;have ar:=ar.mono (Ac (a6.trans a7));have a:=a.trans (Ac a7)
     refine AH (0,0,d.f.1,d.f.2.1,d.f.2.2.1,d.f.2.2.2.1,d.f.2.2.2.2,cl,m,o,p,bn,b7) ⟨b8,ar,((e.mono b).mono a),((g.mono b).mono a),((j.mono b).mono a),((c.mono b).mono a),((e.mono b).mono a),((g.mono b).mono a),((j.mono b).mono a),h⟩
    rintro⟨ax,ay,az,a1,a2,a3,a4,an,ag,ah,ai,aj,aa⟩ c3 ⟨al,bo,cm,cn,co,cp,bp,bq,br,h⟩;refine Au<|Bp ?_
    cases h
    refine P5 (.cell Z Aaz Z B5.e (Bo (i:=4) al Z)) (.tmp Z) (.cell Z Aaj Z BB.e (Bo (i:=3) al Z)) ⟨al.ext,_,_,_,_,Z,(bp.mono (GQ hH)),(bq.mono (GQ hH)),(br.mono (GQ hH)),(al.Hn hH (i:=0) Z bo)⟩
   refine A4 ?_;have b9:=aq.AR (i:=0) Z;have c:=c.mono (Ac (x.trans (y.trans (av.trans (q.trans s)))));have b:=b.trans (Ac (aw.trans (Ah (i:=0) Z)));refine AH () ⟨b9,(c.mono b),h⟩
  refine A4 ?_;have c:=c.mono (Ac (x.trans y));refine AH () ⟨t,c,h⟩
 rintro _ c4 ⟨bl,cq,h⟩;refine Aq<|Ag (B7 (fun _=>T3 _))<|Av h fun dl ca h=>A6 bl (Mr _ _ (Ao bl) ca) fun dm c5 cb cv=>A7 2 Z cb Z fun c6 bs cr=>Ar 1 Z<|A7 1 Z bs Z fun c7 am cs=>Al<|Au ?_
 cases h
 refine P5 (.cell Z Aaz Z B5.e (Bo (i:=2) am Z)) (.tmp Z) (.cell Z Aaj Z BB.e (Bo (i:=1) am Z)) ⟨am.ext,_,_,_,_,Z,(AL.nil _ _),(AL.nil _ _),(AL.nil _ _),Cv.nil⟩
end
end Go.Proofs.YtnmkjjgmnbmmnaaGreatDoor
end
noncomputable section
namespace Go.Proofs.YtnmkjjgmnbmmnaaGreatDoor
open Go Go.E Go.RowKit Go.L
abbrev Co:=UInt8×UInt8×UInt8
def Y9(c:Co):Qq3:=[c.1,c.2.1,c.2.2]
theorem S5{l:List Co}{c:Co}(hl:l.length<=1000):∀(n j:Nat),j+n=l.length->∃k:Int,C6 l c (j:Int)=some k
 | 0,j,hj=>⟨-1,by
  unfold C6;refine BA (m:=some (-1)) ?_;unfold BY ER;rw[if_neg U]⟩
 | n+1,j,hj=>by
  obtain⟨k,hk⟩:=S5 (c:=c) hl n (j+1) U
  have key:(∃k,BY l c (j:Int)=some (.inr k))\/BY l c (j:Int)=some (.inl ((j+1:Nat):Int)):=by
   unfold BY;rw[if_pos U,An]
   split
   ·exact .inl ⟨_,Z⟩
   ·rw[An (h:=(by unfold BH;omega))];exact .inr Z
  unfold C6 at hk ⊢
  rcases key with ⟨k',h⟩ | h
  ·exact⟨k',BA (m:=some k') h⟩
  ·exact⟨k,by rw[BK h];exact hk⟩
theorem Xb{l:List Co}(c:Co)(hl:l.length<=1000):∃b,C7 l c=some b:=by
 obtain⟨k,hk⟩:=S5 (c:=c) hl l.length 0 U;have hk:C6 l c (0:Int)=some k:=hk;unfold C7 FI;rw[hk];exact⟨_,Z⟩
theorem ZF{l:Qq3}(h:l.length=3):∃p q r,l=[p,q,r]:=by
 match l,h with
 | [p,q,r],_=>exact⟨p,q,r,Z⟩
theorem TJ{c0:UInt8}{t:Qq3}(ht:t.length<=1000)(h3:3 * c0.toNat<=t.length):∀(n j:Nat) (l:List Co),j+n=c0.toNat->l.length=j->(l.map Y9).flatten=t.take (3 * j)->
  ∃r,Ef (c0::t) (l,(j:Int))=some r/\(r.2.2=true->r.1.length=c0.toNat/\(r.1.map Y9).flatten=t.take (3 * c0.toNat)/\r.2.1=t.drop (3 * c0.toNat))
 | 0,j,l,hj,hl,hf=>by
  obtain rfl:j=c0.toNat:=by omega
  refine⟨(l,t.drop (3 * c0.toNat),true),?_,fun _=>⟨hl,hf,Z⟩⟩;have a:((c0::t).getD ((0:Int).toNat) Qq1)=c0:=Z;have b:((c0::t).drop (1:Int).toNat)=t:=Z;have c:((3:Int) * (c0.toNat:Int)).toNat=3 * c0.toNat:=by omega
  unfold Ef;refine BA (m:=some (l,t.drop (3 * c0.toNat),true)) ?_;unfold DD Hk;dsimp only;rw[a,b,c,if_neg U,An (h:=(by unfold BH;omega)),An]
 | n+1,j,l,hj,hl,hf=>by
  have a:((c0::t).getD ((0:Int).toNat) Qq1)=c0:=Z;have b:((c0::t).drop (1:Int).toNat)=t:=Z;have c:((3:Int) * (j:Int)).toNat=3 * j:=by omega
  have i:((3:Int) * ((j:Int)+1)).toNat - 3 * j=3:=by omega
  have d:((t.drop (3 * j)).take 3).length=3:=by simp only[QzA,QzQ];omega
  obtain⟨p,q,r,hy⟩:=ZF d;obtain⟨g,hg⟩:=Xb (l:=l) (p,q,r) U
  have key:DD (c0::t) (l,(j:Int))=if g then some (.inr ([],[],false))else some (.inl (l++[(p,q,r)],((j+1:Nat):Int))):=by
   unfold DD;dsimp only;rw[a,b,c,i,hy,if_pos U,An (h:=(by unfold BH;omega)),An (h:=(by unfold BH;omega)),An (h:=(by unfold BH;omega)),An,An (h:=(by simp))]
   show Qq8 (C7 l (p,q,r)) _=_
   rw[hg,Qq9]
   cases g
   ·rw[if_neg Qqb,if_neg Qqb,An (h:=(by unfold Gx;simp;omega)),An (h:=(by unfold BH;omega))]
    rfl
   ·rfl
  unfold Ef
  cases g
  ·have e:((l++[(p,q,r)]).map Y9).flatten=t.take (3 * (j+1)):=by
    rw[List.map_append,List.flatten_append,hf,show 3 * (j+1)=3 * j+3 by omega,List.take_add,hy]
    rfl
   obtain⟨z,f,k⟩:=TJ ht h3 n (j+1) (l++[(p,q,r)]) U (by simp[hl]) e;unfold Ef at f;exact⟨z,by rw[BK key];exact f,k⟩
  ·exact⟨_,BA (m:=some ([],[],false)) key,fun h=>by cases h⟩
theorem YA{b:Qq3}(hb:b.length<=1000)(d:Int):∃r,G6 b d=some r/\(r.2.2=true->b=Qzv r.1.length::((r.1.map Y9).flatten++r.2.1)/\1<=r.1.length/\r.1.length<=(if d=1 then 16 else 2)):=by
 have key:∀(m:Nat),m<=16->∃r,Eg b (m:Int)=some r/\(r.2.2=true->b=Qzv r.1.length::((r.1.map Y9).flatten++r.2.1)/\1<=r.1.length/\r.1.length<=m):=by
  intro m hm;unfold Eg
  match b,hb with
  | [],_=>exact⟨_,Z,fun h=>by cases h⟩
  | c0::t,hb=>
   have hb:t.length+1<=1000:=hb;have a:((c0::t).getD ((0:Int).toNat) Qq1)=c0:=Z;have c:((c0::t).drop (1:Int).toNat)=t:=Z;rw[if_neg (by simp only[Qzj];omega),An (h:=(by simp only[Qzj];omega)),a]
   split
   ·exact⟨_,Z,fun h=>by cases h⟩
   rename_i h0;rw[An (h:=(by simp only[Qzj];omega))]
   split
   ·exact⟨_,Z,fun h=>by cases h⟩
   rename_i h1;unfold Hl;have g:=c0.toNat_lt;rw[An (h:=(by simp only[Qzj];omega)),An (h:=(by simp only[Qzj];omega)),a,c,An (h:=(by unfold BH;omega))]
   split
   ·exact⟨_,Z,fun h=>by cases h⟩
   rename_i h2;obtain⟨r,r1,r2⟩:=TJ (c0:=c0) (t:=t) U U c0.toNat 0 [] U Z Z;refine⟨r,r1,fun h=>?_⟩;obtain⟨q1,e,f⟩:=r2 h;refine⟨?_,by omega,by omega⟩;rw[q1,e,f,List.take_append_drop,UInt8.ofNat_toNat]
 unfold G6
 split
 ·exact key 16 U
 ·exact key 2 U
theorem Zv{b:Qq3}(hb:b.length<=100000):∀(n j:Nat),j+n=b.length->j<=129->∃k:Nat,GJ b (j:Int)=some (k:Int)/\j<=k/\k<=b.length/\k<=129
 | 0,j,hj,a=>by
  refine⟨j,?_,by omega,by omega,a⟩;unfold GJ;refine BA (m:=some (j:Int)) ?_;unfold Fe GI;rw[if_neg U]
 | n+1,j,hj,a=>by
  have key:(Fe b (j:Int)=some (.inl ((j+1:Nat):Int))/\j<129)\/Fe b (j:Int)=some (.inr (j:Int)):=by
   unfold Fe GI;rw[if_pos U]
   split
   ·rw[An,An]
    split
    ·rw[An (h:=(by unfold BH;omega))];exact .inl ⟨Z,by omega⟩
    ·exact .inr Z
   ·exact .inr Z
  unfold GJ
  rcases key with ⟨h,h2⟩ | h
  ·obtain⟨k,c,f,d,e⟩:=Zv hb n (j+1) U U;unfold GJ at c;exact⟨k,by rw[BK h];exact c,by omega,d,e⟩
  ·exact⟨j,BA (m:=some (j:Int)) h,by omega,by omega,by omega⟩
theorem TK{b:Qq3}(hb:b.length<=100000)(h:0<b.length):∃k:Nat,K6 b=some (k:Int)/\1<=k/\k<=b.length/\k<=129:=by
 obtain⟨k,a,c,d,e⟩:=Zv hb (b.length - 1) 1 U U;refine⟨k,?_,c,d,e⟩;unfold K6;unfold GJ at a ⊢;rw[BK (s':=((1:Nat):Int)) ?_]
 ·exact a
 ·unfold Fe;rw[if_pos U,if_pos U,An,An,if_pos Z,An (h:=(by unfold BH;omega))]
  rfl
theorem ZQ{l s:Qq3}{k:Nat}(hl:l.length<=100000)(h1:1<=k)(h2:k<=s.length)(hs:s.length<=100000):∃l',Hs l s (k:Int)=some (.inl (l',s.drop k))/\l'.length=l.length+1+k:=by
 unfold Hs KN;have e:(k:Int).toNat=k:=Z;have ht:(s.take k).length=k:=by rw[QzA];omega
 rw[e,An (h:=(by unfold BH;omega)),An (h:=(by unfold Gx;simp;omega)),An,An (h:=(by unfold Gx;rw[ht,Qzk];simp;omega)),An];exact⟨_,Z,by rw[Qzk,Qzk,ht];rfl⟩
theorem XF{l s:Qq3}(hl:l.length<=100000)(hs:s.length<=100000):∀(n j:Nat),j+n=s.length->1<=j->j<=128->∃(k:Nat) (l':Qq3),Ht l s (j:Int)=some (.inl (l',s.drop k))/\1<=k/\k<=s.length/\l'.length=l.length+1+k
 | 0,j,hj,h1,d=>by
  obtain⟨l',q1,c⟩:=ZQ (l:=l) (s:=s) (k:=j) hl h1 U hs;refine⟨j,l',?_,h1,by omega,c⟩;unfold Ht;refine BA (m:=some (Sum.inl (l',s.drop j))) ?_;unfold Fx;rw[if_neg U,q1]
 | n+1,j,hj,h1,d=>by
  obtain⟨l',q1,c⟩:=ZQ (l:=l) (s:=s) (k:=j) hl h1 U hs
  have key:(Fx l s (j:Int)=some (.inl ((j+1:Nat):Int))/\j<128)\/Fx l s (j:Int)=some (.inr (.inl (l',s.drop j))):=by
   unfold Fx
   split
   ·rw[An];have hd:(s.drop (j:Int).toNat).length=s.length - j:=QzQ;obtain⟨k,a,_⟩:=TK (b:=s.drop (j:Int).toNat) U U;rw[a,Qq9]
    split
    ·rw[An (h:=(by unfold BH;omega))];exact .inl ⟨Z,by omega⟩
    ·rw[q1];exact .inr Z
   ·rw[q1];exact .inr Z
  unfold Ht
  rcases key with ⟨h,h2⟩ | h
  ·obtain⟨k,e,a,f⟩:=XF hl hs n (j+1) U U U;unfold Ht at a;exact⟨k,e,by rw[BK h];exact a,f⟩
  ·exact⟨j,l',BA (m:=some (Sum.inl (l',s.drop j))) h,h1,by omega,c⟩
theorem S6:∀(n:Nat) (l s:Qq3),s.length<=n->l.length+2 * s.length<=60000->∃r,Ji (l,s)=some r
 | n,l,s,hn,hb=>by
  by_cases h0:0<s.length
  ·match n,hn with
   | 0,hn=>omega
   | n+1,hn=>
    obtain⟨k,d,e,f,h⟩:=TK (b:=s) U h0
    have key:∃(m:Nat) (l':Qq3),GK (l,s)=some (.inl (l',s.drop m))/\1<=m/\m<=s.length/\l'.length<=l.length+1+m:=by
     unfold GK;dsimp only;rw[if_pos U,d,Qq9]
     split
     ·rw[An (h:=(by unfold BH;omega)),An,An (h:=(by unfold Gx;simp;omega)),An];exact⟨k,_,Z,e,f,by simp;omega⟩
     ·obtain⟨m,l',q1,a,c,g⟩:=XF (l:=l) (s:=s) U U (s.length - 1) 1 U U U;exact⟨m,l',q1,a,c,by omega⟩
    obtain⟨m,l',q1,a,c,g⟩:=key;obtain⟨r,hr⟩:=S6 n l' (s.drop m) (by rw[QzQ];omega) (by rw[QzQ];omega);unfold Ji at hr ⊢;exact⟨r,by rw[BK q1];exact hr⟩
  ·refine⟨l,?_⟩;unfold Ji;refine BA (m:=some l) ?_;unfold GK KO;dsimp only;rw[if_neg U]
theorem Xc{b:Qq3}(hb:b.length<=30000):∃r,MK b=some r:=S6 b.length [] b (Qzx _) (by simp;omega)
theorem Xd:∀n:Fin 201,KR (IntKind.u64.wrap ((1:Nat):Int)) (IntKind.u64.wrap ((n:Nat):Int))=some (0,((n:Nat):Int)):=by decide +kernel
theorem VI:∀n:Fin 201,IntKind.i64.wrap ((n:Nat):Int)=((n:Nat):Int):=by decide +kernel
theorem TL{N:Nat}(hN:N<=200):∀(m k:Nat) (l:Qq3),l.length=N->1<=k->k<=N->N<=k+m->∃y,Eh (l,(k:Int))=some y/\y.length=N
 | m,k,l,hl,h1,hk,hm=>by
  by_cases hlt:k<N
  ·match m,hm with
   | 0,hm=>omega
   | m+1,hm=>
    have e:(k:Int).toNat=k:=Z;obtain⟨y,y1,y2⟩:=TL hN m (k+min k (N - k)) (Mw l k) (by rw[Re U,hl]) U U U;refine⟨y,?_,y2⟩;unfold Eh at y1 ⊢;rw[BK (s':=(Mw l k,((k+min k (N - k):Nat):Int))) ?_]
    ·exact y1
    ·unfold DL;dsimp only;rw[e,if_pos U,An,An,An,An (h:=(by unfold BH;omega)),show(k:Int)+min (k:Int) ((l.length:Int) - (k:Int))=((k+min k (N - k):Nat):Int) by omega]
  ·refine⟨l,?_,hl⟩;unfold Eh;refine BA (m:=some l) ?_;unfold DL FJ;dsimp only;rw[if_neg U]
theorem YB{x:Qq3}(hx:x.length=1){n:Nat}(h1:1<=n)(hn:n<=200):∃y,EY x (n:Int)=some y/\y.length=n:=by
 have hm:=Xd ⟨n,by omega⟩;have hw:=VI ⟨n,by omega⟩;dsimp only at hm hw;have hr:((Qzw n (0:UInt8)).length:Int)=(n:Int):=by rw[List.length_replicate]
 have e:(n:Int).toNat=n:=Z;obtain⟨y,y1,y2⟩:=TL (N:=n) hn n 1 (Q0 (Qzw n (0:UInt8)) x) (by rw[S3,List.length_replicate]) (Qzx _) h1 U;refine⟨y,?_,y2⟩;unfold EY FL Mf;rw[if_neg U,hx,hm,Qq9,Qq9];unfold FK;dsimp only;rw[if_neg U,hw,e,hr,hx,An,An,show min (n:Int) ((1:Nat):Int)=((1:Nat):Int) by omega];exact y1
theorem VJ{l t:Qq3}{c:UInt8}(hl:l.length<=100000)(ht:t.length<=1000)(b:Bool)(h:b=true->129<=c.toNat/\0<t.length):
  EZ l (c::t) b=some (.inr ([],false))\/∃(m:Nat) (x:Qq3),EZ l (c::t) b=some (.inl (l++x,t.drop m))/\1<=m/\x.length<=129:=by
 have a:((c::t).getD ((0:Int).toNat) Qq1)=c:=Z;have d:((c::t).drop (1:Int).toNat)=t:=Z;have e:(1:Int).toNat=1:=Z;have g:=c.toNat_lt;unfold EZ;rw[a,d]
 cases b with
 | true=>
  obtain⟨h1,h2⟩:=h Z;have hx:(t.take 1).length=1:=by rw[QzA];omega
  obtain⟨y,y1,y2⟩:=YB hx (n:=c.toNat - 126) U U;rw[if_pos Z,e,An,An (h:=(by unfold BH;omega)),show(c.toNat:Int) - 126=((c.toNat - 126:Nat):Int) by omega,y1,Qq9,An (h:=(by unfold Gx;omega)),An];exact .inr ⟨1,y,Z,by omega,by omega⟩
 | false=>
  rw[if_neg Qqb]
  split
  ·split
   ·have f:((c.toNat:Int)+1).toNat=c.toNat+1:=by omega
    have hx:(t.take (c.toNat+1)).length=c.toNat+1:=by rw[QzA];omega
    rw[f,An (h:=(by unfold BH;omega)),An,An (h:=(by unfold Gx;omega)),An (h:=(by unfold BH;omega)),An];exact .inr ⟨_,_,Z,by omega,by omega⟩
   ·exact .inl Z
  ·exact .inl Z
theorem TM{a:Qq3}{z:Nat}(hz:z<=13000):∀(n:Nat) (l s:Qq3),s.length<=n->s.length<=1000->l.length<=13200->∃r,HK a (z:Int) (l,s)=some r/\(r.2=true->r.1.length=z)
 | n,l,s,hn,hs,hl=>by
  have stop:∃r:Qq3×Bool,Gl a (z:Int) l=some r/\(r.2=true->r.1.length=z):=by
   unfold Gl
   split
   ·obtain⟨q,hq⟩:=Xc (b:=l) U;rw[hq,Qq9];unfold Kw;exact⟨_,Z,fun _=>by show l.length=z;omega⟩
   ·exact⟨_,Z,fun h=>by cases h⟩
  obtain⟨r0,r1,r2⟩:=stop;unfold HK
  by_cases h0:0<s.length
  ·match n,s,hn,hs,h0 with
   | 0,_,hn,_,h0=>omega
   | n+1,c::t,hn,hs,_=>
    have hn:t.length+1<=n+1:=hn;have hs:t.length+1<=1000:=hs
    by_cases hlz:l.length<=z
    ·have d:((c::t).getD ((0:Int).toNat) Qq1)=c:=Z;have e:((c::t).drop (1:Int).toNat)=t:=Z
     have key:D4 a (z:Int) (l,c::t)=some (.inr ([],false))\/∃(m:Nat) (x:Qq3),D4 a (z:Int) (l,c::t)=some (.inl (l++x,t.drop m))/\1<=m/\x.length<=129:=by
      unfold D4 JI;dsimp only;rw[if_pos (by simp only[Qzj];omega),if_pos U,An (h:=(by simp only[Qzj];omega)),An (h:=(by simp only[Qzj];omega)),d,e]
      split
      ·exact VJ U U _ (fun h=>⟨by omega,by have:=of_decide_eq_true h;omega⟩)
      ·exact VJ U U _ (fun h=>by cases h)
     rcases key with h | ⟨m,x,h,h1,h2⟩
     ·exact⟨_,BA (m:=some ([],false)) h,fun h=>by cases h⟩
     ·obtain⟨r,q1,f⟩:=TM hz n (l++x) (t.drop m) (by rw[QzQ];omega) (by rw[QzQ];omega) (by rw[Qzk];omega);unfold HK at q1;exact⟨r,by rw[BK h];exact q1,f⟩
    ·refine⟨r0,BA (m:=some r0) ?_,r2⟩;unfold D4;dsimp only;rw[if_pos (by simp only[Qzj];omega),if_neg U,r1]
  ·refine⟨r0,BA (m:=some r0) ?_,r2⟩;unfold D4;dsimp only;rw[if_neg U,r1]
theorem Uu{a:Qq3}(ha:a.length<=1000){z:Nat}(hz:z<=13000):∃r,L8 a (z:Int)=some r/\(r.2=true->r.1.length=z):=
 TM hz a.length [] a (Qzx _) ha Qqc
section
variable {s:Int×List Co} (h0:0<=s.1) (h3:s.1 / 16<=3) (hi:s.1<=1000)
include h0 h3 hi
omit h3 in
theorem OA:Dk s=some (s.1 / 16):=by
 unfold Dk;rw[An]
theorem TN:∃n,FG s=some n/\(s.1 / 16=0->n=1)/\(s.1 / 16=1->n=4)/\1<=n/\n<=24/\(s.1 / 16=2->n=8):=by
 unfold FG;rw[OA h0 hi,Qq9,An]
 rcases(by omega:s.1 / 16=0\/s.1 / 16=1\/s.1 / 16=2\/s.1 / 16=3)with h | h | h | h <;> rw[h]
 ·exact⟨1,Z,fun _=>Z,fun h=>by omega,by omega,by omega,fun h=>by omega⟩
 ·exact⟨4,Z,fun h=>by omega,fun _=>Z,by omega,by omega,fun h=>by omega⟩
 ·exact⟨8,Z,fun h=>by omega,fun h=>by omega,by omega,by omega,fun _=>Z⟩
 ·exact⟨24,Z,fun h=>by omega,fun h=>by omega,by omega,by omega,fun h=>by omega⟩
theorem Xe{w:Nat}(w1:1<=w)(w2:w<=64):∃z:Nat,FQ s (w:Int)=some (z:Int)/\1<=z/\z<=192/\(s.1 / 16=2->z<=64):=by
 unfold FQ;obtain⟨n,a,e,f,b,c,d⟩:=TN h0 h3 hi;have g:(w:Int) * n<=64 * 24:=Int.mul_le_mul U c U U;have i:1 * 1<=(w:Int) * n:=Int.mul_le_mul U b U U;rw[a,Qq9,An (h:=(by unfold BH;omega)),An (h:=(by unfold BH;omega)),An];refine⟨(((w:Int) * n+7) / 8).toNat,?_,by omega,by omega,fun h=>by have:=d h;subst this;omega⟩;rw[Int.toNat_of_nonneg U]
omit h3 in
theorem VK{k:Nat}(hk:k<=1000):∃b,Ec s (k:Int)=some b:=by
 unfold Ec;rw[An];exact⟨_,Z⟩
end
theorem S7{b:Qq3}(hb:b.length<=64):∀(n j:Nat) (l:Qq3),j+n=b.length->l.length<=3 * j->∃r,E8 b (l,(j:Int))=some r/\r.1.length<=200
 | 0,j,l,hj,hl=>by
  refine⟨(l,true),?_,by show l.length<=200;omega⟩;unfold E8;refine BA (m:=some (l,true)) ?_;unfold Es Gs;dsimp only;rw[if_neg U]
 | n+1,j,l,hj,hl=>by
  obtain⟨r,r1,r2⟩:=S7 hb n (j+1) (l++[b.getD (j:Int).toNat Qq1,b.getD (j:Int).toNat Qq1,b.getD (j:Int).toNat Qq1]) U (by rw[Qzk];simp;omega);refine⟨r,?_,r2⟩;unfold E8 at r1 ⊢;rw[BK ?_,r1];unfold Es;dsimp only;rw[if_pos U,An,An (h:=(by unfold Gx;simp;omega)),An (h:=(by unfold BH;omega))]
  rfl
theorem TO{s:Int×List Co}{b:Qq3}{w n:Int}(hn:n=1\/n=4)(hb:b.length<=200)(hw:w<=64):∀(m j:Nat) (l:Qq3),8 * b.length<=j+m->l.length<=192->(j<=64->l.length<=3 * j)->j<=1600->∃r,Dw s b w n (l,(j:Int))=some r/\r.1.length<=192
 | m,j,l,hm,hl,hlj,hj=>by
  by_cases hlt:(j:Int)<8 * (b.length:Int) / n
  ·match m,hm with
   | 0,hm=>rcases hn with rfl | rfl <;> omega
   | m+1,hm=>
    have g:j<8 * b.length:=by rcases hn with rfl | rfl <;> omega
    have key:C9 s b w n (l,(j:Int))=some (.inr ([],false))\/∃l',C9 s b w n (l,(j:Int))=some (.inl (l',((j+1:Nat):Int)))/\l'.length<=192/\(j+1<=64->l'.length<=3 * (j+1)):=by
     have i:0<=(j:Int) * n:=by rcases hn with rfl | rfl <;> omega
     have k:(j:Int) * n<=6400:=by rcases hn with rfl | rfl <;> omega
     have o:(j:Int) * n / 8<(b.length:Int):=by rcases hn with rfl | rfl <;> omega
     have t:0<=8 - n - (j:Int) * n % 8:=by rcases hn with rfl | rfl <;> omega
     have u:0<=n/\n<=63:=by rcases hn with rfl | rfl <;> omega
     have a:1<=(1:Int) * 2 ^ n.toNat/\(1:Int) * 2 ^ n.toNat<=16:=by rcases hn with rfl | rfl <;> decide
     unfold C9;dsimp only;generalize hpw:(2:Int) ^ (8 - n - (j:Int) * n % 8).toNat=pw;have c:0<pw:=by rw[<- hpw];exact Int.pow_pos Qqb
     generalize hcc:b.getD ((j:Int) * n / 8).toNat Qq1=cc;have x:=cc.toNat_lt;have d:0<=(cc.toNat:Int) / pw:=Int.ediv_nonneg U U;have e:(cc.toNat:Int) / pw<=(cc.toNat:Int):=Int.ediv_le_self _ U;generalize hv:(cc.toNat:Int) / pw=v at d e ⊢;generalize hq:(1:Int) * 2 ^ n.toNat=q at a ⊢;rw[if_pos hlt,An (h:=(by unfold BH;omega)),An (h:=(by unfold BH;omega)),An,An (h:=(by unfold BH;omega)),An (h:=(by unfold BH;omega)),An,An,An,An (h:=(by unfold BH;omega)),An (h:=(by unfold BH;omega)),An];generalize (v.toNat &&& (q - 1).toNat:Nat)=p
     split
     ·split
      ·rw[An (h:=(by unfold BH;omega))];exact .inr ⟨l,Z,hl,fun h=>by have:=hlj U;omega⟩
      ·exact .inl Z
     ·have hlj:=hlj U
      split
      ·exact .inl Z
      ·rw[An,An (h:=(by unfold Gx;simp;omega)),An (h:=(by unfold BH;omega))];exact .inr ⟨_,Z,by rw[Qzk];simp;omega,fun _=>by rw[Qzk];simp;omega⟩
    unfold Dw
    rcases key with h | ⟨l',h,q1,f⟩
    ·exact⟨_,BA (m:=some ([],false)) h,by simp⟩
    ·obtain⟨r,r1,r2⟩:=TO hn hb hw m (j+1) l' U q1 f U;unfold Dw at r1;exact⟨r,by rw[BK h];exact r1,r2⟩
  ·refine⟨(l,true),?_,hl⟩;unfold Dw;refine BA (m:=some (l,true)) ?_;unfold C9 Gt;dsimp only;rw[if_neg hlt]
theorem YC{s:Int×List Co}(h0:0<=s.1)(h3:s.1 / 16<=3)(hi:s.1<=1000){b:Qq3}(hb:b.length<=200)(hg:s.1 / 16=2->b.length<=64){w:Int}(hw:w<=64):∃r,FR s b w=some r/\r.1.length<=200:=by
 unfold FR;rw[OA h0 hi,Qq9]
 split
 ·exact⟨_,Z,by show b.length<=200;omega⟩
 ·split
  ·rename_i h2;exact S7 (hg h2) b.length 0 [] U Qqc
  ·unfold Gu;obtain⟨n,a,c,d,e,f,_⟩:=TN h0 h3 hi;rw[a,Qq9,An (h:=(by unfold BH;omega)),An];obtain⟨r,r1,r2⟩:=TO (s:=s) (b:=b) (w:=w) (n:=n) U hb hw (8 * b.length) 0 [] U Qqc (fun _=>by simp) U;exact⟨r,r1,by omega⟩
theorem Rf{σ:Type}{step:σ->Qq3->Option (σ×Bool)}{b:Qq3}{z:Nat}(hz:1<=z)(a:z<=1000)(hb:b.length<=100000)(I:Nat->σ->Prop)(J:σ->Prop)
  (hs:∀k s x,k * z<b.length->x.length<=z->I k s->∃s' g,step s x=some (s',g)/\(g=true->I (k+1) s')/\(g=false->J s')) (he:∀k s,b.length<=k * z->I k s->J s) :
  ∀(n k:Nat) (s:σ),b.length<=k * z+n->I k s->∃r,Cp b (z:Int) step (((k * z:Nat):Int),s)=some r/\J r
 | n,k,s,hn,hI=>by
  by_cases hlt:k * z<b.length
  ·match n,hn with
   | 0,hn=>omega
   | n+1,hn=>
    have hx:((b.drop (((k * z:Nat):Int)).toNat).take ((((k * z:Nat):Int)+min (z:Int) (((b.drop (((k * z:Nat):Int)).toNat).length:Nat):Int)).toNat - (((k * z:Nat):Int)).toNat)).length<=z:=by
     rw[QzA];omega
    obtain⟨s',g,q1,c,d⟩:=hs k s _ hlt hx hI;have hd:(b.drop (((k * z:Nat):Int)).toNat).length=b.length - k * z:=QzQ
    have key:Ci b (z:Int) step (((k * z:Nat):Int),s)=if g then some (.inl ((((k+1) * z:Nat):Int),s'))else some (.inr s'):=by
     unfold Ci;dsimp only;rw[if_pos U,An,An (h:=(by unfold BH;omega)),An (h:=(by unfold BH;omega)),An,q1,Qq9]
     cases g
     ·rfl
     ·rw[if_neg (show ¬(!true)=true by decide),An (h:=(by unfold BH;omega)),if_pos Z,QxQ,Int.natCast_add]
    unfold Cp
    cases g
    ·exact⟨s',BA (m:=some s') key,d Z⟩
    ·obtain⟨r,r1,r2⟩:=Rf hz a hb I J hs he n (k+1) s' (by rw[QxQ];omega) (c Z);unfold Cp at r1;exact⟨r,by rw[BK key];exact r1,r2⟩
  ·refine⟨s,?_,he k s U hI⟩;unfold Cp;refine BA (m:=some s) ?_;unfold Ci;dsimp only;rw[if_neg U]
theorem Rg{σ:Type}{step:σ->Qq3->Option (σ×Bool)}{b:Qq3}{z:Nat}(hz:1<=z)(a:z<=1000)(hb:b.length<=100000)(I:Nat->σ->Prop)(J:σ->Prop)
  (hs:∀k s x,k * z<b.length->x.length<=z->I k s->∃s' g,step s x=some (s',g)/\(g=true->I (k+1) s')/\(g=false->J s')) (he:∀k s,b.length<=k * z->I k s->J s) {s:σ} (h0:I 0 s) :
  ∃r,E7 step b (z:Int) s=some r/\J r:=by
 have h:=Rf hz a hb I J hs he b.length 0 s U h0;rw[Nat.zero_mul]at h;exact h
theorem S8{b:Qq3}{z:Nat}(hz:1<=z):Ei b (z:Int)=some (b,(z:Int)):=by
 unfold Ei;rw[if_neg U]
theorem Xf{b:Qq3}{z:Nat}(hz:1<=z)(a:z<=1000)(hb:b.length<=50000):∃r:Qq7,G7 (b,(z:Int))=some r/\(∀x∈r,x.length<=z)/\r.length * z<=b.length+z:=by
 unfold G7 FM
 obtain⟨r,r1,r2,r3⟩:=Rg (step:=S2 (fun s x=>CH s x)) (b:=b) hz a U (fun k s=>s.length=k/\(∀x∈s,x.length<=z)/\k * z<=b.length+z) (fun s=>(∀x∈s,x.length<=z)/\s.length * z<=b.length+z)
  (fun k s x hk hx ⟨h1,h2,h3⟩=>by
   have hkl:k<=b.length:=by
    have:=Nat.mul_le_mul_left k hz;omega
   refine⟨s++[x],true,?_,fun _=>⟨by rw[Qzk,h1];rfl,fun y hy=>?_,by rw[QxQ];omega⟩,fun h=>by cases h⟩
   ·unfold S2 CH;dsimp only;rw[An (h:=(by unfold Gx;simp;omega)),Qq9]
   ·rcases Qxc.1 hy with hy | hy
    ·exact h2 y hy
    ·rw[List.mem_singleton.1 hy];exact hx)
  (fun k s hk ⟨h1,h2,h3⟩=>⟨h2,by rw[h1];exact h3⟩) (s:=[]) ⟨Z,fun x hx=>(by cases hx),by omega⟩
 dsimp only;rw[r1,Qq9,Qq9];exact⟨r,Z,r2,r3⟩
theorem TP{z N:Nat}(hN:N<=100000):∀(n:Nat) (l:Qq7) (i j:Int),j - i<=n->l.length=N->(∀x∈l,x.length<=z)->0<=i->i<=N->j<N->-1<=j->∃r,DM (l,i,j)=some r/\r.length=N/\∀x∈r,x.length<=z
 | n,l,i,j,hn,hl,hx,h1,h2,h3,a=>by
  by_cases hlt:i<j
  ·match n,hn with
   | 0,hn=>omega
   | n+1,hn=>
    have hj:j.toNat<l.length:=by omega
    have hi:i.toNat<l.length:=by omega
    have key:CD (l,i,j)=some (.inl ((l.set i.toNat (l.getD j.toNat Qq1)).set j.toNat (l.getD i.toNat Qq1),i+1,j - 1)):=by
     unfold CD;dsimp only;rw[if_pos hlt,An,An,An,An (h:=(by rw[Qz4];omega)),An (h:=(by unfold BH;omega)),An (h:=(by unfold BH;omega))]
    obtain⟨r,r1,r2⟩:=TP hN n ((l.set i.toNat (l.getD j.toNat Qq1)).set j.toNat (l.getD i.toNat Qq1)) (i+1) (j - 1) U (by rw[Qz4,Qz4,hl]) (fun x hm=>by
     rw[<- Qz6 (h:=hi) Qq1,<- Qz6 (h:=hj) Qq1]at hm
     rcases List.mem_or_eq_of_mem_set hm with hm | rfl
     ·rcases List.mem_or_eq_of_mem_set hm with hm | rfl
      ·exact hx _ hm
      ·exact hx _ (Qxa hj)
     ·exact hx _ (Qxa hi)) U U U U
    refine⟨r,?_,r2⟩;unfold DM at r1 ⊢;rw[BK key];exact r1
  ·refine⟨l,?_,hl,hx⟩;unfold DM;refine BA (m:=some l) ?_;unfold CD;dsimp only;rw[if_neg hlt]
theorem Xg{z:Nat}{l:Qq7}(hl:l.length<=100000)(hx:∀x∈l,x.length<=z):∃r,E9 l=some r/\r.length=l.length/\∀x∈r,x.length<=z:=by
 unfold E9;rw[An (h:=(by unfold BH;omega))];exact TP hl l.length l 0 ((l.length:Int) - 1) U Z hx U U U U
theorem Xh{n:Nat}(hn:n<=1000000):FP [] (n:Int)=some []:=by
 unfold FP Gr;rw[if_neg U,An (h:=(by unfold BH;omega)),An (h:=(by unfold BH;omega))]
 split
 ·rw[An]
 ·rfl
section
variable {z:Nat}{l:Qq7} (hl:l.length<=100000) (hx:∀x∈l,x.length<=z) (h:l.length * z<=200000)
include hl hx h
theorem Zw:∀(n j:Nat) (o:Qq3),j+n=l.length->o.length<=j * z->∃r,Ea l (o,(j:Int))=some r/\r.length<=l.length * z
 | 0,j,o,hj,ho=>by
  obtain rfl:j=l.length:=by omega
  refine⟨o,?_,ho⟩;unfold Ea;refine BA (m:=some o) ?_;unfold DJ FE;dsimp only;rw[if_neg U]
 | n+1,j,o,hj,ho=>by
  have hlt:j<l.length:=by omega
  have hq:=hx _ (Qxa hlt);have hm:=Nat.mul_le_mul_right z (show j+1<=l.length by omega);rw[QxQ]at hm;have e:(j:Int).toNat=j:=Z;obtain⟨r,r1,r2⟩:=Zw n (j+1) (o++l[j]) U (by rw[Qzk,QxQ];omega);refine⟨r,?_,r2⟩;unfold Ea at r1 ⊢;rw[BK ?_,r1];unfold DJ;dsimp only;rw[e,<- Qz6 (h:=hlt) Qq1,if_pos U,An,An (h:=(by unfold Gx;omega)),An (h:=(by unfold BH;omega))]
  rfl
theorem Zx:∀(n j s:Nat),j+n=l.length->s<=j * z->∃r,Eb l ((s:Int),(j:Int))=some r/\r.length<=l.length * z
 | 0,j,s,hj,hs=>by
  obtain rfl:j=l.length:=by omega
  obtain⟨r,r1,r2⟩:=Zw hl hx h l.length 0 [] U Qqc;refine⟨r,?_,r2⟩;unfold Eb;refine BA (m:=some r) ?_;unfold DK FF;dsimp only;rw[if_neg U,Xh U,Qq9];exact congrArg (Qzq Sum.inr) r1
 | n+1,j,s,hj,hs=>by
  have hlt:j<l.length:=by omega
  have hq:=hx _ (Qxa hlt);have hm:=Nat.mul_le_mul_right z (show j+1<=l.length by omega);rw[QxQ]at hm;have e:(j:Int).toNat=j:=Z;obtain⟨r,r1,r2⟩:=Zx n (j+1) (s+l[j].length) U (by rw[QxQ];omega);refine⟨r,?_,r2⟩;unfold Eb at r1 ⊢;rw[BK ?_,r1];unfold DK;dsimp only;rw[e,<- Qz6 (h:=hlt) Qq1,if_pos U,An,An (h:=(by unfold BH;omega)),if_neg U,An (h:=(by unfold BH;omega))]
  rfl
theorem YD:∃r,GH l=some r/\r.length<=l.length * z:=Zx hl hx h l.length 0 0 U U
end
theorem Xi{b:Qq3}(hb:b.length<=40000){z:Nat}(hz:1<=z)(a:z<=1000):∃r,GL b (z:Int)=some r/\r.length<=b.length+z:=by
 unfold GL;obtain⟨c,c1,c2,c3⟩:=Xf (b:=b) hz a U
 have hc:c.length<=b.length+z:=by
  have:=Nat.mul_le_mul_left c.length hz;omega
 obtain⟨d,f,e,g⟩:=Xg (l:=c) U c2;obtain⟨r,r1,r2⟩:=YD (l:=d) U g (by rw[e];omega);rw[S8 hz,Qq9,c1,Qq9,f,Qq9,r1,Qq9];exact⟨r,Z,by rw[e]at r2;omega⟩
section
variable {s:Int×List Co} (h0:0<=s.1) (h3:s.1 / 16<=3) (hi:s.1<=1000)
include h0 h3 hi
theorem VL{b:Qq3}{z h w:Nat}(hz:1<=z)(c:z<=192)(hg:s.1 / 16=2->z<=64)(hh:h<=64)(w1:1<=w)(w2:w<=64)(ok:Bool)(hok:ok=true->b.length=z * h):∃r,Dh s (w:Int) (z:Int) b ok=some r/\r.1.length<=20000:=by
 unfold Dh
 cases ok with
 | false=>exact⟨_,Z,by simp⟩
 | true=>
  have hb:=hok Z;have hm:=Nat.mul_le_mul c hh;rw[if_neg Qqb,S8 hz,Qq9]
  obtain⟨r,r1,r2⟩:=Rg (step:=Rc (fun q x=>D0 s (w:Int) q x)) (b:=b) hz U U (fun k q=>q.2=true/\q.1.length<=200 * k/\k<=h) (fun q=>q.1.length<=200 * 64)
   (fun k q x hk hx ⟨g1,g2,d⟩=>by
    have hkh:k<h:=by
     rw[hb,Nat.mul_comm]at hk;exact Nat.lt_of_mul_lt_mul_left hk
    obtain⟨y,y1,y2⟩:=YC (s:=s) (b:=x) (w:=(w:Int)) h0 h3 hi U (fun h=>by have:=hg h;omega) U;unfold Rc D0;dsimp only;rw[if_pos g1,y1,Qq9]
    cases hy:y.2 with
    | false=>
     rw[if_pos Qqb,Qq9];exact⟨_,_,Z,(fun h=>by cases h),fun _=>by show q.1.length<=200 * 64;omega⟩
    | true=>
     rw[if_neg Qqb,An (h:=(by unfold Gx;omega)),Qq9];exact⟨_,_,Z,(fun _=>⟨Z,by show(q.1++y.1).length<=_;rw[Qzk];omega,by omega⟩),fun h=>by cases h⟩)
   (fun k q hk ⟨g1,g2,d⟩=>by omega) (s:=(([]:Qq3),true)) ⟨Z,by simp,by omega⟩
  dsimp only;rw[r1,Qq9]
  split
  ·obtain⟨u,hu⟩:=VK (s:=s) h0 hi (k:=1) U;have hu:Ec s 1=some u:=hu;rw[hu,Qq9]
   split
   ·obtain⟨v,a,e⟩:=Xi (b:=r.1) (z:=3 * w) U U U;have a:GL r.1 (3 * (w:Int))=some v:=a;rw[An (h:=(by unfold BH;omega)),a,Qq9];exact⟨_,Z,by show v.length<=20000;omega⟩
   ·exact⟨_,Z,by show r.1.length<=20000;omega⟩
  ·exact⟨_,Z,by simp⟩
theorem Xj{b:Qq3}(hb:b.length<=1000){w h:Nat}(w1:1<=w)(w2:w<=64)(g2:h<=64):∃r,Ft s b (w:Int) (h:Int)=some r/\r.1.length<=20000:=by
 unfold Ft;obtain⟨z,g,d,c,f⟩:=Xe h0 h3 hi w1 w2;have hm:=Nat.mul_le_mul c g2;have e:(z:Int) * (h:Int)=((z * h:Nat):Int):=(Int.natCast_mul z h).symm;obtain⟨u,hu⟩:=VK (s:=s) h0 hi (k:=2) U;have hu:Ec s 2=some u:=hu;rw[g,Qq9,e,An (h:=(by unfold BH;omega)),hu,Qq9]
 split
 ·obtain⟨y,y1,y2⟩:=Uu (a:=b) hb (z:=z * h) U;rw[An (h:=(by unfold BH;omega)),y1,Qq9];exact VL h0 h3 hi d c f g2 w1 w2 _ y2
 ·exact VL h0 h3 hi d c f g2 w1 w2 _ (fun h=>by have:=of_decide_eq_true h;omega)
end
theorem or8(b c:UInt8):((b.toNat:Int) * 256).toNat ||| ((c.toNat:Int)).toNat=b.toNat * 256+c.toNat:=by
 have hc:=c.toNat_lt;have a:((b.toNat:Int) * 256).toNat=b.toNat <<< 8:=by rw[Nat.shiftLeft_eq];omega
 have d:((c.toNat:Int)).toNat=c.toNat:=Z;rw[a,d,<- Nat.shiftLeft_add_eq_or_of_lt U,Nat.shiftLeft_eq]
theorem vfl{f:UInt8}:Hj (f.toNat:Int)=some (decide (f.toNat / 16<=3)&&decide (f.toNat % 16<=3)):=by
 have a:=f.toNat_lt;unfold Hj;rw[An]
 split
 ·rename_i h;rw[An,decide_eq_true (show f.toNat / 16<=3 by omega),Bool.true_and];exact congrArg some (decide_eq_decide.2 U)
 ·rename_i h;rw[decide_eq_false (show ¬f.toNat / 16<=3 by omega),Bool.false_and]
abbrev Pr:=Int×Int×Qq3×(Int×(List Co))×Bool
structure ZG (p:Pc) (r:Pr):Prop where
 ok:QD p
 w:r.1=(p.2.1.toNat:Int)
 h:r.2.1=(p.2.2.1.toNat:Int)
 x:r.2.2.1.length<=20000
 f:r.2.2.2.1.1=(p.1.toNat:Int)
 l:r.2.2.2.1.2.length<=16
section
variable {f w g:UInt8} (k1:f.toNat / 16<=3) (k2:f.toNat % 16<=3) (w1:1<=w.toNat) (w2:w.toNat<=64) (g1:1<=g.toNat) (g2:g.toNat<=64)
include k1 k2 w1 w2 g1 g2
omit k2 g1 in
theorem Zy{cs:List Co}{t:Qq3}(ht:t.length<=1000)(hc:cs.length<=16):∃r:Pr,Ge (f.toNat:Int) cs (w.toNat:Int) (g.toNat:Int) t=some r/\(r.2.2.2.2=true->∃x:Qq3,t=rb x/\x.length<=1000/\r.1=(w.toNat:Int)/\r.2.1=(g.toNat:Int)/\r.2.2.1.length<=20000/\r.2.2.2.1=((f.toNat:Int),cs)):=by
 unfold Ge
 match t,ht with
 | [],_=>exact⟨_,Z,fun h=>by cases h⟩
 | [_],_=>exact⟨_,Z,fun h=>by cases h⟩
 | a::b::x,ht=>
  have ht:x.length+1+1<=1000:=ht;have c:((a::b::x).getD ((0:Int).toNat) Qq1)=a:=Z;have d:((a::b::x).getD ((1:Int).toNat) Qq1)=b:=Z;have e:((a::b::x).drop (2:Int).toNat)=x:=Z;have ha:=a.toNat_lt;have hb:=b.toNat_lt;have hf:=f.toNat_lt;rw[if_neg (by simp only[Qzj];omega),An (h:=(by simp only[Qzj];omega)),c,d,e,An (h:=(by unfold BH;omega)),An (h:=(by simp only[Qzj];omega)),An,An (h:=(by unfold BH;simp only[Qzj];omega)),or8]
  split
  ·rename_i hn;rw[An (h:=(by simp only[Qzj];omega))];obtain⟨y,y1,y2⟩:=Xj (s:=((f.toNat:Int),cs)) (by show(0:Int)<=(f.toNat:Int);omega) (by show(f.toNat:Int) / 16<=3;omega) (by show(f.toNat:Int)<=1000;omega) (b:=x) U w1 w2 g2;rw[y1,Qq9];unfold KS;refine⟨_,Z,fun _=>⟨x,?_,by omega,Z,Z,y2,Z⟩⟩;simp only[Qzj]at hn;unfold rb;have q1:x.length / 256=a.toNat:=by omega
   have i:x.length % 256=b.toNat:=by omega
   rw[q1,i,UInt8.ofNat_toNat,UInt8.ofNat_toNat]
  ·exact⟨_,Z,fun h=>by cases h⟩
theorem VM{cs:List Co}{t t':Qq3}{a:Qq3}(ht:t.length<=1000)(hc:cs.length<=16)(c0:f.toNat / 16=0->1<=cs.length/\cs.length<=2)(c1:f.toNat / 16=1->1<=cs.length/\cs.length<=16)
  (ha:a=[82,65,83,49]++f::w::g::t') (h':t'=(if kx f<2 then Qzv cs.length::(cs.map Y9).flatten else[])++t) :
  ∃r:Pr,Ge (f.toNat:Int) cs (w.toNat:Int) (g.toNat:Int) t=some r/\(r.2.2.2.2=true->∃p,a=Kf p/\ZG p r):=by
 obtain⟨r,r1,r2⟩:=Zy k1 w1 w2 g2 ht hc (cs:=cs);refine⟨r,r1,fun hk=>?_⟩;obtain⟨x,d,e,h,i,j,b⟩:=r2 hk;refine⟨(f,w,g,cs.map Y9,x),?_,⟨⟨k1,k2,w1,w2,g1,g2,by simpa using c0,by simpa using c1,fun c hc=>?_,e⟩,h,i,j,by rw[b],by rw[b];exact hc⟩⟩
 ·rw[ha,h',d];unfold Kf KT cb;dsimp only;rw[List.length_map]
 ·obtain⟨y,_,rfl⟩:=List.mem_map.1 hc
  rfl
end
theorem Xk{a:Qq3}(ha:a.length<=1000):∃r:Pr,Lh a=some r/\(r.2.2.2.2=true->∃p,a=Kf p/\ZG p r):=by
 unfold Lh KC KB Kw;rw[An (h:=(by simp))];have no:∀t:Qq3,∃r:Pr,(some (t,false):Option (Qq3×Bool)).bind (fun i=>if((!i.2)||(decide ((i.1.length:Int)<(3:Int))))then some ((0:Int),(0:Int),[],((0:Int),[]),false)else Go.L.Bb (0<=(0:Int)/\(0:Int)<(i.1.length:Int)) (Go.L.Bb (0<=(1:Int)/\(1:Int)<(i.1.length:Int)) (Go.L.Bb (0<=(2:Int)/\(2:Int)<(i.1.length:Int)) ((Jk i) ((i.1.getD ((0:Int).toNat) Qq1).toNat:Int) ((i.1.getD ((1:Int).toNat) Qq1).toNat:Int) ((i.1.getD ((2:Int).toNat) Qq1).toNat:Int)))))=some r/\(r.2.2.2.2=true->∃p,a=Kf p/\ZG p r):=fun t=>⟨_,Z,fun h=>by cases h⟩;have o:(([(82:UInt8),(65:UInt8),(83:UInt8),(49:UInt8)]:Qq3).length:Int).toNat=4:=Z;have u:(([(82:UInt8),(65:UInt8),(83:UInt8),(49:UInt8)]:Qq3).length:Int)=4:=Z;rw[o,u]
 by_cases k:(4:Int)<=(a.length:Int)
 ·rw[if_pos k,An,Qq9,Qq9]
  by_cases hm:a.take 4=[82,65,83,49]
  ·rw[decide_eq_true hm,if_neg Qqb,An];have hae:a=[82,65,83,49]++a.drop 4:=by rw[<- hm,List.take_append_drop]
   have hdl:(a.drop 4).length<=1000:=by rw[QzQ];omega
   generalize hd:a.drop 4=d at hae hdl;rw[Qq9];dsimp only
   match d,hdl,hae with
   | [],_,_=>exact⟨_,Z,fun h=>by cases h⟩
   | [_],_,_=>exact⟨_,Z,fun h=>by cases h⟩
   | [_,_],_,_=>exact⟨_,Z,fun h=>by cases h⟩
   | f::w::g::t,hdl,hae=>
    have hdl:t.length+1+1+1<=1000:=hdl;rw[if_neg (by simp only[Qzj,Bool.not_true,Bool.false_or,decide_eq_true_eq];omega),An (h:=(by simp only[Qzj];omega)),An (h:=(by simp only[Qzj];omega)),An (h:=(by simp only[Qzj];omega))];have v:((f::w::g::t).getD ((0:Int).toNat) Qq1)=f:=Z;have x:((f::w::g::t).getD ((1:Int).toNat) Qq1)=w:=Z;have y:((f::w::g::t).getD ((2:Int).toNat) Qq1)=g:=Z;have z:((f::w::g::t).drop (3:Int).toNat)=t:=Z;have hf:=f.toNat_lt;unfold Jk;dsimp only;rw[v,x,y,z,An (h:=(by simp only[Qzj];omega)),vfl,Qq9]
    by_cases hall:(f.toNat / 16<=3/\f.toNat % 16<=3)/\(1<=w.toNat/\w.toNat<=64)/\1<=g.toNat/\g.toNat<=64
    ·obtain⟨⟨k1,k2⟩,⟨w1,w2⟩,g1,g2⟩:=hall;rw[decide_eq_true k1,decide_eq_true k2,decide_eq_false (show ¬(w.toNat:Int)<1 by omega),decide_eq_false (show ¬(64:Int)<(w.toNat:Int) by omega),decide_eq_false (show ¬(g.toNat:Int)<1 by omega),decide_eq_false (show ¬(64:Int)<(g.toNat:Int) by omega),if_neg Qqb];have hd:=OA (s:=((f.toNat:Int),([]:List Co))) (by show(0:Int)<=(f.toNat:Int);omega) (by show(f.toNat:Int)<=1000;omega);unfold Ew;rw[hd,Qq9,Qq9]
     split
     ·rename_i hi;have hi:=of_decide_eq_true hi;have hi:(f.toNat:Int) / 16<2:=hi;rw[Qq9];obtain⟨q,q1,q2⟩:=YA (b:=t) U ((f.toNat:Int) / 16);rw[q1,Qq9]
      cases hq:q.2.2 with
      | false=>exact⟨_,Z,fun h=>by cases h⟩
      | true=>
       obtain⟨l,m,j⟩:=q2 hq
       have n:q.1.length<=16:=by
        split at j <;> omega
       have zl:q.2.1.length<=1000:=by
        have:=congrArg List.length l;rw[Qzj,Qzk]at this;omega
       rw[if_neg Qqb];refine VM k1 k2 w1 w2 g1 g2 zl n (fun h=>⟨m,?_⟩) (fun h=>⟨m,n⟩) hae ?_
       ·rw[if_neg U]at j;exact j
       ·rw[if_pos (by show f.toNat / 16<2;omega)];exact l
     ·rename_i hi;have hi : ¬(f.toNat:Int) / 16<2:=fun h=>hi (decide_eq_true h);refine VM k1 k2 w1 w2 g1 g2 (cs:=[]) U Qqc (fun h=>by omega) (fun h=>by omega) hae ?_;rw[if_neg (by show ¬f.toNat / 16<2;omega)];rfl
    ·rw[if_pos ?_]
     ·exact⟨_,Z,fun h=>by cases h⟩
     ·rcases QzX 3 (f.toNat / 16)with c | c
      ·rw[decide_eq_false (show ¬f.toNat / 16<=3 by omega)];rfl
      rcases QzX 3 (f.toNat % 16)with d | d
      ·rw[decide_eq_false (show ¬f.toNat % 16<=3 by omega),Bool.and_false];rfl
      rw[decide_eq_true c,decide_eq_true d]
      rcases(by omega:w.toNat<1\/64<w.toNat\/g.toNat<1\/64<g.toNat)with e | e | e | e
      ·rw[decide_eq_true (show(w.toNat:Int)<1 by omega)];rfl
      ·rw[decide_eq_true (show(64:Int)<(w.toNat:Int) by omega)];simp
      ·rw[decide_eq_true (show(g.toNat:Int)<1 by omega)];simp
      ·rw[decide_eq_true (show(64:Int)<(g.toNat:Int) by omega)];simp
  ·rw[decide_eq_false hm,if_pos Qqb];exact no a
 ·rw[if_neg k,Qq9,if_pos Qqb];exact no a
end Go.Proofs.YtnmkjjgmnbmmnaaGreatDoor
end
noncomputable section
namespace Go.Proofs.YtnmkjjgmnbmmnaaGreatDoor
open Go Go.E Go.RowKit Go.L
set_option maxHeartbeats 1000000
set_option maxRecDepth 10000
open _root_.Go.Proofs.Tryz
def Fu(a0:Aae)(h:((List AaE))×Qq6):Option Bool:=
 Qq8 (MO a0) (fun a=>if a.2.2.1=0 then Qq8 (HY h.1 a0) (fun b=>Qq8 (JF h.1 b.1) (fun c=>Qq8 (K5 b.1 ([0,1,1])) (fun d=>Qq8 (K5 b.1 ([0,1,2])) (fun e=>if b.2.1=0 then if c.2.1=0 then if d.2.1=0 then if e.2.1=0 then if(a.1.f.2.2.2.2.length:Int)=3 then Qq8 (NY c.1 a0) (fun g=>if g then Bb (0<=(0:Int)/\(0:Int)<(a.1.f.2.2.2.2.length:Int)) (if d.1.f.2.1=(a.1.f.2.2.2.2.getD ((0:Int).toNat) Qq1).f.2.1 then Bb (0<=(1:Int)/\(1:Int)<(a.1.f.2.2.2.2.length:Int)) (some (decide (e.1.f.2.1=(a.1.f.2.2.2.2.getD ((1:Int).toNat) Qq1).f.2.1)))else some false)else some false)else some false else some false else some false else some false else some false))))else some true)
def Gv(a0:Aae):Option Bool:=
 Qq8 EU (fun d=>Qq8 (I2 d) (fun c=>Qq8 (HY c.1 ([(82:UInt8),(65:UInt8),(83:UInt8),(49:UInt8),(48:UInt8),(1:UInt8),(1:UInt8),(0:UInt8),(3:UInt8),(7:UInt8),(8:UInt8),(9:UInt8)])) (fun a=>Qq8 (K5 a.1 ([0,1,1])) (fun b=>if c.2.1=0 then if a.2.1=0 then if b.2.1=0 then if b.1.f.2.1=1 then(Fu a0 c)else some false else some false else some false else some false))))
section
variable(w:World)(H:PH)(hH:Le H (hp w)) include hH
theorem Li(hU:Jm H){a0:Aae}{ba:Value}(bd:AL .byte H ba a0){r:Bool}(h:Gv a0=some r):
  Qqv 3 [ba] w (fun v w'=>v=.bool r):=by
 refine AG 135 [(0,ba)] func3 Z fun hL=>AI 1 Z<|Aq<|Av h fun x1 e7 h=>A6 hL (N1 _ _ (Ao hL) e7) fun w2 gj cc f4=>Av h fun x3 e8 h=>Bv cc (Px _ _ (Ao cc) (hU.mono  Ai) e8) ?_;rintro _ w4 ⟨cd,rfl,c9⟩ e9 fa f5;have t:=c9.Dj hH cc e9;refine Ar 3 Z<|AZ HQ.e Z fa fun w5 b5 fc d1 _=>AZ BB.e Z fc fun w6 b6 fd d2 _=>A7 1 Z fd Z (h1:=(BP t.one Mx)) fun w7 fe d3=>A7 0 Z fe Z fun w8 ff d4=>Al<|Aq<|BV [(82:UInt8),(65:UInt8),(83:UInt8),(49:UInt8),(48:UInt8),(1:UInt8),(1:UInt8),(0:UInt8),(3:UInt8),(7:UInt8),(8:UInt8),(9:UInt8)] (r:=.byte) (fun _=>Va _ _ _ _ _ _ _ _ _ _ _ _ _) (hlen:=(Ch 12)) ff (.c1 Z (.c1 Z (.c1 Z (.c1 Z (.c1 Z (.c1 Z (.c1 Z (.c1 Z (.c1 Z (.c1 Z (.c1 Z (.c1 Z .nil)))))))))))) fun v9 w9 gk a9 d5 fg=>A1 1 Z<|Aq<|Ag (Ax 1 Z HQ.e a9 Z)<|Ar 1 Z<|Av h fun ap d6 h=>?_;have t:=t.mono (Ac (d1.trans (d2.trans (d3.trans (d4.trans d5)))))
 refine Bv a9 (LP (a0:=x3.1) _ _ (Ao a9) (hU.mono  Ai) t fg d6) ?_;rintro _ gl ⟨bn,bo,bp,rfl,ce,cf,cg⟩ bf d7 da;have x:=ce.mono (DN a9 bf);have y:=cf.mono (DN a9 bf);have z:=cg.mono (DN a9 bf);refine Ar 3 Z<|AZ B5.e Z d7 fun gm dz d8 aq _=>AZ BB.e Z d8 fun gn d0 d9 ar _=>A7 1 Z d9 Z (h1:=(BP Z (BP Z (BP x.one (BP y.one (BP z.one Mx)))))) fun go ea au=>A7 0 Z ea Z fun gp bg av=>Al ?_;have g:=bg.rG H;refine Aq<|Ag (Ax 1 Z B5.e bg Z)<|BV [0,1,1] (r:=(.int .i64)) (fun _=>O0 _ _ _ _) (hlen:=(Ch 3)) bg (.c1 Z (.c1 Z (.c1 Z .nil))) fun gq gr f7 a4 db eb=>Av h fun a5 ec h=>?_;have x:=x.mono (Ac (aq.trans (ar.trans (au.trans av))));have y:=y.mono (Ac (aq.trans (ar.trans (au.trans av))));have z:=z.mono (Ac (aq.trans (ar.trans (au.trans av))));have g:=g.trans (Ac db)
 refine Bv a4 (N5 (a0:=ap.1) _ _ (Ao a4) (x.mono g) (y.mono g) (z.mono g) eb ec) ?_;rintro _ gs ⟨bq,br,bs,rfl,ch,ci,cj⟩ bh ed dc;have aj:=ch.mono (DN a4 bh);have ak:=ci.mono (DN a4 bh);have al:=cj.mono (DN a4 bh);refine Ar 3 Z<|AZ B5.e Z ed fun gt fh ee aw _=>AZ BB.e Z ee fun gu fi ef ax _=>A7 1 Z ef Z (h1:=(BP Z (BP Z (BP aj.one (BP ak.one (BP al.one Mx)))))) fun gv eg ay=>A7 0 Z eg Z fun gw j az=>Al ?_
 refine Bm Unit (fun(_:Unit)=>[(0,ba),(3,(Aac b5)),(6,(Aac dz)),(7,(Aac d0))]) (fun(_:Unit) wr=>DE w [.box fi [No a5.2.1,No a5.2.2] 27,.box fh [No a5.1.f.1,No a5.1.f.2.1,bq,br,bs] 34,.box d0 [No ap.2.1,No ap.2.2] 27,.box dz [No ap.1.f.1,No ap.1.f.2.1,bn,bo,bp] 34,.box b6 [No x3.2.1,No x3.2.2] 27,.box b5 [cd] 25] wr fun Oz=>AL .byte (gz H w wr Oz) bq (a5.1.f.2.2.1)/\AL .st (gz H w wr Oz) br (a5.1.f.2.2.2.1)/\AL .tree (gz H w wr Oz) bs (a5.1.f.2.2.2.2)/\AL .byte (gz H w wr Oz) bn (ap.1.f.2.2.1)/\AL .st (gz H w wr Oz) bo (ap.1.f.2.2.2.1)/\AL .tree (gz H w wr Oz) bp (ap.1.f.2.2.2.2)/\AL AaK (gz H w wr Oz) cd (x3.1)/\(Fu a0 x3)=some r) ?_ ?_
 ·have ab:=j.rG H;refine Aq<|Ag (Af Z Aaj Z B4.e)<|Ag (Ae 4 Z j Z)<|Ar 2 Z<|G9 40 h ?_ ?_<;>intro ac h
  ·iterate 3 refine Ab ac ?_
   refine Ag (Ak ac Z)<|Ar 1 Z ?_
   iterate 3 refine Ab Z ?_
   refine Ag (Ak Z Z)<|Ar 1 Z ?_
   iterate 3 refine Ab Z ?_
   refine Ag (Ak Z Z)<|Al<|Fy<|AI 1 Z<|Au<|Bp ?_
   cases h
   refine Aj Z ⟨j.ext,Z⟩
  refine Aa ac<|Ag (Af Z Aaj Z B4.e)<|Aa ac<|Ag (Ae 2 Z j Z)<|Aa ac<|Ag (Ad Z)<|Ag (Am ac Z)<|Ar 1 Z<|G9 45 h ?_ ?_<;>intro ad h
  ·iterate 3 refine Ab ad ?_
   refine Ag (Ak ad Z)<|Ar 1 Z ?_
   iterate 3 refine Ab Z ?_
   refine Ag (Ak Z Z)<|Al<|Fy<|AI 1 Z<|Au<|Bp ?_
   cases h
   refine Aj Z ⟨j.ext,Z⟩
  refine Aa ad<|Ag (Af Z Aaj Z B4.e)<|Aa ad<|Ag (Ae 0 Z j Z)<|Aa ad<|Ag (Ad Z)<|Ag (Am ad Z)<|Ar 1 Z<|G9 50 h ?_ ?_<;>intro ae h
  ·iterate 3 refine Ab ae ?_
   refine Ag (Ak ae Z)<|Al<|Fy<|AI 1 Z<|Au<|Bp ?_
   cases h
   refine Aj Z ⟨j.ext,Z⟩
  refine Aa ae<|Ag (Af Z Aaz Z B4.e)<|Aa ae<|Ag (Ae 1 Z j Z)<|Aa ae<|Ag (Ad Z)<|Ag (Am ae Z)<|Al<|DP h ?_ ?_<;>intro eh h
  ·refine AI 1 Z<|Au<|Bp ?_
   cases h
   refine Aj Z ⟨j.ext,Z⟩
  refine A4 ?_;have t:=t.mono (Ac (da.trans (aq.trans (ar.trans (au.trans av)))));have g:=g.trans (Ac (dc.trans (aw.trans (ax.trans (ay.trans az)))));have aj:=aj.mono (Ac (aw.trans (ax.trans (ay.trans az))));have ak:=ak.mono (Ac (aw.trans (ax.trans (ay.trans az))));have al:=al.mono (Ac (aw.trans (ax.trans (ay.trans az))));refine AH () ⟨j,(aj.mono ab),(ak.mono ab),(al.mono ab),((x.mono g).mono ab),((y.mono g).mono ab),((z.mono g).mono ab),((t.mono g).mono ab),h⟩
 rintro _ f8 ⟨am,fj,fk,fl,fm,fn,fo,bc,h⟩;have bb:=am.rG H;refine B1 1 Z<|Av h fun gx ei h=>Bv am (QF _ _ (Ao am) (bd.mono  Ai) ei) ?_;rintro _ gy ⟨fq,fr,fs,ft,rfl,ck,cl,cm,fp⟩ bi ej dd;have cn:=ck.mono (DN am bi);have co:=cl.mono (DN am bi);have k:=cm.mono (DN am bi);refine Ar 4 Z<|AZ B5.e Z ej fun g0 g1 ek bt _=>AZ BB.e Z ek fun g2 g3 el bu _=>A7 1 Z el Z (h1:=(BP Z (BP Z (BP cn.one (BP co.one (BP k.one Mx)))))) fun g4 em bv=>Ar 1 Z<|A7 0 Z em Z fun g5 u bw=>Al<|AM ?_;have af:=u.rG H;refine Aq<|Ag (Af Z Aaj Z B4.e)<|Ag (Ae 0 Z u Z)<|A1 1 Z<|DP h ?_ ?_<;>intro en h
 ·refine AI 1 Z<|Au<|AE ?_
  cases h
  refine Aj Z ⟨u.ext,Z⟩
 refine A4<|A2<|Aq<|Ag (Ax 7 Z HQ.e u Z)<|Ar 1 Z<|Av h fun cp eo h=>?_;have bb:=bb.trans (Ac (dd.trans (bt.trans (bu.trans (bv.trans bw)))));refine Bv u (LP (a0:=x3.1) _ _ (Ao u) (hU.mono  Ai) ((bc.mono bb).mono af) (bd.mono  Ai) eo) ?_;rintro _ g6 ⟨fu,fv,fw,rfl,cq,cr,cs⟩ bj ep de;have m:=cq.mono (DN u bj);have o:=cr.mono (DN u bj);have p:=cs.mono (DN u bj);refine Ar 3 Z<|A7 5 Z ep Z (h1:=(BP Z (BP Z (BP m.one (BP o.one (BP p.one Mx)))))) fun g7 eq a2=>A7 4 Z eq Z fun g8 an a3=>Al ?_;have c:=an.rG H;refine Aq<|Ag (Ax 7 Z HQ.e an Z)<|Ag (Ax 5 Z B5.e an Z)<|Av h fun g9 er h=>?_;have af:=af.trans (Ac (de.trans (a2.trans a3)));have m:=m.mono (Ac (a2.trans a3));have o:=o.mono (Ac (a2.trans a3));have p:=p.mono (Ac (a2.trans a3))
 refine Bv an (O6 (a0:=x3.1) (a1:=cp.1) _ _ (Ao an) (hU.mono  Ai) (((bc.mono bb).mono af).mono c) (m.mono c) (o.mono c) (p.mono c) er) ?_;rintro _ ha ⟨fx,rfl,ct⟩ es et df;have a6:=ct.Dj hH an es;refine Ar 3 Z<|AZ BB.e Z et fun hb hc eu bx _=>Ar 1 Z<|A7 0 Z eu Z fun hd cu bz=>Al<|Aq<|Ag (Ax 6 Z B5.e cu Z)<|BV [0,1,1] (r:=(.int .i64)) (fun _=>O0 _ _ _ _) (hlen:=(Ch 3)) cu (.c1 Z (.c1 Z (.c1 Z .nil))) fun he hf f9 a7 b0 ev=>Av h fun hg ew h=>?_;have c:=c.trans (Ac (df.trans (bx.trans (bz.trans b0))));refine Bv a7 (N5 (a0:=cp.1) _ _ (Ao a7) (m.mono c) (o.mono c) (p.mono c) ev ew) ?_;rintro _ hh ⟨fy,fz,f0,rfl,cv,cw,cx⟩ bk ex b1;have cy:=cv.mono (DN a7 bk);have cz:=cw.mono (DN a7 bk);have c0:=cx.mono (DN a7 bk);refine Ar 3 Z<|AZ B5.e Z ex fun hi hj ey b2 _=>AZ BB.e Z ey ?_;intro hk hl ez b3 _
 refine A7 1 Z ez Z (h1:=(BP Z (BP Z (BP cy.one (BP cz.one (BP c0.one Mx)))))) fun hm e0 b4=>A7 0 Z e0 Z fun hn bl b7=>Al ?_;have i:=bl.rG H;refine Aq<|Ag (Ax 8 Z B5.e bl Z)<|BV [0,1,2] (r:=(.int .i64)) (fun _=>O0 _ _ _ _) (hlen:=(Ch 3)) bl (.c1 Z (.c1 Z (.c1 Z .nil))) fun ho hq ga a8 dg e1=>Av h fun hr e2 h=>?_;have c:=c.trans (Ac (b1.trans (b2.trans (b3.trans (b4.trans b7)))));have i:=i.trans (Ac dg);refine Bv a8 (N5 (a0:=cp.1) _ _ (Ao a8) ((m.mono c).mono i) ((o.mono c).mono i) ((p.mono c).mono i) e1 e2) ?_;rintro _ hs ⟨f1,f2,f3,rfl,c2,c3,c4⟩ bm e3 dh;have c5:=c2.mono (DN a8 bm);have c6:=c3.mono (DN a8 bm);have c7:=c4.mono (DN a8 bm);refine Ar 3 Z<|AZ B5.e Z e3 fun ht hu e4 di _=>AZ BB.e Z e4 fun hv hw e5 dj _=>A7 1 Z e5 Z (h1:=(BP Z (BP Z (BP c5.one (BP c6.one (BP c7.one Mx)))))) fun hx e6 dk=>A7 0 Z e6 Z ?_;intro hy e dl
 refine Al<|AM ?_;have ao:=e.rG H;refine Aq<|Ag (Af Z Aaj Z B4.e)<|Ag (Ae 9 Z e Z)<|Ar 2 Z<|G9 91 h ?_ ?_<;>intro ag h
 ·iterate 3 refine Ab ag ?_
  refine Ag (Ak ag Z)<|Ar 1 Z ?_
  iterate 3 refine Ab Z ?_
  refine Ag (Ak Z Z)<|Ar 1 Z ?_
  iterate 3 refine Ab Z ?_
  refine Ag (Ak Z Z)<|Ar 1 Z ?_
  iterate 4 refine Ab Z ?_
  refine Ag (Ak Z Z)<|Al<|Fy<|AI 1 Z<|Au<|AE ?_
  cases h
  refine Aj Z ⟨e.ext,Z⟩
 refine Aa ag<|Ag (Af Z Aaj Z B4.e)<|Aa ag<|Ag (Ae 4 Z e Z)<|Aa ag<|Ag (Ad Z)<|Ag (Am ag Z)<|Ar 1 Z<|G9 96 h ?_ ?_<;>intro ah h
 ·iterate 3 refine Ab ah ?_
  refine Ag (Ak ah Z)<|Ar 1 Z ?_
  iterate 3 refine Ab Z ?_
  refine Ag (Ak Z Z)<|Ar 1 Z ?_
  iterate 4 refine Ab Z ?_
  refine Ag (Ak Z Z)<|Al<|Fy<|AI 1 Z<|Au<|AE ?_
  cases h
  refine Aj Z ⟨e.ext,Z⟩
 refine Aa ah<|Ag (Af Z Aaj Z B4.e)<|Aa ah<|Ag (Ae 2 Z e Z)<|Aa ah<|Ag (Ad Z)<|Ag (Am ah Z)<|Ar 1 Z<|G9 101 h ?_ ?_<;>intro ai h
 ·iterate 3 refine Ab ai ?_
  refine Ag (Ak ai Z)<|Ar 1 Z ?_
  iterate 4 refine Ab Z ?_
  refine Ag (Ak Z Z)<|Al<|Fy<|AI 1 Z<|Au<|AE ?_
  cases h
  refine Aj Z ⟨e.ext,Z⟩
 refine Aa ai<|Ag (Af Z Aaj Z B4.e)<|Aa ai<|Ag (Ae 0 Z e Z)<|Aa ai<|Ag (Ad Z)<|Ag (Am ai Z)<|Ar 1 Z<|G9 106 h ?_ ?_<;>intro aa h
 ·iterate 4 refine Ab aa ?_
  refine Ag (Ak aa Z)<|Al<|Fy<|AI 1 Z<|Au<|AE ?_
  cases h
  refine Aj Z ⟨e.ext,Z⟩
 refine Aa aa<|Ag (Af Z Aaz Z Ig.e)<|Aa aa<|Ag (Ae 6 Z e Z)<|Aa aa ?_;have k:=k.mono (Ac (bt.trans (bu.trans (bv.trans bw))));have i:=i.trans (Ac (dh.trans (di.trans (dj.trans (dk.trans dl)))));refine Ag (AT ((((k.mono af).mono c).mono i).mono ao))<|Aa aa<|Ag (Ad Z)<|Ag (Am aa Z)<|Al<|DP h ?_ ?_<;>intro dm h
 ·refine AI 1 Z<|Au<|AE ?_
  cases h
  refine Aj Z ⟨e.ext,Z⟩
 refine A4<|A2<|CI (Qqz 0 24 (.tail 24)) mixed V (fun gb b8=>?_);have d:=e.call b8;have c8:=Bd e b8;refine BJ 2 Z<|Av h fun gc dn h=>?_;have a6:=a6.mono (Ac (bx.trans (bz.trans (b0.trans (b1.trans (b2.trans (b3.trans (b4.trans b7))))))));have ao:=ao.trans (Ac c8);refine IA Z Z Z (fun gd b9=>QA _ _ (Le.refl _) ((((a6.mono i).mono ao).mono (Ao d)).mono b9.le) ((bd.mono (hH.trans d.arg)).mono b9.le) dn)<|BJ 1 Z<|Ic 115 Z (fun a=>?_) (fun a=>?_)
 ·have h:=LD a h;refine CE Z (Af Z Aaz Z B4.e) Z Z Z a Z<|CE Z (Ae 3 Z d Z) Z Z Z a Z<|CE Z (Af Z Aaz Z Ig.e) Z Z Z a Z<|CE Z (Ae 6 Z d Z) Z Z Z a Z<|A3 h fun ca h=>HM Z Z Z Z a Z Z Aa3 ((((k.mono af).mono c).mono i).mono ao) ((0:Int).toNat) (CT ca) (AD ca) Z ?_;rintro ge _ e111t0 dp;obtain⟨_,_,rfl,rfl,⟨_,_,rfl,rfl,⟨_,_,rfl,⟨e111v2,rfl,e111h2⟩,⟨_,_,rfl,⟨e111v3,rfl,e111h3⟩,⟨e111v4,rfl,e111h4⟩⟩⟩⟩⟩:=Go.E.Rp.Ex e111t0;refine CE Z (Af Z Aaz Z B4.e) Z Z Z a Z ?_;have dq:=dp.add 1;refine CE Z (AX dq (Ao d)) Z Z Z a Z<|CE Z (Ad Z) Z Z Z a Z<|B9 Z (Ak a Z) Z<|BJ 1 Z<|Ic 125 Z (fun b=>?_) (fun b=>?_)
  ·have h:=MQ (of_decide_eq_true b) h;refine CE Z (Af Z Aaz Z B4.e) Z Z Z b Z<|CE Z (Ae 1 Z d Z) Z Z Z b Z<|CE Z (Af Z Aaz Z Ig.e) Z Z Z b Z<|CE Z (Ae 6 Z d Z) Z Z Z b Z<|A3 h fun cb h=>HM Z Z Z Z b Z Z Aa3 ((((k.mono af).mono c).mono i).mono ao) ((1:Int).toNat) (CT cb) (AD cb) Z ?_;rintro gf _ e116t0 dr;obtain⟨_,_,rfl,rfl,⟨_,_,rfl,rfl,⟨_,_,rfl,⟨e116v2,rfl,e116h2⟩,⟨_,_,rfl,⟨e116v3,rfl,e116h3⟩,⟨e116v4,rfl,e116h4⟩⟩⟩⟩⟩:=Go.E.Rp.Ex e116t0;refine CE Z (Af Z Aaz Z B4.e) Z Z Z b Z ?_;have ds:=dr.add 1;refine CE Z (AX ds (Ao d)) Z Z Z b Z<|CE Z (Ad Z) Z Z Z b Z<|B9 Z (Ak b Z) Z<|BJ 1 Z<|B8 (fun gg dt=>?_);have du:=d.call dt;refine Al<|Au ?_
   cases h
   refine Aj Z ⟨du.ext,Z⟩
  have h:=MR (of_decide_eq_false b) h
  iterate 8 refine M3 Z Z Z Z b Z ?_
  refine B9 Z (Am b Z) Z<|BJ 1 Z<|B8 (fun gh dv=>?_);have dw:=d.call dv;refine Al<|Au ?_
  cases h
  refine Aj Z ⟨dw.ext,Z⟩
 have h:=LF a h
 iterate 8 refine M3 Z Z Z Z a Z ?_
 refine B9 Z (Am a Z) Z<|BJ 1 Z ?_
 iterate 8 refine M3 Z Z Z Z Z Z ?_
 refine B9 Z (Am Z Z) Z<|BJ 1 Z<|B8 (fun gi dx=>?_);have dy:=d.call dx;refine Al<|Au ?_
 cases h
 refine Aj Z ⟨dy.ext,Z⟩
end
end Go.Proofs.YtnmkjjgmnbmmnaaGreatDoor
end
noncomputable section
namespace Go.Proofs.YtnmkjjgmnbmmnaaGreatDoor
open Go Go.E Go.RowKit Go.L
theorem S9{cs:List Co}(hc:cs.length<=16):∀(n j:Nat) (o:Qq3),j+n=cs.length->o.length<=1+3 * j->∃r,Hu cs (o,(j:Int))=some r/\r.length<=49
 | 0,j,o,hj,ho=>by
  refine⟨o,?_,by omega⟩;unfold Hu;refine BA (m:=some o) ?_;unfold I5 KQ;dsimp only;rw[if_neg U]
 | n+1,j,o,hj,ho=>by
  obtain⟨r,r1,r2⟩:=S9 hc n (j+1) (o++[(cs.getD (j:Int).toNat Qq1).1,(cs.getD (j:Int).toNat Qq1).2.1,(cs.getD (j:Int).toNat Qq1).2.2]) U (by rw[Qzk];simp;omega);refine⟨r,?_,r2⟩;unfold Hu at r1 ⊢;rw[BK ?_,r1];unfold I5;dsimp only;rw[if_pos U,An,An (h:=(by unfold Gx;simp;omega)),An (h:=(by unfold BH;omega))]
  rfl
theorem YE{s:Int×List Co}(a:0<=s.1)(hi:s.1<=1000)(hc:s.2.length<=16):∃r,FT s=some r:=by
 unfold FT Ew
 split
 ·exact⟨_,Z⟩
 ·rw[OA a hi,Qq9,Qq9]
  split
  ·obtain⟨r,r1,r2⟩:=S9 hc s.2.length 0 [u8 (s.2.length:Int)] U Qqc;unfold MM;have r1:Hu s.2 ([u8 (s.2.length:Int)],0)=some r:=r1;rw[r1,Qq9,An (h:=(by unfold Gx;simp;omega))];exact⟨_,Z⟩
  ·exact⟨_,Z⟩
theorem Xl{x y:Int}{b:Qq3}(hx:0<=x/\x<65536)(hy:0<=y/\y<65536)(hb:b.length<=20000):∃f,Cn (Om [E2,Dp,NB] [Hm x,Hm y,Jy b])=some f:=by
 have e:=O7 x;have g:=O7 y;have a:nd 2 (Om [E2,Dp,NB] [Hm x,Hm y,Jy b])=4:=Z;have c:ed 2 (Om [E2,Dp,NB] [Hm x,Hm y,Jy b])=3+(((1+nz x)+((1+nz y)+((4+b.length)+0)))+20):=Z;refine R8 (d:=2) Qqb ⟨Y1 _ _ _,show(3:Nat)<=600 by omega,fun p hp=>?_⟩ (by rw[a];omega) (RB Z Qqb Qqc fun p hp=>?_) (by rw[c];omega)
 ·have hp:p∈[Hm x,Hm y,Jy b]:=hp;simp only[QzJ,Qz5,or_false]at hp
  rcases hp with rfl | rfl | rfl
  ·exact MG _
  ·exact MG _
  ·exact R9 _
 ·simp only[QzJ,Qz5,or_false]at hp
  rcases hp with rfl | rfl | rfl
  ·exact MH hx.1 hx.2
  ·exact MH hy.1 hy.2
  ·exact RA hb
theorem Zz(a:Qq3):∃r,MO a=some r/\(r.2.2.1=0->∃p x,a=Kf p/\QD p/\a.length<=1000/\r.1.f.2.2.2.2=[Hm p.2.1.toNat,Hm p.2.2.1.toNat,x]):=by
 unfold MO Ks Ki
 split
 ·exact⟨_,Z,fun h=>absurd h Qqb⟩
 ·rename_i hlen;obtain⟨r,r1,r2⟩:=Xk (a:=a) U;rw[r1,Qq9]
  split
  ·rename_i hok;obtain⟨p,d,c⟩:=r2 hok;have hx:=c.x;have a1:=p.2.1.toNat_lt;have a2:=p.2.2.1.toNat_lt;have a3:=p.1.toNat_lt;obtain⟨f,hf⟩:=Xl (x:=r.1) (y:=r.2.1) (b:=r.2.2.1) (by rw[c.w];omega) (by rw[c.h];omega) hx;obtain⟨w,hw⟩:=YE (s:=r.2.2.2.1) (by rw[c.f];omega) (by rw[c.f];omega) c.l;unfold Md Jj Cl;rw[Qq9,Qq9,An (h:=(by unfold Gx;simp;omega)),Qq9,Qq9]
   show ∃z,Qq8 (Cn (Om [E2,Dp,NB] [Hm r.1,Hm r.2.1,Jy r.2.2.1])) _=some z/\_
   rw[hf,Qq9]
   split
   ·rw[hw,Qq9];unfold Mj;refine⟨_,Z,fun _=>⟨p,Jy r.2.2.1,d,c.ok,by omega,?_⟩⟩;rw[<- c.w,<- c.h]
    rfl
   ·exact⟨_,Z,fun h=>absurd h Qqb⟩
  ·exact⟨_,Z,fun h=>absurd h Qqb⟩
theorem VN{p:Pc}(hp:QD p)(hl:(Kf p).length<=1000):HY SF (Kf p)=some (vF p,(0,0)):=by
 unfold HY IE;rw[N4,Qq9,if_pos ⟨Z,Z⟩,if_neg U,St,Qq9,Yn hl hp,Qq9,if_neg (by show ¬(((Kf p).length:Int)<_);omega)]
 show Qq8 (Cn (vF p)) _=_
 rw[LS hp,Qq9,if_pos ⟨Z,Z⟩]
 rfl
theorem YF{p:Pc}(hp:QD p)(hl:(Kf p).length<=1000):JF SF (vF p)=some (Kf p,(0,0)):=by
 obtain⟨n,h⟩:=Yt hp;unfold JF IF;rw[N4,Qq9,if_pos ⟨Z,Z⟩,LS hp,Qq9,if_pos ⟨Z,Z⟩,h,Qq9,if_neg (by show ¬(1000<((Kf p).length:Int));omega)]
 rfl
def Z0:Pc:=(48,1,1,[],[7,8,9])
theorem RE(a:Qq3):Gv a=some true:=by
 have hp:=Vr;obtain⟨f,b,d⟩:=bind_some hp;have h1:QD Z0:=⟨by decide,by decide,by decide,by decide,by decide,by decide,by decide,by decide,fun c hc=>(by cases hc),by decide⟩;have hone:([(82:UInt8),(65:UInt8),(83:UInt8),(49:UInt8),(48:UInt8),(1:UInt8),(1:UInt8),(0:UInt8),(3:UInt8),(7:UInt8),(8:UInt8),(9:UInt8)]:Qq3)=Kf Z0:=by decide
 unfold Gv;rw[b,Qq9,d,Qq9,hone,VN h1 Qqb,Qq9,(TH h1).1,Qq9,if_pos Z,if_pos Z,if_pos Z,if_pos (by rfl)];unfold Fu;obtain⟨r,r1,r2⟩:=Zz a;rw[r1,Qq9]
 split
 ·rename_i e;obtain⟨p,x,ea,hk,hl,hr⟩:=r2 e;subst ea;have hs:=TH hk;rw[VN hk hl,Qq9,YF hk hl,Qq9,hs.1,Qq9,hs.2,Qq9,if_pos Z,if_pos Z,if_pos Z,if_pos Z,hr,if_pos (by rfl)];unfold NY;rw[Qq9,if_pos Qqc,An (h:=(by simp)),if_pos (by rfl),An (h:=(by simp))];exact congrArg some (decide_eq_true Z)
 ·rfl
end Go.Proofs.YtnmkjjgmnbmmnaaGreatDoor
end
noncomputable section
namespace Go.E
open Go Go.RowKit Go.ChangeShapes Go.WideShapes
section
variable {H:Type}{enc:TypeId×Value->H}{P:Program}{w:World}{base:Nat}{spare:Nat->Bool}{held:Bool}
theorem wf_u8{n:Int}(h:(Lit.int .u8 n).wf=true):0<=n/\n<=255:=by
 simpa[Lit.wf,IntKind.min,IntKind.max,IntKind.signed,IntKind.bits]using h
theorem NQ(hl:laidOutB P=true){W W':World}(hb:Below W.heap.size W W'):∀{ts:List TypeId}{vs:Qq5}{ds:List (DataW H)}{ps:List MemPlace},(∀t∈ts,P.readableRec t=true/\t<P.types.size)->
  DataW.TrodAll enc P W 0 (fun _=>true) true ts vs ds ps->(∀x∈ps,x.block<W.heap.size)->DataW.TrodAll enc P W' 0 (fun b=>decide (b<W.heap.size)) true ts vs ds ps
 | [],[],[],ps,_,h,_=>h
 | t::ts,v::vs,d::ds,ps,ht,h,hlt=>by
  obtain⟨p,q,h1,h2,rfl⟩:=h;have a:=ht t (.head _);exact⟨p,q,Below.trod hl a.1 a.2 h1 hb (fun x hx=>hlt x (Qxc.2 (.inl hx))),NQ hl hb (fun t' h'=>ht t' (.tail _ h')) h2 (fun x hx=>hlt x (Qxc.2 (.inr hx))),Z⟩
 | [],[],_::_,_,_,h,_=>by cases h
 | [],_::_,_,_,_,h,_=>by cases h
 | _::_,[],_,_,_,h,_=>by cases h
 | _::_,_::_,[],_,_,h,_=>by cases h
end
end Go.E
namespace Go.E
open Go Go.RowKit Go.ChangeShapes Go.WideShapes Go.Deep
def Reads(P:Program)(t:TypeId){α:Type}(r:Rp α)(ok:α->Prop):Prop:=
 ∀
  {H:Type}{enc:TypeId×Value->H}{w:World}{base:Nat}{spare:Nat->Bool}{held:Bool}{fuel:Nat}{cs:Qq5}{x:DataW H×List MemPlace},
  DataW.trod enc P w base spare held fuel t cs=some x->∃a,r.rel (hp w) a cs/\ok a
section
variable {P:Program}{t e:TypeId}
theorem Tk(ht:P.underlying t=some (.int .u8)):Reads P t .byte (fun _=>True):=fun h=>by
 obtain⟨n,rfl,_,hw⟩:=DataW.trod_int ht h;have hw':=wf_u8 hw;refine⟨Go.L.u8 n,?_,trivial⟩
 show[_]=[_]
 rw[Go.L.Sc,Int.emod_eq_of_lt U U]
theorem SA[Dr]{α:Type}{r:Rp α}{ok:α->Prop}(ht:P.underlying t=some (.slice e))(hc:P.cellsOf e=r.sz)(hsz:0<r.sz)(hr:Reads P e r ok):Reads P t (.vec r) (fun l=>l.length<=9223372036854775807/\∀x∈l,ok x):=fun {H enc w base spare held fuel cs x} h=>by
 rcases open_slice ht h with ⟨rfl,_⟩ | ⟨a,len,cap,m,n,D,Pl,rfl,hb,hl,hm,rfl,_,hel⟩
 ·exact⟨[],⟨_,Z,AL.nil _ _⟩,by simp,by simp⟩
 ·have p:len<=(if spare a.block then cap else len):=by split <;> omega
  have hx:∀i,i<len->∃y,ok y/\∃c,r.rel (hp w) y c/\w.cells? base (a.add (i * r.sz)) r.sz=some c:=fun i hi=>by
   obtain⟨cs',h1,h2⟩:=hel i U;obtain⟨y,h3,b⟩:=hr h2;rw[hc]at h1;exact⟨y,b,cs',h3,h1⟩
  have key:∀k,k<=len->∃l:List α,l.length=k/\(∀x∈l,ok x)/\∀i y,l[i]? = some y->∃c,r.rel (hp w) y c/\w.cells? base (a.add (i * r.sz)) r.sz=some c:=by
   intro k
   induction k with
   | zero=>intro _;exact⟨[],Z,by simp,by simp⟩
   | succ k ih=>
    intro hk;obtain⟨l,h1,h2,h3⟩:=ih U;obtain⟨y,b,c,d,o⟩:=hx k U;refine⟨l++[y],by simp[h1],fun z hz=>?_,fun i z hz=>?_⟩
    ·rcases Qxc.1 hz with hz | hz
     ·exact h2 z hz
     ·simp at hz;subst hz;exact b
    ·rcases QzX i l.length with hi | hi
     ·rw[List.getElem?_append_left hi]at hz;exact h3 i z hz
     ·rw[List.getElem?_append_right hi]at hz
      have f:i - l.length=0:=by
       have:=(Qxq.1 hz).1;simp at this;omega
      rw[f]at hz;simp at hz;subst hz;obtain rfl:i=k:=by omega
      exact⟨c,d,o⟩
  obtain⟨l,h1,h2,h3⟩:=key len (Qzx _);have hlm:len<=9223372036854775807:=by unfold maxLen at hm;omega
  refine⟨l,⟨_,Z,some a,cap,by rw[h1],by omega,hm,(fun h=>by cases h),fun A hA hne=>?_⟩,by omega,h2⟩
  cases hA
  have cell:∀i y,l[i]? = some y->∃c,r.rel (hp w) y c/\∀j u,c[j]? = some u->w.cell? ((a.add (i * r.sz)).add j)=some u:=fun i y hy=>by
   obtain⟨c,b,d⟩:=h3 i y hy;obtain⟨_,hlen,hcell⟩:=World.cells?_some d;exact⟨c,b,fun j u hu=>by rw[<- hu];exact hcell j (by rw[<- hlen];exact(Qxq.1 hu).1)⟩
  have hspot:a.spot=none:=by
   obtain⟨y,l',rfl⟩:=List.exists_cons_of_ne_nil hne;obtain⟨c,b,d⟩:=cell 0 y Z;have g:0<c.length:=by rw[r.len b];omega
   have:=World.cell?_spot (d 0 _ (List.getElem?_eq_getElem g))
   simpa[Addr.add]using this
  refine⟨hspot,fun i y hy=>?_⟩;obtain⟨c,b,d⟩:=cell i y hy;refine⟨c,b,fun j u hu=>?_⟩;rw[<- KW hspot];exact d j u hu
end
end Go.E
end
noncomputable section
namespace Go.Proofs.YtnmkjjgmnbmmnaaGreatDoor
open Go Go.E Go.Shelf Go.Lib
def Rh : List (String × DataW Unit) := [("math/bits.deBruijn32tab", Rows.laid_math_bits_deBruijn32tab), ("math/bits.deBruijn64tab", Rows.laid_math_bits_deBruijn64tab), ("internal/strconv.uint64pow10", Rows.laid_internal_strconv_uint64pow10), ("unicode/utf8.acceptRanges", Rows.laid_unicode_utf8_acceptRanges), ("strconv.ErrRange", Rows.laid_strconv_ErrRange), ("strconv.ErrSyntax", Rows.laid_strconv_ErrSyntax), ("unicode.White_Space", Rows.laid_unicode_White_Space), ("strings.asciiSpace", Rows.laid_strings_asciiSpace), ("unicode/utf8.first", Rows.laid_unicode_utf8_first)]
theorem star : "*" ++ "errors.errorString" = "*errors.errorString" := by decide
theorem VO (u : TypeId) (h : Tryz.prog.typeName? 3 u = some "*errors.errorString") : u = 246 :=
 typeName_ptr_named (nm := "errors.errorString") (by rw[star]; kernel_rfl) (by kernel_rfl) (by decide) u (by rw[star]; exact h)
theorem VP{W w:World}{n:String}{cs:Array Value}(hs:Le (hp W) (hp w))(h:W.var? Tryz.prog n=some cs):w.var? Tryz.prog n=some cs:=by
 unfold World.var? at h ⊢
 cases hg:Tryz.prog.globalNamed n with
 | none=>rw[hg]at h;cases h
 | some g=>
  rw[hg]at h;simp only[Qq9]at h ⊢
  cases ho:W.heap[g]? with
  | none=>rw[ho]at h;cases h
  | some o=>rw[ho]at h;rw[show w.heap[g]? = some o from hs g o ho];exact h
theorem Pk{W:World}{n:String}{g:Nat}{v:Value}(hg:Tryz.prog.globalNamed n=some g)(h:W.var? Tryz.prog n=some #[v]):I6 (hp W) ⟨g,0,none⟩=some v:=by
 rw[RO,World.var?_cell hg h 0]
 rfl
theorem RF{W:World}(h:laidMetH Tryz.prog Rh W):Jm (hp W):=by
 rw[MakeChecks.laidMetH_plain _ _ _ V]at h;have d:(Rows.laid_internal_strconv_uint64pow10:DataW Unit)=tabData .u64 pow10Tab:=by kernel_rfl
 have f:(Rows.laid_strings_asciiSpace:DataW Unit)=tabData .u8 asciiSpaceTab:=by kernel_rfl
 have hT : laidMet Tryz.prog (("internal/strconv.uint64pow10", tabData .u64 pow10Tab) :: _) W := d ▸ h.tail.tail
 have a : TabIs Tryz.prog W "internal/strconv.uint64pow10" .u64 pow10Tab := tabIs_of_head (g := 7) (t := 250) (e := 219) (n := 20) (by kernel_rfl) (by kernel_rfl) Tryz.underlying250 Tryz.underlying219 (by kernel_rfl) (by kernel_rfl) hT
 have hS : laidMet Tryz.prog (("strings.asciiSpace", tabData .u8 asciiSpaceTab) :: _) W := f ▸ h.tail.tail.tail.tail.tail.tail.tail
 have hsp : TabIs Tryz.prog W "strings.asciiSpace" .u8 asciiSpaceTab := tabIs_of_head (g := 0) (t := 121) (e := 5) (n := 256) (by kernel_rfl) (by kernel_rfl) Tryz.underlying121 Tryz.underlying5 (by kernel_rfl) (by kernel_rfl) hS
 obtain⟨a1,i,b,_⟩:=laid_sentinel (g:=4) h.tail.tail.tail.tail V V Tryz.underlying129 VO Tryz.underlying246 Tryz.underlying248 Z Z Tryz.underlying9 V V;obtain⟨a2,j,c,_⟩:=laid_sentinel (g:=3) h.tail.tail.tail.tail.tail V V Tryz.underlying129 VO Tryz.underlying246 Tryz.underlying248 Z Z Tryz.underlying9 V V;exact⟨fun w hw=>VP hw a,⟨_,_,Pk V c⟩,⟨_,_,Pk V b⟩,fun w hw=>VP hw hsp⟩
noncomputable def Pb(os:Os):World:=
 let N:=(World.settled Tryz.prog os).heap.size
 let u (l:Qq4):Array Value:=(l.map (Value.int .u16)).toArray
 let a:=World.holding Tryz.prog os ⟨#[.cells #[.string ⟨#[118,97,108,117,101,32,111,117,116,32,111,102,32,114,97,110,103,101]⟩] 248,.cells #[.string ⟨#[105,110,118,97,108,105,100,32,115,121,110,116,97,120]⟩] 248,
  .cells #[.slice (some ⟨N+3,0,none⟩) 7 7,.slice none 0 0,.int .i64 2] 194,.cells (u [9,13,1,32,133,101,160,5760,5600,8192,8202,1,8232,8233,1,8239,8287,48,12288,12288,1]) 197],#[],[]⟩
 let put (h:Array Obj) (g:Nat) (cs:Array Value):Array Obj:=h.modify g fun
  | .cells _ t frozen=>.cells cs t frozen
  | o=>o
 let b:=put (put a.heap 4 #[.iface 246 (.pointer (some ⟨N,0,none⟩))]) 3 #[.iface 246 (.pointer (some ⟨N+1,0,none⟩))]
 let h1:=put (put b 5 (Lib.firstTab.map fun z=>Value.int .u8 z).toArray) 6 ((List.range 16).flatMap fun i=>[Value.int .u8 (Lib.accLo i),Value.int .u8 (Lib.accHi i)]).toArray
 let h2:=put (put (put h1 7 (pow10Tab.map (Value.int .u64)).toArray) 0 (asciiSpaceTab.map (Value.int .u8)).toArray) 2 #[.pointer (some ⟨N+2,0,none⟩)]
 let nums (d:DataW Unit):Array Value:=match d with
  | .agg l=>(l.map fun | .lit (.int k z)=>Value.int k z | _=>.int .u8 0).toArray
  | _=>#[]
 let h3:=put (put h2 8 (nums Rows.laid_math_bits_deBruijn32tab)) 9 (nums Rows.laid_math_bits_deBruijn64tab)
 {a with heap:=h3}
def XG:MemPlace->Nat
 | .cell b off=>b * 512+off
 | .map r=>r
def RG:List Nat->Nat->Bool
 | [],_=>true
 | x::l,m=>!m.testBit x&&RG l (m ||| 2 ^ x)
theorem Pm:∀(l:List Nat) (m:Nat),RG l m=true->l.Nodup/\∀x∈l,m.testBit x=false
 | [],_,_=>⟨List.nodup_nil,fun x hx=>(by cases hx)⟩
 | x::l,m,h=>by
  simp only[RG,Bool.and_eq_true,Bool.not_eq_true']at h;obtain⟨h1,h2⟩:=Pm l _ h.2;refine⟨List.nodup_cons.2 ⟨fun hx=>?_,h1⟩,fun y hy=>?_⟩
  ·have:=h2 x hx;simp[Nat.testBit_or,Nat.testBit_two_pow]at this
  ·rcases QzJ.1 hy with rfl | hy
   ·exact h.1
   ·have:=h2 y hy;rw[Nat.testBit_or,Bool.or_eq_false_iff]at this;exact this.1
theorem Uv{ps:List MemPlace}:(ps.map XG).Nodup->ps.Nodup:=by
 induction ps with
 | nil=>intro _;exact List.nodup_nil
 | cons p ps ih=>
  intro h;rw[List.map_cons,List.nodup_cons]at h;exact List.nodup_cons.2 ⟨fun hp=>h.1 (List.mem_map_of_mem hp),ih h.2⟩
theorem YG{P:Program}{w:World}{l:List (String×DataW Unit)}(fuel:Nat)(h:(DataW.laidRun P w fuel (l.map (·.1))).map (·.1)=some l)
  (hn:(DataW.laidRun P w fuel (l.map (·.1))).map (fun x=>RG (x.2.map XG) 0)=some true) (hr:(DataW.laidRun P w fuel (l.map (·.1))).map (fun x=>laidRowsB P w x.2)=some true):laidMet P l w:=by
 cases hx:DataW.laidRun P w fuel (l.map (·.1))with
 | none=>simp[hx]at h
 | some x=>
  obtain⟨l',ps⟩:=x;simp only[hx,Option.map_some,Option.some.injEq]at h hn hr;subst h;exact laidMet_of_run fuel hx (decide_eq_true (Uv (Pm _ _ hn).1)) hr
set_option maxRecDepth 100000 in
theorem VQ(os:Os)(args:Array Value):laidMet Tryz.prog (Rh.filter fun x=>x.2.handleName?.isNone) ((Pb os).forCall (fun _ _=>0) ⟨#[],args,[]⟩).memory:=YG 12 (by as_aux_lemma=>kernel_rfl) (by as_aux_lemma=>kernel_rfl) (by as_aux_lemma=>kernel_rfl)
set_option maxRecDepth 100000 in
theorem VR(os:Os)(args:Array Value):laidMetH Tryz.prog Rh ((Pb os).forCall (fun _ _=>0) ⟨#[],args,[]⟩).memory:=
 laidMetH_of_parts3 (fuel:=12) (VQ os args) V V
end Go.Proofs.YtnmkjjgmnbmmnaaGreatDoor
end
