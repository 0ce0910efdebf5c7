/- Texts of a claim, merged. -/
import Derived.Test.YtopocbcekabkoaaGreatDoorLa4
import Derived.KernelRfl
import Derived.Shelf.SlSortCmp.NoneTotal
open _root_.Go.Proofs.Tryz renaming underlying33→Aco,underlying27→Ae1,underlying35→Ae3,underlying26→Ae5,underlying120→Afi,underlying51→Ahe,underlying49→Ahf,underlying74→Aii,underlying30→AjR,underlying46→AkU,underlying53→AkY,underlying76→Ako,underlying78→Akt,underlying44→Ale,underlying55→Alf,underlying139→Alh,underlying143→Ali
open Option renaming bind->Qq9,map->Qzx
open Int renaming toNat_natCast->Qzk
open List renaming replicate->Qzv,length_map->Qza,range->Qzb,eq_nil_of_length_eq_zero->Qxd,map_map->Qkk
set_option linter.unusedVariables false
set_option linter.unusedSimpArgs false
set_option linter.unusedSectionVars false
noncomputable section
namespace Go.Proofs.YtopocbcekabkoaaGreatDoor
open Go Go.E Go.RowKit Go.L
set_option maxHeartbeats 1000000
set_option maxRecDepth 10000
open _root_.Go.Proofs.Tryz
def JQ(_self1:Qv->Option Abv)(self2:(List Qv)->Abv->Qq5->Option Abv)(a0:Qv):Option Abv:=
 if a0.f.1=1 then AU (0<=(0:Int)/\(0:Int)<(a0.f.2.1.length:Int)) (some (a0.f.2.1.getD ((0:Int).toNat) Qq2))else(if a0.f.1=2 then Qq9 (Vj a0.f.2.1 ([32]:Abv)) (fun g=>AU (([34]:Abv).length+g.length<=9223372036854775807) (AU ((([34]:Abv)++g).length+([34]:Abv).length<=9223372036854775807) (some (((([34]:Abv)++g)++([34]:Abv))))))else(if a0.f.1=3 then AU (0<=(0:Int)/\(0:Int)<(a0.f.2.1.length:Int)) (AU ((a0.f.2.1.getD ((0:Int).toNat) Qq2).length+([126]:Abv).length<=9223372036854775807) (Qq9 (Vl a0.f.2.2.2.2.1) (fun a=>AU ((a0.f.2.1.getD ((0:Int).toNat) Qq2++([126]:Abv)).length+a.length<=9223372036854775807) (AU (((a0.f.2.1.getD ((0:Int).toNat) Qq2++([126]:Abv))++a).length+([126]:Abv).length<=9223372036854775807) (AU (0<=(1:Int)/\(1:Int)<(a0.f.2.1.length:Int)) (AU ((((a0.f.2.1.getD ((0:Int).toNat) Qq2++([126]:Abv))++a)++([126]:Abv)).length+(a0.f.2.1.getD ((1:Int).toNat) Qq2).length<=9223372036854775807) (some (((((a0.f.2.1.getD ((0:Int).toNat) Qq2++([126]:Abv))++a)++([126]:Abv))++a0.f.2.1.getD ((1:Int).toNat) Qq2)))))))))else(if a0.f.1=4 then Qq9 (Kv a0.f.2.2.2.1) (fun h=>some h)else(if a0.f.1=5 then AU (([47]:Abv).length+a0.f.2.2.1.length<=9223372036854775807) (some ((([47]:Abv)++a0.f.2.2.1)))else(if a0.f.1=6 then AU (([47]:Abv).length+a0.f.2.2.1.length<=9223372036854775807) (AU ((([47]:Abv)++a0.f.2.2.1).length+([61]:Abv).length<=9223372036854775807) (Qq9 (Vl a0.f.2.2.2.2.1) (fun b=>AU (((([47]:Abv)++a0.f.2.2.1)++([61]:Abv)).length+b.length<=9223372036854775807) (AU ((((([47]:Abv)++a0.f.2.2.1)++([61]:Abv))++b).length+([46,46]:Abv).length<=9223372036854775807) (Qq9 (Vl a0.f.2.2.2.2.2.1) (fun c=>AU (((((([47]:Abv)++a0.f.2.2.1)++([61]:Abv))++b)++([46,46]:Abv)).length+c.length<=9223372036854775807) (some ((((((([47]:Abv)++a0.f.2.2.1)++([61]:Abv))++b)++([46,46]:Abv))++c)))))))))else(if a0.f.1=7 then AU (([47]:Abv).length+a0.f.2.2.1.length<=9223372036854775807) (AU ((([47]:Abv)++a0.f.2.2.1).length+([61]:Abv).length<=9223372036854775807) (Qq9 (Kv a0.f.2.2.2.1) (fun d=>AU (((([47]:Abv)++a0.f.2.2.1)++([61]:Abv)).length+d.length<=9223372036854775807) (some ((((([47]:Abv)++a0.f.2.2.1)++([61]:Abv))++d))))))else(if a0.f.1=8 then Qq9 (self2 a0.f.2.2.2.2.2.2 ([38]:Abv) ([9])) (fun i=>some i)else(if a0.f.1=9 then Qq9 (self2 a0.f.2.2.2.2.2.2 ([124]:Abv) ([])) (fun j=>some j)else Qq9 (self2 a0.f.2.2.2.2.2.2 ([]:Abv) ([8,9])) (fun e=>AU (([33]:Abv).length+e.length<=9223372036854775807) (some ((([33]:Abv)++e))))))))))))
theorem S6{self1:Qv->Option Abv}{self2:(List Qv)->Abv->Qq5->Option Abv}(_hself1:∀(w:World) (H:PH) (hH:Le H (hp w)) (hU:HG H) {a0:Qv}{b:Value}{d:Value}{e:Value} (g:AS .st H b (a0.f.2.1)) (m:AS .byte H d (a0.f.2.2.2.1)) (j:AS .Cy H e (a0.f.2.2.2.2.2.2)) {r:Abv} (h:self1 a0=some r),Ok prog 94 [.agg #[No a0.f.1,b,Abu a0.f.2.2.1,d,No a0.f.2.2.2.2.1,No a0.f.2.2.2.2.2.1,e]] w (fun v w'=>Ext w w'/\v=(Abu r)))(hself2:∀(w:World) (H:PH) (hH:Le H (hp w)) (hU:HG H) {a0:List Qv}{a1:Abv}{a2:Qq5}{b:Value}{o:Value} (g:AS .Cy H b a0) (_h2_0:AS (.int .i64) H o a2) {r:Abv} (h:self2 a0 a1 a2=some r),Ok prog 142 [b,Abu a1,o] w (fun v w'=>Ext w w'/\v=(Abu r)))(w:World)(H:PH)(hH:Le H (hp w))(hU:HG H){a0:Qv}{b d e:Value}(g:AS .st H b (a0.f.2.1))(m:AS .byte H d (a0.f.2.2.2.1))(j:AS .Cy H e (a0.f.2.2.2.2.2.2)){r:Abv}(h:JQ self1 self2 a0=some r):
  Ok prog 94 [.agg #[No a0.f.1,b,Abu a0.f.2.2.1,d,No a0.f.2.2.2.2.1,No a0.f.2.2.2.2.2.1,e]] w (fun v w'=>Ext w w'/\v=(Abu r)):=by
 refine A4 86 [(0,.agg #[No a0.f.1,b,Abu a0.f.2.2.1,d,No a0.f.2.2.2.2.1,No a0.f.2.2.2.2.2.1,e])] func94 Z fun hL=>Ao<|BM (t:=30) Z Z hL fun w1 b1 a b8 _=>AA 1 Z<|A6<|Ao<|Ag (Ae Z AjR Z BB.e)<|Ag (Af 0 Z a Z)<|Ad<|A2<|A7 2 Z<|AL h ?_ ?_<;>intro bv h
 ·refine Ao<|Ag (Ae Z AjR Z H3.e)<|Ag (Af 0 Z a Z)<|Ax h fun y h=>AW g ((0:Int).toNat) (Cx y) (AM y) ?_;rintro p4 _ rfl bw;refine Ag (AT bw (hH.trans a.arg))<|AA 1 Z<|Aw<|Al<|Am ?_
  cases h
  refine Ah Z ⟨a.ext,Z⟩
 refine A7 2 Z<|AL h ?_ ?_<;>intro bx h
 ·refine Ao<|Ag (Ae Z AjR Z H3.e)<|Ag (Af 0 Z a Z)<|A1 h fun x9 bz h=>A9 a (Zd _ _ (Av a) (g.mono  Aj) bz) fun cg b9 z b0=>Ax h fun aa h=>Ag (D7 aa)<|Ax h fun ab h=>Ag (D7 ab)<|AA 1 Z<|Aw<|Al<|Am ?_
  cases h
  refine Ah Z ⟨z.ext,Z⟩
 refine A7 2 Z<|AL h ?_ ?_<;>intro ac h
 ·refine BZ (Qqz 0 16 (.tail 16)) mixed Qqb (fun ch ad=>?_);have c:=a.call ad;refine B2 Z (Ae Z AjR Z H3.e) Z<|B2 Z (Af 0 Z c Z) Z<|Ax h fun p h=>CP Z Z Z Ae5 g ((0:Int).toNat) (Cx p) (AM p) Z ?_;rintro ci _ rfl ae;refine B2 Z (AT ae (hH.trans c.arg)) Z<|Ax h fun af h=>B2 Z (D7 af) Z<|B2 Z (Ae Z AjR Z BB.e) Z<|B2 Z (Af 0 Z c Z) Z<|A1 h fun cj ag h=>Er Z Z Z (fun ck ah=>Zh _ _ (Le.refl _) (hU.mono (hH.trans (c.call ah).arg)) ag)<|Ax h fun ai h=>B2 Z (D7 ai) Z<|Ax h fun aj h=>B2 Z (D7 aj) Z<|B2 Z (Ae Z AjR Z H3.e) Z<|B2 Z (Af 0 Z c Z) Z<|Ax h fun s h=>CP Z Z Z Ae5 g ((1:Int).toNat) (Cx s) (AM s) Z ?_;rintro cl _ rfl ak;refine B2 Z (AT ak (hH.trans c.arg)) Z<|Ax h fun al h=>?_
  refine B2 Z (D7 al) Z<|B9 1 Z<|Bt (fun cm am=>?_);have an:=c.call am;refine Ad<|Aw<|Al<|Am ?_
  cases h
  refine Ah Z ⟨an.ext,Z⟩
 refine A7 2 Z<|AL h ?_ ?_<;>intro ao h
 ·refine Ao<|Ag (Ae Z AjR Z Fy.e)<|Ag (Af 0 Z a Z)<|A1 h fun cn ap h=>A9 a (PD _ _ (Av a) (m.mono  Aj) ap) fun co ca aq b2=>AA 1 Z<|Aw<|Al<|Am ?_
  cases h
  refine Ah Z ⟨aq.ext,Z⟩
 refine A7 2 Z<|AL h ?_ ?_<;>intro ar h
 ·refine Ao<|Ag (Ae Z AjR Z Dl.e)<|Ag (Af 0 Z a Z)<|Ax h fun au h=>Ag (D7 au)<|AA 1 Z<|Aw<|Al<|Am ?_
  cases h
  refine Ah Z ⟨a.ext,Z⟩
 refine A7 2 Z<|AL h ?_ ?_<;>intro av h
 ·refine BZ (Qqz 0 14 (.tail 14)) mixed Qqb (fun cp aw=>?_);have i:=a.call aw;refine B2 Z (Ae Z AjR Z Dl.e) Z<|B2 Z (Af 0 Z i Z) Z<|Ax h fun ax h=>B2 Z (D7 ax) Z<|Ax h fun ay h=>B2 Z (D7 ay) Z<|B2 Z (Ae Z AjR Z BB.e) Z<|B2 Z (Af 0 Z i Z) Z<|A1 h fun cq az h=>Er Z Z Z (fun cr a3=>Zh _ _ (Le.refl _) (hU.mono (hH.trans (i.call a3).arg)) az)<|Ax h fun a4 h=>B2 Z (D7 a4) Z<|Ax h fun a5 h=>B2 Z (D7 a5) Z<|B2 Z (Ae Z AjR Z BB.e) Z<|B2 Z (Af 0 Z i Z) Z<|A1 h fun cs a6 h=>Er Z Z Z (fun ct a7=>Zh _ _ (Le.refl _) (hU.mono (hH.trans (i.call a7).arg)) a6)<|Ax h fun a8 h=>B2 Z (D7 a8) Z<|B9 1 Z<|Bt (fun cu a9=>?_);have ba:=i.call a9;refine Ad<|Aw<|Al<|Am ?_
  cases h
  refine Ah Z ⟨ba.ext,Z⟩
 refine A7 2 Z<|AL h ?_ ?_<;>intro bb h
 ·refine BZ (Qqz 0 9 (.tail 9)) mixed Qqb (fun cv bc=>?_);have k:=a.call bc;refine B2 Z (Ae Z AjR Z Dl.e) Z<|B2 Z (Af 0 Z k Z) Z<|Ax h fun bd h=>B2 Z (D7 bd) Z<|Ax h fun be h=>B2 Z (D7 be) Z<|B2 Z (Ae Z AjR Z Fy.e) Z<|B2 Z (Af 0 Z k Z) Z<|A1 h fun cw bf h=>Er Z Z Z (fun cx bg=>PD _ _ (Le.refl _) ((m.mono (hH.trans k.arg)).mono bg.le) bf)<|Ax h fun bh h=>B2 Z (D7 bh) Z<|B9 1 Z<|Bt (fun cy bi=>?_);have bj:=k.call bi;refine Ad<|Aw<|Al<|Am ?_
  cases h
  refine Ah Z ⟨bj.ext,Z⟩
 refine A7 2 Z<|AL h ?_ ?_<;>intro bk h
 ·refine Ao<|Ag (Ae Z AjR Z Lj.e)<|Ag (Af 0 Z a Z)<|Bx [9] (r:=(.int .i64)) (fun _=>FX _ _) a (.c1 Z .nil) fun cz c0 cb u b3 bl=>A1 h fun c2 bm h=>A9 u (hself2 _ _ (Av u) (hU.mono  Aj) (j.mono  Aj) bl bm) fun c3 cc bn b4=>AA 1 Z<|Aw<|Al<|Am ?_
  cases h
  refine Ah Z ⟨bn.ext,Z⟩
 refine A7 2 Z<|AL h ?_ ?_<;>intro bo h
 ·refine Ao<|Ag (Ae Z AjR Z Lj.e)<|Ag (Af 0 Z a Z)<|A1 h fun c4 bp h=>A9 a (hself2 _ _ (Av a) (hU.mono  Aj) (j.mono  Aj) (AS.nil _ _) bp) fun c5 cd bq b5=>AA 1 Z<|Aw<|Al<|Am ?_
  cases h
  refine Ah Z ⟨bq.ext,Z⟩
 refine Au<|Az<|Aq<|Ao<|Ag (Ae Z AjR Z Lj.e)<|Ag (Af 0 Z a Z)<|Bx [8,9] (r:=(.int .i64)) (fun _=>AcY _ _ _) (hlen:=(B4 2)) a (.c1 Z (.c1 Z .nil)) fun c6 c7 ce x b6 br=>A1 h fun c8 bs h=>A9 x (hself2 _ _ (Av x) (hU.mono  Aj) (j.mono  Aj) br bs) fun c9 cf bt b7=>Ax h fun bu h=>Ag (D7 bu)<|AA 1 Z<|Aw ?_
 cases h
 refine Ah Z ⟨bt.ext,Z⟩
def GZ(c:List Abv)(a:Int)(b:Abv):Option (((List Abv)×Int)⊕(Abv)):=
 AU (Go.E.Fz 16 (c.length+([b]).length)) (AU (Bq (a+1)) (some (Sum.inl ((c++[b]),(a+1)))))
def J9(a1:Abv)(b:List Abv):Option Abv:=
 Qq9 (Vj b a1) (fun a=>some a)
def DB(a0:List Qv)(a1:Abv)(a2:Qq5)(self1:Qv->Option Abv):(List Abv)×Int->Option (((List Abv)×Int)⊕(Abv)):=fun⟨c,a⟩=>
 if a<(a0.length:Int)then AU (0<=a/\a<(a0.length:Int)) (Qq9 (self1 (a0.getD a.toNat Qq2)) (fun b=>Qq9 (BH a2 ((a0.getD a.toNat Qq2).f.1)) (fun d=>if d then AU (([40]:Abv).length+b.length<=9223372036854775807) (AU ((([40]:Abv)++b).length+([41]:Abv).length<=9223372036854775807) ((GZ c a) ((([40]:Abv)++b)++([41]:Abv))))else(GZ c a) b)))else Qzx Sum.inr ((J9 a1) c)
def MQ(a0:List Qv)(a1:Abv)(a2:Qq5)(self1:Qv->Option Abv)(s:(List Abv)×Int):Option Abv:=Go.L.run (DB a0 a1 a2 self1) s
def Jc(self1:Qv->Option Abv)(_self2:(List Qv)->Abv->Qq5->Option Abv)(a0:List Qv)(a1:Abv)(a2:Qq5):Option Abv:=
 (MQ a0 a1 a2 self1) (([]:List Abv),0)
theorem RJ{self1:Qv->Option Abv}{self2:(List Qv)->Abv->Qq5->Option Abv}(hself1:∀(w:World) (H:PH) (hH:Le H (hp w)) (hU:HG H) {a0:Qv}{c:Value}{ae:Value}{af:Value} (p:AS .st H c (a0.f.2.1)) (_h0_1:AS .byte H ae (a0.f.2.2.2.1)) (_h0_2:AS .Cy H af (a0.f.2.2.2.2.2.2)) {r:Abv} (h:self1 a0=some r),Ok prog 94 [.agg #[No a0.f.1,c,Abu a0.f.2.2.1,ae,No a0.f.2.2.2.2.1,No a0.f.2.2.2.2.2.1,af]] w (fun v w'=>Ext w w'/\v=(Abu r)))(_hself2:∀(w:World) (H:PH) (hH:Le H (hp w)) (hU:HG H) {a0:List Qv}{a1:Abv}{a2:Qq5}{c:Value}{j:Value} (p:AS .Cy H c a0) (ag:AS (.int .i64) H j a2) {r:Abv} (h:self2 a0 a1 a2=some r),Ok prog 142 [c,Abu a1,j] w (fun v w'=>Ext w w'/\v=(Abu r)))(w:World)(H:PH)(hH:Le H (hp w))(hU:HG H){a0:List Qv}{a1:Abv}{a2:Qq5}{c j:Value}(p:AS .Cy H c a0)(ag:AS (.int .i64) H j a2){r:Abv}(h:Jc self1 self2 a0 a1 a2=some r):
  Ok prog 142 [c,Abu a1,j] w (fun v w'=>Ext w w'/\v=(Abu r)):=by
 refine A4 34 [(0,c),(1,(Abu a1)),(2,j)] func142 Z fun hL=>A7 1 Z<|Bo 1 Z ?_;obtain⟨bc,bl,bd⟩:=Cp .st H 9 hL;refine Ad<|Bb ((List Abv)×Value×Qq6) (fun⟨y,q,o⟩=>[(1,(Abu a1)),(7,q)]) (fun⟨y,q,o⟩ wr=>C5 w [.row q 9 1 (y).length o] wr fun Oz=>AK .st (gz H w wr Oz) y o/\(J9 a1) y=some r) ?_ ?_
 ·refine Bo 1 Z<|Ag (AZ p)<|AA 1 Z<|A2 ?_;obtain⟨ah,h⟩:=AR h;refine Bj ((List Abv)×Int×Value×Qq6×Nat) (fun⟨g,a,k,e,n⟩=>[(1,(Abu a1)),(2,j),(7,k),(11,c),(12,No (a0.length:Int)),(13,No a)]) (fun⟨g,a,k,e,n⟩ wr=>C5 w [.row k 9 1 (g).length e] wr fun Oz=>AK .st (gz H w wr Oz) g e/\DR (DB a0 a1 a2 self1) n (g,a)=some r) (fun⟨g,a,k,e,n⟩=>n) (([]:List Abv),0,Aal,[],ah) Z ⟨bc,bd,h⟩ ?_;rintro⟨g,a,k,e,nn79⟩ bm ⟨aa,b,h⟩;obtain⟨ah,be,rfl,h,ai⟩:=AQ h;refine A7 1 Z<|A6<|AL h ?_ ?_<;>intro a6 h
  ·refine Au<|Aq<|A6<|A2<|Ao<|Ax h fun aj h=>AW p a.toNat (Cx aj) (AM aj) ?_;rintro bx _ e83t0 a7;obtain⟨_,_,rfl,rfl,⟨_,_,rfl,⟨e83v1,rfl,e83h1⟩,⟨_,_,rfl,rfl,⟨_,_,rfl,⟨e83v3,rfl,e83h3⟩,⟨_,_,rfl,rfl,⟨_,_,rfl,rfl,⟨e83v6,rfl,e83h6⟩⟩⟩⟩⟩⟩⟩:=Go.E.Rp.Ev e83t0;refine Ag (BI a7 (hH.trans aa.arg))<|AO Fj.e Z aa fun bz bf a8 s _=>Ak 0 Z a8 Z (a:=(CB Z (CB e83h1.one (CB Z (CB e83h3.one (CB Z (CB Z (CB e83h6.one Ps)))))))) fun b0 ab t=>Ad<|Ao<|Ag (AJ 0 Z Fj.e ab Z)<|A1 h fun a5 a9 h=>A9 ab (hself1 (a0:=(a0.getD a.toNat Qq2)) _ _ (Av ab) (hU.mono  Aj) (e83h1.mono  Aj) (e83h3.mono  Aj) (e83h6.mono  Aj) a9) fun b1 bn ac u=>AA 1 Z ?_
   refine Bb Abv (fun d=>[(1,(Abu a1)),(2,j),(7,k),(10,(Abu d)),(11,c),(12,No (a0.length:Int)),(13,No a)]) (fun d wr=>C5 w [.box bf [No ((a0.getD a.toNat Qq2).f.1),e83v1,.string ⟨((a0.getD a.toNat Qq2).f.2.2.1).toArray⟩,e83v3,No ((a0.getD a.toNat Qq2).f.2.2.2.2.1),No ((a0.getD a.toNat Qq2).f.2.2.2.2.2.1),e83v6] 30,.row k 9 1 (g).length e] wr fun Oz=>AK .st (gz H w wr Oz) g e/\(GZ g a) d=some be) ?_ ?_
   ·refine Bo 1 Z<|Ag (Ae Z AjR Z BB.e)<|Ag (Af 0 Z ac Z)<|A1 h fun bo am h=>A9 ac (Gt _ _ (Av ac) (ag.mono  Aj) am) fun bp bi ad z=>Ad<|Bi h ?_ ?_<;>intro an h
    ·refine An<|As 1 Z<|Ax h fun ao h=>Ag (D7 ao)<|Ax h fun ap h=>Ag (D7 ap)<|As 1 Z<|AE ?_;have b:=b.mono (Ab (s.trans (t.trans (u.trans z))));refine A8 _ ⟨ad,b,h⟩
    refine Au ?_;have b:=b.mono (Ab (s.trans (t.trans (u.trans z))));refine A8 _ ⟨ad,b,h⟩
   have b:=b.mono (Ab (s.trans (t.trans u)));rintro d bq ⟨ba,b,h⟩;refine An<|As 2 Z<|Bx [d] (r:=.st) (fun _=>Mw _ Z _) ba (.c1 Z .nil) fun br bs bj aq ak ar=>Ax h fun au h=>?_;have b:=b.mono (Ab ak);refine Bp (r:=.st) 1 g [d] Z Ae5 aq Z b ar au fun bb bt av aw bg x=>As 1 Z<|AE<|Az<|Aq<|An<|Ax h fun ax h=>Ag (Ay ax)<|As 1 Z<|AE ?_;have ay:=aw.Bl (i:=0) Z;have h:=Bw.again h ai;have x:=x.mono (Ab (AB (i:=0) Z));refine AD (_,_,_,_,_) Z ⟨ay,x,h⟩
  refine Bf<|A5<|A3 ?_;have h:=Bw.out h ai;refine AY<|A8 (_,_,_) ⟨aa,b,h⟩
 rintro⟨y,q,o⟩ bu ⟨al,az,h⟩;refine Bo 2 Z<|A1 h fun bv a3 h=>A9 al (Zd _ _ (Le.refl _) (al.MZ hH (i:=0) Z az) a3) fun bw bk a4 bh=>AA 1 Z<|Aw ?_
 cases h
 refine Ah Z ⟨a4.ext,Z⟩
def C0:Nat->(Qv->Option Abv)×((List Qv)->Abv->Qq5->Option Abv)
 | 0=>(fun _=>none,fun _ _ _=>none)
 | n+1=>(JQ ((C0 n).1) ((C0 n).2),Jc ((C0 n).1) ((C0 n).2))
def RL:Qv->Option Abv:=(C0 1000).1
theorem Tk(n:Nat):(∀(w:World) (H:PH) (hH:Le H (hp w)) (hU:HG H) {a0:Qv}{a:Value}{b:Value}{c:Value} (e:AS .st H a (a0.f.2.1)) (g:AS .byte H b (a0.f.2.2.2.1)) (i:AS .Cy H c (a0.f.2.2.2.2.2.2)) {r:Abv} (h:((C0 n).1) a0=some r),Ok prog 94 [.agg #[No a0.f.1,a,Abu a0.f.2.2.1,b,No a0.f.2.2.2.2.1,No a0.f.2.2.2.2.2.1,c]] w (fun v w'=>Ext w w'/\v=(Abu r)))/\(∀(w:World) (H:PH) (hH:Le H (hp w)) (hU:HG H) {a0:List Qv}{a1:Abv}{a2:Qq5}{a:Value}{d:Value} (e:AS .Cy H a a0) (j:AS (.int .i64) H d a2) {r:Abv} (h:((C0 n).2) a0 a1 a2=some r),Ok prog 142 [a,Abu a1,d] w (fun v w'=>Ext w w'/\v=(Abu r))):=by
 induction n with
 | zero=>exact⟨(by intros;rename_i h;cases h),(by intros;rename_i h;cases h)⟩
 | succ n ih=>exact⟨S6 ih.1 ih.2,RJ ih.1 ih.2⟩
section
variable(w:World)(H:PH)(hH:Le H (hp w)) include hH
theorem WY(hU:HG H){a0:Qv}{a b c:Value}(d:AS .st H a (a0.f.2.1))(e:AS .byte H b (a0.f.2.2.2.1))(g:AS .Cy H c (a0.f.2.2.2.2.2.2)){r:Abv}(h:RL a0=some r):Ok prog 94 [.agg #[No a0.f.1,a,Abu a0.f.2.2.1,b,No a0.f.2.2.2.2.1,No a0.f.2.2.2.2.2.1,c]] w (fun v w'=>Ext w w'/\v=(Abu r)):=(Tk 1000).1 w H hH hU d e g h
def N9(a0:Qv):Option (Abv×Qq7):=
 Qq9 (Qp a0 (0:Int) (1:Int)) (fun a=>if a.2.1=0/\a.2.2=0 then Qq9 (RL a0) (fun b=>if 200<(b.length:Int)then Qq9 (DL (14:Int) (-1:Int)) (fun c=>some (([]:Abv),(c.1,c.2)))else some (b,(0,0)))else some (([]:Abv),(a.2.1,a.2.2)))
theorem VG(hU:HG H){a0:Qv}{b c d:Value}(g:AS .st H b (a0.f.2.1))(j:AS .byte H c (a0.f.2.2.2.1))(k:AS .Cy H d (a0.f.2.2.2.2.2.2)){r:Abv×Qq7}(h:N9 a0=some r):
  Qqv 52 [.agg #[No a0.f.1,b,Abu a0.f.2.2.1,c,No a0.f.2.2.2.2.1,No a0.f.2.2.2.2.2.1,d]] w (fun v w'=>v=.tuple #[Abu r.1,.agg #[No r.2.1,No r.2.2]]):=by
 refine A4 24 [(0,.agg #[No a0.f.1,b,Abu a0.f.2.2.1,c,No a0.f.2.2.2.2.1,No a0.f.2.2.2.2.2.1,d])] func52 Z fun hL=>Ao<|BM (t:=30) Z Z hL fun w1 b1 ac an _=>As 1 Z<|AO AI.e Z ac fun w2 b2 l ao _=>Ad<|A6<|Ao<|Ag (AJ 1 Z Fj.e l Z)<|A1 h fun x3 ad h=>A9 l (VF (a0:=a0) _ _ (Av l) (hU.mono  Aj) (g.mono  Aj) (j.mono  Aj) (k.mono  Aj) ad) fun w4 aw ae ap=>As 3 Z<|AO AI.e Z ae fun w5 b5 af aq _=>As 1 Z<|Ak 0 Z af Z fun w6 a ar=>Ad<|Ao<|Ag (AJ 0 Z AI.e a Z)<|Ag (Ba (fun _=>B8 _))<|Ag (IX I4 (Nc _ _ _ _))<|Ad<|BG h ?_ ?_<;>intro ag h
 ·refine BZ (.q 0 (.q 1 (.tail 2))) mixed Qqb (fun w9 ah=>?_);have m:=a.call ah;refine B2 Z (AJ 0 Z AI.e m Z) Z<|B9 1 Z<|Bt (fun ax u=>?_);have x:=m.call u;refine Ak 1 Z x Z fun ay o ai=>Ad<|Aw<|Am ?_
  cases h
  refine Bv (.tmp Z) (.cell Z Ae3 Z AI.e (AP (i:=1) o Z)) ⟨o.ext,Z⟩
 refine Au<|Aq<|Ao<|Ag (AJ 2 Z Fj.e a Z)<|A1 h fun az y h=>A9 a (WY (a0:=a0) _ _ (Av a) (hU.mono  Aj) (g.mono  Aj) (j.mono  Aj) (k.mono  Aj) y) fun a1 au e aj=>AA 1 Z<|A6<|Bo 1 Z<|Ag (Gq Z)<|AA 1 Z<|AL h ?_ ?_<;>intro z h
 ·refine Ao<|A1 h fun a2 aa h=>A9 e (EA _ _ (Av e) aa) fun a3 av ab ak=>As 1 Z<|Ak 1 Z ab Z fun a4 p al=>Ad<|Aw<|Am ?_
  cases h
  refine Bv (.tmp Z) (.cell Z Ae3 Z AI.e (AP (i:=1) p Z)) ⟨p.ext,Z⟩
 refine Au<|Aq<|Bo 1 Z<|Ag (Ba (fun _=>B8 _))<|As 1 Z<|Ak 1 Z e Z fun a5 s am=>Ad<|Aw ?_
 cases h
 refine Bv (.tmp Z) (.cell Z Ae3 Z AI.e (AP (i:=1) s Z)) ⟨s.ext,Z⟩
def KE(a0:Qv):Option Al5:=
 Qq9 (N9 a0) (fun a=>some ((a.2.1,a.2.2)))
theorem Tl(hU:HG H){a0:Qv}{a b c:Value}(j:AS .st H a (a0.f.2.1))(k:AS .byte H b (a0.f.2.2.2.1))(l:AS .Cy H c (a0.f.2.2.2.2.2.2)){r:Al5}(h:KE a0=some r):
  Qqv 22 [.agg #[No a0.f.1,a,Abu a0.f.2.2.1,b,No a0.f.2.2.2.2.1,No a0.f.2.2.2.2.2.1,c]] w (fun v w'=>v=.agg #[No r.1,No r.2]):=by
 refine A4 11 [(0,.agg #[No a0.f.1,a,Abu a0.f.2.2.1,b,No a0.f.2.2.2.2.1,No a0.f.2.2.2.2.2.1,c])] func22 Z fun hL=>Ao<|BM (t:=30) Z Z hL fun w1 b1 m s _=>AO AI.e Z m fun w2 b2 d u _=>Ad<|Ao<|Ag (AJ 1 Z Fj.e d Z)<|A1 h fun x3 o h=>A9 d (VG (a0:=a0) _ _ (Av d) (hU.mono  Aj) (j.mono  Aj) (k.mono  Aj) (l.mono  Aj) o) fun w4 ab p x=>As 3 Z<|AO AI.e Z p fun w5 b5 q y _=>As 1 Z<|Ak 0 Z q Z fun w6 e z=>Ad<|Ao<|Ag (AJ 0 Z AI.e e Z)<|Ak 1 Z e Z fun w7 g aa=>Ad<|Aw ?_
 cases h
 refine BX (.cell Z Ae3 Z AI.e (AP (i:=1) g Z)) ⟨g.ext,Z⟩
end
end Go.Proofs.YtopocbcekabkoaaGreatDoor
end
noncomputable section
namespace Go.L
def iota(n:Nat):Qq5:=(Qzb n).map fun i:Nat=>(i:Int)
theorem Hb(n:Nat):(iota n).length=n:=by simp[iota]
def RM(n:Nat):List (Fin (n+1)):=(Qzb n).map fun i=>Fin.ofNat (n+1) i
theorem Ys(n:Nat):(RM n).map (fun x=>(x.val:Int))=iota n:=by
 unfold RM iota;rw[Qkk];apply List.map_congr_left;intro i hi;have:=List.mem_range.1 hi
 show((i % (n+1):Nat):Int)=(i:Int)
 rw[Nat.mod_eq_of_lt U]
def Ol(a:Qq4)(x y:Fin (a.length+1)):Int:=Lib.compareBytes (a.drop x.val) (a.drop y.val)
def AdU(a:Qq4):List (Fin (a.length+1)):=(RM a.length).mergeSort fun x y=>!(Go.Proofs.ltOf (Ol a)) y x
def CV(a:Qq4):Qq5:=(AdU a).map fun x=>(x.val:Int)
theorem Adf{α:Type}(f:α->Qq4):Go.Sort.SWO (Go.Proofs.ltOf fun x y=>Lib.compareBytes (f x) (f y)):=by
 constructor
 ·intro x;simp[Go.Proofs.ltOf,WN]
 ·intro x y z a h2;unfold Go.Proofs.ltOf at *;simp only[decide_eq_true_eq]at *;exact P9 _ _ _ a h2
 ·intro x y z a h2;unfold Go.Proofs.ltOf at *;simp only[decide_eq_false_iff_not]at *;intro h3;have s1:=MM (f x) (f y);have b:=MM (f y) (f z)
  rcases Int.lt_trichotomy (Lib.compareBytes (f y) (f x)) 0 with h | h | h
  ·have:=P9 _ _ _ h h3;omega
  ·rw[TO _ _ h]at h2;omega
  ·omega
theorem TR(a:Qq4)(x y:Fin (a.length+1))(b:Go.Proofs.ltOf (Ol a) x y=false)(h2:Go.Proofs.ltOf (Ol a) y x=false):x=y:=by
 unfold Go.Proofs.ltOf at b h2;simp only[decide_eq_false_iff_not]at b h2;have s:=MM (a.drop x.val) (a.drop y.val);unfold Ol at b h2;have:=TO _ _ (show Lib.compareBytes (a.drop x.val) (a.drop y.val)=0 by omega);have hl:(a.drop x.val).length=(a.drop y.val).length:=by rw[this]
 simp only[List.length_drop]at hl;have:=x.isLt;have:=y.isLt;exact Fin.ext U
end Go.L
end
noncomputable section
namespace Go.Proofs.YtopocbcekabkoaaGreatDoor
open Go Go.E Go.RowKit Go.Sort Go.Shelf
theorem XQ(a b:Qq4):OX a b=some (Lib.compareBytes a b):=Z
theorem AkG{O:List BV}{i b:Nat}{cs:Qq6}{t:TypeId}(h:Dz O i=some (.box b cs t)):BV.box b cs t∈O:=(Es h).mem_iff.2 (.head _)
theorem AdV{n:Sz}{ops:Array Oper}{Q:Exit->Act->World->Prop}{L:Env}{w f:World}{O:List BV}{rest:List Oper}{d:Nat}{ty:TypeId}{pos:String}{af:Array Edge}{v tv:Value}{H:PH}{i b:Nat}{xs:Qq6}{a:Qq4}{args:List Operand}{at_:Array TypeId}
  (ha:Vc L args=some [v,.func (.func 117) #[] #[.pointer (some ⟨b,0,none⟩)]]) (hn:Nat.blt d n.n=true) (hH:Le H (hp f)) (hL:Bk f O w) (hi:Dz O i=some (.row v 3 1 (Go.L.iota a.length).length xs)) (he:AK (.int .i64) (gz H f w O) (Go.L.iota a.length) xs) (htx:AS .byte (gz H f w O) tv a) (hbox:BV.box b [tv] 27∈O) (hl:a.length<4611686018427387904)
  (h:∀w' xs',Bk f (CE O i (.row v 3 1 (Go.L.CV a).length xs')) w'->Le (fz w O) (fz w' (CE O i (.row v 3 1 (Go.L.CV a).length xs')))->AK (.int .i64) (gz H f w' (CE O i (.row v 3 1 (Go.L.CV a).length xs'))) (Go.L.CV a) xs'->S Tryz.prog n ops Q rest ((d,.tuple #[])::L) w') :
  S Tryz.prog n ops Q (⟨some d,.call ⟨.value (.func 116),args.toArray,at_⟩,ty,pos,af,none⟩::rest) L w:=by
 have hxs:xs=(Go.L.RM a.length).map (fun x:Fin (a.length+1)=>Value.int .i64 (x.val:Int)):=by
  rw[<- WL he,<- Go.L.Ys,Qkk];rfl
 have hfl:(Go.L.RM a.length).length=a.length:=by simp[Go.L.RM]
 have hll:(Go.L.CV a).length=(Go.L.iota a.length).length:=by
  unfold Go.L.CV Go.L.AdU;rw[Qza,List.length_mergeSort,hfl,Go.L.Hb]
 have hys:(Go.L.CV a).map (Value.int .i64)=(Go.L.AdU a).map (fun x:Fin (a.length+1)=>Value.int .i64 (x.val:Int)):=by
  unfold Go.L.CV;rw[Qkk];rfl
 refine WK (l':=Go.L.CV a) (enc:=fun x:Fin (a.length+1)=>Value.int .i64 (x.val:Int)) (dd:=(Go.L.AdU a).toArray) (ys:=(Go.L.CV a).map (Value.int .i64)) ⟨Tryz.f116,_,Tryz.func116,Z,Z⟩ ha hn hL hi (by rw[hys]) hll (by rw[hxs];simp[hll,hfl,Go.L.Hb]) (fun l=>?_) (fun hv=>?_) (fun g cap hv hcap=>?_) (fun w' p h2=>h w' _ p h2 (TM _ _))
 ·have p:(Go.L.CV a).length=0:=by rw[hll];exact l
  have h2:xs.length=0:=by rw[hxs,Qza,hfl];rw[Go.L.Hb]at l;exact l
  rw[Qxd p,Qxd h2];rfl
 ·subst hv;exact AnyF.slices_SortFunc_none Tryz.Ajq none 0 _ w
 ·have hown:w.ownsRow 0 3 1 v (Go.L.iota a.length).length xs:=hL.at hi;rw[hv]at hown;obtain⟨hhk,hblk⟩:=Sh (fun x:Fin (a.length+1)=>Value.int .i64 (x.val:Int)) ((Go.L.RM a.length).toArray) hown (by simpa using hxs.symm);have hsz:(Go.L.iota a.length).length=(Go.L.RM a.length).toArray.size:=by rw[Go.L.Hb];simp[hfl]
  have hgo:∀j x,BV.row v 3 1 j x∈O->True:=fun _ _ _=>trivial;subst hv;have hs:=Any.slices_SortFunc_total (P:=Tryz.prog) Tryz.Akr (fun x:Fin (a.length+1)=>Value.int .i64 (x.val:Int)) (fun _=>Z) (Go.L.Ol a) (Go.L.Adf _) 117 #[.pointer (some ⟨b,0,none⟩)] g 0 cap (Go.L.RM a.length).toArray w (enters_of Tryz.func117 Qqb Z) ?_ hhk hblk (by rw[<- hsz,Go.L.Hb];exact hl) (Go.L.TR a)
  ·rw[<- hsz]at hs;exact hs.mono fun e w' ⟨he,m,os,hw⟩=>⟨he,m,os,hw⟩
  ·intro m os dk hs x y;have hx:=x.isLt;have hy:=y.isLt
   have hr:NY (x.val:Int) (y.val:Int) a=some (Go.L.Ol a x y):=by
    unfold NY;rw[Go.L.Ac U,Go.L.Ac U,Qzk,Qzk,XQ]
    rfl
   have hne:∀c,(∃cs t,BV.box c cs t∈O)->c≠g:=fun c ⟨cs,t,hc⟩ e=>by
    subst e;have hd:=List.pairwise_cons.1 (hL.perm (Es hi).symm).dis
    have hm:BV.box c cs t∈Pw O i:=by
     rcases List.mem_cons.1 ((Es hi).mem_iff.1 hc)with h | h
     ·cases h
     ·exact h
    exact hd.1 _ hm c Z Z
   have hkeep:∀k o,w.heap[k]? = some o->k≠g->(sortWorld (fun x:Fin (a.length+1)=>Value.int .i64 (x.val:Int)) w g 0 m dk os).heap[k]? = some o:=fun k o hk hkg=>by
    rw[Oe _ w g m dk os k (EJ hk),if_neg hkg];exact hk
   have hle:Le (fz w O) (hp (sortWorld (fun x:Fin (a.length+1)=>Value.int .i64 (x.val:Int)) w g 0 m dk os)):=fun c o hc=>by
    refine hkeep c o (Ac9 w O c o hc) fun e=>?_;subst e;have hown:owned O c=true:=E7.2 ⟨_,(Es hi).mem_iff.2 (.head _),Z⟩;unfold fz at hc;rw[if_pos hown]at hc
    cases hc
   have hbx:Hy (hp (sortWorld (fun x:Fin (a.length+1)=>Value.int .i64 (x.val:Int)) w g 0 m dk os)) ⟨b,0,none⟩ [tv]:=by
    have hok:w.heap[b]? = some (.cells #[tv] 27 (0,0)):=hL.res _ hbox;have hh:=hkeep b _ hok (hne b ⟨_,_,hbox⟩);refine⟨Z,fun j u hu=>?_⟩;simp only[Addr.add_lit,Nat.zero_add,IW,hp,hh]
    simpa using hu
   have hk:=@TC ⟨true⟩ (sortWorld (fun x:Fin (a.length+1)=>Value.int .i64 (x.val:Int)) w g 0 m dk os) (hp _) (Le.refl _) _ _ _ _ _ (htx.mono ((AeO hH hL).trans hle)) hbx _ hr;refine hk.2.mono fun en w' ⟨u,he,hx,hu⟩=>?_;subst he;subst hu;obtain⟨q,os',hw⟩:=@Aa1 ⟨true⟩ _ _ Z hx;exact⟨Z,q,os',hw⟩
end Go.Proofs.YtopocbcekabkoaaGreatDoor
end
noncomputable section
namespace Go.Proofs.YtopocbcekabkoaaGreatDoor
open Go Go.E Go.RowKit Go.L
set_option maxHeartbeats 1000000
set_option maxRecDepth 10000
open _root_.Go.Proofs.Tryz
def TS(a0 a1:Int):Option Al5:=
 some ((a0,a1))
section
variable(w:World)(H:PH)(hH:Le H (hp w)) include hH
theorem VH{a0 a1:Int}{r:Al5}(h:TS a0 a1=some r):
  Qqv 72 [No a0,No a1] w (fun v w'=>v=.agg #[No r.1,No r.2]):=by
 refine A4 8 [(0,No a0),(1,No a1)] func72 Z fun hL=>Ao<|AO AI.e Z hL fun e f b c _=>Ad<|Bo 2 Z<|Ag (Ba (fun _=>JI _ _ _))<|Ak 0 Z b Z fun g a d=>Ad<|Aw ?_
 cases h
 refine BX (.cell Z Ae3 Z AI.e (AP (i:=0) a Z)) ⟨a.ext,Z⟩
def Nj(a0:Abv)(a:Qq5):Option (Qq5):=
 AU (a=Go.L.iota a0.length/\a0.length<4611686018427387904) (some ((CV a0)))
def ES(a0:Abv):Qq5×Int->Option (Al6⊕(Qq5)):=fun⟨b,a⟩=>
 if a<((Qzv (a0.length:Int).toNat (0:Int)).length:Int)then AU (0<=a/\a<(b.length:Int)) (AU (Bq (a+1)) (some (Sum.inl ((b.set a.toNat a),(a+1)))))else Qzx Sum.inr ((Nj a0) b)
def QK(a0:Abv)(s:Al6):Option (Qq5):=Go.L.run (ES a0) s
def NA(a0:Abv):Option (Qq5):=
 AU (0<=(a0.length:Int)/\((8:Nat):Int) * (a0.length:Int)<=281474976710656/\(a0.length:Int)<=9223372036854775807) ((QK a0) ((Qzv (a0.length:Int).toNat (0:Int)),0))
theorem VI{a0:Abv}{f:Value}(k:AS .byte H f a0){r:Qq5}(h:NA a0=some r):
  Qqv 73 [f] w (fun v w'=>∃u0,v=u0/\Cd 3 (.int .i64) H w w' u0 r):=by
 refine A4 22 [(0,f)] func73 Z fun hL=>Ao<|Te (t:=27) Z k.one hL fun w1 y ab av _=>AA 1 Z<|Ao<|Ag (Af 0 Z ab Z)<|Ag (AZ k)<|Ax h fun ao h=>YS (r:=(.int .i64)) (z:=0) Aco (fun _=>Z) hH ab ao fun v2 w2 ap ac aw aq=>AA 1 Z<|Bb (Qq5×Qq6) (fun⟨g,e⟩=>[(1,(Abo y)),(3,v2)]) (fun⟨g,e⟩ wr=>C5 w [.row v2 3 1 (g).length e,.box y [f] 27] wr fun Oz=>AK (.int .i64) (gz H w wr Oz) g e/\(Nj a0) g=some r) ?_ ?_
 ·refine Bo 1 Z<|Ag (Tc 0 Z ac Z)<|AA 1 Z<|A2 ?_;obtain⟨q,h⟩:=AR h;refine Bj (Qq5×Int×Qq6×Nat) (fun⟨d,b,c,n⟩=>[(1,(Abo y)),(3,v2),(9,No ((Qzv (a0.length:Int).toNat (0:Int)).length:Int)),(10,No b)]) (fun⟨d,b,c,n⟩ wr=>C5 w [.row v2 3 1 (d).length c,.box y [f] 27] wr fun Oz=>AK (.int .i64) (gz H w wr Oz) d c/\DR (ES a0) n (d,b)=some r) (fun⟨d,b,c,n⟩=>n) ((Qzv (a0.length:Int).toNat (0:Int)),0,ap,q) Z ⟨ac,aq,h⟩ ?_;rintro⟨d,b,c,nn36⟩ ax ⟨l,o,h⟩;obtain⟨q,a1,rfl,h,s⟩:=AQ h;refine A7 1 Z<|A6<|AL h ?_ ?_<;>intro ad h
  ·refine Au<|Aq<|A6<|A2<|A7 2 Z<|An<|As 3 Z<|Ax h fun m h=>Ki 0 Z Aco BB.e l Z b.toNat (Cx m) (AM m) fun a2 ae=>Kl 0 b.toNat b Z Z hH l Z o ae (AM m) Z fun a3 af ag ar ah=>AE<|Az<|Aq<|An<|Ax h fun ai h=>Ag (Ay ai)<|As 1 Z<|AE ?_;have h:=Bw.again h s;refine AD (_,_,_,_) Z ⟨ag,ah,h⟩
  refine Bf<|A5<|A3 ?_;have h:=Bw.out h s;refine AY<|A8 (_,_) ⟨l,o,h⟩
 rintro⟨g,e⟩ ay ⟨u,p,h⟩;refine Bo 2 Z<|Ax h fun aj h=>?_;obtain⟨ak,al⟩:=aj;rw[ak]at u p;refine AdV (i:=0) (a:=a0) Z Z hH u Z p (k.mono  Aj) (AkG (i:=1) Z) al fun a4 az x au am=>Ad<|A7 2 Z<|Aw ?_
 cases h
 refine Ah Z ⟨x.ext,_,Z,(x.FV hH (i:=0) Z am)⟩
def NB(a0:Abv):Option Al3:=
 if 2048<(a0.length:Int)then Qq9 (TS (3:Int) (-1:Int)) (fun a=>some ([],(a.1,a.2)))else Qq9 (NA a0) (fun b=>some (b,(0,0)))
theorem VJ{a0:Abv}{b:Value}(d:AS .byte H b a0){r:Al3}(h:NB a0=some r):
  Qqv 41 [b] w (fun v w'=>∃m,v=.tuple #[m,.agg #[No r.2.1,No r.2.2]]/\Cd 3 (.int .i64) H w w' m (r.1)):=by
 refine A4 11 [(0,b)] func41 Z fun hL=>Bo 1 Z<|AO AI.e Z hL fun w1 b1 a u _=>Ad<|A6<|Bo 1 Z<|Ag (AZ d)<|AA 1 Z<|AL h ?_ ?_<;>intro o h
 ·refine Ao<|A1 h fun x4 p h=>A9 a (VH _ _ (Av a) p) fun w5 aa q x=>As 1 Z<|Ak 0 Z q Z fun w6 j y=>Ad<|Aw<|Am ?_
  cases h
  refine Bv (.tmp Z) (.cell Z Ae3 Z AI.e (AP (i:=0) j Z)) ⟨j.ext,_,Z,Cd.nil⟩
 refine Au<|Aq<|Bo 1 Z<|A1 h fun x8 s h=>Br a (VI _ _ (Av a) (d.mono  Aj) s) ?_;rintro z w9 ⟨_,rfl,f⟩ t k l;obtain⟨ab,k,l,e⟩:=f.take hH a t;refine Ag (Ba (fun _=>B8 _))<|As 1 Z<|Ak 1 Z k Z fun ac c g=>Ad<|Aw ?_
 cases h
 refine Bv (.tmp Z) (.cell Z Ae3 Z AI.e (AP (i:=1) c Z)) ?_;have e:=e.mono (Ab g);exact⟨c.ext,_,Z,(c.FV hH (i:=0) Z e)⟩
end
end Go.Proofs.YtopocbcekabkoaaGreatDoor
end
noncomputable section
namespace Go
abbrev Alv:=(Qq5)×Qq5×Qq5
end Go
namespace Go.Proofs.YtopocbcekabkoaaGreatDoor
open Go Go.E Go.RowKit Go.L
set_option maxHeartbeats 1000000
set_option maxRecDepth 10000
open _root_.Go.Proofs.Tryz
def Pf(a0 a1:Int):Option Al5:=
 some ((a0,a1))
section
variable(w:World)(H:PH)(hH:Le H (hp w)) include hH
theorem PE{a0 a1:Int}{r:Al5}(h:Pf a0 a1=some r):
  Qqv 194 [No a0,No a1] w (fun v w'=>v=.agg #[No r.1,No r.2]):=by
 refine A4 8 [(0,No a0),(1,No a1)] func194 Z fun hL=>Ao<|AO AI.e Z hL fun e f b c _=>Ad<|Bo 2 Z<|Ag (Ba (fun _=>JI _ _ _))<|Ak 0 Z b Z fun g a d=>Ad<|Aw ?_
 cases h
 refine BX (.cell Z Ae3 Z AI.e (AP (i:=0) a Z)) ⟨a.ext,Z⟩
def Gc(a0:Qq5):Option Int:=
 some ((max (a0.length:Int) (1:Int)))
theorem O8{a0:Qq5}{a:Value}(c:AS (.int .i64) H a a0){r:Int}(h:Gc a0=some r):
  Qqv 195 [.agg #[a]] w (fun v w'=>v=No r):=by
 refine A4 7 [(0,.agg #[a])] func195 Z fun hL=>Ao<|BM (t:=76) Z Z hL fun e f b d _=>AA 1 Z<|Ao<|Ag (Ae Z Ako Z V2.e)<|Ag (Af 0 Z b Z)<|Ag (AZ c)<|Ag (AeN Z Z)<|AA 1 Z<|Aw ?_
 cases h
 refine Ah Z ⟨b.ext,Z⟩
def Cm(a0:Qq5)(a1 a3 b a c d:Int):Option ((Int×Int×Int×Int)⊕Qq7):=
 if(a0.getD a.toNat Qq2=a1)/\(a<a3)then AU (Bq (b+1)) (AU (Bq (a+1)) (some (Sum.inl (c,d,(b+1),(a+1)))))else AU (Bq (a+1)) (some (Sum.inl (c,d,b,(a+1))))
def GN(a b c:Int):Option Qq7:=
 AU (Bq (a+b)) (AU (Bq (a+c)) (some ((a+b),(a+c))))
def Di(a0:Qq5)(a1 a2 a3:Int):Int×Int×Int×Int->Option ((Int×Int×Int×Int)⊕Qq7):=fun⟨b,c,d,a⟩=>
 if a<(a0.length:Int)then AU (0<=a/\a<(a0.length:Int)) (if a0.getD a.toNat Qq2=(-1)then(Cm a0 a1 a3 d a) b c else(if a0.getD a.toNat Qq2<a1 then AU (Bq (b+1)) ((Cm a0 a1 a3 d a) (b+1) c)else(if(a0.getD a.toNat Qq2=a1)/\(a<a2)then AU (Bq (c+1)) ((Cm a0 a1 a3 d a) b (c+1))else(Cm a0 a1 a3 d a) b c)))else Qzx Sum.inr (GN b c d)
def O9(a0:Qq5)(a1 a2 a3:Int)(s:Int×Int×Int×Int):Option Qq7:=Go.L.run (Di a0 a1 a2 a3) s
def Ij(a0:Qq5)(a1 a2 a3:Int):Option Qq7:=
 (O9 a0 a1 a2 a3) (1,0,0,0)
theorem OA{a0:Qq5}{a1 a2 a3:Int}{g:Value}(q:AS (.int .i64) H g a0){r:Int×Int}(h:Ij a0 a1 a2 a3=some r):
  Qqv 196 [.agg #[g],No a1,No a2,No a3] w (fun v w'=>v=.tuple #[No r.1,No r.2]):=by
 refine A4 60 [(0,.agg #[g]),(1,No a1),(2,No a2),(3,No a3)] func196 Z fun hL=>Ao<|BM (t:=76) Z Z hL fun w1 b1 ah ao _=>AA 2 Z<|A7 3 Z<|Bb (Int×Int×Int) (fun⟨i,j,k⟩=>[(10,No i),(11,No j),(12,No k)]) (fun⟨i,j,k⟩ wr=>Bk w [.box b1 [g] 76] wr/\GN i j k=some r) ?_ ?_
 ·refine Ao<|Ag (Ae Z Ako Z V2.e)<|Ag (Af 0 Z ah Z)<|Ag (AZ q)<|AA 1 Z<|A2 ?_;obtain⟨o,h⟩:=AR h;refine Bj (Int×Int×Int×Int×Nat) (fun⟨b,c,d,a,n⟩=>[(1,No a1),(2,No a2),(3,No a3),(10,No b),(11,No c),(12,No d),(16,g),(17,No (a0.length:Int)),(18,No a)]) (fun⟨b,c,d,a,n⟩ wr=>Bk w [.box b1 [g] 76] wr/\DR (Di a0 a1 a2 a3) n (b,c,d,a)=some r) (fun⟨b,c,d,a,n⟩=>n) (1,0,0,0,o) Z ⟨ah,h⟩ ?_;rintro⟨b,c,d,a,nn94⟩ ap ⟨l,h⟩;obtain⟨o,am,rfl,h,m⟩:=AQ h;refine A7 1 Z<|A6<|AL h ?_ ?_<;>intro aj h
  ·refine Au<|Aq<|A6<|A2<|Bo 1 Z<|Ax h fun s h=>AW q a.toNat (Cx s) (AM s) ?_;rintro ar _ rfl ak;refine Ag (AT ak (hH.trans l.arg))<|AA 2 Z<|Bb Qq7 (fun⟨e,f⟩=>[(1,No a1),(2,No a2),(3,No a3),(10,No e),(11,No f),(12,No d),(13,No a),(14,No (a0.getD a.toNat Qq2)),(16,g),(17,No (a0.length:Int)),(18,No a)]) (fun⟨e,f⟩ wr=>Bk w [.box b1 [g] 76] wr/\(Cm a0 a1 a3 d a) e f=some am) ?_ ?_
   ·refine A2<|A7 3 Z<|AL h ?_ ?_<;>intro u h
    ·refine Au<|Az<|A8 (_,_) ⟨l,h⟩
    refine A7 4 Z<|AL h ?_ ?_<;>intro x h
    ·refine An<|As 1 Z<|Ax h fun y h=>Ag (Ay y)<|As 1 Z<|AE<|Az<|A8 (_,_) ⟨l,h⟩
    refine Bo 4 Z<|Ns 3 3 Z Z Z Z Z Z<|AA 1 Z<|AL h ?_ ?_<;>intro z h
    ·refine An<|As 1 Z<|Ax h fun aa h=>Ag (Ay aa)<|As 1 Z<|AE<|Az<|A8 (_,_) ⟨l,h⟩
    refine Au<|Az<|A8 (_,_) ⟨l,h⟩
   rintro⟨e,f⟩ an ⟨p,h⟩;refine Bo 4 Z<|Ns 3 3 Z Z Z Z Z Z<|Ad<|AL h ?_ ?_<;>intro ab h
   ·refine An<|As 1 Z<|Ax h fun ac h=>Ag (Ay ac)<|As 1 Z<|AE<|Az<|Aq<|An<|Ax h fun ad h=>Ag (Ay ad)<|As 1 Z<|AE ?_;have h:=Bw.again h m;refine AD (_,_,_,_,_) Z ⟨p,h⟩
   refine Au<|Az<|Aq<|An<|Ax h fun ae h=>Ag (Ay ae)<|As 1 Z<|AE ?_;have h:=Bw.again h m;refine AD (_,_,_,_,_) Z ⟨p,h⟩
  refine Bf<|A5<|A3 ?_;have h:=Bw.out h m;refine AY<|A8 (_,_,_) ⟨l,h⟩
 rintro⟨i,j,k⟩ aq ⟨al,h⟩;refine Bo 2 Z<|Ax h fun af h=>Ag (Ay af)<|As 2 Z<|Ax h fun ag h=>Ag (Ay ag)<|AA 2 Z<|Aw ?_
 cases h
 refine Ah Z ⟨al.ext,Z⟩
def GF(a b:Int):Option (Int×Int×Qq7):=
 some (a,(max a b),(0,0))
def Cs(a0:Alv)(a1:Abv):Int×Int×Int->Option ((Int×Int×Int)⊕(Int×Int×Qq7)):=fun⟨b,c,a⟩=>
 if(0<=a)/\(b<c)then AU (0<=a/\a<(a1.length:Int)) (Qq9 (Ij a0.1 ((a1.getD a.toNat Qq2).toNat:Int) b c) (fun d=>AU (Bq (a - 1)) (some (Sum.inl (d.1,d.2,(a - 1))))))else Qzx Sum.inr (GF b c)
def IQ(a0:Alv)(a1:Abv)(s:Int×Int×Int):Option (Int×Int×Qq7):=Go.L.run (Cs a0 a1) s
def G4(a0:Alv)(a1:Abv):Option (Int×Int×Qq7):=
 if(a1.length:Int)=0 then Qq9 (Pf (10:Int) (-1:Int)) (fun b=>some (0,0,(b.1,b.2)))else(if 64<(a1.length:Int)then Qq9 (Pf (3:Int) (-1:Int)) (fun a=>some (0,0,(a.1,a.2)))else Qq9 (Gc a0.1) (fun c=>AU (Bq ((a1.length:Int) - 1)) ((IQ a0 a1) (0,c,((a1.length:Int) - 1)))))
theorem QX{a0:Alv}{a1:Abv}{f g j l:Value}(p:AS (.int .i64) H f (a0.1))(_h0_1:AS (.int .i64) H g (a0.2.1))(_h0_2:AS (.int .i64) H j (a0.2.2))(m:AS .byte H l a1){r:Int×Int×Qq7}(h:G4 a0 a1=some r):
  Qqv 150 [.agg #[f,g,j],l] w (fun v w'=>v=.tuple #[No r.1,No r.2.1,.agg #[No r.2.2.1,No r.2.2.2]]):=by
 refine A4 51 [(0,.agg #[f,g,j]),(1,l)] func150 Z fun hL=>Ao<|BM (t:=78) Z Z hL fun w1 b1 ax ba _=>As 2 Z<|AO AI.e Z ax fun w2 b2 k bb _=>Ad<|A6<|Bo 1 Z<|Ag (AZ m)<|AA 1 Z<|AL h ?_ ?_<;>intro ay h
 ·refine Ao<|A1 h fun x5 az h=>A9 k (PE _ _ (Av k) az) fun w6 bi a2 bc=>As 2 Z<|Ak 0 Z a2 Z fun w7 ad bd=>Ad<|Aw<|Am ?_
  cases h
  refine YQ (.tmp Z) (.tmp Z) (.cell Z Ae3 Z AI.e (AP (i:=0) ad Z)) ⟨ad.ext,Z⟩
 refine Au<|Aq<|A6<|Bo 1 Z<|Ag (AZ m)<|AA 1 Z<|AL h ?_ ?_<;>intro a3 h
 ·refine Ao<|A1 h fun bj ah h=>A9 k (PE _ _ (Av k) ah) fun bk be ai a6=>As 2 Z<|Ak 0 Z ai Z fun bl s a7=>Ad<|Aw<|Am ?_
  cases h
  refine YQ (.tmp Z) (.tmp Z) (.cell Z Ae3 Z AI.e (AP (i:=0) s Z)) ⟨s.ext,Z⟩
 refine Au<|Aq<|Ao<|Ag (Ae Z Akt Z AhA.e)<|Ag (GS 1 1 Z AhA.e k Z Z)<|A1 h fun a4 aj h=>A9 k (O8 (a0:=a0.1) _ _ (Av k) (p.mono  Aj) aj) fun bm bf ak a8=>AA 2 Z<|Bb Qq7 (fun⟨d,e⟩=>[(6,(Abo b2)),(7,No d),(8,No e)]) (fun⟨d,e⟩ wr=>Bk w [.box b2 [No 0,No 0] 35,.box b1 [f,g,j] 78] wr/\GF d e=some r) ?_ ?_
 ·refine Bo 1 Z<|Ag (AZ m)<|Ax h fun al h=>Ag (Ay al)<|AA 1 Z<|A2 ?_;obtain⟨u,h⟩:=AR h;refine Bj (Int×Int×Int×Nat) (fun⟨b,c,a,n⟩=>[(1,l),(2,(Abo b1)),(6,(Abo b2)),(7,No b),(8,No c),(9,No a)]) (fun⟨b,c,a,n⟩ wr=>Bk w [.box b2 [No 0,No 0] 35,.box b1 [f,g,j] 78] wr/\DR (Cs a0 a1) n (b,c,a)=some r) (fun⟨b,c,a,n⟩=>n) (0,a4,((a1.length:Int) - 1),u) Z ⟨ak,h⟩ ?_;rintro⟨b,c,a,nn69⟩ bg ⟨x,h⟩;obtain⟨u,bn,rfl,h,y⟩:=AQ h;refine A6<|Bo 3 Z<|Ns 3 2 Z Z Z Z Z Z<|Ad<|AL h ?_ ?_<;>intro am h
  ·refine Au<|Aq<|A6<|A2<|LX (Qqz 0 15 (.tail 15)) mixed Qqb (fun a5 an=>?_);have o:=x.call an;refine B2 Z (Ae Z Akt Z AhA.e) Z<|B2 Z (GS 1 1 Z AhA.e o Z Z) Z<|B9 2 Z<|Ax h fun z h=>CP Z Z Z Ae1 m a.toNat (Cx z) (AM z) Z ?_;rintro bo _ rfl ao;refine B2 Z (AT ao (hH.trans o.arg)) Z<|B2 Z (Gn (Hz _)) Z<|B9 2 Z<|A1 h fun ae ap h=>?_;have ac:=(fun(af:World) (aq:Ext a5 af)=>OA af _ (Le.refl _) ((p.mono (hH.trans o.arg)).mono aq.le) ap);refine Er Z Z Z ac<|B9 5 Z<|Bt (fun bp ar=>?_);have au:=o.call ar;refine AE<|Az<|Aq<|An<|As 1 Z<|Ax h fun av h=>Ag (Ay av)<|As 1 Z<|AE ?_;have h:=Bw.again h y;refine AD (_,_,_,_) Z ⟨au,h⟩
  refine Bf<|A5<|A3 ?_;have h:=Bw.out h y;refine AY<|A8 (_,_) ⟨x,h⟩
 rintro⟨d,e⟩ bh ⟨aw,h⟩;refine Bo 3 Z<|Ag (AeN Z Z)<|Ag (Ba (fun _=>B8 _))<|As 2 Z<|Ak 0 Z aw Z fun bq aa a9=>Ad<|Aw ?_
 cases h
 refine YQ (.tmp Z) (.tmp Z) (.cell Z Ae3 Z AI.e (AP (i:=0) aa Z)) ⟨aa.ext,Z⟩
def D4(a0:Alv)(a1:Abv):Option Al2:=
 Qq9 (G4 (a0.1,a0.2.1,a0.2.2) a1) (fun a=>AU (Bq (a.2.1 - a.1)) (some ((a.2.1 - a.1),(a.2.2.1,a.2.2.2))))
theorem Qq{a0:Alv}{a1:Abv}{a b c d:Value}(j:AS (.int .i64) H a (a0.1))(k:AS (.int .i64) H b (a0.2.1))(l:AS (.int .i64) H c (a0.2.2))(m:AS .byte H d a1){r:Al2}(h:D4 a0 a1=some r):
  Qqv 99 [.agg #[a,b,c],d] w (fun v w'=>v=.tuple #[No r.1,.agg #[No r.2.1,No r.2.2]]):=by
 refine A4 20 [(0,.agg #[a,b,c]),(1,d)] func99 Z fun hL=>Ao<|BM (t:=78) Z Z hL fun w1 b1 s ad _=>As 1 Z<|AO AI.e Z s fun w2 b2 e ae _=>Ad<|Ao<|Ag (AJ 1 Z GK.e e Z)<|As 1 Z<|A1 h fun x3 u h=>A9 e (QX (a0:=(a0.1,a0.2.1,a0.2.2)) _ _ (Av e) (j.mono  Aj) (k.mono  Aj) (l.mono  Aj) (m.mono  Aj) u) fun w4 ai x af=>As 4 Z<|AO AI.e Z x fun w5 b5 y ag _=>As 2 Z<|Ak 0 Z y Z fun w6 z ah=>Ad<|BZ (Qqz 0 5 (.tail 5)) mixed Qqb (fun w7 aa=>?_);have g:=z.call aa;refine B9 2 Z<|Ax h fun ab h=>B2 Z (Ay ab) Z<|B2 Z (AJ 0 Z AI.e g Z) Z<|B9 1 Z<|Bt (fun aj o=>?_);have p:=g.call o;refine Ak 1 Z p Z fun ak f ac=>Ad<|Aw ?_
 cases h
 refine Bv (.tmp Z) (.cell Z Ae3 Z AI.e (AP (i:=1) f Z)) ⟨f.ext,Z⟩
def Ik(a:Int)(c:Qq5)(b:Int):Option ((Qq5×Int×Int)⊕(Alv×Bool)):=
 AU (Bq (a+1)) (some (Sum.inl (c,b,(a+1))))
def Ec(a0:Qq5)(c:Int):Qq5×Int×Int->Option ((Qq5×Int×Int)⊕((Qq5×Int×Int)⊕(Alv×Bool))):=fun⟨d,b,a⟩=>
 if a<(a0.length:Int)then AU (0<=a/\a<(a0.length:Int)) (if a0.getD a.toNat Qq2=c then AU (0<=a/\a<(d.length:Int)) (AU (Bq (b+1)) (AU (Bq (a+1)) (some (Sum.inl ((d.set a.toNat b),(b+1),(a+1))))))else AU (Bq (a+1)) (some (Sum.inl (d,b,(a+1)))))else Qzx Sum.inr ((Ik c) d b)
def Lz(a0:Qq5)(a:Int)(s:Qq5×Int×Int):Option ((Qq5×Int×Int)⊕(Alv×Bool)):=Go.L.run (Ec a0 a) s
def Il(c:Qq5)(d:Qq5)(a:Int)(e:Qq5)(b:Bool):Option (Alv×Bool):=
 some ((e,c,(d.set a.toNat (0:Int))),b)
def Im(a0:Qq5)(d:Qq5)(c:Qq5)(b:Qq5)(a:Int):Option (Alv×Bool):=
 AU (0<=a/\a<(b.length:Int)) (AU (0<=a/\a<(a0.length:Int)) ((Il c b a) d (decide (a0.getD a.toNat Qq2=(-1)))))
def Da(a0:Qq5)(e:Qq5)(c:Qq5):Qq5×Int×Int->Option ((Qq5×Int×Int)⊕(Alv×Bool)):=fun⟨d,a,b⟩=>
 if 0<b then AU (0<=a/\a<(d.length:Int)) (AU (0<=a/\a<(a0.length:Int)) (if a0.getD a.toNat Qq2=(-1)then Qzx Sum.inr (some (([],[],[]),false))else AU (0<=a/\a<(c.length:Int)) (AU (Bq (b - 1)) (some (Sum.inl ((d.set a.toNat b),c.getD a.toNat Qq2,(b - 1)))))))else Qzx Sum.inr ((Im a0 e c) d a)
def Io(a0:Qq5)(b:Qq5)(a:Qq5)(s:Qq5×Int×Int):Option (Alv×Bool):=Go.L.run (Da a0 b a) s
def Ip(a0:Qq5)(b:Qq5)(c:Qq5)(a:Qq5):Option (Alv×Bool):=
 (Io a0 b a) (c,0,((a0.length:Int) - 1))
def Ed(a0:Qq5)(d:Qq5)(e:Qq5):Qq5×Int×Int->Option ((Qq5×Int×Int)⊕(Alv×Bool)):=fun⟨b,c,a⟩=>
 if a<256 then(Lz a0 a) (b,c,0)else Qzx Sum.inr ((Ip a0 d e) b)
def Qr(a0:Qq5)(a:Qq5)(b:Qq5)(s:Qq5×Int×Int):Option (Alv×Bool):=Go.L.run (Ed a0 a b) s
def Iq(a0:Qq5)(a:Qq5)(b:Qq5)(c:Qq5):Option (Alv×Bool):=
 (Qr a0 a c) (b,1,0)
def FQ(a0:Qq5):Option (Alv×Bool):=
 AU (Bq ((a0.length:Int) - 1)) (AU (Bq (((a0.length:Int) - 1)+1)) (AU (Bq (((a0.length:Int) - 1)+1)) (AU (0<=(((a0.length:Int) - 1)+1)/\((8:Nat):Int) * (((a0.length:Int) - 1)+1)<=281474976710656/\(((a0.length:Int) - 1)+1)<=9223372036854775807) (AU (0<=(((a0.length:Int) - 1)+1)/\((8:Nat):Int) * (((a0.length:Int) - 1)+1)<=281474976710656/\(((a0.length:Int) - 1)+1)<=9223372036854775807) ((Iq a0) a0 (Qzv (((a0.length:Int) - 1)+1).toNat (0:Int)) (Qzv (((a0.length:Int) - 1)+1).toNat (0:Int)))))))
theorem Qs{a0:Qq5}{c:Value}(m:AS (.int .i64) H c a0){r:Alv×Bool}(h:FQ a0=some r):
  Qqv 43 [c] w (fun v w'=>∃u0 u1 u2,v=.tuple #[.agg #[u0,u1,u2],.bool r.2]/\AS (.int .i64) (un H (nw w w')) u0 (r.1.1)/\Cd 3 (.int .i64) H w w' u1 (r.1.2.1)/\Cd 3 (.int .i64) H w w' u2 (r.1.2.2)):=by
 refine A4 77 [(0,c)] func43 Z fun hL=>Ao<|AO GK.e Z hL fun w1 b1 ga gw _=>AA 1 Z<|Bo 1 Z<|Ag (AZ m)<|Ax h fun gb h=>Ag (Ay gb)<|AA 1 Z<|Bb (Qq5×Qq5×Qq5×Nat×Value×Value×Qq6×Value×Qq6) (fun⟨ab,bf,ac,bjb43,d,e,ay,f,p⟩=>[(0,c),(2,(Abo b1)),(4,No ((a0.length:Int) - 1)),(5,(Abo bjb43))]) (fun⟨ab,bf,ac,bjb43,d,e,ay,f,p⟩ wr=>C5 w [.box bjb43 [d,e,f] 78,.row f 3 1 (ac).length p,.row e 3 1 (bf).length ay,.box b1 [Aal,Aal,Aal] 78] wr fun Oz=>AS (.int .i64) (gz H w wr Oz) d ab/\AK (.int .i64) (gz H w wr Oz) ac p/\AK (.int .i64) (gz H w wr Oz) bf ay/\(Iq a0) ab bf ac=some r) ?_ ?_
 ·refine LX (Qqz 0 4 (.q 5 (.q 6 (.h3 4 (.h2 7 (.q 8 (.h 9 (.tail 10))) 9 (.h 7 (.q 8 (.tail 10)))) 7 (.h2 4 (.q 8 (.h 9 (.tail 10))) 9 (.h 4 (.q 8 (.tail 10)))) 9 (.h2 4 (.h 7 (.q 8 (.tail 10))) 7 (.h 4 (.q 8 (.tail 10)))))))) mixed Qqb (fun hh fx=>?_);have b5:=ga.call fx;refine B9 1 Z<|B2 Z (Ba (fun _=>AhF _ m.one _)) Z<|B9 1 Z<|Ax h fun fy h=>B2 Z (Ay fy) Z<|B9 1 Z<|Ax h fun fz h=>B2 Z (Ay fz) Z<|All ?_ ?_ ?_
  ·refine Ax h fun ax h=>Mv 0 (r:=(.int .i64)) Z Z Z Z Aco (fun _=>Z) Z hH b5 ax fun cq hi b6 dm gk a7=>V1 ?_ ?_
   ·refine Ax h fun ao h=>Mv 0 (r:=(.int .i64)) Z Z Z Z Aco (fun _=>Z) Z hH dm ao fun gc hj f0 b7 ew b8=>B2 Z (Ba (fun _=>KW _ _ (row_one (b7.at (i:=1) Z)) _ (row_one (b7.at (i:=0) Z)) _)) Z<|JH Z GK.e Z Z b7 fun hk gd dn cr=>Bt (fun hl dp=>?_);have b9:=dn.call dp;have cs:=AH dn dp;refine Ak 0 Z b9 Z (a:=(CB m.one (CB (row_one (b9.at (i:=2) Z)) (CB (row_one (b9.at (i:=1) Z)) Ps)))) fun hm f1 ct=>AE ?_;have a7:=a7.mono (Ab (ew.trans (cr.trans (cs.trans ct))));have b8:=b8.mono (Ab (cr.trans (cs.trans ct)));refine A8 (a0,(Qzv (((a0.length:Int) - 1)+1).toNat (0:Int)),(Qzv (((a0.length:Int) - 1)+1).toNat (0:Int)),gd,c,cq,b6,gc,f0) ⟨f1,(m.mono  Aj),b8,a7,h⟩
   refine Ax h fun ao h=>JH Z GK.e Z Z dm fun hn fu f2 ex=>Mv 0 (r:=(.int .i64)) Z Z Z Z Aco (fun _=>Z) Z hH f2 ao fun dq ho dr bj ey ca=>B2 Z (Ba (fun _=>KW _ _ (row_one (bj.at (i:=2) Z)) _ (row_one (bj.at (i:=0) Z)) _)) Z<|Bt (fun hq ds=>?_);have cb:=bj.call ds;have cu:=AH bj ds;refine Ak 1 Z cb Z (a:=(CB m.one (CB (row_one (cb.at (i:=2) Z)) (CB (row_one (cb.at (i:=0) Z)) Ps)))) fun ge dt cv=>AE ?_;have du:Bk w [.box fu [c,cq,dq] 78,.row dq 3 1 ((Qzv (((a0.length:Int) - 1)+1).toNat (0:Int))).length dr,.row cq 3 1 ((Qzv (((a0.length:Int) - 1)+1).toNat (0:Int))).length b6,.box b1 [Aal,Aal,Aal] 78] ge:=dt.DC [1] Z;have cw:=Ck [1] dt du Z;have a7:=a7.mono (Ab (ex.trans (ey.trans (cu.trans (cv.trans cw)))));have ca:=ca.mono (Ab (cu.trans (cv.trans cw)))
   refine A8 (a0,(Qzv (((a0.length:Int) - 1)+1).toNat (0:Int)),(Qzv (((a0.length:Int) - 1)+1).toNat (0:Int)),fu,c,cq,b6,dq,dr) ⟨du,(m.mono  Aj),ca,a7,h⟩
  ·refine Ax h fun ax h=>Ax h fun ao h=>Mv 0 (r:=(.int .i64)) Z Z Z Z Aco (fun _=>Z) Z hH b5 ao fun bg hr bk dv gl a8=>V1 ?_ ?_
   ·refine Mv 0 (r:=(.int .i64)) Z Z Z Z Aco (fun _=>Z) Z hH dv ax fun dw hs dx cc ez cd=>B2 Z (Ba (fun _=>KW _ _ (row_one (cc.at (i:=0) Z)) _ (row_one (cc.at (i:=1) Z)) _)) Z<|JH Z GK.e Z Z cc fun ht fv dy cx=>Bt (fun hu dz=>?_);have ce:=dy.call dz;have cy:=AH dy dz;refine Ak 0 Z ce Z (a:=(CB m.one (CB (row_one (ce.at (i:=1) Z)) (CB (row_one (ce.at (i:=2) Z)) Ps)))) fun gf d0 cz=>AE ?_;have d1:Bk w [.box fv [c,dw,bg] 78,.row bg 3 1 ((Qzv (((a0.length:Int) - 1)+1).toNat (0:Int))).length bk,.row dw 3 1 ((Qzv (((a0.length:Int) - 1)+1).toNat (0:Int))).length dx,.box b1 [Aal,Aal,Aal] 78] gf:=d0.DC [2,1] Z;have c0:=Ck [2,1] d0 d1 Z;have a8:=a8.mono (Ab (ez.trans (cx.trans (cy.trans (cz.trans c0)))));have cd:=cd.mono (Ab (cx.trans (cy.trans (cz.trans c0))));refine A8 (a0,(Qzv (((a0.length:Int) - 1)+1).toNat (0:Int)),(Qzv (((a0.length:Int) - 1)+1).toNat (0:Int)),fv,c,dw,dx,bg,bk) ⟨d1,(m.mono  Aj),a8,cd,h⟩
   refine JH Z GK.e Z Z dv fun hv fw f3 e0=>Mv 0 (r:=(.int .i64)) Z Z Z Z Aco (fun _=>Z) Z hH f3 ax fun d2 hw d3 bl e1 cf=>B2 Z (Ba (fun _=>KW _ _ (row_one (bl.at (i:=0) Z)) _ (row_one (bl.at (i:=2) Z)) _)) Z<|Bt (fun hx d4=>?_);have cg:=bl.call d4;have c1:=AH bl d4;refine Ak 1 Z cg Z (a:=(CB m.one (CB (row_one (cg.at (i:=0) Z)) (CB (row_one (cg.at (i:=2) Z)) Ps)))) fun gg d5 c2=>AE ?_;have d6:Bk w [.box fw [c,d2,bg] 78,.row bg 3 1 ((Qzv (((a0.length:Int) - 1)+1).toNat (0:Int))).length bk,.row d2 3 1 ((Qzv (((a0.length:Int) - 1)+1).toNat (0:Int))).length d3,.box b1 [Aal,Aal,Aal] 78] gg:=d5.DC [2,2] Z;have c3:=Ck [2,2] d5 d6 Z;have a8:=a8.mono (Ab (e0.trans (e1.trans (c1.trans (c2.trans c3)))));have cf:=cf.mono (Ab (c1.trans (c2.trans c3)));refine A8 (a0,(Qzv (((a0.length:Int) - 1)+1).toNat (0:Int)),(Qzv (((a0.length:Int) - 1)+1).toNat (0:Int)),fw,c,d2,d3,bg,bk) ⟨d6,(m.mono  Aj),a8,cf,h⟩
  refine Ax h fun ax h=>Ax h fun ao h=>JH Z GK.e Z Z b5 fun hy c4 d7 gm=>V1 ?_ ?_
  ·refine Mv 0 (r:=(.int .i64)) Z Z Z Z Aco (fun _=>Z) Z hH d7 ax fun d8 hz d9 f4 gn ch=>Mv 0 (r:=(.int .i64)) Z Z Z Z Aco (fun _=>Z) Z hH f4 ao fun ea h0 eb bm e2 ci=>B2 Z (Ba (fun _=>KW _ _ (row_one (bm.at (i:=1) Z)) _ (row_one (bm.at (i:=0) Z)) _)) Z<|Bt (fun h1 ec=>?_);have cj:=bm.call ec;have c5:=AH bm ec;refine Ak 2 Z cj Z (a:=(CB m.one (CB (row_one (cj.at (i:=1) Z)) (CB (row_one (cj.at (i:=0) Z)) Ps)))) fun gh ed c6=>AE ?_;have ee:Bk w [.box c4 [c,d8,ea] 78,.row ea 3 1 ((Qzv (((a0.length:Int) - 1)+1).toNat (0:Int))).length eb,.row d8 3 1 ((Qzv (((a0.length:Int) - 1)+1).toNat (0:Int))).length d9,.box b1 [Aal,Aal,Aal] 78] gh:=ed.DC [2] Z;have c7:=Ck [2] ed ee Z;have ch:=ch.mono (Ab (e2.trans (c5.trans (c6.trans c7))));have ci:=ci.mono (Ab (c5.trans (c6.trans c7)))
   refine A8 (a0,(Qzv (((a0.length:Int) - 1)+1).toNat (0:Int)),(Qzv (((a0.length:Int) - 1)+1).toNat (0:Int)),c4,c,d8,d9,ea,eb) ⟨ee,(m.mono  Aj),ci,ch,h⟩
  refine Mv 0 (r:=(.int .i64)) Z Z Z Z Aco (fun _=>Z) Z hH d7 ao fun ef h4 eg f5 go ck=>Mv 0 (r:=(.int .i64)) Z Z Z Z Aco (fun _=>Z) Z hH f5 ax fun eh h5 ei bn e3 cl=>B2 Z (Ba (fun _=>KW _ _ (row_one (bn.at (i:=0) Z)) _ (row_one (bn.at (i:=1) Z)) _)) Z<|Bt (fun h6 ej=>?_);have cm:=bn.call ej;have c8:=AH bn ej;refine Ak 2 Z cm Z (a:=(CB m.one (CB (row_one (cm.at (i:=0) Z)) (CB (row_one (cm.at (i:=1) Z)) Ps)))) fun gi ek c9=>AE ?_;have el:Bk w [.box c4 [c,eh,ef] 78,.row ef 3 1 ((Qzv (((a0.length:Int) - 1)+1).toNat (0:Int))).length eg,.row eh 3 1 ((Qzv (((a0.length:Int) - 1)+1).toNat (0:Int))).length ei,.box b1 [Aal,Aal,Aal] 78] gi:=ek.DC [1,2] Z;have da:=Ck [1,2] ek el Z;have ck:=ck.mono (Ab (e3.trans (c8.trans (c9.trans da))));have cl:=cl.mono (Ab (c8.trans (c9.trans da)))
  refine A8 (a0,(Qzv (((a0.length:Int) - 1)+1).toNat (0:Int)),(Qzv (((a0.length:Int) - 1)+1).toNat (0:Int)),c4,c,eh,ei,ef,eg) ⟨el,(m.mono  Aj),ck,cl,h⟩
 rintro⟨ab,bf,ac,bjb43,d,e,ay,f,p⟩ gx ⟨em,e4,e5,e6,h⟩;have cn:=em.rG H;refine A7 1 Z<|Bb (Qq5×Qq6) (fun⟨t,o⟩=>[(0,c),(2,(Abo b1)),(4,No ((a0.length:Int) - 1)),(5,(Abo bjb43))]) (fun⟨t,o⟩ wr=>C5 w [.box bjb43 [d,e,f] 78,.row f 3 1 (ac).length p,.row e 3 1 (t).length o,.box b1 [Aal,Aal,Aal] 78] wr fun Oz=>AS (.int .i64) (gz H w wr Oz) d ab/\AK (.int .i64) (gz H w wr Oz) ac p/\AK (.int .i64) (gz H w wr Oz) t o/\(Ip a0 ab ac) t=some r) ?_ ?_
 ·refine A7 1 Z<|A2 ?_;obtain⟨co,h⟩:=AR h;refine Bj (Qq5×Int×Int×Qq6×Nat) (fun⟨ap,aj,k,ag,n⟩=>[(0,c),(2,(Abo b1)),(4,No ((a0.length:Int) - 1)),(5,(Abo bjb43)),(6,No aj),(24,No k)]) (fun⟨ap,aj,k,ag,n⟩ wr=>C5 w [.box bjb43 [d,e,f] 78,.row f 3 1 (ac).length p,.row e 3 1 (ap).length ag,.box b1 [Aal,Aal,Aal] 78] wr fun Oz=>AS (.int .i64) (gz H w wr Oz) d ab/\AK (.int .i64) (gz H w wr Oz) ac p/\AK (.int .i64) (gz H w wr Oz) ap ag/\DR (Ed a0 ab ac) n (ap,aj,k)=some r) (fun⟨ap,aj,k,ag,n⟩=>n) (bf,1,0,ay,co) Z ⟨em,(e4.mono cn),(e5.mono cn),(e6.mono cn),h⟩ ?_;rintro⟨ap,aj,k,ag,nn237⟩ gp ⟨bo,bh,he237_j47,b2,h⟩;obtain⟨co,en,rfl,h,db⟩:=AQ h;have av:=bo.rG H;refine A7 1 Z<|A6<|AL h ?_ ?_<;>intro e7 h
  ·refine Au<|Aq<|Bb (Qq5×Int×Qq6) (fun⟨a9,aq,ar⟩=>[(0,c),(2,(Abo b1)),(4,No ((a0.length:Int) - 1)),(5,(Abo bjb43)),(6,No aq),(24,No k)]) (fun⟨a9,aq,ar⟩ wr=>C5 w [.box bjb43 [d,e,f] 78,.row f 3 1 (ac).length p,.row e 3 1 (a9).length ar,.box b1 [Aal,Aal,Aal] 78] wr fun Oz=>AS (.int .i64) (gz H w wr Oz) d ab/\AK (.int .i64) (gz H w wr Oz) ac p/\AK (.int .i64) (gz H w wr Oz) a9 ar/\(Ik k) a9 aq=some en) ?_ ?_
   ·refine A2<|A7 2 Z<|Bo 1 Z<|Ag (AZ m)<|AA 1 Z<|A2 ?_;obtain⟨bp,h⟩:=AR h;refine Bj (Qq5×Int×Int×Qq6×Nat) (fun⟨al,u,l,ah,n⟩=>[(0,c),(2,(Abo b1)),(4,No ((a0.length:Int) - 1)),(5,(Abo bjb43)),(6,No u),(7,No k),(24,No k),(27,c),(28,No (a0.length:Int)),(29,No l)]) (fun⟨al,u,l,ah,n⟩ wr=>C5 w [.box bjb43 [d,e,f] 78,.row f 3 1 (ac).length p,.row e 3 1 (al).length ah,.box b1 [Aal,Aal,Aal] 78] wr fun Oz=>AS (.int .i64) (gz H w wr Oz) d ab/\AK (.int .i64) (gz H w wr Oz) ac p/\AK (.int .i64) (gz H w wr Oz) al ah/\DR (Ec a0 k) n (al,u,l)=some en) (fun⟨al,u,l,ah,n⟩=>n) (ap,aj,0,ag,bp) Z ⟨bo,(bh.mono av),(he237_j47.mono av),(b2.mono av),h⟩ ?_;rintro⟨al,u,l,ah,nn299⟩ gq ⟨am,ba,he299_j47,be,h⟩;obtain⟨bp,gy,rfl,h,bq⟩:=AQ h;have y:=am.rG H;refine A7 1 Z<|A6<|AL h ?_ ?_<;>intro e8 h
    ·refine Au<|Aq<|A6<|A2<|Bo 1 Z<|Ax h fun dc h=>AW m l.toNat (Cx dc) (AM dc) ?_;rintro g0 _ rfl e9;refine Ag (AT e9 (hH.trans am.arg))<|AA 2 Z<|A7 3 Z<|AL h ?_ ?_<;>intro fa h
     ·refine Ao<|Ag (Ae Z Akt Z V2.e)<|Ag (Af 0 Z am Z)<|As 2 Z<|Ax h fun br h=>Ki 2 Z Aco BB.e am Z l.toNat (Cx br) (AM br) fun g1 fb=>Kl 2 l.toNat u Z Z hH am Z (be.mono y) fb (AM br) Z fun g2 fc fd eo fe=>Ad<|An<|As 1 Z<|Ax h fun ff h=>Ag (Ay ff)<|As 1 Z<|AE<|Az<|Aq<|An<|Ax h fun fg h=>Ag (Ay fg)<|As 1 Z<|AE ?_;have h:=Bw.again h bq;have y:=y.trans (Ab eo);refine AD (_,_,_,_,_) Z ⟨fd,(ba.mono y),(he299_j47.mono y),fe,h⟩
     refine Au<|Az<|Aq<|An<|Ax h fun fh h=>Ag (Ay fh)<|As 1 Z<|AE ?_;have h:=Bw.again h bq;refine AD (_,_,_,_,_) Z ⟨am,(ba.mono y),(he299_j47.mono y),(be.mono y),h⟩
    refine Bf<|A5<|A3 ?_;have h:=Bw.out h bq;refine AY<|Az<|A8 (_,_,_) ⟨am,(ba.mono y),(he299_j47.mono y),(be.mono y),h⟩
   rintro⟨a9,aq,ar⟩ gr ⟨dd,dk,he279_j47,ep,h⟩;have bs:=dd.rG H;refine An<|Ax h fun fi h=>Ag (Ay fi)<|As 1 Z<|AE ?_;have h:=Bw.again h db;refine AD (_,_,_,_,_) Z ⟨dd,(dk.mono bs),(he279_j47.mono bs),(ep.mono bs),h⟩
  refine Bf<|A5<|A3 ?_;have h:=Bw.out h db;refine AY<|A8 (_,_) ⟨bo,(bh.mono av),(he237_j47.mono av),(b2.mono av),h⟩
 rintro⟨t,o⟩ gs ⟨de,dl,he189_j47,eq,h⟩;have bt:=de.rG H;refine A7 1 Z<|Bb (Qq5×Int×Qq6) (fun⟨an,a,az⟩=>[(0,c),(2,(Abo b1)),(5,(Abo bjb43)),(10,No a)]) (fun⟨an,a,az⟩ wr=>C5 w [.box bjb43 [d,e,f] 78,.row f 3 1 (an).length az,.row e 3 1 (t).length o,.box b1 [Aal,Aal,Aal] 78] wr fun Oz=>AS (.int .i64) (gz H w wr Oz) d ab/\AK (.int .i64) (gz H w wr Oz) an az/\AK (.int .i64) (gz H w wr Oz) t o/\(Im a0 ab t) an a=some r) ?_ ?_
 ·refine A7 2 Z<|A2 ?_;obtain⟨cp,h⟩:=AR h;refine Bj (Qq5×Int×Int×Qq6×Nat) (fun⟨au,g,x,ak,n⟩=>[(0,c),(2,(Abo b1)),(5,(Abo bjb43)),(10,No g),(11,No x)]) (fun⟨au,g,x,ak,n⟩ wr=>C5 w [.box bjb43 [d,e,f] 78,.row f 3 1 (au).length ak,.row e 3 1 (t).length o,.box b1 [Aal,Aal,Aal] 78] wr fun Oz=>AS (.int .i64) (gz H w wr Oz) d ab/\AK (.int .i64) (gz H w wr Oz) au ak/\AK (.int .i64) (gz H w wr Oz) t o/\DR (Da a0 ab t) n (au,g,x)=some r) (fun⟨au,g,x,ak,n⟩=>n) (ac,0,((a0.length:Int) - 1),p,cp) Z ⟨de,(dl.mono bt),(he189_j47.mono bt),(eq.mono bt),h⟩ ?_;rintro⟨au,g,x,ak,nn382⟩ gt ⟨a1,bi,b3,he382_j45,h⟩;obtain⟨cp,g3,rfl,h,bu⟩:=AQ h;refine A6 ?_;have ad:=a1.rG H;refine A7 2 Z<|AL h ?_ ?_<;>intro fj h
  ·refine Au<|Aq<|A6<|A2<|Ao<|Ag (Ae Z Akt Z V2.e)<|Ag (Af 0 Z a1 Z)<|As 2 Z<|Ax h fun bv h=>Ki 1 Z Aco BB.e a1 Z g.toNat (Cx bv) (AM bv) fun g4 fk=>Kl 1 g.toNat x Z Z hH a1 Z (b3.mono ad) fk (AM bv) Z fun g5 fl a2 er fm=>Ad<|A6<|Bo 2 Z<|Ax h fun df h=>AW m g.toNat (Cx df) (AM df) ?_;rintro g6 _ rfl fn;refine Ag (AT fn (hH.trans a2.arg))<|AA 1 Z<|AL h ?_ ?_<;>intro fo h
   ·refine Ao<|Ag (Ba (fun _=>AcW _))<|Ak 3 Z a2 Z fun g7 dg gj=>AA 1 Z<|Aw<|Am<|Al<|Am<|Bc ?_;have h:=Bw.out h bu;refine Al<|AN ?_
    cases h
    refine Bv (.cell Z Akt Z GK.e (AP (i:=3) dg Z)) (.tmp Z) ⟨dg.ext,_,_,_,Z,(AS.nil _ _),Cd.nil,Cd.nil⟩
   refine Au<|Aq<|An<|Ag (Ae Z Akt Z V2.e)<|Ag (Af 0 Z a2 Z)<|As 1 Z<|Ax h fun dh h=>?_;have ad:=ad.trans (Ab er);refine AW (a2.MZ hH (i:=2) Z (he382_j45.mono ad)) g.toNat (Cx dh) (AM dh) ?_;rintro g8 _ rfl fp;refine Ag (AT fp (Le.refl _))<|As 1 Z<|AE<|Az<|Aq<|An<|As 1 Z<|Ax h fun fq h=>Ag (Ay fq)<|As 1 Z<|AE ?_;have h:=Bw.again h bu;refine AD (_,_,_,_,_) Z ⟨a2,(bi.mono ad),fm,(he382_j45.mono ad),h⟩
  refine Bf<|A5<|A3 ?_;have h:=Bw.out h bu;refine AY<|A8 (_,_,_) ⟨a1,(bi.mono ad),(b3.mono ad),(he382_j45.mono ad),h⟩
 rintro⟨an,a,az⟩ gu ⟨bb,af,es,he361_j45,h⟩;have s:=bb.rG H;refine Ao<|Ag (Ae Z Akt Z V2.e)<|Ag (Af 0 Z bb Z)<|As 1 Z<|Ax h fun bw h=>Ki 1 Z Aco BB.e bb Z a.toNat (Cx bw) (AM bw) fun g9 fr=>Kl 1 a.toNat 0 Z Z hH bb Z (es.mono s) fr (AM bw) Z fun ha bx di b4 aw=>Ad<|Bb (Qq5×Bool×Value) (fun⟨bz,a3,bc⟩=>[(2,(Abo b1)),(3,.bool a3)]) (fun⟨bz,a3,bc⟩ wr=>C5 w [.box bjb43 [d,e,f] 78,.row f 3 1 ((an.set a.toNat (0:Int))).length bx,.row e 3 1 (t).length o,.box b1 [bc,e,f] 78] wr fun Oz=>AS (.int .i64) (gz H w wr Oz) d ab/\AK (.int .i64) (gz H w wr Oz) ((an.set a.toNat (0:Int))) bx/\AK (.int .i64) (gz H w wr Oz) t o/\AS (.int .i64) (gz H w wr Oz) bc bz/\(Il t an a) bz a3=some r) ?_ ?_
 ·refine KX (PY OF) (fun z0 z=>Le (gz H w z0 [.box bjb43 [d,e,f] 78,.row f 3 1 ((an.set a.toNat (0:Int))).length bx,.row e 3 1 (t).length o,.box b1 [Aal,Aal,Aal] 78]) (hp z)/\z.heap[bjb43]? = some (.cells [d,e,f].toArray 78 (0,0))) mixed Z (fun ae hc dj=>?_);have aa:=di.call dj;have a4:=AH di dj;have b:=aa.rG H;refine OG ⟨b.trans (Av aa),aa.at (i:=0) Z⟩ fun kI426=>Bn 0 ae kI426 Z (fun _ hI=>Rr hI.2) Z<|Bn 1 ae kI426 Z (fun _ _=>Ai Z) Z<|Bn 2 ae kI426 Z (fun _ _=>Ai Z) Z<|NI2 3 6 Z Z ?_ ?_
  ·refine Ax h fun a5 h=>AW m a.toNat (Cx a5) (AM a5) ?_;rintro hd _ rfl fs;refine Be ⟨b.trans (Av aa),aa.at (i:=0) Z⟩ fun kI429=>Bn 4 ae kI429 Z (fun _ hI=>AT (fs.mono  Aj) hI.1) Z<|Bn 5 ae kI429 Z (fun _ _=>Ai Z) Z<|Fg 6 Z ?_;have s:=s.trans (Ab (b4.trans a4));refine Ak 3 Z aa Z (a:=(CB ((af.mono s).mono b).one (CB (row_one (aa.at (i:=2) Z)) (CB (row_one (aa.at (i:=1) Z)) Ps)))) ?_;intro he b0 et;have b:=b.trans (Ab et);refine Be ⟨b.trans (Av b0),b0.at (i:=0) Z⟩ fun kI431=>Bn 7 ae kI431 Z (fun _ _=>Ai Z) Z<|FW ?_;have aw:=aw.mono (Ab a4);refine A8 (_,_,_) ⟨b0,((af.mono s).mono b),(aw.mono b),((he361_j45.mono s).mono b),((af.mono s).mono b),h⟩
  refine Ax h fun a5 h=>?_;have s:=s.trans (Ab (b4.trans a4));refine Ak 3 Z aa Z (a:=(CB ((af.mono s).mono b).one (CB (row_one (aa.at (i:=2) Z)) (CB (row_one (aa.at (i:=1) Z)) Ps)))) ?_;intro hf a6 eu;have b:=b.trans (Ab eu);refine Be ⟨b.trans (Av a6),a6.at (i:=0) Z⟩ fun kI433=>Fg 3 Z<|AW m a.toNat (Cx a5) (AM a5) ?_;rintro hg _ rfl ft;refine Be ⟨b.trans (Av a6),a6.at (i:=0) Z⟩ fun kI435=>Bn 4 ae kI435 Z (fun _ hI=>AT (ft.mono  Aj) hI.1) Z<|Bn 5 ae kI435 Z (fun _ _=>Ai Z) Z<|Bn 7 ae kI435 Z (fun _ _=>Ai Z) Z<|FW ?_;have aw:=aw.mono (Ab a4);refine A8 (_,_,_) ⟨a6,((af.mono s).mono b),(aw.mono b),((he361_j45.mono s).mono b),((af.mono s).mono b),h⟩
 rintro⟨bz,a3,bc⟩ gv ⟨bd,f6,he421_j47,he421_j45,ev,h⟩;refine Aw ?_
 cases h
 refine Bv (.cell Z Akt Z GK.e (AP (i:=3) bd Z)) (.tmp Z) ⟨bd.ext,_,_,_,Z,(ev.mono (OV hH)),(bd.FV hH (i:=2) Z he421_j45),(bd.FV hH (i:=1) Z he421_j47)⟩
def Ir(a1:Int):Option (Qq5):=
 AU (Bq (0 - 0)) (AU (Bq (a1 - (0 - 0))) (if 0<(a1 - (0 - 0))then AU (0<(a1 - (0 - 0))/\(a1 - (0 - 0)) * 8<=281474976710656) (some (([]:Qq5)))else some ([])))
def Kf(_a0:Qq5)(a1:Int):Option (Qq5):=
 if a1<0 then none else(Ir a1)
theorem Qt{a0:Qq5}{a1:Int}(_:AS (.int .i64) H Aal a0){r:Qq5}(h:Kf a0 a1=some r):
  Qqv 74 [Aal,No a1] w (fun v w'=>∃x,v=x/\Cd 3 (.int .i64) H w w' x r):=by
 refine A4 27 [(0,Aal),(1,No a1)] func74 Z fun hL=>A7 1 Z<|Bb Unit (fun(_:Unit)=>[(0,Aal),(1,No a1)]) (fun(_:Unit) wr=>Bk w [] wr/\(Ir a1)=some r) ?_ ?_
 ·refine A7 2 Z<|AL h ?_ ?_<;>intro y h
  ·refine An ?_
   cases h
  refine Au<|A8 () ⟨hL,h⟩
 rintro _ ac ⟨d,h⟩;refine A6<|Bo 2 Z<|Ag (AcI Z)<|As 1 Z<|Ag (Wm Z)<|Ax h fun g h=>Ag (Ay g)<|Ax h fun j h=>Ag (Ay j)<|AA 1 Z<|A7 2 Z<|AL h ?_ ?_<;>intro l h
 ·refine An<|As 2 Z<|Ag (AcI Z)<|Ag Wx<|As 1 Z<|Ax h fun ab h=>?_;obtain⟨z,o⟩:=Int.eq_ofNat_of_zero_le (show 0<=(a1 - (0 - 0)) by omega);refine AcJ (k:=.i64) (m:=z) (by rw[<- o];rfl) Aco U U U fun f a c ad p q s t u=>As 1 Z<|Ag (Wm Z)<|Ag (AeR Z) ?_;obtain⟨b,aa⟩:=N3 (v:=.slice (some ⟨f,0,none⟩) 0 a) (e:=3) (sz:=1) (m:=0) (xs:=[]) d p ⟨Z,.inr ⟨f,a,c,Z,q,s,Nat.zero_le _,t,by rw[u,Nat.mul_one],Z⟩⟩;refine As 1 Z<|AE<|Aq<|A7 2 Z<|Aw ?_
  cases h
  refine Ah Z ⟨b.ext,_,Z,(b.FV hH (i:=0) Z .nil)⟩
 refine Au<|Aq<|A7 2 Z<|Aw ?_
 cases h
 refine Ah Z ⟨d.ext,_,Z,Cd.nil⟩
def Kw(a:Qq5):Option (Qq5):=
 some a
def BJ(a0:List Qq5):Qq5×Int->Option (Al6⊕(Qq5)):=fun⟨b,a⟩=>
 if a<(a0.length:Int)then AU (0<=a/\a<(a0.length:Int)) (AU (Go.E.Fz 8 (b.length+(a0.getD a.toNat Qq2).length)) (AU (Bq (a+1)) (some (Sum.inl ((b++a0.getD a.toNat Qq2),(a+1))))))else Qzx Sum.inr (Kw b)
def Hl(a0:List Qq5)(s:Al6):Option (Qq5):=Go.L.run (BJ a0) s
def Hm(a0:List Qq5)(a:Int):Option (Qq5):=
 Qq9 (Kf ([]) a) (fun b=>(Hl a0) (b,0))
def BK(a0:List Qq5):Int×Int->Option (Qq7⊕(Qq5)):=fun⟨b,a⟩=>
 if a<(a0.length:Int)then AU (0<=a/\a<(a0.length:Int)) (AU (Bq (b+((a0.getD a.toNat Qq2).length:Int))) (if(b+((a0.getD a.toNat Qq2).length:Int))<0 then none else AU (Bq (a+1)) (some (Sum.inl ((b+((a0.getD a.toNat Qq2).length:Int)),(a+1))))))else Qzx Sum.inr ((Hm a0) b)
def Kx(a0:List Qq5)(s:Int×Int):Option (Qq5):=Go.L.run (BK a0) s
def GG(a0:List Qq5):Option (Qq5):=
 (Kx a0) (0,0)
theorem Pg{a0:List Qq5}{e:Value}(o:AS (.vec (.int .i64)) H e a0){r:Qq5}(h:GG a0=some r):
  Qqv 42 [e] w (fun v w'=>∃u0,v=u0/\Cd 3 (.int .i64) H w w' u0 r):=by
 refine A4 36 [(0,e)] func42 Z fun hL=>A7 1 Z<|A7 1 Z<|Bb Int (fun j=>[(0,e),(3,No j)]) (fun j wr=>Bk w [] wr/\(Hm a0) j=some r) ?_ ?_
 ·refine Bo 1 Z<|Ag (AZ o)<|AA 1 Z<|A2 ?_;obtain⟨y,h⟩:=AR h;refine Bj (Int×Int×Nat) (fun⟨c,b,n⟩=>[(0,e),(3,No c),(9,e),(10,No (a0.length:Int)),(11,No b)]) (fun⟨c,b,n⟩ wr=>Bk w [] wr/\DR (BK a0) n (c,b)=some r) (fun⟨c,b,n⟩=>n) (0,0,y) Z ⟨hL,h⟩ ?_;rintro⟨c,b,nn42⟩ a7 ⟨s,h⟩;obtain⟨y,bb,rfl,h,z⟩:=AQ h;refine A7 1 Z<|A6<|AL h ?_ ?_<;>intro al h
  ·refine Au<|Aq<|A6<|A2<|Ao<|Ax h fun aa h=>AW o b.toNat (Cx aa) (AM aa) ?_;rintro bc _ ⟨e46v0,rfl,e46h0⟩ am;refine Ag (AT am (hH.trans s.arg))<|AA 1 Z<|Bo 2 Z<|Ag (AZ e46h0)<|Ax h fun an h=>Ag (Ay an)<|AA 1 Z<|A7 2 Z<|AL h ?_ ?_<;>intro ao h
   ·refine An ?_
    cases h
   refine Au<|Az<|Aq<|An<|Ax h fun ap h=>Ag (Ay ap)<|As 1 Z<|AE ?_;have h:=Bw.again h z;refine AD (_,_,_) Z ⟨s,h⟩
  refine Bf<|A5<|A3 ?_;have h:=Bw.out h z;refine AY<|A8 _ ⟨s,h⟩
 rintro j a8 ⟨t,h⟩;refine Bo 1 Z<|A1 h fun a4 aq h=>Br t (Qt _ _ (Av t) (AS.nil _ _) aq) ?_;rintro ah bd ⟨_,rfl,ab⟩ ar ac ai;obtain⟨au,ac,ai,av⟩:=ab.take hH t ar;refine AA 1 Z<|Bb (Qq5×Value×Qq6) (fun⟨q,p,k⟩=>[(6,p)]) (fun⟨q,p,k⟩ wr=>C5 w [.row p 3 1 (q).length k] wr fun Oz=>AK (.int .i64) (gz H w wr Oz) q k/\Kw q=some r) ?_ ?_
 ·refine Bo 1 Z<|Ag (AZ o)<|AA 1 Z<|A2 ?_;obtain⟨ad,h⟩:=AR h;refine Bj (Qq5×Int×Value×Qq6×Nat) (fun⟨f,a,g,d,n⟩=>[(6,g),(25,e),(26,No (a0.length:Int)),(27,No a)]) (fun⟨f,a,g,d,n⟩ wr=>C5 w [.row g 3 1 (f).length d] wr fun Oz=>AK (.int .i64) (gz H w wr Oz) f d/\DR (BJ a0) n (f,a)=some r) (fun⟨f,a,g,d,n⟩=>n) (a4,0,ah,au,ad) Z ⟨ac,av,h⟩ ?_;rintro⟨f,a,g,d,nn92⟩ a9 ⟨u,x,h⟩;obtain⟨ad,be,rfl,h,ae⟩:=AQ h;refine A7 1 Z<|A6<|AL h ?_ ?_<;>intro aw h
  ·refine Au<|Aq<|A6<|A2<|Ao<|Ax h fun af h=>AW o a.toNat (Cx af) (AM af) ?_;rintro bf _ ⟨e96v0,rfl,e96h0⟩ ax;refine Ag (AT ax (hH.trans u.arg))<|AA 1 Z<|An<|As 2 Z<|Ax h fun ay h=>Bp (r:=(.int .i64)) 0 f (a0.getD a.toNat Qq2) Z Aco u Z x (e96h0.mono  Aj) ay fun a5 bg az a1 a6 a2=>As 1 Z<|AE<|Az<|Aq<|An<|Ax h fun aj h=>Ag (Ay aj)<|As 1 Z<|AE ?_;have h:=Bw.again h ae;refine AD (_,_,_,_,_) Z ⟨a1,a2,h⟩
  refine Bf<|A5<|A3 ?_;have h:=Bw.out h ae;refine AY<|A8 (_,_,_) ⟨u,x,h⟩
 rintro⟨q,p,k⟩ ba ⟨ag,ak,h⟩;refine A7 2 Z<|Aw ?_
 cases h
 refine Ah Z ⟨ag.ext,_,Z,(ag.FV hH (i:=0) Z ak)⟩
def PF(a b:Int):Option (Alv×Qq7):=
 some (([],[],[]),(a,b))
def Mm(b:Qq5):Option (Alv×Qq7):=
 Qq9 (FQ b) (fun a=>some ((a.1.1,a.1.2.1,a.1.2.2),(0,0)))
def Hc(a0:Abv)(b:Qq5):Qq5×Int->Option (Al6⊕(Alv×Qq7)):=fun⟨c,a⟩=>
 if a<(b.length:Int)then AU (0<=a/\a<(b.length:Int)) (if b.getD a.toNat Qq2=0 then AU (Go.E.Fz 8 (c.length+([(-1)]).length)) (AU (Bq (a+1)) (some (Sum.inl ((c++[(-1)]),(a+1)))))else AU (Bq (b.getD a.toNat Qq2 - 1)) (AU (0<=(b.getD a.toNat Qq2 - 1)/\(b.getD a.toNat Qq2 - 1)<(a0.length:Int)) (AU (Go.E.Fz 8 (c.length+([((a0.getD ((b.getD a.toNat Qq2 - 1).toNat) Qq2).toNat:Int)]).length)) (AU (Bq (a+1)) (some (Sum.inl ((c++[((a0.getD ((b.getD a.toNat Qq2 - 1).toNat) Qq2).toNat:Int)]),(a+1))))))))else Qzx Sum.inr (Mm c)
def UE(a0:Abv)(a:Qq5)(s:Al6):Option (Alv×Qq7):=Go.L.run (Hc a0 a) s
def Ky(a0:Abv):Option (Alv×Qq7):=
 Qq9 (NB a0) (fun a=>if a.2.1=0/\a.2.2=0 then AU (Bq ((a0.length:Int)+1)) (AU (0<=((a0.length:Int)+1)/\((8:Nat):Int) * ((a0.length:Int)+1)<=281474976710656/\((a0.length:Int)+1)<=9223372036854775807) (Qq9 (GG ([[(a0.length:Int)],a.1])) (fun b=>(UE a0 b) (([]:Qq5),0))))else PF a.2.1 a.2.2)
theorem UF{a0:Abv}{ac:Value}(ad:AS .byte H ac a0){r:Alv×Qq7}(h:Ky a0=some r):
  Qqv 18 [ac] w (fun v w'=>∃u0 u1 u2,v=.tuple #[.agg #[u0,u1,u2],.agg #[No r.2.1,No r.2.2]]/\AS (.int .i64) (un H (nw w w')) u0 (r.1.1)/\AS (.int .i64) (un H (nw w w')) u1 (r.1.2.1)/\AS (.int .i64) (un H (nw w w')) u2 (r.1.2.2)):=by
 refine A4 58 [(0,ac)] func18 Z fun hL=>Ao<|AO GK.e Z hL fun w1 b1 cy de _=>AO AI.e Z cy fun w2 b2 a7 df _=>Ad<|Bo 1 Z<|A1 h fun s cz h=>Br a7 (VJ _ _ (Av a7) (ad.mono  Aj) cz) ?_;rintro _ w4 ⟨dg,rfl,bi⟩ c0 c2 dh;have t:=bi.Cu hH a7 c0;refine As 3 Z<|AO AI.e Z c2 fun w5 b5 c3 cg _=>As 1 Z<|Ak 0 Z c3 Z fun w6 a9 ch=>Ad<|A6<|Ao<|Ag (AJ 0 Z AI.e a9 Z)<|Ag (Ba (fun _=>B8 _))<|Ag (IX I4 (Nc _ _ _ _))<|Ad<|BG h ?_ ?_<;>intro c4 h
 ·refine Bb Qq7 (fun⟨ax,ay⟩=>[(2,(Abo b1)),(3,(Abo b2))]) (fun⟨ax,ay⟩ wr=>Bk w [.box b5 [No s.2.1,No s.2.2] 35,.box b2 [No ax,No ay] 35,.box b1 [Aal,Aal,Aal] 78] wr/\PF ax ay=some r) ?_ ?_
  ·refine KX (PY (Ww OF)) (fun z0 z=>Le (gz H w z0 [.box b5 [No s.2.1,No s.2.2] 35,.box b2 [No 0,No 0] 35,.box b1 [Aal,Aal,Aal] 78]) (hp z)/\z.heap[b5]? = some (.cells [No s.2.1,No s.2.2].toArray 35 (0,0))/\z.heap[b2]? = some (.cells [No 0,No 0].toArray 35 (0,0))) mixed Z (fun ba d4 ci=>?_);have x:=a9.call ci;have ae:=x.rG H;refine OG ⟨ae.trans (Av x),x.at (i:=0) Z,x.at (i:=1) Z⟩ fun kI27=>Bn 0 ba kI27 Z (fun _ _=>Ba (fun _=>AcW _)) Z<|Bn 1 ba kI27 Z (fun _ hI=>Rr hI.2.1) Z<|Fg 2 Z<|Ak 2 Z x Z ?_;intro d5 af bj;have ae:=ae.trans (Ab bj);refine Be ⟨ae.trans (Av af),af.at (i:=0) Z,af.at (i:=1) Z⟩ fun kI29=>Fg 3 Z<|Ak 1 Z af Z fun d6 cj da=>F0<|FW<|A8 (_,_) ⟨cj,h⟩
  rintro⟨ax,ay⟩ dj ⟨au,h⟩;refine Aw<|Am ?_
  cases h
  refine Bv (.cell Z Akt Z GK.e (AP (i:=2) au Z)) (.cell Z Ae3 Z AI.e (AP (i:=1) au Z)) ⟨au.ext,_,_,_,Z,(AS.nil _ _),(AS.nil _ _),(AS.nil _ _)⟩
 refine Au<|Aq<|Bo 1 Z<|Ag (AZ ad)<|Ax h fun ck h=>Ag (Ay ck)<|Ax h fun cl h=>Ah1 (H:=H) (r:=(.int .i64)) Aco BB.e a9 cl fun c5 d7 cm cn bk av=>AA 1 Z<|Bb (Qq5×Value×Qq6) (fun⟨an,ag,u⟩=>[(2,(Abo b1)),(3,(Abo b2)),(6,ag)]) (fun⟨an,ag,u⟩ wr=>C5 w [.row ag 3 1 (an).length u,.box b5 [No s.2.1,No s.2.2] 35,.box b2 [No 0,No 0] 35,.box b1 [Aal,Aal,Aal] 78] wr fun Oz=>AK (.int .i64) (gz H w wr Oz) an u/\Mm an=some r) ?_ ?_
 ·refine Bo 1 Z<|Ag (AZ ad)<|Bx [(a0.length:Int)] (r:=(.int .i64)) (fun _=>FX _ _) cn (.c1 Z .nil) fun d8 d9 dk co az bb=>As 1 Z ?_;have t:=t.mono (Ab (cg.trans (ch.trans (bk.trans az))));refine Bx ([[(a0.length:Int)],s.1]) (r:=(.vec (.int .i64))) (fun _=>Afz _ bb.one _ t.one _) (hlen:=(B4 2)) co (.c1 ⟨_,Z,bb⟩ (.c1 ⟨_,Z,t⟩ .nil)) fun ea eb dl aw bl cp=>A1 h fun y cq h=>Br aw (Pg _ _ (Av aw) cp cq) ?_;rintro a1 ec ⟨_,rfl,bc⟩ cr cs bm;have ao:=bc.Cu hH aw cr;refine Ag (AZ ao)<|AA 1 Z<|A2 ?_;obtain⟨ah,h⟩:=AR h;have av:=av.mono (Ab (az.trans (bl.trans bm)))
  refine Bj (Qq5×Int×Value×Qq6×Nat) (fun⟨c,a,o,f,n⟩=>[(0,ac),(2,(Abo b1)),(3,(Abo b2)),(6,o),(30,a1),(31,No (y.length:Int)),(32,No a)]) (fun⟨c,a,o,f,n⟩ wr=>C5 w [.row o 3 1 (c).length f,.box b5 [No s.2.1,No s.2.2] 35,.box b2 [No 0,No 0] 35,.box b1 [Aal,Aal,Aal] 78] wr fun Oz=>AS (.int .i64) (gz H w wr Oz) a1 y/\AK (.int .i64) (gz H w wr Oz) c f/\DR (Hc a0 y) n (c,a)=some r) (fun⟨c,a,o,f,n⟩=>n) (([]:Qq5),0,c5,cm,ah) Z ⟨cs,ao,av,h⟩ ?_;rintro⟨c,a,o,f,nn113⟩ db ⟨p,b,d,h⟩;obtain⟨ah,dm,rfl,h,ai⟩:=AQ h;refine A7 1 Z<|A6<|AL h ?_ ?_<;>intro bn h
  ·refine Au<|Aq<|A6<|A2<|Ao<|Ax h fun a2 h=>AW b a.toNat (Cx a2) (AM a2) ?_;rintro dn _ rfl bo;refine Ag (AT bo (Av p))<|AA 1 Z<|A7 2 Z<|AL h ?_ ?_<;>intro bp h
   ·refine An<|As 1 Z<|Bx [(-1)] (r:=(.int .i64)) (fun _=>FX _ _) p (.c1 Z .nil) fun dp dq dc bq ap br=>Ax h fun bs h=>?_;have d:=d.mono (Ab ap);refine Bp (r:=(.int .i64)) 0 c [(-1)] Z Aco bq Z d br bs fun ct dr bt bu bd bv=>As 1 Z<|AE<|Az<|Aq<|An<|Ax h fun bw h=>Ag (Ay bw)<|As 1 Z<|AE ?_;have h:=Bw.again h ai;have b:=b.mono (Ab (ap.trans bd));refine AD (_,_,_,_,_) Z ⟨bu,b,bv,h⟩
   refine An<|As 3 Z<|Ax h fun bx h=>Ag (Ay bx)<|Ax h fun a3 h=>AW ad ((y.getD a.toNat Qq2 - 1).toNat) (Cx a3) (AM a3) ?_;rintro ds _ rfl bz;refine Ag (AT bz (hH.trans p.arg))<|Ag (Gn (Hz _))<|Bx [((a0.getD ((y.getD a.toNat Qq2 - 1).toNat) Qq2).toNat:Int)] (r:=(.int .i64)) (fun _=>FX _ _) p (.c1 Z .nil) fun dt du dd b0 aq b3=>Ax h fun b4 h=>?_;have d:=d.mono (Ab aq);refine Bp (r:=(.int .i64)) 0 c [((a0.getD ((y.getD a.toNat Qq2 - 1).toNat) Qq2).toNat:Int)] Z Aco b0 Z d b3 b4 fun cu dv b6 b7 be b8=>As 1 Z<|AE<|Az<|Aq<|An<|Ax h fun b9 h=>Ag (Ay b9)<|As 1 Z<|AE ?_;have h:=Bw.again h ai;have b:=b.mono (Ab (aq.trans be))
   refine AD (_,_,_,_,_) Z ⟨b7,b,b8,h⟩
  refine Bf<|A5<|A3 ?_;have h:=Bw.out h ai;refine AY<|A8 (_,_,_) ⟨p,d,h⟩
 rintro⟨an,ag,u⟩ dw ⟨bf,ca,h⟩;refine Bo 1 Z ?_;have cb:=bf.Cu hH (i:=0) Z ca;have q:=bf.Bl (i:=0) Z;refine A1 h fun dx cc h=>Br q (Qs _ _ (Av q) cb cc) ?_;rintro _ dy ⟨c6,c7,c8,rfl,a4,a5,a6⟩ aj cd c9;have g:=a4.mono (Kk hH q aj);have j:=a5.Cu hH q aj;have k:=a6.Cu hH q aj;refine As 3 Z<|AO GK.e Z cd fun dz d0 ce aa _=>Ak 0 Z ce Z (a:=(CB g.one (CB j.one (CB k.one Ps)))) fun d1 ak ab=>AA 1 Z ?_;have e:=ak.rG H;refine Ao<|Ag (AJ 0 Z GK.e ak Z)<|Ag (Ba (fun _=>B8 _)) ?_;have g:=g.mono (Ab (aa.trans ab));have j:=j.mono (Ab (aa.trans ab));have k:=k.mono (Ab (aa.trans ab));refine Ak 3 Z ak Z (a:=(CB (g.mono e).one (CB (j.mono e).one (CB (k.mono e).one Ps)))) fun d2 cf bg=>Ak 2 Z cf Z fun d3 al bh=>Ad<|Aw ?_
 cases h
 refine Bv (.cell Z Akt Z GK.e (AP (i:=3) al Z)) (.cell Z Ae3 Z AI.e (AP (i:=2) al Z)) ?_;have e:=e.trans (Ab (bg.trans bh));exact⟨al.ext,_,_,_,Z,((g.mono e).mono (OV hH)),((j.mono e).mono (OV hH)),((k.mono e).mono (OV hH))⟩
def OO(a0:Abv)(a1:Int)(a2:Abv):Option Bool:=
 AU (Bq (a1+(a2.length:Int))) (if(a1+(a2.length:Int))<=(a0.length:Int)then AU (Bq (a1+(a2.length:Int))) (AU (0<=a1/\a1<=(a1+(a2.length:Int))/\(a1+(a2.length:Int))<=(a0.length:Int)) (Qq9 (Ru ((a0.drop a1.toNat).take ((a1+(a2.length:Int)).toNat - a1.toNat)) a2) (fun a=>some a)))else some false)
theorem WZ{a0:Abv}{a1:Int}{a2:Abv}{b c:Value}(e:AS .byte H b a0)(d:AS .byte H c a2){r:Bool}(h:OO a0 a1 a2=some r):
  Qqv 61 [b,No a1,c] w (fun v w'=>v=.bool r):=by
 refine A4 25 [(0,b),(1,No a1),(2,c)] func61 Z fun hL=>A7 1 Z<|Bo 2 Z<|Ag (AZ d)<|Ax h fun f h=>Ag (Ay f)<|As 1 Z<|Ag (AZ e)<|As 2 Z<|Bz 14 h ?_ ?_<;>intro a h
 ·refine Aa a<|Ag (Ai Z)<|Aa a<|Ag (Ai Z)<|Aa a<|Ag (Ai Z)<|Aa a<|Ag (Ai Z)<|Aa a<|Ag (AZ d)<|Aa a<|Ax h fun g h=>Ag (Ay g)<|Aa a<|Ax h fun i h=>Wu e i fun p j=>Aa a<|Ag (Ai Z)<|Aa a<|A1 h fun q k h=>A9 hL (TF _ _ (Av hL) (j.mono  Aj) (d.mono  Aj) k) fun s o l m=>Ag (AF a Z)<|AA 1 Z<|Aw ?_
  cases h
  refine Ah Z ⟨l.ext,Z⟩
 iterate 9 refine Ar a ?_
 refine Ag (AG a Z)<|AA 1 Z<|Aw ?_
 cases h
 refine Ah Z ⟨hL.ext,Z⟩
def RN(a:Qq5):Option (Qq5):=
 some a
def I8(a0:Abv)(a1:Abv):Qq5×Int->Option (Al6⊕(Qq5)):=fun⟨b,a⟩=>
 if a<(a0.length:Int)then Qq9 (OO a0 a a1) (fun c=>if c then AU (Go.E.Fz 8 (b.length+([a]).length)) (AU (Bq (a+1)) (some (Sum.inl ((b++[a]),(a+1)))))else AU (Bq (a+1)) (some (Sum.inl (b,(a+1)))))else Qzx Sum.inr (RN b)
def Xa(a0:Abv)(a1:Abv)(s:Al6):Option (Qq5):=Go.L.run (I8 a0 a1) s
def RO(a0:Abv)(a1:Abv):Option (Qq5):=
 (Xa a0 a1) (([]:Qq5),0)
theorem Xb{a0 a1:Abv}{g j:Value}(u:AS .byte H g a0)(ab:AS .byte H j a1){r:Qq5}(h:RO a0 a1=some r):
  Qqv 29 [g,j] w (fun v w'=>∃u0,v=u0/\Cd 3 (.int .i64) H w w' u0 r):=by
 refine A4 22 [(0,g),(1,j)] func29 Z fun hL=>A7 1 Z<|Bo 1 Z ?_;obtain⟨ao,au,ap⟩:=Cp (.int .i64) H 3 hL;refine Ad<|Bb (Qq5×Value×Qq6) (fun⟨o,k,f⟩=>[(5,k)]) (fun⟨o,k,f⟩ wr=>C5 w [.row k 3 1 (o).length f] wr fun Oz=>AK (.int .i64) (gz H w wr Oz) o f/\RN o=some r) ?_ ?_
 ·refine A7 1 Z<|A2 ?_;obtain⟨s,h⟩:=AR h;refine Bj (Qq5×Int×Value×Qq6×Nat) (fun⟨d,a,e,b,n⟩=>[(0,g),(1,j),(5,e),(6,No a)]) (fun⟨d,a,e,b,n⟩ wr=>C5 w [.row e 3 1 (d).length b] wr fun Oz=>AK (.int .i64) (gz H w wr Oz) d b/\DR (I8 a0 a1) n (d,a)=some r) (fun⟨d,a,e,b,n⟩=>n) (([]:Qq5),0,Aal,[],s) Z ⟨ao,ap,h⟩ ?_;rintro⟨d,a,e,b,nn52⟩ av ⟨p,c,h⟩;obtain⟨s,az,rfl,h,q⟩:=AQ h;refine A6<|Bo 2 Z<|Ag (AZ u)<|AA 1 Z<|AL h ?_ ?_<;>intro ac h
  ·refine Au<|Aq<|A6<|A2<|Bo 3 Z<|A1 h fun a2 ad h=>A9 p (WZ _ _ (Av p) (u.mono  Aj) (ab.mono  Aj) ad) fun a3 aw x t=>Ad<|Bi h ?_ ?_<;>intro ae h
   ·refine An<|As 2 Z<|Bx [a] (r:=(.int .i64)) (fun _=>FX _ _) x (.c1 Z .nil) fun a4 a5 ax af z ag=>Ax h fun ah h=>?_;have c:=c.mono (Ab (t.trans z));refine Bp (r:=(.int .i64)) 0 d [a] Z Aco af Z c ag ah fun aq a6 ai aj ar ak=>As 1 Z<|AE<|Az<|Aq<|An<|As 1 Z<|Ax h fun al h=>Ag (Ay al)<|As 1 Z<|AE ?_;have h:=Bw.again h q;refine AD (_,_,_,_,_) Z ⟨aj,ak,h⟩
   refine Au<|Az<|Aq<|An<|As 1 Z<|Ax h fun am h=>Ag (Ay am)<|As 1 Z<|AE ?_;have h:=Bw.again h q;have c:=c.mono (Ab t);refine AD (_,_,_,_,_) Z ⟨x,c,h⟩
  refine Bf<|A5<|A3 ?_;have h:=Bw.out h q;refine AY<|A8 (_,_,_) ⟨p,c,h⟩
 rintro⟨o,k,f⟩ ay ⟨y,aa,h⟩;refine A7 2 Z<|Aw ?_
 cases h
 refine Ah Z ⟨y.ext,_,Z,(y.FV hH (i:=0) Z aa)⟩
end
end Go.Proofs.YtopocbcekabkoaaGreatDoor
end
noncomputable section
namespace Go
abbrev AlB:=Go.E.Rp.pair (Go.E.Rp.vec (Go.E.Rp.int .i64)) (Go.E.Rp.pair (Go.E.Rp.vec (Go.E.Rp.int .i64)) (Go.E.Rp.vec (Go.E.Rp.int .i64)))
end Go
namespace Go
abbrev Alq:=(Int×Al1)×(Int×Alz)×(List Alv)
end Go
namespace Go.Proofs.YtopocbcekabkoaaGreatDoor
open Go Go.E Go.RowKit Go.L
set_option maxHeartbeats 1000000
set_option maxRecDepth 10000
open _root_.Go.Proofs.Tryz
def KF(a:Int)(b:List Alv)(c:List Pv)(d:List Abv):Option (((List Pv)×(List Abv)×(List Alv)×Int)⊕(Alq×Qq7)):=
 AU (Bq (a+1)) (some (Sum.inl (c,d,b,(a+1))))
def DM(h:List Alv)(b c d:Int)(e:Al1)(f:Int)(g:Alz):Option (Alq×Qq7):=
 if b=0/\c=0 then some (((d,e),(f,g),h),(0,0))else Qq9 (DL (14:Int) (-1:Int)) (fun a=>some (((0,[]),(0,[]),[]),(a.1,a.2)))
def DN(d:List Pv)(e:List Abv)(c:List Alv):Option (Alq×Qq7):=
 Qq9 (J6 e) (fun a=>if a.2.1=0/\a.2.2=0 then Qq9 (Lu d) (fun b=>(DM c) b.2.1 b.2.2 a.1.1 a.1.2 b.1.1 b.1.2)else(DM c) a.2.1 a.2.2 a.1.1 a.1.2 (0:Int) ([]))
def Cn(a0:List (Abv×Pv)):(List Pv)×(List Abv)×(List Alv)×Int->Option (((List Pv)×(List Abv)×(List Alv)×Int)⊕(Alq×Qq7)):=fun⟨c,d,e,a⟩=>
 if a<(a0.length:Int)then AU (0<=a/\a<(a0.length:Int)) (Qq9 (Ky ((a0.getD a.toNat Qq2).1)) (fun b=>if b.2.1=0/\b.2.2=0 then Qq9 (CG ((a0.getD a.toNat Qq2).2)) (fun f=>if f.1=0/\f.2=0 then AU (Go.E.Fz 72 (e.length+([(b.1.1,b.1.2.1,b.1.2.2)]).length)) (AU (Go.E.Fz 24 (d.length+([(a0.getD a.toNat Qq2).1]).length)) (AU (Go.E.Fz 88 (c.length+([((a0.getD a.toNat Qq2).2)]).length)) ((KF a) (e++[(b.1.1,b.1.2.1,b.1.2.2)]) (c++[((a0.getD a.toNat Qq2).2)]) (d++[(a0.getD a.toNat Qq2).1]))))else Qq9 (DL f.1 a) (fun g=>Qzx Sum.inr (some (((0,[]),(0,[]),[]),(g.1,g.2)))))else Qq9 (DL b.2.1 a) (fun h=>Qzx Sum.inr (some (((0,[]),(0,[]),[]),(h.1,h.2))))))else Qzx Sum.inr (DN c d e)
def KG(a0:List (Abv×Pv))(s:(List Pv)×(List Abv)×(List Alv)×Int):Option (Alq×Qq7):=Go.L.run (Cn a0) s
def Hd(a0:List (Abv×Pv)):Option (Alq×Qq7):=
 if 64<(a0.length:Int)then Qq9 (DL (2:Int) (-1:Int)) (fun a=>some (((0,[]),(0,[]),[]),(a.1,a.2)))else(KG a0) (([]:List Pv),([]:List Abv),([]:List Alv),0)
section
variable(w:World)(H:PH)(hH:Le H (hp w)) include hH
theorem QL(hU:HG H){a0:List (Abv×Pv)}{e3:Value}(iv:AS (.pair (.vec .byte) .tree) H e3 a0){r:Alq×Qq7}(h:Hd a0=some r):
  Qqv 5 [e3] w (fun v w'=>∃u0 u1 u2,v=.tuple #[.agg #[No r.1.1.1,u0,No r.1.2.1.1,u1,u2],.agg #[No r.2.1,No r.2.2]]/\AS (.pair .st (.vec AlA)) (un H (nw w w')) u0 (r.1.1.2)/\AS Al9 (un H (nw w w')) u1 (r.1.2.1.2)/\Cd 78 AlB H w w' u2 (r.1.2.2)):=by
 refine A4 89 [(0,e3)] func5 Z fun hL=>Ao<|AO Me.e Z hL fun w1 b1 oc p3 _=>AO AI.e Z oc fun w2 b2 ji p4 _=>Ad<|A6<|Bo 1 Z<|Ag (AZ iv)<|AA 1 Z<|AL h ?_ ?_<;>intro od h
 ·refine Ao<|Ag (Ba (fun _=>VS _))<|A1 h fun x5 oe h=>A9 ji (EA _ _ (Av ji) oe) fun w6 tw og p5=>Ak 1 Z og Z fun w7 oh p6=>Ak 0 Z oh Z fun w8 jj p7=>Ad<|Aw<|Am ?_
  cases h
  refine Bv (.cell Z AkU Z Me.e (AP (i:=1) jj Z)) (.cell Z Ae3 Z AI.e (AP (i:=0) jj Z)) ⟨jj.ext,_,_,_,Z,(AS.nil _ _),(AS.nil _ _),Cd.nil⟩
 refine Au<|Aq<|Ao<|AO Me.e Z ji fun tx ch mv os _=>Ad<|Bo 1 Z ?_;obtain⟨mw,ot,iw⟩:=Cp (.vec .byte) H 27 mv;refine Ad<|Bo 1 Z ?_;obtain⟨mx,kf,ix⟩:=Cp .tree H 51 mw;refine Ad<|Bb ((List Pv)×(List Abv)×(List Alv)×Value×Qq6×Value×Qq6×Value×Qq6) (fun⟨e4,e5,a8,ep,ci,eq,cj,bg,a3⟩=>[(2,(Abo b1)),(3,(Abo b2)),(4,(Abo ch)),(5,eq),(6,ep)]) (fun⟨e4,e5,a8,ep,ci,eq,cj,bg,a3⟩ wr=>C5 w [.row bg 78 3 (a8).length a3,.row ep 51 5 (e4).length ci,.row eq 27 1 (e5).length cj,.box ch [No 0,Aal,No 0,Aal,bg] 46,.box b2 [No 0,No 0] 35,.box b1 [No 0,Aal,No 0,Aal,Aal] 46] wr fun Oz=>AK AlB (gz H w wr Oz) a8 a3/\AK .tree (gz H w wr Oz) e4 ci/\AK (.vec .byte) (gz H w wr Oz) e5 cj/\DN e4 e5 a8=some r) ?_ ?_
 ·refine Bo 1 Z<|Ag (AZ iv)<|AA 1 Z<|A2 ?_;obtain⟨kg,ij,kh⟩:=Cp AlB H 78 mx;obtain⟨iy,h⟩:=AR h;have iw:=iw.mono (Ab (kf.trans ij));have ix:=ix.mono (Ab ij)
  refine Bj ((List Pv)×(List Abv)×(List Alv)×Int×Value×Qq6×Value×Qq6×Value×Qq6×Nat) (fun⟨x,y,aa,b,a4,av,a5,aw,ap,ax,n⟩=>[(2,(Abo b1)),(3,(Abo b2)),(4,(Abo ch)),(5,a5),(6,a4),(18,e3),(19,No (a0.length:Int)),(20,No b)]) (fun⟨x,y,aa,b,a4,av,a5,aw,ap,ax,n⟩ wr=>C5 w [.row ap 78 3 (aa).length ax,.row a4 51 5 (x).length av,.row a5 27 1 (y).length aw,.box ch [No 0,Aal,No 0,Aal,ap] 46,.box b2 [No 0,No 0] 35,.box b1 [No 0,Aal,No 0,Aal,Aal] 46] wr fun Oz=>AK AlB (gz H w wr Oz) aa ax/\AK .tree (gz H w wr Oz) x av/\AK (.vec .byte) (gz H w wr Oz) y aw/\DR (Cn a0) n (x,y,aa,b)=some r) (fun⟨x,y,aa,b,a4,av,a5,aw,ap,ax,n⟩=>n) (([]:List Pv),([]:List Abv),([]:List Alv),0,Aal,[],Aal,[],Aal,[],iy) Z ⟨kg,kh,ix,iw,h⟩ ?_
  rintro⟨x,y,aa,b,a4,av,a5,aw,ap,ax,nn640⟩ ou ⟨er,ai,ae,af,h⟩;obtain⟨iy,my,rfl,h,es⟩:=AQ h;have e:=er.rG H;refine A7 1 Z<|A6<|AL h ?_ ?_<;>intro ki h
  ·refine Au<|Aq<|A6<|A2<|Bo 1 Z<|Ax h fun i4 h=>AW iv b.toNat (Cx i4) (AM i4) ?_;rintro p8 _ ⟨_,_,rfl,⟨e646v0,rfl,e646h0⟩,e646t1⟩ kj;obtain⟨_,_,rfl,rfl,⟨_,_,rfl,rfl,⟨_,_,rfl,⟨e646v3,rfl,e646h3⟩,⟨_,_,rfl,⟨e646v4,rfl,e646h4⟩,⟨e646v5,rfl,e646h5⟩⟩⟩⟩⟩:=Go.E.Rp.Mb e646t1;refine Ag (BI kj (hH.trans er.arg))<|AO Aar.e Z er fun p9 iz kk aj _=>As 1 Z<|Ak 0 Z kk Z (a:=(CB e646h0.one (CB Z (CB Z (CB e646h3.one (CB e646h4.one (CB e646h5.one Ps))))))) fun qa bh ak=>Ad<|Ao<|Ag (Ae Z AkY Z Fy.e)<|Ag (Af 0 Z bh Z)<|A1 h fun d kl h=>Br bh (UF _ _ (Av bh) (e646h0.mono  Aj) kl) ?_;rintro _ qb ⟨ck,cl,cm,rfl,jb,jc,jd⟩ gy km al;have g:=jb.mono (Kk hH bh gy);have k:=jc.mono (Kk hH bh gy);have o:=jd.mono (Kk hH bh gy);refine As 3 Z<|AO GK.e Z km fun qc i0 kn p _=>AO AI.e Z kn ?_;intro qd jk ko q _
   refine Ak 1 Z ko Z (a:=(CB g.one (CB k.one (CB o.one Ps)))) fun qe kp t=>Ak 0 Z kp Z fun qf a1 u=>Ad<|A6 ?_;have c:=a1.rG H;refine Ao<|Ag (AJ 0 Z AI.e a1 Z)<|Ag (Ba (fun _=>B8 _))<|Ag (IX I4 (Nc _ _ _ _))<|Ad<|BG h ?_ ?_<;>intro kq h
   ·refine Ao<|Ag (Ba (fun _=>VS _))<|Ag (Ae Z Ae3 Z BB.e)<|Ag (Af 0 Z a1 Z)<|As 1 Z<|A1 h fun qg kr h=>A9 a1 (EA _ _ (Av a1) kr) fun qh ov ks oi=>Ak 8 Z ks Z fun qi kt oj=>Ak 7 Z kt Z fun qj g0 ok=>Ad<|Aw<|Am<|Al<|Am<|Bc ?_;have h:=Bw.out h es;refine Al<|AN ?_
    cases h
    refine Bv (.cell Z AkU Z Me.e (AP (i:=8) g0 Z)) (.cell Z Ae3 Z AI.e (AP (i:=7) g0 Z)) ⟨g0.ext,_,_,_,Z,(AS.nil _ _),(AS.nil _ _),Cd.nil⟩
   refine Au<|Aq<|A6<|Ao<|Ag (Ae Z AkY Z EK.e)<|Ag (GS 2 5 Z EK.e a1 Z Z)<|A1 h fun g1 ku h=>A9 a1 (OK (a0:=((a0.getD b.toNat Qq2).2)) _ _ (Av a1) (e646h3.mono  Aj) (e646h4.mono  Aj) (e646h5.mono  Aj) ku) fun qk ow kv a9=>AO AI.e Z kv fun ql jl kw ba _=>Ak 0 Z kw Z fun qm bi bb=>Ad<|Ao<|Ag (AJ 0 Z AI.e bi Z)<|Ag (Ba (fun _=>B8 _))<|Ag (IX I4 (Nc _ _ _ _))<|Ad<|BG h ?_ ?_<;>intro kx h
   ·refine Ao<|Ag (Ba (fun _=>VS _))<|Ag (Ae Z Ae3 Z BB.e)<|Ag (Af 0 Z bi Z)<|As 1 Z<|A1 h fun qn ky h=>A9 bi (EA _ _ (Av bi) ky) fun qo ox kz ol=>Ak 9 Z kz Z fun qp k0 om=>Ak 8 Z k0 Z fun qq g2 oo=>Ad<|Aw<|Am<|Al<|Am<|Bc ?_;have h:=Bw.out h es;refine Al<|AN ?_
    cases h
    refine Bv (.cell Z AkU Z Me.e (AP (i:=9) g2 Z)) (.cell Z Ae3 Z AI.e (AP (i:=8) g2 Z)) ⟨g2.ext,_,_,_,Z,(AS.nil _ _),(AS.nil _ _),Cd.nil⟩
   refine Au<|Aq ?_
   refine AjM (σ:=(List Alv)×(List Pv)×(List Abv)×Value×Qq6×Value×Qq6×Value×Qq6) (fun⟨ek,el,em,cn,bc,co,bd,cp,be⟩=>[(2,(Abo b1)),(3,(Abo b2)),(4,(Abo ch)),(5,cp),(6,co),(18,e3),(19,No (a0.length:Int)),(20,No b)]) (fun⟨ek,el,em,cn,bc,co,bd,cp,be⟩ wr=>C5 w [.box jl [No g1.1,No g1.2] 35,.box jk [No d.2.1,No d.2.2] 35,.box i0 [ck,cl,cm] 78,.box iz [e646v0,No (((a0.getD b.toNat Qq2).2).f.1),No (((a0.getD b.toNat Qq2).2).f.2.1),e646v3,e646v4,e646v5] 53,.row cn 78 3 (ek).length bc,.row co 51 5 (el).length bd,.row cp 27 1 (em).length be,.box ch [No 0,Aal,No 0,Aal,cn] 46,.box b2 [No 0,No 0] 35,.box b1 [No 0,Aal,No 0,Aal,Aal] 46] wr fun Oz=>AS (.int .i64) (gz H w wr Oz) ck (d.1.1)/\AS (.int .i64) (gz H w wr Oz) cl (d.1.2.1)/\AS (.int .i64) (gz H w wr Oz) cm (d.1.2.2)/\AK AlB (gz H w wr Oz) ek bc/\AK .tree (gz H w wr Oz) el bd/\AK (.vec .byte) (gz H w wr Oz) em be/\(KF b) ek el em=some my) ?_ ?_
   ·refine KX (PY (I3 (Ww (T1 (I3 (PY OF)))))) (fun z0 z=>Le (gz H w z0 [.box jl [No g1.1,No g1.2] 35,.box jk [No d.2.1,No d.2.2] 35,.box i0 [ck,cl,cm] 78,.box iz [e646v0,No (((a0.getD b.toNat Qq2).2).f.1),No (((a0.getD b.toNat Qq2).2).f.2.1),e646v3,e646v4,e646v5] 53,.row ap 78 3 (aa).length ax,.row a4 51 5 (x).length av,.row a5 27 1 (y).length aw,.box ch [No 0,Aal,No 0,Aal,ap] 46,.box b2 [No 0,No 0] 35,.box b1 [No 0,Aal,No 0,Aal,Aal] 46]) (hp z)/\z.heap[i0]? = some (.cells [ck,cl,cm].toArray 78 (0,0))/\z.heap[iz]? = some (.cells [e646v0,No (((a0.getD b.toNat Qq2).2).f.1),No (((a0.getD b.toNat Qq2).2).f.2.1),e646v3,e646v4,e646v5].toArray 53 (0,0))/\z.heap[ch]? = some (.cells [No 0,Aal,No 0,Aal,ap].toArray 46 (0,0))) mixed Z (fun ad qs i5=>?_);have a2:=bi.call i5;have bf:=AH bi i5;have a:=a2.rG H;refine OG ⟨a.trans (Av a2),a2.at (i:=2) Z,a2.at (i:=3) Z,a2.at (i:=7) Z⟩ fun kI840=>?_
    refine Bn 0 ad kI840 Z (fun _ _=>Ae Z AkU Z Ll.e) Z<|Bn 1 ad kI840 Z (fun _ hI=>Km Z hI.2.2.2 Z) Z<|Bn 2 ad kI840 Z (fun _ hI=>Rr hI.2.1) Z<|Bn 5 ad kI840 Z (fun _ _=>Ai Z) Z<|Bn 6 ad kI840 Z (fun _ _=>Ae Z AkY Z Fy.e) Z<|Bn 7 ad kI840 Z (fun _ hI=>Km Z hI.2.2.1 Z) Z<|Bn 10 ad kI840 Z (fun _ _=>Ai Z) Z<|Bn 11 ad kI840 Z (fun _ _=>Ae Z AkY Z EK.e) Z<|Bn 12 ad kI840 Z (fun _ hI=>Af3 5 Z EK.e hI.2.2.1 Z) Z<|NI3 (i:=3) (j:=8) (s:=13) Z Qqb Z Z ?_ ?_ ?_
    ·have g:=g.mono (Ab (p.trans (q.trans (t.trans u))));have k:=k.mono (Ab (p.trans (q.trans (t.trans u))));have o:=o.mono (Ab (p.trans (q.trans (t.trans u))));have c:=c.trans (Ab (a9.trans (ba.trans (bb.trans bf))));refine Bx [(d.1.1,d.1.2.1,d.1.2.2)] (r:=AlB) (fun _=>TA _ _ _ _) a2 (.c3 ⟨_,_,Z,⟨_,Z,((g.mono c).mono a)⟩,⟨_,_,Z,⟨_,Z,((k.mono c).mono a)⟩,⟨_,Z,((o.mono c).mono a)⟩⟩⟩ .nil) ?_;intro qt qu oy a6 jm am;have a:=a.trans (Ab jm);refine Be ⟨a.trans (Av a6),a6.at (i:=2) Z,a6.at (i:=3) Z,a6.at (i:=7) Z⟩ fun kI842=>NI3 (i:=4) (j:=8) (s:=13) Z Qqb Z Z ?_ ?_ ?_
     ·refine Ax h fun ah h=>?_;have e:=e.trans (Ab (aj.trans (ak.trans (al.trans (p.trans (q.trans (t.trans u)))))));refine Bp (r:=AlB) 4 aa [(d.1.1,d.1.2.1,d.1.2.2)] Z Ale a6 Z (((ai.mono e).mono c).mono a) am ah ?_;intro i1 qv g3 bj jn aq;have a:=a.trans (Ab jn);refine Be ⟨a.trans (Av bj),bj.at (i:=2) Z,bj.at (i:=3) Z,bj.at (i:=7) Z⟩ fun kI845=>Bn 15 ad kI845 Z (fun _ _=>Ae Z AkU Z Ll.e) Z<|NI2 8 13 Z Z ?_ ?_
      ·refine Bx [(a0.getD b.toNat Qq2).1] (r:=(.vec .byte)) (fun _=>Mx _ e646h0.one _) bj (.c1 ⟨_,Z,(e646h0.mono  Aj)⟩ .nil) ?_;intro qw qx oz bk e6 et;have a:=a.trans (Ab e6);refine Be ⟨a.trans (Av bk),bk.at (i:=2) Z,bk.at (i:=3) Z,bk.at (i:=7) Z⟩ fun kI847=>NI2 9 13 Z Z ?_ ?_
       ·refine Ax h fun ab h=>Bp (r:=(.vec .byte)) 6 y [(a0.getD b.toNat Qq2).1] Z Aii bk Z (((af.mono e).mono c).mono a) et ab ?_;intro mz qy k1 cq ik g4;have a:=a.trans (Ab ik);refine Be ⟨a.trans (Av cq),cq.at (i:=2) Z,cq.at (i:=3) Z,cq.at (i:=7) Z⟩ fun kI850=>Fg 13 Z<|Bx [((a0.getD b.toNat Qq2).2)] (r:=.tree) (fun _=>K9 _ _ _ _ _ _) cq (.c5 (Go.E.Rp.Eu ⟨_,_,Z,Z,⟨_,_,Z,Z,⟨_,_,Z,⟨_,Z,(e646h3.mono  Aj)⟩,⟨_,_,Z,⟨_,Z,(e646h4.mono  Aj)⟩,⟨_,Z,(e646h5.mono  Aj)⟩⟩⟩⟩⟩) .nil) ?_;intro qz q0 o0 cr e7 k2;have a:=a.trans (Ab e7);refine Be ⟨a.trans (Av cr),cr.at (i:=2) Z,cr.at (i:=3) Z,cr.at (i:=7) Z⟩ fun kI852=>Fg 14 Z<|Ax h fun ac h=>Bp (r:=.tree) 5 x [((a0.getD b.toNat Qq2).2)] Z Ahf cr Z (((ae.mono e).mono c).mono a) k2 ac ?_;intro m0 q1 k3 bl e8 g5;have a:=a.trans (Ab e8)
        refine Be ⟨a.trans (Av bl),bl.at (i:=2) Z,bl.at (i:=3) Z,bl.at (i:=7) Z⟩ fun kI855=>Fg 16 Z<|BE 7 Z (row_one (bl.at (i:=4) Z)) bl Z Z fun q2 k4 cs=>CK [0,1,2,3,4,5,6,7,8,9,10,11,12,13,14,15]<|Fg 17 Z<|As 1 Z<|CK [0,1,2,3,4,5,6,7,8,9,10,11,12,13,14,15,16]<|Fg 18 Z<|As 1 Z<|F0<|FW ?_;have aq:=aq.mono (Ab (e6.trans (ik.trans (e7.trans (e8.trans cs)))));have g4:=g4.mono (Ab (e7.trans (e8.trans cs)));have g5:=g5.mono (Ab cs);have a:=a.trans (Ab cs);refine A8 ((aa++[(d.1.1,d.1.2.1,d.1.2.2)]),(x++[((a0.getD b.toNat Qq2).2)]),(y++[(a0.getD b.toNat Qq2).1]),i1,g3,m0,k3,mz,k1) ⟨k4,((g.mono c).mono a),((k.mono c).mono a),((o.mono c).mono a),aq,g5,g4,h⟩
       refine Ax h fun ab h=>Ax h fun ac h=>Bx [((a0.getD b.toNat Qq2).2)] (r:=.tree) (fun _=>K9 _ _ _ _ _ _) bk (.c5 (Go.E.Rp.Eu ⟨_,_,Z,Z,⟨_,_,Z,Z,⟨_,_,Z,⟨_,Z,(e646h3.mono  Aj)⟩,⟨_,_,Z,⟨_,Z,(e646h4.mono  Aj)⟩,⟨_,Z,(e646h5.mono  Aj)⟩⟩⟩⟩⟩) .nil) ?_;intro q3 q4 o1 ct e9 g6;have a:=a.trans (Ab e9);refine Be ⟨a.trans (Av ct),ct.at (i:=2) Z,ct.at (i:=3) Z,ct.at (i:=7) Z⟩ fun kI858=>Fg 9 Z ?_;have et:=et.mono (Ab e9);refine Bp (r:=(.vec .byte)) 6 y [(a0.getD b.toNat Qq2).1] Z Aii ct Z (((af.mono e).mono c).mono a) et ab ?_;intro m1 q5 k5 cu fa g7;have a:=a.trans (Ab fa);refine Be ⟨a.trans (Av cu),cu.at (i:=2) Z,cu.at (i:=3) Z,cu.at (i:=7) Z⟩ fun kI860=>Fg 14 Z ?_;have g6:=g6.mono (Ab fa);refine Bp (r:=.tree) 5 x [((a0.getD b.toNat Qq2).2)] Z Ahf cu Z (((ae.mono e).mono c).mono a) g6 ac ?_
       intro m2 q6 k6 bm fb g8;have a:=a.trans (Ab fb);refine Be ⟨a.trans (Av bm),bm.at (i:=2) Z,bm.at (i:=3) Z,bm.at (i:=7) Z⟩ fun kI862=>Fg 16 Z<|BE 7 Z (row_one (bm.at (i:=4) Z)) bm Z Z fun q7 k7 cv=>CK [0,1,2,3,4,5,6,7,8,9,10,11,12,13,14,15]<|Fg 17 Z<|As 1 Z<|CK [0,1,2,3,4,5,6,7,8,9,10,11,12,13,14,15,16]<|Fg 18 Z<|As 1 Z<|F0<|FW ?_;have aq:=aq.mono (Ab (e6.trans (e9.trans (fa.trans (fb.trans cv)))));have g7:=g7.mono (Ab (fb.trans cv));have g8:=g8.mono (Ab cv);have a:=a.trans (Ab cv);refine A8 ((aa++[(d.1.1,d.1.2.1,d.1.2.2)]),(x++[((a0.getD b.toNat Qq2).2)]),(y++[(a0.getD b.toNat Qq2).1]),i1,g3,m2,k6,m1,k5) ⟨k7,((g.mono c).mono a),((k.mono c).mono a),((o.mono c).mono a),aq,g8,g7,h⟩
      refine Ax h fun ab h=>Ax h fun ac h=>Bx [((a0.getD b.toNat Qq2).2)] (r:=.tree) (fun _=>K9 _ _ _ _ _ _) bj (.c5 (Go.E.Rp.Eu ⟨_,_,Z,Z,⟨_,_,Z,Z,⟨_,_,Z,⟨_,Z,(e646h3.mono  Aj)⟩,⟨_,_,Z,⟨_,Z,(e646h4.mono  Aj)⟩,⟨_,Z,(e646h5.mono  Aj)⟩⟩⟩⟩⟩) .nil) ?_;intro q8 q9 o2 cw il g9;have a:=a.trans (Ab il);refine Be ⟨a.trans (Av cw),cw.at (i:=2) Z,cw.at (i:=3) Z,cw.at (i:=7) Z⟩ fun kI865=>Fg 8 Z<|Bx [(a0.getD b.toNat Qq2).1] (r:=(.vec .byte)) (fun _=>Mx _ e646h0.one _) cw (.c1 ⟨_,Z,(e646h0.mono  Aj)⟩ .nil) ?_;intro ra rb o3 cx fc k8;have a:=a.trans (Ab fc);refine Be ⟨a.trans (Av cx),cx.at (i:=2) Z,cx.at (i:=3) Z,cx.at (i:=7) Z⟩ fun kI867=>Fg 9 Z<|Bp (r:=(.vec .byte)) 6 y [(a0.getD b.toNat Qq2).1] Z Aii cx Z (((af.mono e).mono c).mono a) k8 ab ?_;intro m3 rc k9 cy fd ha;have a:=a.trans (Ab fd)
      refine Be ⟨a.trans (Av cy),cy.at (i:=2) Z,cy.at (i:=3) Z,cy.at (i:=7) Z⟩ fun kI869=>Fg 14 Z ?_;have g9:=g9.mono (Ab (fc.trans fd));refine Bp (r:=.tree) 5 x [((a0.getD b.toNat Qq2).2)] Z Ahf cy Z (((ae.mono e).mono c).mono a) g9 ac ?_;intro m4 rd la bn fe hb;have a:=a.trans (Ab fe);refine Be ⟨a.trans (Av bn),bn.at (i:=2) Z,bn.at (i:=3) Z,bn.at (i:=7) Z⟩ fun kI871=>Fg 16 Z<|BE 7 Z (row_one (bn.at (i:=4) Z)) bn Z Z fun re lb cz=>CK [0,1,2,3,4,5,6,7,8,9,10,11,12,13,14,15]<|Fg 17 Z<|As 1 Z<|CK [0,1,2,3,4,5,6,7,8,9,10,11,12,13,14,15,16]<|Fg 18 Z<|As 1 Z<|F0<|FW ?_;have aq:=aq.mono (Ab (il.trans (fc.trans (fd.trans (fe.trans cz)))));have ha:=ha.mono (Ab (fe.trans cz));have hb:=hb.mono (Ab cz);have a:=a.trans (Ab cz)
      refine A8 ((aa++[(d.1.1,d.1.2.1,d.1.2.2)]),(x++[((a0.getD b.toNat Qq2).2)]),(y++[(a0.getD b.toNat Qq2).1]),i1,g3,m4,la,m3,k9) ⟨lb,((g.mono c).mono a),((k.mono c).mono a),((o.mono c).mono a),aq,hb,ha,h⟩
     ·refine Ax h fun ah h=>Ax h fun ab h=>Ax h fun ac h=>Bx [(a0.getD b.toNat Qq2).1] (r:=(.vec .byte)) (fun _=>Mx _ e646h0.one _) a6 (.c1 ⟨_,Z,(e646h0.mono  Aj)⟩ .nil) ?_;intro rf rg o4 bo ff ar;have a:=a.trans (Ab ff);refine Be ⟨a.trans (Av bo),bo.at (i:=2) Z,bo.at (i:=3) Z,bo.at (i:=7) Z⟩ fun kI874=>NI2 4 13 Z Z ?_ ?_
      ·have e:=e.trans (Ab (aj.trans (ak.trans (al.trans (p.trans (q.trans (t.trans u)))))));have am:=am.mono (Ab ff);refine Bp (r:=AlB) 4 aa [(d.1.1,d.1.2.1,d.1.2.2)] Z Ale bo Z (((ai.mono e).mono c).mono a) am ah ?_;intro jo rh i6 bp fg bq;have a:=a.trans (Ab fg);refine Be ⟨a.trans (Av bp),bp.at (i:=2) Z,bp.at (i:=3) Z,bp.at (i:=7) Z⟩ fun kI876=>Bn 15 ad kI876 Z (fun _ _=>Ae Z AkU Z Ll.e) Z<|NI2 9 13 Z Z ?_ ?_
       ·have ar:=ar.mono (Ab fg);refine Bp (r:=(.vec .byte)) 6 y [(a0.getD b.toNat Qq2).1] Z Aii bp Z (((af.mono e).mono c).mono a) ar ab ?_;intro m5 ri lc c0 im hc;have a:=a.trans (Ab im);refine Be ⟨a.trans (Av c0),c0.at (i:=2) Z,c0.at (i:=3) Z,c0.at (i:=7) Z⟩ fun kI878=>Fg 13 Z<|Bx [((a0.getD b.toNat Qq2).2)] (r:=.tree) (fun _=>K9 _ _ _ _ _ _) c0 (.c5 (Go.E.Rp.Eu ⟨_,_,Z,Z,⟨_,_,Z,Z,⟨_,_,Z,⟨_,Z,(e646h3.mono  Aj)⟩,⟨_,_,Z,⟨_,Z,(e646h4.mono  Aj)⟩,⟨_,Z,(e646h5.mono  Aj)⟩⟩⟩⟩⟩) .nil) ?_;intro rj rk o5 c2 fh ld;have a:=a.trans (Ab fh);refine Be ⟨a.trans (Av c2),c2.at (i:=2) Z,c2.at (i:=3) Z,c2.at (i:=7) Z⟩ fun kI880=>Fg 14 Z<|Bp (r:=.tree) 5 x [((a0.getD b.toNat Qq2).2)] Z Ahf c2 Z (((ae.mono e).mono c).mono a) ld ac ?_;intro m6 rl le br fi hd;have a:=a.trans (Ab fi)
        refine Be ⟨a.trans (Av br),br.at (i:=2) Z,br.at (i:=3) Z,br.at (i:=7) Z⟩ fun kI882=>Fg 16 Z<|BE 7 Z (row_one (br.at (i:=4) Z)) br Z Z fun rm lf c4=>CK [0,1,2,3,4,5,6,7,8,9,10,11,12,13,14,15]<|Fg 17 Z<|As 1 Z<|CK [0,1,2,3,4,5,6,7,8,9,10,11,12,13,14,15,16]<|Fg 18 Z<|As 1 Z<|F0<|FW ?_;have bq:=bq.mono (Ab (im.trans (fh.trans (fi.trans c4))));have hc:=hc.mono (Ab (fh.trans (fi.trans c4)));have hd:=hd.mono (Ab c4);have a:=a.trans (Ab c4);refine A8 ((aa++[(d.1.1,d.1.2.1,d.1.2.2)]),(x++[((a0.getD b.toNat Qq2).2)]),(y++[(a0.getD b.toNat Qq2).1]),jo,i6,m6,le,m5,lc) ⟨lf,((g.mono c).mono a),((k.mono c).mono a),((o.mono c).mono a),bq,hd,hc,h⟩
       refine Bx [((a0.getD b.toNat Qq2).2)] (r:=.tree) (fun _=>K9 _ _ _ _ _ _) bp (.c5 (Go.E.Rp.Eu ⟨_,_,Z,Z,⟨_,_,Z,Z,⟨_,_,Z,⟨_,Z,(e646h3.mono  Aj)⟩,⟨_,_,Z,⟨_,Z,(e646h4.mono  Aj)⟩,⟨_,Z,(e646h5.mono  Aj)⟩⟩⟩⟩⟩) .nil) ?_;intro rn ro o6 c6 fj he;have a:=a.trans (Ab fj);refine Be ⟨a.trans (Av c6),c6.at (i:=2) Z,c6.at (i:=3) Z,c6.at (i:=7) Z⟩ fun kI885=>Fg 9 Z ?_;have ar:=ar.mono (Ab (fg.trans fj));refine Bp (r:=(.vec .byte)) 6 y [(a0.getD b.toNat Qq2).1] Z Aii c6 Z (((af.mono e).mono c).mono a) ar ab ?_;intro m7 rp lg c7 fk hf;have a:=a.trans (Ab fk);refine Be ⟨a.trans (Av c7),c7.at (i:=2) Z,c7.at (i:=3) Z,c7.at (i:=7) Z⟩ fun kI887=>Fg 14 Z ?_;have he:=he.mono (Ab fk);refine Bp (r:=.tree) 5 x [((a0.getD b.toNat Qq2).2)] Z Ahf c7 Z (((ae.mono e).mono c).mono a) he ac ?_;intro m8 rq lh bs fl hg;have a:=a.trans (Ab fl)
       refine Be ⟨a.trans (Av bs),bs.at (i:=2) Z,bs.at (i:=3) Z,bs.at (i:=7) Z⟩ fun kI889=>Fg 16 Z<|BE 7 Z (row_one (bs.at (i:=4) Z)) bs Z Z fun rr li c8=>CK [0,1,2,3,4,5,6,7,8,9,10,11,12,13,14,15]<|Fg 17 Z<|As 1 Z<|CK [0,1,2,3,4,5,6,7,8,9,10,11,12,13,14,15,16]<|Fg 18 Z<|As 1 Z<|F0<|FW ?_;have bq:=bq.mono (Ab (fj.trans (fk.trans (fl.trans c8))));have hf:=hf.mono (Ab (fl.trans c8));have hg:=hg.mono (Ab c8);have a:=a.trans (Ab c8);refine A8 ((aa++[(d.1.1,d.1.2.1,d.1.2.2)]),(x++[((a0.getD b.toNat Qq2).2)]),(y++[(a0.getD b.toNat Qq2).1]),jo,i6,m8,lh,m7,lg) ⟨li,((g.mono c).mono a),((k.mono c).mono a),((o.mono c).mono a),bq,hg,hf,h⟩
      refine Bx [((a0.getD b.toNat Qq2).2)] (r:=.tree) (fun _=>K9 _ _ _ _ _ _) bo (.c5 (Go.E.Rp.Eu ⟨_,_,Z,Z,⟨_,_,Z,Z,⟨_,_,Z,⟨_,Z,(e646h3.mono  Aj)⟩,⟨_,_,Z,⟨_,Z,(e646h4.mono  Aj)⟩,⟨_,Z,(e646h5.mono  Aj)⟩⟩⟩⟩⟩) .nil) ?_;intro rs rt o7 c9 fm hh;have a:=a.trans (Ab fm);refine Be ⟨a.trans (Av c9),c9.at (i:=2) Z,c9.at (i:=3) Z,c9.at (i:=7) Z⟩ fun kI892=>Fg 4 Z ?_;have e:=e.trans (Ab (aj.trans (ak.trans (al.trans (p.trans (q.trans (t.trans u)))))));have am:=am.mono (Ab (ff.trans fm));refine Bp (r:=AlB) 4 aa [(d.1.1,d.1.2.1,d.1.2.2)] Z Ale c9 Z (((ai.mono e).mono c).mono a) am ah ?_;intro m9 ru lj da fn hi;have a:=a.trans (Ab fn);refine Be ⟨a.trans (Av da),da.at (i:=2) Z,da.at (i:=3) Z,da.at (i:=7) Z⟩ fun kI894=>Bn 15 ad kI894 Z (fun _ _=>Ae Z AkU Z Ll.e) Z<|Fg 9 Z ?_
      have ar:=ar.mono (Ab (fm.trans fn));refine Bp (r:=(.vec .byte)) 6 y [(a0.getD b.toNat Qq2).1] Z Aii da Z (((af.mono e).mono c).mono a) ar ab ?_;intro na rv lk db fo hj;have a:=a.trans (Ab fo);refine Be ⟨a.trans (Av db),db.at (i:=2) Z,db.at (i:=3) Z,db.at (i:=7) Z⟩ fun kI896=>Fg 14 Z ?_;have hh:=hh.mono (Ab (fn.trans fo));refine Bp (r:=.tree) 5 x [((a0.getD b.toNat Qq2).2)] Z Ahf db Z (((ae.mono e).mono c).mono a) hh ac ?_;intro nb rx ll bt fp hk;have a:=a.trans (Ab fp);refine Be ⟨a.trans (Av bt),bt.at (i:=2) Z,bt.at (i:=3) Z,bt.at (i:=7) Z⟩ fun kI898=>Fg 16 Z<|BE 7 Z (row_one (bt.at (i:=4) Z)) bt Z Z fun ry lm dc=>CK [0,1,2,3,4,5,6,7,8,9,10,11,12,13,14,15]<|Fg 17 Z<|As 1 Z<|CK [0,1,2,3,4,5,6,7,8,9,10,11,12,13,14,15,16]<|Fg 18 Z<|As 1 Z ?_
      refine F0<|FW ?_;have hi:=hi.mono (Ab (fo.trans (fp.trans dc)));have hj:=hj.mono (Ab (fp.trans dc));have hk:=hk.mono (Ab dc);have a:=a.trans (Ab dc);refine A8 ((aa++[(d.1.1,d.1.2.1,d.1.2.2)]),(x++[((a0.getD b.toNat Qq2).2)]),(y++[(a0.getD b.toNat Qq2).1]),m9,lj,nb,ll,na,lk) ⟨lm,((g.mono c).mono a),((k.mono c).mono a),((o.mono c).mono a),hi,hk,hj,h⟩
     refine Ax h fun ah h=>Ax h fun ab h=>Ax h fun ac h=>Bx [((a0.getD b.toNat Qq2).2)] (r:=.tree) (fun _=>K9 _ _ _ _ _ _) a6 (.c5 (Go.E.Rp.Eu ⟨_,_,Z,Z,⟨_,_,Z,Z,⟨_,_,Z,⟨_,Z,(e646h3.mono  Aj)⟩,⟨_,_,Z,⟨_,Z,(e646h4.mono  Aj)⟩,⟨_,Z,(e646h5.mono  Aj)⟩⟩⟩⟩⟩) .nil) ?_;intro rz r0 o8 bu fq bv;have a:=a.trans (Ab fq);refine Be ⟨a.trans (Av bu),bu.at (i:=2) Z,bu.at (i:=3) Z,bu.at (i:=7) Z⟩ fun kI901=>NI2 4 8 Z Z ?_ ?_
     ·have e:=e.trans (Ab (aj.trans (ak.trans (al.trans (p.trans (q.trans (t.trans u)))))));have am:=am.mono (Ab fq);refine Bp (r:=AlB) 4 aa [(d.1.1,d.1.2.1,d.1.2.2)] Z Ale bu Z (((ai.mono e).mono c).mono a) am ah ?_;intro nc r1 ln dd io hl;have a:=a.trans (Ab io);refine Be ⟨a.trans (Av dd),dd.at (i:=2) Z,dd.at (i:=3) Z,dd.at (i:=7) Z⟩ fun kI903=>Bn 15 ad kI903 Z (fun _ _=>Ae Z AkU Z Ll.e) Z<|Fg 8 Z<|Bx [(a0.getD b.toNat Qq2).1] (r:=(.vec .byte)) (fun _=>Mx _ e646h0.one _) dd (.c1 ⟨_,Z,(e646h0.mono  Aj)⟩ .nil) ?_;intro r2 r3 o9 de fr lo;have a:=a.trans (Ab fr);refine Be ⟨a.trans (Av de),de.at (i:=2) Z,de.at (i:=3) Z,de.at (i:=7) Z⟩ fun kI905=>Fg 9 Z<|Bp (r:=(.vec .byte)) 6 y [(a0.getD b.toNat Qq2).1] Z Aii de Z (((af.mono e).mono c).mono a) lo ab ?_
      intro nd r4 lp df fs hm;have a:=a.trans (Ab fs);refine Be ⟨a.trans (Av df),df.at (i:=2) Z,df.at (i:=3) Z,df.at (i:=7) Z⟩ fun kI907=>Fg 14 Z ?_;have bv:=bv.mono (Ab (io.trans (fr.trans fs)));refine Bp (r:=.tree) 5 x [((a0.getD b.toNat Qq2).2)] Z Ahf df Z (((ae.mono e).mono c).mono a) bv ac ?_;intro nf r5 lq bw ft hn;have a:=a.trans (Ab ft);refine Be ⟨a.trans (Av bw),bw.at (i:=2) Z,bw.at (i:=3) Z,bw.at (i:=7) Z⟩ fun kI909=>Fg 16 Z<|BE 7 Z (row_one (bw.at (i:=4) Z)) bw Z Z fun r6 lr dg=>CK [0,1,2,3,4,5,6,7,8,9,10,11,12,13,14,15]<|Fg 17 Z<|As 1 Z<|CK [0,1,2,3,4,5,6,7,8,9,10,11,12,13,14,15,16]<|Fg 18 Z<|As 1 Z<|F0<|FW ?_;have hl:=hl.mono (Ab (fr.trans (fs.trans (ft.trans dg))));have hm:=hm.mono (Ab (ft.trans dg))
      have hn:=hn.mono (Ab dg);have a:=a.trans (Ab dg);refine A8 ((aa++[(d.1.1,d.1.2.1,d.1.2.2)]),(x++[((a0.getD b.toNat Qq2).2)]),(y++[(a0.getD b.toNat Qq2).1]),nc,ln,nf,lq,nd,lp) ⟨lr,((g.mono c).mono a),((k.mono c).mono a),((o.mono c).mono a),hl,hn,hm,h⟩
     refine Bx [(a0.getD b.toNat Qq2).1] (r:=(.vec .byte)) (fun _=>Mx _ e646h0.one _) bu (.c1 ⟨_,Z,(e646h0.mono  Aj)⟩ .nil) ?_;intro r7 r8 pa dh fu ho;have a:=a.trans (Ab fu);refine Be ⟨a.trans (Av dh),dh.at (i:=2) Z,dh.at (i:=3) Z,dh.at (i:=7) Z⟩ fun kI912=>Fg 4 Z ?_;have e:=e.trans (Ab (aj.trans (ak.trans (al.trans (p.trans (q.trans (t.trans u)))))));have am:=am.mono (Ab (fq.trans fu));refine Bp (r:=AlB) 4 aa [(d.1.1,d.1.2.1,d.1.2.2)] Z Ale dh Z (((ai.mono e).mono c).mono a) am ah ?_;intro ng r9 ls di fv hq;have a:=a.trans (Ab fv);refine Be ⟨a.trans (Av di),di.at (i:=2) Z,di.at (i:=3) Z,di.at (i:=7) Z⟩ fun kI914=>Bn 15 ad kI914 Z (fun _ _=>Ae Z AkU Z Ll.e) Z<|Fg 9 Z ?_;have ho:=ho.mono (Ab fv)
     refine Bp (r:=(.vec .byte)) 6 y [(a0.getD b.toNat Qq2).1] Z Aii di Z (((af.mono e).mono c).mono a) ho ab ?_;intro nh sa lt dj fw hr;have a:=a.trans (Ab fw);refine Be ⟨a.trans (Av dj),dj.at (i:=2) Z,dj.at (i:=3) Z,dj.at (i:=7) Z⟩ fun kI916=>Fg 14 Z ?_;have bv:=bv.mono (Ab (fu.trans (fv.trans fw)));refine Bp (r:=.tree) 5 x [((a0.getD b.toNat Qq2).2)] Z Ahf dj Z (((ae.mono e).mono c).mono a) bv ac ?_;intro ni sb lu bx fx hs;have a:=a.trans (Ab fx);refine Be ⟨a.trans (Av bx),bx.at (i:=2) Z,bx.at (i:=3) Z,bx.at (i:=7) Z⟩ fun kI918=>Fg 16 Z<|BE 7 Z (row_one (bx.at (i:=4) Z)) bx Z Z fun sc lv dk=>CK [0,1,2,3,4,5,6,7,8,9,10,11,12,13,14,15]<|Fg 17 Z<|As 1 Z<|CK [0,1,2,3,4,5,6,7,8,9,10,11,12,13,14,15,16]<|Fg 18 Z<|As 1 Z<|F0 ?_
     refine FW ?_;have hq:=hq.mono (Ab (fw.trans (fx.trans dk)));have hr:=hr.mono (Ab (fx.trans dk));have hs:=hs.mono (Ab dk);have a:=a.trans (Ab dk);refine A8 ((aa++[(d.1.1,d.1.2.1,d.1.2.2)]),(x++[((a0.getD b.toNat Qq2).2)]),(y++[(a0.getD b.toNat Qq2).1]),ng,ls,ni,lu,nh,lt) ⟨lv,((g.mono c).mono a),((k.mono c).mono a),((o.mono c).mono a),hq,hs,hr,h⟩
    ·refine Ax h fun ah h=>Ax h fun ab h=>Ax h fun ac h=>Bx [(a0.getD b.toNat Qq2).1] (r:=(.vec .byte)) (fun _=>Mx _ e646h0.one _) a2 (.c1 ⟨_,Z,(e646h0.mono  Aj)⟩ .nil) ?_;intro sd se pb bz jp an;have a:=a.trans (Ab jp);refine Be ⟨a.trans (Av bz),bz.at (i:=2) Z,bz.at (i:=3) Z,bz.at (i:=7) Z⟩ fun kI921=>NI2 3 13 Z Z ?_ ?_
     ·have g:=g.mono (Ab (p.trans (q.trans (t.trans u))));have k:=k.mono (Ab (p.trans (q.trans (t.trans u))));have o:=o.mono (Ab (p.trans (q.trans (t.trans u))));have c:=c.trans (Ab (a9.trans (ba.trans (bb.trans bf))));refine Bx [(d.1.1,d.1.2.1,d.1.2.2)] (r:=AlB) (fun _=>TA _ _ _ _) bz (.c3 ⟨_,_,Z,⟨_,Z,((g.mono c).mono a)⟩,⟨_,_,Z,⟨_,Z,((k.mono c).mono a)⟩,⟨_,Z,((o.mono c).mono a)⟩⟩⟩ .nil) ?_;intro sf sg pc b0 dl eu;have a:=a.trans (Ab dl);refine Be ⟨a.trans (Av b0),b0.at (i:=2) Z,b0.at (i:=3) Z,b0.at (i:=7) Z⟩ fun kI923=>NI2 4 13 Z Z ?_ ?_
      ·have e:=e.trans (Ab (aj.trans (ak.trans (al.trans (p.trans (q.trans (t.trans u)))))));refine Bp (r:=AlB) 4 aa [(d.1.1,d.1.2.1,d.1.2.2)] Z Ale b0 Z (((ai.mono e).mono c).mono a) eu ah ?_;intro jq sh i7 b3 fy b4;have a:=a.trans (Ab fy);refine Be ⟨a.trans (Av b3),b3.at (i:=2) Z,b3.at (i:=3) Z,b3.at (i:=7) Z⟩ fun kI925=>Bn 15 ad kI925 Z (fun _ _=>Ae Z AkU Z Ll.e) Z<|NI2 9 13 Z Z ?_ ?_
       ·have an:=an.mono (Ab (dl.trans fy));refine Bp (r:=(.vec .byte)) 6 y [(a0.getD b.toNat Qq2).1] Z Aii b3 Z (((af.mono e).mono c).mono a) an ab ?_;intro nj si lw dm ip ht;have a:=a.trans (Ab ip);refine Be ⟨a.trans (Av dm),dm.at (i:=2) Z,dm.at (i:=3) Z,dm.at (i:=7) Z⟩ fun kI927=>Fg 13 Z<|Bx [((a0.getD b.toNat Qq2).2)] (r:=.tree) (fun _=>K9 _ _ _ _ _ _) dm (.c5 (Go.E.Rp.Eu ⟨_,_,Z,Z,⟨_,_,Z,Z,⟨_,_,Z,⟨_,Z,(e646h3.mono  Aj)⟩,⟨_,_,Z,⟨_,Z,(e646h4.mono  Aj)⟩,⟨_,Z,(e646h5.mono  Aj)⟩⟩⟩⟩⟩) .nil) ?_;intro sj sk pd dn fz lx;have a:=a.trans (Ab fz);refine Be ⟨a.trans (Av dn),dn.at (i:=2) Z,dn.at (i:=3) Z,dn.at (i:=7) Z⟩ fun kI929=>Fg 14 Z<|Bp (r:=.tree) 5 x [((a0.getD b.toNat Qq2).2)] Z Ahf dn Z (((ae.mono e).mono c).mono a) lx ac ?_;intro nk sl ly b5 f0 hu;have a:=a.trans (Ab f0)
        refine Be ⟨a.trans (Av b5),b5.at (i:=2) Z,b5.at (i:=3) Z,b5.at (i:=7) Z⟩ fun kI931=>Fg 16 Z<|BE 7 Z (row_one (b5.at (i:=4) Z)) b5 Z Z fun sm lz dp=>CK [0,1,2,3,4,5,6,7,8,9,10,11,12,13,14,15]<|Fg 17 Z<|As 1 Z<|CK [0,1,2,3,4,5,6,7,8,9,10,11,12,13,14,15,16]<|Fg 18 Z<|As 1 Z<|F0<|FW ?_;have b4:=b4.mono (Ab (ip.trans (fz.trans (f0.trans dp))));have ht:=ht.mono (Ab (fz.trans (f0.trans dp)));have hu:=hu.mono (Ab dp);have a:=a.trans (Ab dp);refine A8 ((aa++[(d.1.1,d.1.2.1,d.1.2.2)]),(x++[((a0.getD b.toNat Qq2).2)]),(y++[(a0.getD b.toNat Qq2).1]),jq,i7,nk,ly,nj,lw) ⟨lz,((g.mono c).mono a),((k.mono c).mono a),((o.mono c).mono a),b4,hu,ht,h⟩
       refine Bx [((a0.getD b.toNat Qq2).2)] (r:=.tree) (fun _=>K9 _ _ _ _ _ _) b3 (.c5 (Go.E.Rp.Eu ⟨_,_,Z,Z,⟨_,_,Z,Z,⟨_,_,Z,⟨_,Z,(e646h3.mono  Aj)⟩,⟨_,_,Z,⟨_,Z,(e646h4.mono  Aj)⟩,⟨_,Z,(e646h5.mono  Aj)⟩⟩⟩⟩⟩) .nil) ?_;intro sn so pe dq f1 hv;have a:=a.trans (Ab f1);refine Be ⟨a.trans (Av dq),dq.at (i:=2) Z,dq.at (i:=3) Z,dq.at (i:=7) Z⟩ fun kI934=>Fg 9 Z ?_;have an:=an.mono (Ab (dl.trans (fy.trans f1)));refine Bp (r:=(.vec .byte)) 6 y [(a0.getD b.toNat Qq2).1] Z Aii dq Z (((af.mono e).mono c).mono a) an ab ?_;intro nl sp l0 dr f2 hw;have a:=a.trans (Ab f2);refine Be ⟨a.trans (Av dr),dr.at (i:=2) Z,dr.at (i:=3) Z,dr.at (i:=7) Z⟩ fun kI936=>Fg 14 Z ?_;have hv:=hv.mono (Ab f2);refine Bp (r:=.tree) 5 x [((a0.getD b.toNat Qq2).2)] Z Ahf dr Z (((ae.mono e).mono c).mono a) hv ac ?_;intro nm sq l1 b6 f3 hx
       have a:=a.trans (Ab f3);refine Be ⟨a.trans (Av b6),b6.at (i:=2) Z,b6.at (i:=3) Z,b6.at (i:=7) Z⟩ fun kI938=>Fg 16 Z<|BE 7 Z (row_one (b6.at (i:=4) Z)) b6 Z Z fun sr l2 ds=>CK [0,1,2,3,4,5,6,7,8,9,10,11,12,13,14,15]<|Fg 17 Z<|As 1 Z<|CK [0,1,2,3,4,5,6,7,8,9,10,11,12,13,14,15,16]<|Fg 18 Z<|As 1 Z<|F0<|FW ?_;have b4:=b4.mono (Ab (f1.trans (f2.trans (f3.trans ds))));have hw:=hw.mono (Ab (f3.trans ds));have hx:=hx.mono (Ab ds);have a:=a.trans (Ab ds);refine A8 ((aa++[(d.1.1,d.1.2.1,d.1.2.2)]),(x++[((a0.getD b.toNat Qq2).2)]),(y++[(a0.getD b.toNat Qq2).1]),jq,i7,nm,l1,nl,l0) ⟨l2,((g.mono c).mono a),((k.mono c).mono a),((o.mono c).mono a),b4,hx,hw,h⟩
      refine Bx [((a0.getD b.toNat Qq2).2)] (r:=.tree) (fun _=>K9 _ _ _ _ _ _) b0 (.c5 (Go.E.Rp.Eu ⟨_,_,Z,Z,⟨_,_,Z,Z,⟨_,_,Z,⟨_,Z,(e646h3.mono  Aj)⟩,⟨_,_,Z,⟨_,Z,(e646h4.mono  Aj)⟩,⟨_,Z,(e646h5.mono  Aj)⟩⟩⟩⟩⟩) .nil) ?_;intro ss su pf dt f4 hy;have a:=a.trans (Ab f4);refine Be ⟨a.trans (Av dt),dt.at (i:=2) Z,dt.at (i:=3) Z,dt.at (i:=7) Z⟩ fun kI941=>Fg 4 Z ?_;have e:=e.trans (Ab (aj.trans (ak.trans (al.trans (p.trans (q.trans (t.trans u)))))));have eu:=eu.mono (Ab f4);refine Bp (r:=AlB) 4 aa [(d.1.1,d.1.2.1,d.1.2.2)] Z Ale dt Z (((ai.mono e).mono c).mono a) eu ah ?_;intro nn sv l3 du f5 hz;have a:=a.trans (Ab f5);refine Be ⟨a.trans (Av du),du.at (i:=2) Z,du.at (i:=3) Z,du.at (i:=7) Z⟩ fun kI943=>Bn 15 ad kI943 Z (fun _ _=>Ae Z AkU Z Ll.e) Z<|Fg 9 Z ?_
      have an:=an.mono (Ab (dl.trans (f4.trans f5)));refine Bp (r:=(.vec .byte)) 6 y [(a0.getD b.toNat Qq2).1] Z Aii du Z (((af.mono e).mono c).mono a) an ab ?_;intro no sw l4 dv f6 h0;have a:=a.trans (Ab f6);refine Be ⟨a.trans (Av dv),dv.at (i:=2) Z,dv.at (i:=3) Z,dv.at (i:=7) Z⟩ fun kI945=>Fg 14 Z ?_;have hy:=hy.mono (Ab (f5.trans f6));refine Bp (r:=.tree) 5 x [((a0.getD b.toNat Qq2).2)] Z Ahf dv Z (((ae.mono e).mono c).mono a) hy ac ?_;intro np sx l5 b7 f7 h1;have a:=a.trans (Ab f7);refine Be ⟨a.trans (Av b7),b7.at (i:=2) Z,b7.at (i:=3) Z,b7.at (i:=7) Z⟩ fun kI947=>Fg 16 Z<|BE 7 Z (row_one (b7.at (i:=4) Z)) b7 Z Z fun sy l6 dw=>CK [0,1,2,3,4,5,6,7,8,9,10,11,12,13,14,15]<|Fg 17 Z<|As 1 Z<|CK [0,1,2,3,4,5,6,7,8,9,10,11,12,13,14,15,16]<|Fg 18 Z ?_
      refine As 1 Z<|F0<|FW ?_;have hz:=hz.mono (Ab (f6.trans (f7.trans dw)));have h0:=h0.mono (Ab (f7.trans dw));have h1:=h1.mono (Ab dw);have a:=a.trans (Ab dw);refine A8 ((aa++[(d.1.1,d.1.2.1,d.1.2.2)]),(x++[((a0.getD b.toNat Qq2).2)]),(y++[(a0.getD b.toNat Qq2).1]),nn,l3,np,l5,no,l4) ⟨l6,((g.mono c).mono a),((k.mono c).mono a),((o.mono c).mono a),hz,h1,h0,h⟩
     refine Bx [((a0.getD b.toNat Qq2).2)] (r:=.tree) (fun _=>K9 _ _ _ _ _ _) bz (.c5 (Go.E.Rp.Eu ⟨_,_,Z,Z,⟨_,_,Z,Z,⟨_,_,Z,⟨_,Z,(e646h3.mono  Aj)⟩,⟨_,_,Z,⟨_,Z,(e646h4.mono  Aj)⟩,⟨_,Z,(e646h5.mono  Aj)⟩⟩⟩⟩⟩) .nil) ?_;intro sz s0 pg dx iq h2;have a:=a.trans (Ab iq);refine Be ⟨a.trans (Av dx),dx.at (i:=2) Z,dx.at (i:=3) Z,dx.at (i:=7) Z⟩ fun kI950=>Fg 3 Z ?_;have g:=g.mono (Ab (p.trans (q.trans (t.trans u))));have k:=k.mono (Ab (p.trans (q.trans (t.trans u))));have o:=o.mono (Ab (p.trans (q.trans (t.trans u))));have c:=c.trans (Ab (a9.trans (ba.trans (bb.trans bf))));refine Bx [(d.1.1,d.1.2.1,d.1.2.2)] (r:=AlB) (fun _=>TA _ _ _ _) dx (.c3 ⟨_,_,Z,⟨_,Z,((g.mono c).mono a)⟩,⟨_,_,Z,⟨_,Z,((k.mono c).mono a)⟩,⟨_,Z,((o.mono c).mono a)⟩⟩⟩ .nil) ?_;intro s1 s2 ph dy f8 l7;have a:=a.trans (Ab f8)
     refine Be ⟨a.trans (Av dy),dy.at (i:=2) Z,dy.at (i:=3) Z,dy.at (i:=7) Z⟩ fun kI952=>Fg 4 Z ?_;have e:=e.trans (Ab (aj.trans (ak.trans (al.trans (p.trans (q.trans (t.trans u)))))));refine Bp (r:=AlB) 4 aa [(d.1.1,d.1.2.1,d.1.2.2)] Z Ale dy Z (((ai.mono e).mono c).mono a) l7 ah ?_;intro nq s3 l8 dz f9 h3;have a:=a.trans (Ab f9);refine Be ⟨a.trans (Av dz),dz.at (i:=2) Z,dz.at (i:=3) Z,dz.at (i:=7) Z⟩ fun kI954=>Bn 15 ad kI954 Z (fun _ _=>Ae Z AkU Z Ll.e) Z<|Fg 9 Z ?_;have an:=an.mono (Ab (iq.trans (f8.trans f9)));refine Bp (r:=(.vec .byte)) 6 y [(a0.getD b.toNat Qq2).1] Z Aii dz Z (((af.mono e).mono c).mono a) an ab ?_;intro nr s4 l9 d0 ga h4;have a:=a.trans (Ab ga);refine Be ⟨a.trans (Av d0),d0.at (i:=2) Z,d0.at (i:=3) Z,d0.at (i:=7) Z⟩ fun kI956=>?_
     refine Fg 14 Z ?_;have h2:=h2.mono (Ab (f8.trans (f9.trans ga)));refine Bp (r:=.tree) 5 x [((a0.getD b.toNat Qq2).2)] Z Ahf d0 Z (((ae.mono e).mono c).mono a) h2 ac ?_;intro ns s5 ma b8 gb h5;have a:=a.trans (Ab gb);refine Be ⟨a.trans (Av b8),b8.at (i:=2) Z,b8.at (i:=3) Z,b8.at (i:=7) Z⟩ fun kI958=>Fg 16 Z<|BE 7 Z (row_one (b8.at (i:=4) Z)) b8 Z Z fun s6 mb d1=>CK [0,1,2,3,4,5,6,7,8,9,10,11,12,13,14,15]<|Fg 17 Z<|As 1 Z<|CK [0,1,2,3,4,5,6,7,8,9,10,11,12,13,14,15,16]<|Fg 18 Z<|As 1 Z<|F0<|FW ?_;have h3:=h3.mono (Ab (ga.trans (gb.trans d1)));have h4:=h4.mono (Ab (gb.trans d1));have h5:=h5.mono (Ab d1);have a:=a.trans (Ab d1)
     refine A8 ((aa++[(d.1.1,d.1.2.1,d.1.2.2)]),(x++[((a0.getD b.toNat Qq2).2)]),(y++[(a0.getD b.toNat Qq2).1]),nq,l8,ns,ma,nr,l9) ⟨mb,((g.mono c).mono a),((k.mono c).mono a),((o.mono c).mono a),h3,h5,h4,h⟩
    refine Ax h fun ah h=>Ax h fun ab h=>Ax h fun ac h=>Bx [((a0.getD b.toNat Qq2).2)] (r:=.tree) (fun _=>K9 _ _ _ _ _ _) a2 (.c5 (Go.E.Rp.Eu ⟨_,_,Z,Z,⟨_,_,Z,Z,⟨_,_,Z,⟨_,Z,(e646h3.mono  Aj)⟩,⟨_,_,Z,⟨_,Z,(e646h4.mono  Aj)⟩,⟨_,Z,(e646h5.mono  Aj)⟩⟩⟩⟩⟩) .nil) ?_;intro s7 s8 pi b9 jr au;have a:=a.trans (Ab jr);refine Be ⟨a.trans (Av b9),b9.at (i:=2) Z,b9.at (i:=3) Z,b9.at (i:=7) Z⟩ fun kI961=>NI2 3 8 Z Z ?_ ?_
    ·have g:=g.mono (Ab (p.trans (q.trans (t.trans u))));have k:=k.mono (Ab (p.trans (q.trans (t.trans u))));have o:=o.mono (Ab (p.trans (q.trans (t.trans u))));have c:=c.trans (Ab (a9.trans (ba.trans (bb.trans bf))));refine Bx [(d.1.1,d.1.2.1,d.1.2.2)] (r:=AlB) (fun _=>TA _ _ _ _) b9 (.c3 ⟨_,_,Z,⟨_,Z,((g.mono c).mono a)⟩,⟨_,_,Z,⟨_,Z,((k.mono c).mono a)⟩,⟨_,Z,((o.mono c).mono a)⟩⟩⟩ .nil) ?_;intro s9 ta pj ca gc ev;have a:=a.trans (Ab gc);refine Be ⟨a.trans (Av ca),ca.at (i:=2) Z,ca.at (i:=3) Z,ca.at (i:=7) Z⟩ fun kI963=>NI2 4 8 Z Z ?_ ?_
     ·have e:=e.trans (Ab (aj.trans (ak.trans (al.trans (p.trans (q.trans (t.trans u)))))));refine Bp (r:=AlB) 4 aa [(d.1.1,d.1.2.1,d.1.2.2)] Z Ale ca Z (((ai.mono e).mono c).mono a) ev ah ?_;intro nt tb mc d2 ir h6;have a:=a.trans (Ab ir);refine Be ⟨a.trans (Av d2),d2.at (i:=2) Z,d2.at (i:=3) Z,d2.at (i:=7) Z⟩ fun kI965=>Bn 15 ad kI965 Z (fun _ _=>Ae Z AkU Z Ll.e) Z<|Fg 8 Z<|Bx [(a0.getD b.toNat Qq2).1] (r:=(.vec .byte)) (fun _=>Mx _ e646h0.one _) d2 (.c1 ⟨_,Z,(e646h0.mono  Aj)⟩ .nil) ?_;intro tc td pk d3 gd md;have a:=a.trans (Ab gd);refine Be ⟨a.trans (Av d3),d3.at (i:=2) Z,d3.at (i:=3) Z,d3.at (i:=7) Z⟩ fun kI967=>Fg 9 Z<|Bp (r:=(.vec .byte)) 6 y [(a0.getD b.toNat Qq2).1] Z Aii d3 Z (((af.mono e).mono c).mono a) md ab ?_;intro nu te me d4 ge h7
      have a:=a.trans (Ab ge);refine Be ⟨a.trans (Av d4),d4.at (i:=2) Z,d4.at (i:=3) Z,d4.at (i:=7) Z⟩ fun kI969=>Fg 14 Z ?_;have au:=au.mono (Ab (gc.trans (ir.trans (gd.trans ge))));refine Bp (r:=.tree) 5 x [((a0.getD b.toNat Qq2).2)] Z Ahf d4 Z (((ae.mono e).mono c).mono a) au ac ?_;intro nv tf mf cb gf h8;have a:=a.trans (Ab gf);refine Be ⟨a.trans (Av cb),cb.at (i:=2) Z,cb.at (i:=3) Z,cb.at (i:=7) Z⟩ fun kI971=>Fg 16 Z<|BE 7 Z (row_one (cb.at (i:=4) Z)) cb Z Z fun tg mg d5=>CK [0,1,2,3,4,5,6,7,8,9,10,11,12,13,14,15]<|Fg 17 Z<|As 1 Z<|CK [0,1,2,3,4,5,6,7,8,9,10,11,12,13,14,15,16]<|Fg 18 Z<|As 1 Z<|F0<|FW ?_;have h6:=h6.mono (Ab (gd.trans (ge.trans (gf.trans d5))));have h7:=h7.mono (Ab (gf.trans d5));have h8:=h8.mono (Ab d5)
      have a:=a.trans (Ab d5);refine A8 ((aa++[(d.1.1,d.1.2.1,d.1.2.2)]),(x++[((a0.getD b.toNat Qq2).2)]),(y++[(a0.getD b.toNat Qq2).1]),nt,mc,nv,mf,nu,me) ⟨mg,((g.mono c).mono a),((k.mono c).mono a),((o.mono c).mono a),h6,h8,h7,h⟩
     refine Bx [(a0.getD b.toNat Qq2).1] (r:=(.vec .byte)) (fun _=>Mx _ e646h0.one _) ca (.c1 ⟨_,Z,(e646h0.mono  Aj)⟩ .nil) ?_;intro th ti pl d6 gg h9;have a:=a.trans (Ab gg);refine Be ⟨a.trans (Av d6),d6.at (i:=2) Z,d6.at (i:=3) Z,d6.at (i:=7) Z⟩ fun kI974=>Fg 4 Z ?_;have e:=e.trans (Ab (aj.trans (ak.trans (al.trans (p.trans (q.trans (t.trans u)))))));have ev:=ev.mono (Ab gg);refine Bp (r:=AlB) 4 aa [(d.1.1,d.1.2.1,d.1.2.2)] Z Ale d6 Z (((ai.mono e).mono c).mono a) ev ah ?_;intro nx tj mh d7 gh ia;have a:=a.trans (Ab gh);refine Be ⟨a.trans (Av d7),d7.at (i:=2) Z,d7.at (i:=3) Z,d7.at (i:=7) Z⟩ fun kI976=>Bn 15 ad kI976 Z (fun _ _=>Ae Z AkU Z Ll.e) Z<|Fg 9 Z ?_;have h9:=h9.mono (Ab gh)
     refine Bp (r:=(.vec .byte)) 6 y [(a0.getD b.toNat Qq2).1] Z Aii d7 Z (((af.mono e).mono c).mono a) h9 ab ?_;intro ny tk mi d8 gi ib;have a:=a.trans (Ab gi);refine Be ⟨a.trans (Av d8),d8.at (i:=2) Z,d8.at (i:=3) Z,d8.at (i:=7) Z⟩ fun kI978=>Fg 14 Z ?_;have au:=au.mono (Ab (gc.trans (gg.trans (gh.trans gi))));refine Bp (r:=.tree) 5 x [((a0.getD b.toNat Qq2).2)] Z Ahf d8 Z (((ae.mono e).mono c).mono a) au ac ?_;intro nz tl mj cc gj ic;have a:=a.trans (Ab gj);refine Be ⟨a.trans (Av cc),cc.at (i:=2) Z,cc.at (i:=3) Z,cc.at (i:=7) Z⟩ fun kI980=>Fg 16 Z<|BE 7 Z (row_one (cc.at (i:=4) Z)) cc Z Z fun tm mk d9=>CK [0,1,2,3,4,5,6,7,8,9,10,11,12,13,14,15]<|Fg 17 Z<|As 1 Z<|CK [0,1,2,3,4,5,6,7,8,9,10,11,12,13,14,15,16]<|Fg 18 Z<|As 1 Z<|F0 ?_
     refine FW ?_;have ia:=ia.mono (Ab (gi.trans (gj.trans d9)));have ib:=ib.mono (Ab (gj.trans d9));have ic:=ic.mono (Ab d9);have a:=a.trans (Ab d9);refine A8 ((aa++[(d.1.1,d.1.2.1,d.1.2.2)]),(x++[((a0.getD b.toNat Qq2).2)]),(y++[(a0.getD b.toNat Qq2).1]),nx,mh,nz,mj,ny,mi) ⟨mk,((g.mono c).mono a),((k.mono c).mono a),((o.mono c).mono a),ia,ic,ib,h⟩
    refine Bx [(a0.getD b.toNat Qq2).1] (r:=(.vec .byte)) (fun _=>Mx _ e646h0.one _) b9 (.c1 ⟨_,Z,(e646h0.mono  Aj)⟩ .nil) ?_;intro tn tp pm ea is ie;have a:=a.trans (Ab is);refine Be ⟨a.trans (Av ea),ea.at (i:=2) Z,ea.at (i:=3) Z,ea.at (i:=7) Z⟩ fun kI983=>Fg 3 Z ?_;have g:=g.mono (Ab (p.trans (q.trans (t.trans u))));have k:=k.mono (Ab (p.trans (q.trans (t.trans u))));have o:=o.mono (Ab (p.trans (q.trans (t.trans u))));have c:=c.trans (Ab (a9.trans (ba.trans (bb.trans bf))));refine Bx [(d.1.1,d.1.2.1,d.1.2.2)] (r:=AlB) (fun _=>TA _ _ _ _) ea (.c3 ⟨_,_,Z,⟨_,Z,((g.mono c).mono a)⟩,⟨_,_,Z,⟨_,Z,((k.mono c).mono a)⟩,⟨_,Z,((o.mono c).mono a)⟩⟩⟩ .nil) ?_;intro tq tr pn eb gk ml;have a:=a.trans (Ab gk);refine Be ⟨a.trans (Av eb),eb.at (i:=2) Z,eb.at (i:=3) Z,eb.at (i:=7) Z⟩ fun kI985=>Fg 4 Z ?_
    have e:=e.trans (Ab (aj.trans (ak.trans (al.trans (p.trans (q.trans (t.trans u)))))));refine Bp (r:=AlB) 4 aa [(d.1.1,d.1.2.1,d.1.2.2)] Z Ale eb Z (((ai.mono e).mono c).mono a) ml ah ?_;intro n0 ts mm ec gl ig;have a:=a.trans (Ab gl);refine Be ⟨a.trans (Av ec),ec.at (i:=2) Z,ec.at (i:=3) Z,ec.at (i:=7) Z⟩ fun kI987=>Bn 15 ad kI987 Z (fun _ _=>Ae Z AkU Z Ll.e) Z<|Fg 9 Z ?_;have ie:=ie.mono (Ab (gk.trans gl));refine Bp (r:=(.vec .byte)) 6 y [(a0.getD b.toNat Qq2).1] Z Aii ec Z (((af.mono e).mono c).mono a) ie ab ?_;intro n1 tt mn ed gm ih;have a:=a.trans (Ab gm);refine Be ⟨a.trans (Av ed),ed.at (i:=2) Z,ed.at (i:=3) Z,ed.at (i:=7) Z⟩ fun kI989=>Fg 14 Z ?_;have au:=au.mono (Ab (is.trans (gk.trans (gl.trans gm))))
    refine Bp (r:=.tree) 5 x [((a0.getD b.toNat Qq2).2)] Z Ahf ed Z (((ae.mono e).mono c).mono a) au ac ?_;intro n2 tu mo cd gn ii;have a:=a.trans (Ab gn);refine Be ⟨a.trans (Av cd),cd.at (i:=2) Z,cd.at (i:=3) Z,cd.at (i:=7) Z⟩ fun kI991=>Fg 16 Z<|BE 7 Z (row_one (cd.at (i:=4) Z)) cd Z Z fun tv mp ee=>CK [0,1,2,3,4,5,6,7,8,9,10,11,12,13,14,15]<|Fg 17 Z<|As 1 Z<|CK [0,1,2,3,4,5,6,7,8,9,10,11,12,13,14,15,16]<|Fg 18 Z<|As 1 Z<|F0<|FW ?_;have ig:=ig.mono (Ab (gm.trans (gn.trans ee)));have ih:=ih.mono (Ab (gn.trans ee));have ii:=ii.mono (Ab ee);have a:=a.trans (Ab ee)
    refine A8 ((aa++[(d.1.1,d.1.2.1,d.1.2.2)]),(x++[((a0.getD b.toNat Qq2).2)]),(y++[(a0.getD b.toNat Qq2).1]),n0,mm,n2,mo,n1,mn) ⟨mp,((g.mono c).mono a),((k.mono c).mono a),((o.mono c).mono a),ig,ii,ih,h⟩
   rintro⟨ek,el,em,cn,bc,co,bd,cp,be⟩ po ⟨i8,n3,n4,n5,js,jt,ju,h⟩;refine Az<|Aq ?_;have ef:=i8.rG H;refine An<|Ax h fun mq h=>Ag (Ay mq)<|As 1 Z<|AE ?_;have mr:=i8.Bl (i:=0) Z;have ms:=mr.Bl (i:=0) Z;have mt:=ms.Bl (i:=0) Z;have mu:=mt.Bl (i:=0) Z;have h:=Bw.again h es;have ef:=ef.trans (Ab ((AB (i:=0) Z).trans ((AB (i:=0) Z).trans ((AB (i:=0) Z).trans (AB (i:=0) Z)))));refine AD (el,em,ek,(b+1),co,bd,cp,be,cn,bc,iy) Z ⟨mu,(js.mono ef),(jt.mono ef),(ju.mono ef),h⟩
  refine Bf<|A5<|A3 ?_;have h:=Bw.out h es;refine AY<|A8 (x,y,aa,a4,av,a5,aw,ap,ax) ⟨er,(ai.mono e),(ae.mono e),(af.mono e),h⟩
 rintro⟨e4,e5,a8,ep,ci,eq,cj,bg,a3⟩ pp ⟨i9,it,jv,jw,h⟩;have ag:=i9.rG H;refine Ao<|AO AI.e Z i9 fun pq ja iu je _=>Ad<|Bb (Int×Int×Int×Al1×Int×Alz×Value×Value) (fun⟨ew,ex,ey,ez,e0,e1,eg,eh⟩=>[(2,(Abo b1)),(3,(Abo b2)),(4,(Abo ch)),(12,(Abo ja))]) (fun⟨ew,ex,ey,ez,e0,e1,eg,eh⟩ wr=>C5 w [.box ja [No ew,No ex] 35,.row bg 78 3 (a8).length a3,.box ch [No ey,eg,No e0,eh,bg] 46,.box b2 [No 0,No 0] 35,.box b1 [No 0,Aal,No 0,Aal,Aal] 46] wr fun Oz=>AK AlB (gz H w wr Oz) a8 a3/\AS (.pair .st (.vec AlA)) (gz H w wr Oz) eg ez/\AS Al9 (gz H w wr Oz) eh e1/\(DM a8) ew ex ey ez e0 e1=some r) ?_ ?_
 ·refine Bo 1 Z ?_;have ag:=ag.trans (Ab je);have jx:=iu.Cu hH (i:=3) Z (jw.mono ag);have go:=iu.Bl (i:=3) Z;refine A1 h fun ce jy h=>Br go (WX _ _ (Av go) (hU.mono  Aj) jx jy) ?_;rintro _ pr ⟨gr,rfl,i2⟩ jz j0 gs;have ao:=i2.mono (Kk hH go jz);refine As 3 Z<|Ag (Ae Z AkU Z Lk.e)<|Yo 3 0 Z j0 Z Z Z (CB Z (CB ao.one Ps)) fun ps j1 cf=>Ak 0 Z j1 Z fun pt ei cg=>Ad<|Ao<|Ag (AJ 0 Z AI.e ei Z)<|Ag (Ba (fun _=>B8 _))<|Ag (AeL I4 (Nc _ _ _ _))<|Ad<|AL h ?_ ?_<;>intro j2 h
  ·refine An<|As 1 Z ?_;have ag:=ag.trans (Ab ((AB (i:=3) Z).trans (gs.trans (cf.trans cg))));have j3:=ei.Cu hH (i:=2) Z (jv.mono ag);have gp:=ei.Bl (i:=2) Z;refine A1 h fun e2 j4 h=>Br gp (VC _ _ (Av gp) j3 j4) ?_;rintro _ pu ⟨jf,rfl,i3⟩ j5 j6 gt;have a7:=i3.mono (Kk hH gp j5);refine As 3 Z<|Ag (Ae Z AkU Z Md.e)<|Yo 2 2 Z j6 Z Z Z (CB Z (CB a7.one Ps)) fun pv j7 en=>Ak 0 Z j7 Z fun pw j8 eo=>AE ?_;have ao:=ao.mono (Ab (cf.trans (cg.trans ((AB (i:=2) Z).trans (gt.trans (en.trans eo))))));have ag:=ag.trans (Ab ((AB (i:=2) Z).trans (gt.trans (en.trans eo))));have a7:=a7.mono (Ab (en.trans eo));refine A8 (e2.2.1,e2.2.2,ce.1.1,ce.1.2,e2.1.1,e2.1.2,gr,jf) ⟨j8,(it.mono ag),ao,a7,h⟩
  refine Au ?_;have ag:=ag.trans (Ab ((AB (i:=3) Z).trans (gs.trans (cf.trans cg))));have j9:=ei.Bl (i:=2) Z;have ao:=ao.mono (Ab (cf.trans (cg.trans (AB (i:=2) Z))));have ag:=ag.trans (Ab (AB (i:=2) Z));refine A8 (ce.2.1,ce.2.2,ce.1.1,ce.1.2,0,[],gr,Aal) ⟨j9,(it.mono ag),ao,(AS.nil _ _),h⟩
 rintro⟨ew,ex,ey,ez,e0,e1,eg,eh⟩ op ⟨ay,he1024_j424,gu,gv,h⟩;refine A6 ?_;have az:=ay.rG H;refine Ao<|Ag (AJ 0 Z AI.e ay Z)<|Ag (Ba (fun _=>B8 _))<|Ag (IX I4 (Nc _ _ _ _))<|Ad<|BG h ?_ ?_<;>intro ka h
 ·refine Ao<|Ag (Ba (fun _=>VS _))<|A1 h fun px kb h=>A9 ay (EA _ _ (Av ay) kb) fun py oq kc n6=>Ak 4 Z kc Z fun pz kd n7=>Ak 3 Z kd Z fun p0 gq n8=>Ad<|Aw<|Am ?_
  cases h
  refine Bv (.cell Z AkU Z Me.e (AP (i:=4) gq Z)) (.cell Z Ae3 Z AI.e (AP (i:=3) gq Z)) ⟨gq.ext,_,_,_,Z,(AS.nil _ _),(AS.nil _ _),Cd.nil⟩
 refine Au<|Aq<|Ao<|Ag (AJ 2 Z Me.e ay Z)<|Ag (Ba (fun _=>B8 _))<|Ak 4 Z ay Z (a:=(CB Z (CB (gu.mono az).one (CB Z (CB (gv.mono az).one (CB (row_one (ay.at (i:=1) Z)) Ps)))))) fun p1 ke jg=>Ak 3 Z ke Z fun p2 ej jh=>Ad<|Aw ?_
 cases h
 refine Bv (.cell Z AkU Z Me.e (AP (i:=4) ej Z)) (.cell Z Ae3 Z AI.e (AP (i:=3) ej Z)) ?_;have az:=az.trans (Ab (jg.trans jh));exact⟨ej.ext,_,_,_,Z,((gu.mono az).mono (OV hH)),((gv.mono az).mono (OV hH)),(ej.FV hH (i:=1) Z (he1024_j424.mono az))⟩
def C8(a0:Alq):Option Int:=
 some ((a0.2.2.length:Int))
theorem FA(a0:Alq){a b c:Value}(_h0_0:AS (.pair .st (.vec AlA)) H a (a0.1.2))(_h0_1:AS Al9 H b (a0.2.1.2))(e:AS AlB H c (a0.2.2)){r:Int}(h:C8 a0=some r):
  Qqv 9 [.agg #[No a0.1.1,a,No a0.2.1.1,b,c]] w (fun v w'=>v=No r):=by
 refine A4 6 [(0,.agg #[No a0.1.1,a,No a0.2.1.1,b,c])] func9 Z fun hL=>Ao<|BM (t:=46) Z Z hL fun g i d f _=>AA 1 Z<|Ao<|Ag (Ae Z AkU Z Ll.e)<|Ag (Af 0 Z d Z)<|Ag (AZ e)<|AA 1 Z<|Aw ?_
 cases h
 refine Ah Z ⟨d.ext,Z⟩
def IS(a:List Bool):Option ((List Bool)):=
 some a
def E2(a1:Qq5):(List Bool)×Int->Option (((List Bool)×Int)⊕((List Bool))):=fun⟨b,a⟩=>
 if a<(a1.length:Int)then AU (0<=a/\a<(a1.length:Int)) (AU (0<=a1.getD a.toNat Qq2/\a1.getD a.toNat Qq2<(b.length:Int)) (AU (Bq (a+1)) (some (Sum.inl ((b.set ((a1.getD a.toNat Qq2).toNat) true),(a+1))))))else Qzx Sum.inr (IS b)
def IT(a1:Qq5)(s:(List Bool)×Int):Option ((List Bool)):=Go.L.run (E2 a1) s
def G5(a0:Alq)(a1:Qq5):Option ((List Bool)):=
 Qq9 (C8 ((a0.1.1,a0.1.2),(a0.2.1.1,a0.2.1.2),a0.2.2)) (fun a=>AU (0<=a/\((1:Nat):Int) * a<=281474976710656/\a<=9223372036854775807) ((IT a1) ((Qzv a.toNat (false:Bool)),0)))
theorem QY{a0:Alq}{a1:Qq5}{e f g k:Value}(ad:AS (.pair .st (.vec AlA)) H e (a0.1.2))(ae:AS Al9 H f (a0.2.1.2))(af:AS AlB H g (a0.2.2))(q:AS (.int .i64) H k a1){r:(List Bool)}(h:G5 a0 a1=some r):
  Qqv 54 [.agg #[No a0.1.1,e,No a0.2.1.1,f,g],k] w (fun v w'=>∃u0,v=u0/\Cd 4 .bool H w w' u0 r):=by
 refine A4 22 [(0,.agg #[No a0.1.1,e,No a0.2.1.1,f,g]),(1,k)] func54 Z fun hL=>Ao<|BM (t:=46) Z Z hL fun w1 b1 s ay _=>AA 1 Z<|Ao<|Ag (AJ 0 Z Me.e s Z)<|A1 h fun x2 ap h=>A9 s (FA _ _ (Av s) (((a0.1.1,a0.1.2),(a0.2.1.1,a0.2.1.2),a0.2.2)) (ad.mono  Aj) (ae.mono  Aj) (af.mono  Aj) ap) fun w3 a6 aq a2=>Ax h fun ar h=>YS (r:=.bool) (z:=(false:Bool)) Alf (fun _=>Z) hH aq ar fun v4 w4 au av a3 aw=>AA 1 Z<|Bb ((List Bool)×Qq6) (fun⟨m,d⟩=>[(5,v4)]) (fun⟨m,d⟩ wr=>C5 w [.row v4 4 1 (m).length d,.box b1 [No a0.1.1,e,No a0.2.1.1,f,g] 46] wr fun Oz=>AK .bool (gz H w wr Oz) m d/\IS m=some r) ?_ ?_
 ·refine Bo 1 Z<|Ag (AZ q)<|AA 1 Z<|A2 ?_;obtain⟨u,h⟩:=AR h;refine Bj ((List Bool)×Int×Qq6×Nat) (fun⟨c,a,b,n⟩=>[(5,v4),(11,k),(12,No (a1.length:Int)),(13,No a)]) (fun⟨c,a,b,n⟩ wr=>C5 w [.row v4 4 1 (c).length b,.box b1 [No a0.1.1,e,No a0.2.1.1,f,g] 46] wr fun Oz=>AK .bool (gz H w wr Oz) c b/\DR (E2 a1) n (c,a)=some r) (fun⟨c,a,b,n⟩=>n) ((Qzv x2.toNat (false:Bool)),0,au,u) Z ⟨av,aw,h⟩ ?_;rintro⟨c,a,b,nn44⟩ a4 ⟨l,p,h⟩;obtain⟨u,a7,rfl,h,x⟩:=AQ h;refine A7 1 Z<|A6<|AL h ?_ ?_<;>intro ag h
  ·refine Au<|Aq<|A6<|A2<|Ao<|Ax h fun y h=>AW q a.toNat (Cx y) (AM y) ?_;rintro a8 _ rfl ah;refine Ag (AT ah (hH.trans l.arg))<|AA 1 Z<|An<|As 2 Z<|Ax h fun o h=>Ki 0 Z Alf ZO.e l Z ((a1.getD a.toNat Qq2).toNat) (Cx o) (AM o) fun a9 ai=>Kl 0 ((a1.getD a.toNat Qq2).toNat) true Z Z hH l Z p ai (AM o) Z fun ba aj ak ax al=>AE<|Az<|Aq<|An<|Ax h fun am h=>Ag (Ay am)<|As 1 Z<|AE ?_;have h:=Bw.again h x;refine AD (_,_,_,_) Z ⟨ak,al,h⟩
  refine Bf<|A5<|A3 ?_;have h:=Bw.out h x;refine AY<|A8 (_,_) ⟨l,p,h⟩
 rintro⟨m,d⟩ a5 ⟨aa,ac,h⟩;refine A7 2 Z<|Aw ?_
 cases h
 refine Ah Z ⟨aa.ext,_,Z,(aa.FV hH (i:=0) Z ac)⟩
def Mn(a:Qq5):Option (Qq5):=
 some a
def Jd(a0:Alr):Qq5×Int->Option (Al6⊕(Qq5)):=fun⟨b,a⟩=>
 if a<(a0.length:Int)then AU (0<=a/\a<(a0.length:Int)) (AU (Go.E.Fz 8 (b.length+([(a0.getD a.toNat Qq2).1]).length)) (AU (Bq (a+1)) (some (Sum.inl ((b++[(a0.getD a.toNat Qq2).1]),(a+1))))))else Qzx Sum.inr (Mn b)
def PG(a0:Alr)(s:Al6):Option (Qq5):=Go.L.run (Jd a0) s
def IB(a0:Alr):Option (Qq5):=
 (PG a0) (([]:Qq5),0)
theorem PI{a0:Alr}{g:Value}(q:AS AlA H g a0){r:Qq5}(h:IB a0=some r):
  Qqv 96 [g] w (fun v w'=>∃u0,v=u0/\Cd 3 (.int .i64) H w w' u0 r):=by
 refine A4 19 [(0,g)] func96 Z fun hL=>A7 1 Z<|Bo 1 Z ?_;obtain⟨ao,au,ap⟩:=Cp (.int .i64) H 3 hL;refine Ad<|Bb (Qq5×Value×Qq6) (fun⟨k,j,e⟩=>[(3,j)]) (fun⟨k,j,e⟩ wr=>C5 w [.row j 3 1 (k).length e] wr fun Oz=>AK (.int .i64) (gz H w wr Oz) k e/\Mn k=some r) ?_ ?_
 ·refine Bo 1 Z<|Ag (AZ q)<|AA 1 Z<|A2 ?_;obtain⟨s,h⟩:=AR h;refine Bj (Qq5×Int×Value×Qq6×Nat) (fun⟨c,a,d,b,n⟩=>[(3,d),(6,g),(7,No (a0.length:Int)),(8,No a)]) (fun⟨c,a,d,b,n⟩ wr=>C5 w [.row d 3 1 (c).length b] wr fun Oz=>AK (.int .i64) (gz H w wr Oz) c b/\DR (Jd a0) n (c,a)=some r) (fun⟨c,a,d,b,n⟩=>n) (([]:Qq5),0,Aal,[],s) Z ⟨ao,ap,h⟩ ?_;rintro⟨c,a,d,b,nn46⟩ av ⟨o,f,h⟩;obtain⟨s,ay,rfl,h,t⟩:=AQ h;refine A7 1 Z<|A6<|AL h ?_ ?_<;>intro ad h
  ·refine Au<|Aq<|A6<|A2<|Ao<|Ax h fun u h=>AW q a.toNat (Cx u) (AM u) ?_;rintro az _ ⟨_,_,rfl,rfl,rfl⟩ ae;refine Ag (BI ae (hH.trans o.arg))<|AO Fk.e Z o fun a1 a2 af z _=>Ak 0 Z af Z fun a3 x aa=>Ad<|An<|As 1 Z<|Ag (Ae Z Afi Z BB.e)<|Ag (Af 0 Z x Z)<|Bx [(a0.getD a.toNat Qq2).1] (r:=(.int .i64)) (fun _=>FX _ _) x (.c1 Z .nil) fun a4 a5 aw ag ab ah=>Ax h fun ai h=>?_;have f:=f.mono (Ab (z.trans (aa.trans ab)));refine Bp (r:=(.int .i64)) 1 c [(a0.getD a.toNat Qq2).1] Z Aco ag Z f ah ai fun aq a6 aj ak ar p=>As 1 Z<|AE<|Az<|Aq<|An<|Ax h fun al h=>Ag (Ay al)<|As 1 Z<|AE ?_;have am:=ak.Bl (i:=0) Z;have h:=Bw.again h t;have p:=p.mono (Ab (AB (i:=0) Z))
   refine AD (_,_,_,_,_) Z ⟨am,p,h⟩
  refine Bf<|A5<|A3 ?_;have h:=Bw.out h t;refine AY<|A8 (_,_,_) ⟨o,f,h⟩
 rintro⟨k,j,e⟩ ax ⟨y,ac,h⟩;refine A7 2 Z<|Aw ?_
 cases h
 refine Ah Z ⟨y.ext,_,Z,(y.FV hH (i:=0) Z ac)⟩
def B3(a:Qq5):Option (Qq5):=
 some a
def Is(a:Alr):Option (Qq5):=
 Qq9 (IB a) (fun b=>B3 b)
def FB(a0:Alq)(a1:Qv):Qq5×Int->Option (Al6⊕(Qq5)):=fun⟨b,a⟩=>
 if a<(a0.2.2.length:Int)then AU (0<=a/\a<(a0.2.2.length:Int)) (Qq9 (D4 ((a0.2.2.getD a.toNat Qq2).1,(a0.2.2.getD a.toNat Qq2).2.1,(a0.2.2.getD a.toNat Qq2).2.2) a1.f.2.2.2.1) (fun c=>if 0<c.1 then AU (Go.E.Fz 8 (b.length+([a]).length)) (AU (Bq (a+1)) (some (Sum.inl ((b++[a]),(a+1)))))else AU (Bq (a+1)) (some (Sum.inl (b,(a+1))))))else Qzx Sum.inr (B3 b)
def It(a0:Alq)(a1:Qv)(s:Al6):Option (Qq5):=Go.L.run (FB a0 a1) s
def E8(a0:Alq)(a1:Qv):Option (Qq5):=
 if a1.f.1=1 then AU (0<=(0:Int)/\(0:Int)<(a1.f.2.1.length:Int)) (Qq9 (HC (a0.1.1,a0.1.2) (a1.f.2.1.getD ((0:Int).toNat) Qq2)) (fun a=>Is a.1))else(if a1.f.1=2 then Qq9 (ER (a0.1.1,a0.1.2) a1.f.2.1) (fun b=>Qq9 (IB b.1) (fun c=>B3 c))else(if a1.f.1=3 then AU (0<=(0:Int)/\(0:Int)<(a1.f.2.1.length:Int)) (AU (0<=(1:Int)/\(1:Int)<(a1.f.2.1.length:Int)) (Qq9 (Gl (a0.1.1,a0.1.2) (a1.f.2.1.getD ((0:Int).toNat) Qq2) (a1.f.2.1.getD ((1:Int).toNat) Qq2) a1.f.2.2.2.2.1) (fun d=>B3 d.1)))else(if a1.f.1=4 then(It a0 a1) (([]:Qq5),0)else(if a1.f.1=5 then Qq9 (GX (a0.2.1.1,a0.2.1.2) a1.f.2.2.1) (fun e=>B3 e.1)else(if a1.f.1=6 then Qq9 (FN (a0.2.1.1,a0.2.1.2) a1.f.2.2.1 a1.f.2.2.2.2.1 a1.f.2.2.2.2.2.1) (fun g=>B3 g.1)else(if a1.f.1=7 then Qq9 (GY (a0.2.1.1,a0.2.1.2) a1.f.2.2.1 a1.f.2.2.2.1) (fun h=>B3 h.1)else B3 ([]:Qq5)))))))
theorem Qu(hU:HG H){a0:Alq}{a1:Qv}{x y p z aa ab:Value}(al:AS (.pair .st (.vec AlA)) H x (a0.1.2))(bo:AS Al9 H y (a0.2.1.2))(ck:AS AlB H p (a0.2.2))(am:AS .st H z (a1.f.2.1))(cl:AS .byte H aa (a1.f.2.2.2.1))(_h1_2:AS .Cy H ab (a1.f.2.2.2.2.2.2)){r:Qq5}(h:E8 a0 a1=some r):
  Qqv 55 [.agg #[No a0.1.1,x,No a0.2.1.1,y,p],.agg #[No a1.f.1,z,Abu a1.f.2.2.1,aa,No a1.f.2.2.2.2.1,No a1.f.2.2.2.2.2.1,ab]] w (fun v w'=>∃u0,v=u0/\Cd 3 (.int .i64) H w w' u0 r):=by
 refine A4 121 [(0,.agg #[No a0.1.1,x,No a0.2.1.1,y,p]),(1,.agg #[No a1.f.1,z,Abu a1.f.2.2.1,aa,No a1.f.2.2.2.2.1,No a1.f.2.2.2.2.2.1,ab])] func55 Z fun hL=>Ao<|BM (t:=46) Z Z hL fun w1 b1 fi fs _=>BM (t:=30) Z Z fi fun w2 b2 fj ft _=>AA 1 Z<|Bo 1 Z ?_;obtain⟨b,fu,af⟩:=Cp (.int .i64) H 3 fj;refine Ad<|Bb (Qq5×Value×Qq6) (fun⟨ak,ag,s⟩=>[(5,ag)]) (fun⟨ak,ag,s⟩ wr=>C5 w [.row ag 3 1 (ak).length s,.box b2 [No a1.f.1,z,Abu a1.f.2.2.1,aa,No a1.f.2.2.2.2.1,No a1.f.2.2.2.2.2.1,ab] 30,.box b1 [No a0.1.1,x,No a0.2.1.1,y,p] 46] wr fun Oz=>AK (.int .i64) (gz H w wr Oz) ak s/\B3 ak=some r) ?_ ?_
 ·refine Ao<|Ag (Ae Z AjR Z BB.e)<|Ag (Af 1 Z b Z)<|Ad<|A2<|A7 2 Z<|AL h ?_ ?_<;>intro dc h
  ·refine Bb (Alr×Value) (fun⟨u,o⟩=>[(6,o)]) (fun⟨u,o⟩ wr=>C5 w [.row Aal 3 1 (([]:Qq5)).length ([]),.box b2 [No a1.f.1,z,Abu a1.f.2.2.1,aa,No a1.f.2.2.2.2.1,No a1.f.2.2.2.2.2.1,ab] 30,.box b1 [No a0.1.1,x,No a0.2.1.1,y,p] 46] wr fun Oz=>AS AlA (gz H w wr Oz) o u/\AK (.int .i64) (gz H w wr Oz) (([]:Qq5)) ([])/\Is u=some r) ?_ ?_
   ·refine LX (Qqz 0 6 (.h2 6 (Qqz 7 3 (.h 10 (.q 11 (.tail 12)))) 10 (.h 6 (Qqz 7 3 (.q 11 (.tail 12)))))) mixed Qqb (fun fv br=>?_);have j:=b.call br;have bd:=AH b br;refine B2 Z (Ae Z AkU Z Lk.e) Z<|B2 Z (GS 2 2 Z Lk.e j Z Z) Z<|B2 Z (Ae Z AjR Z H3.e) Z<|B2 Z (Af 1 Z j Z) Z<|Ax h fun bs h=>CP Z Z Z Ae5 am ((0:Int).toNat) (Cx bs) (AM bs) Z ?_;rintro fw _ rfl dd;refine B2 Z (AT dd (hH.trans j.arg)) Z<|V1 ?_ ?_
    ·refine A1 h fun bp an h=>BC Z Z Z (fun e7 ah=>Nz _ _ (Av (j.call ah)) (hU.mono  Aj) (al.mono  Aj) an) ?_;rintro e7 _ fx ah ao ⟨cm,rfl,cb⟩;have ap:=j.call ah;have cn:=AH j ah;have de:=ap.call ao;have co:=AH ap ao;have ac:=cb.Cu hH ap ao;refine B9 3 Z<|JH Z AI.e Z Z de fun fy fz bt be=>B9 1 Z<|Bt (fun f0 bu=>?_);have df:=bt.call bu;have bf:=AH bt bu;refine Ak 0 Z df Z fun f1 dg bg=>AE ?_;have dh:=dg.Bl (i:=0) Z;have af:=af.mono (Ab (bd.trans (cn.trans (co.trans (be.trans (bf.trans (bg.trans (AB (i:=0) Z))))))));have ac:=ac.mono (Ab (be.trans (bf.trans (bg.trans (AB (i:=0) Z)))));refine A8 (_,_) ⟨dh,ac,af,h⟩
    refine A1 h fun bp an h=>JH Z AI.e Z Z j fun f2 f3 aq cp=>BC Z Z Z (fun e8 ai=>Nz _ _ (Av (aq.call ai)) (hU.mono  Aj) (al.mono  Aj) an) ?_;rintro e8 _ f4 ai ar ⟨cq,rfl,cc⟩;have au:=aq.call ai;have cr:=AH aq ai;have bv:=au.call ar;have cs:=AH au ar;have ad:=cc.Cu hH au ar;refine B9 4 Z<|Bt (fun f5 bw=>?_);have di:=bv.call bw;have bh:=AH bv bw;refine Ak 0 Z di Z fun f6 dj bi=>AE ?_;have dk:=dj.Bl (i:=0) Z;have af:=af.mono (Ab (bd.trans (cp.trans (cr.trans (cs.trans (bh.trans (bi.trans (AB (i:=0) Z))))))));have ad:=ad.mono (Ab (bh.trans (bi.trans (AB (i:=0) Z))));refine A8 (_,_) ⟨dk,ad,af,h⟩
   rintro⟨u,o⟩ fn ⟨av,bq,he142_r3,h⟩;refine An<|As 1 Z<|A1 h fun e9 dl h=>Br av (PI _ _ (Av av) bq dl) ?_;rintro ct f7 ⟨_,rfl,cd⟩ dm bx cu;obtain⟨dn,bx,cu,aw⟩:=cd.take hH av dm;refine As 1 Z<|AE<|Az ?_;have dp:=bx.Bl (i:=1) Z;have aw:=aw.mono (Ab (AB (i:=1) Z));refine A8 (_,_,_) ⟨dp,aw,h⟩
  refine A7 2 Z<|AL h ?_ ?_<;>intro dq h
  ·refine Ao<|Ag (Ae Z AkU Z Lk.e)<|Ag (GS 2 2 Z Lk.e b Z Z)<|Ag (Ae Z AjR Z H3.e)<|Ag (Af 1 Z b Z)<|A1 h fun f8 dr h=>Br b (QV (a0:=(a0.1.1,a0.1.2)) _ _ (Av b) (hU.mono  Aj) (al.mono  Aj) (am.mono  Aj) dr) ?_;rintro _ f9 ⟨fk,rfl,ce⟩ ds dt fl;have ae:=ce.Cu hH b ds;refine As 3 Z<|AO AI.e Z dt fun ga gb du cv _=>As 1 Z<|Ak 0 Z du Z fun gc ax cw=>Ad<|An<|As 1 Z<|A1 h fun fa dv h=>?_;have ae:=ae.mono (Ab (cv.trans cw));refine Br ax (PI _ _ (Av ax) ae dv) ?_;rintro cx gd ⟨_,rfl,cf⟩ dw bz cy;obtain⟨dx,bz,cy,ay⟩:=cf.take hH ax dw;refine As 1 Z<|AE<|Az ?_;have dy:=bz.Bl (i:=1) Z;have dz:=dy.Bl (i:=1) Z;have ay:=ay.mono (Ab ((AB (i:=1) Z).trans (AB (i:=1) Z)));refine A8 (_,_,_) ⟨dz,ay,h⟩
  refine A7 2 Z<|AL h ?_ ?_<;>intro d0 h
  ·refine LX (Qqz 0 12 (.h 12 (Qqz 13 4 (.tail 17)))) mixed Qqb (fun ge d1=>?_);have e:=b.call d1;refine B2 Z (Ae Z AkU Z Lk.e) Z<|B2 Z (GS 2 2 Z Lk.e e Z Z) Z<|B2 Z (Ae Z AjR Z H3.e) Z<|B2 Z (Af 1 Z e Z) Z<|Ax h fun b0 h=>CP Z Z Z Ae5 am ((0:Int).toNat) (Cx b0) (AM b0) Z ?_;rintro gf _ rfl d2;refine B2 Z (AT d2 (hH.trans e.arg)) Z<|B2 Z (Ae Z AjR Z H3.e) Z<|B2 Z (Af 1 Z e Z) Z<|Ax h fun b3 h=>CP Z Z Z Ae5 am ((1:Int).toNat) (Cx b3) (AM b3) Z ?_;rintro gg _ rfl d3;refine B2 Z (AT d3 (hH.trans e.arg)) Z<|B2 Z (Ae Z AjR Z BB.e) Z<|B2 Z (Af 1 Z e Z) Z<|A1 h fun fb d4 h=>BC Z Z Z (fun fc az=>S4 _ _ (Av (e.call az)) (hU.mono  Aj) (al.mono  Aj) d4) ?_;rintro fc _ gh az a2 ⟨cz,rfl,cg⟩
   have a3:=e.call az;have a4:=a3.call a2;have c0:=AH a3 a2;obtain⟨d5,a4,c0,a5⟩:=cg.take hH a3 a2;refine B9 4 Z<|Bt (fun gi b4=>?_);have d6:=a4.call b4;have c2:=AH a4 b4;refine AE<|Az ?_;have d7:=d6.Bl (i:=1) Z;have a5:=a5.mono (Ab (c2.trans (AB (i:=1) Z)));refine A8 (_,_,_) ⟨d7,a5,h⟩
  refine A7 2 Z<|AL h ?_ ?_<;>intro d8 h
  ·refine Ao<|Ag (Ae Z AkU Z Ll.e)<|Ag (Af 2 Z b Z)<|Ag (AZ ck)<|AA 1 Z<|A2 ?_;obtain⟨a6,h⟩:=AR h;refine Bj (Qq5×Int×Value×Qq6×Nat) (fun⟨g,a,k,c,n⟩=>[(3,(Abo b2)),(5,k),(63,p),(64,No (a0.2.2.length:Int)),(65,No a)]) (fun⟨g,a,k,c,n⟩ wr=>C5 w [.row k 3 1 (g).length c,.box b2 [No a1.f.1,z,Abu a1.f.2.2.1,aa,No a1.f.2.2.2.2.1,No a1.f.2.2.2.2.2.1,ab] 30,.box b1 [No a0.1.1,x,No a0.2.1.1,y,p] 46] wr fun Oz=>AK (.int .i64) (gz H w wr Oz) g c/\DR (FB a0 a1) n (g,a)=some r) (fun⟨g,a,k,c,n⟩=>n) (([]:Qq5),0,Aal,[],a6) Z ⟨b,af,h⟩ ?_;rintro⟨g,a,k,c,nn221⟩ fo ⟨a7,d,h⟩;obtain⟨a6,gj,rfl,h,a8⟩:=AQ h;refine A7 1 Z<|A6<|AL h ?_ ?_<;>intro d9 h
   ·refine Au<|Aq<|A6<|A2<|Bo 1 Z<|Ax h fun b5 h=>AW ck a.toNat (Cx b5) (AM b5) ?_;rintro gk _ ⟨_,_,rfl,⟨e225v0,rfl,e225h0⟩,⟨_,_,rfl,⟨e225v1,rfl,e225h1⟩,⟨e225v2,rfl,e225h2⟩⟩⟩ ea;refine Ag (BI ea (hH.trans a7.arg))<|AO GK.e Z a7 fun gl gm eb bj _=>As 1 Z<|Ak 0 Z eb Z (a:=(CB e225h0.one (CB e225h1.one (CB e225h2.one Ps)))) fun gn aj bk=>Ad<|Ao<|Ag (AJ 0 Z GK.e aj Z)<|Ag (Ae Z AjR Z Fy.e)<|Ag (Af 2 Z aj Z)<|A1 h fun go ec h=>A9 aj (Qq (a0:=((a0.2.2.getD a.toNat Qq2).1,(a0.2.2.getD a.toNat Qq2).2.1,(a0.2.2.getD a.toNat Qq2).2.2)) _ _ (Av aj) (e225h0.mono  Aj) (e225h1.mono  Aj) (e225h2.mono  Aj) (cl.mono  Aj) ec) fun gp fp ed bl=>As 3 Z<|AO AI.e Z ed fun gq gr ee bm _=>As 1 Z<|Ak 0 Z ee Z fun gs b6 bn=>Ad<|A7 2 Z ?_
    refine AL h ?_ ?_<;>intro ef h
    ·refine An<|As 2 Z<|Bx [a] (r:=(.int .i64)) (fun _=>FX _ _) b6 (.c1 Z .nil) fun gt gu fq eg c3 eh=>Ax h fun ei h=>?_;have d:=d.mono (Ab (bj.trans (bk.trans (bl.trans (bm.trans (bn.trans c3))))));refine Bp (r:=(.int .i64)) 2 g [a] Z Aco eg Z d eh ei fun fd gv ej ek fm a9=>As 1 Z<|AE<|Az<|Aq<|An<|Ax h fun el h=>Ag (Ay el)<|As 1 Z<|AE ?_;have em:=ek.Bl (i:=0) Z;have en:=em.Bl (i:=0) Z;have h:=Bw.again h a8;have a9:=a9.mono (Ab ((AB (i:=0) Z).trans (AB (i:=0) Z)));refine AD (_,_,_,_,_) Z ⟨en,a9,h⟩
    refine Au<|Az<|Aq<|An<|Ax h fun eo h=>Ag (Ay eo)<|As 1 Z<|AE ?_;have ep:=b6.Bl (i:=0) Z;have eq:=ep.Bl (i:=0) Z;have h:=Bw.again h a8;have d:=d.mono (Ab (bj.trans (bk.trans (bl.trans (bm.trans (bn.trans ((AB (i:=0) Z).trans (AB (i:=0) Z))))))));refine AD (_,_,_,_,_) Z ⟨eq,d,h⟩
   refine Bf<|A5<|A3 ?_;have h:=Bw.out h a8;refine AY<|Az<|A8 (_,_,_) ⟨a7,d,h⟩
  refine A7 2 Z<|AL h ?_ ?_<;>intro er h
  ·refine An<|Ag (Ae Z AkU Z Md.e)<|Ag (GS 2 2 Z Md.e b Z Z)<|Ag (Ae Z AjR Z Dl.e)<|Ag (Af 1 Z b Z)<|A1 h fun fe es h=>Br b (RE (a0:=(a0.2.1.1,a0.2.1.2)) _ _ (Av b) (bo.mono  Aj) es) ?_;rintro _ gw ⟨c4,rfl,ch⟩ et b7 c5;obtain⟨eu,b7,c5,ba⟩:=ch.take hH b et;refine As 4 Z<|AE<|Az ?_;have ev:=b7.Bl (i:=1) Z;have ba:=ba.mono (Ab (AB (i:=1) Z));refine A8 (_,_,_) ⟨ev,ba,h⟩
  refine A7 2 Z<|AL h ?_ ?_<;>intro ew h
  ·refine An<|Ag (Ae Z AkU Z Md.e)<|Ag (GS 2 2 Z Md.e b Z Z)<|Ag (Ae Z AjR Z Dl.e)<|Ag (Af 1 Z b Z)<|Ag (Ae Z AjR Z BB.e)<|Ag (Af 1 Z b Z)<|Ag (Ae Z AjR Z BB.e)<|Ag (Af 1 Z b Z)<|A1 h fun ff ex h=>Br b (Qm (a0:=(a0.2.1.1,a0.2.1.2)) _ _ (Av b) (bo.mono  Aj) ex) ?_;rintro _ gx ⟨c6,rfl,ci⟩ ey b8 c7;obtain⟨ez,b8,c7,bb⟩:=ci.take hH b ey;refine As 4 Z<|AE<|Az ?_;have e0:=b8.Bl (i:=1) Z;have bb:=bb.mono (Ab (AB (i:=1) Z));refine A8 (_,_,_) ⟨e0,bb,h⟩
  refine A7 2 Z<|AL h ?_ ?_<;>intro e1 h
  ·refine An<|Ag (Ae Z AkU Z Md.e)<|Ag (GS 2 2 Z Md.e b Z Z)<|Ag (Ae Z AjR Z Dl.e)<|Ag (Af 1 Z b Z)<|Ag (Ae Z AjR Z Fy.e)<|Ag (Af 1 Z b Z)<|A1 h fun fg e2 h=>Br b (RF (a0:=(a0.2.1.1,a0.2.1.2)) _ _ (Av b) (bo.mono  Aj) (cl.mono  Aj) e2) ?_;rintro _ gy ⟨c8,rfl,cj⟩ e3 b9 c9;obtain⟨e4,b9,c9,bc⟩:=cj.take hH b e3;refine As 4 Z<|AE<|Az ?_;have e5:=b9.Bl (i:=1) Z;have bc:=bc.mono (Ab (AB (i:=1) Z));refine A8 (_,_,_) ⟨e5,bc,h⟩
  refine Au<|Az<|A8 (_,_,_) ⟨b,af,h⟩
 rintro⟨ak,ag,s⟩ fr ⟨ca,da,h⟩;refine A7 2 Z<|Aw ?_
 cases h
 refine Ah Z ⟨ca.ext,_,Z,(ca.FV hH (i:=0) Z da)⟩
end
def DO(a:List Bool):Option ((List Bool)):=
 some a
def DP(a:Int)(b:List Bool):Option (((List Bool)×Int)⊕((List Bool))):=
 AU (Bq (a+1)) (some (Sum.inl (b,(a+1))))
def C9(a1:Qv)(d:Int)(c:(List Bool)):(List Bool)×Int->Option (((List Bool)×Int)⊕(((List Bool)×Int)⊕((List Bool)))):=fun⟨b,a⟩=>
 if a<(c.length:Int)then AU (0<=a/\a<(c.length:Int)) (if a1.f.1=8 then AU (0<=a/\a<(b.length:Int)) (AU (0<=a/\a<(b.length:Int)) (AU (Bq (a+1)) (some (Sum.inl ((b.set a.toNat (bif b.getD a.toNat Qq2 then c.getD a.toNat Qq2 else false)),(a+1))))))else AU (0<=a/\a<(b.length:Int)) (AU (0<=a/\a<(b.length:Int)) (AU (Bq (a+1)) (some (Sum.inl ((b.set a.toNat (bif b.getD a.toNat Qq2 then true else c.getD a.toNat Qq2)),(a+1)))))))else Qzx Sum.inr ((DP d) b)
def FL(a1:Qv)(a:Int)(b:(List Bool))(s:(List Bool)×Int):Option (((List Bool)×Int)⊕((List Bool))):=Go.L.run (C9 a1 a b) s
def BU(a0:Alq)(a1:Qv)(self:Alq->Qv->Option ((List Bool))):(List Bool)×Int->Option (((List Bool)×Int)⊕((List Bool))):=fun⟨b,a⟩=>
 if a<((a1.f.2.2.2.2.2.2.drop (1:Int).toNat).length:Int)then AU (0<=a/\a<((a1.f.2.2.2.2.2.2.drop (1:Int).toNat).length:Int)) (Qq9 (self ((a0.1.1,a0.1.2),(a0.2.1.1,a0.2.1.2),a0.2.2) ((a1.f.2.2.2.2.2.2.drop (1:Int).toNat).getD a.toNat Qq2)) (fun c=>(FL a1 a c) (b,0)))else Qzx Sum.inr (DO b)
def DQ(a0:Alq)(a1:Qv)(self:Alq->Qv->Option ((List Bool)))(s:(List Bool)×Int):Option ((List Bool)):=Go.L.run (BU a0 a1 self) s
def CI(a0:Alq)(a1:Qv)(self:Alq->Qv->Option ((List Bool)))(a:List Bool):Option ((List Bool)):=
 AU (0<=(1:Int)/\(1:Int)<=(a1.f.2.2.2.2.2.2.length:Int)) ((DQ a0 a1 self) (a,0))
def CA(a0:Alq)(a1:Qv)(self:Alq->Qv->Option ((List Bool)))(c:(List Bool)):(List Bool)×Int->Option (((List Bool)×Int)⊕((List Bool))):=fun⟨b,a⟩=>
 if a<(c.length:Int)then AU (0<=a/\a<(b.length:Int)) (AU (0<=a/\a<(b.length:Int)) (AU (Bq (a+1)) (some (Sum.inl ((b.set a.toNat (!(b.getD a.toNat Qq2))),(a+1))))))else Qzx Sum.inr ((CI a0 a1 self) b)
def FM(a0:Alq)(a1:Qv)(self:Alq->Qv->Option ((List Bool)))(a:(List Bool))(s:(List Bool)×Int):Option ((List Bool)):=Go.L.run (CA a0 a1 self a) s
def EE(self:Alq->Qv->Option ((List Bool)))(a0:Alq)(a1:Qv):Option ((List Bool)):=
 Qq9 (Pe a1.f.1) (fun c=>if c then Qq9 (E8 ((a0.1.1,a0.1.2),(a0.2.1.1,a0.2.1.2),a0.2.2) a1) (fun d=>Qq9 (G5 ((a0.1.1,a0.1.2),(a0.2.1.1,a0.2.1.2),a0.2.2) d) (fun b=>some b))else AU (0<=(0:Int)/\(0:Int)<(a1.f.2.2.2.2.2.2.length:Int)) (Qq9 (self ((a0.1.1,a0.1.2),(a0.2.1.1,a0.2.1.2),a0.2.2) (a1.f.2.2.2.2.2.2.getD ((0:Int).toNat) Qq2)) (fun a=>if a1.f.1=10 then(FM a0 a1 self a) (a,0)else(CI a0 a1 self) a)))
def E3(self:Alq->Qv->Option ((List Bool))):Prop:=∀(w:World) (H:PH) (hH:Le H (hp w)) (hU:HG H) {a0:Alq}{a1:Qv}{a:Value}{b:Value}{c:Value}{d:Value}{e:Value}{g:Value} (j:AS (.pair .st (.vec AlA)) H a (a0.1.2)) (k:AS Al9 H b (a0.2.1.2)) (l:AS AlB H c (a0.2.2)) (m:AS .st H d (a1.f.2.1)) (n:AS .byte H e (a1.f.2.2.2.1)) (o:AS .Cy H g (a1.f.2.2.2.2.2.2)) {r:(List Bool)} (h:self a0 a1=some r),Ok prog 23 [.agg #[No a0.1.1,a,No a0.2.1.1,b,c],.agg #[No a1.f.1,d,Abu a1.f.2.2.1,e,No a1.f.2.2.2.2.1,No a1.f.2.2.2.2.2.1,g]] w (fun v w'=>Ext w w'/\∃i,v=i/\Cd 4 .bool H w w' i r)
def B1:Nat->Alq->Qv->Option ((List Bool))
 | 0=>fun _ _=>none
 | n+1=>EE (B1 n)
def He:Alq->Qv->Option ((List Bool)):=B1 1000
theorem Nk(self:Alq->Qv->Option ((List Bool)))(hself:E3 self):E3 (EE self):=by
 intro w H hH hU a0 a1 e g k ad ae af au av aw dc dd a8 r h;unfold E3 at hself;refine A4 88 [(0,.agg #[No a0.1.1,e,No a0.2.1.1,g,k]),(1,.agg #[No a1.f.1,ad,Abu a1.f.2.2.1,ae,No a1.f.2.2.2.2.1,No a1.f.2.2.2.2.2.1,af])] func23 Z fun hL=>Ao<|BM (t:=46) Z Z hL fun w1 b1 ds d7 _=>BM (t:=30) Z Z ds fun w2 b2 bw d8 _=>AA 1 Z<|A6<|Ao<|Ag (Ae Z AjR Z BB.e)<|Ag (Af 0 Z bw Z)<|A1 h fun x3 dt h=>A9 bw (UC _ _ (Av bw) dt) fun w4 ep am d9=>Ad<|Bi h ?_ ?_<;>intro du h
 ·refine BZ (Qqz 0 3 (.h 3 (.h 4 (.q 5 (.tail 6))))) mixed Qqb (fun w7 dv=>?_);have bj:=am.call dv
  iterate 2 refine B2 Z (AJ 1 Z Me.e bj Z) Z ?_
  refine B2 Z (AJ 0 Z Fj.e bj Z) Z<|A1 h fun x9 dw h=>BC Z Z Z (fun dx a9=>Qu _ _ (Av (bj.call a9)) (hU.mono  Aj) (au.mono  Aj) (av.mono  Aj) (aw.mono  Aj) (dc.mono  Aj) (dd.mono  Aj) (a8.mono  Aj) dw) ?_;rintro dx dz eq a9 ba ⟨_,rfl,bx⟩;have bb:=bj.call a9;have ax:=bb.call ba;have d0:=AH bb ba;have s:=bx.Cu hH bb ba;refine A1 h fun er de h=>BC Z Z Z (fun dy an=>QY _ _ (Av (ax.call an)) (au.mono  Aj) (av.mono  Aj) (aw.mono  Aj) (s.mono (Ab (AH ax an))) de) ?_;rintro dy d1 es an bc ⟨_,rfl,bz⟩;have bd:=ax.call an;have ck:=AH ax an;have s:=s.mono (Ab ck);have be:=bd.call bc;have bk:=AH bd bc;obtain⟨ea,be,bk,bf⟩:=bz.take hH bd bc;have s:=s.mono (Ab bk);refine B9 1 Z<|Bt (fun et b0=>?_);have b3:=be.call b0;have bl:=AH be b0;have s:=s.mono (Ab bl);have bf:=bf.mono (Ab bl);refine Ad<|Aw<|Am ?_
  cases h
  refine Ah Z ⟨b3.ext,_,Z,(b3.FV hH (i:=0) Z bf)⟩
 refine Au<|Aq<|Ao<|Ag (AJ 1 Z Me.e am Z)<|AA 2 Z<|Bo 1 Z<|Ag (Ae Z AjR Z Lj.e)<|Ag (Af 0 Z am Z)<|Ax h fun b4 h=>AW a8 ((0:Int).toNat) (Cx b4) (AM b4) ?_;rintro eu _ e20t0 df;obtain⟨_,_,rfl,rfl,⟨_,_,rfl,⟨e20v1,rfl,e20h1⟩,⟨_,_,rfl,rfl,⟨_,_,rfl,⟨e20v3,rfl,e20h3⟩,⟨_,_,rfl,rfl,⟨_,_,rfl,rfl,⟨e20v6,rfl,e20h6⟩⟩⟩⟩⟩⟩⟩:=Go.E.Rp.Ev e20t0;refine Ag (BI df (hH.trans am.arg))<|A1 h fun bm dg h=>Aay [.agg #[No a0.1.1,e,No a0.2.1.1,g,k]] [] Z Z am (hself _ _ (Av am) (hU.mono  Aj) (au.mono  Aj) (av.mono  Aj) (aw.mono  Aj) (e20h1.mono  Aj) (e20h3.mono  Aj) (e20h6.mono  Aj) dg) ?_;rintro d ev ⟨_,rfl,b5⟩ dh ao cl;obtain⟨b6,ao,cl,b7⟩:=b5.take hH am dh;refine AA 1 Z ?_
 refine Bb ((List Bool)×Qq6) (fun⟨aq,ah⟩=>[(3,(Abo b2)),(5,.func (.func 23) #[.agg #[No a0.1.1,e,No a0.2.1.1,g,k]] #[]),(6,d)]) (fun⟨aq,ah⟩ wr=>C5 w [.row d 4 1 (aq).length ah,.box b2 [No a1.f.1,ad,Abu a1.f.2.2.1,ae,No a1.f.2.2.2.2.1,No a1.f.2.2.2.2.2.1,af] 30,.box b1 [No a0.1.1,e,No a0.2.1.1,g,k] 46] wr fun Oz=>AK .bool (gz H w wr Oz) aq ah/\(CI a0 a1 self) aq=some r) ?_ ?_
 ·refine Ao<|Ag (Ae Z AjR Z BB.e)<|Ag (Af 1 Z ao Z)<|AA 1 Z<|AL h ?_ ?_<;>intro di h
  ·refine Bo 1 Z<|Ag (Tc 0 Z ao Z)<|AA 1 Z<|A2 ?_;obtain⟨b8,h⟩:=AR h;refine Bj ((List Bool)×Int×Qq6×Nat) (fun⟨ac,c,ab,n⟩=>[(3,(Abo b2)),(5,.func (.func 23) #[.agg #[No a0.1.1,e,No a0.2.1.1,g,k]] #[]),(6,d),(32,No (bm.length:Int)),(33,No c)]) (fun⟨ac,c,ab,n⟩ wr=>C5 w [.row d 4 1 (ac).length ab,.box b2 [No a1.f.1,ad,Abu a1.f.2.2.1,ae,No a1.f.2.2.2.2.1,No a1.f.2.2.2.2.2.1,af] 30,.box b1 [No a0.1.1,e,No a0.2.1.1,g,k] 46] wr fun Oz=>AK .bool (gz H w wr Oz) ac ab/\DR (CA a0 a1 self bm) n (ac,c)=some r) (fun⟨ac,c,ab,n⟩=>n) (bm,0,b6,b8) Z ⟨ao,b7,h⟩ ?_;rintro⟨ac,c,ab,nn67⟩ eb ⟨ay,az,h⟩;obtain⟨b8,ew,rfl,h,b9⟩:=AQ h;refine A7 1 Z<|A6<|AL h ?_ ?_<;>intro dj h
   ·refine Au<|Aq<|A6<|A2<|A7 2 Z<|An<|As 4 Z<|Ax h fun ca h=>AW (ay.MZ hH (i:=0) Z az) c.toNat (Cx ca) (AM ca) ?_;rintro ex _ rfl dk;refine Ag (AT dk (Le.refl _))<|As 1 Z<|Ax h fun bg h=>Ki 0 Z Alf ZO.e ay Z c.toNat (Cx bg) (AM bg) fun ey dl=>Kl 0 c.toNat (!(ac.getD c.toNat Qq2)) Z Z hH ay Z az dl (AM bg) Z fun ez dm dn d2 dp=>AE<|Az<|Aq<|An<|Ax h fun dq h=>Ag (Ay dq)<|As 1 Z<|AE ?_;have h:=Bw.again h b9;refine AD (_,_,_,_) Z ⟨dn,dp,h⟩
   refine Bf<|A5<|A3 ?_;have h:=Bw.out h b9;refine AY<|A8 (_,_) ⟨ay,az,h⟩
  refine Au<|A8 (_,_) ⟨ao,b7,h⟩
 rintro⟨aq,ah⟩ ec ⟨cb,cm,h⟩;refine Bb ((List Bool)×Qq6) (fun⟨ap,ai⟩=>[(6,d)]) (fun⟨ap,ai⟩ wr=>C5 w [.row d 4 1 (ap).length ai,.box b2 [No a1.f.1,ad,Abu a1.f.2.2.1,ae,No a1.f.2.2.2.2.1,No a1.f.2.2.2.2.2.1,af] 30,.box b1 [No a0.1.1,e,No a0.2.1.1,g,k] 46] wr fun Oz=>AK .bool (gz H w wr Oz) ap ai/\DO ap=some r) ?_ ?_
 ·refine Ao<|Ag (Ae Z AjR Z Lj.e)<|Ag (Af 1 Z cb Z)<|Ax h fun cn h=>Aag a8 cn fun bh bn=>Ag (AZ bn)<|AA 1 Z<|A2 ?_;obtain⟨bi,h⟩:=AR h;refine Bj ((List Bool)×Int×Qq6×Nat) (fun⟨y,b,u,n⟩=>[(3,(Abo b2)),(5,.func (.func 23) #[.agg #[No a0.1.1,e,No a0.2.1.1,g,k]] #[]),(6,d),(47,bh),(48,No ((a1.f.2.2.2.2.2.2.drop (1:Int).toNat).length:Int)),(49,No b)]) (fun⟨y,b,u,n⟩ wr=>C5 w [.row d 4 1 (y).length u,.box b2 [No a1.f.1,ad,Abu a1.f.2.2.1,ae,No a1.f.2.2.2.2.1,No a1.f.2.2.2.2.2.1,af] 30,.box b1 [No a0.1.1,e,No a0.2.1.1,g,k] 46] wr fun Oz=>AK .bool (gz H w wr Oz) y u/\DR (BU a0 a1 self) n (y,b)=some r) (fun⟨y,b,u,n⟩=>n) (aq,0,ah,bi) Z ⟨cb,cm,h⟩ ?_;rintro⟨y,b,u,nn263⟩ d3 ⟨a2,o,h⟩;obtain⟨bi,cc,rfl,h,bo⟩:=AQ h;refine A7 1 Z<|A6<|AL h ?_ ?_<;>intro co h
  ·refine Au<|Aq<|Bb ((List Bool)×Qq6) (fun⟨aj,aa⟩=>[(3,(Abo b2)),(5,.func (.func 23) #[.agg #[No a0.1.1,e,No a0.2.1.1,g,k]] #[]),(6,d),(47,bh),(48,No ((a1.f.2.2.2.2.2.2.drop (1:Int).toNat).length:Int)),(49,No b)]) (fun⟨aj,aa⟩ wr=>C5 w [.row d 4 1 (aj).length aa,.box b2 [No a1.f.1,ad,Abu a1.f.2.2.1,ae,No a1.f.2.2.2.2.1,No a1.f.2.2.2.2.2.1,af] 30,.box b1 [No a0.1.1,e,No a0.2.1.1,g,k] 46] wr fun Oz=>AK .bool (gz H w wr Oz) aj aa/\(DP b) aj=some cc) ?_ ?_
   ·refine A2<|Ao<|Ax h fun bp h=>AW bn b.toNat (Cx bp) (AM bp) ?_;rintro ed _ e321t0 cp;obtain⟨_,_,rfl,rfl,⟨_,_,rfl,⟨e321v1,rfl,e321h1⟩,⟨_,_,rfl,rfl,⟨_,_,rfl,⟨e321v3,rfl,e321h3⟩,⟨_,_,rfl,rfl,⟨_,_,rfl,rfl,⟨e321v6,rfl,e321h6⟩⟩⟩⟩⟩⟩⟩:=Go.E.Rp.Ev e321t0;refine Ag (BI cp (hH.trans a2.arg))<|AO Fj.e Z a2 ?_;intro ee dr cq cd _;have o:=o.mono (Ab cd);refine Ak 0 Z cq Z (a:=(CB Z (CB e321h1.one (CB Z (CB e321h3.one (CB Z (CB Z (CB e321h6.one Ps)))))))) ?_;intro ef ak ce;have o:=o.mono (Ab ce);refine Ad<|Bo 1 Z<|Ag (AJ 0 Z Fj.e ak Z)<|A1 h fun ag cr h=>Aay [.agg #[No a0.1.1,e,No a0.2.1.1,g,k]] [] Z Z ak (hself _ _ (Av ak) (hU.mono  Aj) (au.mono  Aj) (av.mono  Aj) (aw.mono  Aj) (e321h1.mono  Aj) (e321h3.mono  Aj) (e321h6.mono  Aj) cr) ?_;rintro a7 eg ⟨_,rfl,bv⟩ cs ct cf;have ar:=bv.Cu hH ak cs;have o:=o.mono (Ab cf);refine Ag (AZ ar)<|AA 1 Z ?_
    refine A2 ?_;obtain⟨a3,h⟩:=AR h;refine Bj ((List Bool)×Int×Qq6×Nat) (fun⟨l,a,x,n⟩=>[(3,(Abo b2)),(5,.func (.func 23) #[.agg #[No a0.1.1,e,No a0.2.1.1,g,k]] #[]),(6,d),(47,bh),(48,No ((a1.f.2.2.2.2.2.2.drop (1:Int).toNat).length:Int)),(49,No b),(55,a7),(56,No (ag.length:Int)),(57,No a)]) (fun⟨l,a,x,n⟩ wr=>C5 w [.box dr [No (((a1.f.2.2.2.2.2.2.drop (1:Int).toNat).getD b.toNat Qq2).f.1),e321v1,.string ⟨(((a1.f.2.2.2.2.2.2.drop (1:Int).toNat).getD b.toNat Qq2).f.2.2.1).toArray⟩,e321v3,No (((a1.f.2.2.2.2.2.2.drop (1:Int).toNat).getD b.toNat Qq2).f.2.2.2.2.1),No (((a1.f.2.2.2.2.2.2.drop (1:Int).toNat).getD b.toNat Qq2).f.2.2.2.2.2.1),e321v6] 30,.row d 4 1 (l).length x,.box b2 [No a1.f.1,ad,Abu a1.f.2.2.1,ae,No a1.f.2.2.2.2.1,No a1.f.2.2.2.2.2.1,af] 30,.box b1 [No a0.1.1,e,No a0.2.1.1,g,k] 46] wr fun Oz=>AS .bool (gz H w wr Oz) a7 ag/\AK .bool (gz H w wr Oz) l x/\DR (C9 a1 b ag) n (l,a)=some cc) (fun⟨l,a,x,n⟩=>n) (y,0,u,a3) Z ⟨ct,ar,o,h⟩ ?_
    rintro⟨l,a,x,nn350⟩ d4 ⟨p,m,v,h⟩;obtain⟨a3,eh,rfl,h,a4⟩:=AQ h;refine A7 1 Z<|A6<|AL h ?_ ?_<;>intro cu h
    ·refine Au<|Aq<|A6<|A2<|Bo 1 Z<|Ax h fun bq h=>AW m a.toNat (Cx bq) (AM bq) ?_;rintro ei _ rfl cv;refine Ag (AT cv (Av p))<|AA 2 Z<|Ao<|Ag (Ae Z AjR Z BB.e)<|Ag (Af 2 Z p Z)<|AA 1 Z<|AL h ?_ ?_<;>intro cw h
     ·refine An<|As 4 Z<|Ax h fun br h=>AW (p.MZ hH (i:=1) Z v) a.toNat (Cx br) (AM br) ?_;rintro ej _ rfl cx;refine Ag (AT cx (Le.refl _))<|As 1 Z<|VP 1 6 Z Z Z Z Z Z Z<|Ax h fun a5 h=>Ki 1 Z Alf ZO.e p Z a.toNat (Cx a5) (AM a5) fun ek cy=>Kl 1 a.toNat (bif l.getD a.toNat Qq2 then ag.getD a.toNat Qq2 else false) Z Z hH p Z v cy (AM a5) Z ?_;intro el cz c0 cg c1;have m:=m.mono (Ab cg);refine AE<|Az<|Aq<|An<|Ax h fun c2 h=>Ag (Ay c2)<|As 1 Z<|AE ?_;have h:=Bw.again h a4;refine AD (_,_,_,_) Z ⟨c0,m,c1,h⟩
     refine An<|As 4 Z<|Ax h fun bs h=>AW (p.MZ hH (i:=1) Z v) a.toNat (Cx bs) (AM bs) ?_;rintro em _ rfl c3;refine Ag (AT c3 (Le.refl _))<|As 1 Z<|Ac8 1 6 Z Z Z Z Z Z Z<|Ax h fun a6 h=>Ki 1 Z Alf ZO.e p Z a.toNat (Cx a6) (AM a6) fun en c4=>Kl 1 a.toNat (bif l.getD a.toNat Qq2 then true else ag.getD a.toNat Qq2) Z Z hH p Z v c4 (AM a6) Z ?_;intro eo c5 c6 ch c7;have m:=m.mono (Ab ch);refine AE<|Az<|Aq<|An<|Ax h fun c8 h=>Ag (Ay c8)<|As 1 Z<|AE ?_;have h:=Bw.again h a4;refine AD (_,_,_,_) Z ⟨c6,m,c7,h⟩
    refine Bf<|A5<|A3 ?_;have h:=Bw.out h a4;refine AY<|Az ?_;have c9:=p.Bl (i:=0) Z;have v:=v.mono (Ab (AB (i:=0) Z));refine A8 (_,_) ⟨c9,v,h⟩
   rintro⟨aj,aa⟩ d5 ⟨da,ci,h⟩;refine An<|Ax h fun db h=>Ag (Ay db)<|As 1 Z<|AE ?_;have h:=Bw.again h bo;refine AD (_,_,_,_) Z ⟨da,ci,h⟩
  refine Bf<|A5<|A3 ?_;have h:=Bw.out h bo;refine AY<|A8 (_,_) ⟨a2,o,h⟩
 rintro⟨ap,ai⟩ d6 ⟨bt,cj,h⟩;refine A7 2 Z<|Aw ?_
 cases h
 refine Ah Z ⟨bt.ext,_,Z,(bt.FV hH (i:=0) Z cj)⟩
theorem OB(n:Nat):E3 (B1 n):=by
 induction n with
 | zero=>unfold E3;intros;rename_i h;cases h
 | succ n ih=>exact Nk (B1 n) ih
section
variable(w:World)(H:PH)(hH:Le H (hp w)) include hH
theorem PJ(hU:HG H){a0:Alq}{a1:Qv}{a b c d e g:Value}(i:AS (.pair .st (.vec AlA)) H a (a0.1.2))(j:AS Al9 H b (a0.2.1.2))(k:AS AlB H c (a0.2.2))(l:AS .st H d (a1.f.2.1))(m:AS .byte H e (a1.f.2.2.2.1))(n:AS .Cy H g (a1.f.2.2.2.2.2.2)){r:(List Bool)}(h:He a0 a1=some r):Ok prog 23 [.agg #[No a0.1.1,a,No a0.2.1.1,b,c],.agg #[No a1.f.1,d,Abu a1.f.2.2.1,e,No a1.f.2.2.2.2.1,No a1.f.2.2.2.2.2.1,g]] w (fun v w'=>Ext w w'/\∃o,v=o/\Cd 4 .bool H w w' o r):=OB 1000 w H hH hU i j k l m n h
def IU(a:Qq5):Option Al3:=
 some (a,(0,0))
def E4(a2:List Bool)(c:(List Bool)):Qq5×Int->Option (Al6⊕Al3):=fun⟨b,a⟩=>
 if a<(c.length:Int)then AU (0<=a/\a<(c.length:Int)) (if c.getD a.toNat Qq2 then AU (0<=a/\a<(a2.length:Int)) (if a2.getD a.toNat Qq2 then AU (Go.E.Fz 8 (b.length+([a]).length)) (AU (Bq (a+1)) (some (Sum.inl ((b++[a]),(a+1)))))else AU (Bq (a+1)) (some (Sum.inl (b,(a+1)))))else AU (Bq (a+1)) (some (Sum.inl (b,(a+1)))))else Qzx Sum.inr (IU b)
def IV(a2:List Bool)(a:(List Bool))(s:Al6):Option Al3:=Go.L.run (E4 a2 a) s
def CD(a0:Alq)(a1:Qv)(a2:List Bool):Option Al3:=
 Qq9 (KE a1) (fun a=>if a.1=0/\a.2=0 then Qq9 (C8 ((a0.1.1,a0.1.2),(a0.2.1.1,a0.2.1.2),a0.2.2)) (fun c=>if(a2.length:Int)=c then Qq9 (He ((a0.1.1,a0.1.2),(a0.2.1.1,a0.2.1.2),a0.2.2) a1) (fun d=>(IV a2 d) (([]:Qq5),0))else Qq9 (DL (9:Int) (-2:Int)) (fun b=>some ([],(b.1,b.2))))else some ([],(a.1,a.2)))
theorem CO(hU:HG H){a0:Alq}{a1:Qv}{a2:List Bool}{p s u x y z ab:Value}(aq:AS (.pair .st (.vec AlA)) H p (a0.1.2))(ar:AS Al9 H s (a0.2.1.2))(au:AS AlB H u (a0.2.2))(av:AS .st H x (a1.f.2.1))(aw:AS .byte H y (a1.f.2.2.2.1))(ax:AS .Cy H z (a1.f.2.2.2.2.2.2))(ay:AS .bool H ab a2){r:Al3}(h:CD a0 a1 a2=some r):
  Qqv 6 [.agg #[No a0.1.1,p,No a0.2.1.1,s,u],.agg #[No a1.f.1,x,Abu a1.f.2.2.1,y,No a1.f.2.2.2.2.1,No a1.f.2.2.2.2.2.1,z],ab] w (fun v w'=>∃u0,v=.tuple #[u0,.agg #[No r.2.1,No r.2.2]]/\Cd 3 (.int .i64) H w w' u0 (r.1)):=by
 refine A4 47 [(0,.agg #[No a0.1.1,p,No a0.2.1.1,s,u]),(1,.agg #[No a1.f.1,x,Abu a1.f.2.2.1,y,No a1.f.2.2.2.2.1,No a1.f.2.2.2.2.2.1,z]),(2,ab)] func6 Z fun hL=>Ao<|BM (t:=46) Z Z hL fun w1 b1 b9 cn _=>BM (t:=30) Z Z b9 fun w2 b2 cb co _=>As 1 Z<|AO AI.e Z cb fun w3 b3 az cp _=>Ad<|A6<|Ao<|Ag (AJ 1 Z Fj.e az Z)<|A1 h fun x4 cc h=>A9 az (Tl (a0:=a1) _ _ (Av az) (hU.mono  Aj) (av.mono  Aj) (aw.mono  Aj) (ax.mono  Aj) cc) fun w5 c4 cd cq=>AO AI.e Z cd fun w6 b6 cf cr _=>Ak 0 Z cf Z fun w7 ag cs=>Ad<|Ao<|Ag (AJ 0 Z AI.e ag Z)<|Ag (Ba (fun _=>B8 _))<|Ag (IX I4 (Nc _ _ _ _))<|Ad<|BG h ?_ ?_<;>intro cg h
 ·refine BZ (.q 0 (.q 1 (.tail 2))) mixed Qqb (fun c5 bp=>?_);have a3:=ag.call bp;refine B2 Z (AJ 0 Z AI.e a3 Z) Z<|B9 1 Z<|Bt (fun c6 bq=>?_);have br:=a3.call bq;refine Ak 1 Z br Z fun c7 a4 ch=>Ad<|Aw<|Am ?_
  cases h
  refine Bv (.tmp Z) (.cell Z Ae3 Z AI.e (AP (i:=1) a4 Z)) ⟨a4.ext,_,Z,Cd.nil⟩
 refine Au<|Aq<|A6<|Bo 1 Z<|Ag (AZ ay)<|Ag (AJ 3 Z Me.e ag Z)<|A1 h fun c8 bs h=>A9 ag (FA _ _ (Av ag) (((a0.1.1,a0.1.2),(a0.2.1.1,a0.2.1.2),a0.2.2)) (aq.mono  Aj) (ar.mono  Aj) (au.mono  Aj) bs) fun c9 ct al ci=>AA 1 Z<|BG h ?_ ?_<;>intro bt h
 ·refine Ao<|A1 h fun da bu h=>A9 al (EA _ _ (Av al) bu) fun db cu bv cj=>As 1 Z<|Ak 1 Z bv Z fun dc a5 ck=>Ad<|Aw<|Am ?_
  cases h
  refine Bv (.tmp Z) (.cell Z Ae3 Z AI.e (AP (i:=1) a5 Z)) ⟨a5.ext,_,Z,Cd.nil⟩
 refine Au<|Aq<|Bo 1 Z ?_;obtain⟨aa,cl,am⟩:=Cp (.int .i64) H 3 al;refine Ad<|Bb (Qq5×Value×Qq6) (fun⟨ah,ac,o⟩=>[(7,(Abo b3)),(9,ac)]) (fun⟨ah,ac,o⟩ wr=>C5 w [.row ac 3 1 (ah).length o,.box b6 [No x4.1,No x4.2] 35,.box b3 [No 0,No 0] 35,.box b2 [No a1.f.1,x,Abu a1.f.2.2.1,y,No a1.f.2.2.2.2.1,No a1.f.2.2.2.2.2.1,z] 30,.box b1 [No a0.1.1,p,No a0.2.1.1,s,u] 46] wr fun Oz=>AK (.int .i64) (gz H w wr Oz) ah o/\IU ah=some r) ?_ ?_
 ·refine Ao<|Ag (AJ 4 Z Me.e aa Z)<|Ag (AJ 3 Z Fj.e aa Z)<|A1 h fun a6 bw h=>Br aa (PJ (a0:=((a0.1.1,a0.1.2),(a0.2.1.1,a0.2.1.2),a0.2.2)) (a1:=a1) _ _ (Av aa) (hU.mono  Aj) (aq.mono  Aj) (ar.mono  Aj) (au.mono  Aj) (av.mono  Aj) (aw.mono  Aj) (ax.mono  Aj) bw) ?_;rintro an dd ⟨_,rfl,a7⟩ bx bz bc;have ai:=a7.Cu hH aa bx;refine Ag (AZ ai)<|AA 1 Z<|A2 ?_;obtain⟨aj,h⟩:=AR h;have am:=am.mono (Ab bc)
  refine Bj (Qq5×Int×Value×Qq6×Nat) (fun⟨e,a,g,b,n⟩=>[(2,ab),(7,(Abo b3)),(9,g),(26,an),(27,No (a6.length:Int)),(28,No a)]) (fun⟨e,a,g,b,n⟩ wr=>C5 w [.row g 3 1 (e).length b,.box b6 [No x4.1,No x4.2] 35,.box b3 [No 0,No 0] 35,.box b2 [No a1.f.1,x,Abu a1.f.2.2.1,y,No a1.f.2.2.2.2.1,No a1.f.2.2.2.2.2.1,z] 30,.box b1 [No a0.1.1,p,No a0.2.1.1,s,u] 46] wr fun Oz=>AS .bool (gz H w wr Oz) an a6/\AK (.int .i64) (gz H w wr Oz) e b/\DR (E4 a2 a6) n (e,a)=some r) (fun⟨e,a,g,b,n⟩=>n) (([]:Qq5),0,Aal,[],aj) Z ⟨bz,ai,am,h⟩ ?_;rintro⟨e,a,g,b,nn97⟩ cv ⟨k,d,j,h⟩;obtain⟨aj,de,rfl,h,ad⟩:=AQ h;refine A7 1 Z<|A6<|AL h ?_ ?_<;>intro b0 h
  ·refine Au<|Aq<|A6<|A2<|Bo 1 Z<|Ax h fun ao h=>AW d a.toNat (Cx ao) (AM ao) ?_;rintro cw _ rfl bd;refine Ag (AT bd (Av k))<|AA 2 Z<|Bo 2 Z<|Cv 34 h ?_ ?_<;>intro c h
   ·refine Aa c<|Ag (Ai Z)<|Aa c<|Ag (Ai Z)<|Aa c<|Ax h fun ap h=>AW ay a.toNat (Cx ap) (AM ap) ?_;rintro cx _ rfl be;refine Aa c<|Ag (AT be (hH.trans k.arg))<|Ag (AF c Z)<|Ad<|Bi h ?_ ?_<;>intro bf h
    ·refine An<|As 2 Z<|Bx [a] (r:=(.int .i64)) (fun _=>FX _ _) k (.c1 Z .nil) fun cy cz cm bg ak bh=>Ax h fun bi h=>?_;have j:=j.mono (Ab ak);refine Bp (r:=(.int .i64)) 0 e [a] Z Aco bg Z j bh bi fun b4 c0 bj bk a8 bl=>As 1 Z<|AE<|Az<|Aq<|An<|Ax h fun bm h=>Ag (Ay bm)<|As 1 Z<|AE ?_;have h:=Bw.again h ad;have d:=d.mono (Ab (ak.trans a8));refine AD (_,_,_,_,_) Z ⟨bk,d,bl,h⟩
    refine Au<|Az<|Aq<|An<|Ax h fun bn h=>Ag (Ay bn)<|As 1 Z<|AE ?_;have h:=Bw.again h ad;refine AD (_,_,_,_,_) Z ⟨k,d,j,h⟩
   iterate 4 refine Ar c ?_
   refine Ag (AG c Z)<|Ad<|Co<|Au<|Az<|Aq<|An<|Ax h fun bo h=>Ag (Ay bo)<|As 1 Z<|AE ?_;have h:=Bw.again h ad;refine AD (_,_,_,_,_) Z ⟨k,d,j,h⟩
  refine Bf<|A5<|A3 ?_;have h:=Bw.out h ad;refine AY<|A8 (_,_,_) ⟨k,j,h⟩
 rintro⟨ah,ac,o⟩ c2 ⟨b5,ae,h⟩;refine Bo 1 Z<|Ag (Ba (fun _=>B8 _))<|As 1 Z<|Ak 2 Z b5 Z fun c3 af a9=>Ad<|Aw ?_
 cases h
 refine Bv (.tmp Z) (.cell Z Ae3 Z AI.e (AP (i:=2) af Z)) ?_;have ae:=ae.mono (Ab a9);exact⟨af.ext,_,Z,(af.FV hH (i:=0) Z ae)⟩
end
end Go.Proofs.YtopocbcekabkoaaGreatDoor
end
noncomputable section
namespace Go.Proofs.YtopocbcekabkoaaGreatDoor
open Go Go.E Go.RowKit Go.L
set_option maxHeartbeats 1000000
set_option maxRecDepth 10000
open _root_.Go.Proofs.Tryz
def FR(a0:Pv)(d:List Alu)(a:Int)(self:Pv->Abv->Option ((List Alu)))(b:Abv):Option (((List Alu)×Int)⊕((List Alu))):=
 AU (0<=a/\a<(a0.f.2.2.2.2.length:Int)) (Qq9 (self (a0.f.2.2.2.2.getD a.toNat Qq2) b) (fun c=>AU (Go.E.Fz 48 (d.length+c.length)) (AU (Bq (a+1)) (some (Sum.inl ((d++c),(a+1)))))))
def FT(a0:Pv)(a1:Abv)(c:List Alu)(b:Int)(self:Pv->Abv->Option ((List Alu)))(a:Abv):Option (((List Alu)×Int)⊕((List Alu))):=
 if a1=([]:Abv)then(FR a0 c b self) a else AU (a1.length+([47]:Abv).length<=9223372036854775807) (AU ((a1++([47]:Abv)).length+a.length<=9223372036854775807) ((FR a0 c b self) ((a1++([47]:Abv))++a)))
def Kg(a:List Alu):Option ((List Alu)):=
 some a
def Ee(a0:Pv)(a1:Abv)(self:Pv->Abv->Option ((List Alu))):(List Alu)×Int->Option (((List Alu)×Int)⊕((List Alu))):=fun⟨b,a⟩=>
 if a<(a0.f.2.2.2.2.length:Int)then(if a0.f.1=4 then AU (0<=a/\a<(a0.f.2.2.2.1.length:Int)) ((FT a0 a1 b a self) (a0.f.2.2.2.1.getD a.toNat Qq2))else(FT a0 a1 b a self) ([35]:Abv))else Qzx Sum.inr (Kg b)
def N1(a0:Pv)(a1:Abv)(self:Pv->Abv->Option ((List Alu)))(s:(List Alu)×Int):Option ((List Alu)):=Go.L.run (Ee a0 a1 self) s
def JR(self:Pv->Abv->Option ((List Alu)))(a0:Pv)(a1:Abv):Option ((List Alu)):=
 (N1 a0 a1 self) ([(a1,a0.f.1,a0.f.2.1,a0.f.2.2.1)],0)
def Kz(self:Pv->Abv->Option ((List Alu))):Prop:=∀(w:World) (H:PH) (hH:Le H (hp w)) {a0:Pv}{a1:Abv}{a:Value}{b:Value}{c:Value} (e:AS .byte H a (a0.f.2.2.1)) (g:AS .st H b (a0.f.2.2.2.1)) (i:AS .tree H c (a0.f.2.2.2.2)) {r:(List Alu)} (h:self a0 a1=some r),Ok prog 62 [.agg #[No a0.f.1,No a0.f.2.1,a,b,c],Abu a1] w (fun v w'=>Ext w w'/\∃d,v=d/\Cd 143 AlF H w w' d r)
def Hn:Nat->Pv->Abv->Option ((List Alu))
 | 0=>fun _ _=>none
 | n+1=>JR (Hn n)
def Lc:Pv->Abv->Option ((List Alu)):=Hn 1000
theorem S7(self:Pv->Abv->Option ((List Alu)))(hself:Kz self):Kz (JR self):=by
 intro w H hH a0 a1 s u v a5 a6 ae r h;unfold Kz at hself;refine A4 49 [(0,.agg #[No a0.f.1,No a0.f.2.1,s,u,v]),(1,(Abu a1))] func62 Z fun hL=>Ao<|BM (t:=51) Z Z hL fun w1 b1 y bf _=>AA 1 Z<|Bo 1 Z<|Ag (Ae Z Ahe Z BB.e)<|Ag (Af 0 Z y Z)<|Ag (Ae Z Ahe Z BB.e)<|Ag (Af 0 Z y Z)<|Ag (Ae Z Ahe Z Fy.e)<|Ag (Af 0 Z y Z)<|Ag (NS a5 (hH.trans y.arg))<|Ag (Ba (fun _=>WD _ Z _ _ _ Z _))<|Rl [(a1,a0.f.1,a0.f.2.1,a0.f.2.2.1)] (r:=AlF) (fun _=>Afy _ _ _ _ _) (B4 1) hH y (.c4 ⟨_,_,Z,Z,⟨_,_,Z,Z,⟨_,_,Z,Z,Z⟩⟩⟩ .nil) fun v2 w2 ba bb bh bc=>AA 1 Z ?_
 refine Bb ((List Alu)×Value×Qq6) (fun⟨z,x,q⟩=>[(5,x)]) (fun⟨z,x,q⟩ wr=>C5 w [.row x 143 4 (z).length q,.box b1 [No a0.f.1,No a0.f.2.1,s,u,v] 51] wr fun Oz=>AK AlF (gz H w wr Oz) z q/\Kg z=some r) ?_ ?_
 ·refine A7 1 Z<|A2 ?_;obtain⟨af,h⟩:=AR h;refine Bj ((List Alu)×Int×Value×Qq6×Nat) (fun⟨d,a,e,b,n⟩=>[(1,(Abu a1)),(2,(Abo b1)),(5,e),(6,No a)]) (fun⟨d,a,e,b,n⟩ wr=>C5 w [.row e 143 4 (d).length b,.box b1 [No a0.f.1,No a0.f.2.1,s,u,v] 51] wr fun Oz=>AK AlF (gz H w wr Oz) d b/\DR (Ee a0 a1 self) n (d,a)=some r) (fun⟨d,a,e,b,n⟩=>n) ([(a1,a0.f.1,a0.f.2.1,a0.f.2.2.1)],0,v2,ba,af) Z ⟨bb,bc,h⟩ ?_;rintro⟨d,a,e,b,nn86⟩ bi ⟨j,c,h⟩;obtain⟨af,a4,rfl,h,ag⟩:=AQ h;refine A6<|Bo 1 Z<|Ag (Ae Z Ahe Z XJ.e)<|Ag (Af 1 Z j Z)<|Ag (AZ ae)<|AA 1 Z<|AL h ?_ ?_<;>intro a7 h
  ·refine Au<|Aq<|A6<|A2<|A7 1 Z<|Bb Abv (fun g=>[(1,(Abu a1)),(2,(Abo b1)),(5,e),(6,No a),(7,(Abu g))]) (fun g wr=>C5 w [.row e 143 4 (d).length b,.box b1 [No a0.f.1,No a0.f.2.1,s,u,v] 51] wr fun Oz=>AK AlF (gz H w wr Oz) d b/\(FT a0 a1 d a self) g=some a4) ?_ ?_
   ·refine Ao<|Ag (Ae Z Ahe Z BB.e)<|Ag (Af 1 Z j Z)<|AA 1 Z<|AL h ?_ ?_<;>intro a8 h
    ·refine An<|Ag (Ae Z Ahe Z H3.e)<|Ag (Af 1 Z j Z)<|As 1 Z<|Ax h fun ab h=>AW a6 a.toNat (Cx ab) (AM ab) ?_;rintro bj _ rfl am;refine Ag (AT am (hH.trans j.arg))<|As 1 Z<|AE<|A8 _ ⟨j,c,h⟩
    refine Au<|A8 _ ⟨j,c,h⟩
   rintro g bk ⟨ah,c,h⟩;refine Bb Abv (fun k=>[(1,(Abu a1)),(2,(Abo b1)),(5,e),(6,No a),(7,(Abu k))]) (fun k wr=>C5 w [.row e 143 4 (d).length b,.box b1 [No a0.f.1,No a0.f.2.1,s,u,v] 51] wr fun Oz=>AK AlF (gz H w wr Oz) d b/\(FR a0 d a self) k=some a4) ?_ ?_
   ·refine Bo 1 Z<|Ag (Rn Z Z)<|Ad<|BG h ?_ ?_<;>intro an h
    ·refine An<|As 1 Z<|Ax h fun ao h=>Ag (D7 ao)<|As 1 Z<|Ax h fun ap h=>Ag (D7 ap)<|As 1 Z<|AE<|A8 _ ⟨ah,c,h⟩
    refine Au<|A8 _ ⟨ah,c,h⟩
   rintro k be ⟨o,c,h⟩;refine An<|As 1 Z<|Ag (Ae Z Ahe Z XJ.e)<|Ag (Af 1 Z o Z)<|As 1 Z<|Ax h fun ac h=>AW ae a.toNat (Cx ac) (AM ac) ?_;rintro bl _ e120t0 aq;obtain⟨_,_,rfl,rfl,⟨_,_,rfl,rfl,⟨_,_,rfl,⟨e120v2,rfl,e120h2⟩,⟨_,_,rfl,⟨e120v3,rfl,e120h3⟩,⟨e120v4,rfl,e120h4⟩⟩⟩⟩⟩:=Go.E.Rp.Mb e120t0;refine Ag (BI aq (hH.trans o.arg))<|As 1 Z<|A1 h fun ai ar h=>Br o (hself _ _ (Av o) (e120h2.mono  Aj) (e120h3.mono  Aj) (e120h4.mono  Aj) ar) ?_;rintro bd bm ⟨_,rfl,ad⟩ au av aj;have p:=ad.Cu hH o au;have c:=c.mono (Ab aj);refine Ax h fun aw h=>Bp (r:=AlF) 0 d ai Z Alh av Z c p aw ?_;intro a9 bn ax ay ak az;have p:=p.mono (Ab ak);refine As 1 Z<|AE<|Az<|Aq<|An<|As 1 Z<|Ax h fun a2 h=>Ag (Ay a2) ?_
   refine As 1 Z<|AE ?_;have h:=Bw.again h ag;refine AD (_,_,_,_,_) Z ⟨ay,az,h⟩
  refine Bf<|A5<|A3 ?_;have h:=Bw.out h ag;refine AY<|A8 (_,_,_) ⟨j,c,h⟩
 rintro⟨z,x,q⟩ bo ⟨al,a3,h⟩;refine A7 2 Z<|Aw ?_
 cases h
 refine Ah Z ⟨al.ext,_,Z,(al.FV hH (i:=0) Z a3)⟩
theorem UG(n:Nat):Kz (Hn n):=by
 induction n with
 | zero=>unfold Kz;intros;rename_i h;cases h
 | succ n ih=>exact S7 (Hn n) ih
section
variable(w:World)(H:PH)(hH:Le H (hp w)) include hH
theorem Om{a0:Pv}{a1:Abv}{a b c:Value}(d:AS .byte H a (a0.f.2.2.1))(e:AS .st H b (a0.f.2.2.2.1))(g:AS .tree H c (a0.f.2.2.2.2)){r:(List Alu)}(h:Lc a0 a1=some r):Ok prog 62 [.agg #[No a0.f.1,No a0.f.2.1,a,b,c],Abu a1] w (fun v w'=>Ext w w'/\∃i,v=i/\Cd 143 AlF H w w' i r):=UG 1000 w H hH d e g h
def Nl:Option Bool:=
 some false
def JS(a1:Abv)(b:(List Alu)):Int->Option ((Int)⊕(Bool)):=fun a=>
 if a<(b.length:Int)then AU (0<=a/\a<(b.length:Int)) (Qq9 (FY a1 ((b.getD a.toNat Qq2).1)) (fun c=>if c then Qzx Sum.inr (some true)else AU (Bq (a+1)) (some (Sum.inl (a+1)))))else Qzx Sum.inr Nl
def QM(a1:Abv)(a:(List Alu))(s:Int):Option Bool:=Go.L.run (JS a1 a) s
def NC(a0:Pv)(a1:Abv):Option Bool:=
 Qq9 (Lc a0 ([]:Abv)) (fun a=>(QM a1 a) (0:Int))
theorem VK{a0:Pv}{a1:Abv}{c d e:Value}(u:AS .byte H c (a0.f.2.2.1))(x:AS .st H d (a0.f.2.2.2.1))(y:AS .tree H e (a0.f.2.2.2.2)){r:Bool}(h:NC a0 a1=some r):
  Qqv 30 [.agg #[No a0.f.1,No a0.f.2.1,c,d,e],Abu a1] w (fun v w'=>v=.bool r):=by
 refine A4 22 [(0,.agg #[No a0.f.1,No a0.f.2.1,c,d,e]),(1,(Abu a1))] func30 Z fun hL=>Ao<|BM (t:=51) Z Z hL fun w1 b1 j al _=>AA 1 Z<|Ao<|Ag (AJ 0 Z EK.e j Z)<|A1 h fun x2 ai h=>Br j (Om (a0:=a0) _ _ (Av j) (u.mono  Aj) (x.mono  Aj) (y.mono  Aj) ai) ?_;rintro k w3 ⟨_,rfl,p⟩ aj ak am;have q:=p.Cu hH j aj;refine AA 1 Z<|Bb Unit (fun(_:Unit)=>[]) (fun(_:Unit) wr=>Bk w [.box b1 [No a0.f.1,No a0.f.2.1,c,d,e] 51] wr/\Nl=some r) ?_ ?_
 ·refine A7 1 Z<|A2 ?_;obtain⟨l,h⟩:=AR h;refine Bj (Int×Nat) (fun⟨a,n⟩=>[(1,(Abu a1)),(5,k),(6,No a)]) (fun⟨a,n⟩ wr=>C5 w [.box b1 [No a0.f.1,No a0.f.2.1,c,d,e] 51] wr fun Oz=>AS AlF (gz H w wr Oz) k x2/\DR (JS a1 x2) n a=some r) (fun⟨a,n⟩=>n) (0,l) Z ⟨ak,q,h⟩ ?_;rintro⟨a,nn48⟩ an ⟨g,b,h⟩;obtain⟨l,aq,rfl,h,i⟩:=AQ h;refine A6<|Bo 2 Z<|Ag (AZ b)<|AA 1 Z<|AL h ?_ ?_<;>intro z h
  ·refine Au<|Aq<|A6<|A2<|Bo 3 Z<|Ax h fun m h=>AW b a.toNat (Cx m) (AM m) ?_;rintro ar _ ⟨_,_,rfl,rfl,⟨_,_,rfl,rfl,⟨_,_,rfl,rfl,rfl⟩⟩⟩ aa;refine Ag (Ae Z Ali Z Dl.e) ?_;have ab:=aa.add 0;refine Ag (AT ab (Av g))<|A1 h fun au ac h=>A9 g (Nf _ _ (Av g) ac) fun av ao o s=>Ad<|Bi h ?_ ?_<;>intro ad h
   ·refine A7 1 Z<|Aw<|Al<|Am<|Bc ?_;have h:=Bw.out h i;refine Al<|AN ?_
    cases h
    refine Ah Z ⟨o.ext,Z⟩
   refine Au<|Az<|Aq<|An<|As 1 Z<|Ax h fun ae h=>Ag (Ay ae)<|As 1 Z<|AE ?_;have h:=Bw.again h i;have b:=b.mono (Ab s);refine AD (_,_) Z ⟨o,b,h⟩
  refine Bf<|A5<|A3 ?_;have h:=Bw.out h i;refine AY<|A8 () ⟨g,h⟩
 rintro _ ap ⟨af,h⟩;refine A7 1 Z<|Aw ?_
 cases h
 refine Ah Z ⟨af.ext,Z⟩
def L2:Option Bool:=
 some false
def Iu(a1:Abv)(a2 a3:Int)(b:(List Alu)):Int->Option ((Int)⊕(Bool)):=fun a=>
 if a<(b.length:Int)then AU (0<=a/\a<(b.length:Int)) (if(b.getD a.toNat Qq2).2.1=1 then AU (0<=a/\a<(b.length:Int)) (Qq9 (Ew ((b.getD a.toNat Qq2).2.2.1) a2 a3) (fun c=>if c then AU (0<=a/\a<(b.length:Int)) (Qq9 (FY a1 ((b.getD a.toNat Qq2).1)) (fun d=>if d then Qzx Sum.inr (some true)else AU (Bq (a+1)) (some (Sum.inl (a+1)))))else AU (Bq (a+1)) (some (Sum.inl (a+1)))))else AU (Bq (a+1)) (some (Sum.inl (a+1))))else Qzx Sum.inr L2
def OP(a1:Abv)(a2 a3:Int)(a:(List Alu))(s:Int):Option Bool:=Go.L.run (Iu a1 a2 a3 a) s
def L3(a0:Pv)(a1:Abv)(a2 a3:Int):Option Bool:=
 Qq9 (Lc a0 ([]:Abv)) (fun a=>(OP a1 a2 a3 a) (0:Int))
theorem TT{a0:Pv}{a1:Abv}{a2 a3:Int}{i j k:Value}(ao:AS .byte H i (a0.f.2.2.1))(ap:AS .st H j (a0.f.2.2.2.1))(aq:AS .tree H k (a0.f.2.2.2.2)){r:Bool}(h:L3 a0 a1 a2 a3=some r):
  Qqv 31 [.agg #[No a0.f.1,No a0.f.2.1,i,j,k],Abu a1,No a2,No a3] w (fun v w'=>v=.bool r):=by
 refine A4 44 [(0,.agg #[No a0.f.1,No a0.f.2.1,i,j,k]),(1,(Abu a1)),(2,No a2),(3,No a3)] func31 Z fun hL=>Ao<|BM (t:=51) Z Z hL fun w1 b1 p a6 _=>AA 1 Z<|Ao<|Ag (AJ 0 Z EK.e p Z)<|A1 h fun x2 ax h=>Br p (Om (a0:=a0) _ _ (Av p) (ao.mono  Aj) (ap.mono  Aj) (aq.mono  Aj) ax) ?_;rintro y w3 ⟨_,rfl,aa⟩ ay az a7;have ab:=aa.Cu hH p ay;refine AA 1 Z<|Bb Unit (fun(_:Unit)=>[]) (fun(_:Unit) wr=>Bk w [.box b1 [No a0.f.1,No a0.f.2.1,i,j,k] 51] wr/\L2=some r) ?_ ?_
 ·refine A7 1 Z<|A2 ?_;obtain⟨m,h⟩:=AR h;refine Bj (Int×Nat) (fun⟨b,n⟩=>[(1,(Abu a1)),(2,No a2),(3,No a3),(9,y),(10,No b)]) (fun⟨b,n⟩ wr=>C5 w [.box b1 [No a0.f.1,No a0.f.2.1,i,j,k] 51] wr fun Oz=>AS AlF (gz H w wr Oz) y x2/\DR (Iu a1 a2 a3 x2) n b=some r) (fun⟨b,n⟩=>n) (0,m) Z ⟨az,ab,h⟩ ?_;rintro⟨b,nn96⟩ a8 ⟨e,a,h⟩;obtain⟨m,bh,rfl,h,l⟩:=AQ h;refine A6<|Bo 2 Z<|Ag (AZ a)<|AA 1 Z<|AL h ?_ ?_<;>intro ar h
  ·refine Au<|Aq<|A6<|A2<|Bo 2 Z<|Ax h fun q h=>AW a b.toNat (Cx q) (AM q) ?_;rintro a9 _ ⟨_,_,rfl,rfl,⟨_,_,rfl,rfl,⟨_,_,rfl,rfl,rfl⟩⟩⟩ ac;refine Ag (Ae Z Ali Z BB.e) ?_;have ad:=ac.add 1;refine Ag (AT ad (Av e))<|As 2 Z<|Bz 25 h ?_ ?_<;>intro c h
   ·refine Aa c<|Ag (Ai Z)<|Aa c<|Ag (Ai Z)<|Aa c<|Ax h fun s h=>AW a b.toNat (Cx s) (AM s) ?_;rintro ba _ ⟨_,_,rfl,rfl,⟨_,_,rfl,rfl,⟨_,_,rfl,rfl,rfl⟩⟩⟩ ae;refine Aa c<|Ag (Ae Z Ali Z BB.e) ?_;have af:=ae.add 2;refine Aa c<|Ag (AT af (Av e))<|Aa c<|Ag (Ai Z)<|Aa c<|Ag (Ai Z)<|Aa c<|A1 h fun bb ag h=>A9 e (D0 _ _ (Av e) ag) fun bc a4 g o=>Ag (AF c Z)<|As 1 Z<|Cv 35 h ?_ ?_<;>intro d h
    ·refine Aa d<|Ag (Ai Z)<|Aa d<|Ag (Ai Z)<|Aa d<|Ag (Ai Z)<|Aa d<|Ax h fun u h=>?_;have a:=a.mono (Ab o);refine AW a b.toNat (Cx u) (AM u) ?_;rintro bd _ ⟨_,_,rfl,rfl,⟨_,_,rfl,rfl,⟨_,_,rfl,rfl,rfl⟩⟩⟩ ah;refine Aa d<|Ag (Ae Z Ali Z Dl.e) ?_;have ai:=ah.add 0;refine Aa d<|Ag (AT ai (Av g))<|Aa d<|A1 h fun be aj h=>A9 g (Nf _ _ (Av g) aj) fun bf a5 x z=>Ag (AF d Z)<|Ad<|Bi h ?_ ?_<;>intro ak h
     ·refine A7 1 Z<|Aw<|Al<|Am<|Bc ?_;have h:=Bw.out h l;refine Al<|AN ?_
      cases h
      refine Ah Z ⟨x.ext,Z⟩
     refine Au<|Az<|Aq<|An<|As 1 Z<|Ax h fun al h=>Ag (Ay al)<|As 1 Z<|AE ?_;have h:=Bw.again h l;have a:=a.mono (Ab z);refine AD (_,_) Z ⟨x,a,h⟩
    iterate 7 refine Ar d ?_
    refine Ag (AG d Z)<|Ad<|Co<|Au<|Az<|Aq<|An<|As 1 Z<|Ax h fun am h=>Ag (Ay am)<|As 1 Z<|AE ?_;have h:=Bw.again h l;have a:=a.mono (Ab o);refine AD (_,_) Z ⟨g,a,h⟩
   iterate 8 refine Ar c ?_
   refine Ag (AG c Z)<|As 1 Z ?_
   iterate 7 refine Ar Z ?_
   refine Ag (AG Z Z)<|Ad<|Co<|Au<|Az<|Aq<|An<|As 1 Z<|Ax h fun an h=>Ag (Ay an)<|As 1 Z<|AE ?_;have h:=Bw.again h l;refine AD (_,_) Z ⟨e,a,h⟩
  refine Bf<|A5<|A3 ?_;have h:=Bw.out h l;refine AY<|A8 () ⟨e,h⟩
 rintro _ bg ⟨au,h⟩;refine A7 1 Z<|Aw ?_
 cases h
 refine Ah Z ⟨au.ext,Z⟩
def Mo:Option Bool:=
 some false
def Je(a1:Abv)(a2:Abv)(b:(List Alu)):Int->Option ((Int)⊕(Bool)):=fun a=>
 if a<(b.length:Int)then AU (0<=a/\a<(b.length:Int)) (if(b.getD a.toNat Qq2).2.1=2 then AU (0<=a/\a<(b.length:Int)) (if(b.getD a.toNat Qq2).2.2.2=a2 then AU (0<=a/\a<(b.length:Int)) (Qq9 (FY a1 ((b.getD a.toNat Qq2).1)) (fun c=>if c then Qzx Sum.inr (some true)else AU (Bq (a+1)) (some (Sum.inl (a+1)))))else AU (Bq (a+1)) (some (Sum.inl (a+1))))else AU (Bq (a+1)) (some (Sum.inl (a+1))))else Qzx Sum.inr Mo
def PK(a1:Abv)(a2:Abv)(a:(List Alu))(s:Int):Option Bool:=Go.L.run (Je a1 a2 a) s
def M4(a0:Pv)(a1:Abv)(a2:Abv):Option Bool:=
 Qq9 (Lc a0 ([]:Abv)) (fun a=>(PK a1 a2 a) (0:Int))
theorem UH{a0:Pv}{a1 a2:Abv}{i j k m:Value}(a4:AS .byte H i (a0.f.2.2.1))(a5:AS .st H j (a0.f.2.2.2.1))(a6:AS .tree H k (a0.f.2.2.2.2))(a7:AS .byte H m a2){r:Bool}(h:M4 a0 a1 a2=some r):
  Qqv 32 [.agg #[No a0.f.1,No a0.f.2.1,i,j,k],Abu a1,m] w (fun v w'=>v=.bool r):=by
 refine A4 42 [(0,.agg #[No a0.f.1,No a0.f.2.1,i,j,k]),(1,(Abu a1)),(2,m)] func32 Z fun hL=>Ao<|BM (t:=51) Z Z hL fun w1 b1 p bg _=>AA 1 Z<|Ao<|Ag (AJ 0 Z EK.e p Z)<|A1 h fun x2 bb h=>Br p (Om (a0:=a0) _ _ (Av p) (a4.mono  Aj) (a5.mono  Aj) (a6.mono  Aj) bb) ?_;rintro ae w3 ⟨_,rfl,aj⟩ bc bd bh;have ak:=aj.Cu hH p bc;refine AA 1 Z<|Bb Unit (fun(_:Unit)=>[]) (fun(_:Unit) wr=>Bk w [.box b1 [No a0.f.1,No a0.f.2.1,i,j,k] 51] wr/\Mo=some r) ?_ ?_
 ·refine A7 1 Z<|A2 ?_;obtain⟨l,h⟩:=AR h;refine Bj (Int×Nat) (fun⟨b,n⟩=>[(1,(Abu a1)),(2,m),(7,ae),(8,No b)]) (fun⟨b,n⟩ wr=>C5 w [.box b1 [No a0.f.1,No a0.f.2.1,i,j,k] 51] wr fun Oz=>AS AlF (gz H w wr Oz) ae x2/\DR (Je a1 a2 x2) n b=some r) (fun⟨b,n⟩=>n) (0,l) Z ⟨bd,ak,h⟩ ?_;rintro⟨b,nn114⟩ be ⟨o,a,h⟩;obtain⟨l,bi,rfl,h,g⟩:=AQ h;refine A6<|Bo 2 Z<|Ag (AZ a)<|AA 1 Z<|AL h ?_ ?_<;>intro al h
  ·refine Au<|Aq<|A6<|A2<|BZ (Qqz 0 25 (.tail 25)) mixed Qqb (fun bj u=>?_);have e:=o.call u;have af:=AH o u;refine B9 2 Z<|Ax h fun x h=>?_;have a:=a.mono (Ab af);refine CP Z Z Z Alh a b.toNat (Cx x) (AM x) Z ?_;rintro bk _ ⟨_,_,rfl,rfl,⟨_,_,rfl,rfl,⟨_,_,rfl,rfl,rfl⟩⟩⟩ am;refine B2 Z (Ae Z Ali Z BB.e) Z ?_;have an:=am.add 1;refine B2 Z (AT an (Av e)) Z<|B9 2 Z<|HO 23 Z (fun c=>?_) (fun c=>?_)
   ·have h:=OD (of_decide_eq_true c) h
    iterate 2 refine CM Z (Ai Z) Z Z Z c Z ?_
    refine Ax h fun y h=>I2 Z Z Z Z c Z Z Alh a b.toNat (Cx y) (AM y) Z ?_;rintro bl _ ⟨_,_,rfl,rfl,⟨_,_,rfl,rfl,⟨_,_,rfl,rfl,rfl⟩⟩⟩ ao;refine CM Z (Ae Z Ali Z Dl.e) Z Z Z c Z ?_;have ap:=ao.add 3;refine CM Z (AT ap (Av e)) Z Z Z c Z<|CM Z (Ai Z) Z Z Z c Z<|CM Z (NS a7 (hH.trans e.arg)) Z Z Z c Z<|CM Z (Kj Z Z) Z Z Z c Z<|B2 Z (AF c Z) Z<|B9 1 Z<|HO 33 Z (fun d=>?_) (fun d=>?_)
    ·have h:=OD (of_decide_eq_true d) h
     iterate 3 refine CM Z (Ai Z) Z Z Z d Z ?_
     refine Ax h fun z h=>I2 Z Z Z Z d Z Z Alh a b.toNat (Cx z) (AM z) Z ?_;rintro bm _ ⟨_,_,rfl,rfl,⟨_,_,rfl,rfl,⟨_,_,rfl,rfl,rfl⟩⟩⟩ aq;refine CM Z (Ae Z Ali Z Dl.e) Z Z Z d Z ?_;have ar:=aq.add 0;refine CM Z (AT ar (Av e)) Z Z Z d Z<|A1 h fun bn au h=>Sf Z Z Z Z d Z Z (fun bo bf=>Nf _ _ (Le.refl _) au)<|B2 Z (AF d Z) Z<|Bt (fun bp aa=>?_);have ab:=e.call aa;have ag:=AH e aa;refine Ad<|Bi h ?_ ?_<;>intro av h
     ·refine A7 1 Z<|Aw<|Al<|Am<|Bc ?_;have h:=Bw.out h g;refine Al<|AN ?_
      cases h
      refine Ah Z ⟨ab.ext,Z⟩
     refine Au<|Az<|Aq<|An<|As 1 Z<|Ax h fun aw h=>Ag (Ay aw)<|As 1 Z<|AE ?_;have h:=Bw.again h g;have a:=a.mono (Ab ag);refine AD (_,_) Z ⟨ab,a,h⟩
    have h:=OE (of_decide_eq_false d) h
    iterate 7 refine NP Z Z Z Z d Z ?_
    refine B2 Z (AG d Z) Z<|Bt (fun bq ac=>?_);have ax:=e.call ac;have ah:=AH e ac;refine Ad<|Co<|Au<|Az<|Aq<|An<|As 1 Z<|Ax h fun ay h=>Ag (Ay ay)<|As 1 Z<|AE ?_;have h:=Bw.again h g;have a:=a.mono (Ab ah);refine AD (_,_) Z ⟨ax,a,h⟩
   have h:=OE (of_decide_eq_false c) h
   iterate 8 refine NP Z Z Z Z c Z ?_
   refine B2 Z (AG c Z) Z<|B9 1 Z ?_
   iterate 7 refine NP Z Z Z Z Z Z ?_
   refine B2 Z (AG Z Z) Z<|Bt (fun br ad=>?_);have az:=e.call ad;have ai:=AH e ad;refine Ad<|Co<|Au<|Az<|Aq<|An<|As 1 Z<|Ax h fun a3 h=>Ag (Ay a3)<|As 1 Z<|AE ?_;have h:=Bw.again h g;have a:=a.mono (Ab ai);refine AD (_,_) Z ⟨az,a,h⟩
  refine Bf<|A5<|A3 ?_;have h:=Bw.out h g;refine AY<|A8 () ⟨o,h⟩
 rintro _ bs ⟨a8,h⟩;refine A7 1 Z<|Aw ?_
 cases h
 refine Ah Z ⟨a8.ext,Z⟩
end
end Go.Proofs.YtopocbcekabkoaaGreatDoor
end
