/- Texts of a claim, merged. -/
import Derived.Test.YtfgomcdgmihmpaaGreatDoorLa3
import Derived.KernelRfl
open _root_.Go.Proofs.Tryz renaming underlying49→Z1,underlying34→Z2,underlying43→Z3,underlying22→Zi,underlying27→Zl,underlying38→Zm,underlying31→Zo,underlying186→Zp,underlying53→Zs,underlying25→Zv,underlying23→Zw,underlying90→Zz
open Option renaming bind->QqB,map->QqD
open List renaming length_append->Qq1,replicate->Qq3,eq_nil_of_length_eq_zero->Qzf,length_drop->Qzv,append_assoc->QzJ,drop_eq_nil_of_le->Qxk,drop->QzB,size_toArray->Qxy
open Nat renaming le_refl->Qq0,blt->QqE,zero_le->Qq7,add_mul->Qzy,zero_mul->Qz4
set_option linter.unusedVariables false
set_option linter.unusedSimpArgs false
set_option linter.unusedSectionVars false
noncomputable section
namespace Go
abbrev ZP:=ZJ×(List Zg)×Bool
end Go
namespace Go
abbrev ZL:=(List Zg)×Bool×(List Zg)
end Go
namespace Go.Proofs.YtfgomcdgmihmpaaGreatDoor
open Go Go.E Go.RowKit Go.L
set_option maxHeartbeats 1000000
set_option maxRecDepth 10000
open _root_.Go.Proofs.Tryz
def JC(a0:ZJ)(a1:Zg):Option Bool:=
 some (decide (a0.1=a1))
theorem Ol{a w:World}{H:PH}(hH:Le H (hp a)){O:List BS}{a0:ZJ}{a1:Zg}{va0_2 va0_10 va0_11:Value}{ba1:Nat}(hL:AZ a (Ha [.box ba1 [Zf a1] 9] O) w)(_ha0_2:AD .byte (gz H a w (Ha [.box ba1 [Zf a1] 9] O)) va0_2 (a0.2.2.1))(_ha0_10:AD .st (gz H a w (Ha [.box ba1 [Zf a1] 9] O)) va0_10 (a0.2.2.2.2.2.2.2.2.2.2.1))(_ha0_11:AD (.int .i64) (gz H a w (Ha [.box ba1 [Zf a1] 9] O)) va0_11 (a0.2.2.2.2.2.2.2.2.2.2.2)){r:Bool}(h:JC a0 a1=some r):
  Ok prog 94 [.agg #[Zf a0.1,No a0.2.1,va0_2,No a0.2.2.2.1,.bool a0.2.2.2.2.1,No a0.2.2.2.2.2.1,No a0.2.2.2.2.2.2.1,No a0.2.2.2.2.2.2.2.1,No a0.2.2.2.2.2.2.2.2.1,No a0.2.2.2.2.2.2.2.2.2.1,va0_10,va0_11],Ze ba1] w (fun v w'=>v=.bool r/\AZ a (Ha [.box ba1 [Zf a1] 9] O) w'/\Le (fz w (Ha [.box ba1 [Zf a1] 9] O)) (fz w' (Ha [.box ba1 [Zf a1] 9] O))):=by
 refine BF (n:=8) [(0,.agg #[Zf a0.1,No a0.2.1,va0_2,No a0.2.2.2.1,.bool a0.2.2.2.2.1,No a0.2.2.2.2.2.1,No a0.2.2.2.2.2.2.1,No a0.2.2.2.2.2.2.2.1,No a0.2.2.2.2.2.2.2.2.1,No a0.2.2.2.2.2.2.2.2.2.1,va0_10,va0_11]),(1,(Ze ba1))] func94 Z Z Z Z ?_;have hT:=Le.refl (fz w (Ha [.box ba1 [Zf a1] 9] O));refine Av<|C1 (t:=53) Z Z hL fun e f b c _=>A4 1 Z<|Av<|Ah (Af Z Zs Z KN.e)<|Ah (Ag 0 Z b Z)<|Ah (Ag 1 Z b Z)<|Ah (Kn Z Z)<|A4 1 Z<|Ay ?_
 cases h
 refine Ak Z ?_;have d:=b.AM (i:=0) Z;have hT:=hT.trans (c.trans (Ae (i:=0) Z));exact⟨Z,d,hT⟩
def Cx:Option Int:=
 some ((-1))
def Cr(a0:List ZJ)(a1_c0:Zg):Int->Option ((Int)⊕(Int)):=fun a=>
 if a<(a0.length:Int)then Bi (0<=a/\a<(a0.length:Int)) (QqB (JC (a0.getD a.toNat Qqf) a1_c0) (fun b=>if b then QqD Sum.inr (some a)else Bi (BX (a+1)) (some (Sum.inl (a+1)))))else QqD Sum.inr Cx
def Dd(a0:List ZJ)(a1_c0:Zg)(s:Int):Option Int:=Go.L.run (Cr a0 a1_c0) s
def CF(a0:List ZJ)(a1_c0:Zg):Option Int:=
 (Dd a0 a1_c0) (0:Int)
theorem H9{d w:World}{H:PH}(hH:Le H (hp d)){O:List BS}{a0:List ZJ}{a1_c0:Zg}{va0:Value}{ba1_c0:Nat}(hL:AZ d (Ha [.box ba1_c0 [Zf a1_c0] 9] O) w)(k:AD ZR (gz H d w (Ha [.box ba1_c0 [Zf a1_c0] 9] O)) va0 a0){r:Int}(h:CF a0 a1_c0=some r):
  Ok prog 93 [va0,.func (.func 94) #[] #[Ze ba1_c0]] w (fun v w'=>v=No r/\AZ d (Ha [.box ba1_c0 [Zf a1_c0] 9] O) w'/\Le (fz w (Ha [.box ba1_c0 [Zf a1_c0] 9] O)) (fz w' (Ha [.box ba1_c0 [Zf a1_c0] 9] O))):=by
 refine BF (n:=19) [(0,va0),(1,.func (.func 94) #[] #[Ze ba1_c0])] func93 Z Z Z Z ?_;have hT:=Le.refl (fz w (Ha [.box ba1_c0 [Zf a1_c0] 9] O));refine AI 1 Z<|Bs Unit (fun(_:Unit)=>[]) (fun(_:Unit) wr=>DK d (Ha [.box ba1_c0 [Zf a1_c0] 9] O) wr fun Oz=>Le (fz w (Ha [.box ba1_c0 [Zf a1_c0] 9] O)) (fz wr Oz)/\Cx=some r) ?_ ?_
 ·refine BN 1 Z<|Ah (AX k)<|A4 1 Z<|AA ?_;obtain⟨g,h⟩:=Bf h;refine BB (Int×Nat) (fun⟨a,n⟩=>[(0,va0),(1,.func (.func 94) #[] #[Ze ba1_c0]),(7,No (a0.length:Int)),(8,No a)]) (fun⟨a,n⟩ wr=>DK d (Ha [.box ba1_c0 [Zf a1_c0] 9] O) wr fun Oz=>AD ZR (gz H d wr Oz) va0 a0/\Le (fz w (Ha [.box ba1_c0 [Zf a1_c0] 9] O)) (fz wr Oz)/\FX (Cr a0 a1_c0) n a=some r) (fun⟨a,n⟩=>n) (0,g) Z ⟨hL,k,hT,h⟩ ?_;rintro⟨a,nn42⟩ t ⟨e,b,hT,h⟩;obtain⟨g,x,rfl,h,f⟩:=Bd h;refine AI 1 Z<|AN<|AY h ?_ ?_<;>intro l h
  ·refine A5<|A3<|AN<|AA<|AI 2 Z<|BN 3 Z<|A8 h fun i h=>Bb b a.toNat (Dw i) (AK i) ?_;rintro y _ ⟨_,_,rfl,rfl,⟨_,_,rfl,rfl,⟨_,_,rfl,⟨e46v2,rfl,e46h2⟩,⟨_,_,rfl,rfl,⟨_,_,rfl,rfl,⟨_,_,rfl,rfl,⟨_,_,rfl,rfl,⟨_,_,rfl,rfl,⟨_,_,rfl,rfl,⟨_,_,rfl,rfl,⟨_,_,rfl,⟨e46v10,rfl,e46h10⟩,⟨e46v11,rfl,e46h11⟩⟩⟩⟩⟩⟩⟩⟩⟩⟩⟩⟩ m;refine Ah (Cq m (Al e))<|Ax h fun z o h=>BD Z Z (Ol (a0:=(a0.getD a.toNat Qqf)) (a1:=a1_c0) (O:=(Ha [] O)) hH e e46h2 e46h10 e46h11 o) ?_;rintro _ aa ⟨rfl,j,c⟩;refine Am<|Bm h ?_ ?_<;>intro p h
   ·refine AI 2 Z<|Ay<|A1<|AE<|BQ ?_;have h:=Ct.out h f;refine A1<|BC ?_
    cases h
    refine Ak Z ?_;have hT:=hT.trans c;exact⟨Z,j,hT⟩
   refine A5<|AB<|A3<|A2<|A8 h fun q h=>Ah (AH q)<|Aw 1 Z<|AQ ?_;have h:=Ct.again h f;have b:=b.mono (Ab c);have hT:=hT.trans c;refine AS (_,_) ⟨j,b,hT,h⟩
  refine BA<|AP<|AJ ?_;have h:=Ct.out h f;refine Bu<|A7 () ⟨e,hT,h⟩
 rintro _ u ⟨s,hT,h⟩;refine AI 1 Z<|Ay ?_
 cases h
 refine Ak Z ⟨Z,s,hT⟩
def JV(a0:List ZJ)(a1:Zg):Option Int:=
 QqB (CF a0 a1) (fun a=>some a)
section
variable(w:World)(H:PH)(hH:Le H (hp w)) include hH
theorem Mw{a0:List ZJ}{a1:Zg}{a:Value}(b:AD ZR H a a0){r:Int}(h:JV a0 a1=some r):
  Zy 50 [a,Zf a1] w (fun v w'=>v=No r):=by
 refine AL 8 [(0,a),(1,(Zf a1))] func50 Z fun hL=>Av<|Pk (t:=9) Z Z hL fun i j c f _=>A4 1 Z<|BN 2 Z<|Ax h fun k d h=>BR (H9 (a0:=a0) (a1_c0:=a1) (O:=[]) hH c (b.mono  Ai) d) ?_;rintro _ l ⟨rfl,e,g⟩;refine A4 1 Z<|Ay ?_
 cases h
 refine Ak Z ⟨e.ext,Z⟩
def EJ(a0:ZJ)(a2:Int)(a:Bool):Option Int:=
 if a then none else(if 12<(a0.2.2.2.2.2.2.2.2.2.2.2.length:Int)then none else QqB (JB a0 a2) (fun b=>if !b then none else some (0)))
def HA(a0:ZJ)(a1:List ZJ)(a2:Int):Option Int:=
 QqB (Ej a0.1) (fun c=>if !c then none else QqB (JV a1 a0.1) (fun d=>if 0<=d then none else QqB (GB a0.2.1 (1:Int) (10:Int)) (fun a=>if !a then none else QqB (JA a0) (fun b=>if !b then none else(if((decide (a0.2.1=1))&&(decide ((a0.2.2.1.length:Int)=0)))then none else(if 16<(a0.2.2.1.length:Int)then none else(if((decide (a0.2.1=7))&&(!decide ((a0.2.2.2.2.2.2.2.2.2.2.1.length:Int)=(a0.2.2.2.2.2.2.2.2.2.2.2.length:Int))))then none else(if((decide (a0.2.1=7))&&(decide ((a0.2.2.2.2.2.2.2.2.2.2.2.length:Int)=0)))then(EJ a0 a2) ((decide (a0.2.1=7))&&(decide ((a0.2.2.2.2.2.2.2.2.2.2.2.length:Int)=0)))else(EJ a0 a2) ((decide (a0.2.1=8))&&(decide ((a0.2.2.2.2.2.2.2.2.2.2.2.length:Int)<2)))))))))))
theorem MJ{a0:ZJ}{a1:List ZJ}{a2:Int}{i j k o:Value}(l:AD .byte H i (a0.2.2.1))(p:AD .st H j (a0.2.2.2.2.2.2.2.2.2.2.1))(g:AD (.int .i64) H k (a0.2.2.2.2.2.2.2.2.2.2.2))(ad:AD ZR H o a1){r:Int}(h:HA a0 a1 a2=some r):
  Zy 125 [.agg #[Zf a0.1,No a0.2.1,i,No a0.2.2.2.1,.bool a0.2.2.2.2.1,No a0.2.2.2.2.2.1,No a0.2.2.2.2.2.2.1,No a0.2.2.2.2.2.2.2.1,No a0.2.2.2.2.2.2.2.2.1,No a0.2.2.2.2.2.2.2.2.2.1,j,k],o,No a2] w (fun v w'=>v=No r):=by
 refine AL 84 [(0,.agg #[Zf a0.1,No a0.2.1,i,No a0.2.2.2.1,.bool a0.2.2.2.2.1,No a0.2.2.2.2.2.1,No a0.2.2.2.2.2.2.1,No a0.2.2.2.2.2.2.2.1,No a0.2.2.2.2.2.2.2.2.1,No a0.2.2.2.2.2.2.2.2.2.1,j,k]),(1,o),(2,No a2)] func125 Z fun hL=>Av<|C1 (t:=53) Z Z hL fun w1 b1 u a4 _=>A4 1 Z<|AN<|AA<|Av<|Ah (Af Z Zs Z KN.e)<|Ah (Ag 0 Z u Z)<|Ax h fun x2 au h=>A9 u (FQ _ _ (Al u) au) fun w3 bb x a5=>A4 2 Z<|Bm h ?_ ?_<;>intro av h
 ·cases h
 refine BN 1 Z<|Ah (Af Z Zs Z KN.e)<|Ah (Ag 0 Z x Z)<|Ax h fun x7 aw h=>A9 x (Mw _ _ (Al x) (ad.mono  Ai) aw) fun w8 bc y a6=>A4 2 Z<|AY h ?_ ?_<;>intro ax h
 ·cases h
 refine Av<|Ah (Af Z Zs Z B6.e)<|Ah (Ag 0 Z y Z)<|Ax h fun bd ae h=>A9 y (Hx _ _ (Al y) ae) fun be a7 q ay=>A4 2 Z<|Bm h ?_ ?_<;>intro af h
 ·cases h
 refine Av<|Ah (Az 0 Z Bp.e q Z)<|Ax h fun bf ag h=>A9 q (Oe (a0:=a0) _ _ (Al q) (l.mono  Ai) (p.mono  Ai) (g.mono  Ai) ag) fun bg a8 b az=>A4 2 Z<|Bm h ?_ ?_<;>intro ah h
 ·cases h
 refine Av<|Ah (Af Z Zs Z B6.e)<|Ah (Ag 0 Z b Z)<|Aw 2 Z<|BU 5 36 (.bool ((decide (a0.2.1=1))&&(decide ((a0.2.2.1.length:Int)=0)))) (fun z=>?_) ?_
 ·refine Bl (s:=31) Z (fun c=>?_) (fun c=>?_)
  ·refine Aa c<|Ah (Af Z Zs Z FJ.e)<|Aa c<|Ah (Ag 0 Z b Z)<|Aa c<|Ah (AX l)<|Aa c<|Ah (Ad Z)<|Ah (Aj c Z)<|z.to 4 (FH c) Z Z
  iterate 4 refine Ac c ?_
  refine Ah (An c Z)<|z.to 4 (FI c) Z Z
 refine A4 1 Z<|Bm h ?_ ?_<;>intro ai h
 ·cases h
 refine Av<|Ah (Af Z Zs Z FJ.e)<|Ah (Ag 0 Z b Z)<|Ah (AX l)<|A4 2 Z<|AY h ?_ ?_<;>intro aj h
 ·cases h
 refine Av<|Ah (Af Z Zs Z B6.e)<|Ah (Ag 0 Z b Z)<|Aw 2 Z<|BU 8 54 (.bool ((decide (a0.2.1=7))&&(!decide ((a0.2.2.2.2.2.2.2.2.2.2.1.length:Int)=(a0.2.2.2.2.2.2.2.2.2.2.2.length:Int))))) (fun aa=>?_) ?_
 ·refine Bl (s:=46) Z (fun a=>?_) (fun a=>?_)
  ·refine Aa a<|Ah (Af Z Zs Z C3.e)<|Aa a<|Ah (Ag 0 Z b Z)<|Aa a<|Ah (AX p)<|Aa a<|Ah (Af Z Zs Z D0.e)<|Aa a<|Ah (Ag 0 Z b Z)<|Aa a<|Ah (AX g)<|Aa a<|Ah (Ad Z)<|Ah (Aj a Z)<|aa.to 7 (FH a) Z Z
  iterate 7 refine Ac a ?_
  refine Ah (An a Z)<|aa.to 7 (FI a) Z Z
 refine A4 1 Z<|Bm h ?_ ?_<;>intro ak h
 ·cases h
 refine Bs Bool (fun f=>[(2,No a2),(3,(Ze b1)),(55,.bool f)]) (fun f wr=>AZ w [.box b1 [Zf a0.1,No a0.2.1,i,No a0.2.2.2.1,.bool a0.2.2.2.2.1,No a0.2.2.2.2.2.1,No a0.2.2.2.2.2.2.1,No a0.2.2.2.2.2.2.2.1,No a0.2.2.2.2.2.2.2.2.1,No a0.2.2.2.2.2.2.2.2.2.1,j,k] 53] wr/\(EJ a0 a2) f=some r) ?_ ?_
 ·refine Av<|Ah (Af Z Zs Z B6.e)<|Ah (Ag 0 Z b Z)<|Aw 2 Z<|BU 5 64 (.bool ((decide (a0.2.1=7))&&(decide ((a0.2.2.2.2.2.2.2.2.2.2.2.length:Int)=0)))) (fun ab=>?_) ?_
  ·refine Bl (s:=59) Z (fun d=>?_) (fun d=>?_)
   ·refine Aa d<|Ah (Af Z Zs Z D0.e)<|Aa d<|Ah (Ag 0 Z b Z)<|Aa d<|Ah (AX g)<|Aa d<|Ah (Ad Z)<|Ah (Aj d Z)<|ab.to 4 (FH d) Z Z
   iterate 4 refine Ac d ?_
   refine Ah (An d Z)<|ab.to 4 (FI d) Z Z
  refine A4 1 Z<|Bm h ?_ ?_<;>intro al h
  ·refine A5<|A7 _ ⟨b,h⟩
  refine A2<|Ah (Af Z Zs Z B6.e)<|Ah (Ag 0 Z b Z)<|Aw 2 Z<|BU 5 73 (.bool ((decide (a0.2.1=8))&&(decide ((a0.2.2.2.2.2.2.2.2.2.2.2.length:Int)<2)))) (fun ac=>?_) ?_
  ·refine Bl (s:=68) Z (fun e=>?_) (fun e=>?_)
   ·refine Aa e<|Ah (Af Z Zs Z D0.e)<|Aa e<|Ah (Ag 0 Z b Z)<|Aa e<|Ah (AX g)<|Aa e<|Ah (Ad Z)<|Ah (Aj e Z)<|ac.to 4 (FH e) Z Z
   iterate 4 refine Ac e ?_
   refine Ah (An e Z)<|ac.to 4 (FI e) Z Z
  refine Aw 1 Z<|AQ<|A7 _ ⟨b,h⟩
 rintro f a9 ⟨m,h⟩;refine Bm h ?_ ?_<;>intro am h
 ·cases h
 refine Av<|Ah (Af Z Zs Z D0.e)<|Ah (Ag 0 Z m Z)<|Ah (AX g)<|A4 2 Z<|AY h ?_ ?_<;>intro an h
 ·cases h
 refine Av<|Ah (Az 0 Z Bp.e m Z)<|Aw 1 Z<|Ax h fun bh ao h=>A9 m (Of (a0:=a0) _ _ (Al m) (l.mono  Ai) (p.mono  Ai) (g.mono  Ai) ao) fun bi ba ap a3=>A4 2 Z<|Bm h ?_ ?_<;>intro aq h
 ·cases h
 refine A5<|AB<|A3<|AI 1 Z<|Ay ?_
 cases h
 refine Ak Z ⟨ap.ext,Z⟩
def Fh(a1:ZJ)(a:Int)(b:Bool):Option ((Int)⊕(Int)):=
 if b then none else(if a1.2.2.2.2.2.2.2.2.2.2.1.getD a.toNat Qqf=([]:Zg)then if a1.2.2.2.2.2.2.2.2.2.2.1.getD a.toNat Qqf=([]:Zg)then Bi (BX (a+1)) (some (Sum.inl (a+1)))else Bi (0<=a/\a<=(a1.2.2.2.2.2.2.2.2.2.2.1.length:Int)) (QqB (Cl (a1.2.2.2.2.2.2.2.2.2.2.1.take a.toNat) (a1.2.2.2.2.2.2.2.2.2.2.1.getD a.toNat Qqf)) (fun c=>if c then none else Bi (BX (a+1)) (some (Sum.inl (a+1)))))else QqB (Ej (a1.2.2.2.2.2.2.2.2.2.2.1.getD a.toNat Qqf)) (fun d=>if !d then none else(if a1.2.2.2.2.2.2.2.2.2.2.1.getD a.toNat Qqf=([]:Zg)then Bi (BX (a+1)) (some (Sum.inl (a+1)))else Bi (0<=a/\a<=(a1.2.2.2.2.2.2.2.2.2.2.1.length:Int)) (QqB (Cl (a1.2.2.2.2.2.2.2.2.2.2.1.take a.toNat) (a1.2.2.2.2.2.2.2.2.2.2.1.getD a.toNat Qqf)) (fun e=>if e then none else Bi (BX (a+1)) (some (Sum.inl (a+1))))))))
def Gy:Option Int:=
 some (0)
def Gb(a0:(List ZJ))(a1:ZJ):Int->Option ((Int)⊕(Int)):=fun a=>
 if a<(a1.2.2.2.2.2.2.2.2.2.2.1.length:Int)then Bi (0<=a/\a<(a1.2.2.2.2.2.2.2.2.2.2.1.length:Int)) (if a1.2.2.2.2.2.2.2.2.2.2.1.getD a.toNat Qqf=([]:Zg)then Bi (0<=a/\a<(a1.2.2.2.2.2.2.2.2.2.2.2.length:Int)) (Bi (0<=a1.2.2.2.2.2.2.2.2.2.2.2.getD a.toNat Qqf/\a1.2.2.2.2.2.2.2.2.2.2.2.getD a.toNat Qqf<(a0.length:Int)) ((Fh a1 a) (!decide ((a0.getD ((a1.2.2.2.2.2.2.2.2.2.2.2.getD a.toNat Qqf).toNat) Qqf).2.1=1))))else(Fh a1 a) false)else QqD Sum.inr Gy
def I7(a0:(List ZJ))(a1:ZJ)(s:Int):Option Int:=Go.L.run (Gb a0 a1) s
def Fi(a0:(List ZJ))(a1:ZJ):Option Int:=
 if a1.2.1=7 then(I7 a0 a1) (0:Int)else some (0)
def Im(a0:(List ZJ))(a1:ZJ):Option Int:=
 QqB (BK a1) (fun a=>if a then Bi (0<=a1.2.2.2.2.2.2.2.2.1/\a1.2.2.2.2.2.2.2.2.1<(a0.length:Int)) (QqB (Du (a0.getD a1.2.2.2.2.2.2.2.2.1.toNat Qqf)) (fun b=>if !b then none else(Fi a0 a1)))else(Fi a0 a1))
theorem Nu{a0:(List ZJ)}{a1:ZJ}{l m f o:Value}(ah:AD ZR H l a0)(bh:AD .byte H m (a1.2.2.1))(z:AD .st H f (a1.2.2.2.2.2.2.2.2.2.2.1))(ai:AD (.int .i64) H o (a1.2.2.2.2.2.2.2.2.2.2.2)){r:Int}(h:Im a0 a1=some r):
  Zy 126 [.agg #[l],.agg #[Zf a1.1,No a1.2.1,m,No a1.2.2.2.1,.bool a1.2.2.2.2.1,No a1.2.2.2.2.2.1,No a1.2.2.2.2.2.2.1,No a1.2.2.2.2.2.2.2.1,No a1.2.2.2.2.2.2.2.2.1,No a1.2.2.2.2.2.2.2.2.2.1,f,o]] w (fun v w'=>v=No r):=by
 refine AL 66 [(0,.agg #[l]),(1,.agg #[Zf a1.1,No a1.2.1,m,No a1.2.2.2.1,.bool a1.2.2.2.2.1,No a1.2.2.2.2.2.1,No a1.2.2.2.2.2.2.1,No a1.2.2.2.2.2.2.2.1,No a1.2.2.2.2.2.2.2.2.1,No a1.2.2.2.2.2.2.2.2.2.1,f,o])] func126 Z fun hL=>Av<|C1 (t:=25) Z Z hL fun w1 b1 bp b4 _=>C1 (t:=53) Z Z bp fun w2 b2 aj b5 _=>A4 1 Z<|Bs Unit (fun(_:Unit)=>[(2,(Ze b1)),(3,(Ze b2))]) (fun(_:Unit) wr=>AZ w [.box b2 [Zf a1.1,No a1.2.1,m,No a1.2.2.2.1,.bool a1.2.2.2.2.1,No a1.2.2.2.2.2.1,No a1.2.2.2.2.2.2.1,No a1.2.2.2.2.2.2.2.1,No a1.2.2.2.2.2.2.2.2.1,No a1.2.2.2.2.2.2.2.2.2.1,f,o] 53,.box b1 [l] 25] wr/\(Fi a0 a1)=some r) ?_ ?_
 ·refine Av<|Ah (Az 0 Z Bp.e aj Z)<|Ax h fun cn bi h=>A9 aj (BL (a0:=a1) _ _ (Al aj) (bh.mono  Ai) (z.mono  Ai) (ai.mono  Ai) bi) fun co b6 u bt=>Aw 1 Z<|Bj 9 h ?_ ?_<;>intro e h
  ·refine Aa e<|Ah (Af Z Zv Z Hg.e)<|Aa e<|Ah (Ag 1 Z u Z)<|Aa e<|Ah (Af Z Zs Z B6.e)<|Aa e<|Ah (Ag 0 Z u Z)<|Aa e<|A8 h fun ak h=>Bb ah a1.2.2.2.2.2.2.2.2.1.toNat (Dw ak) (AK ak) ?_;rintro cp _ ⟨_,_,rfl,rfl,⟨_,_,rfl,rfl,⟨_,_,rfl,⟨e22v2,rfl,e22h2⟩,⟨_,_,rfl,rfl,⟨_,_,rfl,rfl,⟨_,_,rfl,rfl,⟨_,_,rfl,rfl,⟨_,_,rfl,rfl,⟨_,_,rfl,rfl,⟨_,_,rfl,rfl,⟨_,_,rfl,⟨e22v10,rfl,e22h10⟩,⟨e22v11,rfl,e22h11⟩⟩⟩⟩⟩⟩⟩⟩⟩⟩⟩⟩ bj;refine Aa e<|Ah (Cq bj (hH.trans u.arg))<|Aa e<|Ax h fun cq bk h=>A9 u (DO (a0:=(a0.getD a1.2.2.2.2.2.2.2.2.1.toNat Qqf)) _ _ (Al u) (e22h2.mono  Ai) (e22h10.mono  Ai) (e22h11.mono  Ai) bk) fun cr b7 bl bu=>Aa e<|Ah (Ad Z)<|Ah (Aj e Z)<|Am<|Bm h ?_ ?_<;>intro bm h
   ·cases h
   refine A5<|A7 () ⟨bl,h⟩
  iterate 8 refine Ac e ?_
  refine Ah (An e Z)<|Am<|Ht<|A5<|A7 () ⟨u,h⟩
 rintro _ b8 ⟨aa,h⟩;refine AN<|Av<|Ah (Af Z Zs Z B6.e)<|Ah (Ag 0 Z aa Z)<|A4 1 Z<|DI h ?_ ?_<;>intro bn h
 ·refine AI 1 Z<|Ay<|AE ?_
  cases h
  refine Ak Z ⟨aa.ext,Z⟩
 refine A5<|A3<|Bs Unit (fun(_:Unit)=>[]) (fun(_:Unit) wr=>AZ w [.box b2 [Zf a1.1,No a1.2.1,m,No a1.2.2.2.1,.bool a1.2.2.2.2.1,No a1.2.2.2.2.2.1,No a1.2.2.2.2.2.2.1,No a1.2.2.2.2.2.2.2.1,No a1.2.2.2.2.2.2.2.2.1,No a1.2.2.2.2.2.2.2.2.2.1,f,o] 53,.box b1 [l] 25] wr/\Gy=some r) ?_ ?_
 ·refine Av<|Ah (Af Z Zs Z C3.e)<|Ah (Ag 0 Z aa Z)<|Ah (AX z)<|A4 1 Z<|AA ?_;obtain⟨x,h⟩:=Bf h;refine BB (Int×Nat) (fun⟨a,n⟩=>[(2,(Ze b1)),(3,(Ze b2)),(23,f),(24,No (a1.2.2.2.2.2.2.2.2.2.2.1.length:Int)),(25,No a)]) (fun⟨a,n⟩ wr=>AZ w [.box b2 [Zf a1.1,No a1.2.1,m,No a1.2.2.2.1,.bool a1.2.2.2.2.1,No a1.2.2.2.2.2.1,No a1.2.2.2.2.2.2.1,No a1.2.2.2.2.2.2.2.1,No a1.2.2.2.2.2.2.2.2.1,No a1.2.2.2.2.2.2.2.2.2.1,f,o] 53,.box b1 [l] 25] wr/\FX (Gb a0 a1) n a=some r) (fun⟨a,n⟩=>n) (0,x) Z ⟨aa,h⟩ ?_;rintro⟨a,nn210⟩ bv ⟨ab,h⟩;obtain⟨x,bo,rfl,h,p⟩:=Bd h;refine AI 1 Z<|AN<|AY h ?_ ?_<;>intro al h
  ·refine A5<|A3<|AN<|AA<|BN 1 Z<|A8 h fun ae h=>Bb z a.toNat (Dw ae) (AK ae) ?_;rintro b9 _ rfl am;refine Ah (AV am (hH.trans ab.arg))<|A4 2 Z<|AA<|Bs Bool (fun i=>[(2,(Ze b1)),(3,(Ze b2)),(5,No a),(6,.string ⟨(a1.2.2.2.2.2.2.2.2.2.2.1.getD a.toNat Qqf).toArray⟩),(23,f),(24,No (a1.2.2.2.2.2.2.2.2.2.2.1.length:Int)),(25,No a),(30,.bool i)]) (fun i wr=>AZ w [.box b2 [Zf a1.1,No a1.2.1,m,No a1.2.2.2.1,.bool a1.2.2.2.2.1,No a1.2.2.2.2.2.1,No a1.2.2.2.2.2.2.1,No a1.2.2.2.2.2.2.2.1,No a1.2.2.2.2.2.2.2.2.1,No a1.2.2.2.2.2.2.2.2.2.1,f,o] 53,.box b1 [l] 25] wr/\(Fh a1 a) i=some bo) ?_ ?_
   ·refine L8 (ZX 0 16 (.tail 16)) mixed V (fun ca an=>?_);have j:=ab.call an;refine BW 1 Z<|B9 Z (Kn Z Z) Z<|BW 1 Z<|IP 33 Z (fun b=>?_) (fun b=>?_)
    ·have h:=MT (of_decide_eq_true b) h;refine D4 Z (Af Z Zv Z Hg.e) Z Z Z b Z<|D4 Z (Ag 1 Z j Z) Z Z Z b Z<|D4 Z (Af Z Zs Z D0.e) Z Z Z b Z<|D4 Z (Ag 0 Z j Z) Z Z Z b Z<|D4 Z (Ad Z) Z Z Z b Z<|A8 h fun af h=>JJ Z Z Z Z b Z Z Zm ai a.toNat (Dw af) (AK af) Z ?_;rintro cb _ rfl ao;refine D4 Z (AV ao (hH.trans j.arg)) Z Z Z b Z<|A8 h fun ag h=>JJ Z Z Z Z b Z Z Zw ah ((a1.2.2.2.2.2.2.2.2.2.2.2.getD a.toNat Qqf).toNat) (Dw ag) (AK ag) Z ?_;rintro cc _ ⟨_,_,rfl,rfl,⟨_,_,rfl,rfl,⟨_,_,rfl,⟨e240v2,rfl,e240h2⟩,⟨_,_,rfl,rfl,⟨_,_,rfl,rfl,⟨_,_,rfl,rfl,⟨_,_,rfl,rfl,⟨_,_,rfl,rfl,⟨_,_,rfl,rfl,⟨_,_,rfl,rfl,⟨_,_,rfl,⟨e240v10,rfl,e240h10⟩,⟨e240v11,rfl,e240h11⟩⟩⟩⟩⟩⟩⟩⟩⟩⟩⟩⟩ ap;refine D4 Z (Af Z Zs Z B6.e) Z Z Z b Z ?_;have aq:=ap.add 1;refine D4 Z (AV aq (hH.trans j.arg)) Z Z Z b Z<|D4 Z (Ad Z) Z Z Z b Z ?_
     refine B9 Z (Aj b Z) Z<|BW 1 Z<|BM (fun cd ar=>?_);have au:=j.call ar;refine AQ<|A7 _ ⟨au,h⟩
    have h:=MU (of_decide_eq_false b) h
    iterate 11 refine MG Z Z Z Z b Z ?_
    refine B9 Z (An b Z) Z<|BW 1 Z<|BM (fun ce av=>?_);have aw:=j.call av;refine AQ<|A7 _ ⟨aw,h⟩
   rintro i bw ⟨k,h⟩;refine Bm h ?_ ?_<;>intro ax h
   ·cases h
   refine BN 1 Z<|Ah (Me Z Z)<|Aw 1 Z<|FG 49 h ?_ ?_<;>intro g h
   ·refine Aa g<|Ah (Ad Z)<|Aa g<|Ax h fun cf ay h=>A9 k (FQ _ _ (Al k) ay) fun cg bx y bq=>Aa g<|Ah (Ad Z)<|Ah (Aj g Z)<|A4 1 Z<|Bm h ?_ ?_<;>intro az h
    ·cases h
    refine BN 1 Z<|Ah (Me Z Z)<|Aw 1 Z<|FG 57 h ?_ ?_<;>intro c h
    ·refine Aa c<|Ah (Af Z Zs Z C3.e)<|Aa c<|Ah (Ag 0 Z y Z)<|Aa c<|Ah (Ad Z)<|Aa c<|A8 h fun a2 h=>Lq z a2 fun ch a3=>Aa c<|Ah (Ad Z)<|Aa c<|Ax h fun ci a4 h=>A9 y (DL _ _ (Al y) (a3.mono  Ai) a4) fun cj bz a5 br=>Ah (Aj c Z)<|A4 1 Z<|Bm h ?_ ?_<;>intro a6 h
     ·cases h
     refine A5 ?_
     iterate 2 refine AB ?_
     refine A3<|A2<|A8 h fun a7 h=>Ah (AH a7)<|Aw 1 Z<|AQ ?_;have h:=Ct.again h p;refine AS (_,_) ⟨a5,h⟩
    iterate 6 refine Ac c ?_
    refine Ah (An c Z)<|A4 1 Z<|Ht<|A5 ?_
    iterate 2 refine AB ?_
    refine A3<|A2<|A8 h fun a8 h=>Ah (AH a8)<|Aw 1 Z<|AQ ?_;have h:=Ct.again h p;refine AS (_,_) ⟨y,h⟩
   iterate 3 refine Ac g ?_
   refine Ah (An g Z)<|A4 1 Z<|Ht<|BN 1 Z<|Ah (Me Z Z)<|Aw 1 Z<|FG 57 h ?_ ?_<;>intro d h
   ·refine Aa d<|Ah (Af Z Zs Z C3.e)<|Aa d<|Ah (Ag 0 Z k Z)<|Aa d<|Ah (Ad Z)<|Aa d<|A8 h fun a9 h=>Lq z a9 fun ck ba=>Aa d<|Ah (Ad Z)<|Aa d<|Ax h fun cl bb h=>A9 k (DL _ _ (Al k) (ba.mono  Ai) bb) fun cm b0 bc bs=>Ah (Aj d Z)<|A4 1 Z<|Bm h ?_ ?_<;>intro bd h
    ·cases h
    refine A5 ?_
    iterate 2 refine AB ?_
    refine A3<|A2<|A8 h fun be h=>Ah (AH be)<|Aw 1 Z<|AQ ?_;have h:=Ct.again h p;refine AS (_,_) ⟨bc,h⟩
   iterate 6 refine Ac d ?_
   refine Ah (An d Z)<|A4 1 Z<|Ht<|A5 ?_
   iterate 2 refine AB ?_
   refine A3<|A2<|A8 h fun bf h=>Ah (AH bf)<|Aw 1 Z<|AQ ?_;have h:=Ct.again h p;refine AS (_,_) ⟨k,h⟩
  refine BA<|AP<|AJ ?_;have h:=Ct.out h p;refine Bu<|A7 () ⟨ab,h⟩
 rintro _ b3 ⟨bg,h⟩;refine AI 1 Z<|Ay ?_
 cases h
 refine Ak Z ⟨bg.ext,Z⟩
end
def CU(a0:Bool)(a1:Zg)(a2:List Zg):Option ((List Zg)):=
 if a0 then Bi (Go.E.Gg 16 (a2.length+([a1]).length)) (some ((a2++[a1])))else some a2
theorem De{c w:World}{H:PH}(hH:Le H (hp c))(O:List BS)(a0:Bool)(a1:Zg)(a2:List Zg){ba2:Nat}{va2_0:Value}{xsa2_0:QqK}(hL:AZ c (Ha [.box ba2 [va2_0] 31,.row va2_0 9 1 (a2).length xsa2_0] O) w)(a:A6 .st (gz H c w (Ha [.box ba2 [va2_0] 31,.row va2_0 9 1 (a2).length xsa2_0] O)) a2 xsa2_0){r:(List Zg)}(h:CU a0 a1 a2=some r):
  Ok prog 131 [.bool a0,Zf a1,Ze ba2] w (fun v w'=>∃(b:Value) (y0:QqK),v=.tuple #[]/\AZ c (Ha [.box ba2 [b] 31,.row b 9 1 (r).length y0] O) w'/\Le (fz w (Ha [.box ba2 [va2_0] 31,.row va2_0 9 1 (a2).length xsa2_0] O)) (fz w' (Ha [.box ba2 [b] 31,.row b 9 1 (r).length y0] O))/\A6 .st (gz H c w' (Ha [.box ba2 [b] 31,.row b 9 1 (r).length y0] O)) r y0):=by
 refine BF (n:=10) [(0,.bool a0),(1,(Zf a1)),(2,(Ze ba2))] func131 Z Z Z Z ?_;have hT:=Le.refl (fz w (Ha [.box ba2 [va2_0] 31,.row va2_0 9 1 (a2).length xsa2_0] O));refine AI 1 Z<|Bm h ?_ ?_<;>intro k h
 ·refine A2<|Ah (Ag 0 Z hL Z)<|Aw 1 Z<|Br [a1] (r:=.st) (hr:=(fun _=>LD _ Z _)) (Bw 1) hL (.c1 Z .nil) fun y z x o d p=>A8 h fun q h=>?_;have a:=a.mono (Ab d);refine Ca (r:=.st) 1 a2 [a1] Z Zo o Z a p q fun u w4 s g j e=>Bc 0 Z Z (row_one (g.at (i:=1) Z)) g Z Z fun w6 t f=>AQ ?_
  cases h
  refine Es ?_;have hT:=hT.trans (d.trans (j.trans f));have e:=e.mono (Ab f);exact⟨u,s,Z,t,hT,e⟩
 refine A5 ?_
 cases h
 refine Es ⟨va2_0,xsa2_0,Z,hL,hT,a⟩
def IW(b:List Zg):Option Zg:=
 QqB (U3 b ([32]:Zg)) (fun a=>Bi (a.length+([10]:Zg).length<=9223372036854775807) (some ((a++([10]:Zg)))))
def Gj(a0:(List ZJ))(a1:ZJ)(c:List Zg)(a:Int)(b:Zg):Option (((List Zg)×Int)⊕(Zg)):=
 Bi (0<=a1.2.2.2.2.2.2.2.2.2.2.2.getD a.toNat Qqf/\a1.2.2.2.2.2.2.2.2.2.2.2.getD a.toNat Qqf<(a0.length:Int)) (Bi (b.length+((a0.getD ((a1.2.2.2.2.2.2.2.2.2.2.2.getD a.toNat Qqf).toNat) Qqf).1).length<=9223372036854775807) (QqB (CU true (b++(a0.getD ((a1.2.2.2.2.2.2.2.2.2.2.2.getD a.toNat Qqf).toNat) Qqf).1) c) (fun d=>Bi (BX (a+1)) (some (Sum.inl (d,(a+1)))))))
def Io(a0:(List ZJ))(a1:ZJ):(List Zg)×Int->Option (((List Zg)×Int)⊕(Zg)):=fun⟨b,a⟩=>
 if a<(a1.2.2.2.2.2.2.2.2.2.2.2.length:Int)then Bi (0<=a/\a<(a1.2.2.2.2.2.2.2.2.2.2.2.length:Int)) (if a1.2.1=7 then Bi (0<=a/\a<(a1.2.2.2.2.2.2.2.2.2.2.1.length:Int)) (if a1.2.2.2.2.2.2.2.2.2.2.1.getD a.toNat Qqf=([]:Zg)then Bi (([45]:Zg).length+([58]:Zg).length<=9223372036854775807) ((Gj a0 a1 b a) (([45]:Zg)++([58]:Zg)))else Bi ((a1.2.2.2.2.2.2.2.2.2.2.1.getD a.toNat Qqf).length+([58]:Zg).length<=9223372036854775807) ((Gj a0 a1 b a) (a1.2.2.2.2.2.2.2.2.2.2.1.getD a.toNat Qqf++([58]:Zg))))else(Gj a0 a1 b a) ([]:Zg))else QqD Sum.inr (IW b)
def KB(a0:(List ZJ))(a1:ZJ)(s:(List Zg)×Int):Option Zg:=Go.L.run (Io a0 a1) s
def Hk(a0:(List ZJ))(a1:ZJ)(t:List Zg)(b:Zg)(a:Zg):Option Zg:=
 QqB (CU (decide (a1.2.1=1)) b t) (fun c=>QqB (CT a1) (fun d=>QqB (P2 a1.2.2.2.2.2.2.2.1) (fun e=>QqB (CU d e c) (fun f=>QqB (EE a1) (fun g=>QqB (P2 a1.2.2.2.1) (fun h=>QqB (CU g h f) (fun i=>QqB (CU (decide (a1.2.1=2)) a i) (fun j=>QqB (P2 a1.2.2.2.2.2.1) (fun k=>QqB (CU (decide (a1.2.1=2)) k j) (fun l=>QqB (Du a1) (fun m=>QqB (P2 a1.2.2.2.2.2.2.1) (fun n=>QqB (CU m n l) (fun o=>QqB (BK a1) (fun p=>Bi (0<=a1.2.2.2.2.2.2.2.2.1/\a1.2.2.2.2.2.2.2.2.1<(a0.length:Int)) (QqB (CU p ((a0.getD a1.2.2.2.2.2.2.2.2.1.toNat Qqf).1) o) (fun q=>QqB (BE a1) (fun r=>Bi (0<=a1.2.2.2.2.2.2.2.2.2.1/\a1.2.2.2.2.2.2.2.2.2.1<(a0.length:Int)) (QqB (CU r ((a0.getD a1.2.2.2.2.2.2.2.2.2.1.toNat Qqf).1) q) (fun s=>(KB a0 a1) (s,0))))))))))))))))))))
def IX(a0:(List ZJ))(a1:ZJ)(b:List Zg)(a:Zg):Option Zg:=
 if a1.2.2.2.2.1 then(Hk a0 a1 b a) ([98,105,103]:Zg)else(Hk a0 a1 b a) ([108,105,116,116,108,101]:Zg)
def Ip(a0:(List ZJ))(a1:ZJ)(c:List Zg):Zg×Int->Option ((Zg×Int)⊕(Zg)):=fun⟨b,a⟩=>
 if a<(a1.2.2.1.length:Int)then Bi (0<=a/\a<(a1.2.2.1.length:Int)) (Bi (0<=((a1.2.2.1.getD a.toNat Qqf >>> (4:UInt8)).toNat:Int)/\((a1.2.2.1.getD a.toNat Qqf >>> (4:UInt8)).toNat:Int)<=(((a1.2.2.1.getD a.toNat Qqf >>> (4:UInt8))+(1:UInt8)).toNat:Int)/\(((a1.2.2.1.getD a.toNat Qqf >>> (4:UInt8))+(1:UInt8)).toNat:Int)<=(([48,49,50,51,52,53,54,55,56,57,97,98,99,100,101,102]:Zg).length:Int)) (Bi (0<=((a1.2.2.1.getD a.toNat Qqf &&& (15:UInt8)).toNat:Int)/\((a1.2.2.1.getD a.toNat Qqf &&& (15:UInt8)).toNat:Int)<=(((a1.2.2.1.getD a.toNat Qqf &&& (15:UInt8))+(1:UInt8)).toNat:Int)/\(((a1.2.2.1.getD a.toNat Qqf &&& (15:UInt8))+(1:UInt8)).toNat:Int)<=(([48,49,50,51,52,53,54,55,56,57,97,98,99,100,101,102]:Zg).length:Int)) (Bi (((([48,49,50,51,52,53,54,55,56,57,97,98,99,100,101,102]:Zg).drop ((a1.2.2.1.getD a.toNat Qqf >>> (4:UInt8)).toNat:Int).toNat).take ((((a1.2.2.1.getD a.toNat Qqf >>> (4:UInt8))+(1:UInt8)).toNat:Int).toNat - ((a1.2.2.1.getD a.toNat Qqf >>> (4:UInt8)).toNat:Int).toNat)).length+((([48,49,50,51,52,53,54,55,56,57,97,98,99,100,101,102]:Zg).drop ((a1.2.2.1.getD a.toNat Qqf &&& (15:UInt8)).toNat:Int).toNat).take ((((a1.2.2.1.getD a.toNat Qqf &&& (15:UInt8))+(1:UInt8)).toNat:Int).toNat - ((a1.2.2.1.getD a.toNat Qqf &&& (15:UInt8)).toNat:Int).toNat)).length<=9223372036854775807) (Bi (b.length+(((([48,49,50,51,52,53,54,55,56,57,97,98,99,100,101,102]:Zg).drop ((a1.2.2.1.getD a.toNat Qqf >>> (4:UInt8)).toNat:Int).toNat).take ((((a1.2.2.1.getD a.toNat Qqf >>> (4:UInt8))+(1:UInt8)).toNat:Int).toNat - ((a1.2.2.1.getD a.toNat Qqf >>> (4:UInt8)).toNat:Int).toNat))++((([48,49,50,51,52,53,54,55,56,57,97,98,99,100,101,102]:Zg).drop ((a1.2.2.1.getD a.toNat Qqf &&& (15:UInt8)).toNat:Int).toNat).take ((((a1.2.2.1.getD a.toNat Qqf &&& (15:UInt8))+(1:UInt8)).toNat:Int).toNat - ((a1.2.2.1.getD a.toNat Qqf &&& (15:UInt8)).toNat:Int).toNat))).length<=9223372036854775807) (Bi (BX (a+1)) (some (Sum.inl ((b++(((([48,49,50,51,52,53,54,55,56,57,97,98,99,100,101,102]:Zg).drop ((a1.2.2.1.getD a.toNat Qqf >>> (4:UInt8)).toNat:Int).toNat).take ((((a1.2.2.1.getD a.toNat Qqf >>> (4:UInt8))+(1:UInt8)).toNat:Int).toNat - ((a1.2.2.1.getD a.toNat Qqf >>> (4:UInt8)).toNat:Int).toNat))++((([48,49,50,51,52,53,54,55,56,57,97,98,99,100,101,102]:Zg).drop ((a1.2.2.1.getD a.toNat Qqf &&& (15:UInt8)).toNat:Int).toNat).take ((((a1.2.2.1.getD a.toNat Qqf &&& (15:UInt8))+(1:UInt8)).toNat:Int).toNat - ((a1.2.2.1.getD a.toNat Qqf &&& (15:UInt8)).toNat:Int).toNat)))),(a+1)))))))))else QqD Sum.inr ((IX a0 a1 c) b)
def KC(a0:(List ZJ))(a1:ZJ)(a:List Zg)(s:Zg×Int):Option Zg:=Go.L.run (Ip a0 a1 a) s
def IY(a0:(List ZJ))(a1:ZJ)(a:List Zg):Option Zg:=
 (KC a0 a1 a) (([]:Zg),0)
def KW(a0:(List ZJ))(a1:ZJ):Option Zg:=
 Bi (BX (a1.2.1 - 1)) (QqB (OO ([108,105,116,101,114,97,108,32,110,117,109,98,101,114,32,100,101,99,105,109,97,108,32,98,121,116,101,115,32,117,110,116,105,108,32,99,111,117,110,116,101,100,32,115,101,113,117,101,110,99,101,32,99,104,111,105,99,101,32,114,101,112,101,97,116,32,98,108,111,98]:Zg)) (fun a=>Bi (0<=(a1.2.1 - 1)/\(a1.2.1 - 1)<(a.length:Int)) ((IY a0 a1) ([a1.1,a.getD ((a1.2.1 - 1).toNat) Qqf]))))
section
variable(w:World)(H:PH)(hH:Le H (hp w)) include hH
theorem P3(hU:I3 H){a0:(List ZJ)}{a1:ZJ}{f e g d:Value}(bk:AD ZR H f a0)(al:AD .byte H e (a1.2.2.1))(ap:AD .st H g (a1.2.2.2.2.2.2.2.2.2.2.1))(am:AD (.int .i64) H d (a1.2.2.2.2.2.2.2.2.2.2.2)){r:Zg}(h:KW a0 a1=some r):
  Zy 96 [.agg #[f],.agg #[Zf a1.1,No a1.2.1,e,No a1.2.2.2.1,.bool a1.2.2.2.2.1,No a1.2.2.2.2.2.1,No a1.2.2.2.2.2.2.1,No a1.2.2.2.2.2.2.2.1,No a1.2.2.2.2.2.2.2.2.1,No a1.2.2.2.2.2.2.2.2.2.1,g,d]] w (fun v w'=>v=(Zf r)):=by
 refine AL 146 [(0,.agg #[f]),(1,.agg #[Zf a1.1,No a1.2.1,e,No a1.2.2.2.1,.bool a1.2.2.2.2.1,No a1.2.2.2.2.2.1,No a1.2.2.2.2.2.2.1,No a1.2.2.2.2.2.2.2.1,No a1.2.2.2.2.2.2.2.2.1,No a1.2.2.2.2.2.2.2.2.2.1,g,d])] func96 Z fun hL=>Av<|C1 (t:=25) Z Z hL fun w1 o g8 ie _=>C1 (t:=53) Z Z g8 fun w2 p g9 ig _=>A4 1 Z<|Bs ((List Zg)×Nat×Value×QqK) (fun⟨ab,bjb32,ai,s⟩=>[(2,(Ze o)),(3,(Ze p)),(5,(Ze bjb32))]) (fun⟨ab,bjb32,ai,s⟩ wr=>DK w [.box bjb32 [ai] 31,.row ai 9 1 (ab).length s,.box p [Zf a1.1,No a1.2.1,e,No a1.2.2.2.1,.bool a1.2.2.2.2.1,No a1.2.2.2.2.2.1,No a1.2.2.2.2.2.2.1,No a1.2.2.2.2.2.2.2.1,No a1.2.2.2.2.2.2.2.2.1,No a1.2.2.2.2.2.2.2.2.2.1,g,d] 53,.box o [f] 25] wr fun Oz=>A6 .st (gz H w wr Oz) ab s/\(IY a0 a1) ab=some r) ?_ ?_
 ·refine L8 (.q 0 (.q 1 (ZX 3 3 (.h2 2 (.q 6 (.q 7 (.h2 8 (.h 9 (.tail 10)) 9 (.h 8 (.tail 10))))) 9 (.h 2 (.q 6 (.q 7 (.h 8 (.tail 10))))))))) mixed V (fun ja gb=>?_);have a6:=g9.call gb;refine B9 Z (Af Z Zs Z KN.e) Z<|B9 Z (Ag 0 Z a6 Z) Z<|B9 Z (Af Z Zs Z B6.e) Z<|B9 Z (Ag 0 Z a6 Z) Z<|A8 h fun gc h=>B9 Z (AH gc) Z<|Tp ?_ ?_
  ·refine Ax h fun an bl h=>F1 Z Z Z (fun ha bm=>Oh _ _ (Al (a6.call bm)) (hU.mono  Ai) bl) ?_;rintro ha hy jb bm cu ⟨_,rfl,cv⟩;have cw:=a6.call bm;have bn:=cw.call cu;have cx:=cv.Cu hH cw cu;refine A8 h fun a7 h=>DJ Z Z Z Zo cx ((a1.2.1 - 1).toNat) (Dw a7) (AK a7) Z ?_;rintro jc _ rfl gd;refine B9 Z (AV gd (Al bn)) Z<|Tp ?_ ?_
   ·refine RU (r:=.st) (l:=[a1.1,an.getD ((a1.2.1 - 1).toNat) Qqf]) Z Z (fun _=>QA _ Z _ Z _) Z (Bw 2) hH bn (.c1 Z (.c1 Z .nil)) fun hb jd ge gf hz bo=>MB Z C3.e Z Z gf fun je hc cy eg=>BM (fun jf cz=>?_);have c0:=cy.call cz;have eh:=Ba cy cz;refine Bc 0 Z Z (row_one (c0.at (i:=1) Z)) c0 Z Z fun jg gg ei=>AQ ?_;have bo:=bo.mono (Ab (eg.trans (eh.trans ei)));refine A7 (_,_,_,_) ⟨gg,bo,h⟩
   refine MB Z C3.e Z Z bn fun jh f9 gh h0=>RU (r:=.st) (l:=[a1.1,an.getD ((a1.2.1 - 1).toNat) Qqf]) Z Z (fun _=>QA _ Z _ Z _) Z (Bw 2) hH gh (.c1 Z (.c1 Z .nil)) fun c2 ji c3 c4 h1 bp=>BM (fun jj c5=>?_);have c6:=c4.call c5;have ej:=Ba c4 c5;refine Bc 1 Z Z (row_one (c6.at (i:=0) Z)) c6 Z Z fun hd c7 ek=>AQ ?_;have c8:AZ w [.box f9 [c2] 31,.row c2 9 1 ([a1.1,an.getD ((a1.2.1 - 1).toNat) Qqf]).length c3,.box p [Zf a1.1,No a1.2.1,e,No a1.2.2.2.1,.bool a1.2.2.2.2.1,No a1.2.2.2.2.2.1,No a1.2.2.2.2.2.2.1,No a1.2.2.2.2.2.2.2.1,No a1.2.2.2.2.2.2.2.2.1,No a1.2.2.2.2.2.2.2.2.2.1,g,d] 53,.box o [f] 25] hd:=c7.Bo [1] Z;have el:=AF [1] c7 c8 Z;have bp:=bp.mono (Ab (ej.trans (ek.trans el)));refine A7 (_,_,_,_) ⟨c8,bp,h⟩
  refine Ax h fun an bl h=>A8 h fun a7 h=>MB Z C3.e Z Z a6 fun jk ga c9 h3=>F1 Z Z Z (fun he bq=>Oh _ _ (Al (c9.call bq)) (hU.mono  Ai) bl) ?_;rintro he h4 jl bq da ⟨_,rfl,db⟩;have dc:=c9.call bq;have dd:=dc.call da;have de:=db.Cu hH dc da;refine DJ Z Z Z Zo de ((a1.2.1 - 1).toNat) (Dw a7) (AK a7) Z ?_;rintro jm _ rfl gi;refine B9 Z (AV gi (Al dd)) Z<|RU (r:=.st) (l:=[a1.1,an.getD ((a1.2.1 - 1).toNat) Qqf]) Z Z (fun _=>QA _ Z _ Z _) Z (Bw 2) hH dd (.c1 Z (.c1 Z .nil)) fun df jn dg dh h5 br=>BM (fun jo di=>?_);have dj:=dh.call di;have em:=Ba dh di;refine Bc 1 Z Z (row_one (dj.at (i:=0) Z)) dj Z Z fun hf dk en=>AQ ?_;have dl:AZ w [.box ga [df] 31,.row df 9 1 ([a1.1,an.getD ((a1.2.1 - 1).toNat) Qqf]).length dg,.box p [Zf a1.1,No a1.2.1,e,No a1.2.2.2.1,.bool a1.2.2.2.2.1,No a1.2.2.2.2.2.1,No a1.2.2.2.2.2.2.1,No a1.2.2.2.2.2.2.2.1,No a1.2.2.2.2.2.2.2.2.1,No a1.2.2.2.2.2.2.2.2.2.1,g,d] 53,.box o [f] 25] hf:=dk.Bo [1] Z
  have eo:=AF [1] dk dl Z;have br:=br.mono (Ab (em.trans (en.trans eo)));refine A7 (_,_,_,_) ⟨dl,br,h⟩
 rintro⟨ab,bjb32,ai,s⟩ ih ⟨bs,k,h⟩;refine AI 2 Z<|Av<|Ah (Af Z Zs Z B6.e)<|Ah (Ag 2 Z bs Z)<|A4 2 Z<|AI 1 Z<|Bs Zg (fun ac=>[(2,(Ze o)),(3,(Ze p)),(5,(Ze bjb32)),(6,.func (.func 131) #[] #[Ze bjb32]),(7,.bool (decide (a1.2.1=2))),(8,(Zf ac))]) (fun ac wr=>DK w [.box bjb32 [ai] 31,.row ai 9 1 (ab).length s,.box p [Zf a1.1,No a1.2.1,e,No a1.2.2.2.1,.bool a1.2.2.2.2.1,No a1.2.2.2.2.2.1,No a1.2.2.2.2.2.2.1,No a1.2.2.2.2.2.2.2.1,No a1.2.2.2.2.2.2.2.2.1,No a1.2.2.2.2.2.2.2.2.2.1,g,d] 53,.box o [f] 25] wr fun Oz=>A6 .st (gz H w wr Oz) ab s/\(IX a0 a1 ab) ac=some r) ?_ ?_
 ·refine Av<|Ah (Af Z Zs Z FJ.e)<|Ah (Ag 2 Z bs Z)<|Ah (AX al)<|A4 1 Z<|AA ?_;obtain⟨bt,h⟩:=Bf h;refine BB (Zg×Int×Nat) (fun⟨ad,j,n⟩=>[(2,(Ze o)),(3,(Ze p)),(5,(Ze bjb32)),(6,.func (.func 131) #[] #[Ze bjb32]),(7,.bool (decide (a1.2.1=2))),(8,(Zf ad)),(29,e),(30,No (a1.2.2.1.length:Int)),(31,No j)]) (fun⟨ad,j,n⟩ wr=>DK w [.box bjb32 [ai] 31,.row ai 9 1 (ab).length s,.box p [Zf a1.1,No a1.2.1,e,No a1.2.2.2.1,.bool a1.2.2.2.2.1,No a1.2.2.2.2.2.1,No a1.2.2.2.2.2.2.1,No a1.2.2.2.2.2.2.2.1,No a1.2.2.2.2.2.2.2.2.1,No a1.2.2.2.2.2.2.2.2.2.1,g,d] 53,.box o [f] 25] wr fun Oz=>A6 .st (gz H w wr Oz) ab s/\FX (Ip a0 a1 ab) n (ad,j)=some r) (fun⟨ad,j,n⟩=>n) (([]:Zg),0,bt) Z ⟨bs,k,h⟩ ?_;rintro⟨ad,j,nn127⟩ h6 ⟨a3,k,h⟩;obtain⟨bt,ii,rfl,h,bv⟩:=Bd h;refine AI 1 Z<|AN<|AY h ?_ ?_<;>intro ep h
  ·refine A5<|A3<|AN<|AA<|Av<|A8 h fun bw h=>Bb al j.toNat (Dw bw) (AK bw) ?_;rintro ij _ rfl eq;refine Ah (AV eq (hH.trans a3.arg))<|A4 1 Z<|L8 (ZX 0 16 (.tail 16)) mixed V (fun ik bx=>?_);have bz:=a3.call bx;have dm:=Ba a3 bx;refine BW 2 Z<|B9 Z (Ua (c:=4) Z Z7) Z<|BW 1 Z<|B9 Z (Ua (c:=4) Z Z7) Z<|B9 Z (W0 (b:=1) Z Z Z) Z<|A8 h fun er h=>B9 Z (Up er) Z<|BW 1 Z<|B9 Z (RT (b:=15) Z Z Z) Z<|BW 1 Z<|B9 Z (RT (b:=15) Z Z Z) Z<|B9 Z (W0 (b:=1) Z Z Z) Z<|A8 h fun es h=>B9 Z (Up es) Z<|A8 h fun et h=>B9 Z (NC et) Z<|A8 h fun eu h=>B9 Z (NC eu) Z<|BW 1 Z<|BM (fun il b0=>?_);have ev:=bz.call b0;have dn:=Ba bz b0;refine AQ ?_
   refine AB<|A3<|A2<|A8 h fun ew h=>Ah (AH ew)<|Aw 1 Z<|AQ ?_;have h:=Ct.again h bv;have k:=k.mono (Ab (dm.trans dn));refine AS (_,_,_) ⟨ev,k,h⟩
  refine BA<|AP<|AJ ?_;have h:=Ct.out h bv;refine Bu<|A7 _ ⟨a3,k,h⟩
 rintro ac h7 ⟨bb,k,h⟩;refine AI 1 Z<|Bs Zg (fun aj=>[(2,(Ze o)),(3,(Ze p)),(5,(Ze bjb32)),(6,.func (.func 131) #[] #[Ze bjb32]),(7,.bool (decide (a1.2.1=2))),(8,(Zf ac)),(11,(Zf aj))]) (fun aj wr=>DK w [.box bjb32 [ai] 31,.row ai 9 1 (ab).length s,.box p [Zf a1.1,No a1.2.1,e,No a1.2.2.2.1,.bool a1.2.2.2.2.1,No a1.2.2.2.2.2.1,No a1.2.2.2.2.2.2.1,No a1.2.2.2.2.2.2.2.1,No a1.2.2.2.2.2.2.2.2.1,No a1.2.2.2.2.2.2.2.2.2.1,g,d] 53,.box o [f] 25] wr fun Oz=>A6 .st (gz H w wr Oz) ab s/\(Hk a0 a1 ab ac) aj=some r) ?_ ?_
 ·refine Av<|Ah (Af Z Zs Z Fa.e)<|Ah (Ag 2 Z bb Z)<|Am<|Bm h ?_ ?_<;>intro ex h
  ·refine A2<|Aw 1 Z<|AQ<|A7 _ ⟨bb,k,h⟩
  refine A5<|A7 _ ⟨bb,k,h⟩
 rintro aj h8 ⟨b3,k,h⟩;refine BN 1 Z<|Ah (Af Z Zs Z B6.e)<|Ah (Ag 2 Z b3 Z)<|Aw 2 Z<|Ax h fun gj ey h=>BD Z Z (De hH ([.box p [Zf a1.1,No a1.2.1,e,No a1.2.2.2.1,.bool a1.2.2.2.2.1,No a1.2.2.2.2.2.1,No a1.2.2.2.2.2.2.1,No a1.2.2.2.2.2.2.2.1,No a1.2.2.2.2.2.2.2.2.1,No a1.2.2.2.2.2.2.2.2.2.1,g,d] 53,.box o [f] 25]) ((decide (a1.2.1=1))) ac ab b3 k ey) ?_;rintro _ im ⟨hg,y158_0,rfl,b4,hh,aq⟩;refine Am<|Dq (ZX 0 6 (.tail 6)) mixed V (fun gk b5=>?_);have ae:=b4.call b5;have dp:=Ba b4 b5;refine BW 1 Z<|B9 Z (Az 2 Z Bp.e ae Z) Z<|Ax h fun gl ez h=>?_;have dq:=(fun(dr:World) (bc:Ext gk dr)=>Gu dr _ (Le.refl _) ((al.mono (hH.trans ae.arg)).mono bc.le) ((ap.mono (hH.trans ae.arg)).mono bc.le) ((am.mono (hH.trans ae.arg)).mono bc.le) ez);refine HP Z Z Z dq<|B9 Z (Af Z Zs Z B6.e) Z<|B9 Z (Ag 2 Z ae Z) Z ?_
 refine Ax h fun gm e0 h=>HP Z Z Z (fun io e1=>NG _ _ (Le.refl _) (hU.mono (hH.trans (ae.call e1).arg)) e0)<|BM (fun ip b6=>?_);have e2:=ae.call b6;have ds:=Ba ae b6;refine Ax h fun gn e3 h=>?_;have aq:=aq.mono (Ab (dp.trans ds));refine BD Z Z (De hH ([.box p [Zf a1.1,No a1.2.1,e,No a1.2.2.2.1,.bool a1.2.2.2.2.1,No a1.2.2.2.2.2.1,No a1.2.2.2.2.2.2.1,No a1.2.2.2.2.2.2.2.1,No a1.2.2.2.2.2.2.2.2.1,No a1.2.2.2.2.2.2.2.2.2.1,g,d] 53,.box o [f] 25]) gl gm gj e2 aq e3) ?_;rintro _ iq ⟨hi,y168_0,rfl,b7,hj,ar⟩;refine Am<|Dq (ZX 0 6 (.tail 6)) mixed V (fun go b8=>?_);have af:=b7.call b8;have dt:=Ba b7 b8;refine BW 1 Z<|B9 Z (Az 2 Z Bp.e af Z) Z<|Ax h fun gp e4 h=>?_;have du:=(fun(dv:World) (bd:Ext go dv)=>Gx dv _ (Le.refl _) ((al.mono (hH.trans af.arg)).mono bd.le) ((ap.mono (hH.trans af.arg)).mono bd.le) ((am.mono (hH.trans af.arg)).mono bd.le) e4);refine HP Z Z Z du ?_
 refine B9 Z (Af Z Zs Z B6.e) Z<|B9 Z (Ag 2 Z af Z) Z<|Ax h fun gq e5 h=>HP Z Z Z (fun ir e6=>NG _ _ (Le.refl _) (hU.mono (hH.trans (af.call e6).arg)) e5)<|BM (fun is b9=>?_);have e7:=af.call b9;have dw:=Ba af b9;refine Ax h fun gr e8 h=>?_;have ar:=ar.mono (Ab (dt.trans dw));refine BD Z Z (De hH ([.box p [Zf a1.1,No a1.2.1,e,No a1.2.2.2.1,.bool a1.2.2.2.2.1,No a1.2.2.2.2.2.1,No a1.2.2.2.2.2.2.1,No a1.2.2.2.2.2.2.2.1,No a1.2.2.2.2.2.2.2.2.1,No a1.2.2.2.2.2.2.2.2.2.1,g,d] 53,.box o [f] 25]) gp gq gn e7 ar e8) ?_;rintro _ it ⟨hk,y178_0,rfl,e9,hl,ct⟩;refine Am<|BN 3 Z<|Ax h fun gs fa h=>BD Z Z (De hH ([.box p [Zf a1.1,No a1.2.1,e,No a1.2.2.2.1,.bool a1.2.2.2.2.1,No a1.2.2.2.2.2.1,No a1.2.2.2.2.2.2.1,No a1.2.2.2.2.2.2.2.1,No a1.2.2.2.2.2.2.2.2.1,No a1.2.2.2.2.2.2.2.2.2.1,g,d] 53,.box o [f] 25]) ((decide (a1.2.1=2))) aj gr e9 ct fa) ?_
 rintro _ iu ⟨hm,y180_0,rfl,be,hn,au⟩;refine Am<|BN 2 Z<|Ah (Af Z Zs Z B6.e)<|Ah (Ag 2 Z be Z)<|Ax h fun gt fb h=>A9 be (NG _ _ (Al be) (hU.mono  Ai) fb) fun iv h9 fc dx=>Ax h fun gu fd h=>?_;have au:=au.mono (Ab dx);refine BD Z Z (De hH ([.box p [Zf a1.1,No a1.2.1,e,No a1.2.2.2.1,.bool a1.2.2.2.2.1,No a1.2.2.2.2.2.1,No a1.2.2.2.2.2.2.1,No a1.2.2.2.2.2.2.2.1,No a1.2.2.2.2.2.2.2.2.1,No a1.2.2.2.2.2.2.2.2.2.1,g,d] 53,.box o [f] 25]) ((decide (a1.2.1=2))) gt gs fc au fd) ?_;rintro _ iw ⟨ho,y184_0,rfl,ca,hq,av⟩;refine Am<|Dq (ZX 0 6 (.tail 6)) mixed V (fun gv cb=>?_);have ag:=ca.call cb;have dy:=Ba ca cb;refine BW 1 Z<|B9 Z (Az 2 Z Bp.e ag Z) Z<|Ax h fun gw fe h=>?_
 have dz:=(fun(d0:World) (bf:Ext gv d0)=>DO d0 _ (Le.refl _) ((al.mono (hH.trans ag.arg)).mono bf.le) ((ap.mono (hH.trans ag.arg)).mono bf.le) ((am.mono (hH.trans ag.arg)).mono bf.le) fe);refine HP Z Z Z dz<|B9 Z (Af Z Zs Z B6.e) Z<|B9 Z (Ag 2 Z ag Z) Z<|Ax h fun gx ff h=>HP Z Z Z (fun ix fg=>NG _ _ (Le.refl _) (hU.mono (hH.trans (ag.call fg).arg)) ff)<|BM (fun iy cc=>?_);have fh:=ag.call cc;have d1:=Ba ag cc;refine Ax h fun gy fi h=>?_;have av:=av.mono (Ab (dy.trans d1));refine BD Z Z (De hH ([.box p [Zf a1.1,No a1.2.1,e,No a1.2.2.2.1,.bool a1.2.2.2.2.1,No a1.2.2.2.2.2.1,No a1.2.2.2.2.2.2.1,No a1.2.2.2.2.2.2.2.1,No a1.2.2.2.2.2.2.2.2.1,No a1.2.2.2.2.2.2.2.2.2.1,g,d] 53,.box o [f] 25]) gw gx gu fh av fi) ?_;rintro _ iz ⟨hr,y194_0,rfl,cd,hs,aw⟩;refine Am<|Dq (ZX 0 10 (.tail 10)) mixed V (fun g0 ce=>?_);have z:=cd.call ce;have d2:=Ba cd ce
 refine BW 1 Z<|B9 Z (Az 2 Z Bp.e z Z) Z<|Ax h fun g1 fj h=>?_;have d3:=(fun(d4:World) (bg:Ext g0 d4)=>BL d4 _ (Le.refl _) ((al.mono (hH.trans z.arg)).mono bg.le) ((ap.mono (hH.trans z.arg)).mono bg.le) ((am.mono (hH.trans z.arg)).mono bg.le) fj);refine HP Z Z Z d3<|B9 Z (Af Z Zv Z Hg.e) Z<|B9 Z (Ag 3 Z z Z) Z<|B9 Z (Af Z Zs Z B6.e) Z<|B9 Z (Ag 2 Z z Z) Z<|A8 h fun cf h=>DJ Z Z Z Zw bk a1.2.2.2.2.2.2.2.2.1.toNat (Dw cf) (AK cf) Z ?_;rintro i0 _ ⟨_,_,rfl,rfl,⟨_,_,rfl,rfl,⟨_,_,rfl,⟨e199v2,rfl,e199h2⟩,⟨_,_,rfl,rfl,⟨_,_,rfl,rfl,⟨_,_,rfl,rfl,⟨_,_,rfl,rfl,⟨_,_,rfl,rfl,⟨_,_,rfl,rfl,⟨_,_,rfl,rfl,⟨_,_,rfl,⟨e199v10,rfl,e199h10⟩,⟨e199v11,rfl,e199h11⟩⟩⟩⟩⟩⟩⟩⟩⟩⟩⟩⟩ fk;refine B9 Z (Af Z Zs Z KN.e) Z ?_;have fl:=fk.add 0;refine B9 Z (AV fl (hH.trans z.arg)) Z<|BM (fun i1 cg=>?_);have fm:=z.call cg;have d5:=Ba z cg;refine Ax h fun g2 fn h=>?_;have aw:=aw.mono (Ab (d2.trans d5))
 refine BD Z Z (De hH ([.box p [Zf a1.1,No a1.2.1,e,No a1.2.2.2.1,.bool a1.2.2.2.2.1,No a1.2.2.2.2.2.1,No a1.2.2.2.2.2.2.1,No a1.2.2.2.2.2.2.2.1,No a1.2.2.2.2.2.2.2.2.1,No a1.2.2.2.2.2.2.2.2.2.1,g,d] 53,.box o [f] 25]) g1 (((a0.getD a1.2.2.2.2.2.2.2.2.1.toNat Qqf).1)) gy fm aw fn) ?_;rintro _ i2 ⟨ht,y205_0,rfl,ch,hu,ax⟩;refine Am<|Dq (ZX 0 10 (.tail 10)) mixed V (fun g3 ci=>?_);have aa:=ch.call ci;have d6:=Ba ch ci;refine BW 1 Z<|B9 Z (Az 2 Z Bp.e aa Z) Z<|Ax h fun g4 fo h=>?_;have d7:=(fun(d8:World) (bh:Ext g3 d8)=>B5 d8 _ (Le.refl _) ((al.mono (hH.trans aa.arg)).mono bh.le) ((ap.mono (hH.trans aa.arg)).mono bh.le) ((am.mono (hH.trans aa.arg)).mono bh.le) fo);refine HP Z Z Z d7<|B9 Z (Af Z Zv Z Hg.e) Z<|B9 Z (Ag 3 Z aa Z) Z<|B9 Z (Af Z Zs Z B6.e) Z<|B9 Z (Ag 2 Z aa Z) Z<|A8 h fun cj h=>?_
 refine DJ Z Z Z Zw bk a1.2.2.2.2.2.2.2.2.2.1.toNat (Dw cj) (AK cj) Z ?_;rintro i3 _ ⟨_,_,rfl,rfl,⟨_,_,rfl,rfl,⟨_,_,rfl,⟨e210v2,rfl,e210h2⟩,⟨_,_,rfl,rfl,⟨_,_,rfl,rfl,⟨_,_,rfl,rfl,⟨_,_,rfl,rfl,⟨_,_,rfl,rfl,⟨_,_,rfl,rfl,⟨_,_,rfl,rfl,⟨_,_,rfl,⟨e210v10,rfl,e210h10⟩,⟨e210v11,rfl,e210h11⟩⟩⟩⟩⟩⟩⟩⟩⟩⟩⟩⟩ fp;refine B9 Z (Af Z Zs Z KN.e) Z ?_;have fq:=fp.add 0;refine B9 Z (AV fq (hH.trans aa.arg)) Z<|BM (fun i4 ck=>?_);have fr:=aa.call ck;have d9:=Ba aa ck;refine Ax h fun ea fs h=>?_;have ax:=ax.mono (Ab (d6.trans d9));refine BD Z Z (De hH ([.box p [Zf a1.1,No a1.2.1,e,No a1.2.2.2.1,.bool a1.2.2.2.2.1,No a1.2.2.2.2.2.1,No a1.2.2.2.2.2.2.1,No a1.2.2.2.2.2.2.2.1,No a1.2.2.2.2.2.2.2.2.1,No a1.2.2.2.2.2.2.2.2.2.1,g,d] 53,.box o [f] 25]) g4 (((a0.getD a1.2.2.2.2.2.2.2.2.2.1.toNat Qqf).1)) g2 fr ax fs) ?_;rintro _ g5 ⟨a8,y216_0,rfl,bi,hv,ay⟩;refine Am ?_
 refine Bs ((List Zg)×Value×QqK) (fun⟨a9,a4,ao⟩=>[(5,(Ze bjb32))]) (fun⟨a9,a4,ao⟩ wr=>DK w [.row a4 9 1 (a9).length ao,.box bjb32 [a4] 31,.box p [Zf a1.1,No a1.2.1,e,No a1.2.2.2.1,.bool a1.2.2.2.2.1,No a1.2.2.2.2.2.1,No a1.2.2.2.2.2.2.1,No a1.2.2.2.2.2.2.2.1,No a1.2.2.2.2.2.2.2.2.1,No a1.2.2.2.2.2.2.2.2.2.1,g,d] 53,.box o [f] 25] wr fun Oz=>A6 .st (gz H w wr Oz) a9 ao/\IW a9=some r) ?_ ?_
 ·refine Av<|Ah (Af Z Zs Z D0.e)<|Ah (Ag 2 Z bi Z)<|Ah (AX am)<|A4 1 Z<|AA ?_;have cl:AZ w [.row a8 9 1 (ea).length y216_0,.box bjb32 [a8] 31,.box p [Zf a1.1,No a1.2.1,e,No a1.2.2.2.1,.bool a1.2.2.2.2.1,No a1.2.2.2.2.2.1,No a1.2.2.2.2.2.2.1,No a1.2.2.2.2.2.2.2.1,No a1.2.2.2.2.2.2.2.2.1,No a1.2.2.2.2.2.2.2.2.2.1,g,d] 53,.box o [f] 25] g5:=bi.Bo [1] Z;have eb:=AF [1] bi cl Z;obtain⟨bu,h⟩:=Bf h;have ay:=ay.mono (Ab eb)
  refine BB ((List Zg)×Int×Value×QqK×Nat) (fun⟨y,a,u,m,n⟩=>[(2,(Ze o)),(3,(Ze p)),(5,(Ze bjb32)),(6,.func (.func 131) #[] #[Ze bjb32]),(113,d),(114,No (a1.2.2.2.2.2.2.2.2.2.2.2.length:Int)),(115,No a)]) (fun⟨y,a,u,m,n⟩ wr=>DK w [.row u 9 1 (y).length m,.box bjb32 [u] 31,.box p [Zf a1.1,No a1.2.1,e,No a1.2.2.2.1,.bool a1.2.2.2.2.1,No a1.2.2.2.2.2.1,No a1.2.2.2.2.2.2.1,No a1.2.2.2.2.2.2.2.1,No a1.2.2.2.2.2.2.2.2.1,No a1.2.2.2.2.2.2.2.2.2.1,g,d] 53,.box o [f] 25] wr fun Oz=>A6 .st (gz H w wr Oz) y m/\FX (Io a0 a1) n (y,a)=some r) (fun⟨y,a,u,m,n⟩=>n) (ea,0,a8,y216_0,bu) Z ⟨cl,ay,h⟩ ?_;rintro⟨y,a,u,m,nn304⟩ ia ⟨ah,x,h⟩;obtain⟨bu,g6,rfl,h,cm⟩:=Bd h;refine AI 1 Z<|AN<|AY h ?_ ?_<;>intro ft h
  ·refine A5<|A3<|AN<|AA<|BN 1 Z<|A8 h fun cn h=>Bb am a.toNat (Dw cn) (AK cn) ?_;rintro i5 _ rfl fu;refine Ah (AV fu (hH.trans ah.arg))<|A4 2 Z<|AI 1 Z<|Bs Zg (fun ak=>[(2,(Ze o)),(3,(Ze p)),(5,(Ze bjb32)),(6,.func (.func 131) #[] #[Ze bjb32]),(13,No (a1.2.2.2.2.2.2.2.2.2.2.2.getD a.toNat Qqf)),(14,(Zf ak)),(113,d),(114,No (a1.2.2.2.2.2.2.2.2.2.2.2.length:Int)),(115,No a)]) (fun ak wr=>DK w [.row u 9 1 (y).length m,.box bjb32 [u] 31,.box p [Zf a1.1,No a1.2.1,e,No a1.2.2.2.1,.bool a1.2.2.2.2.1,No a1.2.2.2.2.2.1,No a1.2.2.2.2.2.2.1,No a1.2.2.2.2.2.2.2.1,No a1.2.2.2.2.2.2.2.2.1,No a1.2.2.2.2.2.2.2.2.2.1,g,d] 53,.box o [f] 25] wr fun Oz=>A6 .st (gz H w wr Oz) y m/\(Gj a0 a1 y a) ak=some g6) ?_ ?_
   ·refine Av<|Ah (Af Z Zs Z B6.e)<|Ah (Ag 2 Z ah Z)<|A4 1 Z<|AY h ?_ ?_<;>intro fv h
    ·refine AN<|Av<|Ah (Af Z Zs Z C3.e)<|Ah (Ag 2 Z ah Z)<|Aw 1 Z<|A8 h fun co h=>Bb ap a.toNat (Dw co) (AK co) ?_;rintro i6 _ rfl fw;refine Ah (AV fw (hH.trans ah.arg))<|A4 1 Z<|BN 1 Z<|Ah (Kn Z Z)<|Am<|AY h ?_ ?_<;>intro fx h
     ·refine A2<|Aw 1 Z<|AQ<|A3<|A2<|Aw 1 Z<|A8 h fun fy h=>Ah (NC fy)<|Aw 1 Z<|AQ<|A7 _ ⟨ah,x,h⟩
     refine A5<|A3<|A2<|Aw 1 Z<|A8 h fun fz h=>Ah (NC fz)<|Aw 1 Z<|AQ<|A7 _ ⟨ah,x,h⟩
    refine A5<|A7 _ ⟨ah,x,h⟩
   rintro ak f0 ⟨a5,x,h⟩;refine A2<|Aw 2 Z<|Ah (Af Z Zv Z Hg.e)<|Ah (Ag 3 Z a5 Z)<|Aw 1 Z<|A8 h fun cp h=>Bb bk ((a1.2.2.2.2.2.2.2.2.2.2.2.getD a.toNat Qqf).toNat) (Dw cp) (AK cp) ?_;rintro i7 _ ⟨_,_,rfl,rfl,⟨_,_,rfl,rfl,⟨_,_,rfl,⟨e336v2,rfl,e336h2⟩,⟨_,_,rfl,rfl,⟨_,_,rfl,rfl,⟨_,_,rfl,rfl,⟨_,_,rfl,rfl,⟨_,_,rfl,rfl,⟨_,_,rfl,rfl,⟨_,_,rfl,rfl,⟨_,_,rfl,⟨e336v10,rfl,e336h10⟩,⟨e336v11,rfl,e336h11⟩⟩⟩⟩⟩⟩⟩⟩⟩⟩⟩⟩ f1;refine Ah (Af Z Zs Z KN.e) ?_;have f2:=f1.add 0;refine Ah (AV f2 (hH.trans a5.arg))<|A8 h fun f3 h=>Ah (NC f3) ?_;have cq:AZ w [.box bjb32 [u] 31,.row u 9 1 (y).length m,.box p [Zf a1.1,No a1.2.1,e,No a1.2.2.2.1,.bool a1.2.2.2.2.1,No a1.2.2.2.2.2.1,No a1.2.2.2.2.2.2.1,No a1.2.2.2.2.2.2.2.1,No a1.2.2.2.2.2.2.2.2.1,No a1.2.2.2.2.2.2.2.2.2.1,g,d] 53,.box o [f] 25] f0:=a5.Bo [1] Z;have ec:=AF [1] a5 cq Z;refine Ax h fun ed f4 h=>?_;have x:=x.mono (Ab ec)
   refine BD Z Z (De hH ([.box p [Zf a1.1,No a1.2.1,e,No a1.2.2.2.1,.bool a1.2.2.2.2.1,No a1.2.2.2.2.2.1,No a1.2.2.2.2.2.2.1,No a1.2.2.2.2.2.2.2.1,No a1.2.2.2.2.2.2.2.2.1,No a1.2.2.2.2.2.2.2.2.2.1,g,d] 53,.box o [f] 25]) true ((ak++(a0.getD ((a1.2.2.2.2.2.2.2.2.2.2.2.getD a.toNat Qqf).toNat) Qqf).1)) y cq x f4) ?_;rintro _ g7 ⟨ba,y342_0,rfl,cr,hw,az⟩;refine AQ<|AB<|A3<|A2<|A8 h fun f5 h=>Ah (AH f5)<|Aw 1 Z<|AQ ?_;have cs:AZ w [.row ba 9 1 (ed).length y342_0,.box bjb32 [ba] 31,.box p [Zf a1.1,No a1.2.1,e,No a1.2.2.2.1,.bool a1.2.2.2.2.1,No a1.2.2.2.2.2.1,No a1.2.2.2.2.2.2.1,No a1.2.2.2.2.2.2.2.1,No a1.2.2.2.2.2.2.2.2.1,No a1.2.2.2.2.2.2.2.2.2.1,g,d] 53,.box o [f] 25] g7:=cr.Bo [1] Z;have ee:=AF [1] cr cs Z;have h:=Ct.again h cm;have az:=az.mono (Ab ee);refine AS (_,_,_,_,_) ⟨cs,az,h⟩
  refine BA<|AP<|AJ ?_;have h:=Ct.out h cm;refine Bu<|A7 (_,_,_) ⟨ah,x,h⟩
 rintro⟨a9,a4,ao⟩ ib ⟨bj,ef,h⟩;refine Av<|Ah (Ag 1 Z bj Z)<|Ax h fun i8 f6 h=>A9 bj (VV _ _ (Le.refl _) (bj.KM hH (i:=0) Z ef) f6) fun i9 ic f7 hx=>A8 h fun f8 h=>Ah (NC f8)<|A4 1 Z<|Ay ?_
 cases h
 refine Ak Z ⟨f7.ext,Z⟩
end
def Cf(a0:ZL):Option (Zg×ZL):=
 if(a0.1.length:Int)=0 then none else Bi (0<=(0:Int)/\(0:Int)<(a0.1.length:Int)) (Bi (0<=(1:Int)/\(1:Int)<=(a0.1.length:Int)) (some (a0.1.getD ((0:Int).toNat) Qqf,((a0.1.drop (1:Int).toNat),a0.2.1,a0.2.2))))
theorem C2{d w:World}{H:PH}(hH:Le H (hp d))(O:List BS)(a0:ZL){ba0:Nat}{va0_0 va0_2:Value}{xsa0_2:QqK}(hL:AZ d (Ha [.box ba0 [va0_0,.bool a0.2.1,va0_2] 90,.row va0_2 9 1 (a0.2.2).length xsa0_2] O) w)(b:AD .st (gz H d w (Ha [.box ba0 [va0_0,.bool a0.2.1,va0_2] 90,.row va0_2 9 1 (a0.2.2).length xsa0_2] O)) va0_0 (a0.1))(a:A6 .st (gz H d w (Ha [.box ba0 [va0_0,.bool a0.2.1,va0_2] 90,.row va0_2 9 1 (a0.2.2).length xsa0_2] O)) (a0.2.2) xsa0_2){r:Zg×ZL}(h:Cf a0=some r):
  Ok prog 36 [Ze ba0] w (fun v w'=>∃(g:Value) (c:Value) (y3:QqK),v=(Zf r.1)/\AZ d (Ha [.box ba0 [g,.bool r.2.2.1,c] 90,.row c 9 1 (r.2.2.2).length y3] O) w'/\Le (fz w (Ha [.box ba0 [va0_0,.bool a0.2.1,va0_2] 90,.row va0_2 9 1 (a0.2.2).length xsa0_2] O)) (fz w' (Ha [.box ba0 [g,.bool r.2.2.1,c] 90,.row c 9 1 (r.2.2.2).length y3] O))/\AD .st (gz H d w' (Ha [.box ba0 [g,.bool r.2.2.1,c] 90,.row c 9 1 (r.2.2.2).length y3] O)) g (r.2.1)/\A6 .st (gz H d w' (Ha [.box ba0 [g,.bool r.2.2.1,c] 90,.row c 9 1 (r.2.2.2).length y3] O)) (r.2.2.2) y3):=by
 refine BF (n:=28) [(0,(Ze ba0))] func36 Z Z Z Z ?_;have hT:=Le.refl (fz w (Ha [.box ba0 [va0_0,.bool a0.2.1,va0_2] 90,.row va0_2 9 1 (a0.2.2).length xsa0_2] O));refine AI 1 Z<|AN<|BN 1 Z<|Ah (AW Z)<|Ah (Af Z Zz Z C3.e)<|Ah (Ag 0 Z hL Z)<|Ah (AX b)<|A4 1 Z<|AY h ?_ ?_<;>intro j h
 ·cases h
 refine A5<|A3<|BN 1 Z<|Ah (AW Z)<|Ah (Af Z Zz Z C3.e)<|Ah (Ag 0 Z hL Z)<|A8 h fun i h=>Bb b ((0:Int).toNat) (Dw i) (AK i) ?_;rintro p _ rfl k;refine Ah (AV k (Al hL))<|A4 1 Z<|BN 2 Z<|Ah (AW Z)<|Ah (Af Z Zz Z C3.e)<|Ah (Ag 0 Z hL Z)<|A8 h fun l h=>G7 b l fun o f=>Ah (AW Z)<|Ah (Af Z Zz Z C3.e)<|Bc 0 Z Z f.one hL Z Z fun q m e=>Am<|AI 2 Z<|Ay ?_
 cases h
 refine Ak Z ?_;have a:=a.mono (Ab e);have f:=f.mono (Ab e);have hT:=hT.trans e;exact⟨o,va0_2,xsa0_2,Z,m,hT,f,a⟩
def FL(a:Zg×ZL)(b:Zg)(c:Bool):Option (Zg×ZL):=
 some (b,(a.2.1,c,a.2.2.2))
def F2(d:Zg×ZL):Zg×Bool×Int->Option ((Zg×Bool×Int)⊕(Zg×ZL)):=fun⟨e,f,a⟩=>
 if a<(d.1.length:Int)then Bi (0<=a/\a<(d.1.length:Int)) (QqB (O4 ([48,49,50,51,52,53,54,55,56,57,97,98,99,100,101,102]:Zg) (d.1.getD a.toNat Qqf)) (fun c=>Bi (BX (a+1)) (Bi (0<=(a+1)/\(a+1)<(d.1.length:Int)) (QqB (O4 ([48,49,50,51,52,53,54,55,56,57,97,98,99,100,101,102]:Zg) (d.1.getD (a+1).toNat Qqf)) (fun b=>Bi (BX (c * 16)) (Bi ((0<=b/\b<2 ^ 63)/\(0<=(15:Int)/\(15:Int)<2 ^ 63)) (Bi ((0<=(c * 16)/\(c * 16)<2 ^ 63)/\(0<=((b.toNat &&& (15:Int).toNat:Nat):Int)/\((b.toNat &&& (15:Int).toNat:Nat):Int)<2 ^ 63)) (Bi (Go.E.Gg 1 (e.length+([(Go.L.u8 (((c * 16).toNat ||| ((b.toNat &&& (15:Int).toNat:Nat):Int).toNat:Nat):Int))]).length)) (Bi (BX (a+2)) (some (Sum.inl ((e++[(Go.L.u8 (((c * 16).toNat ||| ((b.toNat &&& (15:Int).toNat:Nat):Int).toNat:Nat):Int))]),(bif (bif f then true else decide (c<0))then true else decide (b<0)),(a+2)))))))))))))else QqD Sum.inr ((FL d) e f)
def Hl(a:Zg×ZL)(s:Zg×Bool×Int):Option (Zg×ZL):=Go.L.run (F2 a) s
def GV(a0:ZL):Option (Zg×ZL):=
 QqB (Cf a0) (fun a=>if a.1=([]:Zg)then none else Bi (0<=(a.1.length:Int)/\(a.1.length:Int)<=9223372036854775807/\0<(2:Int)) (if((a.1.length:Int) % (2:Int))=0 then(Hl a) (([]:Zg),a.2.2.1,0)else none))
theorem Mx{e w:World}{H:PH}(hH:Le H (hp e)){O:List BS}{a0:ZL}{ba0:Nat}{va0_0 va0_2:Value}{xsa0_2:QqK}(hL:AZ e (Ha [.box ba0 [va0_0,.bool a0.2.1,va0_2] 90,.row va0_2 9 1 (a0.2.2).length xsa0_2] O) w)(a5:AD .st (gz H e w (Ha [.box ba0 [va0_0,.bool a0.2.1,va0_2] 90,.row va0_2 9 1 (a0.2.2).length xsa0_2] O)) va0_0 (a0.1))(aw:A6 .st (gz H e w (Ha [.box ba0 [va0_0,.bool a0.2.1,va0_2] 90,.row va0_2 9 1 (a0.2.2).length xsa0_2] O)) (a0.2.2) xsa0_2){r:Zg×ZL}(h:GV a0=some r):
  Ok prog 39 [Ze ba0] w (fun v w'=>∃(u0:Value) (y0:QqK) (u1:Value) (u:Value) (y3:QqK),v=u0/\AZ e (Ha [.row u0 5 1 (r.1).length y0,.box ba0 [u1,.bool r.2.2.1,u] 90,.row u 9 1 (r.2.2.2).length y3] O) w'/\Le (fz w (Ha [.box ba0 [va0_0,.bool a0.2.1,va0_2] 90,.row va0_2 9 1 (a0.2.2).length xsa0_2] O)) (fz w' (Ha [.row u0 5 1 (r.1).length y0,.box ba0 [u1,.bool r.2.2.1,u] 90,.row u 9 1 (r.2.2.2).length y3] O))/\A6 .byte (gz H e w' (Ha [.row u0 5 1 (r.1).length y0,.box ba0 [u1,.bool r.2.2.1,u] 90,.row u 9 1 (r.2.2.2).length y3] O)) (r.1) y0/\AD .st (gz H e w' (Ha [.row u0 5 1 (r.1).length y0,.box ba0 [u1,.bool r.2.2.1,u] 90,.row u 9 1 (r.2.2.2).length y3] O)) u1 (r.2.1)/\A6 .st (gz H e w' (Ha [.row u0 5 1 (r.1).length y0,.box ba0 [u1,.bool r.2.2.1,u] 90,.row u 9 1 (r.2.2.2).length y3] O)) (r.2.2.2) y3):=by
 refine BF (n:=61) [(0,(Ze ba0))] func39 Z Z Z Z ?_;have hT:=Le.refl (fz w (Ha [.box ba0 [va0_0,.bool a0.2.1,va0_2] 90,.row va0_2 9 1 (a0.2.2).length xsa0_2] O));refine AI 1 Z<|BN 1 Z<|Ax h fun x bq h=>BR (C2 hH (Ha [] O) a0 hL a5 aw bq) ?_;rintro _ w2 ⟨o,p,y2_3,rfl,br,ax,y,z⟩;refine A4 1 Z<|AN<|BN 1 Z<|Ah (Kn Z Z)<|Aw 1 Z<|AU 12 h ?_ ?_<;>intro j h
 ·iterate 4 refine Ac j ?_
  refine Ah (Aj j Z)<|Am<|Fb ?_
  cases h
 refine Aa j<|Ah (Ad Z)<|Aa j<|Ah (K4 Z)<|Aa j<|A8 h fun bm h=>Ah (Ro Z Z ⟨bm.1,bm.2.2⟩)<|Aa j<|Ah (Ad Z)<|Ah (An j Z)<|Am<|DI h ?_ ?_<;>intro bs h
 ·cases h
 refine A5<|A3<|BN 1 Z ?_;obtain⟨ay,k,bn⟩:=CH .byte H 5 br;refine Am<|Bs (Zg×Bool×Value×QqK) (fun⟨ae,am,s,f⟩=>[(4,s)]) (fun⟨ae,am,s,f⟩ wr=>DK e (Ha [.row s 5 1 (ae).length f,.box ba0 [o,.bool am,p] 90,.row p 9 1 (x.2.2.2).length y2_3] O) wr fun Oz=>A6 .byte (gz H e wr Oz) ae f/\AD .st (gz H e wr Oz) o (x.2.1)/\A6 .st (gz H e wr Oz) (x.2.2.2) y2_3/\Le (fz w (Ha [.box ba0 [va0_0,.bool a0.2.1,va0_2] 90,.row va0_2 9 1 (a0.2.2).length xsa0_2] O)) (fz wr Oz)/\(FL x) ae am=some r) ?_ ?_
 ·have al:=ay.rG H;refine AI 1 Z<|AA ?_;obtain⟨az,h⟩:=Bf h;have hT:=hT.trans (ax.trans k);have y:=y.mono (Ab k);have z:=z.mono (Ab k);refine BB (Zg×Bool×Int×Value×QqK×Nat) (fun⟨g,t,b,i,d,n⟩=>[(0,(Ze ba0)),(3,(Zf x.1)),(4,i),(5,No b)]) (fun⟨g,t,b,i,d,n⟩ wr=>DK e (Ha [.row i 5 1 (g).length d,.box ba0 [o,.bool t,p] 90,.row p 9 1 (x.2.2.2).length y2_3] O) wr fun Oz=>A6 .byte (gz H e wr Oz) g d/\AD .st (gz H e wr Oz) o (x.2.1)/\A6 .st (gz H e wr Oz) (x.2.2.2) y2_3/\Le (fz w (Ha [.box ba0 [va0_0,.bool a0.2.1,va0_2] 90,.row va0_2 9 1 (a0.2.2).length xsa0_2] O)) (fz wr Oz)/\FX (F2 x) n (g,t,b)=some r) (fun⟨g,t,b,i,d,n⟩=>n) (([]:Zg),x.2.2.1,0,Zd,[],az) Z ⟨ay,(bn.mono al),(y.mono al),(z.mono al),hT,h⟩ ?_;rintro⟨g,t,b,i,d,nn94⟩ bw ⟨aa,an,af,he94_r2_3,hT,h⟩;obtain⟨az,b6,rfl,h,a1⟩:=Bd h;refine AN ?_;have a:=aa.rG H;refine BN 2 Z<|Ah (K4 Z)<|A4 1 Z<|AY h ?_ ?_<;>intro bo h
  ·refine A5<|A3<|AN<|AA<|Dq (ZX 0 11 (.tail 11)) mixed V (fun b7 a2=>?_);have ao:=aa.call a2;have ag:=Ba aa a2;refine BW 2 Z<|A8 h fun a6 h=>B9 Z (Lf a6) Z<|Ax h fun ab a7 h=>HP Z Z Z (fun bx bt=>OP _ _ (Le.refl _) a7)<|BW 2 Z<|A8 h fun a8 h=>B9 Z (AH a8) Z<|A8 h fun a9 h=>B9 Z (Lf a9) Z<|Ax h fun ac ba h=>HP Z Z Z (fun bz bu=>OP _ _ (Le.refl _) ba)<|BW 2 Z<|BM (fun b0 ap=>?_);have aq:=ao.call ap;have ah:=Ba ao ap;refine Am<|BN 2 Z<|Ah (AW Z)<|Ah (Af Z Zz Z Fa.e)<|Ah (Ag 1 Z aq Z)<|Aw 1 Z<|L3 2 5 Z Z Z Z Z Z Z<|Aw 1 Z<|L3 2 9 Z Z Z Z Z Z Z<|Ah (AW Z)<|Ah (Af Z Zz Z Fa.e)<|Bc 1 Z Z Z aq Z Z fun b1 bb ai=>Am<|A2 ?_
   refine Aw 2 Z<|A8 h fun ar h=>Ah (Pg (c:=4) (m:=16) Z7 (wrap64 ar.1 ar.2))<|Aw 1 Z<|A8 h fun bc h=>Ah (Ng Z bc)<|A8 h fun bd h=>Ah (Ng Z bd)<|Ah (Fc (Hf _))<|Br [(Go.L.u8 (((ab * 16).toNat ||| ((ac.toNat &&& (15:Int).toNat:Nat):Int).toNat:Nat):Int))] (r:=.byte) (hr:=(fun _=>KT _ _)) (Bw 1) bb (.c1 Z .nil) fun b2 b3 bv be aj bf=>A8 h fun bg h=>?_;have a:=a.trans (Ab (ag.trans (ah.trans (ai.trans aj))));refine Ca (r:=.byte) 0 g [(Go.L.u8 (((ab * 16).toNat ||| ((ac.toNat &&& (15:Int).toNat:Nat):Int).toNat:Nat):Int))] Z Zi be Z (an.mono a) bf bg fun bp b4 bh bi ak bj=>Aw 1 Z<|AQ<|AB<|A3<|A2<|Aw 1 Z<|A8 h fun bk h=>Ah (AH bk)<|Aw 1 Z<|AQ ?_;have h:=Ct.again h a1;have hT:=hT.trans (ag.trans (ah.trans (ai.trans (aj.trans ak))));have a:=a.trans (Ab ak)
   refine AS ((g++[(Go.L.u8 (((ab * 16).toNat ||| ((ac.toNat &&& (15:Int).toNat:Nat):Int).toNat:Nat):Int))]),(bif (bif t then true else decide (ab<0))then true else decide (ac<0)),(b+2),bp,bh,az) ⟨bi,bj,(af.mono a),(he94_r2_3.mono a),hT,h⟩
  refine BA<|AP<|AJ ?_;have h:=Ct.out h a1;refine Bu<|A7 (_,_,_,_) ⟨aa,(an.mono a),(af.mono a),(he94_r2_3.mono a),hT,h⟩
 have hT:=hT.trans (ax.trans k);rintro⟨ae,am,s,f⟩ b5 ⟨a3,bl,a4,he65_r2_3,hT,h⟩;have ad:=a3.rG H;refine AI 2 Z<|Ay ?_
 cases h
 refine Ak Z ⟨s,f,o,p,y2_3,Z,a3,hT,(bl.mono ad),(a4.mono ad),(he65_r2_3.mono ad)⟩
def CP(a0:ZL):Option (Int×ZL):=
 QqB (Cf a0) (fun a=>QqB (U2 a.1) (fun b=>if b.2 then(if a.2.2.1 then some (b.1,(a.2.1,true,a.2.2.2))else if(10<(a.1.length:Int))\/(b.1<0)then some (b.1,(a.2.1,true,a.2.2.2))else QqB (P2 b.1) (fun c=>some (b.1,(a.2.1,!decide (c=a.1),a.2.2.2))))else(if a.2.2.1 then some (b.1,(a.2.1,true,a.2.2.2))else some (b.1,(a.2.1,true,a.2.2.2)))))
theorem E7{u w:World}{H:PH}(hH:Le H (hp u))(hU:I3 H)(O:List BS)(a0:ZL){ba0:Nat}{va0_0 va0_2:Value}{xsa0_2:QqK}(hL:AZ u (Ha [.box ba0 [va0_0,.bool a0.2.1,va0_2] 90,.row va0_2 9 1 (a0.2.2).length xsa0_2] O) w)(aa:AD .st (gz H u w (Ha [.box ba0 [va0_0,.bool a0.2.1,va0_2] 90,.row va0_2 9 1 (a0.2.2).length xsa0_2] O)) va0_0 (a0.1))(y:A6 .st (gz H u w (Ha [.box ba0 [va0_0,.bool a0.2.1,va0_2] 90,.row va0_2 9 1 (a0.2.2).length xsa0_2] O)) (a0.2.2) xsa0_2){r:Int×ZL}(h:CP a0=some r):
  Ok prog 41 [Ze ba0] w (fun v w'=>∃(z:Value) (s:Value) (y3:QqK),v=No r.1/\AZ u (Ha [.box ba0 [z,.bool r.2.2.1,s] 90,.row s 9 1 (r.2.2.2).length y3] O) w'/\Le (fz w (Ha [.box ba0 [va0_0,.bool a0.2.1,va0_2] 90,.row va0_2 9 1 (a0.2.2).length xsa0_2] O)) (fz w' (Ha [.box ba0 [z,.bool r.2.2.1,s] 90,.row s 9 1 (r.2.2.2).length y3] O))/\AD .st (gz H u w' (Ha [.box ba0 [z,.bool r.2.2.1,s] 90,.row s 9 1 (r.2.2.2).length y3] O)) z (r.2.1)/\A6 .st (gz H u w' (Ha [.box ba0 [z,.bool r.2.2.1,s] 90,.row s 9 1 (r.2.2.2).length y3] O)) (r.2.2.2) y3):=by
 refine BF (n:=40) [(0,(Ze ba0))] func41 Z Z Z Z ?_;have hT:=Le.refl (fz w (Ha [.box ba0 [va0_0,.bool a0.2.1,va0_2] 90,.row va0_2 9 1 (a0.2.2).length xsa0_2] O));refine AI 1 Z<|BN 1 Z<|Ax h fun x1 ai h=>BR (C2 hH (Ha [] O) a0 hL aa y ai) ?_;rintro _ w2 ⟨g,i,y2_3,rfl,ab,j,a,b⟩;refine A4 1 Z<|BN 1 Z<|Ax h fun x4 aj h=>Bh ab (VU _ _ (Al ab) (hU.mono  Ai) aj) ?_;rintro _ w3 ⟨e3,rfl,ak,al⟩ ap f c;refine T0 x4.2 (fun t=>?_) (fun t=>?_)
 ·obtain rfl:=ak t;have h:=Lo t h;refine A4 5 Z<|BN 2 Z<|Ah (AW Z)<|Ah (Af Z Zz Z Fa.e)<|Ah (Ag 0 Z f Z)<|Aw 1 Z<|Bj 18 h ?_ ?_<;>intro k h
  ·iterate 2 refine Ac k ?_
   refine Ah (Aj k Z)<|Aw 1 Z ?_
   iterate 3 refine Ac Z ?_
   refine Ah (Aj Z Z)<|Aw 1 Z ?_
   iterate 2 refine Ac Z ?_
   refine Ah (Aj Z Z)<|Aw 1 Z ?_
   iterate 4 refine Ac Z ?_
   refine Ah (Aj Z Z)<|Ah (AW Z)<|Ah (Af Z Zz Z Fa.e)<|Bc 0 Z Z Z f Z Z fun w8 am x=>Am<|AI 2 Z<|Ay ?_
   cases h
   refine Ak Z ?_;have hT:=hT.trans (j.trans (c.trans x));have a:=a.mono (Ab (c.trans x));have b:=b.mono (Ab (c.trans x));exact⟨g,i,y2_3,Z,am,hT,a,b⟩
  refine Aa k<|Ah (Ad Z)<|Aa k<|Ah XR<|Ah (An k Z)<|Aw 1 Z<|Aa Z<|Ah (Ad Z)<|Aa Z<|Ah (K4 Z)<|Aa Z<|Ah (Ad Z)<|Ah (An Z Z)<|Aw 1 Z<|WL 2 14 Z Z Z Z Z Z<|Aw 1 Z<|AU 31 h ?_ ?_<;>intro d h
  ·iterate 4 refine Ac d ?_
   refine Ah (Aj d Z)<|Ah (AW Z)<|Ah (Af Z Zz Z Fa.e)<|Bc 0 Z Z Z f Z Z fun aq ac l=>Am<|AI 2 Z<|Ay ?_
   cases h
   refine Ak Z ?_;have hT:=hT.trans (j.trans (c.trans l));have a:=a.mono (Ab (c.trans l));have b:=b.mono (Ab (c.trans l));exact⟨g,i,y2_3,Z,ac,hT,a,b⟩
  refine Aa d<|Ah (Ad Z)<|Aa d<|Ax h fun ar ad h=>A9 f (NG _ _ (Al f) (hU.mono  Ai) ad) fun au ao ae m=>Aa d<|Ah (Ad Z)<|Aa d<|Ah (Me Z Z)<|Ah (An d Z)<|Ah (AW Z)<|Ah (Af Z Zz Z Fa.e)<|Bc 0 Z Z Z ae Z Z fun av af o=>Am<|AI 2 Z<|Ay ?_
  cases h
  refine Ak Z ?_;have hT:=hT.trans (j.trans (c.trans (m.trans o)));have a:=a.mono (Ab (c.trans (m.trans o)));have b:=b.mono (Ab (c.trans (m.trans o)));exact⟨g,i,y2_3,Z,af,hT,a,b⟩
 obtain⟨t3,p3,rfl⟩:=al t;have h:=Lp t h;refine A4 5 Z<|BN 2 Z<|Ah (AW Z)<|Ah (Af Z Zz Z Fa.e)<|Ah (Ag 0 Z f Z)<|Aw 1 Z<|Bj 18 h ?_ ?_<;>intro e h
 ·iterate 2 refine Ac e ?_
  refine Ah (Aj e Z)<|Aw 1 Z ?_
  iterate 3 refine Ac Z ?_
  refine Ah (Aj Z Z)<|Aw 1 Z ?_
  iterate 2 refine Ac Z ?_
  refine Ah (Aj Z Z)<|Aw 1 Z ?_
  iterate 4 refine Ac Z ?_
  refine Ah (Aj Z Z)<|Ah (AW Z)<|Ah (Af Z Zz Z Fa.e)<|Bc 0 Z Z Z f Z Z fun aw ag p=>Am<|AI 2 Z<|Ay ?_
  cases h
  refine Ak Z ?_;have hT:=hT.trans (j.trans (c.trans p));have a:=a.mono (Ab (c.trans p));have b:=b.mono (Ab (c.trans p));exact⟨g,i,y2_3,Z,ag,hT,a,b⟩
 refine Aa e<|Ah (Ad Z)<|Aa e<|Ah XQ<|Ah (An e Z)<|Aw 1 Z ?_
 iterate 3 refine Ac Z ?_
 refine Ah (Aj Z Z)<|Aw 1 Z ?_
 iterate 2 refine Ac Z ?_
 refine Ah (Aj Z Z)<|Aw 1 Z ?_
 iterate 4 refine Ac Z ?_
 refine Ah (Aj Z Z)<|Ah (AW Z)<|Ah (Af Z Zz Z Fa.e)<|Bc 0 Z Z Z f Z Z fun ax ah q=>Am<|AI 2 Z<|Ay ?_
 cases h
 refine Ak Z ?_;have hT:=hT.trans (j.trans (c.trans q));have a:=a.mono (Ab (c.trans q));have b:=b.mono (Ab (c.trans q));exact⟨g,i,y2_3,Z,ah,hT,a,b⟩
def Gc(a0:ZL):Option (Bool×ZL):=
 QqB (Cf a0) (fun a=>if a.2.2.1 then some (decide (a.1=([98,105,103]:Zg)),(a.2.1,true,a.2.2.2))else if a.1=([98,105,103]:Zg)then some (decide (a.1=([98,105,103]:Zg)),(a.2.1,false,a.2.2.2))else some (decide (a.1=([98,105,103]:Zg)),(a.2.1,!decide (a.1=([108,105,116,116,108,101]:Zg)),a.2.2.2)))
theorem LJ{g w:World}{H:PH}(hH:Le H (hp g)){O:List BS}{a0:ZL}{ba0:Nat}{va0_0 va0_2:Value}{xsa0_2:QqK}(hL:AZ g (Ha [.box ba0 [va0_0,.bool a0.2.1,va0_2] 90,.row va0_2 9 1 (a0.2.2).length xsa0_2] O) w)(s:AD .st (gz H g w (Ha [.box ba0 [va0_0,.bool a0.2.1,va0_2] 90,.row va0_2 9 1 (a0.2.2).length xsa0_2] O)) va0_0 (a0.1))(p:A6 .st (gz H g w (Ha [.box ba0 [va0_0,.bool a0.2.1,va0_2] 90,.row va0_2 9 1 (a0.2.2).length xsa0_2] O)) (a0.2.2) xsa0_2){r:Bool×ZL}(h:Gc a0=some r):
  Ok prog 43 [Ze ba0] w (fun v w'=>∃(q:Value) (f:Value) (y3:QqK),v=.bool r.1/\AZ g (Ha [.box ba0 [q,.bool r.2.2.1,f] 90,.row f 9 1 (r.2.2.2).length y3] O) w'/\Le (fz w (Ha [.box ba0 [va0_0,.bool a0.2.1,va0_2] 90,.row va0_2 9 1 (a0.2.2).length xsa0_2] O)) (fz w' (Ha [.box ba0 [q,.bool r.2.2.1,f] 90,.row f 9 1 (r.2.2.2).length y3] O))/\AD .st (gz H g w' (Ha [.box ba0 [q,.bool r.2.2.1,f] 90,.row f 9 1 (r.2.2.2).length y3] O)) q (r.2.1)/\A6 .st (gz H g w' (Ha [.box ba0 [q,.bool r.2.2.1,f] 90,.row f 9 1 (r.2.2.2).length y3] O)) (r.2.2.2) y3):=by
 refine BF (n:=23) [(0,(Ze ba0))] func43 Z Z Z Z ?_;have hT:=Le.refl (fz w (Ha [.box ba0 [va0_0,.bool a0.2.1,va0_2] 90,.row va0_2 9 1 (a0.2.2).length xsa0_2] O));refine AI 1 Z<|BN 1 Z<|Ax h fun x1 u h=>BR (C2 hH (Ha [] O) a0 hL s p u) ?_;rintro _ w2 ⟨i,j,y2_3,rfl,o,k,a,b⟩;refine A4 1 Z<|BN 2 Z<|Ah (AW Z)<|Ah (Af Z Zz Z Fa.e)<|Ah (Ag 0 Z o Z)<|Aw 1 Z<|Bj 11 h ?_ ?_<;>intro c h
 ·iterate 3 refine Ac c ?_
  iterate 2 refine Au ?_
  refine Ac c<|Ah (Aj c Z)<|Ah (AW Z)<|Ah (Af Z Zz Z Fa.e)<|Bc 0 Z Z Z o Z Z fun w5 x l=>Am<|BN 1 Z<|Ah (Kn Z Z)<|A4 1 Z<|Ay ?_
  cases h
  refine Ak Z ?_;have hT:=hT.trans (k.trans l);have a:=a.mono (Ab l);have b:=b.mono (Ab l);exact⟨i,j,y2_3,Z,x,hT,a,b⟩
 refine Aa c<|Ah (Ad Z)<|Aa c<|Ah (Me Z Z)<|Aa c<|Ah (Ad Z)<|FG 14 h ?_ ?_<;>intro d h
 ·refine Aa d<|Ah (Ad Z)<|Aa d<|Ah (Me Z Z)<|Aa c<|Ah (Aj d Z)<|Ah (An c Z)<|Ah (AW Z)<|Ah (Af Z Zz Z Fa.e)<|Bc 0 Z Z Z o Z Z fun w9 y m=>Am<|BN 1 Z<|Ah (Kn Z Z)<|A4 1 Z<|Ay ?_
  cases h
  refine Ak Z ?_;have hT:=hT.trans (k.trans m);have a:=a.mono (Ab m);have b:=b.mono (Ab m);exact⟨i,j,y2_3,Z,y,hT,a,b⟩
 iterate 2 refine Ac d ?_
 refine Aa c<|Ah (An d Z)<|Ah (An c Z)<|Ah (AW Z)<|Ah (Af Z Zz Z Fa.e)<|Bc 0 Z Z Z o Z Z fun z t e=>Am<|BN 1 Z<|Ah (Kn Z Z)<|A4 1 Z<|Ay ?_
 cases h
 refine Ak Z ?_;have hT:=hT.trans (k.trans e);have a:=a.mono (Ab e);have b:=b.mono (Ab e);exact⟨i,j,y2_3,Z,t,hT,a,b⟩
def Ee(a0:ZL)(a1:Zg)(a:Bool):Option (ZL):=
 Bi (Go.E.Gg 16 (a0.2.2.length+([a1]).length)) (some ((a0.1,a,(a0.2.2++[a1]))))
def D1(a0:ZL)(a1:Zg):Option (ZL):=
 if a0.2.1 then(Ee a0 a1) true else QqB (Ej a1) (fun a=>(Ee a0 a1) (!a))
theorem F3{e w:World}{H:PH}(hH:Le H (hp e))(O:List BS)(a0:ZL)(a1:Zg){ba0:Nat}{va0_0 va0_2:Value}{xsa0_2:QqK}(hL:AZ e (Ha [.box ba0 [va0_0,.bool a0.2.1,va0_2] 90,.row va0_2 9 1 (a0.2.2).length xsa0_2] O) w)(b:AD .st (gz H e w (Ha [.box ba0 [va0_0,.bool a0.2.1,va0_2] 90,.row va0_2 9 1 (a0.2.2).length xsa0_2] O)) va0_0 (a0.1))(a:A6 .st (gz H e w (Ha [.box ba0 [va0_0,.bool a0.2.1,va0_2] 90,.row va0_2 9 1 (a0.2.2).length xsa0_2] O)) (a0.2.2) xsa0_2){r:ZL}(h:D1 a0 a1=some r):
  Ok prog 46 [Ze ba0,Zf a1] w (fun v w'=>∃(t:Value) (p:Value) (y2:QqK),v=.tuple #[]/\AZ e (Ha [.box ba0 [t,.bool r.2.1,p] 90,.row p 9 1 (r.2.2).length y2] O) w'/\Le (fz w (Ha [.box ba0 [va0_0,.bool a0.2.1,va0_2] 90,.row va0_2 9 1 (a0.2.2).length xsa0_2] O)) (fz w' (Ha [.box ba0 [t,.bool r.2.1,p] 90,.row p 9 1 (r.2.2).length y2] O))/\AD .st (gz H e w' (Ha [.box ba0 [t,.bool r.2.1,p] 90,.row p 9 1 (r.2.2).length y2] O)) t (r.1)/\A6 .st (gz H e w' (Ha [.box ba0 [t,.bool r.2.1,p] 90,.row p 9 1 (r.2.2).length y2] O)) (r.2.2) y2):=by
 refine BF (n:=26) [(0,(Ze ba0)),(1,(Zf a1))] func46 Z Z Z Z ?_;have hT:=Le.refl (fz w (Ha [.box ba0 [va0_0,.bool a0.2.1,va0_2] 90,.row va0_2 9 1 (a0.2.2).length xsa0_2] O));refine Bs Bool (fun y=>[(0,(Ze ba0)),(1,(Zf a1))]) (fun y wr=>DK e (Ha [.box ba0 [va0_0,.bool y,va0_2] 90,.row va0_2 9 1 (a0.2.2).length xsa0_2] O) wr fun Oz=>AD .st (gz H e wr Oz) va0_0 (a0.1)/\A6 .st (gz H e wr Oz) (a0.2.2) xsa0_2/\Le (fz w (Ha [.box ba0 [va0_0,.bool a0.2.1,va0_2] 90,.row va0_2 9 1 (a0.2.2).length xsa0_2] O)) (fz wr Oz)/\(Ee a0 a1) y=some r) ?_ ?_
 ·refine A2<|Aw 2 Z<|Ah (AW Z)<|Ah (Af Z Zz Z Fa.e)<|Ah (Ag 0 Z hL Z)<|Aw 1 Z<|Bj 9 h ?_ ?_<;>intro c h
  ·iterate 3 refine Ac c ?_
   refine Ah (Aj c Z)<|Ah (AW Z)<|Ah (Af Z Zz Z Fa.e)<|Bc 0 Z Z Z hL Z Z fun an z f=>AQ ?_;have b:=b.mono (Ab f);have a:=a.mono (Ab f);have hT:=hT.trans f;refine A7 _ ⟨z,b,a,hT,h⟩
  refine Aa c<|Ah (Ad Z)<|Aa c<|Ax h fun ai aa h=>A9 hL (FQ _ _ (Al hL) aa) fun ao ak ab g=>Aa c<|Ah (Ad Z)<|Ah (An c Z)<|Ah (AW Z)<|Ah (Af Z Zz Z Fa.e)<|Bc 0 Z Z Z ab Z Z fun ap ac j=>AQ ?_;have b:=b.mono (Ab (g.trans j));have a:=a.mono (Ab (g.trans j));have hT:=hT.trans (g.trans j);refine A7 _ ⟨ac,b,a,hT,h⟩
 rintro y al ⟨u,d,he10_Ra0_2,hT,h⟩;refine A2<|Aw 2 Z<|Ah (AW Z)<|Ah (Af Z Zz Z C3.e)<|Ah (Ag 0 Z u Z)<|Aw 1 Z<|Br [a1] (r:=.st) (hr:=(fun _=>LD _ Z _)) (Bw 1) u (.c1 Z .nil) fun aq ar am ad k ae=>A8 h fun af h=>?_;have he10_Ra0_2:=he10_Ra0_2.mono (Ab k);refine Ca (r:=.st) 1 a0.2.2 [a1] Z Zo ad Z he10_Ra0_2 ae af fun aj au ag x s q=>Ah (AW Z)<|Ah (Af Z Zz Z C3.e)<|Bc 0 Z Z (row_one (x.at (i:=1) Z)) x Z Z fun av ah o=>AQ ?_
 cases h
 refine Es ?_;have d:=d.mono (Ab (k.trans (s.trans o)));have hT:=hT.trans (k.trans (s.trans o));have q:=q.mono (Ab o);exact⟨va0_0,aj,ag,Z,ah,hT,d,q⟩
def DQ(e:Bool)(c:List Zg)(d:Zg×ZL)(f:Zg×Zg×Bool)(a:Zg):Option (((List Zg)×(List Zg)×Bool×(List Zg))⊕((List Zg)×ZL)):=
 Bi (Go.E.Gg 16 (c.length+([a]).length)) (QqB (D1 (d.2.1,e,d.2.2.2) f.2.1) (fun b=>some (Sum.inl ((c++[a]),b.1,b.2.1,b.2.2))))
def Df(b:List Zg)(c:Zg×ZL)(a:Zg×Zg×Bool)(d:Bool):Option (((List Zg)×(List Zg)×Bool×(List Zg))⊕((List Zg)×ZL)):=
 if a.1=([45]:Zg)then(DQ d b c a) ([]:Zg)else(DQ d b c a) a.1
def EU(a:List Zg)(b:List Zg)(c:Bool)(d:List Zg):Option ((List Zg)×ZL):=
 some (a,(b,c,d))
def E8(a1:Bool):(List Zg)×(List Zg)×Bool×(List Zg)->Option (((List Zg)×(List Zg)×Bool×(List Zg))⊕((List Zg)×ZL)):=fun⟨c,d,f,g⟩=>
 if 0<(d.length:Int)then QqB (Cf (d,f,g)) (fun a=>if a1 then QqB (JU a.1 ([58]:Zg)) (fun b=>if(bif a.2.2.1 then true else !b.2.2)then(Df c a b) true else if b.1=([45]:Zg)then(Df c a b) false else QqB (Ej b.1) (fun h=>(Df c a b) (!h)))else QqB (D1 a.2 a.1) (fun e=>some (Sum.inl (c,e.1,e.2.1,e.2.2))))else QqD Sum.inr (EU c d f g)
def Gz(a1:Bool)(s:(List Zg)×(List Zg)×Bool×(List Zg)):Option ((List Zg)×ZL):=Go.L.run (E8 a1) s
def Gd(a0:ZL)(a1:Bool):Option ((List Zg)×ZL):=
 (Gz a1) (([]:List Zg),a0.1,a0.2.1,a0.2.2)
theorem LK{i w:World}{H:PH}(hH:Le H (hp i)){O:List BS}{a0:ZL}{a1:Bool}{ba0:Nat}{va0_0 va0_2:Value}{xsa0_2:QqK}(hL:AZ i (Ha [.box ba0 [va0_0,.bool a0.2.1,va0_2] 90,.row va0_2 9 1 (a0.2.2).length xsa0_2] O) w)(bf:AD .st (gz H i w (Ha [.box ba0 [va0_0,.bool a0.2.1,va0_2] 90,.row va0_2 9 1 (a0.2.2).length xsa0_2] O)) va0_0 (a0.1))(a5:A6 .st (gz H i w (Ha [.box ba0 [va0_0,.bool a0.2.1,va0_2] 90,.row va0_2 9 1 (a0.2.2).length xsa0_2] O)) (a0.2.2) xsa0_2){r:(List Zg)×ZL}(h:Gd a0 a1=some r):
  Ok prog 49 [Ze ba0,.bool a1] w (fun v w'=>∃(u0:Value) (y0:QqK) (u1:Value) (u3:Value) (y3:QqK),v=u0/\AZ i (Ha [.row u0 9 1 (r.1).length y0,.box ba0 [u1,.bool r.2.2.1,u3] 90,.row u3 9 1 (r.2.2.2).length y3] O) w'/\Le (fz w (Ha [.box ba0 [va0_0,.bool a0.2.1,va0_2] 90,.row va0_2 9 1 (a0.2.2).length xsa0_2] O)) (fz w' (Ha [.row u0 9 1 (r.1).length y0,.box ba0 [u1,.bool r.2.2.1,u3] 90,.row u3 9 1 (r.2.2.2).length y3] O))/\A6 .st (gz H i w' (Ha [.row u0 9 1 (r.1).length y0,.box ba0 [u1,.bool r.2.2.1,u3] 90,.row u3 9 1 (r.2.2.2).length y3] O)) (r.1) y0/\AD .st (gz H i w' (Ha [.row u0 9 1 (r.1).length y0,.box ba0 [u1,.bool r.2.2.1,u3] 90,.row u3 9 1 (r.2.2.2).length y3] O)) u1 (r.2.1)/\A6 .st (gz H i w' (Ha [.row u0 9 1 (r.1).length y0,.box ba0 [u1,.bool r.2.2.1,u3] 90,.row u3 9 1 (r.2.2.2).length y3] O)) (r.2.2.2) y3):=by
 refine BF (n:=56) [(0,(Ze ba0)),(1,.bool a1)] func49 Z Z Z Z ?_;have hT:=Le.refl (fz w (Ha [.box ba0 [va0_0,.bool a0.2.1,va0_2] 90,.row va0_2 9 1 (a0.2.2).length xsa0_2] O));refine AI 1 Z<|BN 1 Z ?_;obtain⟨cx,bg,cb⟩:=CH .st H 9 hL;refine Am<|Bs ((List Zg)×(List Zg)×Bool×(List Zg)×Value×QqK×Value×Value×QqK) (fun⟨bc,bz,bn,bd,ax,ac,ay,af,ad⟩=>[(5,ax)]) (fun⟨bc,bz,bn,bd,ax,ac,ay,af,ad⟩ wr=>DK i (Ha [.row af 9 1 (bd).length ad,.row ax 9 1 (bc).length ac,.box ba0 [ay,.bool bn,af] 90] O) wr fun Oz=>A6 .st (gz H i wr Oz) bd ad/\A6 .st (gz H i wr Oz) bc ac/\AD .st (gz H i wr Oz) ay bz/\Le (fz w (Ha [.box ba0 [va0_0,.bool a0.2.1,va0_2] 90,.row va0_2 9 1 (a0.2.2).length xsa0_2] O)) (fz wr Oz)/\EU bc bz bn bd=some r) ?_ ?_
 ·refine AA ?_;have b0:AZ i (Ha [.row va0_2 9 1 (a0.2.2).length xsa0_2,.row Zd 9 1 (([]:List Zg)).length ([]),.box ba0 [va0_0,.bool a0.2.1,va0_2] 90] O) w:=cx.Bo [2] Z;have aj:=AF [2] cx b0 Z;obtain⟨bh,h⟩:=Bf h;have bf:=bf.mono (Ab (bg.trans aj));have a5:=a5.mono (Ab (bg.trans aj));have hT:=hT.trans (bg.trans aj);have cb:=cb.mono (Ab aj)
  refine BB ((List Zg)×(List Zg)×Bool×(List Zg)×Value×QqK×Value×Value×QqK×Nat) (fun⟨c,ag,aa,u,e,b,x,s,q,n⟩=>[(0,(Ze ba0)),(1,.bool a1),(5,e)]) (fun⟨c,ag,aa,u,e,b,x,s,q,n⟩ wr=>DK i (Ha [.row s 9 1 (u).length q,.row e 9 1 (c).length b,.box ba0 [x,.bool aa,s] 90] O) wr fun Oz=>A6 .st (gz H i wr Oz) u q/\A6 .st (gz H i wr Oz) c b/\AD .st (gz H i wr Oz) x ag/\Le (fz w (Ha [.box ba0 [va0_0,.bool a0.2.1,va0_2] 90,.row va0_2 9 1 (a0.2.2).length xsa0_2] O)) (fz wr Oz)/\FX (E8 a1) n (c,ag,aa,u)=some r) (fun⟨c,ag,aa,u,e,b,x,s,q,n⟩=>n) (([]:List Zg),a0.1,a0.2.1,a0.2.2,Zd,[],va0_0,va0_2,xsa0_2,bh) Z ⟨b0,a5,cb,bf,hT,h⟩ ?_;rintro⟨c,ag,aa,u,e,b,x,s,q,nn140⟩ cd ⟨ak,bo,ab,a6,hT,h⟩;obtain⟨bh,cc,rfl,h,bi⟩:=Bd h;refine AN ?_;have a:=ak.rG H;refine BN 1 Z<|Ah (AW Z)<|Ah (Af Z Zz Z C3.e)<|Ah (Ag 2 Z ak Z) ?_
  refine Ah (AX (a6.mono a))<|A4 1 Z<|AY h ?_ ?_<;>intro ce h
  ·refine A5<|A3<|AA<|BN 1 Z ?_;have b1:AZ i (Ha [.box ba0 [x,.bool aa,s] 90,.row s 9 1 (u).length q,.row e 9 1 (c).length b] O) cd:=ak.Bo [2] Z;have t:=AF [2] ak b1 Z;refine Ax h fun p cf h=>?_;have a:=a.trans (Ab t);refine BR (C2 hH ((Ha [.row e 9 1 (c).length b] O)) (ag,aa,u) b1 (a6.mono a) (bo.mono a) cf) ?_;rintro _ c8 ⟨al,am,y148_3,rfl,bj,j,f,g⟩;refine A4 1 Z<|AN<|AI 1 Z<|Bm h ?_ ?_<;>intro cg h
   ·refine BN 1 Z<|Ax h fun ah ch h=>A9 bj (Mv _ _ (Al bj) ch) fun c9 c3 an d=>A4 7 Z<|Bs Bool (fun ai=>[(0,(Ze ba0)),(1,.bool a1),(5,e),(7,(Zf ah.1)),(8,(Zf ah.2.1))]) (fun ai wr=>DK i (Ha [.box ba0 [al,.bool ai,am] 90,.row am 9 1 (p.2.2.2).length y148_3,.row e 9 1 (c).length b] O) wr fun Oz=>AD .st (gz H i wr Oz) al (p.2.1)/\A6 .st (gz H i wr Oz) (p.2.2.2) y148_3/\A6 .st (gz H i wr Oz) c b/\Le (fz w (Ha [.box ba0 [va0_0,.bool a0.2.1,va0_2] 90,.row va0_2 9 1 (a0.2.2).length xsa0_2] O)) (fz wr Oz)/\(Df c p ah) ai=some cc) ?_ ?_
    ·refine A2<|Aw 2 Z<|Ah (AW Z)<|Ah (Af Z Zz Z Fa.e)<|Ah (Ag 0 Z an Z)<|Aw 1 Z<|L3 2 5 Z Z Z Z Z Z Z<|Aw 1 Z<|Bj 34 h ?_ ?_<;>intro k h
     ·iterate 3 refine Ac k ?_
      iterate 3 refine Au ?_
      refine Ac k<|Ah (Aj k Z)<|Ah (AW Z)<|Ah (Af Z Zz Z Fa.e)<|Bc 0 Z Z Z an Z Z fun da ci ao=>AQ ?_;have hT:=hT.trans (t.trans (j.trans (d.trans ao)));have a:=a.trans (Ab (j.trans (d.trans ao)));have f:=f.mono (Ab (d.trans ao));have g:=g.mono (Ab (d.trans ao));refine A7 _ ⟨ci,f,g,(ab.mono a),hT,h⟩
     refine Aa k<|Ah (Ad Z)<|Aa k<|Ah (Me Z Z)<|Aa k<|Ah (Ad Z)<|FG 37 h ?_ ?_<;>intro y h
     ·refine Aa y<|Ah (Ad Z)<|Aa y<|Ax h fun cy cj h=>A9 an (FQ _ _ (Al an) cj) fun db c4 ck ap=>Aa y<|Ah (Ad Z)<|Aa k<|Ah (Aj y Z)<|Ah (An k Z)<|Ah (AW Z)<|Ah (Af Z Zz Z Fa.e)<|Bc 0 Z Z Z ck Z Z fun dc cl aq=>AQ ?_;have hT:=hT.trans (t.trans (j.trans (d.trans (ap.trans aq))));have a:=a.trans (Ab (j.trans (d.trans (ap.trans aq))));have f:=f.mono (Ab (d.trans (ap.trans aq)));have g:=g.mono (Ab (d.trans (ap.trans aq)));refine A7 _ ⟨cl,f,g,(ab.mono a),hT,h⟩
     iterate 3 refine Ac y ?_
     refine Aa k<|Ah (An y Z)<|Ah (An k Z)<|Ah (AW Z)<|Ah (Af Z Zz Z Fa.e)<|Bc 0 Z Z Z an Z Z fun dd cm ar=>AQ ?_;have hT:=hT.trans (t.trans (j.trans (d.trans ar)));have a:=a.trans (Ab (j.trans (d.trans ar)));have f:=f.mono (Ab (d.trans ar));have g:=g.mono (Ab (d.trans ar));refine A7 _ ⟨cm,f,g,(ab.mono a),hT,h⟩
    have hT:=hT.trans (t.trans (j.trans d));rintro ai c5 ⟨bk,be,he166_r148_3,he166_r1,hT,h⟩;refine Bs Zg (fun o=>[(0,(Ze ba0)),(1,.bool a1),(5,e),(7,(Zf o)),(8,(Zf ah.2.1))]) (fun o wr=>DK i (Ha [.box ba0 [al,.bool ai,am] 90,.row am 9 1 (p.2.2.2).length y148_3,.row e 9 1 (c).length b] O) wr fun Oz=>AD .st (gz H i wr Oz) al (p.2.1)/\A6 .st (gz H i wr Oz) (p.2.2.2) y148_3/\A6 .st (gz H i wr Oz) c b/\Le (fz w (Ha [.box ba0 [va0_0,.bool a0.2.1,va0_2] 90,.row va0_2 9 1 (a0.2.2).length xsa0_2] O)) (fz wr Oz)/\(DQ ai c p ah) o=some cc) ?_ ?_
    ·have ae:=bk.rG H;refine BN 1 Z<|Ah (Kn Z Z)<|Am<|AY h ?_ ?_<;>intro cn h
     ·refine A2<|Aw 1 Z<|AQ<|A7 _ ⟨bk,(be.mono ae),(he166_r148_3.mono ae),(he166_r1.mono ae),hT,h⟩
     refine A5<|A7 _ ⟨bk,(be.mono ae),(he166_r148_3.mono ae),(he166_r1.mono ae),hT,h⟩
    rintro o c6 ⟨b2,ca,he186_r148_3,he186_r1,hT,h⟩;have z:=b2.rG H;refine A2<|Aw 2 Z<|Br [o] (r:=.st) (hr:=(fun _=>LD _ Z _)) (Bw 1) b2 (.c1 Z .nil) fun de df c7 co bp cp=>A8 h fun cq h=>?_;have z:=z.trans (Ab bp);refine Ca (r:=.st) 2 c [o] Z Zo co Z (he186_r1.mono z) cp cq fun bw dg bl cr bq bm=>Aw 3 Z<|AQ<|A3<|A2<|Aw 2 Z<|Ax h fun a7 cs h=>?_;have z:=z.trans (Ab bq);refine BR (F3 hH ((Ha [.row bw 9 1 ((c++[o])).length bl] O)) (p.2.1,ai,p.2.2.2) ah.2.1 cr (ca.mono z) (he186_r148_3.mono z) cs) ?_;rintro _ cz ⟨br,a8,y198_2,rfl,b3,bs,az,a2⟩;refine AQ<|AB ?_;have b4:AZ i (Ha [.row a8 9 1 (a7.2.2).length y198_2,.row bw 9 1 ((c++[o])).length bl,.box ba0 [br,.bool a7.2.1,a8] 90] O) cz:=b3.Bo [2,2] Z;have au:=AF [2,2] b3 b4 Z;have h:=Ct.again h bi;have hT:=hT.trans (bp.trans (bq.trans (bs.trans au)))
    have bm:=bm.mono (Ab (bs.trans au));have az:=az.mono (Ab au);have a2:=a2.mono (Ab au);refine AS ((c++[o]),a7.1,a7.2.1,a7.2.2,bw,bl,br,a8,y198_2,bh) ⟨b4,a2,bm,az,hT,h⟩
   refine A5<|A3<|A2<|Aw 2 Z<|Ax h fun a9 ct h=>BR (F3 hH ((Ha [.row e 9 1 (c).length b] O)) p.2 p.1 bj f g ct) ?_;rintro _ c0 ⟨bt,ba,y202_2,rfl,b5,bu,a3,a4⟩;refine AQ<|AB ?_;have b6:AZ i (Ha [.row ba 9 1 (a9.2.2).length y202_2,.row e 9 1 (c).length b,.box ba0 [bt,.bool a9.2.1,ba] 90] O) c0:=b5.Bo [2,2] Z;have av:=AF [2,2] b5 b6 Z;have h:=Ct.again h bi;have hT:=hT.trans (t.trans (j.trans (bu.trans av)));have a:=a.trans (Ab (j.trans (bu.trans av)));have a3:=a3.mono (Ab av);have a4:=a4.mono (Ab av);refine AS (c,a9.1,a9.2.1,a9.2.2,e,b,bt,ba,y202_2,bh) ⟨b6,a4,(ab.mono a),a3,hT,h⟩
  refine BA<|AP<|AJ ?_;have h:=Ct.out h bi;refine Bu<|A7 (c,ag,aa,u,e,b,x,s,q) ⟨ak,(bo.mono a),(ab.mono a),(a6.mono a),hT,h⟩
 have hT:=hT.trans bg;rintro⟨bc,bz,bn,bd,ax,ac,ay,af,ad⟩ c2 ⟨bx,cu,cv,cw,hT,h⟩;have aw:=bx.rG H;refine AI 2 Z<|Ay ?_
 cases h
 refine Ak Z ?_;have b7:AZ i (Ha [.row ax 9 1 (bc).length ac,.box ba0 [ay,.bool bn,af] 90,.row af 9 1 (bd).length ad] O) c2:=bx.Bo [2,2] Z;have bv:=AF [2,2] bx b7 Z;have aw:=aw.trans (Ab bv);have hT:=hT.trans bv;exact⟨ax,ac,ay,af,ad,Z,b7,hT,(cv.mono aw),(cw.mono aw),(cu.mono aw)⟩
def EK(b:List Zg)(c:List Zg)(m:Zg)(d:Zg)(e f:Int)(g:Bool)(h i j k l:Int)(a:Bool):Option ZP:=
 some ((d,e,m,f,g,h,i,j,k,l,c,[]),b,a)
def Fj(a:Int)(b:Bool)(c d g:Int)(h:Zg)(i:Int)(l:Zg×ZL)(j:List Zg)(k:Bool)(e:List Zg)(f:List Zg):Option ZP:=
 if !k then(EK e f h) l.1 (i+1) a b c d g (0:Int) (0:Int) (decide ((j.length:Int)=0))else(EK e f h) l.1 (i+1) a b c d g (0:Int) (0:Int) false
def Fk(b:Int)(c:Bool)(d e g:Int)(h:Zg)(f:Int)(l:Zg×ZL)(i:List Zg)(j:Bool)(k:List Zg):Option ZP:=
 QqB (AT (l.1,(f+1),h,b,c,d,e,g,0,0,[],[])) (fun m=>if m then QqB (Gd (i,j,k) (decide ((f+1)=7))) (fun a=>(Fj b c d e g h f l) a.2.1 a.2.2.1 a.2.2.2 a.1)else(Fj b c d e g h f l) i j k ([]:List Zg))
def Fl(a:Int)(b:Bool)(c d f:Int)(g:Zg)(h:Int)(m:Zg×ZL)(i:List Zg)(j:Bool)(k:List Zg):Option ZP:=
 QqB (BE (m.1,(h+1),g,a,b,c,d,f,0,0,[],[])) (fun n=>if n then QqB (Cf (i,j,k)) (fun l=>QqB (D1 l.2 l.1) (fun e=>(Fk a b c d f g h m) e.1 e.2.1 e.2.2))else(Fk a b c d f g h m) i j k)
def Fm(a:Int)(b:Bool)(c f:Int)(g:Zg)(h:Int)(m:Zg×ZL)(i:List Zg)(j:Bool)(d:Int)(k:List Zg):Option ZP:=
 QqB (BK (m.1,(h+1),g,a,b,c,d,f,0,0,[],[])) (fun n=>if n then QqB (Cf (i,j,k)) (fun l=>QqB (D1 l.2 l.1) (fun e=>(Fl a b c d f g h m) e.1 e.2.1 e.2.2))else(Fl a b c d f g h m) i j k)
def Fo(b e:Int)(f:Zg)(g:Int)(k:Zg×ZL)(h:List Zg)(i c:Bool)(d:Int)(j:List Zg):Option ZP:=
 QqB (Du (k.1,(g+1),f,b,c,d,0,e,0,0,[],[])) (fun l=>if l then QqB (CP (h,i,j)) (fun a=>(Fm b c d e f g k) a.2.1 a.2.2.1 a.1 a.2.2.2)else(Fm b c d e f g k) h i (0:Int) j)
def Fp(h:Int)(i:Zg)(b:Int)(j:Zg×ZL)(c:List Zg)(d:Bool)(e:Int)(f:List Zg):Option ZP:=
 if(b+1)=2 then QqB (Gc (c,d,f)) (fun g=>QqB (CP g.2) (fun a=>(Fo e h i b j) a.2.1 a.2.2.1 g.1 a.1 a.2.2.2))else(Fo e h i b j) c d false (0:Int) f
def Fq(b:Zg)(c:Int)(h:Zg×ZL)(e:List Zg)(f:Bool)(d:Int)(g:List Zg):Option ZP:=
 QqB (EE (h.1,(c+1),b,0,false,0,0,d,0,0,[],[])) (fun i=>if i then QqB (CP (e,f,g)) (fun a=>(Fp d b c h) a.2.1 a.2.2.1 a.1 a.2.2.2)else(Fp d b c h) e f (0:Int) g)
def Fs(b:Int)(g:Zg×ZL)(d:List Zg)(e:Bool)(f:List Zg)(c:Zg):Option ZP:=
 QqB (CT (g.1,(b+1),c,0,false,0,0,0,0,0,[],[])) (fun h=>if h then QqB (CP (d,e,f)) (fun a=>(Fq c b g) a.2.1 a.2.2.1 a.1 a.2.2.2)else(Fq c b g) d e (0:Int) f)
def G0(a:Zg×ZL)(c:Int)(d:Zg×ZL):Option ZP:=
 if(c+1)=1 then QqB (GV a.2) (fun b=>(Fs c d) b.2.1 b.2.2.1 b.2.2.2 b.1)else(Fs c d) a.2.1 a.2.2.1 a.2.2.2 ([]:Zg)
def Iq(a0:Zg):Option ZP:=
 QqB (strings_Split a0 ([32]:Zg)) (fun f=>QqB (Cf (f,false,([]:List Zg))) (fun c=>QqB (OO ([108,105,116,101,114,97,108,32,110,117,109,98,101,114,32,100,101,99,105,109,97,108,32,98,121,116,101,115,32,117,110,116,105,108,32,99,111,117,110,116,101,100,32,115,101,113,117,101,110,99,101,32,99,104,111,105,99,101,32,114,101,112,101,97,116,32,98,108,111,98]:Zg)) (fun d=>QqB (Cf c.2) (fun a=>QqB (CO d a.1) (fun b=>Bi (BX (b+1)) (if a.2.2.1 then none else QqB (Ej c.1) (fun e=>if !e then none else if(b+1)<1 then none else(G0 a b c))))))))
section
variable(w:World)(H:PH)(hH:Le H (hp w)) include hH
theorem Nv(hU:I3 H){a0:Zg}{r:ZP}(h:Iq a0=some r):
  Zy 14 [Zf a0] w (fun v w'=>∃u0 u1 u2 u3,v=.tuple #[.agg #[Zf r.1.1,No r.1.2.1,u0,No r.1.2.2.2.1,.bool r.1.2.2.2.2.1,No r.1.2.2.2.2.2.1,No r.1.2.2.2.2.2.2.1,No r.1.2.2.2.2.2.2.2.1,No r.1.2.2.2.2.2.2.2.2.1,No r.1.2.2.2.2.2.2.2.2.2.1,u1,u2],u3,.bool r.2.2]/\CE 5 .byte H w w' u0 (r.1.2.2.1)/\CE 9 .st H w w' u1 (r.1.2.2.2.2.2.2.2.2.2.2.1)/\CE 3 (.int .i64) H w w' u2 (r.1.2.2.2.2.2.2.2.2.2.2.2)/\CE 9 .st H w w' u3 (r.2.1)):=by
 refine AL 104 [(0,(Zf a0))] func14 Z fun hL=>Av<|AG Bp.e Z hL fun w1 p gr ks _=>A4 2 Z<|BN 1 Z<|Ax h fun x2 jz h=>Bh gr (Oj _ _ (Al gr) jz) ?_;rintro i1 w3 ⟨_,rfl,hx⟩ j0 j1 ku;have cz:=hx.Cu hH gr j0;refine Ah (Bk (fun _=>VI _ cz.one _))<|C1 (t:=90) Z Z j1 fun w4 y j2 i2 _=>A4 1 Z<|BN 1 Z ?_;obtain⟨iy,i3,gs⟩:=CH .st H 9 j2;have iz:AZ w [.box y [i1,.bool false,Zd] 90,.row Zd 9 1 (([]:List Zg)).length ([]),.box p [(Zf []),No 0,Zd,No 0,.bool false,No 0,No 0,No 0,No 0,No 0,Zd,Zd] 53] w4:=iy.Bo [1] Z;have gt:=AF [1] iy iz Z;refine Ax h fun m j3 h=>?_;have cz:=cz.mono (Ab (i2.trans (i3.trans gt)));have gs:=gs.mono (Ab gt)
 refine BR (C2 hH ([.box p [(Zf []),No 0,Zd,No 0,.bool false,No 0,No 0,No 0,No 0,No 0,Zd,Zd] 53]) ((x2,false,([]:List Zg))) iz cz gs j3) ?_;rintro _ w8 ⟨i4,gu,y8_3,rfl,j4,kw,d4,d5⟩;refine Ah (Bk (fun _=>VG _ Z _))<|AG Bp.e Z j4 fun w9 q j5 gv _=>Ar 0 Z j5 Z fun lj fj fn=>Am<|Av<|Ax h fun lk i5 h=>Bh fj (Oh _ _ (Al fj) (hU.mono  Ai) i5) ?_;rintro kf j6 ⟨_,rfl,gw⟩ i6 gx fo;have c8:=gw.Cu hH fj i6;refine Aw 1 Z ?_
 have gy:AZ w [.box y [i4,.bool m.2.2.1,gu] 90,.row gu 9 1 (m.2.2.2).length y8_3,.box q [Zf m.1,No 0,Zd,No 0,.bool false,No 0,No 0,No 0,No 0,No 0,Zd,Zd] 53,.box p [(Zf []),No 0,Zd,No 0,.bool false,No 0,No 0,No 0,No 0,No 0,Zd,Zd] 53] j6:=gx.Bo [2,2] Z;have d6:=AF [2,2] gx gy Z;refine Ax h fun a7 i7 h=>?_;have d4:=d4.mono (Ab (gv.trans (fn.trans (fo.trans d6))));have d5:=d5.mono (Ab (gv.trans (fn.trans (fo.trans d6))))
 refine BR (C2 hH ([.box q [Zf m.1,No 0,Zd,No 0,.bool false,No 0,No 0,No 0,No 0,No 0,Zd,Zd] 53,.box p [(Zf []),No 0,Zd,No 0,.bool false,No 0,No 0,No 0,No 0,No 0,Zd,Zd] 53]) m.2 gy d4 d5 i7) ?_;rintro _ ll ⟨c0,bz,y15_3,rfl,g0,hy,c9,da⟩;refine Ax h fun d i8 h=>?_;have c8:=c8.mono (Ab (d6.trans hy));refine A9 g0 (Gq _ _ (Al g0) c8 i8) fun lm kx i9 fp=>A8 h fun ja h=>Ah (AH ja)<|Ah (Af Z Zs Z B6.e)<|Bc 2 Z Z Z i9 Z Z fun ln d7 fq=>Am ?_
 refine Bs Unit (fun(_:Unit)=>[(2,(Ze p)),(5,(Ze y)),(6,(Ze q))]) (fun(_:Unit) wr=>DK w [.box y [c0,.bool a7.2.2.1,bz] 90,.row bz 9 1 (a7.2.2.2).length y15_3,.box q [Zf m.1,No (d+1),Zd,No 0,.bool false,No 0,No 0,No 0,No 0,No 0,Zd,Zd] 53,.box p [(Zf []),No 0,Zd,No 0,.bool false,No 0,No 0,No 0,No 0,No 0,Zd,Zd] 53] wr fun Oz=>AD .st (gz H w wr Oz) c0 (a7.2.1)/\A6 .st (gz H w wr Oz) (a7.2.2.2) y15_3/\(G0 a7 d m)=some r) ?_ ?_
 ·refine BN 1 Z<|Ah (AW Z)<|Ah (Af Z Zz Z Fa.e)<|Ah (Ag 0 Z d7 Z)<|Aw 1 Z<|Bj 24 h ?_ ?_<;>intro a8 h
  ·iterate 4 refine Ac a8 ?_
   refine Ah (Aj a8 Z)<|Aw 1 Z ?_
   iterate 3 refine Ac Z ?_
   refine Ah (Aj Z Z)<|Am<|Fb ?_
   cases h
  refine Aa a8<|Ah (Af Z Zs Z KN.e)<|Aa a8<|Ah (Ag 2 Z d7 Z)<|Aa a8<|Ax h fun lo jb h=>A9 d7 (FQ _ _ (Al d7) jb) fun lp ky g1 fr=>Aa a8<|Ah (Ad Z)<|Ah (An a8 Z)<|Aw 1 Z<|Bj 30 h ?_ ?_<;>intro bm h
  ·iterate 3 refine Ac bm ?_
   refine Ah (Aj bm Z)<|Am<|Fb ?_
   cases h
  refine Aa bm<|Ah (Af Z Zs Z B6.e)<|Aa bm<|Ah (Ag 2 Z g1 Z)<|Aa bm<|Ah (Ad Z)<|Ah (An bm Z)<|Am<|AY h ?_ ?_<;>intro jc h
  ·cases h
  refine A5 ?_;have c9:=c9.mono (Ab (fp.trans (fq.trans fr)));have da:=da.mono (Ab (fp.trans (fq.trans fr)));refine A7 () ⟨g1,c9,da,h⟩
 rintro _ jd ⟨fk,b0,he32_r15_3,h⟩;refine Bs ((List Zg)×Bool×(List Zg)×Zg×Value×Value×QqK×Value×QqK) (fun⟨d2,cx,b2,c,bn,aw,ax,a,b⟩=>[(2,(Ze p)),(5,(Ze y)),(6,(Ze q))]) (fun⟨d2,cx,b2,c,bn,aw,ax,a,b⟩ wr=>DK w [.row a 5 1 (c).length b,.row aw 9 1 (b2).length ax,.box y [bn,.bool cx,aw] 90,.box q [Zf m.1,No (d+1),a,No 0,.bool false,No 0,No 0,No 0,No 0,No 0,Zd,Zd] 53,.box p [(Zf []),No 0,Zd,No 0,.bool false,No 0,No 0,No 0,No 0,No 0,Zd,Zd] 53] wr fun Oz=>A6 .byte (gz H w wr Oz) c b/\A6 .st (gz H w wr Oz) b2 ax/\AD .st (gz H w wr Oz) bn d2/\(Fs d m) d2 cx b2 c=some r) ?_ ?_
 ·refine Av<|Ah (Af Z Zs Z B6.e)<|Ah (Ag 2 Z fk Z)<|A4 1 Z<|AY h ?_ ?_<;>intro je h
  ·refine A2<|Aw 1 Z<|Ax h fun db jf h=>BR (Mx (a0:=a7.2) (O:=[.box q [Zf m.1,No (d+1),Zd,No 0,.bool false,No 0,No 0,No 0,No 0,No 0,Zd,Zd] 53,.box p [(Zf []),No 0,Zd,No 0,.bool false,No 0,No 0,No 0,No 0,No 0,Zd,Zd] 53]) hH fk b0 he32_r15_3 jf) ?_;rintro d8 lq ⟨_,y64_0,fs,d9,y64_3,rfl,g2,kg,dc,dd,de⟩;refine Ah (Af Z Zs Z FJ.e)<|Bc 3 Z Z (row_one (g2.at (i:=0) Z)) g2 Z Z fun j7 g3 ea=>AQ ?_
   have g4:AZ w [.row d8 5 1 (db.1).length y64_0,.row d9 9 1 (db.2.2.2).length y64_3,.box y [fs,.bool db.2.2.1,d9] 90,.box q [Zf m.1,No (d+1),d8,No 0,.bool false,No 0,No 0,No 0,No 0,No 0,Zd,Zd] 53,.box p [(Zf []),No 0,Zd,No 0,.bool false,No 0,No 0,No 0,No 0,No 0,Zd,Zd] 53] j7:=g3.Bo [2,1] Z;have eb:=AF [2,1] g3 g4 Z;have dc:=dc.mono (Ab (ea.trans eb));have dd:=dd.mono (Ab (ea.trans eb));have de:=de.mono (Ab (ea.trans eb));refine A7 (db.2.1,db.2.2.1,db.2.2.2,db.1,fs,d9,y64_3,d8,y64_0) ⟨g4,dc,de,dd,h⟩
  refine A5 ?_;obtain⟨g5,ft,fl⟩:=CH .byte H 5 fk;have g6:AZ w [.row Zd 5 1 (([]:Zg)).length ([]),.row bz 9 1 (a7.2.2.2).length y15_3,.box y [c0,.bool a7.2.2.1,bz] 90,.box q [Zf m.1,No (d+1),Zd,No 0,.bool false,No 0,No 0,No 0,No 0,No 0,Zd,Zd] 53,.box p [(Zf []),No 0,Zd,No 0,.bool false,No 0,No 0,No 0,No 0,No 0,Zd,Zd] 53] jd:=g5.Bo [2,1] Z;have ec:=AF [2,1] g5 g6 Z;have b0:=b0.mono (Ab (ft.trans ec));have he32_r15_3:=he32_r15_3.mono (Ab (ft.trans ec));have fl:=fl.mono (Ab ec);refine A7 (a7.2.1,a7.2.2.1,a7.2.2.2,([]:Zg),c0,bz,y15_3,Zd,[]) ⟨g6,fl,he32_r15_3,b0,h⟩
 rintro⟨d2,cx,b2,c,bn,aw,ax,a,b⟩ kz ⟨ed,f,fu,fv,h⟩;refine Bs ((List Zg)×Bool×Int×(List Zg)×Value×Value×QqK) (fun⟨d3,df,l,cy,cd,bo,bg⟩=>[(2,(Ze p)),(5,(Ze y)),(6,(Ze q))]) (fun⟨d3,df,l,cy,cd,bo,bg⟩ wr=>DK w [.row bo 9 1 (cy).length bg,.row a 5 1 (c).length b,.box y [cd,.bool df,bo] 90,.box q [Zf m.1,No (d+1),a,No 0,.bool false,No 0,No 0,No l,No 0,No 0,Zd,Zd] 53,.box p [(Zf []),No 0,Zd,No 0,.bool false,No 0,No 0,No 0,No 0,No 0,Zd,Zd] 53] wr fun Oz=>A6 .st (gz H w wr Oz) cy bg/\A6 .byte (gz H w wr Oz) c b/\AD .st (gz H w wr Oz) cd d3/\(Fq c d m) d3 df l cy=some r) ?_ ?_
 ·have ag:=ed.rG H;refine Av<|Ah (Az 3 Z Bp.e ed Z)<|Ax h fun lr jg h=>A9 ed (Gu (a0:=(m.1,(d+1),c,0,false,0,0,0,0,0,[],[])) _ _ (Le.refl _) (ed.KM hH (i:=0) Z (f.mono ag)) (AD.nil _ _) (AD.nil _ _) jg) fun i0 k0 ee fw=>Am<|Bm h ?_ ?_<;>intro jh h
  ·refine A2<|Aw 1 Z ?_;have g7:AZ w [.box y [bn,.bool cx,aw] 90,.row aw 9 1 (b2).length ax,.row a 5 1 (c).length b,.box q [Zf m.1,No (d+1),a,No 0,.bool false,No 0,No 0,No 0,No 0,No 0,Zd,Zd] 53,.box p [(Zf []),No 0,Zd,No 0,.bool false,No 0,No 0,No 0,No 0,No 0,Zd,Zd] 53] i0:=ee.Bo [1,2] Z;have hz:=AF [1,2] ee g7 Z;refine Ax h fun dg ji h=>?_;have ag:=ag.trans (Ab (fw.trans hz))
   refine BR (E7 hH hU ([.row a 5 1 (c).length b,.box q [Zf m.1,No (d+1),a,No 0,.bool false,No 0,No 0,No 0,No 0,No 0,Zd,Zd] 53,.box p [(Zf []),No 0,Zd,No 0,.bool false,No 0,No 0,No 0,No 0,No 0,Zd,Zd] 53]) (d2,cx,b2) g7 (fv.mono ag) (fu.mono ag) ji) ?_;rintro _ ls ⟨fx,ef,y96_3,rfl,jj,h0,dh,di⟩;refine Ah (Af Z Zs Z B6.e)<|Bc 3 Z Z Z jj Z Z fun j8 g8 eg=>AQ ?_
   have g9:AZ w [.row ef 9 1 (dg.2.2.2).length y96_3,.row a 5 1 (c).length b,.box y [fx,.bool dg.2.2.1,ef] 90,.box q [Zf m.1,No (d+1),a,No 0,.bool false,No 0,No 0,No dg.1,No 0,No 0,Zd,Zd] 53,.box p [(Zf []),No 0,Zd,No 0,.bool false,No 0,No 0,No 0,No 0,No 0,Zd,Zd] 53] j8:=g8.Bo [2,2] Z;have eh:=AF [2,2] g8 g9 Z;have ag:=ag.trans (Ab (h0.trans (eg.trans eh)));have dh:=dh.mono (Ab (eg.trans eh));have di:=di.mono (Ab (eg.trans eh));refine A7 (dg.2.1,dg.2.2.1,dg.1,dg.2.2.2,fx,ef,y96_3) ⟨g9,di,(f.mono ag),dh,h⟩
  refine A5 ?_;have fy:AZ w [.row aw 9 1 (b2).length ax,.row a 5 1 (c).length b,.box y [bn,.bool cx,aw] 90,.box q [Zf m.1,No (d+1),a,No 0,.bool false,No 0,No 0,No 0,No 0,No 0,Zd,Zd] 53,.box p [(Zf []),No 0,Zd,No 0,.bool false,No 0,No 0,No 0,No 0,No 0,Zd,Zd] 53] i0:=ee.Bo [1] Z;have ha:=AF [1] ee fy Z;have ag:=ag.trans (Ab (fw.trans ha));refine A7 (d2,cx,0,b2,bn,aw,ax) ⟨fy,(fu.mono ag),(f.mono ag),(fv.mono ag),h⟩
 rintro⟨d3,df,l,cy,cd,bo,bg⟩ k1 ⟨ei,fz,f,f0,h⟩;refine Bs ((List Zg)×Bool×Int×(List Zg)×Value×Value×QqK) (fun⟨ce,bp,e,a9,bh,ay,ap⟩=>[(2,(Ze p)),(5,(Ze y)),(6,(Ze q))]) (fun⟨ce,bp,e,a9,bh,ay,ap⟩ wr=>DK w [.row ay 9 1 (a9).length ap,.row a 5 1 (c).length b,.box y [bh,.bool bp,ay] 90,.box q [Zf m.1,No (d+1),a,No e,.bool false,No 0,No 0,No l,No 0,No 0,Zd,Zd] 53,.box p [(Zf []),No 0,Zd,No 0,.bool false,No 0,No 0,No 0,No 0,No 0,Zd,Zd] 53] wr fun Oz=>A6 .st (gz H w wr Oz) a9 ap/\A6 .byte (gz H w wr Oz) c b/\AD .st (gz H w wr Oz) bh ce/\(Fp l c d m) ce bp e a9=some r) ?_ ?_
 ·have aa:=ei.rG H;refine Av<|Ah (Az 3 Z Bp.e ei Z)<|Ax h fun k2 h1 h=>A9 ei (Gx (a0:=(m.1,(d+1),c,0,false,0,0,l,0,0,[],[])) _ _ (Le.refl _) (ei.KM hH (i:=1) Z (f.mono aa)) (AD.nil _ _) (AD.nil _ _) h1) fun jk kh ej ey=>Am<|Bm h ?_ ?_<;>intro h2 h
  ·refine A2<|Aw 1 Z ?_;have f1:AZ w [.box y [cd,.bool df,bo] 90,.row bo 9 1 (cy).length bg,.row a 5 1 (c).length b,.box q [Zf m.1,No (d+1),a,No 0,.bool false,No 0,No 0,No l,No 0,No 0,Zd,Zd] 53,.box p [(Zf []),No 0,Zd,No 0,.bool false,No 0,No 0,No 0,No 0,No 0,Zd,Zd] 53] jk:=ej.Bo [2] Z;have hb:=AF [2] ej f1 Z;refine Ax h fun bq h3 h=>?_;have aa:=aa.trans (Ab (ey.trans hb))
   refine BR (E7 hH hU ([.row a 5 1 (c).length b,.box q [Zf m.1,No (d+1),a,No 0,.bool false,No 0,No 0,No l,No 0,No 0,Zd,Zd] 53,.box p [(Zf []),No 0,Zd,No 0,.bool false,No 0,No 0,No 0,No 0,No 0,Zd,Zd] 53]) (d3,df,cy) f1 (f0.mono aa) (fz.mono aa) h3) ?_;rintro _ k3 ⟨ez,dj,y127_3,rfl,h4,hc,cf,cg⟩;refine Ah (Af Z Zs Z B6.e)<|Bc 3 Z Z Z h4 Z Z fun jl f2 dk=>AQ ?_
   have f3:AZ w [.row dj 9 1 (bq.2.2.2).length y127_3,.row a 5 1 (c).length b,.box y [ez,.bool bq.2.2.1,dj] 90,.box q [Zf m.1,No (d+1),a,No bq.1,.bool false,No 0,No 0,No l,No 0,No 0,Zd,Zd] 53,.box p [(Zf []),No 0,Zd,No 0,.bool false,No 0,No 0,No 0,No 0,No 0,Zd,Zd] 53] jl:=f2.Bo [2,2] Z;have dl:=AF [2,2] f2 f3 Z;have aa:=aa.trans (Ab (hc.trans (dk.trans dl)));have cf:=cf.mono (Ab (dk.trans dl));have cg:=cg.mono (Ab (dk.trans dl));refine A7 (bq.2.1,bq.2.2.1,bq.1,bq.2.2.2,ez,dj,y127_3) ⟨f3,cg,(f.mono aa),cf,h⟩
  refine A5 ?_;have aa:=aa.trans (Ab ey);refine A7 (d3,df,0,cy,cd,bo,bg) ⟨ej,(fz.mono aa),(f.mono aa),(f0.mono aa),h⟩
 rintro⟨ce,bp,e,a9,bh,ay,ap⟩ h5 ⟨b3,e0,f,e1,h⟩;refine Bs ((List Zg)×Bool×Bool×Int×(List Zg)×Value×Value×QqK) (fun⟨ch,br,j,k,ba,bi,az,aq⟩=>[(2,(Ze p)),(5,(Ze y)),(6,(Ze q))]) (fun⟨ch,br,j,k,ba,bi,az,aq⟩ wr=>DK w [.row az 9 1 (ba).length aq,.row a 5 1 (c).length b,.box y [bi,.bool br,az] 90,.box q [Zf m.1,No (d+1),a,No e,.bool j,No k,No 0,No l,No 0,No 0,Zd,Zd] 53,.box p [(Zf []),No 0,Zd,No 0,.bool false,No 0,No 0,No 0,No 0,No 0,Zd,Zd] 53] wr fun Oz=>A6 .st (gz H w wr Oz) ba aq/\A6 .byte (gz H w wr Oz) c b/\AD .st (gz H w wr Oz) bi ch/\(Fo e l c d m) ch br j k ba=some r) ?_ ?_
 ·have ah:=b3.rG H;refine Av<|Ah (Af Z Zs Z B6.e)<|Ah (Ag 3 Z b3 Z)<|A4 1 Z<|AY h ?_ ?_<;>intro h6 h
  ·refine A2<|Aw 1 Z ?_;have f4:AZ w [.box y [bh,.bool bp,ay] 90,.row ay 9 1 (a9).length ap,.row a 5 1 (c).length b,.box q [Zf m.1,No (d+1),a,No e,.bool false,No 0,No 0,No l,No 0,No 0,Zd,Zd] 53,.box p [(Zf []),No 0,Zd,No 0,.bool false,No 0,No 0,No 0,No 0,No 0,Zd,Zd] 53] h5:=b3.Bo [2] Z;have hd:=AF [2] b3 f4 Z;refine Ax h fun fm h7 h=>?_;have ah:=ah.trans (Ab hd)
   refine BR (LJ (a0:=(ce,bp,a9)) (O:=[.row a 5 1 (c).length b,.box q [Zf m.1,No (d+1),a,No e,.bool false,No 0,No 0,No l,No 0,No 0,Zd,Zd] 53,.box p [(Zf []),No 0,Zd,No 0,.bool false,No 0,No 0,No 0,No 0,No 0,Zd,Zd] 53]) hH f4 (e1.mono ah) (e0.mono ah) h7) ?_;rintro _ k4 ⟨j9,ka,y157_3,rfl,h8,he,gl,gm⟩;refine Aw 1 Z<|Ax h fun bs h9 h=>BR (E7 hH hU ([.row a 5 1 (c).length b,.box q [Zf m.1,No (d+1),a,No e,.bool false,No 0,No 0,No l,No 0,No 0,Zd,Zd] 53,.box p [(Zf []),No 0,Zd,No 0,.bool false,No 0,No 0,No 0,No 0,No 0,Zd,Zd] 53]) fm.2 h8 gl gm h9) ?_
   rintro _ k5 ⟨e2,dm,y159_3,rfl,ia,hf,ci,cj⟩;refine Ah (Af Z Zs Z Fa.e)<|Bc 3 Z Z Z ia Z Z fun k6 ib dn=>Ah (Af Z Zs Z B6.e)<|Bc 3 Z Z Z ib Z Z fun jm f5 dp=>AQ ?_;have f6:AZ w [.row dm 9 1 (bs.2.2.2).length y159_3,.row a 5 1 (c).length b,.box y [e2,.bool bs.2.2.1,dm] 90,.box q [Zf m.1,No (d+1),a,No e,.bool fm.1,No bs.1,No 0,No l,No 0,No 0,Zd,Zd] 53,.box p [(Zf []),No 0,Zd,No 0,.bool false,No 0,No 0,No 0,No 0,No 0,Zd,Zd] 53] jm:=f5.Bo [2,2] Z;have dq:=AF [2,2] f5 f6 Z;have ah:=ah.trans (Ab (he.trans (hf.trans (dn.trans (dp.trans dq)))));have ci:=ci.mono (Ab (dn.trans (dp.trans dq)));have cj:=cj.mono (Ab (dn.trans (dp.trans dq)));refine A7 (bs.2.1,bs.2.2.1,fm.1,bs.1,bs.2.2.2,e2,dm,y159_3) ⟨f6,cj,(f.mono ah),ci,h⟩
  refine A5<|A7 (ce,bp,false,0,a9,bh,ay,ap) ⟨b3,(e0.mono ah),(f.mono ah),(e1.mono ah),h⟩
 rintro⟨ch,br,j,k,ba,bi,az,aq⟩ ki ⟨c1,e3,f,e4,h⟩;refine Bs ((List Zg)×Bool×Int×(List Zg)×Value×Value×QqK) (fun⟨ck,bt,o,bb,bj,a2,ar⟩=>[(2,(Ze p)),(5,(Ze y)),(6,(Ze q))]) (fun⟨ck,bt,o,bb,bj,a2,ar⟩ wr=>DK w [.row a2 9 1 (bb).length ar,.row a 5 1 (c).length b,.box y [bj,.bool bt,a2] 90,.box q [Zf m.1,No (d+1),a,No e,.bool j,No k,No o,No l,No 0,No 0,Zd,Zd] 53,.box p [(Zf []),No 0,Zd,No 0,.bool false,No 0,No 0,No 0,No 0,No 0,Zd,Zd] 53] wr fun Oz=>A6 .st (gz H w wr Oz) bb ar/\A6 .byte (gz H w wr Oz) c b/\AD .st (gz H w wr Oz) bj ck/\(Fm e j k l c d m) ck bt o bb=some r) ?_ ?_
 ·have ab:=c1.rG H;refine Av<|Ah (Az 3 Z Bp.e c1 Z)<|Ax h fun k7 ic h=>A9 c1 (DO (a0:=(m.1,(d+1),c,e,j,k,0,l,0,0,[],[])) _ _ (Le.refl _) (c1.KM hH (i:=1) Z (f.mono ab)) (AD.nil _ _) (AD.nil _ _) ic) fun jn kj ek e5=>Am<|Bm h ?_ ?_<;>intro ie h
  ·refine A2<|Aw 1 Z ?_;have f7:AZ w [.box y [bi,.bool br,az] 90,.row az 9 1 (ba).length aq,.row a 5 1 (c).length b,.box q [Zf m.1,No (d+1),a,No e,.bool j,No k,No 0,No l,No 0,No 0,Zd,Zd] 53,.box p [(Zf []),No 0,Zd,No 0,.bool false,No 0,No 0,No 0,No 0,No 0,Zd,Zd] 53] jn:=ek.Bo [2] Z;have hg:=AF [2] ek f7 Z;refine Ax h fun bu ig h=>?_;have ab:=ab.trans (Ab (e5.trans hg))
   refine BR (E7 hH hU ([.row a 5 1 (c).length b,.box q [Zf m.1,No (d+1),a,No e,.bool j,No k,No 0,No l,No 0,No 0,Zd,Zd] 53,.box p [(Zf []),No 0,Zd,No 0,.bool false,No 0,No 0,No 0,No 0,No 0,Zd,Zd] 53]) (ch,br,ba) f7 (e4.mono ab) (e3.mono ab) ig) ?_;rintro _ k8 ⟨e6,dr,y190_3,rfl,ih,hh,cl,cm⟩;refine Ah (Af Z Zs Z B6.e)<|Bc 3 Z Z Z ih Z Z fun jo f8 ds=>AQ ?_
   have f9:AZ w [.row dr 9 1 (bu.2.2.2).length y190_3,.row a 5 1 (c).length b,.box y [e6,.bool bu.2.2.1,dr] 90,.box q [Zf m.1,No (d+1),a,No e,.bool j,No k,No bu.1,No l,No 0,No 0,Zd,Zd] 53,.box p [(Zf []),No 0,Zd,No 0,.bool false,No 0,No 0,No 0,No 0,No 0,Zd,Zd] 53] jo:=f8.Bo [2,2] Z;have dt:=AF [2,2] f8 f9 Z;have ab:=ab.trans (Ab (hh.trans (ds.trans dt)));have cl:=cl.mono (Ab (ds.trans dt));have cm:=cm.mono (Ab (ds.trans dt));refine A7 (bu.2.1,bu.2.2.1,bu.1,bu.2.2.2,e6,dr,y190_3) ⟨f9,cm,(f.mono ab),cl,h⟩
  refine A5 ?_;have ab:=ab.trans (Ab e5);refine A7 (ch,br,0,ba,bi,az,aq) ⟨ek,(e3.mono ab),(f.mono ab),(e4.mono ab),h⟩
 rintro⟨ck,bt,o,bb,bj,a2,ar⟩ kk ⟨c2,e7,f,e8,h⟩;refine Bs ((List Zg)×Bool×(List Zg)×Value×Value×QqK) (fun⟨cn,bv,bc,bk,a3,au⟩=>[(2,(Ze p)),(5,(Ze y)),(6,(Ze q))]) (fun⟨cn,bv,bc,bk,a3,au⟩ wr=>DK w [.row a3 9 1 (bc).length au,.row a 5 1 (c).length b,.box y [bk,.bool bv,a3] 90,.box q [Zf m.1,No (d+1),a,No e,.bool j,No k,No o,No l,No 0,No 0,Zd,Zd] 53,.box p [(Zf []),No 0,Zd,No 0,.bool false,No 0,No 0,No 0,No 0,No 0,Zd,Zd] 53] wr fun Oz=>A6 .st (gz H w wr Oz) bc au/\A6 .byte (gz H w wr Oz) c b/\AD .st (gz H w wr Oz) bk cn/\(Fl e j k o l c d m) cn bv bc=some r) ?_ ?_
 ·have ac:=c2.rG H;refine Av<|Ah (Az 3 Z Bp.e c2 Z)<|Ax h fun k9 ii h=>A9 c2 (BL (a0:=(m.1,(d+1),c,e,j,k,o,l,0,0,[],[])) _ _ (Le.refl _) (c2.KM hH (i:=1) Z (f.mono ac)) (AD.nil _ _) (AD.nil _ _) ii) fun jp kl el e9=>Am<|Bm h ?_ ?_<;>intro ij h
  ·refine A2<|Aw 2 Z ?_;have ga:AZ w [.box y [bj,.bool bt,a2] 90,.row a2 9 1 (bb).length ar,.row a 5 1 (c).length b,.box q [Zf m.1,No (d+1),a,No e,.bool j,No k,No o,No l,No 0,No 0,Zd,Zd] 53,.box p [(Zf []),No 0,Zd,No 0,.bool false,No 0,No 0,No 0,No 0,No 0,Zd,Zd] 53] jp:=el.Bo [2] Z;have hi:=AF [2] el ga Z;refine Ax h fun hj ik h=>?_;have ac:=ac.trans (Ab (e9.trans hi))
   refine BR (C2 hH ([.row a 5 1 (c).length b,.box q [Zf m.1,No (d+1),a,No e,.bool j,No k,No o,No l,No 0,No 0,Zd,Zd] 53,.box p [(Zf []),No 0,Zd,No 0,.bool false,No 0,No 0,No 0,No 0,No 0,Zd,Zd] 53]) (ck,bt,bb) ga (e8.mono ac) (e7.mono ac) ik) ?_;rintro _ la ⟨kb,kc,y220_3,rfl,il,hk,gn,go⟩;refine Ax h fun du im h=>BR (F3 hH ([.row a 5 1 (c).length b,.box q [Zf m.1,No (d+1),a,No e,.bool j,No k,No o,No l,No 0,No 0,Zd,Zd] 53,.box p [(Zf []),No 0,Zd,No 0,.bool false,No 0,No 0,No 0,No 0,No 0,Zd,Zd] 53]) hj.2 hj.1 il gn go im) ?_
   rintro _ jq ⟨fa,dv,y222_2,rfl,gb,hl,co,cp⟩;refine AQ ?_;have gc:AZ w [.row dv 9 1 (du.2.2).length y222_2,.row a 5 1 (c).length b,.box y [fa,.bool du.2.1,dv] 90,.box q [Zf m.1,No (d+1),a,No e,.bool j,No k,No o,No l,No 0,No 0,Zd,Zd] 53,.box p [(Zf []),No 0,Zd,No 0,.bool false,No 0,No 0,No 0,No 0,No 0,Zd,Zd] 53] jq:=gb.Bo [2,2] Z;have dw:=AF [2,2] gb gc Z;have ac:=ac.trans (Ab (hk.trans (hl.trans dw)));have co:=co.mono (Ab dw);have cp:=cp.mono (Ab dw);refine A7 (du.1,du.2.1,du.2.2,fa,dv,y222_2) ⟨gc,cp,(f.mono ac),co,h⟩
  refine A5 ?_;have ac:=ac.trans (Ab e9);refine A7 (ck,bt,bb,bj,a2,ar) ⟨el,(e7.mono ac),(f.mono ac),(e8.mono ac),h⟩
 rintro⟨cn,bv,bc,bk,a3,au⟩ km ⟨c3,fb,f,fc,h⟩;refine Bs ((List Zg)×Bool×(List Zg)×Value×Value×QqK) (fun⟨cq,bw,bd,bl,a4,av⟩=>[(2,(Ze p)),(5,(Ze y)),(6,(Ze q))]) (fun⟨cq,bw,bd,bl,a4,av⟩ wr=>DK w [.row a4 9 1 (bd).length av,.row a 5 1 (c).length b,.box y [bl,.bool bw,a4] 90,.box q [Zf m.1,No (d+1),a,No e,.bool j,No k,No o,No l,No 0,No 0,Zd,Zd] 53,.box p [(Zf []),No 0,Zd,No 0,.bool false,No 0,No 0,No 0,No 0,No 0,Zd,Zd] 53] wr fun Oz=>A6 .st (gz H w wr Oz) bd av/\A6 .byte (gz H w wr Oz) c b/\AD .st (gz H w wr Oz) bl cq/\(Fk e j k o l c d m) cq bw bd=some r) ?_ ?_
 ·have ad:=c3.rG H;refine Av<|Ah (Az 3 Z Bp.e c3 Z)<|Ax h fun lb io h=>A9 c3 (B5 (a0:=(m.1,(d+1),c,e,j,k,o,l,0,0,[],[])) _ _ (Le.refl _) (c3.KM hH (i:=1) Z (f.mono ad)) (AD.nil _ _) (AD.nil _ _) io) fun jr kn em fd=>Am<|Bm h ?_ ?_<;>intro ip h
  ·refine A2<|Aw 2 Z ?_;have gd:AZ w [.box y [bk,.bool bv,a3] 90,.row a3 9 1 (bc).length au,.row a 5 1 (c).length b,.box q [Zf m.1,No (d+1),a,No e,.bool j,No k,No o,No l,No 0,No 0,Zd,Zd] 53,.box p [(Zf []),No 0,Zd,No 0,.bool false,No 0,No 0,No 0,No 0,No 0,Zd,Zd] 53] jr:=em.Bo [2] Z;have hm:=AF [2] em gd Z;refine Ax h fun hn iq h=>?_;have ad:=ad.trans (Ab (fd.trans hm))
   refine BR (C2 hH ([.row a 5 1 (c).length b,.box q [Zf m.1,No (d+1),a,No e,.bool j,No k,No o,No l,No 0,No 0,Zd,Zd] 53,.box p [(Zf []),No 0,Zd,No 0,.bool false,No 0,No 0,No 0,No 0,No 0,Zd,Zd] 53]) (cn,bv,bc) gd (fc.mono ad) (fb.mono ad) iq) ?_;rintro _ lc ⟨kd,ke,y251_3,rfl,ir,ho,gp,gq⟩;refine Ax h fun dx is h=>BR (F3 hH ([.row a 5 1 (c).length b,.box q [Zf m.1,No (d+1),a,No e,.bool j,No k,No o,No l,No 0,No 0,Zd,Zd] 53,.box p [(Zf []),No 0,Zd,No 0,.bool false,No 0,No 0,No 0,No 0,No 0,Zd,Zd] 53]) hn.2 hn.1 ir gp gq is) ?_
   rintro _ js ⟨fe,dy,y253_2,rfl,ge,hq,cr,cs⟩;refine AQ ?_;have gf:AZ w [.row dy 9 1 (dx.2.2).length y253_2,.row a 5 1 (c).length b,.box y [fe,.bool dx.2.1,dy] 90,.box q [Zf m.1,No (d+1),a,No e,.bool j,No k,No o,No l,No 0,No 0,Zd,Zd] 53,.box p [(Zf []),No 0,Zd,No 0,.bool false,No 0,No 0,No 0,No 0,No 0,Zd,Zd] 53] js:=ge.Bo [2,2] Z;have dz:=AF [2,2] ge gf Z;have ad:=ad.trans (Ab (ho.trans (hq.trans dz)));have cr:=cr.mono (Ab dz);have cs:=cs.mono (Ab dz);refine A7 (dx.1,dx.2.1,dx.2.2,fe,dy,y253_2) ⟨gf,cs,(f.mono ad),cr,h⟩
  refine A5 ?_;have ad:=ad.trans (Ab fd);refine A7 (cn,bv,bc,bk,a3,au) ⟨em,(fb.mono ad),(f.mono ad),(fc.mono ad),h⟩
 rintro⟨cq,bw,bd,bl,a4,av⟩ ko ⟨c4,ff,f,fg,h⟩;refine Bs ((List Zg)×Bool×(List Zg)×(List Zg)×Value×Value×QqK×Value×QqK) (fun⟨ct,bx,a5,a6,an,ai,al,aj,am⟩=>[(2,(Ze p)),(5,(Ze y)),(6,(Ze q))]) (fun⟨ct,bx,a5,a6,an,ai,al,aj,am⟩ wr=>DK w [.row aj 9 1 (a6).length am,.row ai 9 1 (a5).length al,.row a 5 1 (c).length b,.box y [an,.bool bx,ai] 90,.box q [Zf m.1,No (d+1),a,No e,.bool j,No k,No o,No l,No 0,No 0,aj,Zd] 53,.box p [(Zf []),No 0,Zd,No 0,.bool false,No 0,No 0,No 0,No 0,No 0,Zd,Zd] 53] wr fun Oz=>A6 .st (gz H w wr Oz) a6 am/\A6 .st (gz H w wr Oz) a5 al/\A6 .byte (gz H w wr Oz) c b/\AD .st (gz H w wr Oz) an ct/\(Fj e j k o l c d m) ct bx a5 a6=some r) ?_ ?_
 ·have ae:=c4.rG H;refine Av<|Ah (Az 3 Z Bp.e c4 Z)<|Ax h fun ld it h=>A9 c4 (AO _ _ (Le.refl _) ((m.1,(d+1),c,e,j,k,o,l,0,0,[],[])) (c4.KM hH (i:=1) Z (f.mono ae)) (AD.nil _ _) (AD.nil _ _) it) fun jt kp c5 fh=>Am<|Bm h ?_ ?_<;>intro iu h
  ·refine A2<|Aw 1 Z<|Ah (Af Z Zs Z B6.e)<|Ah (Ag 3 Z c5 Z)<|Aw 1 Z ?_;have gg:AZ w [.box y [bl,.bool bw,a4] 90,.row a4 9 1 (bd).length av,.row a 5 1 (c).length b,.box q [Zf m.1,No (d+1),a,No e,.bool j,No k,No o,No l,No 0,No 0,Zd,Zd] 53,.box p [(Zf []),No 0,Zd,No 0,.bool false,No 0,No 0,No 0,No 0,No 0,Zd,Zd] 53] jt:=c5.Bo [2] Z;have hr:=AF [2] c5 gg Z;refine Ax h fun ao iv h=>?_;have ae:=ae.trans (Ab (fh.trans hr))
   refine BR (LK (a0:=(cq,bw,bd)) (a1:=(decide ((d+1)=7))) (O:=[.row a 5 1 (c).length b,.box q [Zf m.1,No (d+1),a,No e,.bool j,No k,No o,No l,No 0,No 0,Zd,Zd] 53,.box p [(Zf []),No 0,Zd,No 0,.bool false,No 0,No 0,No 0,No 0,No 0,Zd,Zd] 53]) hH gg (fg.mono ae) (ff.mono ae) iv) ?_;rintro be le ⟨_,y283_0,d0,bf,y283_3,rfl,gh,hs,cu,cv,cw⟩;refine Ah (Af Z Zs Z C3.e)<|Bc 4 Z Z (row_one (gh.at (i:=0) Z)) gh Z Z fun ht gi b5=>AQ ?_
   have en:AZ w [.row bf 9 1 (ao.2.2.2).length y283_3,.row a 5 1 (c).length b,.row be 9 1 (ao.1).length y283_0,.box y [d0,.bool ao.2.2.1,bf] 90,.box q [Zf m.1,No (d+1),a,No e,.bool j,No k,No o,No l,No 0,No 0,be,Zd] 53,.box p [(Zf []),No 0,Zd,No 0,.bool false,No 0,No 0,No 0,No 0,No 0,Zd,Zd] 53] ht:=gi.Bo [3,3] Z;have b6:=AF [3,3] gi en Z;have gj:AZ w [.row be 9 1 (ao.1).length y283_0,.row bf 9 1 (ao.2.2.2).length y283_3,.row a 5 1 (c).length b,.box y [d0,.bool ao.2.2.1,bf] 90,.box q [Zf m.1,No (d+1),a,No e,.bool j,No k,No o,No l,No 0,No 0,be,Zd] 53,.box p [(Zf []),No 0,Zd,No 0,.bool false,No 0,No 0,No 0,No 0,No 0,Zd,Zd] 53] ht:=en.Bo [2] Z
   have b7:=AF [2] en gj Z;have ae:=ae.trans (Ab (hs.trans (b5.trans (b6.trans b7))));have cu:=cu.mono (Ab (b5.trans (b6.trans b7)));have cv:=cv.mono (Ab (b5.trans (b6.trans b7)));have cw:=cw.mono (Ab (b5.trans (b6.trans b7)));refine A7 (ao.2.1,ao.2.2.1,ao.2.2.2,ao.1,d0,bf,y283_3,be,y283_0) ⟨gj,cu,cw,(f.mono ae),cv,h⟩
  refine A5 ?_;obtain⟨iw,hu,ix⟩:=CH .st H 9 c5;have ae:=ae.trans (Ab (fh.trans hu));refine A7 (cq,bw,bd,([]:List Zg),bl,a4,av,Zd,[]) ⟨iw,ix,(ff.mono ae),(f.mono ae),(fg.mono ae),h⟩
 rintro⟨ct,bx,a5,a6,an,ai,al,aj,am⟩ kq ⟨eo,b8,ca,f,d1,h⟩;refine Bs (Zg×Int×Int×Bool×Int×Int×Int×Int×Int×Bool) (fun⟨ep,eq,er,es,et,eu,ev,ew,ex,cb⟩=>[(2,(Ze p)),(3,ai),(4,.bool cb)]) (fun⟨ep,eq,er,es,et,eu,ev,ew,ex,cb⟩ wr=>DK w [.row aj 9 1 (a6).length am,.row ai 9 1 (a5).length al,.row a 5 1 (c).length b,.box y [an,.bool bx,ai] 90,.box q [Zf m.1,No (d+1),a,No e,.bool j,No k,No o,No l,No 0,No 0,aj,Zd] 53,.box p [Zf ep,No eq,a,No er,.bool es,No et,No eu,No ev,No ew,No ex,aj,Zd] 53] wr fun Oz=>A6 .st (gz H w wr Oz) a6 am/\A6 .st (gz H w wr Oz) a5 al/\A6 .byte (gz H w wr Oz) c b/\AD .st (gz H w wr Oz) an ct/\(EK a5 a6 c) ep eq er es et eu ev ew ex cb=some r) ?_ ?_
 ·have af:=eo.rG H;refine Eg (FP ER) (fun z0 z=>Le (gz H w z0 [.row aj 9 1 (a6).length am,.row ai 9 1 (a5).length al,.row a 5 1 (c).length b,.box y [an,.bool bx,ai] 90,.box q [Zf m.1,No (d+1),a,No e,.bool j,No k,No o,No l,No 0,No 0,aj,Zd] 53,.box p [(Zf []),No 0,Zd,No 0,.bool false,No 0,No 0,No 0,No 0,No 0,Zd,Zd] 53]) (hp z)/\z.heap[y]? = some (.cells [an,.bool bx,ai].toArray 90 (0,0))/\z.heap[q]? = some (.cells [Zf m.1,No (d+1),a,No e,.bool j,No k,No o,No l,No 0,No 0,aj,Zd].toArray 53 (0,0))) mixed Z (fun g lg gk=>?_);have ak:=eo.call gk;have fi:=Ba eo gk;have x:=ak.rG H;refine Gt ⟨x.trans (Al ak),ak.at (i:=3) Z,ak.at (i:=4) Z⟩ fun kI320=>Aq 0 g kI320 Z (fun _ hI=>IV hI.2.2) Z<|Aq 1 g kI320 Z (fun _ _=>Ad Z) Z ?_
  refine Aq 2 g kI320 Z (fun _ _=>AW Z) Z<|Aq 3 g kI320 Z (fun _ _=>Af Z Zz Z C3.e) Z<|Aq 4 g kI320 Z (fun _ hI=>CN Z hI.2.1 Z) Z<|Aq 5 g kI320 Z (fun _ _=>Ad Z) Z<|Aq 6 g kI320 Z (fun _ _=>AW Z) Z<|Aq 7 g kI320 Z (fun _ _=>Af Z Zz Z Fa.e) Z<|Aq 8 g kI320 Z (fun _ hI=>CN Z hI.2.1 Z) Z<|Aq 9 g kI320 Z (fun _ _=>Ad Z) Z<|Aq 10 g kI320 Z (fun _ _=>Ad Z) Z<|Mh 96 Z (fun u=>?_) (fun u=>?_)
  ·have h:=Lo u h;refine E6 11 g kI320 Z Z Z Z u (fun _ _=>Ad Z) Z<|E6 12 g kI320 Z Z Z Z u (fun _ _=>AW Z) Z<|E6 13 g kI320 Z Z Z Z u (fun _ _=>Af Z Zz Z C3.e) Z<|E6 14 g kI320 Z Z Z Z u (fun _ hI=>CN Z hI.2.1 Z) Z ?_;have af:=af.trans (Ab fi);refine E6 15 g kI320 Z Z Z Z u (fun _ _=>AX ((d1.mono af).mono x)) Z<|E6 16 g kI320 Z Z Z Z u (fun _ _=>Ad Z) Z<|Aq 17 g kI320 Z (fun _ _=>Aj u Z) Z<|BP 18 Z<|Ar 5 Z ak Z (a:=(Be Z (Be Z (Be (row_one (ak.at (i:=2) Z)) (TL 7 Z (Be (row_one (ak.at (i:=0) Z)) (B7 Z))))))) ?_;intro lh c6 hv;have x:=x.trans (Ab hv);refine As ⟨x.trans (Al c6),c6.at (i:=3) Z,c6.at (i:=4) Z⟩ fun kI324=>Aq 19 g kI324 Z (fun _ _=>Ad Z) Z<|Aq 20 g kI324 Z (fun _ _=>Ad Z) Z<|Bz ?_
   refine A7 (m.1,(d+1),e,j,k,o,l,0,0,decide ((ct.length:Int)=0)) ⟨c6,((b8.mono af).mono x),((ca.mono af).mono x),((f.mono af).mono x),((d1.mono af).mono x),h⟩
  have h:=Lp u h;refine Jj 11 g kI320 Z Z Z Z u Z<|Jj 12 g kI320 Z Z Z Z u Z<|Jj 13 g kI320 Z Z Z Z u Z<|Jj 14 g kI320 Z Z Z Z u Z<|Jj 15 g kI320 Z Z Z Z u Z<|Jj 16 g kI320 Z Z Z Z u Z<|Aq 17 g kI320 Z (fun _ _=>An u Z) Z<|BP 18 Z<|Ar 5 Z ak Z (a:=(Be Z (Be Z (Be (row_one (ak.at (i:=2) Z)) (TL 7 Z (Be (row_one (ak.at (i:=0) Z)) (B7 Z))))))) ?_;intro li c7 hw;have x:=x.trans (Ab hw);refine As ⟨x.trans (Al c7),c7.at (i:=3) Z,c7.at (i:=4) Z⟩ fun kI327=>Aq 19 g kI327 Z (fun _ _=>Ad Z) Z<|Aq 20 g kI327 Z (fun _ _=>Ad Z) Z<|Bz ?_;have af:=af.trans (Ab fi);refine A7 (m.1,(d+1),e,j,k,o,l,0,0,false) ⟨c7,((b8.mono af).mono x),((ca.mono af).mono x),((f.mono af).mono x),((d1.mono af).mono x),h⟩
 rintro⟨ep,eq,er,es,et,eu,ev,ew,ex,cb⟩ kr ⟨cc,b8,ca,f,ju,h⟩;refine Ay ?_
 cases h
 refine NA (.cell Z Zs Z Bp.e (B0 (i:=5) cc Z)) (.tmp Z) (.tmp Z) ⟨cc.ext,_,_,_,_,Z,(cc.Hv hH (i:=2) Z f),(cc.Hv hH (i:=0) Z b8),CE.nil,(cc.Hv hH (i:=1) Z ca)⟩
end
end Go.Proofs.YtfgomcdgmihmpaaGreatDoor
end
noncomputable section
namespace Go.E
open Go Go.RowKit Go.L
section
variable {P:Program} (w:World)
theorem NH(t ty e:TypeId)(i:TypeInfo)(ht:P.underlying t=some (.slice e))(hi:P.info? e=some i)
  (g k sLen sCap:Nat) (cur:Array Value) (hg:w.heap[g]? = some (.cells cur e (0,0)))
  (a:Addr) (m c:Nat) (news:QqK) (hl:news.length=m * i.size) (hnews:∀j u,news[j]? = some u->w.cell? (a.add j)=some u) (b:∀u∈news,u.oneCell'=true)
  (hroom:sLen+m<=sCap) (hfit:(k+sLen) * i.size+news.length<=cur.size) :
  (Builtin.append_ #[t,t] ty #[.slice (some ⟨g,k * i.size,none⟩) sLen sCap,.slice (some a) m c]).run P w =
   .ok (.slice (some ⟨g,k * i.size,none⟩) (sLen+m) sCap) (w.setRow g (cur.toList.take ((k+sLen) * i.size)++news++cur.toList.drop ((k+sLen) * i.size+news.length)).toArray):=by
 have hf:=run_firstCells_some (P:=P) w i.size m a m c news hl hnews;have hst:=run_storeCells_at P g ((k+sLen) * i.size) e news 0 cur w hg (by simpa using hfit) b;simp only[Nat.add_zero]at hst
 have ea:(⟨g,k * i.size,none⟩:Addr).add (sLen * i.size)=⟨g,(k+sLen) * i.size,none⟩:=by
  rw[Addr.add_lit,Qzy]
 simp[Builtin.append_,run_underlying ht,sizeOf,typeInfo,hi,Builtin.lenOf,hroom,hf,ea,hst]
def QE(v q:Value)(sz k n:Nat):Prop:=
 (v=.slice none 0 0/\q=.slice none 0 0/\k=0/\n=0)\/∃g cap o,v=.slice (some ⟨g,0,none⟩) n cap/\k<=n/\(o=k\/k=cap)/\q=.slice (some ⟨g,o * sz,none⟩) (n - k) (cap - k)
theorem P4(base:Nat)(t ty e:TypeId)(i:TypeInfo)(z:Value)(size bytes:Nat)(ht:P.underlying t=some (.slice e))(hi:P.info? e=some i)(hz:i.zero=some z)
  (hsize:i.size=size) (hby:i.bytes=bytes) (hzs:z.cells.size=size) (hsz:0<size)
  (v q:Value) (n k:Nat) (xs:QqK) (hown:w.ownsRow base e size v n xs) (hw:QE v q size k n)
  (a:Addr) (m c:Nat) (news:QqK) (hl:news.length=m * size) (hnews:∀j u,news[j]? = some u->w.cell? (a.add j)=some u) (l:∀u∈news,u.oneCell'=true)
  (r:0<m) (f:n - k+m<=maxLen) (hbytes:(n - k+m) * bytes<=140737488355328) (hbase:base<=w.heap.size) :
  ∃q' v' k' n' xs' w',(Builtin.append_ #[t,t] ty #[q,.slice (some a) m c]).run P w=.ok q' w'/\w'.ownsRow base e size v' n' xs'/\QE v' q' size k' n'/\(k'=k/\n'=n+m/\xs'=xs++news\/k'=0/\n'=n - k+m/\xs'=xs.drop (k * size)++news)/\w.grownBy w' v.ownBlock/\(v'.ownBlock=v.ownBlock\/∀b,v'.ownBlock=some b->w.heap.size<=b):=by
 have hgen:=run_append_own (P:=P) w w.heap.size t ty e i z size bytes ht hi hz hsize hby hzs hsz;subst hsize;subst hby
 rcases hw with ⟨rfl,rfl,rfl,rfl⟩ | ⟨g,cap,o,rfl,hkn,hok,rfl⟩
 ·have hxs:xs=[]:=Qzf (by simpa using hown.1);subst hxs;obtain⟨v',w',r1,r2,r3,r4⟩:=hgen (.slice none 0 0) 0 [] (World.ownsRow_nil w _ e i.size) a m c news hl hnews l f hbytes (Qq0 _);refine⟨v',v',0,0+m,[]++news,w',r1,L4 r2 (fun b hb=>Nat.le_trans hbase (r2.lt b hb).1),?_,.inl ⟨Z,Z,Z⟩,r3,.inr fun b hb=>(r2.lt b hb).1⟩
  rcases r2.2 with ⟨d,p⟩ | ⟨g,cap,cur,d,_⟩
  ·exact .inl ⟨d,d,Z,p⟩
  ·refine .inr ⟨g,cap,0,d,Qq7 _,.inl Z,?_⟩;rw[d,Qz4]
   rfl
 ·rcases hown.2 with ⟨d,_⟩ | ⟨g',cap',cur,d,hbg,hg,hnc,hcm,hcs,htake⟩
  ·cases d
  obtain⟨rfl,rfl⟩:g'=g/\cap'=cap:=by
   simp only[Value.slice.injEq,Option.some.injEq,Addr.mk.injEq]at d;exact⟨d.1.1.symm,d.2.2.symm⟩
  by_cases hroom:n+m<=cap'
  ·have hkk:k+(n - k)=n:=by omega
   obtain rfl:o=k:=by omega
   have hfit:(o+(n - o)) * i.size+news.length<=cur.size:=by rw[hkk,hl,hcs,<- Qzy];exact Nat.mul_le_mul_right _ hroom
   have hr:=NH (P:=P) w t ty e i ht hi g' o (n - o) (cap' - o) cur hg a m c news hl hnews l U hfit;rw[hkk]at hr;have hlen:(xs++news).length=(n+m) * i.size:=by rw[Qq1,hown.1,hl,Qzy]
   refine⟨_,.slice (some ⟨g',0,none⟩) (n+m) cap',o,n+m,xs++news,_,hr,⟨hlen,.inr ⟨g',cap',_,Z,hbg,setRow_heap w g' cur _ e _ hg,hroom,hcm,?_,?_⟩⟩,.inr ⟨g',cap',_,Z,by omega,.inl Z,by rw[show n+m - o=n - o+m by omega]⟩,.inl ⟨Z,Z,Z⟩,⟨Z,Z,Z,by simp,fun j _ hk=>setRow_other w g' j _ (fun e=>hk (by simp[Value.ownBlock,e]))⟩,.inl Z⟩
   ·rw[hkk]at hfit;simp only[Qxy,Qq1,List.length_take,Qzv,Array.length_toList];omega
   ·rw[htake,<- hlen];exact List.take_left
  ·have hol:(xs.drop (k * i.size)).length=(n - k) * i.size:=by rw[Qzv,hown.1,Nat.sub_mul]
   have holds:∀j u,(xs.drop (k * i.size))[j]? = some u->w.cell? ((⟨g',o * i.size,none⟩:Addr).add j)=some u:=fun j u hj=>by
    have hj':j<(xs.drop (k * i.size)).length:=(List.getElem?_eq_some_iff.1 hj).1
    obtain rfl:o=k:=by
     rcases hok with e | e
     ·exact e
     ·rw[hol,show n - k=0 by omega,Qz4]at hj';omega
    have h2:=hown.cells (g:=g') Z (o * i.size+j) u (by rwa [List.getElem?_drop]at hj);rw[Addr.add_lit]at h2 ⊢
    rwa [Nat.zero_add]at h2
   have hr:=run_append_grow (P:=P) w t ty e i z ht hi hz ⟨g',o * i.size,none⟩ (n - k) (cap' - k) _ hol holds a m c news hl hnews U (by simp only[maxLen]at f;omega) (growslice_fits U hbytes);have hlen:(xs.drop (k * i.size)++news).length=(n - k+m) * i.size:=by rw[Qq1,hol,hl,Qzy]
   have hge:=grownCap_ge w (n - k+m) (cap' - k) e;have h:grownCap w (n - k+m) (cap' - k) e<=maxLen:=grownCap_le_maxLen w (n - k+m) (cap' - k) e U;refine⟨_,.slice (some ⟨w.heap.size,0,none⟩) (n - k+m) (grownCap w (n - k+m) (cap' - k) e),0,n - k+m,xs.drop (k * i.size)++news,_,hr,⟨hlen,.inr ⟨w.heap.size,_,_,Z,hbase,heap_alloc_new w.drew _,hge,h,?_,?_⟩⟩,.inr ⟨w.heap.size,_,0,Z,Qq7 _,.inl Z,by rw[Qz4];rfl⟩,.inr ⟨Z,Z,Z⟩,⟨Z,Z,Z,by simp,fun j hk _=>heap_alloc_old w.drew _ hk⟩,.inr fun b hb=>by cases hb;exact Qq0 _⟩
   ·simp only[Array.size_append,Qxy,size_zeroCells,hzs,hol,hl,<- Qzy]
    congr 1
    omega
   ·simp only[Array.toList_append,QzJ];rw[<- QzJ,<- hlen];exact List.take_left
theorem P5{α:Type}{r:Rp α}{G:PH}:∀(k:Nat) {l:List α}{xs:QqK},A6 r G l xs->A6 r G (l.drop k) (xs.drop (k * r.sz))
 | 0,_,_,h=>by simpa using h
 | k+1,_,_,.nil=>by simpa using A6.nil
 | k+1,_,_,.cons (c:=c) hc h=>by
  have a:(k+1) * r.sz=c.length+k * r.sz:=by rw[r.len hc,Qzy];omega
  rw[List.drop_succ_cons,a,List.drop_append,show QzB (c.length+k * r.sz) c=[]from Qxk U,List.nil_append,Nat.add_sub_cancel_left];exact P5 k h
end
section
variable [Dr] {P:Program}{n:Sz}{ops:Array Oper}{Q:Exit->Act->World->Prop}{L:Env}{w w0:World}{O:List BS}{rest:List Oper}{d:Nat}{ty:TypeId}{pos:String}{af:Array Edge}{α:Type}{r:Rp α}{x y:Operand}{v q u:Value}{t e:TypeId}{H:PH}
theorem Xg(i:Nat){bt k:Nat}{zz:Value}{l m:List α}{xs:QqK}(hx:ev L x=some q)(hy:ev L y=some u)(ht:P.underlying t=some (.slice e))(hz:Zr P e zz r.sz bt)(hzs:zz.cells.size=r.sz)(hsz:0<r.sz)(hn:QqE d n.n=true)
  (hH:Le H (hp w0)) (hL:AZ w0 O w) (hi:DW O i=some (.row v e r.sz l.length xs)) (he:A6 r (gz H w0 w O) l xs) (hw:QE v q r.sz k l.length) (hm:AD r (gz H w0 w O) u m) (z:0<m.length) (hby:Gg bt (l.length - k+m.length))
  (h:∀q' v' k' l' w' xs',(k'=k/\l'=l++m\/k'=0/\l'=l.drop k++m)->QE v' q' r.sz k' l'.length->AZ w0 (DX O i (.row v' e r.sz l'.length xs')) w'->Le (fz w O) (fz w' (DX O i (.row v' e r.sz l'.length xs')))->A6 r (gz H w0 w' (DX O i (.row v' e r.sz l'.length xs'))) l' xs'->S P n ops Q rest ((d,q')::L) w') :
  S P n ops Q (⟨some d,.call ⟨.builtin .append,#[x,y],#[t,t]⟩,ty,pos,af,none⟩::rest) L w:=by
 obtain⟨news,f,hs⟩:=hm.elems;obtain⟨hl,a,cap,rfl,aj,ak,g,o⟩:=hs.mono (Al hL);obtain⟨inf,i1,i2,i3,i4⟩:=hz.parts
 cases a with
 | none=>have:=g Z;omega
 | some A=>
  obtain⟨hspot,hcell⟩:=o A Z U;obtain⟨q',v',k',n',xs',w',hr,h1,h2,h3,p,s⟩:=P4 (P:=P) w 0 t ty e inf zz r.sz bt ht i1 i2 i3 i4 hzs hsz v q l.length k xs (hL.at hi) hw A m.length cap news hl (fun j c hc=>hcell j c hc) f.one z (by unfold maxLen;have:=hby.2;omega) hby.1 (Qq7 _)
  have key:∀l':List α,l'.length=n'->(k'=k/\l'=l++m\/k'=0/\l'=l.drop k++m)->A6 r (gz H w0 w O) l' xs'->S P n ops Q (⟨some d,.call ⟨.builtin .append,#[x,y],#[t,t]⟩,ty,pos,af,none⟩::rest) L w:=by
   intro l' e1 e2 e3;subst e1;have f1:=hL.Lb (r':=.row v' e r.sz l'.length xs') hi (NY _ _ _ _ hr) p h1 (fun b hb=>s.elim (fun e=>.inl (e.symm.trans hb)) (fun e=>.inr (e b hb)));have f2:=GA (r':=.row v' e r.sz l'.length xs') hL hi p (fun b hb=>s.elim (fun e=>.inl (e.symm.trans hb)) (fun e=>.inr (e b hb)));refine EO (v:=q') (w':=w') hn (fun ρ hρ=>?_) (h q' v' k' l' w' xs' e2 h2 f1 f2 (e3.mono (Ab f2)));simp[execOp,resolve,invoke,builtin,hρ x _ hx,hρ y _ hy,hr]
  rcases h3 with ⟨rfl,rfl,rfl⟩ | ⟨rfl,rfl,rfl⟩
  ·exact key (l++m) Z8 (.inl ⟨Z,Z⟩) (he.append f)
  ·exact key (l.drop k++m) Z8 (.inr ⟨Z,Z⟩) ((P5 k he).append f)
omit [Dr] in
theorem Qs:∀{O:List BS}{i:Nat}{r:BS},DW O i=some r->DX O i r=O
 | _::_,0,_,h=>by cases h;rfl
 | _::O,_+1,_,h=>congrArg (List.cons _) (Qs (O:=O) h)
omit [Dr] in
theorem OB(base:Nat)(t ty e:TypeId)(i:TypeInfo)(ht:P.underlying t=some (.slice e))(hi:P.info? e=some i)(v q:Value)(n k:Nat)(xs:QqK)(hown:w.ownsRow base e i.size v n xs)(hw:QE v q i.size k n)(a:Option Addr)(c:Nat):
  (Builtin.append_ #[t,t] ty #[q,.slice a 0 c]).run P w=.ok q w:=by
 have hf:(Builtin.firstCells i.size 0 (.slice a 0 c)).run P w=.ok #[] w:=by
  cases a with
  | none=>simp[Builtin.firstCells]
  | some A=>exact run_firstCells_some (P:=P) w i.size 0 A 0 c [] Z8 Z8
 rcases hw with ⟨_,rfl,_,_⟩ | ⟨g,cap,o,rfl,hk,_,rfl⟩
 ·simp[Builtin.append_,run_underlying ht,sizeOf,typeInfo,hi,Builtin.lenOf,hf]
 ·have hnc:n<=cap:=by
   rcases hown.2 with ⟨b,_⟩ | ⟨g',cap',cur,b,_,_,hnc,_⟩
   ·cases b
   ·cases b;exact hnc
  have b:n - k<=cap - k:=by omega
  simp[Builtin.append_,run_underlying ht,sizeOf,typeInfo,hi,Builtin.lenOf,hf,b,storeCells]
theorem Xh(i:Nat){bt k:Nat}{zz:Value}{l m yy:List α}{xs:QqK}[hx:ZZ (ev L x) (some q)][hy:ZZ (ev L y) (some u)](ht:P.underlying t=some (.slice e))[hz:Qqq P e zz r.sz bt][hzs:ZZ zz.cells.size r.sz](hsz:0<r.sz)[hn:ZZ (QqE d n.n) true]
  (hH:Le H (hp w0)) (hL:AZ w0 O w) (hi:DW O i=some (.row v e r.sz l.length xs)) (he:A6 r (gz H w0 w O) l xs) (hw:QE v q r.sz k l.length) (hyy:yy=l.drop k) (hm:AD r (gz H w0 w O) u m) (hby:Gg bt (yy.length+m.length))
  (h:∀q' v' k' l' w' xs',yy++m=QzB k' l'->QE v' q' r.sz k' l'.length->AZ w0 (DX O i (.row v' e r.sz l'.length xs')) w'->Le (fz w O) (fz w' (DX O i (.row v' e r.sz l'.length xs')))->A6 r (gz H w0 w' (DX O i (.row v' e r.sz l'.length xs'))) l' xs'->S P n ops Q rest ((d,q')::L) w') :
  S P n ops Q (⟨some d,.call ⟨.builtin .append,#[x,y],#[t,t]⟩,ty,pos,af,none⟩::rest) L w:=by
 subst hyy
 have hkl:k<=l.length:=by
  rcases hw with ⟨_,_,rfl,h4⟩ | ⟨_,_,_,_,hk,_⟩
  ·exact Qq7 _
  ·exact hk
 by_cases f:0<m.length
 ·refine Xg i hx.e hy.e ht hz.e hzs.e hsz hn.e hH hL hi he hw hm f (by rwa [Qzv]at hby) fun q' v' k' l' w' xs' hor=>h q' v' k' l' w' xs' ?_
  rcases hor with ⟨rfl,rfl⟩ | ⟨rfl,rfl⟩
  ·exact(List.drop_append_of_le_length hkl).symm
  ·rfl
 ·have b:m=[]:=Qzf U;subst b;obtain⟨news,j,hs⟩:=hm.elems;obtain⟨hl,a,cap,rfl,o,p,s,z⟩:=hs.mono (Al hL);obtain⟨inf,g,i2,c,i4⟩:=hz.e.parts;have hown:w.ownsRow 0 e r.sz v l.length xs:=hL.at hi;have hr:=OB (P:=P) (w:=w) 0 t ty e inf ht g v q l.length k xs (by rw[c];exact hown) (by rw[c];exact hw) a cap;have hset:DX O i (.row v e r.sz l.length xs)=O:=Qs hi;have h':=h q v k l w xs Z8 hw (by rw[hset];exact hL) (by rw[hset];exact Le.refl _) (by rw[hset];exact he);refine EO (v:=q) (w':=w) hn.e (fun ρ hρ=>?_) h';simp[execOp,resolve,invoke,builtin,hρ x _ hx.e,hρ y _ hy.e,hr]
theorem QE.vec{i k:Nat}{l yy:List α}{xs:QqK}(hL:AZ w0 O w)(hH:Le H (hp w0))(hi:DW O i=some (.row v e r.sz l.length xs))(he:A6 r (gz H w0 w O) l xs)(hw:QE v q r.sz k l.length)(hy:yy=l.drop k):AD r (hp w) q yy:=by
 subst hy;obtain⟨a,cap,b,h2,h3,n,d⟩:=(hL.KM hH hi he).ex
 rcases hw with ⟨_,rfl,rfl,f⟩ | ⟨g,cap',o,rfl,hk,hok,rfl⟩
 ·have:l=[]:=Qzf f;subst this;exact AD.nil _ _
 ·simp only[Value.slice.injEq,true_and]at b;obtain⟨rfl,rfl⟩:=b;refine⟨some ⟨g,o * r.sz,none⟩,cap' - k,by rw[Qzv],by rw[Qzv];omega,by omega,(fun h=>by cases h),fun A hA hl=>?_⟩
  cases hA
  have hlt:k<l.length:=by
   rcases Nat.lt_or_ge k l.length with h | h
   ·exact h
   ·exact absurd (Qxk h) hl
  obtain rfl:o=k:=by omega
  obtain⟨_,m⟩:=d _ Z (by intro h;subst h;simp at hlt);refine⟨Z,fun i x hx=>?_⟩;rw[List.getElem?_drop]at hx;obtain⟨c,hc,hcell⟩:=m _ x hx;refine⟨c,hc,fun j u hu=>?_⟩;have:=hcell j u hu;rw[Addr.add_lit]at this ⊢;rw[<- this]
  congr 2
  rw[Qzy];omega
omit [Dr] in
theorem QE.start{m:Nat}{sz:Nat}{xs:QqK}(h:w.ownsRow 0 e sz v m xs):QE v v sz 0 m:=by
 rcases h.2 with ⟨a,h2⟩ | ⟨g,cap,cur,a,_⟩
 ·exact .inl ⟨a,a,Z,h2⟩
 ·exact .inr ⟨g,cap,0,a,Qq7 _,.inl Z,by rw[a,Qz4];rfl⟩
theorem U6{sz bt m k c:Nat}{zz:Value}{xs:QqK}{kd:IntKind}(hx:ev L x=some q)(ha:ev L y=some (.int kd (c:Int)))(ht:P.underlying t=some (.slice e))(hz:Zr P e zz sz bt)(hw:QE v q sz k m)(hc:k+c<=m)(hown:w.ownsRow 0 e sz v m xs)(hn:QqE d n.n=true)
  (h:∀q',QE v q' sz (k+c) m->S P n ops Q rest ((d,q')::L) w):S P n ops Q (⟨some d,.slice t x (some y) none none,ty,pos,af,none⟩::rest) L w:=by
 obtain⟨inf,b,i,f,j⟩:=hz.parts
 rcases hw with ⟨rfl,rfl,rfl,rfl⟩ | ⟨g,cap,o,rfl,hk,hok,rfl⟩
 ·obtain rfl:c=0:=by omega
  refine Ah (v:=.slice none 0 0) (fun w' _ ρ hρ dst pos af gd=>?_) (hn:=⟨hn⟩) (h _ (.inl ⟨Z,Z,Z,Z⟩));simp[execOp,hρ x _ hx,hρ y _ ha,Instr.sliceAt,run_underlying ht,Instr.slice,Instr.sliceBounds,Instr.sliceBound,asIntOf,sizeOf,typeInfo,b]
 ·have hmc:m<=cap:=by
   rcases hown.2 with ⟨a,_⟩ | ⟨g',cap',cur,a,_,_,hnc,_⟩
   ·cases a
   ·cases a;exact hnc
  have a:c<=m - k:=by omega
  refine Ah (v:=.slice (if cap - k=c then some ⟨g,o * sz,none⟩else some ((⟨g,o * sz,none⟩:Addr).add (c * sz))) (m - k - c) (cap - k - c)) (fun w' _ ρ hρ dst pos af gd=>?_) (hn:=⟨hn⟩) (h _ (.inr ⟨g,cap,if cap - k=c then o else k+c,Z,hc,?_,?_⟩))
  ·simp[execOp,hρ x _ hx,hρ y _ ha,Instr.sliceAt,run_underlying ht,Instr.slice,Instr.sliceBounds,Instr.sliceBound,asIntOf,sizeOf,typeInfo,b,f,a]
  ·by_cases hcc:cap - k=c
   ·right;omega
   ·left;rw[if_neg hcc]
  ·by_cases hcc:cap - k=c
   ·rw[if_pos hcc,if_pos hcc,Nat.sub_sub,Nat.sub_sub]
   ·obtain rfl:o=k:=by omega
    rw[if_neg hcc,if_neg hcc,Nat.sub_sub,Nat.sub_sub,Addr.add_lit,Qzy]
theorem U7(i:Nat){sz bt k:Nat}{c:Int}{zz:Value}{l yy:List α}{xs:QqK}{kd:IntKind}[hx:ZZ (ev L x) (some q)][ha:ZZ (ev L y) (some (.int kd c))][ht:ZZ (P.underlying t) (some (.slice e))][hz:Qqq P e zz sz bt](hL:AZ w0 O w)[hi:ZZ (DW O i) (some (.row v e sz l.length xs))](hw:QE v q sz k l.length)(hyy:yy=l.drop k)(hc:0<=c/\c<=(yy.length:Int))[hn:ZZ (QqE d n.n) true]
  (h:∀q' k',QzB c.toNat yy=QzB k' l->QE v q' sz k' l.length->S P n ops Q rest ((d,q')::L) w):S P n ops Q (⟨some d,.slice t x (some y) none none,ty,pos,af,none⟩::rest) L w:=by
 have hi:=hi.e
 subst hyy;obtain⟨c,rfl⟩:=Int.eq_ofNat_of_zero_le hc.1
 have hkl:k<=l.length:=by
  rcases hw with ⟨_,_,rfl,b⟩ | ⟨_,_,_,_,hk,_⟩
  ·exact Qq7 _
  ·exact hk
 have h2:=hc.2;rw[Qzv]at h2;exact U6 hx.e ha.e ht.e hz.e hw U (hL.at hi) hn.e fun q' hq=>h q' (k+c) Z8 hq
end
section
variable {P:Program}{n:Sz}{L:Env}{w:World}{a:Act}
theorem T9{s t b:Nat}{u:Value}{dd:TypeDesc}(fr:Fr n a L)(h:gt L s=some (.pointer (some ⟨b,0,none⟩)))(ht:P.underlying t=some dd)(hd:OY dd=false)(hp':EG (hp w) ⟨b,0,none⟩ [u]):(Oa a.tmps (.cell s t)).run P w=.ok u w:=by
 have c:=fr.get _ _ h;have h2:=hp'.2 0 u Z;have h3:w.cell? ⟨b,0,none⟩=some u:=cell_of (Le.refl _) h2
 cases dd <;> simp only[OY,Bool.true_eq_false]at hd <;> simp[Oa,Array.getD_eq_getD_getElem?,c,asAddr,loadVar,isAgg,run_underlying ht,h3]
theorem TA{fn:Func}{s t b:Nat}{u v':Value}{q':ResultVar}{dd:TypeDesc}(hl:fn.results = #[.cell s t,q'])(h:gt L s=some (.pointer (some ⟨b,0,none⟩)))(ht:P.underlying t=some dd)(hd:OY dd=false)(hp':EG (hp w) ⟨b,0,none⟩ [u])(h':Ts P L w q' v')(fr:Fr n a L):(results fn a.tmps).run P w=.ok (.tuple #[u,v']) w:=by
 rw[K3,hl];simp[T9 fr h ht hd hp',h'.run fr]
end
end Go.E
end
noncomputable section
namespace Go.Proofs.YtfgomcdgmihmpaaGreatDoor
open Go Go.E Go.RowKit Go.L
set_option maxHeartbeats 1000000
set_option maxRecDepth 10000
open _root_.Go.Proofs.Tryz
def HB(_l65:List Bool):Option Bool:=
 some false
def GW(a0:(List ZJ))(a1:Int):QqX×(List Bool)->Option ((QqX×(List Bool))⊕(Bool)):=fun⟨a,b⟩=>
 if 0<(a.length:Int)then Bi (0<=(0:Int)/\(0:Int)<(a.length:Int)) (Bi (0<=(1:Int)/\(1:Int)<=(a.length:Int)) (if a.getD ((0:Int).toNat) Qqf=a1 then none else Bi (0<=a.getD ((0:Int).toNat) Qqf/\a.getD ((0:Int).toNat) Qqf<(b.length:Int)) (if !(b.getD ((a.getD ((0:Int).toNat) Qqf).toNat) Qqf)then Bi (0<=a.getD ((0:Int).toNat) Qqf/\a.getD ((0:Int).toNat) Qqf<(b.length:Int)) (Bi (0<=a.getD ((0:Int).toNat) Qqf/\a.getD ((0:Int).toNat) Qqf<(a0.length:Int)) (QqB (Dt (a0.getD ((a.getD ((0:Int).toNat) Qqf).toNat) Qqf)) (fun c=>Bi (Go.E.Gg 8 ((QzB (1:Int).toNat a).length+c.length)) (some (Sum.inl (((QzB (1:Int).toNat a)++c),(b.set ((a.getD ((0:Int).toNat) Qqf).toNat) true)))))))else some (Sum.inl ((QzB (1:Int).toNat a),b)))))else QqD Sum.inr (HB b)
def J2(a0:(List ZJ))(a1:Int)(s:QqX×(List Bool)):Option Bool:=Go.L.run (GW a0 a1) s
def JD(a0:(List ZJ))(a1:Int):Option Bool:=
 Bi (0<=(a0.length:Int)/\((1:Nat):Int) * (a0.length:Int)<=281474976710656/\(a0.length:Int)<=9223372036854775807) (Bi (0<=a1/\a1<(a0.length:Int)) (QqB (Dt (a0.getD a1.toNat Qqf)) (fun a=>QqB (C9 a) (fun b=>(J2 a0 a1) (b,(Qq3 (a0.length:Int).toNat (false:Bool)))))))
section
variable(w:World)(H:PH)(hH:Le H (hp w)) include hH
theorem Om{a0:(List ZJ)}{a1:Int}{q:Value}(ad:AD ZR H q a0){r:Bool}(h:JD a0 a1=some r):
  Zy 127 [.agg #[q],No a1] w (fun v w'=>v=.bool r):=by
 refine AL 46 [(0,.agg #[q]),(1,No a1)] func127 Z fun hL=>Av<|C1 (t:=25) Z Z hL fun w1 b1 bk cc _=>A4 1 Z<|Av<|Ah (Af Z Zv Z Hg.e)<|Ah (Ag 0 Z bk Z)<|Ah (AX ad)<|A8 h fun bz h=>S9 (r:=.bool) (z:=(false:Bool)) Zp (fun _=>Z) hH bk bz fun v2 w2 b0 aa cd an=>A4 1 Z<|Av<|Ah (Af Z Zv Z Hg.e)<|Ah (Ag 1 Z aa Z)<|Aw 1 Z<|A8 h fun bl h=>Bb ad a1.toNat (Dw bl) (AK bl) ?_;rintro p4 _ ⟨_,_,rfl,rfl,⟨_,_,rfl,rfl,⟨_,_,rfl,⟨e4v2,rfl,e4h2⟩,⟨_,_,rfl,rfl,⟨_,_,rfl,rfl,⟨_,_,rfl,rfl,⟨_,_,rfl,rfl,⟨_,_,rfl,rfl,⟨_,_,rfl,rfl,⟨_,_,rfl,rfl,⟨_,_,rfl,⟨e4v10,rfl,e4h10⟩,⟨e4v11,rfl,e4h11⟩⟩⟩⟩⟩⟩⟩⟩⟩⟩⟩⟩ b2;refine Ah (Cq b2 (hH.trans aa.arg))<|Ax h fun x6 b3 h=>Bh aa (Jq (a0:=(a0.getD a1.toNat Qqf)) _ _ (Al aa) (e4h2.mono  Ai) (e4h10.mono  Ai) (e4h11.mono  Ai) b3) ?_;rintro ce w7 ⟨_,rfl,ax⟩ b4 ao bo
 have ay:=ax.mono (B8 aa b4);refine Ax h fun x8 b6 h=>Bh ao (D7 _ _ (Al ao) ay b6) ?_;rintro ap w9 ⟨_,rfl,az⟩ b7 aq ar;obtain⟨b8,aq,ar,b9⟩:=az.take hH ao b7;refine A4 1 Z<|Bs ((List Bool)×QqK) (fun⟨ab,p⟩=>[]) (fun⟨ab,p⟩ wr=>DK w [.row v2 4 1 (ab).length p,.box b1 [q] 25] wr fun Oz=>A6 .bool (gz H w wr Oz) ab p/\HB ab=some r) ?_ ?_
 ·refine AA ?_;have bp:=QE.start (aq.at (i:=0) Z);obtain⟨af,h⟩:=Bf h;have an:=an.mono (Ab (bo.trans ar));refine BB (QqX×(List Bool)×QqX×Value×Value×Nat×QqK×QqK×Nat) (fun⟨a,g,Ll94,o,ql94,kl94,d,b,n⟩=>[(1,No a1),(2,(Ze b1)),(5,v2),(6,ql94)]) (fun⟨a,g,Ll94,o,ql94,kl94,d,b,n⟩ wr=>DK w [.row o 3 1 (Ll94).length d,.row v2 4 1 (g).length b,.box b1 [q] 25] wr fun Oz=>A6 (.int .i64) (gz H w wr Oz) Ll94 d/\QE o ql94 1 kl94 Ll94.length/\a=QzB kl94 Ll94/\A6 .bool (gz H w wr Oz) g b/\FX (GW a0 a1) n (a,g)=some r) (fun⟨a,g,Ll94,o,ql94,kl94,d,b,n⟩=>n) (x8,(Qq3 (a0.length:Int).toNat (false:Bool)),x8,ap,ap,0,b8,b0,af) Z ⟨aq,b9,bp,Z,an,h⟩ ?_;rintro⟨a,g,Ll94,o,ql94,kl94,d,b,nn97⟩ cf ⟨c,e,s,u,f,h⟩;obtain⟨af,co,rfl,h,ae⟩:=Bd h;refine AN<|BN 1 Z<|Ah (AX (QE.vec (i:=0) c hH Z e s u))<|A4 1 Z<|AY h ?_ ?_<;>intro bq h
  ·refine A5<|A3<|AA<|BN 1 Z<|A8 h fun ag h=>Bb (QE.vec (i:=0) c hH Z e s u) ((0:Int).toNat) (Dw ag) (AK ag) ?_;rintro cg _ rfl a2;refine Ah (AV a2 (Le.refl _))<|A4 1 Z<|BN 1 Z<|A8 h fun a3 h=>U7 (l:=Ll94) (yy:=a) 0 c s u a3 fun br bs ah ai=>A4 1 Z<|AN<|AI 3 Z<|AY h ?_ ?_<;>intro a4 h
   ·cases h
   refine A5<|A3<|BN 2 Z<|A8 h fun aj h=>Bb (c.KM hH (i:=1) Z f) ((a.getD ((0:Int).toNat) Qqf).toNat) (Dw aj) (AK aj) ?_;rintro ch _ rfl a5;refine Ah (AV a5 (Le.refl _))<|A4 1 Z<|Bm h ?_ ?_<;>intro a6 h
   ·refine BN 2 Z<|A8 h fun x h=>Hb 1 Z Zp Fa.e c Z ((a.getD ((0:Int).toNat) Qqf).toNat) (Dw x) (AK x) fun ci a7=>He 1 ((a.getD ((0:Int).toNat) Qqf).toNat) true Z Z hH c Z f a7 (AK x) Z fun cj a8 k au y=>Am<|A2<|Aw 1 Z<|Ah (Af Z Zv Z Hg.e)<|Ah (Ag 2 Z k Z)<|Aw 1 Z<|A8 h fun ak h=>Bb ad ((a.getD ((0:Int).toNat) Qqf).toNat) (Dw ak) (AK ak) ?_;rintro ck _ ⟨_,_,rfl,rfl,⟨_,_,rfl,rfl,⟨_,_,rfl,⟨e115v2,rfl,e115h2⟩,⟨_,_,rfl,rfl,⟨_,_,rfl,rfl,⟨_,_,rfl,rfl,⟨_,_,rfl,rfl,⟨_,_,rfl,rfl,⟨_,_,rfl,rfl,⟨_,_,rfl,rfl,⟨_,_,rfl,⟨e115v10,rfl,e115h10⟩,⟨e115v11,rfl,e115h11⟩⟩⟩⟩⟩⟩⟩⟩⟩⟩⟩⟩ a9;refine Ah (Cq a9 (hH.trans k.arg))<|Ax h fun av ba h=>Bh k (Jq (a0:=(a0.getD ((a.getD ((0:Int).toNat) Qqf).toNat) Qqf)) _ _ (Al k) (e115h2.mono  Ai) (e115h10.mono  Ai) (e115h11.mono  Ai) ba) ?_;rintro ca cl ⟨_,rfl,al⟩ bb bc ac;have am:=al.mono (B8 k bb)
    refine A8 h fun bd h=>?_;have e:=e.mono (Ab (au.trans ac));refine Xh (r:=(.int .i64)) (l:=Ll94) (m:=av) (yy:=(QzB (1:Int).toNat a)) 0 Zm Z7 hH bc Z e ai ah am bd fun bt bu bv bw cm be bf bg bh aw bi=>Aw 1 Z<|AQ<|AB ?_;have h:=Ct.again h ae;have y:=y.mono (Ab (ac.trans aw));refine AS (((QzB (1:Int).toNat a)++av),(g.set ((a.getD ((0:Int).toNat) Qqf).toNat) true),bw,bu,bt,bv,be,a8,af) ⟨bh,bi,bg,bf,y,h⟩
   refine A5<|AB ?_;have h:=Ct.again h ae;refine AS ((QzB (1:Int).toNat a),g,Ll94,o,br,bs,d,b,af) ⟨c,e,ai,ah,f,h⟩
  refine BA<|AP<|AJ ?_;have h:=Ct.out h ae;refine Bu ?_;have bj:=c.AM (i:=0) Z;have f:=f.mono (Ab (Ae (i:=0) Z));refine A7 (_,_) ⟨bj,f,h⟩
 rintro⟨ab,p⟩ cn ⟨bx,cb,h⟩;refine AI 1 Z<|Ay ?_
 cases h
 refine Ak Z ⟨bx.ext,Z⟩
def Ke:Option (QqJ):=
 some ((0,0))
def Gk(a0:(List ZJ))(b:(List (Nat->Bool))):Int->Option ((Int)⊕(QqJ)):=fun a=>
 if a<(a0.length:Int)then Bi (0<=a/\a<(a0.length:Int)) (QqB (Ii (a0.getD a.toNat Qqf) b) (fun c=>if c then none else Bi (BX (a+1)) (some (Sum.inl (a+1)))))else QqD Sum.inr Ke
def OC(a0:(List ZJ))(a:(List (Nat->Bool)))(s:Int):Option (QqJ):=Go.L.run (Gk a0 a) s
def G8(a0:(List ZJ)):Option (QqJ):=
 QqB (Ia a0) (fun a=>QqB (DN a false) (fun b=>if 0<=b then none else QqB (HZ a0) (fun c=>(OC a0 c) (0:Int))))
def HC(a0:(List ZJ)):Int->Option ((Int)⊕(QqJ)):=fun a=>
 if a<(a0.length:Int)then QqB (JD a0 a) (fun b=>if b then none else Bi (BX (a+1)) (some (Sum.inl (a+1))))else QqD Sum.inr ((G8 a0))
def Kf(a0:(List ZJ))(s:Int):Option (QqJ):=Go.L.run (HC a0) s
def Ir(a0:(List ZJ)):Option (QqJ):=
 (Kf a0) (0:Int)
def HD(a0:(List ZJ)):Int->Option ((Int)⊕(QqJ)):=fun a=>
 if a<(a0.length:Int)then Bi (0<=a/\a<(a0.length:Int)) (QqB (Im a0 (a0.getD a.toNat Qqf)) (fun b=>if b=0 then Bi (BX (a+1)) (some (Sum.inl (a+1)))else none))else QqD Sum.inr ((Ir a0))
def Kg(a0:(List ZJ))(s:Int):Option (QqJ):=Go.L.run (HD a0) s
def Is(a0:(List ZJ)):Option (QqJ):=
 (Kg a0) (0:Int)
def HE(a0:(List ZJ)):Int->Option ((Int)⊕(QqJ)):=fun a=>
 if a<(a0.length:Int)then Bi (0<=a/\a<(a0.length:Int)) (Bi (0<=a/\a<=(a0.length:Int)) (QqB (HA (a0.getD a.toNat Qqf) (a0.take a.toNat) (a0.length:Int)) (fun b=>if b=0 then Bi (BX (a+1)) (some (Sum.inl (a+1)))else none)))else QqD Sum.inr ((Is a0))
def Kh(a0:(List ZJ))(s:Int):Option (QqJ):=Go.L.run (HE a0) s
def Ku(a0:(List ZJ)):Option (QqJ):=
 if(a0.length:Int)=0 then none else(if 40<(a0.length:Int)then none else(Kh a0) (0:Int))
theorem OD{a0:(List ZJ)}{c:Value}(d:AD ZR H c a0){r:QqJ}(h:Ku a0=some r):
  Zy 95 [.agg #[c]] w (fun v w'=>v=.agg #[No r.1,No r.2]):=by
 refine AL 100 [(0,.agg #[c])] func95 Z fun hL=>Av<|C1 (t:=25) Z Z hL fun w1 l cg c5 _=>AG Bt.e Z cg fun w2 j au c6 _=>Am<|Av<|Ah (Af Z Zv Z Hg.e)<|Ah (Ag 1 Z au Z)<|Ah (AX d)<|A4 1 Z<|AN<|AA<|AI 3 Z<|AY h ?_ ?_<;>intro ch h
 ·cases h
 refine AI 3 Z<|AY h ?_ ?_<;>intro ci h
 ·cases h
 refine A5<|AB<|A3<|Bs Unit (fun(_:Unit)=>[(1,(Ze l)),(2,(Ze j))]) (fun(_:Unit) wr=>AZ w [.box j [No 0,No 0] 27,.box l [c] 25] wr/\(Is a0)=some r) ?_ ?_
 ·refine Av<|Ah (Af Z Zv Z Hg.e)<|Ah (Ag 1 Z au Z)<|Ah (AX d)<|A4 1 Z<|AA ?_;obtain⟨av,h⟩:=Bf h;refine BB (Int×Nat) (fun⟨g,n⟩=>[(1,(Ze l)),(2,(Ze j)),(3,No (a0.length:Int)),(27,c),(28,No (a0.length:Int)),(29,No g)]) (fun⟨g,n⟩ wr=>AZ w [.box j [No 0,No 0] 27,.box l [c] 25] wr/\FX (HE a0) n g=some r) (fun⟨g,n⟩=>n) (0,av) Z ⟨au,h⟩ ?_;rintro⟨g,nn74⟩ c7 ⟨ab,h⟩;obtain⟨av,dx,rfl,h,aw⟩:=Bd h;refine AI 1 Z<|AN<|AY h ?_ ?_<;>intro b3 h
  ·refine A5<|A3<|AN<|AA<|BN 1 Z<|A8 h fun ax h=>Bb d g.toNat (Dw ax) (AK ax) ?_;rintro dy _ ⟨_,_,rfl,rfl,⟨_,_,rfl,rfl,⟨_,_,rfl,⟨e78v2,rfl,e78h2⟩,⟨_,_,rfl,rfl,⟨_,_,rfl,rfl,⟨_,_,rfl,rfl,⟨_,_,rfl,rfl,⟨_,_,rfl,rfl,⟨_,_,rfl,rfl,⟨_,_,rfl,rfl,⟨_,_,rfl,⟨e78v10,rfl,e78h10⟩,⟨e78v11,rfl,e78h11⟩⟩⟩⟩⟩⟩⟩⟩⟩⟩⟩⟩ b4;refine Ah (Cq b4 (hH.trans ab.arg))<|AG Bp.e Z ab fun dz d0 b5 ct _=>Aw 1 Z<|Ar 0 Z b5 Z (a:=(Be Z (Be Z (Be e78h2.one (TL 7 Z (Be e78h10.one (Be e78h11.one Gr))))))) fun d1 b6 cu=>Am<|Dq (ZX 0 8 (.tail 8)) mixed V (fun cj b7=>?_);have k:=b6.call b7;refine B9 Z (Az 0 Z Bp.e k Z) Z<|B9 Z (Af Z Zv Z Hg.e) Z<|B9 Z (Ag 2 Z k Z) Z<|BW 1 Z<|A8 h fun b8 h=>Ub Z Z Zw d b8 Z fun d2 b9=>BW 1 Z<|Ax h fun d3 ca h=>?_
   have a5:=(fun(b0:World) (u:Ext cj b0)=>MJ b0 _ (Le.refl _) ((e78h2.mono (hH.trans k.arg)).mono u.le) ((e78h10.mono (hH.trans k.arg)).mono u.le) ((e78h11.mono (hH.trans k.arg)).mono u.le) ((b9.mono (hH.trans k.arg)).mono u.le) ca);refine HP Z Z Z a5<|BW 1 Z<|BM (fun d4 cb=>?_);have cc:=k.call cb;refine Am<|AI 2 Z<|DI h ?_ ?_<;>intro cd h
   ·cases h
   refine A5<|AB<|A3<|A2<|A8 h fun ce h=>Ah (AH ce)<|Aw 1 Z<|AQ ?_;have cf:=cc.AM (i:=0) Z;have h:=Ct.again h aw;refine AS (_,_) ⟨cf,h⟩
  refine BA<|AP<|AJ ?_;have h:=Ct.out h aw;refine Bu<|A7 () ⟨ab,h⟩
 rintro _ c8 ⟨ay,h⟩;refine Bs Unit (fun(_:Unit)=>[(1,(Ze l)),(2,(Ze j))]) (fun(_:Unit) wr=>AZ w [.box j [No 0,No 0] 27,.box l [c] 25] wr/\(Ir a0)=some r) ?_ ?_
 ·refine Av<|Ah (Af Z Zv Z Hg.e)<|Ah (Ag 1 Z ay Z)<|Ah (AX d)<|A4 1 Z<|AA ?_;obtain⟨ac,h⟩:=Bf h;refine BB (Int×Nat) (fun⟨a,n⟩=>[(1,(Ze l)),(2,(Ze j)),(48,c),(49,No (a0.length:Int)),(50,No a)]) (fun⟨a,n⟩ wr=>AZ w [.box j [No 0,No 0] 27,.box l [c] 25] wr/\FX (HD a0) n a=some r) (fun⟨a,n⟩=>n) (0,ac) Z ⟨ay,h⟩ ?_;rintro⟨a,nn144⟩ cv ⟨x,h⟩;obtain⟨ac,c9,rfl,h,af⟩:=Bd h;refine AI 1 Z<|AN<|AY h ?_ ?_<;>intro a6 h
  ·refine A5<|A3<|AN<|AA<|BN 1 Z<|A8 h fun ag h=>Bb d a.toNat (Dw ag) (AK ag) ?_;rintro da _ ⟨_,_,rfl,rfl,⟨_,_,rfl,rfl,⟨_,_,rfl,⟨e148v2,rfl,e148h2⟩,⟨_,_,rfl,rfl,⟨_,_,rfl,rfl,⟨_,_,rfl,rfl,⟨_,_,rfl,rfl,⟨_,_,rfl,rfl,⟨_,_,rfl,rfl,⟨_,_,rfl,rfl,⟨_,_,rfl,⟨e148v10,rfl,e148h10⟩,⟨e148v11,rfl,e148h11⟩⟩⟩⟩⟩⟩⟩⟩⟩⟩⟩⟩ a7;refine Ah (Cq a7 (hH.trans x.arg))<|AG Bp.e Z x fun db dc a8 ck _=>Aw 1 Z<|Ar 0 Z a8 Z (a:=(Be Z (Be Z (Be e148h2.one (TL 7 Z (Be e148h10.one (Be e148h11.one Gr))))))) fun dd m cl=>Am<|Av<|Ah (Az 2 Z HQ.e m Z)<|Ah (Az 0 Z Bp.e m Z)<|Ax h fun de a9 h=>A9 m (Nu (a0:=a0) (a1:=(a0.getD a.toNat Qqf)) _ _ (Al m) (d.mono  Ai) (e148h2.mono  Ai) (e148h10.mono  Ai) (e148h11.mono  Ai) a9) fun df cw ba cm=>A4 1 Z<|AI 2 Z<|DI h ?_ ?_<;>intro bc h
   ·cases h
   refine A5<|AB<|A3<|A2<|A8 h fun bd h=>Ah (AH bd)<|Aw 1 Z<|AQ ?_;have be:=ba.AM (i:=0) Z;have h:=Ct.again h af;refine AS (_,_) ⟨be,h⟩
  refine BA<|AP<|AJ ?_;have h:=Ct.out h af;refine Bu<|A7 () ⟨x,h⟩
 rintro _ cx ⟨ah,h⟩;refine Bs Unit (fun(_:Unit)=>[(1,(Ze l)),(2,(Ze j))]) (fun(_:Unit) wr=>AZ w [.box j [No 0,No 0] 27,.box l [c] 25] wr/\(G8 a0)=some r) ?_ ?_
 ·refine Av<|Ah (Af Z Zv Z Hg.e)<|Ah (Ag 1 Z ah Z)<|Ah (AX d)<|A4 1 Z<|AA ?_;obtain⟨ad,h⟩:=Bf h;refine BB (Int×Nat) (fun⟨e,n⟩=>[(1,(Ze l)),(2,(Ze j)),(66,No (a0.length:Int)),(67,No e)]) (fun⟨e,n⟩ wr=>AZ w [.box j [No 0,No 0] 27,.box l [c] 25] wr/\FX (HC a0) n e=some r) (fun⟨e,n⟩=>n) (0,ad) Z ⟨ah,h⟩ ?_;rintro⟨e,nn196⟩ cy ⟨o,h⟩;obtain⟨ad,dg,rfl,h,ai⟩:=Bd h;refine AI 1 Z<|AN<|AY h ?_ ?_<;>intro bf h
  ·refine A5<|A3<|AN<|AA<|AI 2 Z<|Av<|Ah (Az 1 Z HQ.e o Z)<|Aw 1 Z<|Ax h fun dh bg h=>A9 o (Om (a0:=a0) _ _ (Al o) (d.mono  Ai) bg) fun di cz bh cn=>Am<|Bm h ?_ ?_<;>intro bi h
   ·cases h
   refine A5<|AB<|A3<|A2<|A8 h fun bj h=>Ah (AH bj)<|Aw 1 Z<|AQ ?_;have h:=Ct.again h ai;refine AS (_,_) ⟨bh,h⟩
  refine BA<|AP<|AJ ?_;have h:=Ct.out h ai;refine Bu<|A7 () ⟨o,h⟩
 rintro _ c0 ⟨p,h⟩;refine AN<|Av<|Ah (Az 1 Z HQ.e p Z)<|Ax h fun dj bk h=>Bh p (Og (a0:=a0) _ _ (Al p) (d.mono  Ai) bk) ?_;rintro co dk ⟨_,rfl,ao⟩ bl aj cp;have ap:=ao.Cu hH p bl;refine Ax h fun dl bm h=>A9 aj (KO _ _ (Al aj) ap bm) fun dm c1 s cq=>A4 1 Z<|AI 2 Z<|AY h ?_ ?_<;>intro bn h
 ·cases h
 refine A5<|A3<|Av<|Ah (Az 1 Z HQ.e s Z)<|Ax h fun az bo h=>Bh s (Lv (a0:=a0) _ _ (Al s) (d.mono  Ai) bo) ?_;rintro aa dn ⟨_,rfl,aq⟩ bp ak cr;have ar:=aq.Cu hH s bp;refine A4 1 Z<|Bs Unit (fun(_:Unit)=>[(2,(Ze j))]) (fun(_:Unit) wr=>AZ w [.box j [No 0,No 0] 27,.box l [c] 25] wr/\Ke=some r) ?_ ?_
 ·refine Av<|Ah (Af Z Zv Z Hg.e)<|Ah (Ag 1 Z ak Z)<|Ah (AX d)<|A4 1 Z<|AA ?_;obtain⟨ae,h⟩:=Bf h;refine BB (Int×Nat) (fun⟨b,n⟩=>[(2,(Ze j)),(12,aa),(86,c),(87,No (a0.length:Int)),(88,No b)]) (fun⟨b,n⟩ wr=>DK w [.box j [No 0,No 0] 27,.box l [c] 25] wr fun Oz=>AD (.bb 256) (gz H w wr Oz) aa az/\FX (Gk a0 az) n b=some r) (fun⟨b,n⟩=>n) (0,ae) Z ⟨ak,ar,h⟩ ?_;rintro⟨b,nn264⟩ c2 ⟨y,f,h⟩;obtain⟨ae,dp,rfl,h,al⟩:=Bd h;refine AI 1 Z<|AN<|AY h ?_ ?_<;>intro bq h
  ·refine A5<|A3<|AN<|AA<|BN 1 Z<|A8 h fun am h=>Bb d b.toNat (Dw am) (AK am) ?_;rintro dq _ ⟨_,_,rfl,rfl,⟨_,_,rfl,rfl,⟨_,_,rfl,⟨e268v2,rfl,e268h2⟩,⟨_,_,rfl,rfl,⟨_,_,rfl,rfl,⟨_,_,rfl,rfl,⟨_,_,rfl,rfl,⟨_,_,rfl,rfl,⟨_,_,rfl,rfl,⟨_,_,rfl,rfl,⟨_,_,rfl,⟨e268v10,rfl,e268h10⟩,⟨e268v11,rfl,e268h11⟩⟩⟩⟩⟩⟩⟩⟩⟩⟩⟩⟩ br;refine Ah (Cq br (hH.trans y.arg))<|AG Bp.e Z y fun dr ds bs a2 _=>Aw 1 Z<|Ar 0 Z bs Z (a:=(Be Z (Be Z (Be e268h2.one (TL 7 Z (Be e268h10.one (Be e268h11.one Gr))))))) fun dt z a3=>Am<|Av<|Ah (Az 0 Z Bp.e z Z)<|Aw 1 Z<|Ax h fun du bt h=>?_;have f:=f.mono (Ab (a2.trans a3));refine A9 z (Nr (a0:=(a0.getD b.toNat Qqf)) _ _ (Al z) (e268h2.mono  Ai) (e268h10.mono  Ai) (e268h11.mono  Ai) f bt) fun dv c3 bu a4=>Am<|Bm h ?_ ?_<;>intro bv h
   ·cases h
   refine A5<|AB<|A3<|A2<|A8 h fun bw h=>Ah (AH bw)<|Aw 1 Z<|AQ ?_;have bx:=bu.AM (i:=0) Z;have h:=Ct.again h al;have f:=f.mono (Ab (a4.trans (Ae (i:=0) Z)));refine AS (_,_) ⟨bx,f,h⟩
  refine BA<|AP<|AJ ?_;have h:=Ct.out h al;refine Bu<|A7 () ⟨y,h⟩
 rintro _ c4 ⟨bz,h⟩;refine Av<|Ah (Bk (fun _=>CK _))<|Ar 0 Z bz Z fun dw an cs=>Am<|Ay ?_
 cases h
 refine Eo (.cell Z Zl Z Bt.e (B0 (i:=0) an Z)) ⟨an.ext,Z⟩
def It(a:Zg):Option (Zg×QqJ):=
 if 2000<(a.length:Int)then none else some (a,(0,0))
def HF(a0:(List ZJ)):Zg×Int->Option ((Zg×Int)⊕(Zg×QqJ)):=fun⟨b,a⟩=>
 if a<(a0.length:Int)then Bi (0<=a/\a<(a0.length:Int)) (QqB (KW a0 (a0.getD a.toNat Qqf)) (fun c=>Bi (b.length+c.length<=9223372036854775807) (Bi (BX (a+1)) (some (Sum.inl ((b++c),(a+1)))))))else QqD Sum.inr (It b)
def Ki(a0:(List ZJ))(s:Zg×Int):Option (Zg×QqJ):=Go.L.run (HF a0) s
def Kv(a0:(List ZJ)):Option (Zg×QqJ):=
 QqB (Ku a0) (fun a=>if a.1=0/\a.2=0 then(Ki a0) (([]:Zg),0)else none)
theorem OE(hU:I3 H){a0:(List ZJ)}{c:Value}(e:AD ZR H c a0){r:Zg×QqJ}(h:Kv a0=some r):
  Zy 51 [.agg #[c]] w (fun v w'=>v=.tuple #[Zf r.1,.agg #[No r.2.1,No r.2.2]]):=by
 refine AL 33 [(0,.agg #[c])] func51 Z fun hL=>Av<|C1 (t:=25) Z Z hL fun w1 u ah au _=>Aw 1 Z<|AG Bt.e Z ah fun w2 q j av _=>Am<|AN<|Av<|Ah (Az 1 Z HQ.e j Z)<|Ax h fun s ai h=>A9 j (OD (a0:=a0) _ _ (Al j) (e.mono  Ai) ai) fun w4 a4 aj aw=>AG Bt.e Z aj fun w5 b5 al ax _=>Ar 0 Z al Z fun w6 k ay=>Am<|Av<|Ah (Az 0 Z Bt.e k Z)<|Ah (Bk (fun _=>CK _))<|Ah (KS K7 (Nl _ _ _ _))<|Am<|DI h ?_ ?_<;>intro am h
 ·cases h
 refine A5<|A3<|AI 1 Z<|Bs Zg (fun d=>[(3,(Ze q)),(5,(Zf d))]) (fun d wr=>AZ w [.box b5 [No s.1,No s.2] 27,.box q [No 0,No 0] 27,.box u [c] 25] wr/\It d=some r) ?_ ?_
 ·refine Av<|Ah (Af Z Zv Z Hg.e)<|Ah (Ag 2 Z k Z)<|Ah (AX e)<|A4 1 Z<|AA ?_;obtain⟨l,h⟩:=Bf h;refine BB (Zg×Int×Nat) (fun⟨b,a,n⟩=>[(1,(Ze u)),(3,(Ze q)),(5,(Zf b)),(15,c),(16,No (a0.length:Int)),(17,No a)]) (fun⟨b,a,n⟩ wr=>AZ w [.box b5 [No s.1,No s.2] 27,.box q [No 0,No 0] 27,.box u [c] 25] wr/\FX (HF a0) n (b,a)=some r) (fun⟨b,a,n⟩=>n) (([]:Zg),0,l) Z ⟨k,h⟩ ?_;rintro⟨b,a,nn54⟩ az ⟨g,h⟩;obtain⟨l,a5,rfl,h,m⟩:=Bd h;refine AI 1 Z<|AN<|AY h ?_ ?_<;>intro x h
  ·refine A5<|A3<|AN<|AA<|Av<|A8 h fun o h=>Bb e a.toNat (Dw o) (AK o) ?_;rintro a6 _ ⟨_,_,rfl,rfl,⟨_,_,rfl,rfl,⟨_,_,rfl,⟨e58v2,rfl,e58h2⟩,⟨_,_,rfl,rfl,⟨_,_,rfl,rfl,⟨_,_,rfl,rfl,⟨_,_,rfl,rfl,⟨_,_,rfl,rfl,⟨_,_,rfl,rfl,⟨_,_,rfl,rfl,⟨_,_,rfl,⟨e58v10,rfl,e58h10⟩,⟨e58v11,rfl,e58h11⟩⟩⟩⟩⟩⟩⟩⟩⟩⟩⟩⟩ y;refine Ah (Cq y (hH.trans g.arg))<|AG Bp.e Z g fun a7 a8 z ao _=>Ar 0 Z z Z (a:=(Be Z (Be Z (Be e58h2.one (TL 7 Z (Be e58h10.one (Be e58h11.one Gr))))))) fun a9 f ap=>Am<|A2<|Aw 1 Z<|Ah (Az 3 Z HQ.e f Z)<|Ah (Az 0 Z Bp.e f Z)<|Ax h fun an aa h=>A9 f (P3 (a0:=a0) (a1:=(a0.getD a.toNat Qqf)) _ _ (Al f) (hU.mono  Ai) (e.mono  Ai) (e58h2.mono  Ai) (e58h10.mono  Ai) (e58h11.mono  Ai) aa) fun ba a2 ab aq=>A8 h fun ac h=>Ah (NC ac)<|Aw 1 Z<|AQ<|AB<|A3<|A2<|A8 h fun ad h=>?_
   refine Ah (AH ad)<|Aw 1 Z<|AQ ?_;have ae:=ab.AM (i:=0) Z;have h:=Ct.again h m;refine AS (_,_,_) ⟨ae,h⟩
  refine BA<|AP<|AJ ?_;have h:=Ct.out h m;refine Bu<|A7 _ ⟨g,h⟩
 rintro d a3 ⟨af,h⟩;refine AN<|BN 1 Z<|Ah (K4 Z)<|A4 1 Z<|AY h ?_ ?_<;>intro ag h
 ·cases h
 refine A5<|A3<|BN 1 Z<|Ah (Bk (fun _=>CK _))<|Aw 1 Z<|Ar 1 Z af Z fun bb p ar=>Am<|Ay ?_
 cases h
 refine FF (.tmp Z) (.cell Z Zl Z Bt.e (B0 (i:=1) p Z)) ⟨p.ext,Z⟩
def Dy(a0:(List ZJ)):Option (QqJ):=
 QqB (Kv a0) (fun a=>some (a.2))
theorem G1(hU:I3 H)(a0:(List ZJ)){a:Value}(e:AD ZR H a a0){r:QqJ}(h:Dy a0=some r):
  Zy 16 [.agg #[a]] w (fun v w'=>v=.agg #[No r.1,No r.2]):=by
 refine AL 11 [(0,.agg #[a])] func16 Z fun hL=>Av<|C1 (t:=25) Z Z hL fun x y f l _=>AG Bt.e Z f fun z b2 b m _=>Am<|Av<|Ah (Az 1 Z HQ.e b Z)<|Ax h fun x3 g h=>A9 b (OE (a0:=a0) _ _ (Al b) (hU.mono  Ai) (e.mono  Ai) g) fun w4 u j o=>Aw 3 Z<|AG Bt.e Z j fun w5 b5 k p _=>Aw 1 Z<|Ar 0 Z k Z fun w6 c q=>Am<|Av<|Ah (Az 0 Z Bt.e c Z)<|Ar 1 Z c Z fun w7 d s=>Am<|Ay ?_
 cases h
 refine Eo (.cell Z Zl Z Bt.e (B0 (i:=1) d Z)) ⟨d.ext,Z⟩
def I8(a0:(List ZJ))(a1:Int):Option (QqJ):=
 QqB (Dy a0) (fun a=>if a.1=0/\a.2=0 then Bi (BX ((a0.length:Int) - 1)) (QqB (GB a1 (0:Int) ((a0.length:Int) - 1)) (fun b=>if !b then none else some ((0,0))))else none)
theorem LY(hU:I3 H){a0:(List ZJ)}{a1:Int}{a:Value}(c:AD ZR H a a0){r:QqJ}(h:I8 a0 a1=some r):
  Zy 97 [.agg #[a],No a1] w (fun v w'=>v=.agg #[No r.1,No r.2]):=by
 refine AL 21 [(0,.agg #[a]),(1,No a1)] func97 Z fun hL=>Av<|C1 (t:=25) Z Z hL fun w1 b1 l x _=>AG Bt.e Z l fun w2 b2 d y _=>Am<|AN<|Av<|Ah (Az 1 Z HQ.e d Z)<|Ax h fun x3 m h=>A9 d (G1 _ _ (Al d) (hU.mono  Ai) a0 (c.mono  Ai) m) fun w4 ad o z=>AG Bt.e Z o fun w5 b5 p aa _=>Ar 0 Z p Z fun w6 b ab=>Am<|Av<|Ah (Az 0 Z Bt.e b Z)<|Ah (Bk (fun _=>CK _))<|Ah (KS K7 (Nl _ _ _ _))<|Am<|DI h ?_ ?_<;>intro q h
 ·cases h
 refine A5<|A3<|AN<|BN 1 Z<|Ah (Af Z Zv Z Hg.e)<|Ah (Ag 2 Z b Z)<|Ah (AX c)<|A8 h fun f h=>Ah (AH f)<|Ax h fun ae g h=>A9 b (Hx _ _ (Al b) g) fun af ac j s=>A4 1 Z<|Bm h ?_ ?_<;>intro k h
 ·cases h
 refine A5<|A3<|Av<|Ah (Bk (fun _=>CK _))<|Ar 1 Z j Z fun ag e u=>Am<|Ay ?_
 cases h
 refine Eo (.cell Z Zl Z Bt.e (B0 (i:=1) e Z)) ⟨e.ext,Z⟩
def Kj(a:QqX):Option (QqX×QqJ):=
 some (a,(0,0))
def Gl(a1:Int)(c:(List (Nat->Bool))):QqX×Int->Option ((QqX×Int)⊕(QqX×QqJ)):=fun⟨b,a⟩=>
 if a<256 then Bi (0<=a/\a<256) (if((c.getD a1.toNat Qqf) a.toNat)then Bi (Go.E.Gg 8 (b.length+([a]).length)) (Bi (BX (a+1)) (some (Sum.inl ((b++[a]),(a+1)))))else Bi (BX (a+1)) (some (Sum.inl (b,(a+1)))))else QqD Sum.inr (Kj b)
def LX(a1:Int)(a:(List (Nat->Bool)))(s:QqX×Int):Option (QqX×QqJ):=Go.L.run (Gl a1 a) s
def Kw(a0:(List ZJ))(a1:Int):Option (QqX×QqJ):=
 QqB (I8 a0 a1) (fun b=>if b.1=0/\b.2=0 then QqB (HZ a0) (fun a=>Bi (0<=a1/\a1<(a.length:Int)) ((LX a1 a) (([]:QqX),0)))else none)
theorem OF(hU:I3 H){a0:(List ZJ)}{a1:Int}{g:Value}(z:AD ZR H g a0){r:QqX×QqJ}(h:Kw a0 a1=some r):
  Zy 52 [.agg #[g],No a1] w (fun v w'=>∃u0,v=.tuple #[u0,.agg #[No r.2.1,No r.2.2]]/\CE 3 (.int .i64) H w w' u0 (r.1)):=by
 refine AL 34 [(0,.agg #[g]),(1,No a1)] func52 Z fun hL=>Av<|C1 (t:=25) Z Z hL fun w1 b1 a7 bh _=>Aw 1 Z<|AG Bt.e Z a7 fun w2 b2 aa bi _=>Am<|AN<|Av<|Ah (Az 1 Z HQ.e aa Z)<|Aw 1 Z<|Ax h fun x3 a8 h=>A9 aa (LY (a0:=a0) _ _ (Al aa) (hU.mono  Ai) (z.mono  Ai) a8) fun w4 bp a9 bj=>AG Bt.e Z a9 fun w5 b5 bb bk _=>Ar 0 Z bb Z fun w6 ak bl=>Am<|Av<|Ah (Az 0 Z Bt.e ak Z)<|Ah (Bk (fun _=>CK _))<|Ah (KS K7 (Nl _ _ _ _))<|Am<|DI h ?_ ?_<;>intro bc h
 ·cases h
 refine A5<|A3<|BN 1 Z ?_;obtain⟨j,be,q⟩:=CH (.int .i64) H 3 ak;refine Am<|Bs (QqX×Value×QqK) (fun⟨p,k,f⟩=>[(5,(Ze b2)),(7,k)]) (fun⟨p,k,f⟩ wr=>DK w [.row k 3 1 (p).length f,.box b5 [No x3.1,No x3.2] 27,.box b2 [No 0,No 0] 27,.box b1 [g] 25] wr fun Oz=>A6 (.int .i64) (gz H w wr Oz) p f/\Kj p=some r) ?_ ?_
 ·refine Av<|Ah (Az 3 Z HQ.e j Z)<|Ax h fun al am h=>Bh j (Lv (a0:=a0) _ _ (Al j) (z.mono  Ai) am) ?_;rintro bf bq ⟨_,rfl,ab⟩ an ac ah;have ad:=ab.Cu hH j an;refine Aw 1 Z<|A8 h fun ae h=>Bb ad a1.toNat (Dw ae) (AK ae) ?_;rintro br _ rfl ao;refine Ah (Cq (hz:=⟨(TM Gp.e)⟩) ao (Al ac))<|A4 1 Z<|AA ?_;obtain⟨y,h⟩:=Bf h;have q:=q.mono (Ab ah);refine BB (QqX×Int×Value×QqK×Nat) (fun⟨c,a,d,b,n⟩=>[(5,(Ze b2)),(7,d),(21,.agg (JP 256 (al.getD a1.toNat Qqf)).toArray),(22,No a)]) (fun⟨c,a,d,b,n⟩ wr=>DK w [.row d 3 1 (c).length b,.box b5 [No x3.1,No x3.2] 27,.box b2 [No 0,No 0] 27,.box b1 [g] 25] wr fun Oz=>A6 (.int .i64) (gz H w wr Oz) c b/\FX (Gl a1 al) n (c,a)=some r) (fun⟨c,a,d,b,n⟩=>n) (([]:QqX),0,Zd,[],y) Z ⟨ac,q,h⟩ ?_;rintro⟨c,a,d,b,nn66⟩ bm ⟨s,e,h⟩;obtain⟨y,bs,rfl,h,u⟩:=Bd h
  refine AI 1 Z<|AN<|AY h ?_ ?_<;>intro ap h
  ·refine A5<|A3<|AN<|AA<|BN 1 Z<|A8 h fun aq h=>Ah (Pz Z aq Z)<|A4 2 Z<|AI 1 Z<|Bm h ?_ ?_<;>intro ar h
   ·refine A2<|Aw 2 Z<|Br [a] (r:=(.int .i64)) (hr:=(fun _=>Hw _ _)) (Bw 1) s (.c1 Z .nil) fun bt bu bn au ai av=>A8 h fun aw h=>?_;have e:=e.mono (Ab ai);refine Ca (r:=(.int .i64)) 0 c [a] Z Zm au Z e av aw fun bd bv ax ay bg az=>Aw 1 Z<|AQ<|AB<|A3<|A2<|A8 h fun a2 h=>Ah (AH a2)<|Aw 1 Z<|AQ ?_;have h:=Ct.again h u;refine AS (_,_,_,_,_) ⟨ay,az,h⟩
   refine A5<|AB<|A3<|A2<|A8 h fun a3 h=>Ah (AH a3)<|Aw 1 Z<|AQ ?_;have h:=Ct.again h u;refine AS (_,_,_,_,_) ⟨s,e,h⟩
  refine BA<|AP<|AJ ?_;have h:=Ct.out h u;refine Bu<|A7 (_,_,_) ⟨s,e,h⟩
 rintro⟨p,k,f⟩ bo ⟨a4,o,h⟩;refine BN 1 Z<|Ah (Bk (fun _=>CK _))<|Aw 1 Z<|Ar 2 Z a4 Z fun bw x aj=>Am<|Ay ?_
 cases h
 refine FF (.tmp Z) (.cell Z Zl Z Bt.e (B0 (i:=2) x Z)) ?_;have o:=o.mono (Ab aj);exact⟨x.ext,_,Z,(x.Hv hH (i:=0) Z o)⟩
end
def FM(a1:Nat)(a:List ZJ)(b:QqX):Option (Bool×(List ZJ)):=
 Bi (a1<a.length) (some (true,(a.set a1 ((a.getD a1 Qqf).1,(a.getD a1 Qqf).2.1,(a.getD a1 Qqf).2.2.1,(a.getD a1 Qqf).2.2.2.1,(a.getD a1 Qqf).2.2.2.2.1,(a.getD a1 Qqf).2.2.2.2.2.1,(a.getD a1 Qqf).2.2.2.2.2.2.1,(a.getD a1 Qqf).2.2.2.2.2.2.2.1,(a.getD a1 Qqf).2.2.2.2.2.2.2.2.1,(a.getD a1 Qqf).2.2.2.2.2.2.2.2.2.1,(a.getD a1 Qqf).2.2.2.2.2.2.2.2.2.2.1,b))))
def FN(a1:Nat)(a:List ZJ)(b:QqX):Option (Bool×(List ZJ)):=
 Bi (a1<a.length) (QqB (BE (a.getD a1 Qqf)) (fun c=>if c then Bi (0<=(0:Int)/\(0:Int)<(b.length:Int)) (Bi (a1<a.length) (Bi (0<=(1:Int)/\(1:Int)<=(b.length:Int)) ((FM a1) (a.set a1 ((a.getD a1 Qqf).1,(a.getD a1 Qqf).2.1,(a.getD a1 Qqf).2.2.1,(a.getD a1 Qqf).2.2.2.1,(a.getD a1 Qqf).2.2.2.2.1,(a.getD a1 Qqf).2.2.2.2.2.1,(a.getD a1 Qqf).2.2.2.2.2.2.1,(a.getD a1 Qqf).2.2.2.2.2.2.2.1,(a.getD a1 Qqf).2.2.2.2.2.2.2.2.1,b.getD ((0:Int).toNat) Qqf,(a.getD a1 Qqf).2.2.2.2.2.2.2.2.2.2.1,(a.getD a1 Qqf).2.2.2.2.2.2.2.2.2.2.2)) (b.drop (1:Int).toNat))))else(FM a1) a b))
def GX(a0:(List ZJ))(a1:Nat)(a:QqX):Option (Bool×(List ZJ)):=
 Bi (a1<a0.length) (QqB (BK (a0.getD a1 Qqf)) (fun b=>if b then Bi (0<=(0:Int)/\(0:Int)<(a.length:Int)) (Bi (a1<a0.length) (Bi (0<=(1:Int)/\(1:Int)<=(a.length:Int)) ((FN a1) (a0.set a1 ((a0.getD a1 Qqf).1,(a0.getD a1 Qqf).2.1,(a0.getD a1 Qqf).2.2.1,(a0.getD a1 Qqf).2.2.2.1,(a0.getD a1 Qqf).2.2.2.2.1,(a0.getD a1 Qqf).2.2.2.2.2.1,(a0.getD a1 Qqf).2.2.2.2.2.2.1,(a0.getD a1 Qqf).2.2.2.2.2.2.2.1,a.getD ((0:Int).toNat) Qqf,(a0.getD a1 Qqf).2.2.2.2.2.2.2.2.2.1,(a0.getD a1 Qqf).2.2.2.2.2.2.2.2.2.2.1,(a0.getD a1 Qqf).2.2.2.2.2.2.2.2.2.2.2)) (a.drop (1:Int).toNat))))else(FN a1) a0 a))
def G2(a0:(List ZJ))(a1:Nat)(a2:List Zg):QqX×Int->Option ((QqX×Int)⊕(Bool×(List ZJ))):=fun⟨b,a⟩=>
 if a<(a2.length:Int)then Bi (0<=a/\a<(a2.length:Int)) (QqB (JV a0 (a2.getD a.toNat Qqf)) (fun c=>if c<0 then none else Bi (Go.E.Gg 8 (b.length+([c]).length)) (Bi (BX (a+1)) (some (Sum.inl ((b++[c]),(a+1)))))))else QqD Sum.inr ((GX a0 a1) b)
def IZ(a0:(List ZJ))(a1:Nat)(a2:List Zg)(s:QqX×Int):Option (Bool×(List ZJ)):=Go.L.run (G2 a0 a1 a2) s
def Ja(a0:(List ZJ))(a1:Nat)(a2:List Zg):Option (Bool×(List ZJ)):=
 (IZ a0 a1 a2) (([]:QqX),0)
theorem NI{w0 w:World}{H:PH}(hH:Le H (hp w0)){O:List BS}{a0:(List ZJ)}{a1:Nat}{a2:List Zg}{va0_0:Value}{xsa0_0:QqK}{pa1:Addr}{va2:Value}(hL:AZ w0 (Ha [.row va0_0 53 12 (a0).length xsa0_0] O) w)(bf:A6 ZR (gz H w0 w (Ha [.row va0_0 53 12 (a0).length xsa0_0] O)) a0 xsa0_0)(ag:IQ va0_0 (a1 * 12) pa1)(ci:AD .st (gz H w0 w (Ha [.row va0_0 53 12 (a0).length xsa0_0] O)) va2 a2){r:Bool×(List ZJ)}(h:Ja a0 a1 a2=some r):
  Ok prog 15 [.agg #[va0_0],.pointer (some pa1),va2] w (fun v w'=>∃(y1:QqK),v=.bool r.1/\AZ w0 (Ha [.row va0_0 53 12 (r.2).length y1] O) w'/\Le (fz w (Ha [.row va0_0 53 12 (a0).length xsa0_0] O)) (fz w' (Ha [.row va0_0 53 12 (r.2).length y1] O))/\A6 ZR (gz H w0 w' (Ha [.row va0_0 53 12 (r.2).length y1] O)) (r.2) y1):=by
 refine BF (n:=56) [(0,.agg #[va0_0]),(1,.pointer (some pa1)),(2,va2)] func15 Z Z Z Z ?_;have hT:=Le.refl (fz w (Ha [.row va0_0 53 12 (a0).length xsa0_0] O));refine Av<|C1 (t:=25) Z Z hL fun w1 b1 el bk _=>A4 1 Z<|BN 1 Z ?_;obtain⟨dz,bl,em⟩:=CH (.int .i64) H 3 el;refine Am<|Bs (QqX×Value×QqK) (fun⟨x,ba,au⟩=>[(1,.pointer (some pa1)),(7,ba)]) (fun⟨x,ba,au⟩ wr=>DK w0 (Ha [.row ba 3 1 (x).length au,.box b1 [va0_0] 25,.row va0_0 53 12 (a0).length xsa0_0] O) wr fun Oz=>A6 (.int .i64) (gz H w0 wr Oz) x au/\A6 ZR (gz H w0 wr Oz) a0 xsa0_0/\Le (fz w (Ha [.row va0_0 53 12 (a0).length xsa0_0] O)) (fz wr Oz)/\(GX a0 a1) x=some r) ?_ ?_
 ·have bm:=dz.rG H;refine BN 1 Z ?_;have ci:=ci.mono (Ab (bk.trans bl));refine Ah (AX (ci.mono bm))<|A4 1 Z<|AA ?_;obtain⟨ct,h⟩:=Bf h;have bf:=bf.mono (Ab (bk.trans bl));have hT:=hT.trans (bk.trans bl);refine BB (QqX×Int×Value×QqK×Nat) (fun⟨av,ah,bb,ar,n⟩=>[(1,.pointer (some pa1)),(3,(Ze b1)),(7,bb),(11,va2),(12,No (a2.length:Int)),(13,No ah)]) (fun⟨av,ah,bb,ar,n⟩ wr=>DK w0 (Ha [.row bb 3 1 (av).length ar,.box b1 [va0_0] 25,.row va0_0 53 12 (a0).length xsa0_0] O) wr fun Oz=>AD .st (gz H w0 wr Oz) va2 a2/\A6 (.int .i64) (gz H w0 wr Oz) av ar/\A6 ZR (gz H w0 wr Oz) a0 xsa0_0/\Le (fz w (Ha [.row va0_0 53 12 (a0).length xsa0_0] O)) (fz wr Oz)/\FX (G2 a0 a1 a2) n (av,ah)=some r) (fun⟨av,ah,bb,ar,n⟩=>n) (([]:QqX),0,Zd,[],ct) Z ⟨dz,(ci.mono bm),(em.mono bm),(bf.mono bm),hT,h⟩ ?_;rintro⟨av,ah,bb,ar,nn59⟩ es ⟨bc,ce,cj,he59_Ra0_0,hT,h⟩
  obtain⟨ct,ff,rfl,h,cu⟩:=Bd h;have ai:=bc.rG H;refine AI 1 Z<|AN<|AY h ?_ ?_<;>intro d0 h
  ·refine A5<|A3<|AN<|AA<|Av<|A8 h fun cv h=>Bb (ce.mono ai) ah.toNat (Dw cv) (AK cv) ?_;rintro fg _ rfl d1;refine Ah (AV d1 (Al bc))<|A4 1 Z<|Av<|Ah (Af Z Zv Z Hg.e)<|Ah (Ag 1 Z bc Z)<|Aw 1 Z<|Ax h fun cw d2 h=>A9 bc (Mw _ _ (Le.refl _) (bc.KM hH (i:=2) Z (he59_Ra0_0.mono ai)) d2) fun fh et d3 ck=>A4 1 Z<|AN<|AI 2 Z<|AY h ?_ ?_<;>intro d4 h
   ·cases h
   refine A5<|A3<|A2<|Aw 2 Z<|Br [cw] (r:=(.int .i64)) (hr:=(fun _=>Hw _ _)) (Bw 1) d3 (.c1 Z .nil) fun fi fj eu d5 cl d6=>A8 h fun d7 h=>?_;have ai:=ai.trans (Ab (ck.trans cl));refine Ca (r:=(.int .i64)) 0 av [cw] Z Zm d5 Z (cj.mono ai) d6 d7 fun en fk d8 d9 cm ea=>Aw 1 Z<|AQ<|AB<|A3<|A2<|A8 h fun eb h=>Ah (AH eb)<|Aw 1 Z<|AQ ?_;have h:=Ct.again h cu;have hT:=hT.trans (ck.trans (cl.trans cm));have ai:=ai.trans (Ab cm);refine AS (_,_,_,_,_) ⟨d9,(ce.mono ai),ea,(he59_Ra0_0.mono ai),hT,h⟩
  refine BA<|AP<|AJ ?_;have h:=Ct.out h cu;refine Bu<|A7 (_,_,_) ⟨bc,(cj.mono ai),(he59_Ra0_0.mono ai),hT,h⟩
 have hT:=hT.trans (bk.trans bl);rintro⟨x,ba,au⟩ ev ⟨ch,ab,he39_Ra0_0,hT,h⟩;refine Bs ((List ZJ)×QqX×QqK×Value) (fun⟨a,f,al,am⟩=>[(1,.pointer (some pa1)),(7,am)]) (fun⟨a,f,al,am⟩ wr=>DK w0 (Ha [.box b1 [va0_0] 25,.row va0_0 53 12 (a).length al] O) wr fun Oz=>AD (.int .i64) (gz H w0 wr Oz) am f/\A6 ZR (gz H w0 wr Oz) a al/\Le (fz w (Ha [.row va0_0 53 12 (a0).length xsa0_0] O)) (fz wr Oz)/\(FN a1) a f=some r) ?_ ?_
 ·refine BN 1 Z<|A8 h fun cx h=>?_;obtain⟨_,cy,hcell129⟩:=he39_Ra0_0.at a1 _ (getD_some cx);obtain⟨_,_,rfl,rfl,⟨_,_,rfl,rfl,⟨_,_,rfl,⟨e129v2,rfl,e129h2⟩,⟨_,_,rfl,rfl,⟨_,_,rfl,rfl,⟨_,_,rfl,rfl,⟨_,_,rfl,rfl,⟨_,_,rfl,rfl,⟨_,_,rfl,rfl,⟨_,_,rfl,rfl,⟨_,_,rfl,⟨e129v10,rfl,e129h10⟩,⟨e129v11,rfl,e129h11⟩⟩⟩⟩⟩⟩⟩⟩⟩⟩⟩⟩:=cy;refine Ah (AW Z)<|Ah (Ry 2 ch ag hcell129)<|Ax h fun ew cz h=>A9 ch (BL (a0:=(a0.getD a1 Qqf)) _ _ (Al ch) e129h2 e129h10 e129h11 cz) fun ex eo bd s=>Am<|Bm h ?_ ?_<;>intro c0 h
  ·refine Eg (FP ER) (fun z0 z=>Le (gz H w0 z0 (Ha [.row ba 3 1 (x).length au,.box b1 [va0_0] 25,.row va0_0 53 12 (a0).length xsa0_0] O)) (hp z)/\z.heap[b1]? = some (.cells [va0_0].toArray 25 (0,0))) mixed Z (fun y ey cn=>?_);have q:=bd.call cn;have ac:=Ba bd cn;have b:=q.rG H;refine Gt ⟨b.trans (Al q),q.at (i:=1) Z⟩ fun kI138=>Aq 0 y kI138 Z (fun _ _=>Ad Z) Z<|Aq 1 y kI138 Z (fun _ _=>Ad Z) Z<|Aq 4 y kI138 Z (fun _ _=>Ad Z) Z<|Ls 2 5 Z Z ?_ ?_
   ·refine A8 h fun aw h=>?_;have ab:=ab.mono (Ab (s.trans ac));refine Bb (q.KM hH (i:=0) Z (ab.mono b)) ((0:Int).toNat) (Dw aw) (AK aw) ?_;rintro ez _ rfl co;refine As ⟨b.trans (Al q),q.at (i:=1) Z⟩ fun kI141=>Ls 3 5 Z Z ?_ ?_
    ·refine Ah (AV co (Le.refl _))<|As ⟨b.trans (Al q),q.at (i:=1) Z⟩ fun kI142=>A8 h fun ae h=>?_;have he39_Ra0_0:=he39_Ra0_0.mono (Ab (s.trans ac));obtain⟨_,c2,hcell143⟩:=(he39_Ra0_0.mono b).at a1 _ (getD_some ae);obtain⟨_,_,rfl,rfl,⟨_,_,rfl,rfl,⟨_,_,rfl,⟨e143v2,rfl,e143h2⟩,⟨_,_,rfl,rfl,⟨_,_,rfl,rfl,⟨_,_,rfl,rfl,⟨_,_,rfl,rfl,⟨_,_,rfl,rfl,⟨_,_,rfl,rfl,⟨_,_,rfl,rfl,⟨_,_,rfl,⟨e143v10,rfl,e143h10⟩,⟨e143v11,rfl,e143h11⟩⟩⟩⟩⟩⟩⟩⟩⟩⟩⟩⟩:=c2;refine Aq 6 y kI142 Z (fun _ _=>AW Z) Z<|Aq 7 y kI142 Z (fun _ _=>Af Z Zs Z B6.e) Z<|Ls 5 8 Z Z ?_ ?_
     ·have c3:=q.Cu hH (i:=0) Z (ab.mono b);have bn:=q.AM (i:=0) Z;refine A8 h fun ao h=>G7 c3 ao ?_;intro ed bo;have b:=b.trans (Ab (Ae (i:=0) Z));refine As ⟨b.trans (Al bn),bn.at (i:=0) Z⟩ fun kI149=>BP 8 Z ?_
      refine Hy 1 ZR 8 a1 (((a0.getD a1 Qqf).1,(a0.getD a1 Qqf).2.1,(a0.getD a1 Qqf).2.2.1,(a0.getD a1 Qqf).2.2.2.1,(a0.getD a1 Qqf).2.2.2.2.1,(a0.getD a1 Qqf).2.2.2.2.2.1,(a0.getD a1 Qqf).2.2.2.2.2.2.1,(a0.getD a1 Qqf).2.2.2.2.2.2.2.1,x.getD ((0:Int).toNat) Qqf,(a0.getD a1 Qqf).2.2.2.2.2.2.2.2.2.1,(a0.getD a1 Qqf).2.2.2.2.2.2.2.2.2.2.1,(a0.getD a1 Qqf).2.2.2.2.2.2.2.2.2.2.2)) bn Z (he39_Ra0_0.mono b) ag ae (fun c hc=>by obtain⟨_,_,rfl,rfl,⟨_,_,rfl,rfl,⟨_,_,rfl,⟨z150v2,rfl,z150h2⟩,⟨_,_,rfl,rfl,⟨_,_,rfl,rfl,⟨_,_,rfl,rfl,⟨_,_,rfl,rfl,⟨_,_,rfl,rfl,⟨_,_,rfl,rfl,⟨_,_,rfl,rfl,⟨_,_,rfl,⟨z150v10,rfl,z150h10⟩,⟨z150v11,rfl,z150h11⟩⟩⟩⟩⟩⟩⟩⟩⟩⟩⟩⟩:=hc;show Rp.rel ZR _ _ [.string ⟨((a0.getD a1 Qqf).1).toArray⟩,No ((a0.getD a1 Qqf).2.1),z150v2,No ((a0.getD a1 Qqf).2.2.2.1),.bool ((a0.getD a1 Qqf).2.2.2.2.1),No ((a0.getD a1 Qqf).2.2.2.2.2.1),No ((a0.getD a1 Qqf).2.2.2.2.2.2.1),No ((a0.getD a1 Qqf).2.2.2.2.2.2.2.1),No (x.getD ((0:Int).toNat) Qqf),No ((a0.getD a1 Qqf).2.2.2.2.2.2.2.2.2.1),z150v10,z150v11];exact⟨_,_,Z,Z,⟨_,_,Z,Z,⟨_,_,Z,⟨_,Z,z150h2⟩,⟨_,_,Z,Z,⟨_,_,Z,Z,⟨_,_,Z,Z,⟨_,_,Z,Z,⟨_,_,Z,Z,⟨_,_,Z,Z,⟨_,_,Z,Z,⟨_,_,Z,⟨_,Z,z150h10⟩,⟨_,Z,z150h11⟩⟩⟩⟩⟩⟩⟩⟩⟩⟩⟩⟩) ?_
      intro e0 c4 bp ax bq;have b:=b.trans (Ab ax);refine As ⟨b.trans (Al bp),bp.at (i:=0) Z⟩ fun kI151=>Aq 9 y kI151 Z (fun _ _=>Ad Z) Z<|Bz ?_;have hT:=hT.trans (s.trans (ac.trans ((Ae (i:=0) Z).trans ax)));have bo:=bo.mono (Ab ax);have bq:=bq.mono (Ab ax);refine A7 (_,_,_,_) ⟨bp,bo,bq,hT,h⟩
     refine A8 h fun ao h=>?_
     refine Hy 2 ZR 8 a1 (((a0.getD a1 Qqf).1,(a0.getD a1 Qqf).2.1,(a0.getD a1 Qqf).2.2.1,(a0.getD a1 Qqf).2.2.2.1,(a0.getD a1 Qqf).2.2.2.2.1,(a0.getD a1 Qqf).2.2.2.2.2.1,(a0.getD a1 Qqf).2.2.2.2.2.2.1,(a0.getD a1 Qqf).2.2.2.2.2.2.2.1,x.getD ((0:Int).toNat) Qqf,(a0.getD a1 Qqf).2.2.2.2.2.2.2.2.2.1,(a0.getD a1 Qqf).2.2.2.2.2.2.2.2.2.2.1,(a0.getD a1 Qqf).2.2.2.2.2.2.2.2.2.2.2)) q Z (he39_Ra0_0.mono b) ag ae (fun c hc=>by obtain⟨_,_,rfl,rfl,⟨_,_,rfl,rfl,⟨_,_,rfl,⟨z152v2,rfl,z152h2⟩,⟨_,_,rfl,rfl,⟨_,_,rfl,rfl,⟨_,_,rfl,rfl,⟨_,_,rfl,rfl,⟨_,_,rfl,rfl,⟨_,_,rfl,rfl,⟨_,_,rfl,rfl,⟨_,_,rfl,⟨z152v10,rfl,z152h10⟩,⟨z152v11,rfl,z152h11⟩⟩⟩⟩⟩⟩⟩⟩⟩⟩⟩⟩:=hc;show Rp.rel ZR _ _ [.string ⟨((a0.getD a1 Qqf).1).toArray⟩,No ((a0.getD a1 Qqf).2.1),z152v2,No ((a0.getD a1 Qqf).2.2.2.1),.bool ((a0.getD a1 Qqf).2.2.2.2.1),No ((a0.getD a1 Qqf).2.2.2.2.2.1),No ((a0.getD a1 Qqf).2.2.2.2.2.2.1),No ((a0.getD a1 Qqf).2.2.2.2.2.2.2.1),No (x.getD ((0:Int).toNat) Qqf),No ((a0.getD a1 Qqf).2.2.2.2.2.2.2.2.2.1),z152v10,z152v11];exact⟨_,_,Z,Z,⟨_,_,Z,Z,⟨_,_,Z,⟨_,Z,z152h2⟩,⟨_,_,Z,Z,⟨_,_,Z,Z,⟨_,_,Z,Z,⟨_,_,Z,Z,⟨_,_,Z,Z,⟨_,_,Z,Z,⟨_,_,Z,Z,⟨_,_,Z,⟨_,Z,z152h10⟩,⟨_,Z,z152h11⟩⟩⟩⟩⟩⟩⟩⟩⟩⟩⟩⟩) ?_
     intro e1 c5 be bg br;have b:=b.trans (Ab bg);refine As ⟨b.trans (Al be),be.at (i:=1) Z⟩ fun kI153=>BP 5 Z ?_;have c6:=be.Cu hH (i:=0) Z (ab.mono b);have bs:=be.AM (i:=0) Z;refine G7 c6 ao ?_;intro ee c7;have b:=b.trans (Ab (Ae (i:=0) Z));refine As ⟨b.trans (Al bs),bs.at (i:=0) Z⟩ fun kI156=>Aq 9 y kI156 Z (fun _ _=>Ad Z) Z<|Bz ?_;have hT:=hT.trans (s.trans (ac.trans (bg.trans (Ae (i:=0) Z))));have br:=br.mono (Ab (bg.trans (Ae (i:=0) Z)));refine A7 (_,_,_,_) ⟨bs,c7,br,hT,h⟩
    refine A8 h fun ae h=>A8 h fun ao h=>?_;have c8:=q.Cu hH (i:=0) Z (ab.mono b);have ay:=q.AM (i:=0) Z;refine G7 c8 ao ?_;intro ef bt;have b:=b.trans (Ab (Ae (i:=0) Z));refine As ⟨b.trans (Al ay),ay.at (i:=0) Z⟩ fun kI159=>BP 3 Z<|Ah (AV co (Le.refl _))<|As ⟨b.trans (Al ay),ay.at (i:=0) Z⟩ fun kI160=>?_;have he39_Ra0_0:=he39_Ra0_0.mono (Ab (s.trans ac));obtain⟨_,c9,hcell161⟩:=(he39_Ra0_0.mono b).at a1 _ (getD_some ae);obtain⟨_,_,rfl,rfl,⟨_,_,rfl,rfl,⟨_,_,rfl,⟨e161v2,rfl,e161h2⟩,⟨_,_,rfl,rfl,⟨_,_,rfl,rfl,⟨_,_,rfl,rfl,⟨_,_,rfl,rfl,⟨_,_,rfl,rfl,⟨_,_,rfl,rfl,⟨_,_,rfl,rfl,⟨_,_,rfl,⟨e161v10,rfl,e161h10⟩,⟨e161v11,rfl,e161h11⟩⟩⟩⟩⟩⟩⟩⟩⟩⟩⟩⟩:=c9;refine Aq 6 y kI160 Z (fun _ _=>AW Z) Z<|Aq 7 y kI160 Z (fun _ _=>Af Z Zs Z B6.e) Z<|BP 8 Z ?_
    refine Hy 1 ZR 8 a1 (((a0.getD a1 Qqf).1,(a0.getD a1 Qqf).2.1,(a0.getD a1 Qqf).2.2.1,(a0.getD a1 Qqf).2.2.2.1,(a0.getD a1 Qqf).2.2.2.2.1,(a0.getD a1 Qqf).2.2.2.2.2.1,(a0.getD a1 Qqf).2.2.2.2.2.2.1,(a0.getD a1 Qqf).2.2.2.2.2.2.2.1,x.getD ((0:Int).toNat) Qqf,(a0.getD a1 Qqf).2.2.2.2.2.2.2.2.2.1,(a0.getD a1 Qqf).2.2.2.2.2.2.2.2.2.2.1,(a0.getD a1 Qqf).2.2.2.2.2.2.2.2.2.2.2)) ay Z (he39_Ra0_0.mono b) ag ae (fun c hc=>by obtain⟨_,_,rfl,rfl,⟨_,_,rfl,rfl,⟨_,_,rfl,⟨z163v2,rfl,z163h2⟩,⟨_,_,rfl,rfl,⟨_,_,rfl,rfl,⟨_,_,rfl,rfl,⟨_,_,rfl,rfl,⟨_,_,rfl,rfl,⟨_,_,rfl,rfl,⟨_,_,rfl,rfl,⟨_,_,rfl,⟨z163v10,rfl,z163h10⟩,⟨z163v11,rfl,z163h11⟩⟩⟩⟩⟩⟩⟩⟩⟩⟩⟩⟩:=hc;show Rp.rel ZR _ _ [.string ⟨((a0.getD a1 Qqf).1).toArray⟩,No ((a0.getD a1 Qqf).2.1),z163v2,No ((a0.getD a1 Qqf).2.2.2.1),.bool ((a0.getD a1 Qqf).2.2.2.2.1),No ((a0.getD a1 Qqf).2.2.2.2.2.1),No ((a0.getD a1 Qqf).2.2.2.2.2.2.1),No ((a0.getD a1 Qqf).2.2.2.2.2.2.2.1),No (x.getD ((0:Int).toNat) Qqf),No ((a0.getD a1 Qqf).2.2.2.2.2.2.2.2.2.1),z163v10,z163v11];exact⟨_,_,Z,Z,⟨_,_,Z,Z,⟨_,_,Z,⟨_,Z,z163h2⟩,⟨_,_,Z,Z,⟨_,_,Z,Z,⟨_,_,Z,Z,⟨_,_,Z,Z,⟨_,_,Z,Z,⟨_,_,Z,Z,⟨_,_,Z,Z,⟨_,_,Z,⟨_,Z,z163h10⟩,⟨_,Z,z163h11⟩⟩⟩⟩⟩⟩⟩⟩⟩⟩⟩⟩) ?_
    intro e2 da bu az bv;have b:=b.trans (Ab az);refine As ⟨b.trans (Al bu),bu.at (i:=0) Z⟩ fun kI164=>Aq 9 y kI164 Z (fun _ _=>Ad Z) Z<|Bz ?_;have hT:=hT.trans (s.trans (ac.trans ((Ae (i:=0) Z).trans az)));have bt:=bt.mono (Ab az);have bv:=bv.mono (Ab az);refine A7 (_,_,_,_) ⟨bu,bt,bv,hT,h⟩
   refine A8 h fun aw h=>A8 h fun ae h=>A8 h fun ao h=>?_;have ab:=ab.mono (Ab (s.trans ac));have cp:=q.Cu hH (i:=0) Z (ab.mono b);have aj:=q.AM (i:=0) Z;refine G7 cp ao ?_;intro eg bw;have b:=b.trans (Ab (Ae (i:=0) Z));refine As ⟨b.trans (Al aj),aj.at (i:=0) Z⟩ fun kI167=>BP 2 Z<|Bb cp ((0:Int).toNat) (Dw aw) (AK aw) ?_;rintro e3 _ rfl db;refine As ⟨b.trans (Al aj),aj.at (i:=0) Z⟩ fun kI169=>BP 3 Z<|Ah (AV db (Al aj))<|As ⟨b.trans (Al aj),aj.at (i:=0) Z⟩ fun kI170=>?_;have he39_Ra0_0:=he39_Ra0_0.mono (Ab (s.trans ac));obtain⟨_,dc,hcell171⟩:=(he39_Ra0_0.mono b).at a1 _ (getD_some ae);obtain⟨_,_,rfl,rfl,⟨_,_,rfl,rfl,⟨_,_,rfl,⟨e171v2,rfl,e171h2⟩,⟨_,_,rfl,rfl,⟨_,_,rfl,rfl,⟨_,_,rfl,rfl,⟨_,_,rfl,rfl,⟨_,_,rfl,rfl,⟨_,_,rfl,rfl,⟨_,_,rfl,rfl,⟨_,_,rfl,⟨e171v10,rfl,e171h10⟩,⟨e171v11,rfl,e171h11⟩⟩⟩⟩⟩⟩⟩⟩⟩⟩⟩⟩:=dc;refine Aq 6 y kI170 Z (fun _ _=>AW Z) Z ?_
   refine Aq 7 y kI170 Z (fun _ _=>Af Z Zs Z B6.e) Z<|BP 8 Z ?_
   refine Hy 1 ZR 8 a1 (((a0.getD a1 Qqf).1,(a0.getD a1 Qqf).2.1,(a0.getD a1 Qqf).2.2.1,(a0.getD a1 Qqf).2.2.2.1,(a0.getD a1 Qqf).2.2.2.2.1,(a0.getD a1 Qqf).2.2.2.2.2.1,(a0.getD a1 Qqf).2.2.2.2.2.2.1,(a0.getD a1 Qqf).2.2.2.2.2.2.2.1,x.getD ((0:Int).toNat) Qqf,(a0.getD a1 Qqf).2.2.2.2.2.2.2.2.2.1,(a0.getD a1 Qqf).2.2.2.2.2.2.2.2.2.2.1,(a0.getD a1 Qqf).2.2.2.2.2.2.2.2.2.2.2)) aj Z (he39_Ra0_0.mono b) ag ae (fun c hc=>by obtain⟨_,_,rfl,rfl,⟨_,_,rfl,rfl,⟨_,_,rfl,⟨z173v2,rfl,z173h2⟩,⟨_,_,rfl,rfl,⟨_,_,rfl,rfl,⟨_,_,rfl,rfl,⟨_,_,rfl,rfl,⟨_,_,rfl,rfl,⟨_,_,rfl,rfl,⟨_,_,rfl,rfl,⟨_,_,rfl,⟨z173v10,rfl,z173h10⟩,⟨z173v11,rfl,z173h11⟩⟩⟩⟩⟩⟩⟩⟩⟩⟩⟩⟩:=hc;show Rp.rel ZR _ _ [.string ⟨((a0.getD a1 Qqf).1).toArray⟩,No ((a0.getD a1 Qqf).2.1),z173v2,No ((a0.getD a1 Qqf).2.2.2.1),.bool ((a0.getD a1 Qqf).2.2.2.2.1),No ((a0.getD a1 Qqf).2.2.2.2.2.1),No ((a0.getD a1 Qqf).2.2.2.2.2.2.1),No ((a0.getD a1 Qqf).2.2.2.2.2.2.2.1),No (x.getD ((0:Int).toNat) Qqf),No ((a0.getD a1 Qqf).2.2.2.2.2.2.2.2.2.1),z173v10,z173v11];exact⟨_,_,Z,Z,⟨_,_,Z,Z,⟨_,_,Z,⟨_,Z,z173h2⟩,⟨_,_,Z,Z,⟨_,_,Z,Z,⟨_,_,Z,Z,⟨_,_,Z,Z,⟨_,_,Z,Z,⟨_,_,Z,Z,⟨_,_,Z,Z,⟨_,_,Z,⟨_,Z,z173h10⟩,⟨_,Z,z173h11⟩⟩⟩⟩⟩⟩⟩⟩⟩⟩⟩⟩) ?_
   intro e4 dd bx a3 bz;have b:=b.trans (Ab a3);refine As ⟨b.trans (Al bx),bx.at (i:=0) Z⟩ fun kI174=>Aq 9 y kI174 Z (fun _ _=>Ad Z) Z<|Bz ?_;have hT:=hT.trans (s.trans (ac.trans ((Ae (i:=0) Z).trans a3)));have bw:=bw.mono (Ab a3);have bz:=bz.mono (Ab a3);refine A7 (_,_,_,_) ⟨bx,bw,bz,hT,h⟩
  refine A5 ?_;have ab:=ab.mono (Ab s);have de:=bd.Cu hH (i:=0) Z ab;have df:=bd.AM (i:=0) Z;have he39_Ra0_0:=he39_Ra0_0.mono (Ab (s.trans (Ae (i:=0) Z)));have hT:=hT.trans (s.trans (Ae (i:=0) Z));refine A7 (_,_,_,_) ⟨df,de,he39_Ra0_0,hT,h⟩
 rintro⟨a,f,al,am⟩ ep ⟨b0,g,k,hT,h⟩;refine Bs ((List ZJ)×QqX×QqK×Value) (fun⟨p,aq,a4,an⟩=>[(1,.pointer (some pa1)),(7,an)]) (fun⟨p,aq,a4,an⟩ wr=>DK w0 (Ha [.box b1 [va0_0] 25,.row va0_0 53 12 (p).length a4] O) wr fun Oz=>AD (.int .i64) (gz H w0 wr Oz) an aq/\A6 ZR (gz H w0 wr Oz) p a4/\Le (fz w (Ha [.row va0_0 53 12 (a0).length xsa0_0] O)) (fz wr Oz)/\(FM a1) p aq=some r) ?_ ?_
 ·refine BN 1 Z<|A8 h fun dg h=>?_;obtain⟨_,dh,hcell226⟩:=k.at a1 _ (getD_some dg);obtain⟨_,_,rfl,rfl,⟨_,_,rfl,rfl,⟨_,_,rfl,⟨e226v2,rfl,e226h2⟩,⟨_,_,rfl,rfl,⟨_,_,rfl,rfl,⟨_,_,rfl,rfl,⟨_,_,rfl,rfl,⟨_,_,rfl,rfl,⟨_,_,rfl,rfl,⟨_,_,rfl,rfl,⟨_,_,rfl,⟨e226v10,rfl,e226h10⟩,⟨e226v11,rfl,e226h11⟩⟩⟩⟩⟩⟩⟩⟩⟩⟩⟩⟩:=dh;refine Ah (AW Z)<|Ah (Ry 1 b0 ag hcell226)<|Ax h fun e5 di h=>A9 b0 (B5 (a0:=(a.getD a1 Qqf)) _ _ (Al b0) e226h2 e226h10 e226h11 di) fun e6 eq b2 u=>Am<|Bm h ?_ ?_<;>intro dj h
  ·refine Eg (FP ER) (fun z0 z=>Le (gz H w0 z0 (Ha [.box b1 [va0_0] 25,.row va0_0 53 12 (a).length al] O)) (hp z)/\z.heap[b1]? = some (.cells [va0_0].toArray 25 (0,0))) mixed Z (fun aa e7 cq=>?_);have e:=b2.call cq;have ad:=Ba b2 cq;have d:=e.rG H;refine Gt ⟨d.trans (Al e),e.at (i:=0) Z⟩ fun kI235=>Aq 0 aa kI235 Z (fun _ _=>Ad Z) Z<|Aq 1 aa kI235 Z (fun _ _=>Ad Z) Z<|Aq 4 aa kI235 Z (fun _ _=>Ad Z) Z<|Ls 2 5 Z Z ?_ ?_
   ·refine A8 h fun a5 h=>?_;have g:=g.mono (Ab (u.trans ad));refine Bb (g.mono d) ((0:Int).toNat) (Dw a5) (AK a5) ?_;rintro e8 _ rfl cr;refine As ⟨d.trans (Al e),e.at (i:=0) Z⟩ fun kI238=>Ls 3 5 Z Z ?_ ?_
    ·refine Ah (AV cr (Al e))<|As ⟨d.trans (Al e),e.at (i:=0) Z⟩ fun kI239=>A8 h fun af h=>?_;have k:=k.mono (Ab (u.trans ad));obtain⟨_,dk,hcell240⟩:=(k.mono d).at a1 _ (getD_some af);obtain⟨_,_,rfl,rfl,⟨_,_,rfl,rfl,⟨_,_,rfl,⟨e240v2,rfl,e240h2⟩,⟨_,_,rfl,rfl,⟨_,_,rfl,rfl,⟨_,_,rfl,rfl,⟨_,_,rfl,rfl,⟨_,_,rfl,rfl,⟨_,_,rfl,rfl,⟨_,_,rfl,rfl,⟨_,_,rfl,⟨e240v10,rfl,e240h10⟩,⟨e240v11,rfl,e240h11⟩⟩⟩⟩⟩⟩⟩⟩⟩⟩⟩⟩:=dk;refine Aq 6 aa kI239 Z (fun _ _=>AW Z) Z<|Aq 7 aa kI239 Z (fun _ _=>Af Z Zs Z B6.e) Z<|Ls 5 8 Z Z ?_ ?_
     ·refine A8 h fun ap h=>G7 (g.mono d) ap fun eh b3=>As ⟨d.trans (Al e),e.at (i:=0) Z⟩ fun kI245=>BP 8 Z ?_
      refine Hy 1 ZR 9 a1 (((a.getD a1 Qqf).1,(a.getD a1 Qqf).2.1,(a.getD a1 Qqf).2.2.1,(a.getD a1 Qqf).2.2.2.1,(a.getD a1 Qqf).2.2.2.2.1,(a.getD a1 Qqf).2.2.2.2.2.1,(a.getD a1 Qqf).2.2.2.2.2.2.1,(a.getD a1 Qqf).2.2.2.2.2.2.2.1,(a.getD a1 Qqf).2.2.2.2.2.2.2.2.1,f.getD ((0:Int).toNat) Qqf,(a.getD a1 Qqf).2.2.2.2.2.2.2.2.2.2.1,(a.getD a1 Qqf).2.2.2.2.2.2.2.2.2.2.2)) e Z (k.mono d) ag af (fun c hc=>by obtain⟨_,_,rfl,rfl,⟨_,_,rfl,rfl,⟨_,_,rfl,⟨z246v2,rfl,z246h2⟩,⟨_,_,rfl,rfl,⟨_,_,rfl,rfl,⟨_,_,rfl,rfl,⟨_,_,rfl,rfl,⟨_,_,rfl,rfl,⟨_,_,rfl,rfl,⟨_,_,rfl,rfl,⟨_,_,rfl,⟨z246v10,rfl,z246h10⟩,⟨z246v11,rfl,z246h11⟩⟩⟩⟩⟩⟩⟩⟩⟩⟩⟩⟩:=hc;show Rp.rel ZR _ _ [.string ⟨((a.getD a1 Qqf).1).toArray⟩,No ((a.getD a1 Qqf).2.1),z246v2,No ((a.getD a1 Qqf).2.2.2.1),.bool ((a.getD a1 Qqf).2.2.2.2.1),No ((a.getD a1 Qqf).2.2.2.2.2.1),No ((a.getD a1 Qqf).2.2.2.2.2.2.1),No ((a.getD a1 Qqf).2.2.2.2.2.2.2.1),No ((a.getD a1 Qqf).2.2.2.2.2.2.2.2.1),No (f.getD ((0:Int).toNat) Qqf),z246v10,z246v11];exact⟨_,_,Z,Z,⟨_,_,Z,Z,⟨_,_,Z,⟨_,Z,z246h2⟩,⟨_,_,Z,Z,⟨_,_,Z,Z,⟨_,_,Z,Z,⟨_,_,Z,Z,⟨_,_,Z,Z,⟨_,_,Z,Z,⟨_,_,Z,Z,⟨_,_,Z,⟨_,Z,z246h10⟩,⟨_,Z,z246h11⟩⟩⟩⟩⟩⟩⟩⟩⟩⟩⟩⟩) ?_
      intro e9 dl b4 a6 b5;have d:=d.trans (Ab a6);refine As ⟨d.trans (Al b4),b4.at (i:=0) Z⟩ fun kI247=>Aq 9 aa kI247 Z (fun _ _=>Ad Z) Z<|Bz ?_;have hT:=hT.trans (u.trans (ad.trans a6));have b3:=b3.mono (Ab a6);have b5:=b5.mono (Ab a6);refine A7 (_,_,_,_) ⟨b4,b3,b5,hT,h⟩
     refine A8 h fun ap h=>?_
     refine Hy 1 ZR 9 a1 (((a.getD a1 Qqf).1,(a.getD a1 Qqf).2.1,(a.getD a1 Qqf).2.2.1,(a.getD a1 Qqf).2.2.2.1,(a.getD a1 Qqf).2.2.2.2.1,(a.getD a1 Qqf).2.2.2.2.2.1,(a.getD a1 Qqf).2.2.2.2.2.2.1,(a.getD a1 Qqf).2.2.2.2.2.2.2.1,(a.getD a1 Qqf).2.2.2.2.2.2.2.2.1,f.getD ((0:Int).toNat) Qqf,(a.getD a1 Qqf).2.2.2.2.2.2.2.2.2.2.1,(a.getD a1 Qqf).2.2.2.2.2.2.2.2.2.2.2)) e Z (k.mono d) ag af (fun c hc=>by obtain⟨_,_,rfl,rfl,⟨_,_,rfl,rfl,⟨_,_,rfl,⟨z248v2,rfl,z248h2⟩,⟨_,_,rfl,rfl,⟨_,_,rfl,rfl,⟨_,_,rfl,rfl,⟨_,_,rfl,rfl,⟨_,_,rfl,rfl,⟨_,_,rfl,rfl,⟨_,_,rfl,rfl,⟨_,_,rfl,⟨z248v10,rfl,z248h10⟩,⟨z248v11,rfl,z248h11⟩⟩⟩⟩⟩⟩⟩⟩⟩⟩⟩⟩:=hc;show Rp.rel ZR _ _ [.string ⟨((a.getD a1 Qqf).1).toArray⟩,No ((a.getD a1 Qqf).2.1),z248v2,No ((a.getD a1 Qqf).2.2.2.1),.bool ((a.getD a1 Qqf).2.2.2.2.1),No ((a.getD a1 Qqf).2.2.2.2.2.1),No ((a.getD a1 Qqf).2.2.2.2.2.2.1),No ((a.getD a1 Qqf).2.2.2.2.2.2.2.1),No ((a.getD a1 Qqf).2.2.2.2.2.2.2.2.1),No (f.getD ((0:Int).toNat) Qqf),z248v10,z248v11];exact⟨_,_,Z,Z,⟨_,_,Z,Z,⟨_,_,Z,⟨_,Z,z248h2⟩,⟨_,_,Z,Z,⟨_,_,Z,Z,⟨_,_,Z,Z,⟨_,_,Z,Z,⟨_,_,Z,Z,⟨_,_,Z,Z,⟨_,_,Z,Z,⟨_,_,Z,⟨_,Z,z248h10⟩,⟨_,Z,z248h11⟩⟩⟩⟩⟩⟩⟩⟩⟩⟩⟩⟩) ?_
     intro fa dm a7 bh b6;have d:=d.trans (Ab bh);refine As ⟨d.trans (Al a7),a7.at (i:=0) Z⟩ fun kI249=>BP 5 Z<|G7 (g.mono d) ap fun ei dn=>As ⟨d.trans (Al a7),a7.at (i:=0) Z⟩ fun kI251=>Aq 9 aa kI251 Z (fun _ _=>Ad Z) Z<|Bz ?_;have hT:=hT.trans (u.trans (ad.trans bh));have b6:=b6.mono (Ab bh);refine A7 (_,_,_,_) ⟨a7,dn,b6,hT,h⟩
    refine A8 h fun af h=>A8 h fun ap h=>G7 (g.mono d) ap fun ej b7=>As ⟨d.trans (Al e),e.at (i:=0) Z⟩ fun kI253=>BP 3 Z<|Ah (AV cr (Al e))<|As ⟨d.trans (Al e),e.at (i:=0) Z⟩ fun kI254=>?_;have k:=k.mono (Ab (u.trans ad));obtain⟨_,dp,hcell255⟩:=(k.mono d).at a1 _ (getD_some af);obtain⟨_,_,rfl,rfl,⟨_,_,rfl,rfl,⟨_,_,rfl,⟨e255v2,rfl,e255h2⟩,⟨_,_,rfl,rfl,⟨_,_,rfl,rfl,⟨_,_,rfl,rfl,⟨_,_,rfl,rfl,⟨_,_,rfl,rfl,⟨_,_,rfl,rfl,⟨_,_,rfl,rfl,⟨_,_,rfl,⟨e255v10,rfl,e255h10⟩,⟨e255v11,rfl,e255h11⟩⟩⟩⟩⟩⟩⟩⟩⟩⟩⟩⟩:=dp;refine Aq 6 aa kI254 Z (fun _ _=>AW Z) Z<|Aq 7 aa kI254 Z (fun _ _=>Af Z Zs Z B6.e) Z<|BP 8 Z ?_
    refine Hy 1 ZR 9 a1 (((a.getD a1 Qqf).1,(a.getD a1 Qqf).2.1,(a.getD a1 Qqf).2.2.1,(a.getD a1 Qqf).2.2.2.1,(a.getD a1 Qqf).2.2.2.2.1,(a.getD a1 Qqf).2.2.2.2.2.1,(a.getD a1 Qqf).2.2.2.2.2.2.1,(a.getD a1 Qqf).2.2.2.2.2.2.2.1,(a.getD a1 Qqf).2.2.2.2.2.2.2.2.1,f.getD ((0:Int).toNat) Qqf,(a.getD a1 Qqf).2.2.2.2.2.2.2.2.2.2.1,(a.getD a1 Qqf).2.2.2.2.2.2.2.2.2.2.2)) e Z (k.mono d) ag af (fun c hc=>by obtain⟨_,_,rfl,rfl,⟨_,_,rfl,rfl,⟨_,_,rfl,⟨z257v2,rfl,z257h2⟩,⟨_,_,rfl,rfl,⟨_,_,rfl,rfl,⟨_,_,rfl,rfl,⟨_,_,rfl,rfl,⟨_,_,rfl,rfl,⟨_,_,rfl,rfl,⟨_,_,rfl,rfl,⟨_,_,rfl,⟨z257v10,rfl,z257h10⟩,⟨z257v11,rfl,z257h11⟩⟩⟩⟩⟩⟩⟩⟩⟩⟩⟩⟩:=hc;show Rp.rel ZR _ _ [.string ⟨((a.getD a1 Qqf).1).toArray⟩,No ((a.getD a1 Qqf).2.1),z257v2,No ((a.getD a1 Qqf).2.2.2.1),.bool ((a.getD a1 Qqf).2.2.2.2.1),No ((a.getD a1 Qqf).2.2.2.2.2.1),No ((a.getD a1 Qqf).2.2.2.2.2.2.1),No ((a.getD a1 Qqf).2.2.2.2.2.2.2.1),No ((a.getD a1 Qqf).2.2.2.2.2.2.2.2.1),No (f.getD ((0:Int).toNat) Qqf),z257v10,z257v11];exact⟨_,_,Z,Z,⟨_,_,Z,Z,⟨_,_,Z,⟨_,Z,z257h2⟩,⟨_,_,Z,Z,⟨_,_,Z,Z,⟨_,_,Z,Z,⟨_,_,Z,Z,⟨_,_,Z,Z,⟨_,_,Z,Z,⟨_,_,Z,Z,⟨_,_,Z,⟨_,Z,z257h10⟩,⟨_,Z,z257h11⟩⟩⟩⟩⟩⟩⟩⟩⟩⟩⟩⟩) ?_
    intro fb dq b8 a8 b9;have d:=d.trans (Ab a8);refine As ⟨d.trans (Al b8),b8.at (i:=0) Z⟩ fun kI258=>Aq 9 aa kI258 Z (fun _ _=>Ad Z) Z<|Bz ?_;have hT:=hT.trans (u.trans (ad.trans a8));have b7:=b7.mono (Ab a8);have b9:=b9.mono (Ab a8);refine A7 (_,_,_,_) ⟨b8,b7,b9,hT,h⟩
   refine A8 h fun a5 h=>A8 h fun af h=>A8 h fun ap h=>?_;have g:=g.mono (Ab (u.trans ad));refine G7 (g.mono d) ap fun ek ca=>As ⟨d.trans (Al e),e.at (i:=0) Z⟩ fun kI260=>BP 2 Z<|Bb (g.mono d) ((0:Int).toNat) (Dw a5) (AK a5) ?_;rintro fc _ rfl dr;refine As ⟨d.trans (Al e),e.at (i:=0) Z⟩ fun kI262=>BP 3 Z<|Ah (AV dr (Al e))<|As ⟨d.trans (Al e),e.at (i:=0) Z⟩ fun kI263=>?_;have k:=k.mono (Ab (u.trans ad));obtain⟨_,ds,hcell264⟩:=(k.mono d).at a1 _ (getD_some af);obtain⟨_,_,rfl,rfl,⟨_,_,rfl,rfl,⟨_,_,rfl,⟨e264v2,rfl,e264h2⟩,⟨_,_,rfl,rfl,⟨_,_,rfl,rfl,⟨_,_,rfl,rfl,⟨_,_,rfl,rfl,⟨_,_,rfl,rfl,⟨_,_,rfl,rfl,⟨_,_,rfl,rfl,⟨_,_,rfl,⟨e264v10,rfl,e264h10⟩,⟨e264v11,rfl,e264h11⟩⟩⟩⟩⟩⟩⟩⟩⟩⟩⟩⟩:=ds;refine Aq 6 aa kI263 Z (fun _ _=>AW Z) Z<|Aq 7 aa kI263 Z (fun _ _=>Af Z Zs Z B6.e) Z<|BP 8 Z ?_
   refine Hy 1 ZR 9 a1 (((a.getD a1 Qqf).1,(a.getD a1 Qqf).2.1,(a.getD a1 Qqf).2.2.1,(a.getD a1 Qqf).2.2.2.1,(a.getD a1 Qqf).2.2.2.2.1,(a.getD a1 Qqf).2.2.2.2.2.1,(a.getD a1 Qqf).2.2.2.2.2.2.1,(a.getD a1 Qqf).2.2.2.2.2.2.2.1,(a.getD a1 Qqf).2.2.2.2.2.2.2.2.1,f.getD ((0:Int).toNat) Qqf,(a.getD a1 Qqf).2.2.2.2.2.2.2.2.2.2.1,(a.getD a1 Qqf).2.2.2.2.2.2.2.2.2.2.2)) e Z (k.mono d) ag af (fun c hc=>by obtain⟨_,_,rfl,rfl,⟨_,_,rfl,rfl,⟨_,_,rfl,⟨z266v2,rfl,z266h2⟩,⟨_,_,rfl,rfl,⟨_,_,rfl,rfl,⟨_,_,rfl,rfl,⟨_,_,rfl,rfl,⟨_,_,rfl,rfl,⟨_,_,rfl,rfl,⟨_,_,rfl,rfl,⟨_,_,rfl,⟨z266v10,rfl,z266h10⟩,⟨z266v11,rfl,z266h11⟩⟩⟩⟩⟩⟩⟩⟩⟩⟩⟩⟩:=hc;show Rp.rel ZR _ _ [.string ⟨((a.getD a1 Qqf).1).toArray⟩,No ((a.getD a1 Qqf).2.1),z266v2,No ((a.getD a1 Qqf).2.2.2.1),.bool ((a.getD a1 Qqf).2.2.2.2.1),No ((a.getD a1 Qqf).2.2.2.2.2.1),No ((a.getD a1 Qqf).2.2.2.2.2.2.1),No ((a.getD a1 Qqf).2.2.2.2.2.2.2.1),No ((a.getD a1 Qqf).2.2.2.2.2.2.2.2.1),No (f.getD ((0:Int).toNat) Qqf),z266v10,z266v11];exact⟨_,_,Z,Z,⟨_,_,Z,Z,⟨_,_,Z,⟨_,Z,z266h2⟩,⟨_,_,Z,Z,⟨_,_,Z,Z,⟨_,_,Z,Z,⟨_,_,Z,Z,⟨_,_,Z,Z,⟨_,_,Z,Z,⟨_,_,Z,Z,⟨_,_,Z,⟨_,Z,z266h10⟩,⟨_,Z,z266h11⟩⟩⟩⟩⟩⟩⟩⟩⟩⟩⟩⟩) ?_
   intro fd dt cb a9 cc;have d:=d.trans (Ab a9);refine As ⟨d.trans (Al cb),cb.at (i:=0) Z⟩ fun kI267=>Aq 9 aa kI267 Z (fun _ _=>Ad Z) Z<|Bz ?_;have hT:=hT.trans (u.trans (ad.trans a9));have ca:=ca.mono (Ab a9);have cc:=cc.mono (Ab a9);refine A7 (_,_,_,_) ⟨cb,ca,cc,hT,h⟩
  refine A5 ?_;have g:=g.mono (Ab u);have k:=k.mono (Ab u);have hT:=hT.trans u;refine A7 (_,_,_,_) ⟨b2,g,k,hT,h⟩
 rintro⟨p,aq,a4,an⟩ er ⟨du,bi,cf,hT,h⟩;refine BN 2 Z<|A8 h fun cs h=>?_;obtain⟨_,dv,hcell270⟩:=cf.at a1 _ (getD_some cs);obtain⟨_,_,rfl,rfl,⟨_,_,rfl,rfl,⟨_,_,rfl,⟨e270v2,rfl,e270h2⟩,⟨_,_,rfl,rfl,⟨_,_,rfl,rfl,⟨_,_,rfl,rfl,⟨_,_,rfl,rfl,⟨_,_,rfl,rfl,⟨_,_,rfl,rfl,⟨_,_,rfl,rfl,⟨_,_,rfl,⟨e270v10,rfl,e270h10⟩,⟨e270v11,rfl,e270h11⟩⟩⟩⟩⟩⟩⟩⟩⟩⟩⟩⟩:=dv;refine Ah (AW Z)<|Ah (Af Z Zs Z D0.e) ?_
 refine Hy 1 ZR 11 a1 (((p.getD a1 Qqf).1,(p.getD a1 Qqf).2.1,(p.getD a1 Qqf).2.2.1,(p.getD a1 Qqf).2.2.2.1,(p.getD a1 Qqf).2.2.2.2.1,(p.getD a1 Qqf).2.2.2.2.2.1,(p.getD a1 Qqf).2.2.2.2.2.2.1,(p.getD a1 Qqf).2.2.2.2.2.2.2.1,(p.getD a1 Qqf).2.2.2.2.2.2.2.2.1,(p.getD a1 Qqf).2.2.2.2.2.2.2.2.2.1,(p.getD a1 Qqf).2.2.2.2.2.2.2.2.2.2.1,aq)) (hv:=⟨bi.one⟩) du Z cf ag cs (fun c hc=>by obtain⟨_,_,rfl,rfl,⟨_,_,rfl,rfl,⟨_,_,rfl,⟨z273v2,rfl,z273h2⟩,⟨_,_,rfl,rfl,⟨_,_,rfl,rfl,⟨_,_,rfl,rfl,⟨_,_,rfl,rfl,⟨_,_,rfl,rfl,⟨_,_,rfl,rfl,⟨_,_,rfl,rfl,⟨_,_,rfl,⟨z273v10,rfl,z273h10⟩,⟨z273v11,rfl,z273h11⟩⟩⟩⟩⟩⟩⟩⟩⟩⟩⟩⟩:=hc;show Rp.rel ZR _ _ [.string ⟨((p.getD a1 Qqf).1).toArray⟩,No ((p.getD a1 Qqf).2.1),z273v2,No ((p.getD a1 Qqf).2.2.2.1),.bool ((p.getD a1 Qqf).2.2.2.2.1),No ((p.getD a1 Qqf).2.2.2.2.2.1),No ((p.getD a1 Qqf).2.2.2.2.2.2.1),No ((p.getD a1 Qqf).2.2.2.2.2.2.2.1),No ((p.getD a1 Qqf).2.2.2.2.2.2.2.2.1),No ((p.getD a1 Qqf).2.2.2.2.2.2.2.2.2.1),z273v10,an];exact⟨_,_,Z,Z,⟨_,_,Z,Z,⟨_,_,Z,⟨_,Z,z273h2⟩,⟨_,_,Z,Z,⟨_,_,Z,Z,⟨_,_,Z,Z,⟨_,_,Z,Z,⟨_,_,Z,Z,⟨_,_,Z,Z,⟨_,_,Z,Z,⟨_,_,Z,⟨_,Z,z273h10⟩,⟨_,Z,bi⟩⟩⟩⟩⟩⟩⟩⟩⟩⟩⟩⟩) ?_
 intro fe dw dx cg cd;refine Am<|AI 1 Z<|Ay ?_
 cases h
 refine Ak Z ?_;have dy:=dx.AM (i:=0) Z;have cd:=cd.mono (Ab (cg.trans (Ae (i:=0) Z)));have hT:=hT.trans (cg.trans (Ae (i:=0) Z));exact⟨dw,Z,dy,hT,cd⟩
def Iu(a:List ZJ):Option (((List ZJ))×QqJ):=
 QqB (Dy a) (fun b=>if b.1=0/\b.2=0 then some (a,(0,0))else none)
def HG(d:List (List Zg))(e:List ZJ):(List ZJ)×Int->Option (((List ZJ)×Int)⊕(((List ZJ))×QqJ)):=fun⟨b,a⟩=>
 if a<(e.length:Int)then Bi (0<=a/\a<(b.length:Int)) (Bi (0<=a/\a<(d.length:Int)) (QqB (Ja b a.toNat (d.getD a.toNat Qqf)) (fun c=>if !c.1 then none else Bi (BX (a+1)) (some (Sum.inl (c.2,(a+1)))))))else QqD Sum.inr (Iu b)
def Kk(a:List (List Zg))(b:List ZJ)(s:(List ZJ)×Int):Option (((List ZJ))×QqJ):=Go.L.run (HG a b) s
def Iv(b:List (List Zg))(a:List ZJ):Option (((List ZJ))×QqJ):=
 (Kk b a) (a,0)
def HH:(List (List Zg))×(List ZJ)×Zg×Int->Option (((List (List Zg))×(List ZJ)×Zg×Int)⊕(((List ZJ))×QqJ)):=fun⟨d,e,b,c⟩=>
 if b=([]:Zg)then QqD Sum.inr (Iv d e)else QqB (JU b ([10]:Zg)) (fun f=>QqB (Iq f.1) (fun a=>if(bif !a.2.2 then true else !f.2.2)then none else Bi (Go.E.Gg 152 (e.length+([a.1]).length)) (Bi (Go.E.Gg 24 (d.length+([a.2.1]).length)) (Bi (BX (c+1)) (some (Sum.inl ((d++[a.2.1]),(e++[a.1]),f.2.1,(c+1))))))))
def Kl(s:(List (List Zg))×(List ZJ)×Zg×Int):Option (((List ZJ))×QqJ):=Go.L.run HH s
def HI(a0:Zg):Option (((List ZJ))×QqJ):=
 if 2000<(a0.length:Int)then none else Kl (([]:List (List Zg)),([]:List ZJ),a0,0)
section
variable(w:World)(H:PH)(hH:Le H (hp w)) include hH
theorem OG(hU:I3 H){a0:Zg}{r:((List ZJ))×QqJ}(h:HI a0=some r):
  Zy 4 [Zf a0] w (fun v w'=>∃u0,v=.tuple #[.agg #[u0],.agg #[No r.2.1,No r.2.2]]/\CE 53 ZR H w w' u0 (r.1)):=by
 refine AL 86 [(0,(Zf a0))] func4 Z fun hL=>Av<|AG HQ.e Z hL fun w1 b1 dc ds _=>AG Bt.e Z dc fun w2 b2 dd dt _=>Am<|AN<|BN 1 Z<|Ah (K4 Z)<|A4 1 Z<|AY h ?_ ?_<;>intro de h
 ·cases h
 refine A5<|A3<|Av<|AG HQ.e Z dd fun w6 b6 df du _=>Am<|BN 1 Z ?_;obtain⟨dg,dv,br⟩:=CH (.vec .st) H 31 df;refine Am<|Bs ((List (List Zg))×(List ZJ)×Value×QqK×Value×QqK) (fun⟨o,an,p,d,j,ac⟩=>[(2,(Ze b1)),(3,(Ze b2)),(4,(Ze b6)),(5,p)]) (fun⟨o,an,p,d,j,ac⟩ wr=>DK w [.row j 53 12 (an).length ac,.row p 31 1 (o).length d,.box b6 [j] 25,.box b2 [No 0,No 0] 27,.box b1 [Zd] 25] wr fun Oz=>A6 ZR (gz H w wr Oz) an ac/\A6 (.vec .st) (gz H w wr Oz) o d/\Iv o an=some r) ?_ ?_
 ·refine AI 1 Z<|AA ?_;obtain⟨c3,b7,c4⟩:=CH ZR H 53 dg;obtain⟨bs,h⟩:=Bf h;have br:=br.mono (Ab b7)
  refine BB ((List (List Zg))×(List ZJ)×Zg×Int×Value×QqK×Value×QqK×Nat) (fun⟨ad,ae,af,t,aj,u,ak,x,n⟩=>[(0,(Zf af)),(2,(Ze b1)),(3,(Ze b2)),(4,(Ze b6)),(5,aj),(6,No t)]) (fun⟨ad,ae,af,t,aj,u,ak,x,n⟩ wr=>DK w [.row ak 53 12 (ae).length x,.row aj 31 1 (ad).length u,.box b6 [ak] 25,.box b2 [No 0,No 0] 27,.box b1 [Zd] 25] wr fun Oz=>A6 ZR (gz H w wr Oz) ae x/\A6 (.vec .st) (gz H w wr Oz) ad u/\FX HH n (ad,ae,af,t)=some r) (fun⟨ad,ae,af,t,aj,u,ak,x,n⟩=>n) (([]:List (List Zg)),([]:List ZJ),a0,0,Zd,[],Zd,[],bs) Z ⟨c3,c4,br,h⟩ ?_
  rintro⟨ad,ae,af,t,aj,u,ak,x,nn92⟩ dw ⟨bd,ao,ap,h⟩;obtain⟨bs,en,rfl,h,bt⟩:=Bd h;refine AN<|BN 1 Z<|Ah (Me Z Z)<|Am<|DI h ?_ ?_<;>intro c5 h
  ·refine A5<|A3<|AN<|AA<|BN 1 Z<|Ax h fun dh c6 h=>A9 bd (Mv _ _ (Al bd) c6) fun eo dx al bg=>A4 7 Z<|BN 1 Z<|Ax h fun ay c7 h=>Bh al (Nv _ _ (Al al) (hU.mono  Ai) c7) ?_;rintro _ dy ⟨di,dj,dk,dl,rfl,bm,bn,bo,bp⟩ aq b8 a9;have y:=bm.Cu hH al aq;have z:=bn.Cu hH al aq;have aa:=bo.Cu hH al aq;have ab:=bp.Cu hH al aq;refine Aw 4 Z<|AG Bp.e Z b8 fun dz d0 b9 e _=>Ar 0 Z b9 Z (a:=(Be Z (Be Z (Be y.one (TL 7 Z (Be z.one (Be aa.one Gr))))))) fun d1 ar f=>A4 2 Z<|AN ?_;have b:=ar.rG H;refine BN 3 Z<|L3 2 2 Z Z Z Z Z Z Z<|Am<|Bm h ?_ ?_<;>intro ca h
   ·cases h
   refine A5<|A3<|A2<|Ah (Af Z Zv Z Hg.e)<|Ah (Ag 3 Z ar Z)<|Ah (Az 0 Z Bp.e ar Z) ?_;have y:=y.mono (Ab (e.trans f));have z:=z.mono (Ab (e.trans f));have aa:=aa.mono (Ab (e.trans f));refine Br [ay.1] (r:=ZR) (hr:=(fun _=>VM _ _ _ _ _ _ _ _ _ _ _ _ _)) (Bw 1) ar (.c12 ⟨_,_,Z,Z,⟨_,_,Z,Z,⟨_,_,Z,⟨_,Z,(y.mono b)⟩,⟨_,_,Z,Z,⟨_,_,Z,Z,⟨_,_,Z,Z,⟨_,_,Z,Z,⟨_,_,Z,Z,⟨_,_,Z,Z,⟨_,_,Z,Z,⟨_,_,Z,⟨_,Z,(z.mono b)⟩,⟨_,Z,(aa.mono b)⟩⟩⟩⟩⟩⟩⟩⟩⟩⟩⟩⟩ .nil) fun d2 d3 dm cb bu cc=>A8 h fun cd h=>?_;have ao:=ao.mono (Ab (bg.trans (a9.trans (e.trans f))));have b:=b.trans (Ab bu)
   refine Ca (r:=ZR) 1 ae [ay.1] Z Zw cb Z (ao.mono b) cc cd fun c8 d4 ce cf bv a5=>Aw 2 Z ?_;have ab:=ab.mono (Ab (e.trans f));have b:=b.trans (Ab bv);refine Br [ay.2.1] (r:=(.vec .st)) (hr:=(fun _=>VQ _ (ab.mono b).one _)) (Bw 1) cf (.c1 ⟨_,Z,(ab.mono b)⟩ .nil) fun d5 d6 dn cg ba ch=>A8 h fun ci h=>?_;have ap:=ap.mono (Ab (bg.trans (a9.trans (e.trans f))));have b:=b.trans (Ab ba);refine Ca (r:=(.vec .st)) 2 ad [ay.2.1] Z Z1 cg Z (ap.mono b) ch ci fun c9 d7 cj bh bw a6=>Aw 1 Z<|Ah (Af Z Zv Z Hg.e)<|Bc 3 Z Z (row_one (bh.at (i:=1) Z)) bh Z Z fun d8 ck bb=>Aw 2 Z<|AQ<|AB<|A3<|A2<|Aw 1 Z<|A8 h fun cl h=>?_
   refine Ah (AH cl)<|Aw 1 Z<|AQ ?_;have cm:=ck.AM (i:=0) Z;have h:=Ct.again h bt;have a5:=a5.mono (Ab (ba.trans (bw.trans (bb.trans (Ae (i:=0) Z)))));have a6:=a6.mono (Ab (bb.trans (Ae (i:=0) Z)));refine AS ((ad++[ay.2.1]),(ae++[ay.1]),dh.2.1,(t+1),c9,cj,c8,ce,bs) ⟨cm,a5,a6,h⟩
  refine BA<|AP<|AJ ?_;have h:=Ct.out h bt;refine Bu<|A7 (ad,ae,aj,u,ak,x) ⟨bd,ao,ap,h⟩
 rintro⟨o,an,p,d,j,ac⟩ d9 ⟨be,cn,c,h⟩;refine Bs ((List ZJ)×QqK) (fun⟨am,ag⟩=>[(2,(Ze b1)),(3,(Ze b2)),(4,(Ze b6))]) (fun⟨am,ag⟩ wr=>DK w [.row j 53 12 (am).length ag,.row p 31 1 (o).length d,.box b6 [j] 25,.box b2 [No 0,No 0] 27,.box b1 [Zd] 25] wr fun Oz=>A6 ZR (gz H w wr Oz) am ag/\A6 (.vec .st) (gz H w wr Oz) o d/\Iu am=some r) ?_ ?_
 ·refine Av<|Ah (Af Z Zv Z Hg.e)<|Ah (Ag 2 Z be Z)<|Ah (Pb 0 Z be Z)<|A4 1 Z<|AA ?_;obtain⟨bf,h⟩:=Bf h;refine BB ((List ZJ)×Int×QqK×Nat) (fun⟨s,a,g,n⟩=>[(2,(Ze b1)),(3,(Ze b2)),(4,(Ze b6)),(5,p),(58,No (an.length:Int)),(59,No a)]) (fun⟨s,a,g,n⟩ wr=>DK w [.row j 53 12 (s).length g,.row p 31 1 (o).length d,.box b6 [j] 25,.box b2 [No 0,No 0] 27,.box b1 [Zd] 25] wr fun Oz=>A6 ZR (gz H w wr Oz) s g/\A6 (.vec .st) (gz H w wr Oz) o d/\FX (HG o an) n (s,a)=some r) (fun⟨s,a,g,n⟩=>n) (an,0,ac,bf) Z ⟨be,cn,c,h⟩ ?_;rintro⟨s,a,g,nn180⟩ dp ⟨a7,ah,c,h⟩;obtain⟨bf,ea,rfl,h,bi⟩:=Bd h
  refine AI 1 Z<|AN<|AY h ?_ ?_<;>intro co h
  ·refine A5<|A3<|AN<|AA<|AI 2 Z<|Dq (ZX 0 9 (.tail 9)) mixed V (fun eb bj=>?_);have k:=a7.call bj;have bc:=Ba a7 bj;refine B9 Z (Az 2 Z HQ.e k Z) Z<|B9 Z (Af Z Zv Z Hg.e) Z<|B9 Z (Ag 2 Z k Z) Z<|BW 1 Z<|A8 h fun bk h=>N9 0 Z Z Z Zw Bp.e k Z a.toNat (Dw bk) (AK bk) Z fun ec cp=>BW 2 Z<|A8 h fun a8 h=>N9 1 Z Z Z Z1 C3.e k Z a.toNat (Dw a8) (AK a8) Z ?_;intro ed cq;have c:=c.mono (Ab bc);obtain⟨_,cr,hcell188⟩:=c.at a.toNat _ (getD_some ((AK a8)));obtain⟨e188v0,rfl,e188h0⟩:=cr;refine B9 Z (V4 1 k cq (hcell188 0 _ Z)) Z<|BM (fun ee bl=>?_);have cs:=k.call bl;have ax:=Ba k bl;refine Ax h fun da ct h=>?_;have ah:=ah.mono (Ab (bc.trans ax));have e188h0:=e188h0.mono (Ab ax)
   refine BR (NI (a0:=s) (a1:=a.toNat) (a2:=(o.getD a.toNat Qqf)) (O:=[.row p 31 1 (o).length d,.box b6 [j] 25,.box b2 [No 0,No 0] 27,.box b1 [Zd] 25]) hH cs ah cp e188h0 ct) ?_;rintro _ ef ⟨y193_1,rfl,cu,bx,bq⟩;refine A4 1 Z<|Bm h ?_ ?_<;>intro cv h
   ·cases h
   refine A5<|AB<|A3<|A2<|A8 h fun cw h=>Ah (AH cw)<|Aw 1 Z<|AQ ?_;have h:=Ct.again h bi;have c:=c.mono (Ab (ax.trans bx));refine AS (_,_,_,_) ⟨cu,bq,c,h⟩
  refine BA<|AP<|AJ ?_;have h:=Ct.out h bi;refine Bu<|A7 (_,_) ⟨a7,ah,c,h⟩
 rintro⟨am,ag⟩ dq ⟨au,ai,c,h⟩;refine AN<|Av<|Ah (Az 2 Z HQ.e au Z)<|Ax h fun eg cx h=>A9 au (G1 _ _ (Le.refl _) (hU.mono (hH.trans au.arg)) am (au.KM hH (i:=0) Z ai) cx) fun eh dr cy bz=>AG Bt.e Z cy fun ei ej cz b0 _=>Ar 0 Z cz Z fun ek av b3=>Am<|Av<|Ah (Az 0 Z Bt.e av Z)<|Ah (Bk (fun _=>CK _))<|Ah (KS K7 (Nl _ _ _ _))<|Am<|DI h ?_ ?_<;>intro c0 h
 ·cases h
 refine A5<|A3<|Av<|Ah (Az 3 Z HQ.e av Z)<|Ah (Bk (fun _=>CK _))<|Ar 5 Z av Z (a:=(Be (row_one (av.at (i:=1) Z)) Gr)) fun el c2 b4=>Ar 4 Z c2 Z fun em aw b5=>Am<|Ay ?_
 cases h
 refine FF (.cell Z Zv Z HQ.e (B0 (i:=5) aw Z)) (.cell Z Zl Z Bt.e (B0 (i:=4) aw Z)) ?_;have ai:=ai.mono (Ab (bz.trans (b0.trans (b3.trans (b4.trans b5)))));exact⟨aw.ext,_,Z,(aw.Hv hH (i:=1) Z ai)⟩
def FR(a0:List Pv):Option (Pv):=
 some ((Pv.mk (3:Int) (0:Int) ([]) ([]) a0))
theorem J3{a0:List Pv}{a:Value}(b:AD .tree H a a0){r:Pv}(h:FR a0=some r):
  Zy 54 [a] w (fun v w'=>∃d e g,v=.agg #[No r.f.1,No r.f.2.1,d,e,g]/\CE 5 .byte H w w' d (r.f.2.2.1)/\CE 9 .st H w w' e (r.f.2.2.2.1)/\AD .tree (un H (nw w w')) g (r.f.2.2.2.2)):=by
 refine AL 5 [(0,a)] func54 Z fun hL=>Av<|AG Bg.e Z hL fun m o j k _=>Am<|BN 1 Z<|Ah (Bk (fun _=>T1 _ _ b.one _))<|Ar 0 Z j Z (a:=(Be Z (Be Z (Be Z (Be Z (Be b.one Gr)))))) fun p c l=>Am<|Ay ?_
 cases h
 refine Eo (.cell Z Z2 Z Bg.e (B0 (i:=0) c Z)) ⟨c.ext,_,_,_,Z,CE.nil,CE.nil,(b.mono (I1 hH))⟩
def G9(a0:Int):Option (Pv):=
 some ((Pv.mk (1:Int) a0 ([]) ([]) ([])))
theorem KD{a0:Int}{r:Pv}(h:G9 a0=some r):
  Zy 55 [No a0] w (fun v w'=>∃b c d,v=.agg #[No r.f.1,No r.f.2.1,b,c,d]/\CE 5 .byte H w w' b (r.f.2.2.1)/\CE 9 .st H w w' c (r.f.2.2.2.1)/\CE 34 .tree H w w' d (r.f.2.2.2.2)):=by
 refine AL 5 [(0,No a0)] func55 Z fun hL=>Av<|AG Bg.e Z hL fun k l e g _=>Am<|BN 1 Z<|Ah (Bk (fun _=>Qn _ _ _))<|Ar 0 Z e Z fun m a j=>Am<|Ay ?_
 cases h
 refine Eo (.cell Z Z2 Z Bg.e (B0 (i:=0) a Z)) ⟨a.ext,_,_,_,Z,CE.nil,CE.nil,CE.nil⟩
def Gm(a0:Zg):Option (Pv):=
 QqB (CW a0) (fun a=>some ((Pv.mk (2:Int) (0:Int) a ([]) ([]))))
theorem NJ{a0:Zg}{b:Value}(g:AD .byte H b a0){r:Pv}(h:Gm a0=some r):
  Zy 57 [b] w (fun v w'=>∃k l m,v=.agg #[No r.f.1,No r.f.2.1,k,l,m]/\AD .byte (un H (nw w w')) k (r.f.2.2.1)/\CE 9 .st H w w' l (r.f.2.2.2.1)/\CE 34 .tree H w w' m (r.f.2.2.2.2)):=by
 refine AL 6 [(0,b)] func57 Z fun hL=>Av<|AG Bg.e Z hL fun x y c s _=>Am<|BN 1 Z<|Ax h fun z o h=>Bh c (F5 _ _ (Al c) (g.mono  Ai) o) ?_;rintro t w3 ⟨_,rfl,d⟩ p q u;have a:=d.Cu hH c p;refine Ah (Bk (fun _=>Qo _ _ a.one _))<|Ar 0 Z q Z (a:=(Be Z (Be Z (Be a.one (B7 Z))))) fun w4 e j=>Am<|Ay ?_
 cases h
 refine Eo (.cell Z Z2 Z Bg.e (B0 (i:=0) e Z)) ?_;have a:=a.mono (Ab j);exact⟨e.ext,_,_,_,Z,(a.mono (IS hH)),CE.nil,CE.nil⟩
def Ft(a0:ZJ)(a1:Int):Option Bool:=
 if a0.2.2.2.2.2.1<=a1 then some (decide (a1<=a0.2.2.2.2.2.2.1))else some false
theorem Jl{a0:ZJ}{a1:Int}{b c d:Value}(_h0_0:AD .byte H b (a0.2.2.1))(_h0_1:AD .st H c (a0.2.2.2.2.2.2.2.2.2.2.1))(_h0_2:AD (.int .i64) H d (a0.2.2.2.2.2.2.2.2.2.2.2)){r:Bool}(h:Ft a0 a1=some r):
  Zy 106 [.agg #[Zf a0.1,No a0.2.1,b,No a0.2.2.2.1,.bool a0.2.2.2.2.1,No a0.2.2.2.2.2.1,No a0.2.2.2.2.2.2.1,No a0.2.2.2.2.2.2.2.1,No a0.2.2.2.2.2.2.2.2.1,No a0.2.2.2.2.2.2.2.2.2.1,c,d],No a1] w (fun v w'=>v=.bool r):=by
 refine AL 15 [(0,.agg #[Zf a0.1,No a0.2.1,b,No a0.2.2.2.1,.bool a0.2.2.2.2.1,No a0.2.2.2.2.2.1,No a0.2.2.2.2.2.2.1,No a0.2.2.2.2.2.2.2.1,No a0.2.2.2.2.2.2.2.2.1,No a0.2.2.2.2.2.2.2.2.2.1,c,d]),(1,No a1)] func106 Z fun hL=>Av<|C1 (t:=53) Z Z hL fun g i e f _=>A4 1 Z<|BN 1 Z<|Ah (Af Z Zs Z B6.e)<|Ah (Ag 0 Z e Z)<|Aw 2 Z<|AU 9 h ?_ ?_<;>intro a h
 ·refine Aa a<|Ah (Ad Z)<|Aa a<|Ah (Af Z Zs Z B6.e)<|Aa a<|Ah (Ag 0 Z e Z)<|Aa a<|Ah (Ad Z)<|Ah (Aj a Z)<|A4 1 Z<|Ay ?_
  cases h
  refine Ak Z ⟨e.ext,Z⟩
 iterate 4 refine Ac a ?_
 refine Ah (An a Z)<|A4 1 Z<|Ay ?_
 cases h
 refine Ak Z ⟨e.ext,Z⟩
def DR(a0:Zg):Option Bool:=
 some (decide (a0=([]:Zg)))
theorem HM{a0:Zg}{r:Bool}(h:DR a0=some r):
  Zy 109 [Zf a0] w (fun v w'=>v=.bool r):=by
 refine AL 5 [(0,(Zf a0))] func109 Z fun hL=>AI 1 Z<|BN 1 Z<|Ah (Kn Z Z)<|A4 1 Z<|Ay ?_
 cases h
 refine Ak Z ⟨hL.ext,Z⟩
def Jb:Option Int:=
 some ((-1))
def Iw(a0:List Zg):Int->Option ((Int)⊕(Int)):=fun a=>
 if a<(a0.length:Int)then Bi (0<=a/\a<(a0.length:Int)) (QqB (DR (a0.getD a.toNat Qqf)) (fun b=>if b then QqD Sum.inr (some a)else Bi (BX (a+1)) (some (Sum.inl (a+1)))))else QqD Sum.inr Jb
def KE(a0:List Zg)(s:Int):Option Int:=Go.L.run (Iw a0) s
def KX(a0:List Zg):Option Int:=
 (KE a0) (0:Int)
theorem P6{a0:List Zg}{b:Value}(e:AD .st H b a0){r:Int}(h:KX a0=some r):
  Zy 139 [b,.func (.func 109) #[] #[]] w (fun v w'=>v=No r):=by
 refine AL 19 [(0,b),(1,.func (.func 109) #[] #[])] func139 Z fun hL=>AI 1 Z<|Bs Unit (fun(_:Unit)=>[]) (fun(_:Unit) wr=>AZ w [] wr/\Jb=some r) ?_ ?_
 ·refine BN 1 Z<|Ah (AX e)<|A4 1 Z<|AA ?_;obtain⟨f,h⟩:=Bf h;refine BB (Int×Nat) (fun⟨a,n⟩=>[(0,b),(1,.func (.func 109) #[] #[]),(7,No (a0.length:Int)),(8,No a)]) (fun⟨a,n⟩ wr=>AZ w [] wr/\FX (Iw a0) n a=some r) (fun⟨a,n⟩=>n) (0,f) Z ⟨hL,h⟩ ?_;rintro⟨a,nn42⟩ s ⟨c,h⟩;obtain⟨f,x,rfl,h,d⟩:=Bd h;refine AI 1 Z<|AN<|AY h ?_ ?_<;>intro j h
  ·refine A5<|A3<|AN<|AA<|AI 2 Z<|BN 3 Z<|A8 h fun g h=>Bb e a.toNat (Dw g) (AK g) ?_;rintro y _ rfl k;refine Ah (AV k (hH.trans c.arg))<|Ax h fun z l h=>Mk c (HM _ _ (Al c) l) ?_;rintro _ aa rfl t i q;refine Am<|Bm h ?_ ?_<;>intro m h
   ·refine AI 2 Z<|Ay<|A1<|AE<|BQ ?_;have h:=Ct.out h d;refine A1<|BC ?_
    cases h
    refine Ak Z ⟨i.ext,Z⟩
   refine A5<|AB<|A3<|A2<|A8 h fun o h=>Ah (AH o)<|Aw 1 Z<|AQ ?_;have h:=Ct.again h d;refine AS (_,_) ⟨i,h⟩
  refine BA<|AP<|AJ ?_;have h:=Ct.out h d;refine Bu<|A7 () ⟨c,h⟩
 rintro _ u ⟨p,h⟩;refine AI 1 Z<|Ay ?_
 cases h
 refine Ak Z ⟨p.ext,Z⟩
def I9(a:List QqX):Option ((List QqX)):=
 some a
def EL(a0:(List ZJ)):(List QqX)×Int->Option (((List QqX)×Int)⊕((List QqX))):=fun⟨b,a⟩=>
 if a<(a0.length:Int)then QqB (Kw a0 a) (fun c=>Bi (Go.E.Gg 24 (b.length+([c.1]).length)) (Bi (BX (a+1)) (some (Sum.inl ((b++[c.1]),(a+1))))))else QqD Sum.inr (I9 b)
def Nx(a0:(List ZJ))(s:(List QqX)×Int):Option ((List QqX)):=Go.L.run (EL a0) s
def Km(a0:(List ZJ)):Option ((List QqX)):=
 (Nx a0) (([]:List QqX),0)
theorem Ny(hU:I3 H){a0:(List ZJ)}{j:Value}(x:AD ZR H j a0){r:(List QqX)}(h:Km a0=some r):
  Zy 19 [.agg #[j]] w (fun v w'=>∃u0,v=u0/\CE 38 (.vec (.int .i64)) H w w' u0 r):=by
 refine AL 25 [(0,.agg #[j])] func19 Z fun hL=>Av<|C1 (t:=25) Z Z hL fun w1 b1 ay a4 _=>A4 1 Z<|BN 1 Z ?_;obtain⟨ag,a5,az⟩:=CH (.vec (.int .i64)) H 38 ay;refine Am<|Bs ((List QqX)×Value×QqK) (fun⟨p,o,f⟩=>[(3,o)]) (fun⟨p,o,f⟩ wr=>DK w [.row o 38 1 (p).length f,.box b1 [j] 25] wr fun Oz=>A6 (.vec (.int .i64)) (gz H w wr Oz) p f/\I9 p=some r) ?_ ?_
 ·refine Av<|Ah (Af Z Zv Z Hg.e)<|Ah (Ag 1 Z ag Z)<|Ah (AX x)<|A4 1 Z<|AA ?_;obtain⟨y,h⟩:=Bf h;refine BB ((List QqX)×Int×Value×QqK×Nat) (fun⟨c,a,e,b,n⟩=>[(1,(Ze b1)),(3,e),(9,No (a0.length:Int)),(10,No a)]) (fun⟨c,a,e,b,n⟩ wr=>DK w [.row e 38 1 (c).length b,.box b1 [j] 25] wr fun Oz=>A6 (.vec (.int .i64)) (gz H w wr Oz) c b/\FX (EL a0) n (c,a)=some r) (fun⟨c,a,e,b,n⟩=>n) (([]:List QqX),0,Zd,[],y) Z ⟨ag,az,h⟩ ?_;rintro⟨c,a,e,b,nn47⟩ a6 ⟨k,g,h⟩;obtain⟨y,a9,rfl,h,z⟩:=Bd h;refine AI 1 Z<|AN<|AY h ?_ ?_<;>intro ai h
  ·refine A5<|A3<|AN<|AA<|AI 2 Z<|Av<|Ah (Az 1 Z HQ.e k Z)<|Aw 1 Z<|Ax h fun aa aj h=>Bh k (OF (a0:=a0) _ _ (Al k) (hU.mono  Ai) (x.mono  Ai) aj) ?_;rintro _ ba ⟨a2,rfl,ab⟩ ak al ad;have d:=ab.Cu hH k ak;refine Aw 3 Z<|AG Bt.e Z al fun bb bc am s _=>Aw 1 Z<|Ar 0 Z am Z fun bd an u=>Am<|A2<|Aw 2 Z ?_;have d:=d.mono (Ab (s.trans u));refine Br [aa.1] (r:=(.vec (.int .i64))) (hr:=(fun _=>SN _ d.one _)) (Bw 1) an (.c1 ⟨_,Z,d⟩ .nil) fun be bf a7 ao ae ap=>A8 h fun aq h=>?_;have g:=g.mono (Ab (ad.trans (s.trans (u.trans ae))));refine Ca (r:=(.vec (.int .i64))) 1 c [aa.1] Z Z3 ao Z g ap aq fun a1 bg ar au a3 q=>Aw 1 Z<|AQ<|AB<|A3<|A2<|A8 h fun av h=>Ah (AH av)<|Aw 1 Z<|AQ ?_;have aw:=au.AM (i:=0) Z
   have h:=Ct.again h z;have q:=q.mono (Ab (Ae (i:=0) Z));refine AS (_,_,_,_,_) ⟨aw,q,h⟩
  refine BA<|AP<|AJ ?_;have h:=Ct.out h z;refine Bu<|A7 (_,_,_) ⟨k,g,h⟩
 rintro⟨p,o,f⟩ a8 ⟨ac,af,h⟩;refine AI 2 Z<|Ay ?_
 cases h
 refine Ak Z ⟨ac.ext,_,Z,(ac.Hv hH (i:=0) Z af)⟩
end
end Go.Proofs.YtfgomcdgmihmpaaGreatDoor
end
