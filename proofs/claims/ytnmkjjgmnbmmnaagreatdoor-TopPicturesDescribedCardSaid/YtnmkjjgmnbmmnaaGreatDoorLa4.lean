/- Texts of a claim, merged. -/
import Derived.Test.YtnmkjjgmnbmmnaaGreatDoorLa3
import Derived.KernelRfl
open _root_.Go.Proofs.Tryz renaming underlying22→Aag,underlying27→Aaj,underlying50→Aak,underlying38→Aam,underlying31→Aan,underlying170→Aao,underlying25→Aas,underlying23→Aat,underlying82→Aaw,underlying46→Aay
open Option renaming bind->Qq8,map->Qzq
open List renaming length_append->Qzk,replicate->Qzw,eq_nil_of_length_eq_zero->Qz0,length_drop->QzQ,append_assoc->Qxz,drop_eq_nil_of_le->Qxf,drop->Qz8,size_toArray->QxZ
open Nat renaming le_refl->Qzx,blt->Qzz,zero_le->Qzb,add_mul->QzZ,zero_mul->Qxx
set_option linter.unusedVariables false
set_option linter.unusedSimpArgs false
set_option linter.unusedSectionVars false
noncomputable section
namespace Go
abbrev AaJ:=AaE×(List Aae)×Bool
end Go
namespace Go
abbrev AaH:=(List Aae)×Bool×(List Aae)
end Go
namespace Go.Proofs.YtnmkjjgmnbmmnaaGreatDoor
open Go Go.E Go.RowKit Go.L
set_option maxHeartbeats 1000000
set_option maxRecDepth 10000
open _root_.Go.Proofs.Tryz
def Km(a0:AaE)(a1:Aae):Option Bool:=
 some (decide (a0.1=a1))
theorem OS{a w:World}{H:PH}(hH:Le H (hp a)){O:List BN}{a0:AaE}{a1:Aae}{va0_2 va0_10 va0_11:Value}{ba1:Nat}(hL:AW a (Ha [.box ba1 [Aad a1] 9] O) w)(_ha0_2:AL .byte (gz H a w (Ha [.box ba1 [Aad a1] 9] O)) va0_2 (a0.2.2.1))(_ha0_10:AL .st (gz H a w (Ha [.box ba1 [Aad a1] 9] O)) va0_10 (a0.2.2.2.2.2.2.2.2.2.2.1))(_ha0_11:AL (.int .i64) (gz H a w (Ha [.box ba1 [Aad a1] 9] O)) va0_11 (a0.2.2.2.2.2.2.2.2.2.2.2)){r:Bool}(h:Km a0 a1=some r):
  Ok prog 88 [.agg #[Aad a0.1,No a0.2.1,va0_2,No a0.2.2.2.1,.bool a0.2.2.2.2.1,No a0.2.2.2.2.2.1,No a0.2.2.2.2.2.2.1,No a0.2.2.2.2.2.2.2.1,No a0.2.2.2.2.2.2.2.2.1,No a0.2.2.2.2.2.2.2.2.2.1,va0_10,va0_11],Aac ba1] w (fun v w'=>v=.bool r/\AW a (Ha [.box ba1 [Aad a1] 9] O) w'/\Le (fz w (Ha [.box ba1 [Aad a1] 9] O)) (fz w' (Ha [.box ba1 [Aad a1] 9] O))):=by
 refine BC (n:=8) [(0,.agg #[Aad a0.1,No a0.2.1,va0_2,No a0.2.2.2.1,.bool a0.2.2.2.2.1,No a0.2.2.2.2.2.1,No a0.2.2.2.2.2.2.1,No a0.2.2.2.2.2.2.2.1,No a0.2.2.2.2.2.2.2.2.1,No a0.2.2.2.2.2.2.2.2.2.1,va0_10,va0_11]),(1,(Aac ba1))] func88 Z Z Z Z ?_;have hT:=Le.refl (fz w (Ha [.box ba1 [Aad a1] 9] O));refine Aq<|Cj (t:=50) Z Z hL fun e f b c _=>A1 1 Z<|Aq<|Ag (Af Z Aak Z LH.e)<|Ag (Ae 0 Z b Z)<|Ag (Ae 1 Z b Z)<|Ag (Ll Z Z)<|A1 1 Z<|Au ?_
 cases h
 refine Aj Z ?_;have d:=b.AR (i:=0) Z;have hT:=hT.trans (c.trans (Ah (i:=0) Z));exact⟨Z,d,hT⟩
def Ct:Option Int:=
 some ((-1))
def Cm(a0:List AaE)(a1_c0:Aae):Int->Option ((Int)⊕(Int)):=fun a=>
 if a<(a0.length:Int)then Bb (0<=a/\a<(a0.length:Int)) (Qq8 (Km (a0.getD a.toNat Qq1) a1_c0) (fun b=>if b then Qzq Sum.inr (some a)else Bb (BH (a+1)) (some (Sum.inl (a+1)))))else Qzq Sum.inr Ct
def Dd(a0:List AaE)(a1_c0:Aae)(s:Int):Option Int:=Go.L.run (Cm a0 a1_c0) s
def CA(a0:List AaE)(a1_c0:Aae):Option Int:=
 (Dd a0 a1_c0) (0:Int)
theorem It{d w:World}{H:PH}(hH:Le H (hp d)){O:List BN}{a0:List AaE}{a1_c0:Aae}{va0:Value}{ba1_c0:Nat}(hL:AW d (Ha [.box ba1_c0 [Aad a1_c0] 9] O) w)(k:AL AaK (gz H d w (Ha [.box ba1_c0 [Aad a1_c0] 9] O)) va0 a0){r:Int}(h:CA a0 a1_c0=some r):
  Ok prog 87 [va0,.func (.func 88) #[] #[Aac ba1_c0]] w (fun v w'=>v=No r/\AW d (Ha [.box ba1_c0 [Aad a1_c0] 9] O) w'/\Le (fz w (Ha [.box ba1_c0 [Aad a1_c0] 9] O)) (fz w' (Ha [.box ba1_c0 [Aad a1_c0] 9] O))):=by
 refine BC (n:=19) [(0,va0),(1,.func (.func 88) #[] #[Aac ba1_c0])] func87 Z Z Z Z ?_;have hT:=Le.refl (fz w (Ha [.box ba1_c0 [Aad a1_c0] 9] O));refine AI 1 Z<|Bm Unit (fun(_:Unit)=>[]) (fun(_:Unit) wr=>DE d (Ha [.box ba1_c0 [Aad a1_c0] 9] O) wr fun Oz=>Le (fz w (Ha [.box ba1_c0 [Aad a1_c0] 9] O)) (fz wr Oz)/\Ct=some r) ?_ ?_
 ·refine B1 1 Z<|Ag (AT k)<|A1 1 Z<|A8 ?_;obtain⟨g,h⟩:=Bc h;refine Bz (Int×Nat) (fun⟨a,n⟩=>[(0,va0),(1,.func (.func 88) #[] #[Aac ba1_c0]),(7,No (a0.length:Int)),(8,No a)]) (fun⟨a,n⟩ wr=>DE d (Ha [.box ba1_c0 [Aad a1_c0] 9] O) wr fun Oz=>AL AaK (gz H d wr Oz) va0 a0/\Le (fz w (Ha [.box ba1_c0 [Aad a1_c0] 9] O)) (fz wr Oz)/\FW (Cm a0 a1_c0) n a=some r) (fun⟨a,n⟩=>n) (0,g) Z ⟨hL,k,hT,h⟩ ?_;rintro⟨a,nn42⟩ t ⟨e,b,hT,h⟩;obtain⟨g,x,rfl,h,f⟩:=Ba h;refine AI 1 Z<|AM<|AS h ?_ ?_<;>intro l h
  ·refine A4<|A2<|AM<|A8<|AI 2 Z<|B1 3 Z<|A3 h fun i h=>Bf b a.toNat (CT i) (AD i) ?_;rintro y _ ⟨_,_,rfl,rfl,⟨_,_,rfl,rfl,⟨_,_,rfl,⟨e46v2,rfl,e46h2⟩,⟨_,_,rfl,rfl,⟨_,_,rfl,rfl,⟨_,_,rfl,rfl,⟨_,_,rfl,rfl,⟨_,_,rfl,rfl,⟨_,_,rfl,rfl,⟨_,_,rfl,rfl,⟨_,_,rfl,⟨e46v10,rfl,e46h10⟩,⟨e46v11,rfl,e46h11⟩⟩⟩⟩⟩⟩⟩⟩⟩⟩⟩⟩ m;refine Ag (Ce m (Ao e))<|Av h fun z o h=>BU Z Z (OS (a0:=(a0.getD a.toNat Qq1)) (a1:=a1_c0) (O:=(Ha [] O)) hH e e46h2 e46h10 e46h11 o) ?_;rintro _ aa ⟨rfl,j,c⟩;refine Al<|Bi h ?_ ?_<;>intro p h
   ·refine AI 2 Z<|Au<|Ay<|AE<|BM ?_;have h:=BW.out h f;refine Ay<|Bp ?_
    cases h
    refine Aj Z ?_;have hT:=hT.trans c;exact⟨Z,j,hT⟩
   refine A4<|A9<|A2<|Az<|A3 h fun q h=>Ag (AA q)<|Ar 1 Z<|AP ?_;have h:=BW.again h f;have b:=b.mono (Ac c);have hT:=hT.trans c;refine AN (_,_) ⟨j,b,hT,h⟩
  refine Bq<|AK<|AF ?_;have h:=BW.out h f;refine Bj<|AH () ⟨e,hT,h⟩
 rintro _ u ⟨s,hT,h⟩;refine AI 1 Z<|Au ?_
 cases h
 refine Aj Z ⟨Z,s,hT⟩
def K2(a0:List AaE)(a1:Aae):Option Int:=
 Qq8 (CA a0 a1) (fun a=>some a)
section
variable(w:World)(H:PH)(hH:Le H (hp w)) include hH
theorem Nz{a0:List AaE}{a1:Aae}{a:Value}(b:AL AaK H a a0){r:Int}(h:K2 a0 a1=some r):
  Qqv 47 [a,Aad a1] w (fun v w'=>v=No r):=by
 refine AG 8 [(0,a),(1,(Aad a1))] func47 Z fun hL=>Aq<|Nh (t:=9) Z Z hL fun i j c f _=>A1 1 Z<|B1 2 Z<|Av h fun k d h=>BO (It (a0:=a0) (a1_c0:=a1) (O:=[]) hH c (b.mono  Ai) d) ?_;rintro _ l ⟨rfl,e,g⟩;refine A1 1 Z<|Au ?_
 cases h
 refine Aj Z ⟨e.ext,Z⟩
def Fh(a0:AaE)(a2:Int)(a:Bool):Option Int:=
 if a then none else(if 12<(a0.2.2.2.2.2.2.2.2.2.2.2.length:Int)then none else Qq8 (Kl a0 a2) (fun b=>if !b then none else some (0)))
def Iu(a0:AaE)(a1:List AaE)(a2:Int):Option Int:=
 Qq8 (Gn a0.1) (fun c=>if !c then none else Qq8 (K2 a1 a0.1) (fun d=>if 0<=d then none else Qq8 (Hw a0.2.1 (1:Int) (10:Int)) (fun a=>if !a then none else Qq8 (Kk a0) (fun b=>if !b then none else(if((decide (a0.2.1=1))&&(decide ((a0.2.2.1.length:Int)=0)))then none else(if 16<(a0.2.2.1.length:Int)then none else(if((decide (a0.2.1=7))&&(!decide ((a0.2.2.2.2.2.2.2.2.2.2.1.length:Int)=(a0.2.2.2.2.2.2.2.2.2.2.2.length:Int))))then none else(if((decide (a0.2.1=7))&&(decide ((a0.2.2.2.2.2.2.2.2.2.2.2.length:Int)=0)))then(Fh a0 a2) ((decide (a0.2.1=7))&&(decide ((a0.2.2.2.2.2.2.2.2.2.2.2.length:Int)=0)))else(Fh a0 a2) ((decide (a0.2.1=8))&&(decide ((a0.2.2.2.2.2.2.2.2.2.2.2.length:Int)<2)))))))))))
theorem NG{a0:AaE}{a1:List AaE}{a2:Int}{i j k o:Value}(l:AL .byte H i (a0.2.2.1))(p:AL .st H j (a0.2.2.2.2.2.2.2.2.2.2.1))(g:AL (.int .i64) H k (a0.2.2.2.2.2.2.2.2.2.2.2))(ad:AL AaK H o a1){r:Int}(h:Iu a0 a1 a2=some r):
  Qqv 124 [.agg #[Aad a0.1,No a0.2.1,i,No a0.2.2.2.1,.bool a0.2.2.2.2.1,No a0.2.2.2.2.2.1,No a0.2.2.2.2.2.2.1,No a0.2.2.2.2.2.2.2.1,No a0.2.2.2.2.2.2.2.2.1,No a0.2.2.2.2.2.2.2.2.2.1,j,k],o,No a2] w (fun v w'=>v=No r):=by
 refine AG 84 [(0,.agg #[Aad a0.1,No a0.2.1,i,No a0.2.2.2.1,.bool a0.2.2.2.2.1,No a0.2.2.2.2.2.1,No a0.2.2.2.2.2.2.1,No a0.2.2.2.2.2.2.2.1,No a0.2.2.2.2.2.2.2.2.1,No a0.2.2.2.2.2.2.2.2.2.1,j,k]),(1,o),(2,No a2)] func124 Z fun hL=>Aq<|Cj (t:=50) Z Z hL fun w1 b1 u a4 _=>A1 1 Z<|AM<|A8<|Aq<|Ag (Af Z Aak Z LH.e)<|Ag (Ae 0 Z u Z)<|Av h fun x2 au h=>A6 u (Hy _ _ (Ao u) au) fun w3 bb x a5=>A1 2 Z<|Bi h ?_ ?_<;>intro av h
 ·cases h
 refine B1 1 Z<|Ag (Af Z Aak Z LH.e)<|Ag (Ae 0 Z x Z)<|Av h fun x7 aw h=>A6 x (Nz _ _ (Ao x) (ad.mono  Ai) aw) fun w8 bc y a6=>A1 2 Z<|AS h ?_ ?_<;>intro ax h
 ·cases h
 refine Aq<|Ag (Af Z Aak Z B4.e)<|Ag (Ae 0 Z y Z)<|Av h fun bd ae h=>A6 y (Ih _ _ (Ao y) ae) fun be a7 q ay=>A1 2 Z<|Bi h ?_ ?_<;>intro af h
 ·cases h
 refine Aq<|Ag (Ax 0 Z Bl.e q Z)<|Av h fun bf ag h=>A6 q (OM (a0:=a0) _ _ (Ao q) (l.mono  Ai) (p.mono  Ai) (g.mono  Ai) ag) fun bg a8 b az=>A1 2 Z<|Bi h ?_ ?_<;>intro ah h
 ·cases h
 refine Aq<|Ag (Af Z Aak Z B4.e)<|Ag (Ae 0 Z b Z)<|Ar 2 Z<|BS 5 36 (.bool ((decide (a0.2.1=1))&&(decide ((a0.2.2.1.length:Int)=0)))) (fun z=>?_) ?_
 ·refine Bk (s:=31) Z (fun c=>?_) (fun c=>?_)
  ·refine Aa c<|Ag (Af Z Aak Z CC.e)<|Aa c<|Ag (Ae 0 Z b Z)<|Aa c<|Ag (AT l)<|Aa c<|Ag (Ad Z)<|Ag (Ak c Z)<|z.to 4 (FU c) Z Z
  iterate 4 refine Ab c ?_
  refine Ag (Am c Z)<|z.to 4 (FV c) Z Z
 refine A1 1 Z<|Bi h ?_ ?_<;>intro ai h
 ·cases h
 refine Aq<|Ag (Af Z Aak Z CC.e)<|Ag (Ae 0 Z b Z)<|Ag (AT l)<|A1 2 Z<|AS h ?_ ?_<;>intro aj h
 ·cases h
 refine Aq<|Ag (Af Z Aak Z B4.e)<|Ag (Ae 0 Z b Z)<|Ar 2 Z<|BS 8 54 (.bool ((decide (a0.2.1=7))&&(!decide ((a0.2.2.2.2.2.2.2.2.2.2.1.length:Int)=(a0.2.2.2.2.2.2.2.2.2.2.2.length:Int))))) (fun aa=>?_) ?_
 ·refine Bk (s:=46) Z (fun a=>?_) (fun a=>?_)
  ·refine Aa a<|Ag (Af Z Aak Z Cx.e)<|Aa a<|Ag (Ae 0 Z b Z)<|Aa a<|Ag (AT p)<|Aa a<|Ag (Af Z Aak Z E4.e)<|Aa a<|Ag (Ae 0 Z b Z)<|Aa a<|Ag (AT g)<|Aa a<|Ag (Ad Z)<|Ag (Ak a Z)<|aa.to 7 (FU a) Z Z
  iterate 7 refine Ab a ?_
  refine Ag (Am a Z)<|aa.to 7 (FV a) Z Z
 refine A1 1 Z<|Bi h ?_ ?_<;>intro ak h
 ·cases h
 refine Bm Bool (fun f=>[(2,No a2),(3,(Aac b1)),(55,.bool f)]) (fun f wr=>AW w [.box b1 [Aad a0.1,No a0.2.1,i,No a0.2.2.2.1,.bool a0.2.2.2.2.1,No a0.2.2.2.2.2.1,No a0.2.2.2.2.2.2.1,No a0.2.2.2.2.2.2.2.1,No a0.2.2.2.2.2.2.2.2.1,No a0.2.2.2.2.2.2.2.2.2.1,j,k] 50] wr/\(Fh a0 a2) f=some r) ?_ ?_
 ·refine Aq<|Ag (Af Z Aak Z B4.e)<|Ag (Ae 0 Z b Z)<|Ar 2 Z<|BS 5 64 (.bool ((decide (a0.2.1=7))&&(decide ((a0.2.2.2.2.2.2.2.2.2.2.2.length:Int)=0)))) (fun ab=>?_) ?_
  ·refine Bk (s:=59) Z (fun d=>?_) (fun d=>?_)
   ·refine Aa d<|Ag (Af Z Aak Z E4.e)<|Aa d<|Ag (Ae 0 Z b Z)<|Aa d<|Ag (AT g)<|Aa d<|Ag (Ad Z)<|Ag (Ak d Z)<|ab.to 4 (FU d) Z Z
   iterate 4 refine Ab d ?_
   refine Ag (Am d Z)<|ab.to 4 (FV d) Z Z
  refine A1 1 Z<|Bi h ?_ ?_<;>intro al h
  ·refine A4<|AH _ ⟨b,h⟩
  refine Az<|Ag (Af Z Aak Z B4.e)<|Ag (Ae 0 Z b Z)<|Ar 2 Z<|BS 5 73 (.bool ((decide (a0.2.1=8))&&(decide ((a0.2.2.2.2.2.2.2.2.2.2.2.length:Int)<2)))) (fun ac=>?_) ?_
  ·refine Bk (s:=68) Z (fun e=>?_) (fun e=>?_)
   ·refine Aa e<|Ag (Af Z Aak Z E4.e)<|Aa e<|Ag (Ae 0 Z b Z)<|Aa e<|Ag (AT g)<|Aa e<|Ag (Ad Z)<|Ag (Ak e Z)<|ac.to 4 (FU e) Z Z
   iterate 4 refine Ab e ?_
   refine Ag (Am e Z)<|ac.to 4 (FV e) Z Z
  refine Ar 1 Z<|AP<|AH _ ⟨b,h⟩
 rintro f a9 ⟨m,h⟩;refine Bi h ?_ ?_<;>intro am h
 ·cases h
 refine Aq<|Ag (Af Z Aak Z E4.e)<|Ag (Ae 0 Z m Z)<|Ag (AT g)<|A1 2 Z<|AS h ?_ ?_<;>intro an h
 ·cases h
 refine Aq<|Ag (Ax 0 Z Bl.e m Z)<|Ar 1 Z<|Av h fun bh ao h=>A6 m (ON (a0:=a0) _ _ (Ao m) (l.mono  Ai) (p.mono  Ai) (g.mono  Ai) ao) fun bi ba ap a3=>A1 2 Z<|Bi h ?_ ?_<;>intro aq h
 ·cases h
 refine A4<|A9<|A2<|AI 1 Z<|Au ?_
 cases h
 refine Aj Z ⟨ap.ext,Z⟩
def F3(a1:AaE)(a:Int)(b:Bool):Option ((Int)⊕(Int)):=
 if b then none else(if a1.2.2.2.2.2.2.2.2.2.2.1.getD a.toNat Qq1=([]:Aae)then if a1.2.2.2.2.2.2.2.2.2.2.1.getD a.toNat Qq1=([]:Aae)then Bb (BH (a+1)) (some (Sum.inl (a+1)))else Bb (0<=a/\a<=(a1.2.2.2.2.2.2.2.2.2.2.1.length:Int)) (Qq8 (Cg (a1.2.2.2.2.2.2.2.2.2.2.1.take a.toNat) (a1.2.2.2.2.2.2.2.2.2.2.1.getD a.toNat Qq1)) (fun c=>if c then none else Bb (BH (a+1)) (some (Sum.inl (a+1)))))else Qq8 (Gn (a1.2.2.2.2.2.2.2.2.2.2.1.getD a.toNat Qq1)) (fun d=>if !d then none else(if a1.2.2.2.2.2.2.2.2.2.2.1.getD a.toNat Qq1=([]:Aae)then Bb (BH (a+1)) (some (Sum.inl (a+1)))else Bb (0<=a/\a<=(a1.2.2.2.2.2.2.2.2.2.2.1.length:Int)) (Qq8 (Cg (a1.2.2.2.2.2.2.2.2.2.2.1.take a.toNat) (a1.2.2.2.2.2.2.2.2.2.2.1.getD a.toNat Qq1)) (fun e=>if e then none else Bb (BH (a+1)) (some (Sum.inl (a+1))))))))
def Hc:Option Int:=
 some (0)
def G3(a0:(List AaE))(a1:AaE):Int->Option ((Int)⊕(Int)):=fun a=>
 if a<(a1.2.2.2.2.2.2.2.2.2.2.1.length:Int)then Bb (0<=a/\a<(a1.2.2.2.2.2.2.2.2.2.2.1.length:Int)) (if a1.2.2.2.2.2.2.2.2.2.2.1.getD a.toNat Qq1=([]:Aae)then Bb (0<=a/\a<(a1.2.2.2.2.2.2.2.2.2.2.2.length:Int)) (Bb (0<=a1.2.2.2.2.2.2.2.2.2.2.2.getD a.toNat Qq1/\a1.2.2.2.2.2.2.2.2.2.2.2.getD a.toNat Qq1<(a0.length:Int)) ((F3 a1 a) (!decide ((a0.getD ((a1.2.2.2.2.2.2.2.2.2.2.2.getD a.toNat Qq1).toNat) Qq1).2.1=1))))else(F3 a1 a) false)else Qzq Sum.inr Hc
def Jo(a0:(List AaE))(a1:AaE)(s:Int):Option Int:=Go.L.run (G3 a0 a1) s
def F4(a0:(List AaE))(a1:AaE):Option Int:=
 if a1.2.1=7 then(Jo a0 a1) (0:Int)else some (0)
def IY(a0:(List AaE))(a1:AaE):Option Int:=
 Qq8 (BF a1) (fun a=>if a then Bb (0<=a1.2.2.2.2.2.2.2.2.1/\a1.2.2.2.2.2.2.2.2.1<(a0.length:Int)) (Qq8 (Du (a0.getD a1.2.2.2.2.2.2.2.2.1.toNat Qq1)) (fun b=>if !b then none else(F4 a0 a1)))else(F4 a0 a1))
theorem Od{a0:(List AaE)}{a1:AaE}{l m f o:Value}(ah:AL AaK H l a0)(bh:AL .byte H m (a1.2.2.1))(z:AL .st H f (a1.2.2.2.2.2.2.2.2.2.2.1))(ai:AL (.int .i64) H o (a1.2.2.2.2.2.2.2.2.2.2.2)){r:Int}(h:IY a0 a1=some r):
  Qqv 125 [.agg #[l],.agg #[Aad a1.1,No a1.2.1,m,No a1.2.2.2.1,.bool a1.2.2.2.2.1,No a1.2.2.2.2.2.1,No a1.2.2.2.2.2.2.1,No a1.2.2.2.2.2.2.2.1,No a1.2.2.2.2.2.2.2.2.1,No a1.2.2.2.2.2.2.2.2.2.1,f,o]] w (fun v w'=>v=No r):=by
 refine AG 66 [(0,.agg #[l]),(1,.agg #[Aad a1.1,No a1.2.1,m,No a1.2.2.2.1,.bool a1.2.2.2.2.1,No a1.2.2.2.2.2.1,No a1.2.2.2.2.2.2.1,No a1.2.2.2.2.2.2.2.1,No a1.2.2.2.2.2.2.2.2.1,No a1.2.2.2.2.2.2.2.2.2.1,f,o])] func125 Z fun hL=>Aq<|Cj (t:=25) Z Z hL fun w1 b1 bp b4 _=>Cj (t:=50) Z Z bp fun w2 b2 aj b5 _=>A1 1 Z<|Bm Unit (fun(_:Unit)=>[(2,(Aac b1)),(3,(Aac b2))]) (fun(_:Unit) wr=>AW w [.box b2 [Aad a1.1,No a1.2.1,m,No a1.2.2.2.1,.bool a1.2.2.2.2.1,No a1.2.2.2.2.2.1,No a1.2.2.2.2.2.2.1,No a1.2.2.2.2.2.2.2.1,No a1.2.2.2.2.2.2.2.2.1,No a1.2.2.2.2.2.2.2.2.2.1,f,o] 50,.box b1 [l] 25] wr/\(F4 a0 a1)=some r) ?_ ?_
 ·refine Aq<|Ag (Ax 0 Z Bl.e aj Z)<|Av h fun cn bi h=>A6 aj (BG (a0:=a1) _ _ (Ao aj) (bh.mono  Ai) (z.mono  Ai) (ai.mono  Ai) bi) fun co b6 u bt=>Ar 1 Z<|Bg 9 h ?_ ?_<;>intro e h
  ·refine Aa e<|Ag (Af Z Aas Z Ho.e)<|Aa e<|Ag (Ae 1 Z u Z)<|Aa e<|Ag (Af Z Aak Z B4.e)<|Aa e<|Ag (Ae 0 Z u Z)<|Aa e<|A3 h fun ak h=>Bf ah a1.2.2.2.2.2.2.2.2.1.toNat (CT ak) (AD ak) ?_;rintro cp _ ⟨_,_,rfl,rfl,⟨_,_,rfl,rfl,⟨_,_,rfl,⟨e22v2,rfl,e22h2⟩,⟨_,_,rfl,rfl,⟨_,_,rfl,rfl,⟨_,_,rfl,rfl,⟨_,_,rfl,rfl,⟨_,_,rfl,rfl,⟨_,_,rfl,rfl,⟨_,_,rfl,rfl,⟨_,_,rfl,⟨e22v10,rfl,e22h10⟩,⟨e22v11,rfl,e22h11⟩⟩⟩⟩⟩⟩⟩⟩⟩⟩⟩⟩ bj;refine Aa e<|Ag (Ce bj (hH.trans u.arg))<|Aa e<|Av h fun cq bk h=>A6 u (DU (a0:=(a0.getD a1.2.2.2.2.2.2.2.2.1.toNat Qq1)) _ _ (Ao u) (e22h2.mono  Ai) (e22h10.mono  Ai) (e22h11.mono  Ai) bk) fun cr b7 bl bu=>Aa e<|Ag (Ad Z)<|Ag (Ak e Z)<|Al<|Bi h ?_ ?_<;>intro bm h
   ·cases h
   refine A4<|AH () ⟨bl,h⟩
  iterate 8 refine Ab e ?_
  refine Ag (Am e Z)<|Al<|Gw<|A4<|AH () ⟨u,h⟩
 rintro _ b8 ⟨aa,h⟩;refine AM<|Aq<|Ag (Af Z Aak Z B4.e)<|Ag (Ae 0 Z aa Z)<|A1 1 Z<|DP h ?_ ?_<;>intro bn h
 ·refine AI 1 Z<|Au<|AE ?_
  cases h
  refine Aj Z ⟨aa.ext,Z⟩
 refine A4<|A2<|Bm Unit (fun(_:Unit)=>[]) (fun(_:Unit) wr=>AW w [.box b2 [Aad a1.1,No a1.2.1,m,No a1.2.2.2.1,.bool a1.2.2.2.2.1,No a1.2.2.2.2.2.1,No a1.2.2.2.2.2.2.1,No a1.2.2.2.2.2.2.2.1,No a1.2.2.2.2.2.2.2.2.1,No a1.2.2.2.2.2.2.2.2.2.1,f,o] 50,.box b1 [l] 25] wr/\Hc=some r) ?_ ?_
 ·refine Aq<|Ag (Af Z Aak Z Cx.e)<|Ag (Ae 0 Z aa Z)<|Ag (AT z)<|A1 1 Z<|A8 ?_;obtain⟨x,h⟩:=Bc h;refine Bz (Int×Nat) (fun⟨a,n⟩=>[(2,(Aac b1)),(3,(Aac b2)),(23,f),(24,No (a1.2.2.2.2.2.2.2.2.2.2.1.length:Int)),(25,No a)]) (fun⟨a,n⟩ wr=>AW w [.box b2 [Aad a1.1,No a1.2.1,m,No a1.2.2.2.1,.bool a1.2.2.2.2.1,No a1.2.2.2.2.2.1,No a1.2.2.2.2.2.2.1,No a1.2.2.2.2.2.2.2.1,No a1.2.2.2.2.2.2.2.2.1,No a1.2.2.2.2.2.2.2.2.2.1,f,o] 50,.box b1 [l] 25] wr/\FW (G3 a0 a1) n a=some r) (fun⟨a,n⟩=>n) (0,x) Z ⟨aa,h⟩ ?_;rintro⟨a,nn210⟩ bv ⟨ab,h⟩;obtain⟨x,bo,rfl,h,p⟩:=Ba h;refine AI 1 Z<|AM<|AS h ?_ ?_<;>intro al h
  ·refine A4<|A2<|AM<|A8<|B1 1 Z<|A3 h fun ae h=>Bf z a.toNat (CT ae) (AD ae) ?_;rintro b9 _ rfl am;refine Ag (AX am (hH.trans ab.arg))<|A1 2 Z<|A8<|Bm Bool (fun i=>[(2,(Aac b1)),(3,(Aac b2)),(5,No a),(6,.string ⟨(a1.2.2.2.2.2.2.2.2.2.2.1.getD a.toNat Qq1).toArray⟩),(23,f),(24,No (a1.2.2.2.2.2.2.2.2.2.2.1.length:Int)),(25,No a),(30,.bool i)]) (fun i wr=>AW w [.box b2 [Aad a1.1,No a1.2.1,m,No a1.2.2.2.1,.bool a1.2.2.2.2.1,No a1.2.2.2.2.2.1,No a1.2.2.2.2.2.2.1,No a1.2.2.2.2.2.2.2.1,No a1.2.2.2.2.2.2.2.2.1,No a1.2.2.2.2.2.2.2.2.2.1,f,o] 50,.box b1 [l] 25] wr/\(F3 a1 a) i=some bo) ?_ ?_
   ·refine Nf (Qqz 0 16 (.tail 16)) mixed V (fun ca an=>?_);have j:=ab.call an;refine BJ 1 Z<|B9 Z (Ll Z Z) Z<|BJ 1 Z<|Ic 33 Z (fun b=>?_) (fun b=>?_)
    ·have h:=MQ (of_decide_eq_true b) h;refine CE Z (Af Z Aas Z Ho.e) Z Z Z b Z<|CE Z (Ae 1 Z j Z) Z Z Z b Z<|CE Z (Af Z Aak Z E4.e) Z Z Z b Z<|CE Z (Ae 0 Z j Z) Z Z Z b Z<|CE Z (Ad Z) Z Z Z b Z<|A3 h fun af h=>HM Z Z Z Z b Z Z Aam ai a.toNat (CT af) (AD af) Z ?_;rintro cb _ rfl ao;refine CE Z (AX ao (hH.trans j.arg)) Z Z Z b Z<|A3 h fun ag h=>HM Z Z Z Z b Z Z Aat ah ((a1.2.2.2.2.2.2.2.2.2.2.2.getD a.toNat Qq1).toNat) (CT ag) (AD ag) Z ?_;rintro cc _ ⟨_,_,rfl,rfl,⟨_,_,rfl,rfl,⟨_,_,rfl,⟨e240v2,rfl,e240h2⟩,⟨_,_,rfl,rfl,⟨_,_,rfl,rfl,⟨_,_,rfl,rfl,⟨_,_,rfl,rfl,⟨_,_,rfl,rfl,⟨_,_,rfl,rfl,⟨_,_,rfl,rfl,⟨_,_,rfl,⟨e240v10,rfl,e240h10⟩,⟨e240v11,rfl,e240h11⟩⟩⟩⟩⟩⟩⟩⟩⟩⟩⟩⟩ ap;refine CE Z (Af Z Aak Z B4.e) Z Z Z b Z ?_;have aq:=ap.add 1;refine CE Z (AX aq (hH.trans j.arg)) Z Z Z b Z<|CE Z (Ad Z) Z Z Z b Z ?_
     refine B9 Z (Ak b Z) Z<|BJ 1 Z<|B8 (fun cd ar=>?_);have au:=j.call ar;refine AP<|AH _ ⟨au,h⟩
    have h:=MR (of_decide_eq_false b) h
    iterate 11 refine M3 Z Z Z Z b Z ?_
    refine B9 Z (Am b Z) Z<|BJ 1 Z<|B8 (fun ce av=>?_);have aw:=j.call av;refine AP<|AH _ ⟨aw,h⟩
   rintro i bw ⟨k,h⟩;refine Bi h ?_ ?_<;>intro ax h
   ·cases h
   refine B1 1 Z<|Ag (NN Z Z)<|Ar 1 Z<|G9 49 h ?_ ?_<;>intro g h
   ·refine Aa g<|Ag (Ad Z)<|Aa g<|Av h fun cf ay h=>A6 k (Hy _ _ (Ao k) ay) fun cg bx y bq=>Aa g<|Ag (Ad Z)<|Ag (Ak g Z)<|A1 1 Z<|Bi h ?_ ?_<;>intro az h
    ·cases h
    refine B1 1 Z<|Ag (NN Z Z)<|Ar 1 Z<|G9 57 h ?_ ?_<;>intro c h
    ·refine Aa c<|Ag (Af Z Aak Z Cx.e)<|Aa c<|Ag (Ae 0 Z y Z)<|Aa c<|Ag (Ad Z)<|Aa c<|A3 h fun a2 h=>J1 z a2 fun ch a3=>Aa c<|Ag (Ad Z)<|Aa c<|Av h fun ci a4 h=>A6 y (DR _ _ (Ao y) (a3.mono  Ai) a4) fun cj bz a5 br=>Ag (Ak c Z)<|A1 1 Z<|Bi h ?_ ?_<;>intro a6 h
     ·cases h
     refine A4 ?_
     iterate 2 refine A9 ?_
     refine A2<|Az<|A3 h fun a7 h=>Ag (AA a7)<|Ar 1 Z<|AP ?_;have h:=BW.again h p;refine AN (_,_) ⟨a5,h⟩
    iterate 6 refine Ab c ?_
    refine Ag (Am c Z)<|A1 1 Z<|Gw<|A4 ?_
    iterate 2 refine A9 ?_
    refine A2<|Az<|A3 h fun a8 h=>Ag (AA a8)<|Ar 1 Z<|AP ?_;have h:=BW.again h p;refine AN (_,_) ⟨y,h⟩
   iterate 3 refine Ab g ?_
   refine Ag (Am g Z)<|A1 1 Z<|Gw<|B1 1 Z<|Ag (NN Z Z)<|Ar 1 Z<|G9 57 h ?_ ?_<;>intro d h
   ·refine Aa d<|Ag (Af Z Aak Z Cx.e)<|Aa d<|Ag (Ae 0 Z k Z)<|Aa d<|Ag (Ad Z)<|Aa d<|A3 h fun a9 h=>J1 z a9 fun ck ba=>Aa d<|Ag (Ad Z)<|Aa d<|Av h fun cl bb h=>A6 k (DR _ _ (Ao k) (ba.mono  Ai) bb) fun cm b0 bc bs=>Ag (Ak d Z)<|A1 1 Z<|Bi h ?_ ?_<;>intro bd h
    ·cases h
    refine A4 ?_
    iterate 2 refine A9 ?_
    refine A2<|Az<|A3 h fun be h=>Ag (AA be)<|Ar 1 Z<|AP ?_;have h:=BW.again h p;refine AN (_,_) ⟨bc,h⟩
   iterate 6 refine Ab d ?_
   refine Ag (Am d Z)<|A1 1 Z<|Gw<|A4 ?_
   iterate 2 refine A9 ?_
   refine A2<|Az<|A3 h fun bf h=>Ag (AA bf)<|Ar 1 Z<|AP ?_;have h:=BW.again h p;refine AN (_,_) ⟨k,h⟩
  refine Bq<|AK<|AF ?_;have h:=BW.out h p;refine Bj<|AH () ⟨ab,h⟩
 rintro _ b3 ⟨bg,h⟩;refine AI 1 Z<|Au ?_
 cases h
 refine Aj Z ⟨bg.ext,Z⟩
end
def CV(a0:Bool)(a1:Aae)(a2:List Aae):Option ((List Aae)):=
 if a0 then Bb (Go.E.Gx 16 (a2.length+([a1]).length)) (some ((a2++[a1])))else some a2
theorem De{c w:World}{H:PH}(hH:Le H (hp c))(O:List BN)(a0:Bool)(a1:Aae)(a2:List Aae){ba2:Nat}{va2_0:Value}{xsa2_0:Qq5}(hL:AW c (Ha [.box ba2 [va2_0] 31,.row va2_0 9 1 (a2).length xsa2_0] O) w)(a:A5 .st (gz H c w (Ha [.box ba2 [va2_0] 31,.row va2_0 9 1 (a2).length xsa2_0] O)) a2 xsa2_0){r:(List Aae)}(h:CV a0 a1 a2=some r):
  Ok prog 130 [.bool a0,Aad a1,Aac ba2] w (fun v w'=>∃(b:Value) (y0:Qq5),v=.tuple #[]/\AW c (Ha [.box ba2 [b] 31,.row b 9 1 (r).length y0] O) w'/\Le (fz w (Ha [.box ba2 [va2_0] 31,.row va2_0 9 1 (a2).length xsa2_0] O)) (fz w' (Ha [.box ba2 [b] 31,.row b 9 1 (r).length y0] O))/\A5 .st (gz H c w' (Ha [.box ba2 [b] 31,.row b 9 1 (r).length y0] O)) r y0):=by
 refine BC (n:=10) [(0,.bool a0),(1,(Aad a1)),(2,(Aac ba2))] func130 Z Z Z Z ?_;have hT:=Le.refl (fz w (Ha [.box ba2 [va2_0] 31,.row va2_0 9 1 (a2).length xsa2_0] O));refine AI 1 Z<|Bi h ?_ ?_<;>intro k h
 ·refine Az<|Ag (Ae 0 Z hL Z)<|Ar 1 Z<|BV [a1] (r:=.st) (fun _=>M7 _ Z _) hL (.c1 Z .nil) fun y z x o d p=>A3 h fun q h=>?_;have a:=a.mono (Ac d);refine BL (r:=.st) 1 a2 [a1] Z Aan o Z a p q fun u w4 s g j e=>AY 0 Z Z (row_one (g.at (i:=1) Z)) g Z Z fun w6 t f=>AP ?_
  cases h
  refine Et ?_;have hT:=hT.trans (d.trans (j.trans f));have e:=e.mono (Ac f);exact⟨u,s,Z,t,hT,e⟩
 refine A4 ?_
 cases h
 refine Et ⟨va2_0,xsa2_0,Z,hL,hT,a⟩
def J8(b:List Aae):Option Aae:=
 Qq8 (Vi b ([32]:Aae)) (fun a=>Bb (a.length+([10]:Aae).length<=9223372036854775807) (some ((a++([10]:Aae)))))
def GA(a0:(List AaE))(a1:AaE)(c:List Aae)(a:Int)(b:Aae):Option (((List Aae)×Int)⊕(Aae)):=
 Bb (0<=a1.2.2.2.2.2.2.2.2.2.2.2.getD a.toNat Qq1/\a1.2.2.2.2.2.2.2.2.2.2.2.getD a.toNat Qq1<(a0.length:Int)) (Bb (b.length+((a0.getD ((a1.2.2.2.2.2.2.2.2.2.2.2.getD a.toNat Qq1).toNat) Qq1).1).length<=9223372036854775807) (Qq8 (CV true (b++(a0.getD ((a1.2.2.2.2.2.2.2.2.2.2.2.getD a.toNat Qq1).toNat) Qq1).1) c) (fun d=>Bb (BH (a+1)) (some (Sum.inl (d,(a+1)))))))
def IZ(a0:(List AaE))(a1:AaE):(List Aae)×Int->Option (((List Aae)×Int)⊕(Aae)):=fun⟨b,a⟩=>
 if a<(a1.2.2.2.2.2.2.2.2.2.2.2.length:Int)then Bb (0<=a/\a<(a1.2.2.2.2.2.2.2.2.2.2.2.length:Int)) (if a1.2.1=7 then Bb (0<=a/\a<(a1.2.2.2.2.2.2.2.2.2.2.1.length:Int)) (if a1.2.2.2.2.2.2.2.2.2.2.1.getD a.toNat Qq1=([]:Aae)then Bb (([45]:Aae).length+([58]:Aae).length<=9223372036854775807) ((GA a0 a1 b a) (([45]:Aae)++([58]:Aae)))else Bb ((a1.2.2.2.2.2.2.2.2.2.2.1.getD a.toNat Qq1).length+([58]:Aae).length<=9223372036854775807) ((GA a0 a1 b a) (a1.2.2.2.2.2.2.2.2.2.2.1.getD a.toNat Qq1++([58]:Aae))))else(GA a0 a1 b a) ([]:Aae))else Qzq Sum.inr (J8 b)
def Lt(a0:(List AaE))(a1:AaE)(s:(List Aae)×Int):Option Aae:=Go.L.run (IZ a0 a1) s
def HT(a0:(List AaE))(a1:AaE)(t:List Aae)(b:Aae)(a:Aae):Option Aae:=
 Qq8 (CV (decide (a1.2.1=1)) b t) (fun c=>Qq8 (CU a1) (fun d=>Qq8 (Qi a1.2.2.2.2.2.2.2.1) (fun e=>Qq8 (CV d e c) (fun f=>Qq8 (Fb a1) (fun g=>Qq8 (Qi a1.2.2.2.1) (fun h=>Qq8 (CV g h f) (fun i=>Qq8 (CV (decide (a1.2.1=2)) a i) (fun j=>Qq8 (Qi a1.2.2.2.2.2.1) (fun k=>Qq8 (CV (decide (a1.2.1=2)) k j) (fun l=>Qq8 (Du a1) (fun m=>Qq8 (Qi a1.2.2.2.2.2.2.1) (fun n=>Qq8 (CV m n l) (fun o=>Qq8 (BF a1) (fun p=>Bb (0<=a1.2.2.2.2.2.2.2.2.1/\a1.2.2.2.2.2.2.2.2.1<(a0.length:Int)) (Qq8 (CV p ((a0.getD a1.2.2.2.2.2.2.2.2.1.toNat Qq1).1) o) (fun q=>Qq8 (B6 a1) (fun r=>Bb (0<=a1.2.2.2.2.2.2.2.2.2.1/\a1.2.2.2.2.2.2.2.2.2.1<(a0.length:Int)) (Qq8 (CV r ((a0.getD a1.2.2.2.2.2.2.2.2.2.1.toNat Qq1).1) q) (fun s=>(Lt a0 a1) (s,0))))))))))))))))))))
def J9(a0:(List AaE))(a1:AaE)(b:List Aae)(a:Aae):Option Aae:=
 if a1.2.2.2.2.1 then(HT a0 a1 b a) ([98,105,103]:Aae)else(HT a0 a1 b a) ([108,105,116,116,108,101]:Aae)
def Ja(a0:(List AaE))(a1:AaE)(c:List Aae):Aae×Int->Option ((Aae×Int)⊕(Aae)):=fun⟨b,a⟩=>
 if a<(a1.2.2.1.length:Int)then Bb (0<=a/\a<(a1.2.2.1.length:Int)) (Bb (0<=((a1.2.2.1.getD a.toNat Qq1 >>> (4:UInt8)).toNat:Int)/\((a1.2.2.1.getD a.toNat Qq1 >>> (4:UInt8)).toNat:Int)<=(((a1.2.2.1.getD a.toNat Qq1 >>> (4:UInt8))+(1:UInt8)).toNat:Int)/\(((a1.2.2.1.getD a.toNat Qq1 >>> (4:UInt8))+(1:UInt8)).toNat:Int)<=(([48,49,50,51,52,53,54,55,56,57,97,98,99,100,101,102]:Aae).length:Int)) (Bb (0<=((a1.2.2.1.getD a.toNat Qq1 &&& (15:UInt8)).toNat:Int)/\((a1.2.2.1.getD a.toNat Qq1 &&& (15:UInt8)).toNat:Int)<=(((a1.2.2.1.getD a.toNat Qq1 &&& (15:UInt8))+(1:UInt8)).toNat:Int)/\(((a1.2.2.1.getD a.toNat Qq1 &&& (15:UInt8))+(1:UInt8)).toNat:Int)<=(([48,49,50,51,52,53,54,55,56,57,97,98,99,100,101,102]:Aae).length:Int)) (Bb (((([48,49,50,51,52,53,54,55,56,57,97,98,99,100,101,102]:Aae).drop ((a1.2.2.1.getD a.toNat Qq1 >>> (4:UInt8)).toNat:Int).toNat).take ((((a1.2.2.1.getD a.toNat Qq1 >>> (4:UInt8))+(1:UInt8)).toNat:Int).toNat - ((a1.2.2.1.getD a.toNat Qq1 >>> (4:UInt8)).toNat:Int).toNat)).length+((([48,49,50,51,52,53,54,55,56,57,97,98,99,100,101,102]:Aae).drop ((a1.2.2.1.getD a.toNat Qq1 &&& (15:UInt8)).toNat:Int).toNat).take ((((a1.2.2.1.getD a.toNat Qq1 &&& (15:UInt8))+(1:UInt8)).toNat:Int).toNat - ((a1.2.2.1.getD a.toNat Qq1 &&& (15:UInt8)).toNat:Int).toNat)).length<=9223372036854775807) (Bb (b.length+(((([48,49,50,51,52,53,54,55,56,57,97,98,99,100,101,102]:Aae).drop ((a1.2.2.1.getD a.toNat Qq1 >>> (4:UInt8)).toNat:Int).toNat).take ((((a1.2.2.1.getD a.toNat Qq1 >>> (4:UInt8))+(1:UInt8)).toNat:Int).toNat - ((a1.2.2.1.getD a.toNat Qq1 >>> (4:UInt8)).toNat:Int).toNat))++((([48,49,50,51,52,53,54,55,56,57,97,98,99,100,101,102]:Aae).drop ((a1.2.2.1.getD a.toNat Qq1 &&& (15:UInt8)).toNat:Int).toNat).take ((((a1.2.2.1.getD a.toNat Qq1 &&& (15:UInt8))+(1:UInt8)).toNat:Int).toNat - ((a1.2.2.1.getD a.toNat Qq1 &&& (15:UInt8)).toNat:Int).toNat))).length<=9223372036854775807) (Bb (BH (a+1)) (some (Sum.inl ((b++(((([48,49,50,51,52,53,54,55,56,57,97,98,99,100,101,102]:Aae).drop ((a1.2.2.1.getD a.toNat Qq1 >>> (4:UInt8)).toNat:Int).toNat).take ((((a1.2.2.1.getD a.toNat Qq1 >>> (4:UInt8))+(1:UInt8)).toNat:Int).toNat - ((a1.2.2.1.getD a.toNat Qq1 >>> (4:UInt8)).toNat:Int).toNat))++((([48,49,50,51,52,53,54,55,56,57,97,98,99,100,101,102]:Aae).drop ((a1.2.2.1.getD a.toNat Qq1 &&& (15:UInt8)).toNat:Int).toNat).take ((((a1.2.2.1.getD a.toNat Qq1 &&& (15:UInt8))+(1:UInt8)).toNat:Int).toNat - ((a1.2.2.1.getD a.toNat Qq1 &&& (15:UInt8)).toNat:Int).toNat)))),(a+1)))))))))else Qzq Sum.inr ((J9 a0 a1 c) b)
def Lu(a0:(List AaE))(a1:AaE)(a:List Aae)(s:Aae×Int):Option Aae:=Go.L.run (Ja a0 a1 a) s
def JA(a0:(List AaE))(a1:AaE)(a:List Aae):Option Aae:=
 (Lu a0 a1 a) (([]:Aae),0)
def LL(a0:(List AaE))(a1:AaE):Option Aae:=
 Bb (BH (a1.2.1 - 1)) (Qq8 (P6 ([108,105,116,101,114,97,108,32,110,117,109,98,101,114,32,100,101,99,105,109,97,108,32,98,121,116,101,115,32,117,110,116,105,108,32,99,111,117,110,116,101,100,32,115,101,113,117,101,110,99,101,32,99,104,111,105,99,101,32,114,101,112,101,97,116,32,98,108,111,98]:Aae)) (fun a=>Bb (0<=(a1.2.1 - 1)/\(a1.2.1 - 1)<(a.length:Int)) ((JA a0 a1) ([a1.1,a.getD ((a1.2.1 - 1).toNat) Qq1]))))
section
variable(w:World)(H:PH)(hH:Le H (hp w)) include hH
theorem Qj(hU:Jm H){a0:(List AaE)}{a1:AaE}{f e g d:Value}(bk:AL AaK H f a0)(al:AL .byte H e (a1.2.2.1))(ap:AL .st H g (a1.2.2.2.2.2.2.2.2.2.2.1))(am:AL (.int .i64) H d (a1.2.2.2.2.2.2.2.2.2.2.2)){r:Aae}(h:LL a0 a1=some r):
  Qqv 90 [.agg #[f],.agg #[Aad a1.1,No a1.2.1,e,No a1.2.2.2.1,.bool a1.2.2.2.2.1,No a1.2.2.2.2.2.1,No a1.2.2.2.2.2.2.1,No a1.2.2.2.2.2.2.2.1,No a1.2.2.2.2.2.2.2.2.1,No a1.2.2.2.2.2.2.2.2.2.1,g,d]] w (fun v w'=>v=(Aad r)):=by
 refine AG 146 [(0,.agg #[f]),(1,.agg #[Aad a1.1,No a1.2.1,e,No a1.2.2.2.1,.bool a1.2.2.2.2.1,No a1.2.2.2.2.2.1,No a1.2.2.2.2.2.2.1,No a1.2.2.2.2.2.2.2.1,No a1.2.2.2.2.2.2.2.2.1,No a1.2.2.2.2.2.2.2.2.2.1,g,d])] func90 Z fun hL=>Aq<|Cj (t:=25) Z Z hL fun w1 o g8 ie _=>Cj (t:=50) Z Z g8 fun w2 p g9 ig _=>A1 1 Z<|Bm ((List Aae)×Nat×Value×Qq5) (fun⟨ab,bjb32,ai,s⟩=>[(2,(Aac o)),(3,(Aac p)),(5,(Aac bjb32))]) (fun⟨ab,bjb32,ai,s⟩ wr=>DE w [.box bjb32 [ai] 31,.row ai 9 1 (ab).length s,.box p [Aad a1.1,No a1.2.1,e,No a1.2.2.2.1,.bool a1.2.2.2.2.1,No a1.2.2.2.2.2.1,No a1.2.2.2.2.2.2.1,No a1.2.2.2.2.2.2.2.1,No a1.2.2.2.2.2.2.2.2.1,No a1.2.2.2.2.2.2.2.2.2.1,g,d] 50,.box o [f] 25] wr fun Oz=>A5 .st (gz H w wr Oz) ab s/\(JA a0 a1) ab=some r) ?_ ?_
 ·refine Nf (.q 0 (.q 1 (Qqz 3 3 (.h2 2 (.q 6 (.q 7 (.h2 8 (.h 9 (.tail 10)) 9 (.h 8 (.tail 10))))) 9 (.h 2 (.q 6 (.q 7 (.h 8 (.tail 10))))))))) mixed V (fun ja gb=>?_);have a6:=g9.call gb;refine B9 Z (Af Z Aak Z LH.e) Z<|B9 Z (Ae 0 Z a6 Z) Z<|B9 Z (Af Z Aak Z B4.e) Z<|B9 Z (Ae 0 Z a6 Z) Z<|A3 h fun gc h=>B9 Z (AA gc) Z<|U8 ?_ ?_
  ·refine Av h fun an bl h=>IQ Z Z Z (fun ha bm=>OP _ _ (Ao (a6.call bm)) (hU.mono  Ai) bl) ?_;rintro ha hy jb bm cu ⟨_,rfl,cv⟩;have cw:=a6.call bm;have bn:=cw.call cu;have cx:=cv.Dj hH cw cu;refine A3 h fun a7 h=>Fl Z Z Z Aan cx ((a1.2.1 - 1).toNat) (CT a7) (AD a7) Z ?_;rintro jc _ rfl gd;refine B9 Z (AX gd (Ao bn)) Z<|U8 ?_ ?_
   ·refine PS [a1.1,an.getD ((a1.2.1 - 1).toNat) Qq1] (r:=.st) Z Z (fun _=>Rz _ Z _ Z _) Z (Ch 2) hH bn (.c1 Z (.c1 Z .nil)) fun hb jd ge gf hz bo=>N7 Z Cx.e Z Z gf fun je hc cy eg=>B8 (fun jf cz=>?_);have c0:=cy.call cz;have eh:=Bd cy cz;refine AY 0 Z Z (row_one (c0.at (i:=1) Z)) c0 Z Z fun jg gg ei=>AP ?_;have bo:=bo.mono (Ac (eg.trans (eh.trans ei)));refine AH (_,_,_,_) ⟨gg,bo,h⟩
   refine N7 Z Cx.e Z Z bn fun jh f9 gh h0=>PS [a1.1,an.getD ((a1.2.1 - 1).toNat) Qq1] (r:=.st) Z Z (fun _=>Rz _ Z _ Z _) Z (Ch 2) hH gh (.c1 Z (.c1 Z .nil)) fun c2 ji c3 c4 h1 bp=>B8 (fun jj c5=>?_);have c6:=c4.call c5;have ej:=Bd c4 c5;refine AY 1 Z Z (row_one (c6.at (i:=0) Z)) c6 Z Z fun hd c7 ek=>AP ?_;have c8:AW w [.box f9 [c2] 31,.row c2 9 1 ([a1.1,an.getD ((a1.2.1 - 1).toNat) Qq1]).length c3,.box p [Aad a1.1,No a1.2.1,e,No a1.2.2.2.1,.bool a1.2.2.2.2.1,No a1.2.2.2.2.2.1,No a1.2.2.2.2.2.2.1,No a1.2.2.2.2.2.2.2.1,No a1.2.2.2.2.2.2.2.2.1,No a1.2.2.2.2.2.2.2.2.2.1,g,d] 50,.box o [f] 25] hd:=c7.Bn [1] Z;have el:=AJ [1] c7 c8 Z;have bp:=bp.mono (Ac (ej.trans (ek.trans el)));refine AH (_,_,_,_) ⟨c8,bp,h⟩
  refine Av h fun an bl h=>A3 h fun a7 h=>N7 Z Cx.e Z Z a6 fun jk ga c9 h3=>IQ Z Z Z (fun he bq=>OP _ _ (Ao (c9.call bq)) (hU.mono  Ai) bl) ?_;rintro he h4 jl bq da ⟨_,rfl,db⟩;have dc:=c9.call bq;have dd:=dc.call da;have de:=db.Dj hH dc da;refine Fl Z Z Z Aan de ((a1.2.1 - 1).toNat) (CT a7) (AD a7) Z ?_;rintro jm _ rfl gi;refine B9 Z (AX gi (Ao dd)) Z<|PS [a1.1,an.getD ((a1.2.1 - 1).toNat) Qq1] (r:=.st) Z Z (fun _=>Rz _ Z _ Z _) Z (Ch 2) hH dd (.c1 Z (.c1 Z .nil)) fun df jn dg dh h5 br=>B8 (fun jo di=>?_);have dj:=dh.call di;have em:=Bd dh di;refine AY 1 Z Z (row_one (dj.at (i:=0) Z)) dj Z Z fun hf dk en=>AP ?_;have dl:AW w [.box ga [df] 31,.row df 9 1 ([a1.1,an.getD ((a1.2.1 - 1).toNat) Qq1]).length dg,.box p [Aad a1.1,No a1.2.1,e,No a1.2.2.2.1,.bool a1.2.2.2.2.1,No a1.2.2.2.2.2.1,No a1.2.2.2.2.2.2.1,No a1.2.2.2.2.2.2.2.1,No a1.2.2.2.2.2.2.2.2.1,No a1.2.2.2.2.2.2.2.2.2.1,g,d] 50,.box o [f] 25] hf:=dk.Bn [1] Z
  have eo:=AJ [1] dk dl Z;have br:=br.mono (Ac (em.trans (en.trans eo)));refine AH (_,_,_,_) ⟨dl,br,h⟩
 rintro⟨ab,bjb32,ai,s⟩ ih ⟨bs,k,h⟩;refine AI 2 Z<|Aq<|Ag (Af Z Aak Z B4.e)<|Ag (Ae 2 Z bs Z)<|A1 2 Z<|AI 1 Z<|Bm Aae (fun ac=>[(2,(Aac o)),(3,(Aac p)),(5,(Aac bjb32)),(6,.func (.func 130) #[] #[Aac bjb32]),(7,.bool (decide (a1.2.1=2))),(8,(Aad ac))]) (fun ac wr=>DE w [.box bjb32 [ai] 31,.row ai 9 1 (ab).length s,.box p [Aad a1.1,No a1.2.1,e,No a1.2.2.2.1,.bool a1.2.2.2.2.1,No a1.2.2.2.2.2.1,No a1.2.2.2.2.2.2.1,No a1.2.2.2.2.2.2.2.1,No a1.2.2.2.2.2.2.2.2.1,No a1.2.2.2.2.2.2.2.2.2.1,g,d] 50,.box o [f] 25] wr fun Oz=>A5 .st (gz H w wr Oz) ab s/\(J9 a0 a1 ab) ac=some r) ?_ ?_
 ·refine Aq<|Ag (Af Z Aak Z CC.e)<|Ag (Ae 2 Z bs Z)<|Ag (AT al)<|A1 1 Z<|A8 ?_;obtain⟨bt,h⟩:=Bc h;refine Bz (Aae×Int×Nat) (fun⟨ad,j,n⟩=>[(2,(Aac o)),(3,(Aac p)),(5,(Aac bjb32)),(6,.func (.func 130) #[] #[Aac bjb32]),(7,.bool (decide (a1.2.1=2))),(8,(Aad ad)),(29,e),(30,No (a1.2.2.1.length:Int)),(31,No j)]) (fun⟨ad,j,n⟩ wr=>DE w [.box bjb32 [ai] 31,.row ai 9 1 (ab).length s,.box p [Aad a1.1,No a1.2.1,e,No a1.2.2.2.1,.bool a1.2.2.2.2.1,No a1.2.2.2.2.2.1,No a1.2.2.2.2.2.2.1,No a1.2.2.2.2.2.2.2.1,No a1.2.2.2.2.2.2.2.2.1,No a1.2.2.2.2.2.2.2.2.2.1,g,d] 50,.box o [f] 25] wr fun Oz=>A5 .st (gz H w wr Oz) ab s/\FW (Ja a0 a1 ab) n (ad,j)=some r) (fun⟨ad,j,n⟩=>n) (([]:Aae),0,bt) Z ⟨bs,k,h⟩ ?_;rintro⟨ad,j,nn127⟩ h6 ⟨a3,k,h⟩;obtain⟨bt,ii,rfl,h,bv⟩:=Ba h;refine AI 1 Z<|AM<|AS h ?_ ?_<;>intro ep h
  ·refine A4<|A2<|AM<|A8<|Aq<|A3 h fun bw h=>Bf al j.toNat (CT bw) (AD bw) ?_;rintro ij _ rfl eq;refine Ag (AX eq (hH.trans a3.arg))<|A1 1 Z<|Nf (Qqz 0 16 (.tail 16)) mixed V (fun ik bx=>?_);have bz:=a3.call bx;have dm:=Bd a3 bx;refine BJ 2 Z<|B9 Z (UE (c:=4) Z Qqb) Z<|BJ 1 Z<|B9 Z (UE (c:=4) Z Qqb) Z<|B9 Z (Xx (b:=1) Z Z Z) Z<|A3 h fun er h=>B9 Z (UT er) Z<|BJ 1 Z<|B9 Z (SN (b:=15) Z Z Z) Z<|BJ 1 Z<|B9 Z (SN (b:=15) Z Z Z) Z<|B9 Z (Xx (b:=1) Z Z Z) Z<|A3 h fun es h=>B9 Z (UT es) Z<|A3 h fun et h=>B9 Z (PT et) Z<|A3 h fun eu h=>B9 Z (PT eu) Z<|BJ 1 Z<|B8 (fun il b0=>?_);have ev:=bz.call b0;have dn:=Bd bz b0;refine AP ?_
   refine A9<|A2<|Az<|A3 h fun ew h=>Ag (AA ew)<|Ar 1 Z<|AP ?_;have h:=BW.again h bv;have k:=k.mono (Ac (dm.trans dn));refine AN (_,_,_) ⟨ev,k,h⟩
  refine Bq<|AK<|AF ?_;have h:=BW.out h bv;refine Bj<|AH _ ⟨a3,k,h⟩
 rintro ac h7 ⟨bb,k,h⟩;refine AI 1 Z<|Bm Aae (fun aj=>[(2,(Aac o)),(3,(Aac p)),(5,(Aac bjb32)),(6,.func (.func 130) #[] #[Aac bjb32]),(7,.bool (decide (a1.2.1=2))),(8,(Aad ac)),(11,(Aad aj))]) (fun aj wr=>DE w [.box bjb32 [ai] 31,.row ai 9 1 (ab).length s,.box p [Aad a1.1,No a1.2.1,e,No a1.2.2.2.1,.bool a1.2.2.2.2.1,No a1.2.2.2.2.2.1,No a1.2.2.2.2.2.2.1,No a1.2.2.2.2.2.2.2.1,No a1.2.2.2.2.2.2.2.2.1,No a1.2.2.2.2.2.2.2.2.2.1,g,d] 50,.box o [f] 25] wr fun Oz=>A5 .st (gz H w wr Oz) ab s/\(HT a0 a1 ab ac) aj=some r) ?_ ?_
 ·refine Aq<|Ag (Af Z Aak Z Fv.e)<|Ag (Ae 2 Z bb Z)<|Al<|Bi h ?_ ?_<;>intro ex h
  ·refine Az<|Ar 1 Z<|AP<|AH _ ⟨bb,k,h⟩
  refine A4<|AH _ ⟨bb,k,h⟩
 rintro aj h8 ⟨b3,k,h⟩;refine B1 1 Z<|Ag (Af Z Aak Z B4.e)<|Ag (Ae 2 Z b3 Z)<|Ar 2 Z<|Av h fun gj ey h=>BU Z Z (De hH ([.box p [Aad a1.1,No a1.2.1,e,No a1.2.2.2.1,.bool a1.2.2.2.2.1,No a1.2.2.2.2.2.1,No a1.2.2.2.2.2.2.1,No a1.2.2.2.2.2.2.2.1,No a1.2.2.2.2.2.2.2.2.1,No a1.2.2.2.2.2.2.2.2.2.1,g,d] 50,.box o [f] 25]) ((decide (a1.2.1=1))) ac ab b3 k ey) ?_;rintro _ im ⟨hg,y158_0,rfl,b4,hh,aq⟩;refine Al<|CI (Qqz 0 6 (.tail 6)) mixed V (fun gk b5=>?_);have ae:=b4.call b5;have dp:=Bd b4 b5;refine BJ 1 Z<|B9 Z (Ax 2 Z Bl.e ae Z) Z<|Av h fun gl ez h=>?_;have dq:=(fun(dr:World) (bc:Ext gk dr)=>GW dr _ (Le.refl _) ((al.mono (hH.trans ae.arg)).mono bc.le) ((ap.mono (hH.trans ae.arg)).mono bc.le) ((am.mono (hH.trans ae.arg)).mono bc.le) ez);refine IA Z Z Z dq<|B9 Z (Af Z Aak Z B4.e) Z<|B9 Z (Ae 2 Z ae Z) Z ?_
 refine Av h fun gm e0 h=>IA Z Z Z (fun io e1=>O2 _ _ (Le.refl _) (hU.mono (hH.trans (ae.call e1).arg)) e0)<|B8 (fun ip b6=>?_);have e2:=ae.call b6;have ds:=Bd ae b6;refine Av h fun gn e3 h=>?_;have aq:=aq.mono (Ac (dp.trans ds));refine BU Z Z (De hH ([.box p [Aad a1.1,No a1.2.1,e,No a1.2.2.2.1,.bool a1.2.2.2.2.1,No a1.2.2.2.2.2.1,No a1.2.2.2.2.2.2.1,No a1.2.2.2.2.2.2.2.1,No a1.2.2.2.2.2.2.2.2.1,No a1.2.2.2.2.2.2.2.2.2.1,g,d] 50,.box o [f] 25]) gl gm gj e2 aq e3) ?_;rintro _ iq ⟨hi,y168_0,rfl,b7,hj,ar⟩;refine Al<|CI (Qqz 0 6 (.tail 6)) mixed V (fun go b8=>?_);have af:=b7.call b8;have dt:=Bd b7 b8;refine BJ 1 Z<|B9 Z (Ax 2 Z Bl.e af Z) Z<|Av h fun gp e4 h=>?_;have du:=(fun(dv:World) (bd:Ext go dv)=>GZ dv _ (Le.refl _) ((al.mono (hH.trans af.arg)).mono bd.le) ((ap.mono (hH.trans af.arg)).mono bd.le) ((am.mono (hH.trans af.arg)).mono bd.le) e4);refine IA Z Z Z du ?_
 refine B9 Z (Af Z Aak Z B4.e) Z<|B9 Z (Ae 2 Z af Z) Z<|Av h fun gq e5 h=>IA Z Z Z (fun ir e6=>O2 _ _ (Le.refl _) (hU.mono (hH.trans (af.call e6).arg)) e5)<|B8 (fun is b9=>?_);have e7:=af.call b9;have dw:=Bd af b9;refine Av h fun gr e8 h=>?_;have ar:=ar.mono (Ac (dt.trans dw));refine BU Z Z (De hH ([.box p [Aad a1.1,No a1.2.1,e,No a1.2.2.2.1,.bool a1.2.2.2.2.1,No a1.2.2.2.2.2.1,No a1.2.2.2.2.2.2.1,No a1.2.2.2.2.2.2.2.1,No a1.2.2.2.2.2.2.2.2.1,No a1.2.2.2.2.2.2.2.2.2.1,g,d] 50,.box o [f] 25]) gp gq gn e7 ar e8) ?_;rintro _ it ⟨hk,y178_0,rfl,e9,hl,ct⟩;refine Al<|B1 3 Z<|Av h fun gs fa h=>BU Z Z (De hH ([.box p [Aad a1.1,No a1.2.1,e,No a1.2.2.2.1,.bool a1.2.2.2.2.1,No a1.2.2.2.2.2.1,No a1.2.2.2.2.2.2.1,No a1.2.2.2.2.2.2.2.1,No a1.2.2.2.2.2.2.2.2.1,No a1.2.2.2.2.2.2.2.2.2.1,g,d] 50,.box o [f] 25]) ((decide (a1.2.1=2))) aj gr e9 ct fa) ?_
 rintro _ iu ⟨hm,y180_0,rfl,be,hn,au⟩;refine Al<|B1 2 Z<|Ag (Af Z Aak Z B4.e)<|Ag (Ae 2 Z be Z)<|Av h fun gt fb h=>A6 be (O2 _ _ (Ao be) (hU.mono  Ai) fb) fun iv h9 fc dx=>Av h fun gu fd h=>?_;have au:=au.mono (Ac dx);refine BU Z Z (De hH ([.box p [Aad a1.1,No a1.2.1,e,No a1.2.2.2.1,.bool a1.2.2.2.2.1,No a1.2.2.2.2.2.1,No a1.2.2.2.2.2.2.1,No a1.2.2.2.2.2.2.2.1,No a1.2.2.2.2.2.2.2.2.1,No a1.2.2.2.2.2.2.2.2.2.1,g,d] 50,.box o [f] 25]) ((decide (a1.2.1=2))) gt gs fc au fd) ?_;rintro _ iw ⟨ho,y184_0,rfl,ca,hq,av⟩;refine Al<|CI (Qqz 0 6 (.tail 6)) mixed V (fun gv cb=>?_);have ag:=ca.call cb;have dy:=Bd ca cb;refine BJ 1 Z<|B9 Z (Ax 2 Z Bl.e ag Z) Z<|Av h fun gw fe h=>?_
 have dz:=(fun(d0:World) (bf:Ext gv d0)=>DU d0 _ (Le.refl _) ((al.mono (hH.trans ag.arg)).mono bf.le) ((ap.mono (hH.trans ag.arg)).mono bf.le) ((am.mono (hH.trans ag.arg)).mono bf.le) fe);refine IA Z Z Z dz<|B9 Z (Af Z Aak Z B4.e) Z<|B9 Z (Ae 2 Z ag Z) Z<|Av h fun gx ff h=>IA Z Z Z (fun ix fg=>O2 _ _ (Le.refl _) (hU.mono (hH.trans (ag.call fg).arg)) ff)<|B8 (fun iy cc=>?_);have fh:=ag.call cc;have d1:=Bd ag cc;refine Av h fun gy fi h=>?_;have av:=av.mono (Ac (dy.trans d1));refine BU Z Z (De hH ([.box p [Aad a1.1,No a1.2.1,e,No a1.2.2.2.1,.bool a1.2.2.2.2.1,No a1.2.2.2.2.2.1,No a1.2.2.2.2.2.2.1,No a1.2.2.2.2.2.2.2.1,No a1.2.2.2.2.2.2.2.2.1,No a1.2.2.2.2.2.2.2.2.2.1,g,d] 50,.box o [f] 25]) gw gx gu fh av fi) ?_;rintro _ iz ⟨hr,y194_0,rfl,cd,hs,aw⟩;refine Al<|CI (Qqz 0 10 (.tail 10)) mixed V (fun g0 ce=>?_);have z:=cd.call ce;have d2:=Bd cd ce
 refine BJ 1 Z<|B9 Z (Ax 2 Z Bl.e z Z) Z<|Av h fun g1 fj h=>?_;have d3:=(fun(d4:World) (bg:Ext g0 d4)=>BG d4 _ (Le.refl _) ((al.mono (hH.trans z.arg)).mono bg.le) ((ap.mono (hH.trans z.arg)).mono bg.le) ((am.mono (hH.trans z.arg)).mono bg.le) fj);refine IA Z Z Z d3<|B9 Z (Af Z Aas Z Ho.e) Z<|B9 Z (Ae 3 Z z Z) Z<|B9 Z (Af Z Aak Z B4.e) Z<|B9 Z (Ae 2 Z z Z) Z<|A3 h fun cf h=>Fl Z Z Z Aat bk a1.2.2.2.2.2.2.2.2.1.toNat (CT cf) (AD cf) Z ?_;rintro i0 _ ⟨_,_,rfl,rfl,⟨_,_,rfl,rfl,⟨_,_,rfl,⟨e199v2,rfl,e199h2⟩,⟨_,_,rfl,rfl,⟨_,_,rfl,rfl,⟨_,_,rfl,rfl,⟨_,_,rfl,rfl,⟨_,_,rfl,rfl,⟨_,_,rfl,rfl,⟨_,_,rfl,rfl,⟨_,_,rfl,⟨e199v10,rfl,e199h10⟩,⟨e199v11,rfl,e199h11⟩⟩⟩⟩⟩⟩⟩⟩⟩⟩⟩⟩ fk;refine B9 Z (Af Z Aak Z LH.e) Z ?_;have fl:=fk.add 0;refine B9 Z (AX fl (hH.trans z.arg)) Z<|B8 (fun i1 cg=>?_);have fm:=z.call cg;have d5:=Bd z cg;refine Av h fun g2 fn h=>?_;have aw:=aw.mono (Ac (d2.trans d5))
 refine BU Z Z (De hH ([.box p [Aad a1.1,No a1.2.1,e,No a1.2.2.2.1,.bool a1.2.2.2.2.1,No a1.2.2.2.2.2.1,No a1.2.2.2.2.2.2.1,No a1.2.2.2.2.2.2.2.1,No a1.2.2.2.2.2.2.2.2.1,No a1.2.2.2.2.2.2.2.2.2.1,g,d] 50,.box o [f] 25]) g1 (((a0.getD a1.2.2.2.2.2.2.2.2.1.toNat Qq1).1)) gy fm aw fn) ?_;rintro _ i2 ⟨ht,y205_0,rfl,ch,hu,ax⟩;refine Al<|CI (Qqz 0 10 (.tail 10)) mixed V (fun g3 ci=>?_);have aa:=ch.call ci;have d6:=Bd ch ci;refine BJ 1 Z<|B9 Z (Ax 2 Z Bl.e aa Z) Z<|Av h fun g4 fo h=>?_;have d7:=(fun(d8:World) (bh:Ext g3 d8)=>By d8 _ (Le.refl _) ((al.mono (hH.trans aa.arg)).mono bh.le) ((ap.mono (hH.trans aa.arg)).mono bh.le) ((am.mono (hH.trans aa.arg)).mono bh.le) fo);refine IA Z Z Z d7<|B9 Z (Af Z Aas Z Ho.e) Z<|B9 Z (Ae 3 Z aa Z) Z<|B9 Z (Af Z Aak Z B4.e) Z<|B9 Z (Ae 2 Z aa Z) Z<|A3 h fun cj h=>?_
 refine Fl Z Z Z Aat bk a1.2.2.2.2.2.2.2.2.2.1.toNat (CT cj) (AD cj) Z ?_;rintro i3 _ ⟨_,_,rfl,rfl,⟨_,_,rfl,rfl,⟨_,_,rfl,⟨e210v2,rfl,e210h2⟩,⟨_,_,rfl,rfl,⟨_,_,rfl,rfl,⟨_,_,rfl,rfl,⟨_,_,rfl,rfl,⟨_,_,rfl,rfl,⟨_,_,rfl,rfl,⟨_,_,rfl,rfl,⟨_,_,rfl,⟨e210v10,rfl,e210h10⟩,⟨e210v11,rfl,e210h11⟩⟩⟩⟩⟩⟩⟩⟩⟩⟩⟩⟩ fp;refine B9 Z (Af Z Aak Z LH.e) Z ?_;have fq:=fp.add 0;refine B9 Z (AX fq (hH.trans aa.arg)) Z<|B8 (fun i4 ck=>?_);have fr:=aa.call ck;have d9:=Bd aa ck;refine Av h fun ea fs h=>?_;have ax:=ax.mono (Ac (d6.trans d9));refine BU Z Z (De hH ([.box p [Aad a1.1,No a1.2.1,e,No a1.2.2.2.1,.bool a1.2.2.2.2.1,No a1.2.2.2.2.2.1,No a1.2.2.2.2.2.2.1,No a1.2.2.2.2.2.2.2.1,No a1.2.2.2.2.2.2.2.2.1,No a1.2.2.2.2.2.2.2.2.2.1,g,d] 50,.box o [f] 25]) g4 (((a0.getD a1.2.2.2.2.2.2.2.2.2.1.toNat Qq1).1)) g2 fr ax fs) ?_;rintro _ g5 ⟨a8,y216_0,rfl,bi,hv,ay⟩;refine Al ?_
 refine Bm ((List Aae)×Value×Qq5) (fun⟨a9,a4,ao⟩=>[(5,(Aac bjb32))]) (fun⟨a9,a4,ao⟩ wr=>DE w [.row a4 9 1 (a9).length ao,.box bjb32 [a4] 31,.box p [Aad a1.1,No a1.2.1,e,No a1.2.2.2.1,.bool a1.2.2.2.2.1,No a1.2.2.2.2.2.1,No a1.2.2.2.2.2.2.1,No a1.2.2.2.2.2.2.2.1,No a1.2.2.2.2.2.2.2.2.1,No a1.2.2.2.2.2.2.2.2.2.1,g,d] 50,.box o [f] 25] wr fun Oz=>A5 .st (gz H w wr Oz) a9 ao/\J8 a9=some r) ?_ ?_
 ·refine Aq<|Ag (Af Z Aak Z E4.e)<|Ag (Ae 2 Z bi Z)<|Ag (AT am)<|A1 1 Z<|A8 ?_;have cl:AW w [.row a8 9 1 (ea).length y216_0,.box bjb32 [a8] 31,.box p [Aad a1.1,No a1.2.1,e,No a1.2.2.2.1,.bool a1.2.2.2.2.1,No a1.2.2.2.2.2.1,No a1.2.2.2.2.2.2.1,No a1.2.2.2.2.2.2.2.1,No a1.2.2.2.2.2.2.2.2.1,No a1.2.2.2.2.2.2.2.2.2.1,g,d] 50,.box o [f] 25] g5:=bi.Bn [1] Z;have eb:=AJ [1] bi cl Z;obtain⟨bu,h⟩:=Bc h;have ay:=ay.mono (Ac eb)
  refine Bz ((List Aae)×Int×Value×Qq5×Nat) (fun⟨y,a,u,m,n⟩=>[(2,(Aac o)),(3,(Aac p)),(5,(Aac bjb32)),(6,.func (.func 130) #[] #[Aac bjb32]),(113,d),(114,No (a1.2.2.2.2.2.2.2.2.2.2.2.length:Int)),(115,No a)]) (fun⟨y,a,u,m,n⟩ wr=>DE w [.row u 9 1 (y).length m,.box bjb32 [u] 31,.box p [Aad a1.1,No a1.2.1,e,No a1.2.2.2.1,.bool a1.2.2.2.2.1,No a1.2.2.2.2.2.1,No a1.2.2.2.2.2.2.1,No a1.2.2.2.2.2.2.2.1,No a1.2.2.2.2.2.2.2.2.1,No a1.2.2.2.2.2.2.2.2.2.1,g,d] 50,.box o [f] 25] wr fun Oz=>A5 .st (gz H w wr Oz) y m/\FW (IZ a0 a1) n (y,a)=some r) (fun⟨y,a,u,m,n⟩=>n) (ea,0,a8,y216_0,bu) Z ⟨cl,ay,h⟩ ?_;rintro⟨y,a,u,m,nn304⟩ ia ⟨ah,x,h⟩;obtain⟨bu,g6,rfl,h,cm⟩:=Ba h;refine AI 1 Z<|AM<|AS h ?_ ?_<;>intro ft h
  ·refine A4<|A2<|AM<|A8<|B1 1 Z<|A3 h fun cn h=>Bf am a.toNat (CT cn) (AD cn) ?_;rintro i5 _ rfl fu;refine Ag (AX fu (hH.trans ah.arg))<|A1 2 Z<|AI 1 Z<|Bm Aae (fun ak=>[(2,(Aac o)),(3,(Aac p)),(5,(Aac bjb32)),(6,.func (.func 130) #[] #[Aac bjb32]),(13,No (a1.2.2.2.2.2.2.2.2.2.2.2.getD a.toNat Qq1)),(14,(Aad ak)),(113,d),(114,No (a1.2.2.2.2.2.2.2.2.2.2.2.length:Int)),(115,No a)]) (fun ak wr=>DE w [.row u 9 1 (y).length m,.box bjb32 [u] 31,.box p [Aad a1.1,No a1.2.1,e,No a1.2.2.2.1,.bool a1.2.2.2.2.1,No a1.2.2.2.2.2.1,No a1.2.2.2.2.2.2.1,No a1.2.2.2.2.2.2.2.1,No a1.2.2.2.2.2.2.2.2.1,No a1.2.2.2.2.2.2.2.2.2.1,g,d] 50,.box o [f] 25] wr fun Oz=>A5 .st (gz H w wr Oz) y m/\(GA a0 a1 y a) ak=some g6) ?_ ?_
   ·refine Aq<|Ag (Af Z Aak Z B4.e)<|Ag (Ae 2 Z ah Z)<|A1 1 Z<|AS h ?_ ?_<;>intro fv h
    ·refine AM<|Aq<|Ag (Af Z Aak Z Cx.e)<|Ag (Ae 2 Z ah Z)<|Ar 1 Z<|A3 h fun co h=>Bf ap a.toNat (CT co) (AD co) ?_;rintro i6 _ rfl fw;refine Ag (AX fw (hH.trans ah.arg))<|A1 1 Z<|B1 1 Z<|Ag (Ll Z Z)<|Al<|AS h ?_ ?_<;>intro fx h
     ·refine Az<|Ar 1 Z<|AP<|A2<|Az<|Ar 1 Z<|A3 h fun fy h=>Ag (PT fy)<|Ar 1 Z<|AP<|AH _ ⟨ah,x,h⟩
     refine A4<|A2<|Az<|Ar 1 Z<|A3 h fun fz h=>Ag (PT fz)<|Ar 1 Z<|AP<|AH _ ⟨ah,x,h⟩
    refine A4<|AH _ ⟨ah,x,h⟩
   rintro ak f0 ⟨a5,x,h⟩;refine Az<|Ar 2 Z<|Ag (Af Z Aas Z Ho.e)<|Ag (Ae 3 Z a5 Z)<|Ar 1 Z<|A3 h fun cp h=>Bf bk ((a1.2.2.2.2.2.2.2.2.2.2.2.getD a.toNat Qq1).toNat) (CT cp) (AD cp) ?_;rintro i7 _ ⟨_,_,rfl,rfl,⟨_,_,rfl,rfl,⟨_,_,rfl,⟨e336v2,rfl,e336h2⟩,⟨_,_,rfl,rfl,⟨_,_,rfl,rfl,⟨_,_,rfl,rfl,⟨_,_,rfl,rfl,⟨_,_,rfl,rfl,⟨_,_,rfl,rfl,⟨_,_,rfl,rfl,⟨_,_,rfl,⟨e336v10,rfl,e336h10⟩,⟨e336v11,rfl,e336h11⟩⟩⟩⟩⟩⟩⟩⟩⟩⟩⟩⟩ f1;refine Ag (Af Z Aak Z LH.e) ?_;have f2:=f1.add 0;refine Ag (AX f2 (hH.trans a5.arg))<|A3 h fun f3 h=>Ag (PT f3) ?_;have cq:AW w [.box bjb32 [u] 31,.row u 9 1 (y).length m,.box p [Aad a1.1,No a1.2.1,e,No a1.2.2.2.1,.bool a1.2.2.2.2.1,No a1.2.2.2.2.2.1,No a1.2.2.2.2.2.2.1,No a1.2.2.2.2.2.2.2.1,No a1.2.2.2.2.2.2.2.2.1,No a1.2.2.2.2.2.2.2.2.2.1,g,d] 50,.box o [f] 25] f0:=a5.Bn [1] Z;have ec:=AJ [1] a5 cq Z;refine Av h fun ed f4 h=>?_;have x:=x.mono (Ac ec)
   refine BU Z Z (De hH ([.box p [Aad a1.1,No a1.2.1,e,No a1.2.2.2.1,.bool a1.2.2.2.2.1,No a1.2.2.2.2.2.1,No a1.2.2.2.2.2.2.1,No a1.2.2.2.2.2.2.2.1,No a1.2.2.2.2.2.2.2.2.1,No a1.2.2.2.2.2.2.2.2.2.1,g,d] 50,.box o [f] 25]) true ((ak++(a0.getD ((a1.2.2.2.2.2.2.2.2.2.2.2.getD a.toNat Qq1).toNat) Qq1).1)) y cq x f4) ?_;rintro _ g7 ⟨ba,y342_0,rfl,cr,hw,az⟩;refine AP<|A9<|A2<|Az<|A3 h fun f5 h=>Ag (AA f5)<|Ar 1 Z<|AP ?_;have cs:AW w [.row ba 9 1 (ed).length y342_0,.box bjb32 [ba] 31,.box p [Aad a1.1,No a1.2.1,e,No a1.2.2.2.1,.bool a1.2.2.2.2.1,No a1.2.2.2.2.2.1,No a1.2.2.2.2.2.2.1,No a1.2.2.2.2.2.2.2.1,No a1.2.2.2.2.2.2.2.2.1,No a1.2.2.2.2.2.2.2.2.2.1,g,d] 50,.box o [f] 25] g7:=cr.Bn [1] Z;have ee:=AJ [1] cr cs Z;have h:=BW.again h cm;have az:=az.mono (Ac ee);refine AN (_,_,_,_,_) ⟨cs,az,h⟩
  refine Bq<|AK<|AF ?_;have h:=BW.out h cm;refine Bj<|AH (_,_,_) ⟨ah,x,h⟩
 rintro⟨a9,a4,ao⟩ ib ⟨bj,ef,h⟩;refine Aq<|Ag (Ae 1 Z bj Z)<|Av h fun i8 f6 h=>A6 bj (WE _ _ (Le.refl _) (bj.KA hH (i:=0) Z ef) f6) fun i9 ic f7 hx=>A3 h fun f8 h=>Ag (PT f8)<|A1 1 Z<|Au ?_
 cases h
 refine Aj Z ⟨f7.ext,Z⟩
end
def BZ(a0:AaH):Option (Aae×AaH):=
 if(a0.1.length:Int)=0 then none else Bb (0<=(0:Int)/\(0:Int)<(a0.1.length:Int)) (Bb (0<=(1:Int)/\(1:Int)<=(a0.1.length:Int)) (some (a0.1.getD ((0:Int).toNat) Qq1,((a0.1.drop (1:Int).toNat),a0.2.1,a0.2.2))))
theorem Cw{d w:World}{H:PH}(hH:Le H (hp d))(O:List BN)(a0:AaH){ba0:Nat}{va0_0 va0_2:Value}{xsa0_2:Qq5}(hL:AW d (Ha [.box ba0 [va0_0,.bool a0.2.1,va0_2] 82,.row va0_2 9 1 (a0.2.2).length xsa0_2] O) w)(b:AL .st (gz H d w (Ha [.box ba0 [va0_0,.bool a0.2.1,va0_2] 82,.row va0_2 9 1 (a0.2.2).length xsa0_2] O)) va0_0 (a0.1))(a:A5 .st (gz H d w (Ha [.box ba0 [va0_0,.bool a0.2.1,va0_2] 82,.row va0_2 9 1 (a0.2.2).length xsa0_2] O)) (a0.2.2) xsa0_2){r:Aae×AaH}(h:BZ a0=some r):
  Ok prog 32 [Aac ba0] w (fun v w'=>∃(g:Value) (c:Value) (y3:Qq5),v=(Aad r.1)/\AW d (Ha [.box ba0 [g,.bool r.2.2.1,c] 82,.row c 9 1 (r.2.2.2).length y3] O) w'/\Le (fz w (Ha [.box ba0 [va0_0,.bool a0.2.1,va0_2] 82,.row va0_2 9 1 (a0.2.2).length xsa0_2] O)) (fz w' (Ha [.box ba0 [g,.bool r.2.2.1,c] 82,.row c 9 1 (r.2.2.2).length y3] O))/\AL .st (gz H d w' (Ha [.box ba0 [g,.bool r.2.2.1,c] 82,.row c 9 1 (r.2.2.2).length y3] O)) g (r.2.1)/\A5 .st (gz H d w' (Ha [.box ba0 [g,.bool r.2.2.1,c] 82,.row c 9 1 (r.2.2.2).length y3] O)) (r.2.2.2) y3):=by
 refine BC (n:=28) [(0,(Aac ba0))] func32 Z Z Z Z ?_;have hT:=Le.refl (fz w (Ha [.box ba0 [va0_0,.bool a0.2.1,va0_2] 82,.row va0_2 9 1 (a0.2.2).length xsa0_2] O));refine AI 1 Z<|AM<|B1 1 Z<|Ag (AV Z)<|Ag (Af Z Aaw Z Cx.e)<|Ag (Ae 0 Z hL Z)<|Ag (AT b)<|A1 1 Z<|AS h ?_ ?_<;>intro j h
 ·cases h
 refine A4<|A2<|B1 1 Z<|Ag (AV Z)<|Ag (Af Z Aaw Z Cx.e)<|Ag (Ae 0 Z hL Z)<|A3 h fun i h=>Bf b ((0:Int).toNat) (CT i) (AD i) ?_;rintro p _ rfl k;refine Ag (AX k (Ao hL))<|A1 1 Z<|B1 2 Z<|Ag (AV Z)<|Ag (Af Z Aaw Z Cx.e)<|Ag (Ae 0 Z hL Z)<|A3 h fun l h=>DQ b l fun o f=>Ag (AV Z)<|Ag (Af Z Aaw Z Cx.e)<|AY 0 Z Z f.one hL Z Z fun q m e=>Al<|AI 2 Z<|Au ?_
 cases h
 refine Aj Z ?_;have a:=a.mono (Ac e);have f:=f.mono (Ac e);have hT:=hT.trans e;exact⟨o,va0_2,xsa0_2,Z,m,hT,f,a⟩
def Gi(a:Aae×AaH)(b:Aae)(c:Bool):Option (Aae×AaH):=
 some (b,(a.2.1,c,a.2.2.2))
def FN(d:Aae×AaH):Aae×Bool×Int->Option ((Aae×Bool×Int)⊕(Aae×AaH)):=fun⟨e,f,a⟩=>
 if a<(d.1.length:Int)then Bb (0<=a/\a<(d.1.length:Int)) (Qq8 (Pj ([48,49,50,51,52,53,54,55,56,57,97,98,99,100,101,102]:Aae) (d.1.getD a.toNat Qq1)) (fun c=>Bb (BH (a+1)) (Bb (0<=(a+1)/\(a+1)<(d.1.length:Int)) (Qq8 (Pj ([48,49,50,51,52,53,54,55,56,57,97,98,99,100,101,102]:Aae) (d.1.getD (a+1).toNat Qq1)) (fun b=>Bb (BH (c * 16)) (Bb ((0<=b/\b<2 ^ 63)/\(0<=(15:Int)/\(15:Int)<2 ^ 63)) (Bb ((0<=(c * 16)/\(c * 16)<2 ^ 63)/\(0<=((b.toNat &&& (15:Int).toNat:Nat):Int)/\((b.toNat &&& (15:Int).toNat:Nat):Int)<2 ^ 63)) (Bb (Go.E.Gx 1 (e.length+([(Go.L.u8 (((c * 16).toNat ||| ((b.toNat &&& (15:Int).toNat:Nat):Int).toNat:Nat):Int))]).length)) (Bb (BH (a+2)) (some (Sum.inl ((e++[(Go.L.u8 (((c * 16).toNat ||| ((b.toNat &&& (15:Int).toNat:Nat):Int).toNat:Nat):Int))]),(bif (bif f then true else decide (c<0))then true else decide (b<0)),(a+2)))))))))))))else Qzq Sum.inr ((Gi d) e f)
def HU(a:Aae×AaH)(s:Aae×Bool×Int):Option (Aae×AaH):=Go.L.run (FN a) s
def HG(a0:AaH):Option (Aae×AaH):=
 Qq8 (BZ a0) (fun a=>if a.1=([]:Aae)then none else Bb (0<=(a.1.length:Int)/\(a.1.length:Int)<=9223372036854775807/\0<(2:Int)) (if((a.1.length:Int) % (2:Int))=0 then(HU a) (([]:Aae),a.2.2.1,0)else none))
theorem N0{e w:World}{H:PH}(hH:Le H (hp e)){O:List BN}{a0:AaH}{ba0:Nat}{va0_0 va0_2:Value}{xsa0_2:Qq5}(hL:AW e (Ha [.box ba0 [va0_0,.bool a0.2.1,va0_2] 82,.row va0_2 9 1 (a0.2.2).length xsa0_2] O) w)(a5:AL .st (gz H e w (Ha [.box ba0 [va0_0,.bool a0.2.1,va0_2] 82,.row va0_2 9 1 (a0.2.2).length xsa0_2] O)) va0_0 (a0.1))(aw:A5 .st (gz H e w (Ha [.box ba0 [va0_0,.bool a0.2.1,va0_2] 82,.row va0_2 9 1 (a0.2.2).length xsa0_2] O)) (a0.2.2) xsa0_2){r:Aae×AaH}(h:HG a0=some r):
  Ok prog 36 [Aac ba0] w (fun v w'=>∃(u0:Value) (y0:Qq5) (u1:Value) (u:Value) (y3:Qq5),v=u0/\AW e (Ha [.row u0 5 1 (r.1).length y0,.box ba0 [u1,.bool r.2.2.1,u] 82,.row u 9 1 (r.2.2.2).length y3] O) w'/\Le (fz w (Ha [.box ba0 [va0_0,.bool a0.2.1,va0_2] 82,.row va0_2 9 1 (a0.2.2).length xsa0_2] O)) (fz w' (Ha [.row u0 5 1 (r.1).length y0,.box ba0 [u1,.bool r.2.2.1,u] 82,.row u 9 1 (r.2.2.2).length y3] O))/\A5 .byte (gz H e w' (Ha [.row u0 5 1 (r.1).length y0,.box ba0 [u1,.bool r.2.2.1,u] 82,.row u 9 1 (r.2.2.2).length y3] O)) (r.1) y0/\AL .st (gz H e w' (Ha [.row u0 5 1 (r.1).length y0,.box ba0 [u1,.bool r.2.2.1,u] 82,.row u 9 1 (r.2.2.2).length y3] O)) u1 (r.2.1)/\A5 .st (gz H e w' (Ha [.row u0 5 1 (r.1).length y0,.box ba0 [u1,.bool r.2.2.1,u] 82,.row u 9 1 (r.2.2.2).length y3] O)) (r.2.2.2) y3):=by
 refine BC (n:=61) [(0,(Aac ba0))] func36 Z Z Z Z ?_;have hT:=Le.refl (fz w (Ha [.box ba0 [va0_0,.bool a0.2.1,va0_2] 82,.row va0_2 9 1 (a0.2.2).length xsa0_2] O));refine AI 1 Z<|B1 1 Z<|Av h fun x bq h=>BO (Cw hH (Ha [] O) a0 hL a5 aw bq) ?_;rintro _ w2 ⟨o,p,y2_3,rfl,br,ax,y,z⟩;refine A1 1 Z<|AM<|B1 1 Z<|Ag (Ll Z Z)<|Ar 1 Z<|AQ 12 h ?_ ?_<;>intro j h
 ·iterate 4 refine Ab j ?_
  refine Ag (Ak j Z)<|Al<|Fy ?_
  cases h
 refine Aa j<|Ag (Ad Z)<|Aa j<|Ag (Lm Z)<|Aa j<|A3 h fun bm h=>Ag (Tt Z Z ⟨bm.1,bm.2.2⟩)<|Aa j<|Ag (Ad Z)<|Ag (Am j Z)<|Al<|DP h ?_ ?_<;>intro bs h
 ·cases h
 refine A4<|A2<|B1 1 Z ?_;obtain⟨ay,k,bn⟩:=CF .byte H 5 br;refine Al<|Bm (Aae×Bool×Value×Qq5) (fun⟨ae,am,s,f⟩=>[(4,s)]) (fun⟨ae,am,s,f⟩ wr=>DE e (Ha [.row s 5 1 (ae).length f,.box ba0 [o,.bool am,p] 82,.row p 9 1 (x.2.2.2).length y2_3] O) wr fun Oz=>A5 .byte (gz H e wr Oz) ae f/\AL .st (gz H e wr Oz) o (x.2.1)/\A5 .st (gz H e wr Oz) (x.2.2.2) y2_3/\Le (fz w (Ha [.box ba0 [va0_0,.bool a0.2.1,va0_2] 82,.row va0_2 9 1 (a0.2.2).length xsa0_2] O)) (fz wr Oz)/\(Gi x) ae am=some r) ?_ ?_
 ·have al:=ay.rG H;refine AI 1 Z<|A8 ?_;obtain⟨az,h⟩:=Bc h;have hT:=hT.trans (ax.trans k);have y:=y.mono (Ac k);have z:=z.mono (Ac k);refine Bz (Aae×Bool×Int×Value×Qq5×Nat) (fun⟨g,t,b,i,d,n⟩=>[(0,(Aac ba0)),(3,(Aad x.1)),(4,i),(5,No b)]) (fun⟨g,t,b,i,d,n⟩ wr=>DE e (Ha [.row i 5 1 (g).length d,.box ba0 [o,.bool t,p] 82,.row p 9 1 (x.2.2.2).length y2_3] O) wr fun Oz=>A5 .byte (gz H e wr Oz) g d/\AL .st (gz H e wr Oz) o (x.2.1)/\A5 .st (gz H e wr Oz) (x.2.2.2) y2_3/\Le (fz w (Ha [.box ba0 [va0_0,.bool a0.2.1,va0_2] 82,.row va0_2 9 1 (a0.2.2).length xsa0_2] O)) (fz wr Oz)/\FW (FN x) n (g,t,b)=some r) (fun⟨g,t,b,i,d,n⟩=>n) (([]:Aae),x.2.2.1,0,Aaa,[],az) Z ⟨ay,(bn.mono al),(y.mono al),(z.mono al),hT,h⟩ ?_;rintro⟨g,t,b,i,d,nn94⟩ bw ⟨aa,an,af,he94_r2_3,hT,h⟩;obtain⟨az,b6,rfl,h,a1⟩:=Ba h;refine AM ?_;have a:=aa.rG H;refine B1 2 Z<|Ag (Lm Z)<|A1 1 Z<|AS h ?_ ?_<;>intro bo h
  ·refine A4<|A2<|AM<|A8<|CI (Qqz 0 11 (.tail 11)) mixed V (fun b7 a2=>?_);have ao:=aa.call a2;have ag:=Bd aa a2;refine BJ 2 Z<|A3 h fun a6 h=>B9 Z (LW a6) Z<|Av h fun ab a7 h=>IA Z Z Z (fun bx bt=>P7 _ _ (Le.refl _) a7)<|BJ 2 Z<|A3 h fun a8 h=>B9 Z (AA a8) Z<|A3 h fun a9 h=>B9 Z (LW a9) Z<|Av h fun ac ba h=>IA Z Z Z (fun bz bu=>P7 _ _ (Le.refl _) ba)<|BJ 2 Z<|B8 (fun b0 ap=>?_);have aq:=ao.call ap;have ah:=Bd ao ap;refine Al<|B1 2 Z<|Ag (AV Z)<|Ag (Af Z Aaw Z Fv.e)<|Ag (Ae 1 Z aq Z)<|Ar 1 Z<|Jz 2 5 Z Z Z Z Z Z Z<|Ar 1 Z<|Jz 2 9 Z Z Z Z Z Z Z<|Ag (AV Z)<|Ag (Af Z Aaw Z Fv.e)<|AY 1 Z Z Z aq Z Z fun b1 bb ai=>Al<|Az ?_
   refine Ar 2 Z<|A3 h fun ar h=>Ag (Sb (c:=4) (m:=16) Qqb (wrap64 ar.1 ar.2))<|Ar 1 Z<|A3 h fun bc h=>Ag (OH Z bc)<|A3 h fun bd h=>Ag (OH Z bd)<|Ag (EA (Gm _))<|BV [(Go.L.u8 (((ab * 16).toNat ||| ((ac.toNat &&& (15:Int).toNat:Nat):Int).toNat:Nat):Int))] (r:=.byte) (fun _=>Kh _ _) bb (.c1 Z .nil) fun b2 b3 bv be aj bf=>A3 h fun bg h=>?_;have a:=a.trans (Ac (ag.trans (ah.trans (ai.trans aj))));refine BL (r:=.byte) 0 g [(Go.L.u8 (((ab * 16).toNat ||| ((ac.toNat &&& (15:Int).toNat:Nat):Int).toNat:Nat):Int))] Z Aag be Z (an.mono a) bf bg fun bp b4 bh bi ak bj=>Ar 1 Z<|AP<|A9<|A2<|Az<|Ar 1 Z<|A3 h fun bk h=>Ag (AA bk)<|Ar 1 Z<|AP ?_;have h:=BW.again h a1;have hT:=hT.trans (ag.trans (ah.trans (ai.trans (aj.trans ak))));have a:=a.trans (Ac ak)
   refine AN ((g++[(Go.L.u8 (((ab * 16).toNat ||| ((ac.toNat &&& (15:Int).toNat:Nat):Int).toNat:Nat):Int))]),(bif (bif t then true else decide (ab<0))then true else decide (ac<0)),(b+2),bp,bh,az) ⟨bi,bj,(af.mono a),(he94_r2_3.mono a),hT,h⟩
  refine Bq<|AK<|AF ?_;have h:=BW.out h a1;refine Bj<|AH (_,_,_,_) ⟨aa,(an.mono a),(af.mono a),(he94_r2_3.mono a),hT,h⟩
 have hT:=hT.trans (ax.trans k);rintro⟨ae,am,s,f⟩ b5 ⟨a3,bl,a4,he65_r2_3,hT,h⟩;have ad:=a3.rG H;refine AI 2 Z<|Au ?_
 cases h
 refine Aj Z ⟨s,f,o,p,y2_3,Z,a3,hT,(bl.mono ad),(a4.mono ad),(he65_r2_3.mono ad)⟩
def D8(a0:AaH):Option (Int×AaH):=
 Qq8 (BZ a0) (fun a=>Qq8 (Vh a.1) (fun b=>if b.2 then(if a.2.2.1 then some (b.1,(a.2.1,true,a.2.2.2))else if(10<(a.1.length:Int))\/(b.1<0)then some (b.1,(a.2.1,true,a.2.2.2))else Qq8 (Qi b.1) (fun c=>some (b.1,(a.2.1,!decide (c=a.1),a.2.2.2))))else(if a.2.2.1 then some (b.1,(a.2.1,true,a.2.2.2))else some (b.1,(a.2.1,true,a.2.2.2)))))
theorem GB{u w:World}{H:PH}(hH:Le H (hp u))(hU:Jm H){O:List BN}{a0:AaH}{ba0:Nat}{va0_0 va0_2:Value}{xsa0_2:Qq5}(hL:AW u (Ha [.box ba0 [va0_0,.bool a0.2.1,va0_2] 82,.row va0_2 9 1 (a0.2.2).length xsa0_2] O) w)(aa:AL .st (gz H u w (Ha [.box ba0 [va0_0,.bool a0.2.1,va0_2] 82,.row va0_2 9 1 (a0.2.2).length xsa0_2] O)) va0_0 (a0.1))(y:A5 .st (gz H u w (Ha [.box ba0 [va0_0,.bool a0.2.1,va0_2] 82,.row va0_2 9 1 (a0.2.2).length xsa0_2] O)) (a0.2.2) xsa0_2){r:Int×AaH}(h:D8 a0=some r):
  Ok prog 38 [Aac ba0] w (fun v w'=>∃(z:Value) (s:Value) (y3:Qq5),v=No r.1/\AW u (Ha [.box ba0 [z,.bool r.2.2.1,s] 82,.row s 9 1 (r.2.2.2).length y3] O) w'/\Le (fz w (Ha [.box ba0 [va0_0,.bool a0.2.1,va0_2] 82,.row va0_2 9 1 (a0.2.2).length xsa0_2] O)) (fz w' (Ha [.box ba0 [z,.bool r.2.2.1,s] 82,.row s 9 1 (r.2.2.2).length y3] O))/\AL .st (gz H u w' (Ha [.box ba0 [z,.bool r.2.2.1,s] 82,.row s 9 1 (r.2.2.2).length y3] O)) z (r.2.1)/\A5 .st (gz H u w' (Ha [.box ba0 [z,.bool r.2.2.1,s] 82,.row s 9 1 (r.2.2.2).length y3] O)) (r.2.2.2) y3):=by
 refine BC (n:=40) [(0,(Aac ba0))] func38 Z Z Z Z ?_;have hT:=Le.refl (fz w (Ha [.box ba0 [va0_0,.bool a0.2.1,va0_2] 82,.row va0_2 9 1 (a0.2.2).length xsa0_2] O));refine AI 1 Z<|B1 1 Z<|Av h fun x1 ai h=>BO (Cw hH (Ha [] O) a0 hL aa y ai) ?_;rintro _ w2 ⟨g,i,y2_3,rfl,ab,j,a,b⟩;refine A1 1 Z<|B1 1 Z<|Av h fun x4 aj h=>Bv ab (WD _ _ (Ao ab) (hU.mono  Ai) aj) ?_;rintro _ w3 ⟨e3,rfl,ak,al⟩ ap f c;refine Uc x4.2 (fun t=>?_) (fun t=>?_)
 ·obtain rfl:=ak t;have h:=LD t h;refine A1 5 Z<|B1 2 Z<|Ag (AV Z)<|Ag (Af Z Aaw Z Fv.e)<|Ag (Ae 0 Z f Z)<|Ar 1 Z<|Bg 18 h ?_ ?_<;>intro k h
  ·iterate 2 refine Ab k ?_
   refine Ag (Ak k Z)<|Ar 1 Z ?_
   iterate 3 refine Ab Z ?_
   refine Ag (Ak Z Z)<|Ar 1 Z ?_
   iterate 2 refine Ab Z ?_
   refine Ag (Ak Z Z)<|Ar 1 Z ?_
   iterate 4 refine Ab Z ?_
   refine Ag (Ak Z Z)<|Ag (AV Z)<|Ag (Af Z Aaw Z Fv.e)<|AY 0 Z Z Z f Z Z fun w8 am x=>Al<|AI 2 Z<|Au ?_
   cases h
   refine Aj Z ?_;have hT:=hT.trans (j.trans (c.trans x));have a:=a.mono (Ac (c.trans x));have b:=b.mono (Ac (c.trans x));exact⟨g,i,y2_3,Z,am,hT,a,b⟩
  refine Aa k<|Ag (Ad Z)<|Aa k<|Ag YW<|Ag (Am k Z)<|Ar 1 Z<|Aa Z<|Ag (Ad Z)<|Aa Z<|Ag (Lm Z)<|Aa Z<|Ag (Ad Z)<|Ag (Am Z Z)<|Ar 1 Z<|Wb 2 14 Z Z Z Z Z Z<|Ar 1 Z<|AQ 31 h ?_ ?_<;>intro d h
  ·iterate 4 refine Ab d ?_
   refine Ag (Ak d Z)<|Ag (AV Z)<|Ag (Af Z Aaw Z Fv.e)<|AY 0 Z Z Z f Z Z fun aq ac l=>Al<|AI 2 Z<|Au ?_
   cases h
   refine Aj Z ?_;have hT:=hT.trans (j.trans (c.trans l));have a:=a.mono (Ac (c.trans l));have b:=b.mono (Ac (c.trans l));exact⟨g,i,y2_3,Z,ac,hT,a,b⟩
  refine Aa d<|Ag (Ad Z)<|Aa d<|Av h fun ar ad h=>A6 f (O2 _ _ (Ao f) (hU.mono  Ai) ad) fun au ao ae m=>Aa d<|Ag (Ad Z)<|Aa d<|Ag (NN Z Z)<|Ag (Am d Z)<|Ag (AV Z)<|Ag (Af Z Aaw Z Fv.e)<|AY 0 Z Z Z ae Z Z fun av af o=>Al<|AI 2 Z<|Au ?_
  cases h
  refine Aj Z ?_;have hT:=hT.trans (j.trans (c.trans (m.trans o)));have a:=a.mono (Ac (c.trans (m.trans o)));have b:=b.mono (Ac (c.trans (m.trans o)));exact⟨g,i,y2_3,Z,af,hT,a,b⟩
 obtain⟨t3,p3,rfl⟩:=al t;have h:=LF t h;refine A1 5 Z<|B1 2 Z<|Ag (AV Z)<|Ag (Af Z Aaw Z Fv.e)<|Ag (Ae 0 Z f Z)<|Ar 1 Z<|Bg 18 h ?_ ?_<;>intro e h
 ·iterate 2 refine Ab e ?_
  refine Ag (Ak e Z)<|Ar 1 Z ?_
  iterate 3 refine Ab Z ?_
  refine Ag (Ak Z Z)<|Ar 1 Z ?_
  iterate 2 refine Ab Z ?_
  refine Ag (Ak Z Z)<|Ar 1 Z ?_
  iterate 4 refine Ab Z ?_
  refine Ag (Ak Z Z)<|Ag (AV Z)<|Ag (Af Z Aaw Z Fv.e)<|AY 0 Z Z Z f Z Z fun aw ag p=>Al<|AI 2 Z<|Au ?_
  cases h
  refine Aj Z ?_;have hT:=hT.trans (j.trans (c.trans p));have a:=a.mono (Ac (c.trans p));have b:=b.mono (Ac (c.trans p));exact⟨g,i,y2_3,Z,ag,hT,a,b⟩
 refine Aa e<|Ag (Ad Z)<|Aa e<|Ag YV<|Ag (Am e Z)<|Ar 1 Z ?_
 iterate 3 refine Ab Z ?_
 refine Ag (Ak Z Z)<|Ar 1 Z ?_
 iterate 2 refine Ab Z ?_
 refine Ag (Ak Z Z)<|Ar 1 Z ?_
 iterate 4 refine Ab Z ?_
 refine Ag (Ak Z Z)<|Ag (AV Z)<|Ag (Af Z Aaw Z Fv.e)<|AY 0 Z Z Z f Z Z fun ax ah q=>Al<|AI 2 Z<|Au ?_
 cases h
 refine Aj Z ?_;have hT:=hT.trans (j.trans (c.trans q));have a:=a.mono (Ac (c.trans q));have b:=b.mono (Ac (c.trans q));exact⟨g,i,y2_3,Z,ah,hT,a,b⟩
def G4(a0:AaH):Option (Bool×AaH):=
 Qq8 (BZ a0) (fun a=>if a.2.2.1 then some (decide (a.1=([98,105,103]:Aae)),(a.2.1,true,a.2.2.2))else if a.1=([98,105,103]:Aae)then some (decide (a.1=([98,105,103]:Aae)),(a.2.1,false,a.2.2.2))else some (decide (a.1=([98,105,103]:Aae)),(a.2.1,!decide (a.1=([108,105,116,116,108,101]:Aae)),a.2.2.2)))
theorem MA{g w:World}{H:PH}(hH:Le H (hp g)){O:List BN}{a0:AaH}{ba0:Nat}{va0_0 va0_2:Value}{xsa0_2:Qq5}(hL:AW g (Ha [.box ba0 [va0_0,.bool a0.2.1,va0_2] 82,.row va0_2 9 1 (a0.2.2).length xsa0_2] O) w)(s:AL .st (gz H g w (Ha [.box ba0 [va0_0,.bool a0.2.1,va0_2] 82,.row va0_2 9 1 (a0.2.2).length xsa0_2] O)) va0_0 (a0.1))(p:A5 .st (gz H g w (Ha [.box ba0 [va0_0,.bool a0.2.1,va0_2] 82,.row va0_2 9 1 (a0.2.2).length xsa0_2] O)) (a0.2.2) xsa0_2){r:Bool×AaH}(h:G4 a0=some r):
  Ok prog 40 [Aac ba0] w (fun v w'=>∃(q:Value) (f:Value) (y3:Qq5),v=.bool r.1/\AW g (Ha [.box ba0 [q,.bool r.2.2.1,f] 82,.row f 9 1 (r.2.2.2).length y3] O) w'/\Le (fz w (Ha [.box ba0 [va0_0,.bool a0.2.1,va0_2] 82,.row va0_2 9 1 (a0.2.2).length xsa0_2] O)) (fz w' (Ha [.box ba0 [q,.bool r.2.2.1,f] 82,.row f 9 1 (r.2.2.2).length y3] O))/\AL .st (gz H g w' (Ha [.box ba0 [q,.bool r.2.2.1,f] 82,.row f 9 1 (r.2.2.2).length y3] O)) q (r.2.1)/\A5 .st (gz H g w' (Ha [.box ba0 [q,.bool r.2.2.1,f] 82,.row f 9 1 (r.2.2.2).length y3] O)) (r.2.2.2) y3):=by
 refine BC (n:=23) [(0,(Aac ba0))] func40 Z Z Z Z ?_;have hT:=Le.refl (fz w (Ha [.box ba0 [va0_0,.bool a0.2.1,va0_2] 82,.row va0_2 9 1 (a0.2.2).length xsa0_2] O));refine AI 1 Z<|B1 1 Z<|Av h fun x1 u h=>BO (Cw hH (Ha [] O) a0 hL s p u) ?_;rintro _ w2 ⟨i,j,y2_3,rfl,o,k,a,b⟩;refine A1 1 Z<|B1 2 Z<|Ag (AV Z)<|Ag (Af Z Aaw Z Fv.e)<|Ag (Ae 0 Z o Z)<|Ar 1 Z<|Bg 11 h ?_ ?_<;>intro c h
 ·iterate 3 refine Ab c ?_
  iterate 2 refine As ?_
  refine Ab c<|Ag (Ak c Z)<|Ag (AV Z)<|Ag (Af Z Aaw Z Fv.e)<|AY 0 Z Z Z o Z Z fun w5 x l=>Al<|B1 1 Z<|Ag (Ll Z Z)<|A1 1 Z<|Au ?_
  cases h
  refine Aj Z ?_;have hT:=hT.trans (k.trans l);have a:=a.mono (Ac l);have b:=b.mono (Ac l);exact⟨i,j,y2_3,Z,x,hT,a,b⟩
 refine Aa c<|Ag (Ad Z)<|Aa c<|Ag (NN Z Z)<|Aa c<|Ag (Ad Z)<|G9 14 h ?_ ?_<;>intro d h
 ·refine Aa d<|Ag (Ad Z)<|Aa d<|Ag (NN Z Z)<|Aa c<|Ag (Ak d Z)<|Ag (Am c Z)<|Ag (AV Z)<|Ag (Af Z Aaw Z Fv.e)<|AY 0 Z Z Z o Z Z fun w9 y m=>Al<|B1 1 Z<|Ag (Ll Z Z)<|A1 1 Z<|Au ?_
  cases h
  refine Aj Z ?_;have hT:=hT.trans (k.trans m);have a:=a.mono (Ac m);have b:=b.mono (Ac m);exact⟨i,j,y2_3,Z,y,hT,a,b⟩
 iterate 2 refine Ab d ?_
 refine Aa c<|Ag (Am d Z)<|Ag (Am c Z)<|Ag (AV Z)<|Ag (Af Z Aaw Z Fv.e)<|AY 0 Z Z Z o Z Z fun z t e=>Al<|B1 1 Z<|Ag (Ll Z Z)<|A1 1 Z<|Au ?_
 cases h
 refine Aj Z ?_;have hT:=hT.trans (k.trans e);have a:=a.mono (Ac e);have b:=b.mono (Ac e);exact⟨i,j,y2_3,Z,t,hT,a,b⟩
def Eu(a0:AaH)(a1:Aae)(a:Bool):Option (AaH):=
 Bb (Go.E.Gx 16 (a0.2.2.length+([a1]).length)) (some ((a0.1,a,(a0.2.2++[a1]))))
def D1(a0:AaH)(a1:Aae):Option (AaH):=
 if a0.2.1 then(Eu a0 a1) true else Qq8 (Gn a1) (fun a=>(Eu a0 a1) (!a))
theorem FO{e w:World}{H:PH}(hH:Le H (hp e))(O:List BN)(a0:AaH)(a1:Aae){ba0:Nat}{va0_0 va0_2:Value}{xsa0_2:Qq5}(hL:AW e (Ha [.box ba0 [va0_0,.bool a0.2.1,va0_2] 82,.row va0_2 9 1 (a0.2.2).length xsa0_2] O) w)(b:AL .st (gz H e w (Ha [.box ba0 [va0_0,.bool a0.2.1,va0_2] 82,.row va0_2 9 1 (a0.2.2).length xsa0_2] O)) va0_0 (a0.1))(a:A5 .st (gz H e w (Ha [.box ba0 [va0_0,.bool a0.2.1,va0_2] 82,.row va0_2 9 1 (a0.2.2).length xsa0_2] O)) (a0.2.2) xsa0_2){r:AaH}(h:D1 a0 a1=some r):
  Ok prog 43 [Aac ba0,Aad a1] w (fun v w'=>∃(t:Value) (p:Value) (y2:Qq5),v=.tuple #[]/\AW e (Ha [.box ba0 [t,.bool r.2.1,p] 82,.row p 9 1 (r.2.2).length y2] O) w'/\Le (fz w (Ha [.box ba0 [va0_0,.bool a0.2.1,va0_2] 82,.row va0_2 9 1 (a0.2.2).length xsa0_2] O)) (fz w' (Ha [.box ba0 [t,.bool r.2.1,p] 82,.row p 9 1 (r.2.2).length y2] O))/\AL .st (gz H e w' (Ha [.box ba0 [t,.bool r.2.1,p] 82,.row p 9 1 (r.2.2).length y2] O)) t (r.1)/\A5 .st (gz H e w' (Ha [.box ba0 [t,.bool r.2.1,p] 82,.row p 9 1 (r.2.2).length y2] O)) (r.2.2) y2):=by
 refine BC (n:=26) [(0,(Aac ba0)),(1,(Aad a1))] func43 Z Z Z Z ?_;have hT:=Le.refl (fz w (Ha [.box ba0 [va0_0,.bool a0.2.1,va0_2] 82,.row va0_2 9 1 (a0.2.2).length xsa0_2] O));refine Bm Bool (fun y=>[(0,(Aac ba0)),(1,(Aad a1))]) (fun y wr=>DE e (Ha [.box ba0 [va0_0,.bool y,va0_2] 82,.row va0_2 9 1 (a0.2.2).length xsa0_2] O) wr fun Oz=>AL .st (gz H e wr Oz) va0_0 (a0.1)/\A5 .st (gz H e wr Oz) (a0.2.2) xsa0_2/\Le (fz w (Ha [.box ba0 [va0_0,.bool a0.2.1,va0_2] 82,.row va0_2 9 1 (a0.2.2).length xsa0_2] O)) (fz wr Oz)/\(Eu a0 a1) y=some r) ?_ ?_
 ·refine Az<|Ar 2 Z<|Ag (AV Z)<|Ag (Af Z Aaw Z Fv.e)<|Ag (Ae 0 Z hL Z)<|Ar 1 Z<|Bg 9 h ?_ ?_<;>intro c h
  ·iterate 3 refine Ab c ?_
   refine Ag (Ak c Z)<|Ag (AV Z)<|Ag (Af Z Aaw Z Fv.e)<|AY 0 Z Z Z hL Z Z fun an z f=>AP ?_;have b:=b.mono (Ac f);have a:=a.mono (Ac f);have hT:=hT.trans f;refine AH _ ⟨z,b,a,hT,h⟩
  refine Aa c<|Ag (Ad Z)<|Aa c<|Av h fun ai aa h=>A6 hL (Hy _ _ (Ao hL) aa) fun ao ak ab g=>Aa c<|Ag (Ad Z)<|Ag (Am c Z)<|Ag (AV Z)<|Ag (Af Z Aaw Z Fv.e)<|AY 0 Z Z Z ab Z Z fun ap ac j=>AP ?_;have b:=b.mono (Ac (g.trans j));have a:=a.mono (Ac (g.trans j));have hT:=hT.trans (g.trans j);refine AH _ ⟨ac,b,a,hT,h⟩
 rintro y al ⟨u,d,he10_Ra0_2,hT,h⟩;refine Az<|Ar 2 Z<|Ag (AV Z)<|Ag (Af Z Aaw Z Cx.e)<|Ag (Ae 0 Z u Z)<|Ar 1 Z<|BV [a1] (r:=.st) (fun _=>M7 _ Z _) u (.c1 Z .nil) fun aq ar am ad k ae=>A3 h fun af h=>?_;have he10_Ra0_2:=he10_Ra0_2.mono (Ac k);refine BL (r:=.st) 1 a0.2.2 [a1] Z Aan ad Z he10_Ra0_2 ae af fun aj au ag x s q=>Ag (AV Z)<|Ag (Af Z Aaw Z Cx.e)<|AY 0 Z Z (row_one (x.at (i:=1) Z)) x Z Z fun av ah o=>AP ?_
 cases h
 refine Et ?_;have d:=d.mono (Ac (k.trans (s.trans o)));have hT:=hT.trans (k.trans (s.trans o));have q:=q.mono (Ac o);exact⟨va0_0,aj,ag,Z,ah,hT,d,q⟩
def DW(e:Bool)(c:List Aae)(d:Aae×AaH)(f:Aae×Aae×Bool)(a:Aae):Option (((List Aae)×(List Aae)×Bool×(List Aae))⊕((List Aae)×AaH)):=
 Bb (Go.E.Gx 16 (c.length+([a]).length)) (Qq8 (D1 (d.2.1,e,d.2.2.2) f.2.1) (fun b=>some (Sum.inl ((c++[a]),b.1,b.2.1,b.2.2))))
def Df(b:List Aae)(c:Aae×AaH)(a:Aae×Aae×Bool)(d:Bool):Option (((List Aae)×(List Aae)×Bool×(List Aae))⊕((List Aae)×AaH)):=
 if a.1=([45]:Aae)then(DW d b c a) ([]:Aae)else(DW d b c a) a.1
def Fo(a:List Aae)(b:List Aae)(c:Bool)(d:List Aae):Option ((List Aae)×AaH):=
 some (a,(b,c,d))
def ET(a1:Bool):(List Aae)×(List Aae)×Bool×(List Aae)->Option (((List Aae)×(List Aae)×Bool×(List Aae))⊕((List Aae)×AaH)):=fun⟨c,d,f,g⟩=>
 if 0<(d.length:Int)then Qq8 (BZ (d,f,g)) (fun a=>if a1 then Qq8 (K1 a.1 ([58]:Aae)) (fun b=>if(bif a.2.2.1 then true else !b.2.2)then(Df c a b) true else if b.1=([45]:Aae)then(Df c a b) false else Qq8 (Gn b.1) (fun h=>(Df c a b) (!h)))else Qq8 (D1 a.2 a.1) (fun e=>some (Sum.inl (c,e.1,e.2.1,e.2.2))))else Qzq Sum.inr (Fo c d f g)
def Hd(a1:Bool)(s:(List Aae)×(List Aae)×Bool×(List Aae)):Option ((List Aae)×AaH):=Go.L.run (ET a1) s
def G5(a0:AaH)(a1:Bool):Option ((List Aae)×AaH):=
 (Hd a1) (([]:List Aae),a0.1,a0.2.1,a0.2.2)
theorem MB{i w:World}{H:PH}(hH:Le H (hp i)){O:List BN}{a0:AaH}{a1:Bool}{ba0:Nat}{va0_0 va0_2:Value}{xsa0_2:Qq5}(hL:AW i (Ha [.box ba0 [va0_0,.bool a0.2.1,va0_2] 82,.row va0_2 9 1 (a0.2.2).length xsa0_2] O) w)(bf:AL .st (gz H i w (Ha [.box ba0 [va0_0,.bool a0.2.1,va0_2] 82,.row va0_2 9 1 (a0.2.2).length xsa0_2] O)) va0_0 (a0.1))(a5:A5 .st (gz H i w (Ha [.box ba0 [va0_0,.bool a0.2.1,va0_2] 82,.row va0_2 9 1 (a0.2.2).length xsa0_2] O)) (a0.2.2) xsa0_2){r:(List Aae)×AaH}(h:G5 a0 a1=some r):
  Ok prog 46 [Aac ba0,.bool a1] w (fun v w'=>∃(u0:Value) (y0:Qq5) (u1:Value) (u3:Value) (y3:Qq5),v=u0/\AW i (Ha [.row u0 9 1 (r.1).length y0,.box ba0 [u1,.bool r.2.2.1,u3] 82,.row u3 9 1 (r.2.2.2).length y3] O) w'/\Le (fz w (Ha [.box ba0 [va0_0,.bool a0.2.1,va0_2] 82,.row va0_2 9 1 (a0.2.2).length xsa0_2] O)) (fz w' (Ha [.row u0 9 1 (r.1).length y0,.box ba0 [u1,.bool r.2.2.1,u3] 82,.row u3 9 1 (r.2.2.2).length y3] O))/\A5 .st (gz H i w' (Ha [.row u0 9 1 (r.1).length y0,.box ba0 [u1,.bool r.2.2.1,u3] 82,.row u3 9 1 (r.2.2.2).length y3] O)) (r.1) y0/\AL .st (gz H i w' (Ha [.row u0 9 1 (r.1).length y0,.box ba0 [u1,.bool r.2.2.1,u3] 82,.row u3 9 1 (r.2.2.2).length y3] O)) u1 (r.2.1)/\A5 .st (gz H i w' (Ha [.row u0 9 1 (r.1).length y0,.box ba0 [u1,.bool r.2.2.1,u3] 82,.row u3 9 1 (r.2.2.2).length y3] O)) (r.2.2.2) y3):=by
 refine BC (n:=56) [(0,(Aac ba0)),(1,.bool a1)] func46 Z Z Z Z ?_;have hT:=Le.refl (fz w (Ha [.box ba0 [va0_0,.bool a0.2.1,va0_2] 82,.row va0_2 9 1 (a0.2.2).length xsa0_2] O));refine AI 1 Z<|B1 1 Z ?_;obtain⟨cx,bg,cb⟩:=CF .st H 9 hL;refine Al<|Bm ((List Aae)×(List Aae)×Bool×(List Aae)×Value×Qq5×Value×Value×Qq5) (fun⟨bc,bz,bn,bd,ax,ac,ay,af,ad⟩=>[(5,ax)]) (fun⟨bc,bz,bn,bd,ax,ac,ay,af,ad⟩ wr=>DE i (Ha [.row af 9 1 (bd).length ad,.row ax 9 1 (bc).length ac,.box ba0 [ay,.bool bn,af] 82] O) wr fun Oz=>A5 .st (gz H i wr Oz) bd ad/\A5 .st (gz H i wr Oz) bc ac/\AL .st (gz H i wr Oz) ay bz/\Le (fz w (Ha [.box ba0 [va0_0,.bool a0.2.1,va0_2] 82,.row va0_2 9 1 (a0.2.2).length xsa0_2] O)) (fz wr Oz)/\Fo bc bz bn bd=some r) ?_ ?_
 ·refine A8 ?_;have b0:AW i (Ha [.row va0_2 9 1 (a0.2.2).length xsa0_2,.row Aaa 9 1 (([]:List Aae)).length ([]),.box ba0 [va0_0,.bool a0.2.1,va0_2] 82] O) w:=cx.Bn [2] Z;have aj:=AJ [2] cx b0 Z;obtain⟨bh,h⟩:=Bc h;have bf:=bf.mono (Ac (bg.trans aj));have a5:=a5.mono (Ac (bg.trans aj));have hT:=hT.trans (bg.trans aj);have cb:=cb.mono (Ac aj)
  refine Bz ((List Aae)×(List Aae)×Bool×(List Aae)×Value×Qq5×Value×Value×Qq5×Nat) (fun⟨c,ag,aa,u,e,b,x,s,q,n⟩=>[(0,(Aac ba0)),(1,.bool a1),(5,e)]) (fun⟨c,ag,aa,u,e,b,x,s,q,n⟩ wr=>DE i (Ha [.row s 9 1 (u).length q,.row e 9 1 (c).length b,.box ba0 [x,.bool aa,s] 82] O) wr fun Oz=>A5 .st (gz H i wr Oz) u q/\A5 .st (gz H i wr Oz) c b/\AL .st (gz H i wr Oz) x ag/\Le (fz w (Ha [.box ba0 [va0_0,.bool a0.2.1,va0_2] 82,.row va0_2 9 1 (a0.2.2).length xsa0_2] O)) (fz wr Oz)/\FW (ET a1) n (c,ag,aa,u)=some r) (fun⟨c,ag,aa,u,e,b,x,s,q,n⟩=>n) (([]:List Aae),a0.1,a0.2.1,a0.2.2,Aaa,[],va0_0,va0_2,xsa0_2,bh) Z ⟨b0,a5,cb,bf,hT,h⟩ ?_;rintro⟨c,ag,aa,u,e,b,x,s,q,nn140⟩ cd ⟨ak,bo,ab,a6,hT,h⟩;obtain⟨bh,cc,rfl,h,bi⟩:=Ba h;refine AM ?_;have a:=ak.rG H;refine B1 1 Z<|Ag (AV Z)<|Ag (Af Z Aaw Z Cx.e)<|Ag (Ae 2 Z ak Z) ?_
  refine Ag (AT (a6.mono a))<|A1 1 Z<|AS h ?_ ?_<;>intro ce h
  ·refine A4<|A2<|A8<|B1 1 Z ?_;have b1:AW i (Ha [.box ba0 [x,.bool aa,s] 82,.row s 9 1 (u).length q,.row e 9 1 (c).length b] O) cd:=ak.Bn [2] Z;have t:=AJ [2] ak b1 Z;refine Av h fun p cf h=>?_;have a:=a.trans (Ac t);refine BO (Cw hH ((Ha [.row e 9 1 (c).length b] O)) (ag,aa,u) b1 (a6.mono a) (bo.mono a) cf) ?_;rintro _ c8 ⟨al,am,y148_3,rfl,bj,j,f,g⟩;refine A1 1 Z<|AM<|AI 1 Z<|Bi h ?_ ?_<;>intro cg h
   ·refine B1 1 Z<|Av h fun ah ch h=>A6 bj (Ny _ _ (Ao bj) ch) fun c9 c3 an d=>A1 7 Z<|Bm Bool (fun ai=>[(0,(Aac ba0)),(1,.bool a1),(5,e),(7,(Aad ah.1)),(8,(Aad ah.2.1))]) (fun ai wr=>DE i (Ha [.box ba0 [al,.bool ai,am] 82,.row am 9 1 (p.2.2.2).length y148_3,.row e 9 1 (c).length b] O) wr fun Oz=>AL .st (gz H i wr Oz) al (p.2.1)/\A5 .st (gz H i wr Oz) (p.2.2.2) y148_3/\A5 .st (gz H i wr Oz) c b/\Le (fz w (Ha [.box ba0 [va0_0,.bool a0.2.1,va0_2] 82,.row va0_2 9 1 (a0.2.2).length xsa0_2] O)) (fz wr Oz)/\(Df c p ah) ai=some cc) ?_ ?_
    ·refine Az<|Ar 2 Z<|Ag (AV Z)<|Ag (Af Z Aaw Z Fv.e)<|Ag (Ae 0 Z an Z)<|Ar 1 Z<|Jz 2 5 Z Z Z Z Z Z Z<|Ar 1 Z<|Bg 34 h ?_ ?_<;>intro k h
     ·iterate 3 refine Ab k ?_
      iterate 3 refine As ?_
      refine Ab k<|Ag (Ak k Z)<|Ag (AV Z)<|Ag (Af Z Aaw Z Fv.e)<|AY 0 Z Z Z an Z Z fun da ci ao=>AP ?_;have hT:=hT.trans (t.trans (j.trans (d.trans ao)));have a:=a.trans (Ac (j.trans (d.trans ao)));have f:=f.mono (Ac (d.trans ao));have g:=g.mono (Ac (d.trans ao));refine AH _ ⟨ci,f,g,(ab.mono a),hT,h⟩
     refine Aa k<|Ag (Ad Z)<|Aa k<|Ag (NN Z Z)<|Aa k<|Ag (Ad Z)<|G9 37 h ?_ ?_<;>intro y h
     ·refine Aa y<|Ag (Ad Z)<|Aa y<|Av h fun cy cj h=>A6 an (Hy _ _ (Ao an) cj) fun db c4 ck ap=>Aa y<|Ag (Ad Z)<|Aa k<|Ag (Ak y Z)<|Ag (Am k Z)<|Ag (AV Z)<|Ag (Af Z Aaw Z Fv.e)<|AY 0 Z Z Z ck Z Z fun dc cl aq=>AP ?_;have hT:=hT.trans (t.trans (j.trans (d.trans (ap.trans aq))));have a:=a.trans (Ac (j.trans (d.trans (ap.trans aq))));have f:=f.mono (Ac (d.trans (ap.trans aq)));have g:=g.mono (Ac (d.trans (ap.trans aq)));refine AH _ ⟨cl,f,g,(ab.mono a),hT,h⟩
     iterate 3 refine Ab y ?_
     refine Aa k<|Ag (Am y Z)<|Ag (Am k Z)<|Ag (AV Z)<|Ag (Af Z Aaw Z Fv.e)<|AY 0 Z Z Z an Z Z fun dd cm ar=>AP ?_;have hT:=hT.trans (t.trans (j.trans (d.trans ar)));have a:=a.trans (Ac (j.trans (d.trans ar)));have f:=f.mono (Ac (d.trans ar));have g:=g.mono (Ac (d.trans ar));refine AH _ ⟨cm,f,g,(ab.mono a),hT,h⟩
    have hT:=hT.trans (t.trans (j.trans d));rintro ai c5 ⟨bk,be,he166_r148_3,he166_r1,hT,h⟩;refine Bm Aae (fun o=>[(0,(Aac ba0)),(1,.bool a1),(5,e),(7,(Aad o)),(8,(Aad ah.2.1))]) (fun o wr=>DE i (Ha [.box ba0 [al,.bool ai,am] 82,.row am 9 1 (p.2.2.2).length y148_3,.row e 9 1 (c).length b] O) wr fun Oz=>AL .st (gz H i wr Oz) al (p.2.1)/\A5 .st (gz H i wr Oz) (p.2.2.2) y148_3/\A5 .st (gz H i wr Oz) c b/\Le (fz w (Ha [.box ba0 [va0_0,.bool a0.2.1,va0_2] 82,.row va0_2 9 1 (a0.2.2).length xsa0_2] O)) (fz wr Oz)/\(DW ai c p ah) o=some cc) ?_ ?_
    ·have ae:=bk.rG H;refine B1 1 Z<|Ag (Ll Z Z)<|Al<|AS h ?_ ?_<;>intro cn h
     ·refine Az<|Ar 1 Z<|AP<|AH _ ⟨bk,(be.mono ae),(he166_r148_3.mono ae),(he166_r1.mono ae),hT,h⟩
     refine A4<|AH _ ⟨bk,(be.mono ae),(he166_r148_3.mono ae),(he166_r1.mono ae),hT,h⟩
    rintro o c6 ⟨b2,ca,he186_r148_3,he186_r1,hT,h⟩;have z:=b2.rG H;refine Az<|Ar 2 Z<|BV [o] (r:=.st) (fun _=>M7 _ Z _) b2 (.c1 Z .nil) fun de df c7 co bp cp=>A3 h fun cq h=>?_;have z:=z.trans (Ac bp);refine BL (r:=.st) 2 c [o] Z Aan co Z (he186_r1.mono z) cp cq fun bw dg bl cr bq bm=>Ar 3 Z<|AP<|A2<|Az<|Ar 2 Z<|Av h fun a7 cs h=>?_;have z:=z.trans (Ac bq);refine BO (FO hH ((Ha [.row bw 9 1 ((c++[o])).length bl] O)) (p.2.1,ai,p.2.2.2) ah.2.1 cr (ca.mono z) (he186_r148_3.mono z) cs) ?_;rintro _ cz ⟨br,a8,y198_2,rfl,b3,bs,az,a2⟩;refine AP<|A9 ?_;have b4:AW i (Ha [.row a8 9 1 (a7.2.2).length y198_2,.row bw 9 1 ((c++[o])).length bl,.box ba0 [br,.bool a7.2.1,a8] 82] O) cz:=b3.Bn [2,2] Z;have au:=AJ [2,2] b3 b4 Z;have h:=BW.again h bi;have hT:=hT.trans (bp.trans (bq.trans (bs.trans au)))
    have bm:=bm.mono (Ac (bs.trans au));have az:=az.mono (Ac au);have a2:=a2.mono (Ac au);refine AN ((c++[o]),a7.1,a7.2.1,a7.2.2,bw,bl,br,a8,y198_2,bh) ⟨b4,a2,bm,az,hT,h⟩
   refine A4<|A2<|Az<|Ar 2 Z<|Av h fun a9 ct h=>BO (FO hH ((Ha [.row e 9 1 (c).length b] O)) p.2 p.1 bj f g ct) ?_;rintro _ c0 ⟨bt,ba,y202_2,rfl,b5,bu,a3,a4⟩;refine AP<|A9 ?_;have b6:AW i (Ha [.row ba 9 1 (a9.2.2).length y202_2,.row e 9 1 (c).length b,.box ba0 [bt,.bool a9.2.1,ba] 82] O) c0:=b5.Bn [2,2] Z;have av:=AJ [2,2] b5 b6 Z;have h:=BW.again h bi;have hT:=hT.trans (t.trans (j.trans (bu.trans av)));have a:=a.trans (Ac (j.trans (bu.trans av)));have a3:=a3.mono (Ac av);have a4:=a4.mono (Ac av);refine AN (c,a9.1,a9.2.1,a9.2.2,e,b,bt,ba,y202_2,bh) ⟨b6,a4,(ab.mono a),a3,hT,h⟩
  refine Bq<|AK<|AF ?_;have h:=BW.out h bi;refine Bj<|AH (c,ag,aa,u,e,b,x,s,q) ⟨ak,(bo.mono a),(ab.mono a),(a6.mono a),hT,h⟩
 have hT:=hT.trans bg;rintro⟨bc,bz,bn,bd,ax,ac,ay,af,ad⟩ c2 ⟨bx,cu,cv,cw,hT,h⟩;have aw:=bx.rG H;refine AI 2 Z<|Au ?_
 cases h
 refine Aj Z ?_;have b7:AW i (Ha [.row ax 9 1 (bc).length ac,.box ba0 [ay,.bool bn,af] 82,.row af 9 1 (bd).length ad] O) c2:=bx.Bn [2,2] Z;have bv:=AJ [2,2] bx b7 Z;have aw:=aw.trans (Ac bv);have hT:=hT.trans bv;exact⟨ax,ac,ay,af,ad,Z,b7,hT,(cv.mono aw),(cw.mono aw),(cu.mono aw)⟩
def F5(b:List Aae)(c:List Aae)(m:Aae)(d:Aae)(e f:Int)(g:Bool)(h i j k l:Int)(a:Bool):Option AaJ:=
 some ((d,e,m,f,g,h,i,j,k,l,c,[]),b,a)
def F6(a:Bool)(b c f:Int)(g:Aae)(h:Int)(k:Aae×AaH)(i:List Aae)(j:Bool)(d:List Aae)(e:List Aae):Option AaJ:=
 if !j then(F5 d e g) k.1 (h+1) f a b c (0:Int) (0:Int) (0:Int) (decide ((i.length:Int)=0))else(F5 d e g) k.1 (h+1) f a b c (0:Int) (0:Int) (0:Int) false
def F7(b:Bool)(c d f:Int)(g:Aae)(e:Int)(k:Aae×AaH)(h:List Aae)(i:Bool)(j:List Aae):Option AaJ:=
 Qq8 (AU (k.1,(e+1),g,f,b,c,d,0,0,0,[],[])) (fun l=>if l then Qq8 (G5 (h,i,j) (decide ((e+1)=7))) (fun a=>(F6 b c d f g e k) a.2.1 a.2.2.1 a.2.2.2 a.1)else(F6 b c d f g e k) h i j ([]:List Aae))
def F8(a:Bool)(b c e:Int)(f:Aae)(g:Int)(l:Aae×AaH)(h:List Aae)(i:Bool)(j:List Aae):Option AaJ:=
 Qq8 (B6 (l.1,(g+1),f,e,a,b,c,0,0,0,[],[])) (fun m=>if m then Qq8 (BZ (h,i,j)) (fun k=>Qq8 (D1 k.2 k.1) (fun d=>(F7 a b c e f g l) d.1 d.2.1 d.2.2))else(F7 a b c e f g l) h i j)
def F9(a:Bool)(b e:Int)(f:Aae)(g:Int)(l:Aae×AaH)(h:List Aae)(i:Bool)(c:Int)(j:List Aae):Option AaJ:=
 Qq8 (BF (l.1,(g+1),f,e,a,b,c,0,0,0,[],[])) (fun m=>if m then Qq8 (BZ (h,i,j)) (fun k=>Qq8 (D1 k.2 k.1) (fun d=>(F8 a b c e f g l) d.1 d.2.1 d.2.2))else(F8 a b c e f g l) h i j)
def FA(d:Int)(e:Aae)(f:Int)(j:Aae×AaH)(g:List Aae)(h b:Bool)(c:Int)(i:List Aae):Option AaJ:=
 Qq8 (Du (j.1,(f+1),e,d,b,c,0,0,0,0,[],[])) (fun k=>if k then Qq8 (D8 (g,h,i)) (fun a=>(F9 b c d e f j) a.2.1 a.2.2.1 a.1 a.2.2.2)else(F9 b c d e f j) g h (0:Int) i)
def FB(d:Aae)(b:Int)(i:Aae×AaH)(e:List Aae)(f:Bool)(g:Int)(h:List Aae):Option AaJ:=
 if(b+1)=2 then Qq8 (G4 (e,f,h)) (fun c=>Qq8 (D8 c.2) (fun a=>(FA g d b i) a.2.1 a.2.2.1 c.1 a.1 a.2.2.2))else(FA g d b i) e f false (0:Int) h
def FC(a:Int)(d:Aae×AaH)(e:List Aae)(f:Bool)(g:List Aae)(b:Aae):Option AaJ:=
 Qq8 (CU (d.1,(a+1),b,0,false,0,0,0,0,0,[],[])) (fun h=>if h then none else Qq8 (Fb (d.1,(a+1),b,0,false,0,0,0,0,0,[],[])) (fun i=>if i then Qq8 (D8 (e,f,g)) (fun c=>(FB b a d) c.2.1 c.2.2.1 c.1 c.2.2.2)else(FB b a d) e f (0:Int) g))
def He(a:Aae×AaH)(c:Int)(d:Aae×AaH):Option AaJ:=
 if(c+1)=1 then Qq8 (HG a.2) (fun b=>(FC c d) b.2.1 b.2.2.1 b.2.2.2 b.1)else(FC c d) a.2.1 a.2.2.1 a.2.2.2 ([]:Aae)
def Jb(a0:Aae):Option AaJ:=
 Qq8 (strings_Split a0 ([32]:Aae)) (fun f=>Qq8 (BZ (f,false,([]:List Aae))) (fun c=>Qq8 (P6 ([108,105,116,101,114,97,108,32,110,117,109,98,101,114,32,100,101,99,105,109,97,108,32,98,121,116,101,115,32,117,110,116,105,108,32,99,111,117,110,116,101,100,32,115,101,113,117,101,110,99,101,32,99,104,111,105,99,101,32,114,101,112,101,97,116,32,98,108,111,98]:Aae)) (fun d=>Qq8 (BZ c.2) (fun a=>Qq8 (CQ d a.1) (fun b=>Bb (BH (b+1)) (if a.2.2.1 then none else Qq8 (Gn c.1) (fun e=>if !e then none else if(b+1)<1 then none else(He a b c))))))))
section
variable(w:World)(H:PH)(hH:Le H (hp w)) include hH
theorem Oe(hU:Jm H){a0:Aae}{r:AaJ}(h:Jb a0=some r):
  Qqv 13 [Aad a0] w (fun v w'=>∃u0 u1 u2 u3,v=.tuple #[.agg #[Aad r.1.1,No r.1.2.1,u0,No r.1.2.2.2.1,.bool r.1.2.2.2.2.1,No r.1.2.2.2.2.2.1,No r.1.2.2.2.2.2.2.1,No r.1.2.2.2.2.2.2.2.1,No r.1.2.2.2.2.2.2.2.2.1,No r.1.2.2.2.2.2.2.2.2.2.1,u1,u2],u3,.bool r.2.2]/\Cv 5 .byte H w w' u0 (r.1.2.2.1)/\Cv 9 .st H w w' u1 (r.1.2.2.2.2.2.2.2.2.2.2.1)/\Cv 3 (.int .i64) H w w' u2 (r.1.2.2.2.2.2.2.2.2.2.2.2)/\Cv 9 .st H w w' u3 (r.2.1)):=by
 refine AG 104 [(0,(Aad a0))] func13 Z fun hL=>Aq<|AZ Bl.e Z hL fun w1 m f7 j0 _=>A1 2 Z<|B1 1 Z<|Av h fun x2 i9 h=>Bv f7 (OR _ _ (Ao f7) i9) ?_;rintro h7 w3 ⟨_,rfl,g9⟩ ja jb j2;have co:=g9.Dj hH f7 ja;refine Ag (B7 (fun _=>Wx _ co.one _))<|Cj (t:=82) Z Z jb fun w4 u jc h8 _=>A1 1 Z<|B1 1 Z ?_;obtain⟨h4,h9,f8⟩:=CF .st H 9 jc;have h5:AW w [.box u [h7,.bool false,Aaa] 82,.row Aaa 9 1 (([]:List Aae)).length ([]),.box m [(Aad []),No 0,Aaa,No 0,.bool false,No 0,No 0,No 0,No 0,No 0,Aaa,Aaa] 50] w4:=h4.Bn [1] Z;have f9:=AJ [1] h4 h5 Z;refine Av h fun l jd h=>?_;have co:=co.mono (Ac (h8.trans (h9.trans f9)));have f8:=f8.mono (Ac f9)
 refine BO (Cw hH ([.box m [(Aad []),No 0,Aaa,No 0,.bool false,No 0,No 0,No 0,No 0,No 0,Aaa,Aaa] 50]) ((x2,false,([]:List Aae))) h5 co f8 jd) ?_;rintro _ w8 ⟨ia,ga,y8_3,rfl,je,j4,dt,du⟩;refine Ag (B7 (fun _=>Wv _ Z _))<|AZ Bl.e Z je fun w9 o jf gb _=>A7 0 Z jf Z fun kq e0 e5=>Al<|Aq<|Av h fun kr ib h=>Bv e0 (OP _ _ (Ao e0) (hU.mono  Ai) ib) ?_;rintro jo jg ⟨_,rfl,gc⟩ ic gd e6;have cy:=gc.Dj hH e0 ic;refine Ar 1 Z ?_
 have ge:AW w [.box u [ia,.bool l.2.2.1,ga] 82,.row ga 9 1 (l.2.2.2).length y8_3,.box o [Aad l.1,No 0,Aaa,No 0,.bool false,No 0,No 0,No 0,No 0,No 0,Aaa,Aaa] 50,.box m [(Aad []),No 0,Aaa,No 0,.bool false,No 0,No 0,No 0,No 0,No 0,Aaa,Aaa] 50] jg:=gd.Bn [2,2] Z;have dv:=AJ [2,2] gd ge Z;refine Av h fun a2 ie h=>?_;have dt:=dt.mono (Ac (gb.trans (e5.trans (e6.trans dv))));have du:=du.mono (Ac (gb.trans (e5.trans (e6.trans dv))))
 refine BO (Cw hH ([.box o [Aad l.1,No 0,Aaa,No 0,.bool false,No 0,No 0,No 0,No 0,No 0,Aaa,Aaa] 50,.box m [(Aad []),No 0,Aaa,No 0,.bool false,No 0,No 0,No 0,No 0,No 0,Aaa,Aaa] 50]) l.2 ge dt du ie) ?_;rintro _ ks ⟨cp,bp,y15_3,rfl,gf,ha,cz,c0⟩;refine Av h fun d ig h=>?_;have cy:=cy.mono (Ac (dv.trans ha));refine A6 gf (GM _ _ (Ao gf) cy ig) fun kt j5 ih e7=>A3 h fun ii h=>Ag (AA ii)<|Ag (Af Z Aak Z B4.e)<|AY 2 Z Z Z ih Z Z fun ku dw e8=>Al ?_
 refine Bm Unit (fun(_:Unit)=>[(2,(Aac m)),(5,(Aac u)),(6,(Aac o))]) (fun(_:Unit) wr=>DE w [.box u [cp,.bool a2.2.2.1,bp] 82,.row bp 9 1 (a2.2.2.2).length y15_3,.box o [Aad l.1,No (d+1),Aaa,No 0,.bool false,No 0,No 0,No 0,No 0,No 0,Aaa,Aaa] 50,.box m [(Aad []),No 0,Aaa,No 0,.bool false,No 0,No 0,No 0,No 0,No 0,Aaa,Aaa] 50] wr fun Oz=>AL .st (gz H w wr Oz) cp (a2.2.1)/\A5 .st (gz H w wr Oz) (a2.2.2.2) y15_3/\(He a2 d l)=some r) ?_ ?_
 ·refine B1 1 Z<|Ag (AV Z)<|Ag (Af Z Aaw Z Fv.e)<|Ag (Ae 0 Z dw Z)<|Ar 1 Z<|Bg 24 h ?_ ?_<;>intro a3 h
  ·iterate 4 refine Ab a3 ?_
   refine Ag (Ak a3 Z)<|Ar 1 Z ?_
   iterate 3 refine Ab Z ?_
   refine Ag (Ak Z Z)<|Al<|Fy ?_
   cases h
  refine Aa a3<|Ag (Af Z Aak Z LH.e)<|Aa a3<|Ag (Ae 2 Z dw Z)<|Aa a3<|Av h fun kv ij h=>A6 dw (Hy _ _ (Ao dw) ij) fun kw j6 gg e9=>Aa a3<|Ag (Ad Z)<|Ag (Am a3 Z)<|Ar 1 Z<|Bg 30 h ?_ ?_<;>intro bf h
  ·iterate 3 refine Ab bf ?_
   refine Ag (Ak bf Z)<|Al<|Fy ?_
   cases h
  refine Aa bf<|Ag (Af Z Aak Z B4.e)<|Aa bf<|Ag (Ae 2 Z gg Z)<|Aa bf<|Ag (Ad Z)<|Ag (Am bf Z)<|Al<|AS h ?_ ?_<;>intro ik h
  ·cases h
  refine A4 ?_;have cz:=cz.mono (Ac (e7.trans (e8.trans e9)));have c0:=c0.mono (Ac (e7.trans (e8.trans e9)));refine AH () ⟨gg,cz,c0,h⟩
 rintro _ il ⟨e1,bq,he32_r15_3,h⟩;refine Bm ((List Aae)×Bool×(List Aae)×Aae×Value×Value×Qq5×Value×Qq5) (fun⟨dr,cm,br,c,bg,aq,ar,a,b⟩=>[(2,(Aac m)),(5,(Aac u)),(6,(Aac o))]) (fun⟨dr,cm,br,c,bg,aq,ar,a,b⟩ wr=>DE w [.row a 5 1 (c).length b,.row aq 9 1 (br).length ar,.box u [bg,.bool cm,aq] 82,.box o [Aad l.1,No (d+1),a,No 0,.bool false,No 0,No 0,No 0,No 0,No 0,Aaa,Aaa] 50,.box m [(Aad []),No 0,Aaa,No 0,.bool false,No 0,No 0,No 0,No 0,No 0,Aaa,Aaa] 50] wr fun Oz=>A5 .byte (gz H w wr Oz) c b/\A5 .st (gz H w wr Oz) br ar/\AL .st (gz H w wr Oz) bg dr/\(FC d l) dr cm br c=some r) ?_ ?_
 ·refine Aq<|Ag (Af Z Aak Z B4.e)<|Ag (Ae 2 Z e1 Z)<|A1 1 Z<|AS h ?_ ?_<;>intro im h
  ·refine Az<|Ar 1 Z<|Av h fun c1 io h=>BO (N0 (a0:=a2.2) (O:=[.box o [Aad l.1,No (d+1),Aaa,No 0,.bool false,No 0,No 0,No 0,No 0,No 0,Aaa,Aaa] 50,.box m [(Aad []),No 0,Aaa,No 0,.bool false,No 0,No 0,No 0,No 0,No 0,Aaa,Aaa] 50]) hH e1 bq he32_r15_3 io) ?_;rintro dx kx ⟨_,y64_0,fa,dy,y64_3,rfl,gh,jp,c2,c3,c4⟩;refine Ag (Af Z Aak Z CC.e)<|AY 3 Z Z (row_one (gh.at (i:=0) Z)) gh Z Z fun jh gi dz=>AP ?_
   have gj:AW w [.row dx 5 1 (c1.1).length y64_0,.row dy 9 1 (c1.2.2.2).length y64_3,.box u [fa,.bool c1.2.2.1,dy] 82,.box o [Aad l.1,No (d+1),dx,No 0,.bool false,No 0,No 0,No 0,No 0,No 0,Aaa,Aaa] 50,.box m [(Aad []),No 0,Aaa,No 0,.bool false,No 0,No 0,No 0,No 0,No 0,Aaa,Aaa] 50] jh:=gi.Bn [2,1] Z;have d0:=AJ [2,1] gi gj Z;have c2:=c2.mono (Ac (dz.trans d0));have c3:=c3.mono (Ac (dz.trans d0));have c4:=c4.mono (Ac (dz.trans d0));refine AH (c1.2.1,c1.2.2.1,c1.2.2.2,c1.1,fa,dy,y64_3,dx,y64_0) ⟨gj,c2,c4,c3,h⟩
  refine A4 ?_;obtain⟨gk,fb,e2⟩:=CF .byte H 5 e1;have gl:AW w [.row Aaa 5 1 (([]:Aae)).length ([]),.row bp 9 1 (a2.2.2.2).length y15_3,.box u [cp,.bool a2.2.2.1,bp] 82,.box o [Aad l.1,No (d+1),Aaa,No 0,.bool false,No 0,No 0,No 0,No 0,No 0,Aaa,Aaa] 50,.box m [(Aad []),No 0,Aaa,No 0,.bool false,No 0,No 0,No 0,No 0,No 0,Aaa,Aaa] 50] il:=gk.Bn [2,1] Z;have d1:=AJ [2,1] gk gl Z;have bq:=bq.mono (Ac (fb.trans d1));have he32_r15_3:=he32_r15_3.mono (Ac (fb.trans d1));have e2:=e2.mono (Ac d1);refine AH (a2.2.1,a2.2.2.1,a2.2.2.2,([]:Aae),cp,bp,y15_3,Aaa,[]) ⟨gl,e2,he32_r15_3,bq,h⟩
 rintro⟨dr,cm,br,c,bg,aq,ar,a,b⟩ j7 ⟨d2,cq,fc,fd,h⟩;refine AM ?_;have ad:=d2.rG H;refine Aq<|Ag (Ax 3 Z Bl.e d2 Z)<|Av h fun ky ip h=>A6 d2 (GW (a0:=(l.1,(d+1),c,0,false,0,0,0,0,0,[],[])) _ _ (Le.refl _) (d2.KA hH (i:=0) Z (cq.mono ad)) (AL.nil _ _) (AL.nil _ _) ip) fun kz j8 e3 hb=>Al<|Bi h ?_ ?_<;>intro iq h
 ·cases h
 refine A4<|A2<|Bm ((List Aae)×Bool×Int×(List Aae)×Value×Value×Qq5) (fun⟨ds,c5,j,cn,b0,bh,ba⟩=>[(2,(Aac m)),(5,(Aac u)),(6,(Aac o))]) (fun⟨ds,c5,j,cn,b0,bh,ba⟩ wr=>DE w [.row bh 9 1 (cn).length ba,.row a 5 1 (c).length b,.box u [b0,.bool c5,bh] 82,.box o [Aad l.1,No (d+1),a,No j,.bool false,No 0,No 0,No 0,No 0,No 0,Aaa,Aaa] 50,.box m [(Aad []),No 0,Aaa,No 0,.bool false,No 0,No 0,No 0,No 0,No 0,Aaa,Aaa] 50] wr fun Oz=>A5 .st (gz H w wr Oz) cn ba/\A5 .byte (gz H w wr Oz) c b/\AL .st (gz H w wr Oz) b0 ds/\(FB c d l) ds c5 j cn=some r) ?_ ?_
 ·refine Aq<|Ag (Ax 3 Z Bl.e e3 Z)<|Av h fun k0 ir h=>?_;have ad:=ad.trans (Ac hb);refine A6 e3 (GZ (a0:=(l.1,(d+1),c,0,false,0,0,0,0,0,[],[])) _ _ (Le.refl _) (e3.KA hH (i:=0) Z (cq.mono ad)) (AL.nil _ _) (AL.nil _ _) ir) fun h6 j9 d3 fe=>Al<|Bi h ?_ ?_<;>intro is h
  ·refine Az<|Ar 1 Z ?_;have gm:AW w [.box u [bg,.bool cm,aq] 82,.row aq 9 1 (br).length ar,.row a 5 1 (c).length b,.box o [Aad l.1,No (d+1),a,No 0,.bool false,No 0,No 0,No 0,No 0,No 0,Aaa,Aaa] 50,.box m [(Aad []),No 0,Aaa,No 0,.bool false,No 0,No 0,No 0,No 0,No 0,Aaa,Aaa] 50] h6:=d3.Bn [1,2] Z;have hc:=AJ [1,2] d3 gm Z;refine Av h fun c6 it h=>?_;have ad:=ad.trans (Ac (fe.trans hc))
   refine BO (GB (a0:=(dr,cm,br)) (O:=[.row a 5 1 (c).length b,.box o [Aad l.1,No (d+1),a,No 0,.bool false,No 0,No 0,No 0,No 0,No 0,Aaa,Aaa] 50,.box m [(Aad []),No 0,Aaa,No 0,.bool false,No 0,No 0,No 0,No 0,No 0,Aaa,Aaa] 50]) hH hU gm (fd.mono ad) (fc.mono ad) it) ?_;rintro _ ka ⟨ei,c7,y100_3,rfl,hd,gn,b2,b3⟩;refine Ag (Af Z Aak Z B4.e)<|AY 3 Z Z Z hd Z Z fun iu ff c8=>AP ?_
   have fg:AW w [.row c7 9 1 (c6.2.2.2).length y100_3,.row a 5 1 (c).length b,.box u [ei,.bool c6.2.2.1,c7] 82,.box o [Aad l.1,No (d+1),a,No c6.1,.bool false,No 0,No 0,No 0,No 0,No 0,Aaa,Aaa] 50,.box m [(Aad []),No 0,Aaa,No 0,.bool false,No 0,No 0,No 0,No 0,No 0,Aaa,Aaa] 50] iu:=ff.Bn [2,2] Z;have c9:=AJ [2,2] ff fg Z;have ad:=ad.trans (Ac (gn.trans (c8.trans c9)));have b2:=b2.mono (Ac (c8.trans c9));have b3:=b3.mono (Ac (c8.trans c9));refine AH (c6.2.1,c6.2.2.1,c6.1,c6.2.2.2,ei,c7,y100_3) ⟨fg,b3,(cq.mono ad),b2,h⟩
  refine A4 ?_;have fh:AW w [.row aq 9 1 (br).length ar,.row a 5 1 (c).length b,.box u [bg,.bool cm,aq] 82,.box o [Aad l.1,No (d+1),a,No 0,.bool false,No 0,No 0,No 0,No 0,No 0,Aaa,Aaa] 50,.box m [(Aad []),No 0,Aaa,No 0,.bool false,No 0,No 0,No 0,No 0,No 0,Aaa,Aaa] 50] h6:=d3.Bn [1] Z;have go:=AJ [1] d3 fh Z;have ad:=ad.trans (Ac (fe.trans go));refine AH (dr,cm,0,br,bg,aq,ar) ⟨fh,(fc.mono ad),(cq.mono ad),(fd.mono ad),h⟩
 rintro⟨ds,c5,j,cn,b0,bh,ba⟩ iv ⟨da,fi,he92_j56,fj,h⟩;refine Bm ((List Aae)×Bool×Bool×Int×(List Aae)×Value×Value×Qq5) (fun⟨b5,bi,f,g,a4,bb,au,am⟩=>[(2,(Aac m)),(5,(Aac u)),(6,(Aac o))]) (fun⟨b5,bi,f,g,a4,bb,au,am⟩ wr=>DE w [.row au 9 1 (a4).length am,.row a 5 1 (c).length b,.box u [bb,.bool bi,au] 82,.box o [Aad l.1,No (d+1),a,No j,.bool f,No g,No 0,No 0,No 0,No 0,Aaa,Aaa] 50,.box m [(Aad []),No 0,Aaa,No 0,.bool false,No 0,No 0,No 0,No 0,No 0,Aaa,Aaa] 50] wr fun Oz=>A5 .st (gz H w wr Oz) a4 am/\A5 .byte (gz H w wr Oz) c b/\AL .st (gz H w wr Oz) bb b5/\(FA j c d l) b5 bi f g a4=some r) ?_ ?_
 ·have ae:=da.rG H;refine Aq<|Ag (Af Z Aak Z B4.e)<|Ag (Ae 3 Z da Z)<|A1 1 Z<|AS h ?_ ?_<;>intro he h
  ·refine Az<|Ar 1 Z ?_;have fk:AW w [.box u [b0,.bool c5,bh] 82,.row bh 9 1 (cn).length ba,.row a 5 1 (c).length b,.box o [Aad l.1,No (d+1),a,No j,.bool false,No 0,No 0,No 0,No 0,No 0,Aaa,Aaa] 50,.box m [(Aad []),No 0,Aaa,No 0,.bool false,No 0,No 0,No 0,No 0,No 0,Aaa,Aaa] 50] iv:=da.Bn [2] Z;have gp:=AJ [2] da fk Z;refine Av h fun e4 hf h=>?_;have ae:=ae.trans (Ac gp)
   refine BO (MA (a0:=(ds,c5,cn)) (O:=[.row a 5 1 (c).length b,.box o [Aad l.1,No (d+1),a,No j,.bool false,No 0,No 0,No 0,No 0,No 0,Aaa,Aaa] 50,.box m [(Aad []),No 0,Aaa,No 0,.bool false,No 0,No 0,No 0,No 0,No 0,Aaa,Aaa] 50]) hH fk (fj.mono ae) (fi.mono ae) hf) ?_;rintro _ kb ⟨ji,jj,y131_3,rfl,hg,gq,f1,f2⟩;refine Ar 1 Z<|Av h fun bj hh h=>BO (GB (a0:=e4.2) (O:=[.row a 5 1 (c).length b,.box o [Aad l.1,No (d+1),a,No j,.bool false,No 0,No 0,No 0,No 0,No 0,Aaa,Aaa] 50,.box m [(Aad []),No 0,Aaa,No 0,.bool false,No 0,No 0,No 0,No 0,No 0,Aaa,Aaa] 50]) hH hU hg f1 f2 hh) ?_
   rintro _ kc ⟨ej,db,y133_3,rfl,hi,gr,b6,b7⟩;refine Ag (Af Z Aak Z Fv.e)<|AY 3 Z Z Z hi Z Z fun kd hj dc=>Ag (Af Z Aak Z B4.e)<|AY 3 Z Z Z hj Z Z fun iw fl dd=>AP ?_;have fm:AW w [.row db 9 1 (bj.2.2.2).length y133_3,.row a 5 1 (c).length b,.box u [ej,.bool bj.2.2.1,db] 82,.box o [Aad l.1,No (d+1),a,No j,.bool e4.1,No bj.1,No 0,No 0,No 0,No 0,Aaa,Aaa] 50,.box m [(Aad []),No 0,Aaa,No 0,.bool false,No 0,No 0,No 0,No 0,No 0,Aaa,Aaa] 50] iw:=fl.Bn [2,2] Z;have de:=AJ [2,2] fl fm Z;have ae:=ae.trans (Ac (gq.trans (gr.trans (dc.trans (dd.trans de)))));have b6:=b6.mono (Ac (dc.trans (dd.trans de)));have b7:=b7.mono (Ac (dc.trans (dd.trans de)))
   refine AH (bj.2.1,bj.2.2.1,e4.1,bj.1,bj.2.2.2,ej,db,y133_3) ⟨fm,b7,(he92_j56.mono ae),b6,h⟩
  refine A4<|AH (ds,c5,false,0,cn,b0,bh,ba) ⟨da,(fi.mono ae),(he92_j56.mono ae),(fj.mono ae),h⟩
 rintro⟨b5,bi,f,g,a4,bb,au,am⟩ jq ⟨cr,ek,he124_j56,el,h⟩;refine Bm ((List Aae)×Bool×Int×(List Aae)×Value×Value×Qq5) (fun⟨b8,bk,k,a5,bc,av,an⟩=>[(2,(Aac m)),(5,(Aac u)),(6,(Aac o))]) (fun⟨b8,bk,k,a5,bc,av,an⟩ wr=>DE w [.row av 9 1 (a5).length an,.row a 5 1 (c).length b,.box u [bc,.bool bk,av] 82,.box o [Aad l.1,No (d+1),a,No j,.bool f,No g,No k,No 0,No 0,No 0,Aaa,Aaa] 50,.box m [(Aad []),No 0,Aaa,No 0,.bool false,No 0,No 0,No 0,No 0,No 0,Aaa,Aaa] 50] wr fun Oz=>A5 .st (gz H w wr Oz) a5 an/\A5 .byte (gz H w wr Oz) c b/\AL .st (gz H w wr Oz) bc b8/\(F9 f g j c d l) b8 bk k a5=some r) ?_ ?_
 ·have x:=cr.rG H;refine Aq<|Ag (Ax 3 Z Bl.e cr Z)<|Av h fun ke hk h=>A6 cr (DU (a0:=(l.1,(d+1),c,j,f,g,0,0,0,0,[],[])) _ _ (Le.refl _) (cr.KA hH (i:=1) Z (he124_j56.mono x)) (AL.nil _ _) (AL.nil _ _) hk) fun ix jr d4 em=>Al<|Bi h ?_ ?_<;>intro hl h
  ·refine Az<|Ar 1 Z ?_;have fn:AW w [.box u [bb,.bool bi,au] 82,.row au 9 1 (a4).length am,.row a 5 1 (c).length b,.box o [Aad l.1,No (d+1),a,No j,.bool f,No g,No 0,No 0,No 0,No 0,Aaa,Aaa] 50,.box m [(Aad []),No 0,Aaa,No 0,.bool false,No 0,No 0,No 0,No 0,No 0,Aaa,Aaa] 50] ix:=d4.Bn [2] Z;have gs:=AJ [2] d4 fn Z;refine Av h fun bl hm h=>?_;have x:=x.trans (Ac (em.trans gs))
   refine BO (GB (a0:=(b5,bi,a4)) (O:=[.row a 5 1 (c).length b,.box o [Aad l.1,No (d+1),a,No j,.bool f,No g,No 0,No 0,No 0,No 0,Aaa,Aaa] 50,.box m [(Aad []),No 0,Aaa,No 0,.bool false,No 0,No 0,No 0,No 0,No 0,Aaa,Aaa] 50]) hH hU fn (el.mono x) (ek.mono x) hm) ?_;rintro _ kf ⟨en,df,y164_3,rfl,hn,gt,ca,cb⟩;refine Ag (Af Z Aak Z B4.e)<|AY 3 Z Z Z hn Z Z fun iy fo dg=>AP ?_
   have fp:AW w [.row df 9 1 (bl.2.2.2).length y164_3,.row a 5 1 (c).length b,.box u [en,.bool bl.2.2.1,df] 82,.box o [Aad l.1,No (d+1),a,No j,.bool f,No g,No bl.1,No 0,No 0,No 0,Aaa,Aaa] 50,.box m [(Aad []),No 0,Aaa,No 0,.bool false,No 0,No 0,No 0,No 0,No 0,Aaa,Aaa] 50] iy:=fo.Bn [2,2] Z;have dh:=AJ [2,2] fo fp Z;have x:=x.trans (Ac (gt.trans (dg.trans dh)));have ca:=ca.mono (Ac (dg.trans dh));have cb:=cb.mono (Ac (dg.trans dh));refine AH (bl.2.1,bl.2.2.1,bl.1,bl.2.2.2,en,df,y164_3) ⟨fp,cb,(he124_j56.mono x),ca,h⟩
  refine A4 ?_;have x:=x.trans (Ac em);refine AH (b5,bi,0,a4,bb,au,am) ⟨d4,(ek.mono x),(he124_j56.mono x),(el.mono x),h⟩
 rintro⟨b8,bk,k,a5,bc,av,an⟩ js ⟨cs,eo,he155_j56,ep,h⟩;refine Bm ((List Aae)×Bool×(List Aae)×Value×Value×Qq5) (fun⟨cc,bm,a6,bd,aw,ao⟩=>[(2,(Aac m)),(5,(Aac u)),(6,(Aac o))]) (fun⟨cc,bm,a6,bd,aw,ao⟩ wr=>DE w [.row aw 9 1 (a6).length ao,.row a 5 1 (c).length b,.box u [bd,.bool bm,aw] 82,.box o [Aad l.1,No (d+1),a,No j,.bool f,No g,No k,No 0,No 0,No 0,Aaa,Aaa] 50,.box m [(Aad []),No 0,Aaa,No 0,.bool false,No 0,No 0,No 0,No 0,No 0,Aaa,Aaa] 50] wr fun Oz=>A5 .st (gz H w wr Oz) a6 ao/\A5 .byte (gz H w wr Oz) c b/\AL .st (gz H w wr Oz) bd cc/\(F8 f g k j c d l) cc bm a6=some r) ?_ ?_
 ·have y:=cs.rG H;refine Aq<|Ag (Ax 3 Z Bl.e cs Z)<|Av h fun kg ho h=>A6 cs (BG (a0:=(l.1,(d+1),c,j,f,g,k,0,0,0,[],[])) _ _ (Le.refl _) (cs.KA hH (i:=1) Z (he155_j56.mono y)) (AL.nil _ _) (AL.nil _ _) ho) fun iz jt d5 eq=>Al<|Bi h ?_ ?_<;>intro hq h
  ·refine Az<|Ar 2 Z ?_;have fq:AW w [.box u [bc,.bool bk,av] 82,.row av 9 1 (a5).length an,.row a 5 1 (c).length b,.box o [Aad l.1,No (d+1),a,No j,.bool f,No g,No k,No 0,No 0,No 0,Aaa,Aaa] 50,.box m [(Aad []),No 0,Aaa,No 0,.bool false,No 0,No 0,No 0,No 0,No 0,Aaa,Aaa] 50] iz:=d5.Bn [2] Z;have gu:=AJ [2] d5 fq Z;refine Av h fun gv hr h=>?_;have y:=y.trans (Ac (eq.trans gu))
   refine BO (Cw hH ([.row a 5 1 (c).length b,.box o [Aad l.1,No (d+1),a,No j,.bool f,No g,No k,No 0,No 0,No 0,Aaa,Aaa] 50,.box m [(Aad []),No 0,Aaa,No 0,.bool false,No 0,No 0,No 0,No 0,No 0,Aaa,Aaa] 50]) (b8,bk,a5) fq (ep.mono y) (eo.mono y) hr) ?_;rintro _ kh ⟨jk,jl,y194_3,rfl,hs,gw,f3,f4⟩;refine Av h fun di ht h=>BO (FO hH ([.row a 5 1 (c).length b,.box o [Aad l.1,No (d+1),a,No j,.bool f,No g,No k,No 0,No 0,No 0,Aaa,Aaa] 50,.box m [(Aad []),No 0,Aaa,No 0,.bool false,No 0,No 0,No 0,No 0,No 0,Aaa,Aaa] 50]) gv.2 gv.1 hs f3 f4 ht) ?_
   rintro _ i0 ⟨er,dj,y196_2,rfl,fr,gx,cd,ce⟩;refine AP ?_;have fs:AW w [.row dj 9 1 (di.2.2).length y196_2,.row a 5 1 (c).length b,.box u [er,.bool di.2.1,dj] 82,.box o [Aad l.1,No (d+1),a,No j,.bool f,No g,No k,No 0,No 0,No 0,Aaa,Aaa] 50,.box m [(Aad []),No 0,Aaa,No 0,.bool false,No 0,No 0,No 0,No 0,No 0,Aaa,Aaa] 50] i0:=fr.Bn [2,2] Z;have dk:=AJ [2,2] fr fs Z;have y:=y.trans (Ac (gw.trans (gx.trans dk)));have cd:=cd.mono (Ac dk);have ce:=ce.mono (Ac dk);refine AH (di.1,di.2.1,di.2.2,er,dj,y196_2) ⟨fs,ce,(he155_j56.mono y),cd,h⟩
  refine A4 ?_;have y:=y.trans (Ac eq);refine AH (b8,bk,a5,bc,av,an) ⟨d5,(eo.mono y),(he155_j56.mono y),(ep.mono y),h⟩
 rintro⟨cc,bm,a6,bd,aw,ao⟩ ju ⟨ct,es,he185_j56,et,h⟩;refine Bm ((List Aae)×Bool×(List Aae)×Value×Value×Qq5) (fun⟨cf,bn,a7,be,ax,ap⟩=>[(2,(Aac m)),(5,(Aac u)),(6,(Aac o))]) (fun⟨cf,bn,a7,be,ax,ap⟩ wr=>DE w [.row ax 9 1 (a7).length ap,.row a 5 1 (c).length b,.box u [be,.bool bn,ax] 82,.box o [Aad l.1,No (d+1),a,No j,.bool f,No g,No k,No 0,No 0,No 0,Aaa,Aaa] 50,.box m [(Aad []),No 0,Aaa,No 0,.bool false,No 0,No 0,No 0,No 0,No 0,Aaa,Aaa] 50] wr fun Oz=>A5 .st (gz H w wr Oz) a7 ap/\A5 .byte (gz H w wr Oz) c b/\AL .st (gz H w wr Oz) be cf/\(F7 f g k j c d l) cf bn a7=some r) ?_ ?_
 ·have aa:=ct.rG H;refine Aq<|Ag (Ax 3 Z Bl.e ct Z)<|Av h fun ki hu h=>A6 ct (By (a0:=(l.1,(d+1),c,j,f,g,k,0,0,0,[],[])) _ _ (Le.refl _) (ct.KA hH (i:=1) Z (he185_j56.mono aa)) (AL.nil _ _) (AL.nil _ _) hu) fun i1 jv d6 eu=>Al<|Bi h ?_ ?_<;>intro hv h
  ·refine Az<|Ar 2 Z ?_;have ft:AW w [.box u [bd,.bool bm,aw] 82,.row aw 9 1 (a6).length ao,.row a 5 1 (c).length b,.box o [Aad l.1,No (d+1),a,No j,.bool f,No g,No k,No 0,No 0,No 0,Aaa,Aaa] 50,.box m [(Aad []),No 0,Aaa,No 0,.bool false,No 0,No 0,No 0,No 0,No 0,Aaa,Aaa] 50] i1:=d6.Bn [2] Z;have gy:=AJ [2] d6 ft Z;refine Av h fun g0 hw h=>?_;have aa:=aa.trans (Ac (eu.trans gy))
   refine BO (Cw hH ([.row a 5 1 (c).length b,.box o [Aad l.1,No (d+1),a,No j,.bool f,No g,No k,No 0,No 0,No 0,Aaa,Aaa] 50,.box m [(Aad []),No 0,Aaa,No 0,.bool false,No 0,No 0,No 0,No 0,No 0,Aaa,Aaa] 50]) (cc,bm,a6) ft (et.mono aa) (es.mono aa) hw) ?_;rintro _ kj ⟨jm,jn,y225_3,rfl,hx,g1,f5,f6⟩;refine Av h fun dl hy h=>BO (FO hH ([.row a 5 1 (c).length b,.box o [Aad l.1,No (d+1),a,No j,.bool f,No g,No k,No 0,No 0,No 0,Aaa,Aaa] 50,.box m [(Aad []),No 0,Aaa,No 0,.bool false,No 0,No 0,No 0,No 0,No 0,Aaa,Aaa] 50]) g0.2 g0.1 hx f5 f6 hy) ?_
   rintro _ i2 ⟨ev,dm,y227_2,rfl,fu,g2,cg,ch⟩;refine AP ?_;have fv:AW w [.row dm 9 1 (dl.2.2).length y227_2,.row a 5 1 (c).length b,.box u [ev,.bool dl.2.1,dm] 82,.box o [Aad l.1,No (d+1),a,No j,.bool f,No g,No k,No 0,No 0,No 0,Aaa,Aaa] 50,.box m [(Aad []),No 0,Aaa,No 0,.bool false,No 0,No 0,No 0,No 0,No 0,Aaa,Aaa] 50] i2:=fu.Bn [2,2] Z;have dn:=AJ [2,2] fu fv Z;have aa:=aa.trans (Ac (g1.trans (g2.trans dn)));have cg:=cg.mono (Ac dn);have ch:=ch.mono (Ac dn);refine AH (dl.1,dl.2.1,dl.2.2,ev,dm,y227_2) ⟨fv,ch,(he185_j56.mono aa),cg,h⟩
  refine A4 ?_;have aa:=aa.trans (Ac eu);refine AH (cc,bm,a6,bd,aw,ao) ⟨d6,(es.mono aa),(he185_j56.mono aa),(et.mono aa),h⟩
 rintro⟨cf,bn,a7,be,ax,ap⟩ jw ⟨cu,ew,he216_j56,ex,h⟩;refine Bm ((List Aae)×Bool×(List Aae)×(List Aae)×Value×Value×Qq5×Value×Qq5) (fun⟨ci,bo,ay,az,ak,af,ai,ag,aj⟩=>[(2,(Aac m)),(5,(Aac u)),(6,(Aac o))]) (fun⟨ci,bo,ay,az,ak,af,ai,ag,aj⟩ wr=>DE w [.row ag 9 1 (az).length aj,.row af 9 1 (ay).length ai,.row a 5 1 (c).length b,.box u [ak,.bool bo,af] 82,.box o [Aad l.1,No (d+1),a,No j,.bool f,No g,No k,No 0,No 0,No 0,ag,Aaa] 50,.box m [(Aad []),No 0,Aaa,No 0,.bool false,No 0,No 0,No 0,No 0,No 0,Aaa,Aaa] 50] wr fun Oz=>A5 .st (gz H w wr Oz) az aj/\A5 .st (gz H w wr Oz) ay ai/\A5 .byte (gz H w wr Oz) c b/\AL .st (gz H w wr Oz) ak ci/\(F6 f g k j c d l) ci bo ay az=some r) ?_ ?_
 ·have ab:=cu.rG H;refine Aq<|Ag (Ax 3 Z Bl.e cu Z)<|Av h fun kk hz h=>A6 cu (AO _ _ (Le.refl _) ((l.1,(d+1),c,j,f,g,k,0,0,0,[],[])) (cu.KA hH (i:=1) Z (he216_j56.mono ab)) (AL.nil _ _) (AL.nil _ _) hz) fun i3 jx cv ey=>Al<|Bi h ?_ ?_<;>intro h0 h
  ·refine Az<|Ar 1 Z<|Ag (Af Z Aak Z B4.e)<|Ag (Ae 3 Z cv Z)<|Ar 1 Z ?_;have fw:AW w [.box u [be,.bool bn,ax] 82,.row ax 9 1 (a7).length ap,.row a 5 1 (c).length b,.box o [Aad l.1,No (d+1),a,No j,.bool f,No g,No k,No 0,No 0,No 0,Aaa,Aaa] 50,.box m [(Aad []),No 0,Aaa,No 0,.bool false,No 0,No 0,No 0,No 0,No 0,Aaa,Aaa] 50] i3:=cv.Bn [2] Z;have g3:=AJ [2] cv fw Z;refine Av h fun al h1 h=>?_;have ab:=ab.trans (Ac (ey.trans g3))
   refine BO (MB (a0:=(cf,bn,a7)) (a1:=(decide ((d+1)=7))) (O:=[.row a 5 1 (c).length b,.box o [Aad l.1,No (d+1),a,No j,.bool f,No g,No k,No 0,No 0,No 0,Aaa,Aaa] 50,.box m [(Aad []),No 0,Aaa,No 0,.bool false,No 0,No 0,No 0,No 0,No 0,Aaa,Aaa] 50]) hH fw (ex.mono ab) (ew.mono ab) h1) ?_;rintro a8 kl ⟨_,y257_0,dp,a9,y257_3,rfl,fx,g4,cj,ck,cl⟩;refine Ag (Af Z Aak Z Cx.e)<|AY 4 Z Z (row_one (fx.at (i:=0) Z)) fx Z Z fun g5 fy bs=>AP ?_
   have d7:AW w [.row a9 9 1 (al.2.2.2).length y257_3,.row a 5 1 (c).length b,.row a8 9 1 (al.1).length y257_0,.box u [dp,.bool al.2.2.1,a9] 82,.box o [Aad l.1,No (d+1),a,No j,.bool f,No g,No k,No 0,No 0,No 0,a8,Aaa] 50,.box m [(Aad []),No 0,Aaa,No 0,.bool false,No 0,No 0,No 0,No 0,No 0,Aaa,Aaa] 50] g5:=fy.Bn [3,3] Z;have bt:=AJ [3,3] fy d7 Z;have fz:AW w [.row a8 9 1 (al.1).length y257_0,.row a9 9 1 (al.2.2.2).length y257_3,.row a 5 1 (c).length b,.box u [dp,.bool al.2.2.1,a9] 82,.box o [Aad l.1,No (d+1),a,No j,.bool f,No g,No k,No 0,No 0,No 0,a8,Aaa] 50,.box m [(Aad []),No 0,Aaa,No 0,.bool false,No 0,No 0,No 0,No 0,No 0,Aaa,Aaa] 50] g5:=d7.Bn [2] Z
   have bu:=AJ [2] d7 fz Z;have ab:=ab.trans (Ac (g4.trans (bs.trans (bt.trans bu))));have cj:=cj.mono (Ac (bs.trans (bt.trans bu)));have ck:=ck.mono (Ac (bs.trans (bt.trans bu)));have cl:=cl.mono (Ac (bs.trans (bt.trans bu)));refine AH (al.2.1,al.2.2.1,al.2.2.2,al.1,dp,a9,y257_3,a8,y257_0) ⟨fz,cj,cl,(he216_j56.mono ab),ck,h⟩
  refine A4 ?_;obtain⟨h2,g6,h3⟩:=CF .st H 9 cv;have ab:=ab.trans (Ac (ey.trans g6));refine AH (cf,bn,a7,([]:List Aae),be,ax,ap,Aaa,[]) ⟨h2,h3,(ew.mono ab),(he216_j56.mono ab),(ex.mono ab),h⟩
 rintro⟨ci,bo,ay,az,ak,af,ai,ag,aj⟩ jy ⟨d8,bv,bw,he248_j56,dq,h⟩;refine Bm (Aae×Int×Int×Bool×Int×Int×Int×Int×Int×Bool) (fun⟨d9,ea,eb,ec,ed,ee,ef,eg,eh,bx⟩=>[(2,(Aac m)),(3,af),(4,.bool bx)]) (fun⟨d9,ea,eb,ec,ed,ee,ef,eg,eh,bx⟩ wr=>DE w [.row ag 9 1 (az).length aj,.row af 9 1 (ay).length ai,.row a 5 1 (c).length b,.box u [ak,.bool bo,af] 82,.box o [Aad l.1,No (d+1),a,No j,.bool f,No g,No k,No 0,No 0,No 0,ag,Aaa] 50,.box m [Aad d9,No ea,a,No eb,.bool ec,No ed,No ee,No ef,No eg,No eh,ag,Aaa] 50] wr fun Oz=>A5 .st (gz H w wr Oz) az aj/\A5 .st (gz H w wr Oz) ay ai/\A5 .byte (gz H w wr Oz) c b/\AL .st (gz H w wr Oz) ak ci/\(F5 ay az c) d9 ea eb ec ed ee ef eg eh bx=some r) ?_ ?_
 ·have ac:=d8.rG H;refine Ek (IB Gy) (fun z0 z=>Le (gz H w z0 [.row ag 9 1 (az).length aj,.row af 9 1 (ay).length ai,.row a 5 1 (c).length b,.box u [ak,.bool bo,af] 82,.box o [Aad l.1,No (d+1),a,No j,.bool f,No g,No k,No 0,No 0,No 0,ag,Aaa] 50,.box m [(Aad []),No 0,Aaa,No 0,.bool false,No 0,No 0,No 0,No 0,No 0,Aaa,Aaa] 50]) (hp z)/\z.heap[u]? = some (.cells [ak,.bool bo,af].toArray 82 (0,0))/\z.heap[o]? = some (.cells [Aad l.1,No (d+1),a,No j,.bool f,No g,No k,No 0,No 0,No 0,ag,Aaa].toArray 50 (0,0))) mixed Z (fun e kn f0=>?_);have ah:=d8.call f0;have ez:=Bd d8 f0;have q:=ah.rG H;refine Gz ⟨q.trans (Ao ah),ah.at (i:=3) Z,ah.at (i:=4) Z⟩ fun kI294=>Aw 0 e kI294 Z (fun _ hI=>Ku hI.2.2) Z ?_
  refine Aw 1 e kI294 Z (fun _ _=>Ad Z) Z<|Aw 2 e kI294 Z (fun _ _=>AV Z) Z<|Aw 3 e kI294 Z (fun _ _=>Af Z Aaw Z Cx.e) Z<|Aw 4 e kI294 Z (fun _ hI=>EB Z hI.2.1 Z) Z<|Aw 5 e kI294 Z (fun _ _=>Ad Z) Z<|Aw 6 e kI294 Z (fun _ _=>AV Z) Z<|Aw 7 e kI294 Z (fun _ _=>Af Z Aaw Z Fv.e) Z<|Aw 8 e kI294 Z (fun _ hI=>EB Z hI.2.1 Z) Z<|Aw 9 e kI294 Z (fun _ _=>Ad Z) Z<|Aw 10 e kI294 Z (fun _ _=>Ad Z) Z<|Nk 96 Z (fun p=>?_) (fun p=>?_)
  ·have h:=LD p h;refine ES 11 e kI294 Z Z Z Z p (fun _ _=>Ad Z) Z<|ES 12 e kI294 Z Z Z Z p (fun _ _=>AV Z) Z<|ES 13 e kI294 Z Z Z Z p (fun _ _=>Af Z Aaw Z Cx.e) Z<|ES 14 e kI294 Z Z Z Z p (fun _ hI=>EB Z hI.2.1 Z) Z ?_;have ac:=ac.trans (Ac ez);refine ES 15 e kI294 Z Z Z Z p (fun _ _=>AT ((dq.mono ac).mono q)) Z<|ES 16 e kI294 Z Z Z Z p (fun _ _=>Ad Z) Z<|Aw 17 e kI294 Z (fun _ _=>Ak p Z) Z<|CK 18 Z<|A7 5 Z ah Z (h1:=(BP Z (BP Z (BP (row_one (ah.at (i:=2) Z)) (Uw 7 Z (BP (row_one (ah.at (i:=0) Z)) (BT Z))))))) ?_;intro ko cw g7;have q:=q.trans (Ac g7);refine AB ⟨q.trans (Ao cw),cw.at (i:=3) Z,cw.at (i:=4) Z⟩ fun kI298=>Aw 19 e kI298 Z (fun _ _=>Ad Z) Z<|Aw 20 e kI298 Z (fun _ _=>Ad Z) Z<|Cq ?_
   refine AH (l.1,(d+1),j,f,g,k,0,0,0,decide ((ci.length:Int)=0)) ⟨cw,((bv.mono ac).mono q),((bw.mono ac).mono q),((he248_j56.mono ac).mono q),((dq.mono ac).mono q),h⟩
  have h:=LF p h;refine JK 11 e kI294 Z Z Z Z p Z<|JK 12 e kI294 Z Z Z Z p Z<|JK 13 e kI294 Z Z Z Z p Z<|JK 14 e kI294 Z Z Z Z p Z<|JK 15 e kI294 Z Z Z Z p Z<|JK 16 e kI294 Z Z Z Z p Z<|Aw 17 e kI294 Z (fun _ _=>Am p Z) Z<|CK 18 Z<|A7 5 Z ah Z (h1:=(BP Z (BP Z (BP (row_one (ah.at (i:=2) Z)) (Uw 7 Z (BP (row_one (ah.at (i:=0) Z)) (BT Z))))))) ?_;intro kp cx g8;have q:=q.trans (Ac g8);refine AB ⟨q.trans (Ao cx),cx.at (i:=3) Z,cx.at (i:=4) Z⟩ fun kI301=>Aw 19 e kI301 Z (fun _ _=>Ad Z) Z<|Aw 20 e kI301 Z (fun _ _=>Ad Z) Z<|Cq ?_;have ac:=ac.trans (Ac ez);refine AH (l.1,(d+1),j,f,g,k,0,0,0,false) ⟨cx,((bv.mono ac).mono q),((bw.mono ac).mono q),((he248_j56.mono ac).mono q),((dq.mono ac).mono q),h⟩
 rintro⟨d9,ea,eb,ec,ed,ee,ef,eg,eh,bx⟩ jz ⟨bz,bv,bw,he288_j56,i4,h⟩;refine Au ?_
 cases h
 refine P5 (.cell Z Aak Z Bl.e (Bo (i:=5) bz Z)) (.tmp Z) (.tmp Z) ⟨bz.ext,_,_,_,_,Z,(bz.Hn hH (i:=2) Z he288_j56),(bz.Hn hH (i:=0) Z bv),Cv.nil,(bz.Hn hH (i:=1) Z bw)⟩
end
end Go.Proofs.YtnmkjjgmnbmmnaaGreatDoor
end
noncomputable section
namespace Go.E
open Go Go.RowKit Go.L
section
variable {P:Program} (w:World)
theorem O3(t ty e:TypeId)(i:TypeInfo)(ht:P.underlying t=some (.slice e))(hi:P.info? e=some i)
  (g k sLen sCap:Nat) (cur:Array Value) (hg:w.heap[g]? = some (.cells cur e (0,0)))
  (a:Addr) (m c:Nat) (news:Qq5) (hl:news.length=m * i.size) (hnews:∀j u,news[j]? = some u->w.cell? (a.add j)=some u) (h1:∀u∈news,u.oneCell'=true)
  (hroom:sLen+m<=sCap) (hfit:(k+sLen) * i.size+news.length<=cur.size) :
  (Builtin.append_ #[t,t] ty #[.slice (some ⟨g,k * i.size,none⟩) sLen sCap,.slice (some a) m c]).run P w =
   .ok (.slice (some ⟨g,k * i.size,none⟩) (sLen+m) sCap) (w.setRow g (cur.toList.take ((k+sLen) * i.size)++news++cur.toList.drop ((k+sLen) * i.size+news.length)).toArray):=by
 have hf:=run_firstCells_some (P:=P) w i.size m a m c news hl hnews;have hst:=run_storeCells_at P g ((k+sLen) * i.size) e news 0 cur w hg (by simpa using hfit) h1;simp only[Nat.add_zero]at hst
 have ea:(⟨g,k * i.size,none⟩:Addr).add (sLen * i.size)=⟨g,(k+sLen) * i.size,none⟩:=by
  rw[Addr.add_lit,QzZ]
 simp[Builtin.append_,run_underlying ht,sizeOf,typeInfo,hi,Builtin.lenOf,hroom,hf,ea,hst]
def QC(v q:Value)(sz k n:Nat):Prop:=
 (v=.slice none 0 0/\q=.slice none 0 0/\k=0/\n=0)\/∃g cap o,v=.slice (some ⟨g,0,none⟩) n cap/\k<=n/\(o=k\/k=cap)/\q=.slice (some ⟨g,o * sz,none⟩) (n - k) (cap - k)
theorem Qk(base:Nat)(t ty e:TypeId)(i:TypeInfo)(z:Value)(size bytes:Nat)(ht:P.underlying t=some (.slice e))(hi:P.info? e=some i)(hz:i.zero=some z)
  (hsize:i.size=size) (hby:i.bytes=bytes) (hzs:z.cells.size=size) (hsz:0<size)
  (v q:Value) (n k:Nat) (xs:Qq5) (hown:w.ownsRow base e size v n xs) (hw:QC v q size k n)
  (a:Addr) (m c:Nat) (news:Qq5) (hl:news.length=m * size) (hnews:∀j u,news[j]? = some u->w.cell? (a.add j)=some u) (h1:∀u∈news,u.oneCell'=true)
  (p:0<m) (f:n - k+m<=maxLen) (hbytes:(n - k+m) * bytes<=140737488355328) (hbase:base<=w.heap.size) :
  ∃q' v' k' n' xs' w',(Builtin.append_ #[t,t] ty #[q,.slice (some a) m c]).run P w=.ok q' w'/\w'.ownsRow base e size v' n' xs'/\QC v' q' size k' n'/\(k'=k/\n'=n+m/\xs'=xs++news\/k'=0/\n'=n - k+m/\xs'=xs.drop (k * size)++news)/\w.grownBy w' v.ownBlock/\(v'.ownBlock=v.ownBlock\/∀b,v'.ownBlock=some b->w.heap.size<=b):=by
 have hgen:=run_append_own (P:=P) w w.heap.size t ty e i z size bytes ht hi hz hsize hby hzs hsz;subst hsize;subst hby
 rcases hw with ⟨rfl,rfl,rfl,rfl⟩ | ⟨g,cap,o,rfl,hkn,hok,rfl⟩
 ·have hxs:xs=[]:=Qz0 (by simpa using hown.1);subst hxs;obtain⟨v',w',r1,r2,r3,r4⟩:=hgen (.slice none 0 0) 0 [] (World.ownsRow_nil w _ e i.size) a m c news hl hnews h1 f hbytes (Qzx _);refine⟨v',v',0,0+m,[]++news,w',r1,M0 r2 (fun b hb=>Nat.le_trans hbase (r2.lt b hb).1),?_,.inl ⟨Z,Z,Z⟩,r3,.inr fun b hb=>(r2.lt b hb).1⟩
  rcases r2.2 with ⟨d,l⟩ | ⟨g,cap,cur,d,_⟩
  ·exact .inl ⟨d,d,Z,l⟩
  ·refine .inr ⟨g,cap,0,d,Qzb _,.inl Z,?_⟩;rw[d,Qxx]
   rfl
 ·rcases hown.2 with ⟨d,_⟩ | ⟨g',cap',cur,d,hbg,hg,hnc,hcm,hcs,htake⟩
  ·cases d
  obtain⟨rfl,rfl⟩:g'=g/\cap'=cap:=by
   simp only[Value.slice.injEq,Option.some.injEq,Addr.mk.injEq]at d;exact⟨d.1.1.symm,d.2.2.symm⟩
  by_cases hroom:n+m<=cap'
  ·have hkk:k+(n - k)=n:=by omega
   obtain rfl:o=k:=by omega
   have hfit:(o+(n - o)) * i.size+news.length<=cur.size:=by rw[hkk,hl,hcs,<- QzZ];exact Nat.mul_le_mul_right _ hroom
   have hr:=O3 (P:=P) w t ty e i ht hi g' o (n - o) (cap' - o) cur hg a m c news hl hnews h1 U hfit;rw[hkk]at hr;have hlen:(xs++news).length=(n+m) * i.size:=by rw[Qzk,hown.1,hl,QzZ]
   refine⟨_,.slice (some ⟨g',0,none⟩) (n+m) cap',o,n+m,xs++news,_,hr,⟨hlen,.inr ⟨g',cap',_,Z,hbg,setRow_heap w g' cur _ e _ hg,hroom,hcm,?_,?_⟩⟩,.inr ⟨g',cap',_,Z,by omega,.inl Z,by rw[show n+m - o=n - o+m by omega]⟩,.inl ⟨Z,Z,Z⟩,⟨Z,Z,Z,by simp,fun j _ hk=>setRow_other w g' j _ (fun e=>hk (by simp[Value.ownBlock,e]))⟩,.inl Z⟩
   ·rw[hkk]at hfit;simp only[QxZ,Qzk,List.length_take,QzQ,Array.length_toList];omega
   ·rw[htake,<- hlen];exact List.take_left
  ·have hol:(xs.drop (k * i.size)).length=(n - k) * i.size:=by rw[QzQ,hown.1,Nat.sub_mul]
   have holds:∀j u,(xs.drop (k * i.size))[j]? = some u->w.cell? ((⟨g',o * i.size,none⟩:Addr).add j)=some u:=fun j u hj=>by
    have hj':j<(xs.drop (k * i.size)).length:=(List.getElem?_eq_some_iff.1 hj).1
    obtain rfl:o=k:=by
     rcases hok with e | e
     ·exact e
     ·rw[hol,show n - k=0 by omega,Qxx]at hj';omega
    have h2:=hown.cells (g:=g') Z (o * i.size+j) u (by rwa [List.getElem?_drop]at hj);rw[Addr.add_lit]at h2 ⊢
    rwa [Nat.zero_add]at h2
   have hr:=run_append_grow (P:=P) w t ty e i z ht hi hz ⟨g',o * i.size,none⟩ (n - k) (cap' - k) _ hol holds a m c news hl hnews U (by simp only[maxLen]at f;omega) (growslice_fits U hbytes);have hlen:(xs.drop (k * i.size)++news).length=(n - k+m) * i.size:=by rw[Qzk,hol,hl,QzZ]
   have hge:=grownCap_ge w (n - k+m) (cap' - k) e;have h:grownCap w (n - k+m) (cap' - k) e<=maxLen:=grownCap_le_maxLen w (n - k+m) (cap' - k) e U;refine⟨_,.slice (some ⟨w.heap.size,0,none⟩) (n - k+m) (grownCap w (n - k+m) (cap' - k) e),0,n - k+m,xs.drop (k * i.size)++news,_,hr,⟨hlen,.inr ⟨w.heap.size,_,_,Z,hbase,heap_alloc_new w.drew _,hge,h,?_,?_⟩⟩,.inr ⟨w.heap.size,_,0,Z,Qzb _,.inl Z,by rw[Qxx];rfl⟩,.inr ⟨Z,Z,Z⟩,⟨Z,Z,Z,by simp,fun j hk _=>heap_alloc_old w.drew _ hk⟩,.inr fun b hb=>by cases hb;exact Qzx _⟩
   ·simp only[Array.size_append,QxZ,size_zeroCells,hzs,hol,hl,<- QzZ]
    congr 1
    omega
   ·simp only[Array.toList_append,Qxz];rw[<- Qxz,<- hlen];exact List.take_left
theorem MC{α:Type}{r:Rp α}{G:PH}:∀(k:Nat) {l:List α}{xs:Qq5},A5 r G l xs->A5 r G (l.drop k) (xs.drop (k * r.sz))
 | 0,_,_,h=>by simpa using h
 | k+1,_,_,.nil=>by simpa using A5.nil
 | k+1,_,_,.cons (c:=c) hc h=>by
  have a:(k+1) * r.sz=c.length+k * r.sz:=by rw[r.len hc,QzZ];omega
  rw[List.drop_succ_cons,a,List.drop_append,show Qz8 (c.length+k * r.sz) c=[]from Qxf U,List.nil_append,Nat.add_sub_cancel_left];exact MC k h
end
section
variable [Dr] {P:Program}{n:Sz}{ops:Array Oper}{Q:Exit->Act->World->Prop}{L:Env}{w w0:World}{O:List BN}{rest:List Oper}{d:Nat}{ty:TypeId}{pos:String}{af:Array Edge}{α:Type}{r:Rp α}{x y:Operand}{v q u:Value}{t e:TypeId}{H:PH}
theorem Ya(i:Nat){bt k:Nat}{zz:Value}{l m:List α}{xs:Qq5}(hx:ev L x=some q)(hy:ev L y=some u)(ht:P.underlying t=some (.slice e))(hz:Zr P e zz r.sz bt)(hzs:zz.cells.size=r.sz)(hsz:0<r.sz)(hn:Qzz d n.n=true)
  (hH:Le H (hp w0)) (hL:AW w0 O w) (hi:D5 O i=some (.row v e r.sz l.length xs)) (he:A5 r (gz H w0 w O) l xs) (hw:QC v q r.sz k l.length) (hm:AL r (gz H w0 w O) u m) (z:0<m.length) (hby:Gx bt (l.length - k+m.length))
  (h:∀q' v' k' l' w' xs',(k'=k/\l'=l++m\/k'=0/\l'=l.drop k++m)->QC v' q' r.sz k' l'.length->AW w0 (Di O i (.row v' e r.sz l'.length xs')) w'->Le (fz w O) (fz w' (Di O i (.row v' e r.sz l'.length xs')))->A5 r (gz H w0 w' (Di O i (.row v' e r.sz l'.length xs'))) l' xs'->S P n ops Q rest ((d,q')::L) w') :
  S P n ops Q (⟨some d,.call ⟨.builtin .append,#[x,y],#[t,t]⟩,ty,pos,af,none⟩::rest) L w:=by
 obtain⟨news,f,hs⟩:=hm.elems;obtain⟨hl,a,cap,rfl,ai,aj,g,o⟩:=hs.mono (Ao hL);obtain⟨inf,i1,i2,i3,i4⟩:=hz.parts
 cases a with
 | none=>have:=g Z;omega
 | some A=>
  obtain⟨hspot,hcell⟩:=o A Z U;obtain⟨q',v',k',n',xs',w',hr,h1,h2,h3,p,s⟩:=Qk (P:=P) w 0 t ty e inf zz r.sz bt ht i1 i2 i3 i4 hzs hsz v q l.length k xs (hL.at hi) hw A m.length cap news hl (fun j c hc=>hcell j c hc) f.one z (by unfold maxLen;have:=hby.2;omega) hby.1 (Qzb _)
  have key:∀l':List α,l'.length=n'->(k'=k/\l'=l++m\/k'=0/\l'=l.drop k++m)->A5 r (gz H w0 w O) l' xs'->S P n ops Q (⟨some d,.call ⟨.builtin .append,#[x,y],#[t,t]⟩,ty,pos,af,none⟩::rest) L w:=by
   intro l' e1 e2 e3;subst e1;have f1:=hL.LU (r':=.row v' e r.sz l'.length xs') hi (OE _ _ _ _ hr) p h1 (fun b hb=>s.elim (fun e=>.inl (e.symm.trans hb)) (fun e=>.inr (e b hb)));have f2:=Hv (r':=.row v' e r.sz l'.length xs') hL hi p (fun b hb=>s.elim (fun e=>.inl (e.symm.trans hb)) (fun e=>.inr (e b hb)));refine E3 (v:=q') (w':=w') hn (fun ρ hρ=>?_) (h q' v' k' l' w' xs' e2 h2 f1 f2 (e3.mono (Ac f2)));simp[execOp,resolve,invoke,builtin,hρ x _ hx,hρ y _ hy,hr]
  rcases h3 with ⟨rfl,rfl,rfl⟩ | ⟨rfl,rfl,rfl⟩
  ·exact key (l++m) Qqc (.inl ⟨Z,Z⟩) (he.append f)
  ·exact key (l.drop k++m) Qqc (.inr ⟨Z,Z⟩) ((MC k he).append f)
omit [Dr] in
theorem QX:∀{O:List BN}{i:Nat}{r:BN},D5 O i=some r->Di O i r=O
 | _::_,0,_,h=>by cases h;rfl
 | _::O,_+1,_,h=>congrArg (List.cons _) (QX (O:=O) h)
omit [Dr] in
theorem Pq(base:Nat)(t ty e:TypeId)(i:TypeInfo)(ht:P.underlying t=some (.slice e))(hi:P.info? e=some i)(v q:Value)(n k:Nat)(xs:Qq5)(hown:w.ownsRow base e i.size v n xs)(hw:QC v q i.size k n)(a:Option Addr)(c:Nat):
  (Builtin.append_ #[t,t] ty #[q,.slice a 0 c]).run P w=.ok q w:=by
 have hf:(Builtin.firstCells i.size 0 (.slice a 0 c)).run P w=.ok #[] w:=by
  cases a with
  | none=>simp[Builtin.firstCells]
  | some A=>exact run_firstCells_some (P:=P) w i.size 0 A 0 c [] Qqc Qqc
 rcases hw with ⟨_,rfl,_,_⟩ | ⟨g,cap,o,rfl,hk,_,rfl⟩
 ·simp[Builtin.append_,run_underlying ht,sizeOf,typeInfo,hi,Builtin.lenOf,hf]
 ·have hnc:n<=cap:=by
   rcases hown.2 with ⟨b,_⟩ | ⟨g',cap',cur,b,_,_,hnc,_⟩
   ·cases b
   ·cases b;exact hnc
  have b:n - k<=cap - k:=by omega
  simp[Builtin.append_,run_underlying ht,sizeOf,typeInfo,hi,Builtin.lenOf,hf,b,storeCells]
theorem Yd(i:Nat){bt k:Nat}{zz:Value}{l m yy:List α}{xs:Qq5}[hx:Qqq (ev L x) (some q)][hy:Qqq (ev L y) (some u)](ht:P.underlying t=some (.slice e))[hz:Qqx P e zz r.sz bt][hzs:Qqq zz.cells.size r.sz](hsz:0<r.sz)[hn:Qqq (Qzz d n.n) true]
  (hH:Le H (hp w0)) (hL:AW w0 O w) (hi:D5 O i=some (.row v e r.sz l.length xs)) (he:A5 r (gz H w0 w O) l xs) (hw:QC v q r.sz k l.length) (hyy:yy=l.drop k) (hm:AL r (gz H w0 w O) u m) (hby:Gx bt (yy.length+m.length))
  (h:∀q' v' k' l' w' xs',yy++m=Qz8 k' l'->QC v' q' r.sz k' l'.length->AW w0 (Di O i (.row v' e r.sz l'.length xs')) w'->Le (fz w O) (fz w' (Di O i (.row v' e r.sz l'.length xs')))->A5 r (gz H w0 w' (Di O i (.row v' e r.sz l'.length xs'))) l' xs'->S P n ops Q rest ((d,q')::L) w') :
  S P n ops Q (⟨some d,.call ⟨.builtin .append,#[x,y],#[t,t]⟩,ty,pos,af,none⟩::rest) L w:=by
 subst hyy
 have hkl:k<=l.length:=by
  rcases hw with ⟨_,_,rfl,h4⟩ | ⟨_,_,_,_,hk,_⟩
  ·exact Qzb _
  ·exact hk
 by_cases f:0<m.length
 ·refine Ya i hx.e hy.e ht hz.e hzs.e hsz hn.e hH hL hi he hw hm f (by rwa [QzQ]at hby) fun q' v' k' l' w' xs' hor=>h q' v' k' l' w' xs' ?_
  rcases hor with ⟨rfl,rfl⟩ | ⟨rfl,rfl⟩
  ·exact(List.drop_append_of_le_length hkl).symm
  ·rfl
 ·have b:m=[]:=Qz0 U;subst b;obtain⟨news,j,hs⟩:=hm.elems;obtain⟨hl,a,cap,rfl,o,p,s,z⟩:=hs.mono (Ao hL);obtain⟨inf,g,i2,c,i4⟩:=hz.e.parts;have hown:w.ownsRow 0 e r.sz v l.length xs:=hL.at hi;have hr:=Pq (P:=P) (w:=w) 0 t ty e inf ht g v q l.length k xs (by rw[c];exact hown) (by rw[c];exact hw) a cap;have hset:Di O i (.row v e r.sz l.length xs)=O:=QX hi;have h':=h q v k l w xs Qqc hw (by rw[hset];exact hL) (by rw[hset];exact Le.refl _) (by rw[hset];exact he);refine E3 (v:=q) (w':=w) hn.e (fun ρ hρ=>?_) h';simp[execOp,resolve,invoke,builtin,hρ x _ hx.e,hρ y _ hy.e,hr]
theorem QC.vec{i k:Nat}{l yy:List α}{xs:Qq5}(hL:AW w0 O w)(hH:Le H (hp w0))(hi:D5 O i=some (.row v e r.sz l.length xs))(he:A5 r (gz H w0 w O) l xs)(hw:QC v q r.sz k l.length)(hy:yy=l.drop k):AL r (hp w) q yy:=by
 subst hy;obtain⟨a,cap,h1,h2,h3,m,b⟩:=(hL.KA hH hi he).ex
 rcases hw with ⟨_,rfl,rfl,d⟩ | ⟨g,cap',o,rfl,hk,hok,rfl⟩
 ·have:l=[]:=Qz0 d;subst this;exact AL.nil _ _
 ·simp only[Value.slice.injEq,true_and]at h1;obtain⟨rfl,rfl⟩:=h1;refine⟨some ⟨g,o * r.sz,none⟩,cap' - k,by rw[QzQ],by rw[QzQ];omega,by omega,(fun h=>by cases h),fun A hA hl=>?_⟩
  cases hA
  have hlt:k<l.length:=by
   rcases Nat.lt_or_ge k l.length with h | h
   ·exact h
   ·exact absurd (Qxf h) hl
  obtain rfl:o=k:=by omega
  obtain⟨_,f⟩:=b _ Z (by intro h;subst h;simp at hlt);refine⟨Z,fun i x hx=>?_⟩;rw[List.getElem?_drop]at hx;obtain⟨c,hc,hcell⟩:=f _ x hx;refine⟨c,hc,fun j u hu=>?_⟩;have:=hcell j u hu;rw[Addr.add_lit]at this ⊢;rw[<- this]
  congr 2
  rw[QzZ];omega
omit [Dr] in
theorem QC.start{m:Nat}{sz:Nat}{xs:Qq5}(h:w.ownsRow 0 e sz v m xs):QC v v sz 0 m:=by
 rcases h.2 with ⟨h1,h2⟩ | ⟨g,cap,cur,h1,_⟩
 ·exact .inl ⟨h1,h1,Z,h2⟩
 ·exact .inr ⟨g,cap,0,h1,Qzb _,.inl Z,by rw[h1,Qxx];rfl⟩
theorem Vl{sz bt m k c:Nat}{zz:Value}{xs:Qq5}{kd:IntKind}(hx:ev L x=some q)(ha:ev L y=some (.int kd (c:Int)))(ht:P.underlying t=some (.slice e))(hz:Zr P e zz sz bt)(hw:QC v q sz k m)(hc:k+c<=m)(hown:w.ownsRow 0 e sz v m xs)(hn:Qzz d n.n=true)
  (h:∀q',QC v q' sz (k+c) m->S P n ops Q rest ((d,q')::L) w):S P n ops Q (⟨some d,.slice t x (some y) none none,ty,pos,af,none⟩::rest) L w:=by
 obtain⟨inf,b,i,f,j⟩:=hz.parts
 rcases hw with ⟨rfl,rfl,rfl,rfl⟩ | ⟨g,cap,o,rfl,hk,hok,rfl⟩
 ·obtain rfl:c=0:=by omega
  refine Ag (v:=.slice none 0 0) (fun w' _ ρ hρ dst pos af gd=>?_) (hn:=⟨hn⟩) (h _ (.inl ⟨Z,Z,Z,Z⟩));simp[execOp,hρ x _ hx,hρ y _ ha,Instr.sliceAt,run_underlying ht,Instr.slice,Instr.sliceBounds,Instr.sliceBound,asIntOf,sizeOf,typeInfo,b]
 ·have hmc:m<=cap:=by
   rcases hown.2 with ⟨a,_⟩ | ⟨g',cap',cur,a,_,_,hnc,_⟩
   ·cases a
   ·cases a;exact hnc
  have a:c<=m - k:=by omega
  refine Ag (v:=.slice (if cap - k=c then some ⟨g,o * sz,none⟩else some ((⟨g,o * sz,none⟩:Addr).add (c * sz))) (m - k - c) (cap - k - c)) (fun w' _ ρ hρ dst pos af gd=>?_) (hn:=⟨hn⟩) (h _ (.inr ⟨g,cap,if cap - k=c then o else k+c,Z,hc,?_,?_⟩))
  ·simp[execOp,hρ x _ hx,hρ y _ ha,Instr.sliceAt,run_underlying ht,Instr.slice,Instr.sliceBounds,Instr.sliceBound,asIntOf,sizeOf,typeInfo,b,f,a]
  ·by_cases hcc:cap - k=c
   ·right;omega
   ·left;rw[if_neg hcc]
  ·by_cases hcc:cap - k=c
   ·rw[if_pos hcc,if_pos hcc,Nat.sub_sub,Nat.sub_sub]
   ·obtain rfl:o=k:=by omega
    rw[if_neg hcc,if_neg hcc,Nat.sub_sub,Nat.sub_sub,Addr.add_lit,QzZ]
theorem Vm(i:Nat){sz bt k:Nat}{c:Int}{zz:Value}{l yy:List α}{xs:Qq5}{kd:IntKind}[hx:Qqq (ev L x) (some q)][ha:Qqq (ev L y) (some (.int kd c))][ht:Qqq (P.underlying t) (some (.slice e))][hz:Qqx P e zz sz bt](hL:AW w0 O w)[hi:Qqq (D5 O i) (some (.row v e sz l.length xs))](hw:QC v q sz k l.length)(hyy:yy=l.drop k)(hc:0<=c/\c<=(yy.length:Int))[hn:Qqq (Qzz d n.n) true]
  (h:∀q' k',Qz8 c.toNat yy=Qz8 k' l->QC v q' sz k' l.length->S P n ops Q rest ((d,q')::L) w):S P n ops Q (⟨some d,.slice t x (some y) none none,ty,pos,af,none⟩::rest) L w:=by
 have hi:=hi.e
 subst hyy;obtain⟨c,rfl⟩:=Int.eq_ofNat_of_zero_le hc.1
 have hkl:k<=l.length:=by
  rcases hw with ⟨_,_,rfl,b⟩ | ⟨_,_,_,_,hk,_⟩
  ·exact Qzb _
  ·exact hk
 have h2:=hc.2;rw[QzQ]at h2;exact Vl hx.e ha.e ht.e hz.e hw U (hL.at hi) hn.e fun q' hq=>h q' (k+c) Qqc hq
end
section
variable {P:Program}{n:Sz}{L:Env}{w:World}{a:Act}
theorem OT{s t b:Nat}{u:Value}{dd:TypeDesc}(fr:Fr n a L)(h:gt L s=some (.pointer (some ⟨b,0,none⟩)))(ht:P.underlying t=some dd)(hd:Po dd=false)(hp':CJ (hp w) ⟨b,0,none⟩ [u]):(OG a.tmps (.cell s t)).run P w=.ok u w:=by
 have h1:=fr.get _ _ h;have h2:=hp'.2 0 u Z;have h3:w.cell? ⟨b,0,none⟩=some u:=cell_of (Le.refl _) h2
 cases dd <;> simp only[Po,Bool.true_eq_false]at hd <;> simp[OG,Array.getD_eq_getD_getElem?,h1,asAddr,loadVar,isAgg,run_underlying ht,h3]
theorem Ul{fn:Func}{s t b:Nat}{u v':Value}{q':ResultVar}{dd:TypeDesc}(hl:fn.results = #[.cell s t,q'])(h:gt L s=some (.pointer (some ⟨b,0,none⟩)))(ht:P.underlying t=some dd)(hd:Po dd=false)(hp':CJ (hp w) ⟨b,0,none⟩ [u])(h':Rr P L w q' v')(fr:Fr n a L):(results fn a.tmps).run P w=.ok (.tuple #[u,v']) w:=by
 rw[HN,hl];simp[OT fr h ht hd hp',h'.run fr]
end
end Go.E
end
noncomputable section
namespace Go.Proofs.YtnmkjjgmnbmmnaaGreatDoor
open Go Go.E Go.RowKit Go.L
set_option maxHeartbeats 1000000
set_option maxRecDepth 10000
open _root_.Go.Proofs.Tryz
def Iv(_l65:List Bool):Option Bool:=
 some false
def HH(a0:(List AaE))(a1:Int):Qq4×(List Bool)->Option ((Qq4×(List Bool))⊕(Bool)):=fun⟨a,b⟩=>
 if 0<(a.length:Int)then Bb (0<=(0:Int)/\(0:Int)<(a.length:Int)) (Bb (0<=(1:Int)/\(1:Int)<=(a.length:Int)) (if a.getD ((0:Int).toNat) Qq1=a1 then none else Bb (0<=a.getD ((0:Int).toNat) Qq1/\a.getD ((0:Int).toNat) Qq1<(b.length:Int)) (if !(b.getD ((a.getD ((0:Int).toNat) Qq1).toNat) Qq1)then Bb (0<=a.getD ((0:Int).toNat) Qq1/\a.getD ((0:Int).toNat) Qq1<(b.length:Int)) (Bb (0<=a.getD ((0:Int).toNat) Qq1/\a.getD ((0:Int).toNat) Qq1<(a0.length:Int)) (Qq8 (Dt (a0.getD ((a.getD ((0:Int).toNat) Qq1).toNat) Qq1)) (fun c=>Bb (Go.E.Gx 8 ((Qz8 (1:Int).toNat a).length+c.length)) (some (Sum.inl (((Qz8 (1:Int).toNat a)++c),(b.set ((a.getD ((0:Int).toNat) Qq1).toNat) true)))))))else some (Sum.inl ((Qz8 (1:Int).toNat a),b)))))else Qzq Sum.inr (Iv b)
def Kc(a0:(List AaE))(a1:Int)(s:Qq4×(List Bool)):Option Bool:=Go.L.run (HH a0 a1) s
def Kn(a0:(List AaE))(a1:Int):Option Bool:=
 Bb (0<=(a0.length:Int)/\((1:Nat):Int) * (a0.length:Int)<=281474976710656/\(a0.length:Int)<=9223372036854775807) (Bb (0<=a1/\a1<(a0.length:Int)) (Qq8 (Dt (a0.getD a1.toNat Qq1)) (fun a=>Qq8 (Gg a) (fun b=>(Kc a0 a1) (b,(Qzw (a0.length:Int).toNat (false:Bool)))))))
section
variable(w:World)(H:PH)(hH:Le H (hp w)) include hH
theorem OU{a0:(List AaE)}{a1:Int}{q:Value}(ad:AL AaK H q a0){r:Bool}(h:Kn a0 a1=some r):
  Qqv 126 [.agg #[q],No a1] w (fun v w'=>v=.bool r):=by
 refine AG 46 [(0,.agg #[q]),(1,No a1)] func126 Z fun hL=>Aq<|Cj (t:=25) Z Z hL fun w1 b1 bk cc _=>A1 1 Z<|Aq<|Ag (Af Z Aas Z Ho.e)<|Ag (Ae 0 Z bk Z)<|Ag (AT ad)<|A3 h fun bz h=>Rt (r:=.bool) (z:=(false:Bool)) Aao (fun _=>Z) hH bk bz fun v2 w2 b0 aa cd an=>A1 1 Z<|Aq<|Ag (Af Z Aas Z Ho.e)<|Ag (Ae 1 Z aa Z)<|Ar 1 Z<|A3 h fun bl h=>Bf ad a1.toNat (CT bl) (AD bl) ?_;rintro p4 _ ⟨_,_,rfl,rfl,⟨_,_,rfl,rfl,⟨_,_,rfl,⟨e4v2,rfl,e4h2⟩,⟨_,_,rfl,rfl,⟨_,_,rfl,rfl,⟨_,_,rfl,rfl,⟨_,_,rfl,rfl,⟨_,_,rfl,rfl,⟨_,_,rfl,rfl,⟨_,_,rfl,rfl,⟨_,_,rfl,⟨e4v10,rfl,e4h10⟩,⟨e4v11,rfl,e4h11⟩⟩⟩⟩⟩⟩⟩⟩⟩⟩⟩⟩ b2;refine Ag (Ce b2 (hH.trans aa.arg))<|Av h fun x6 b3 h=>Bv aa (JQ (a0:=(a0.getD a1.toNat Qq1)) _ _ (Ao aa) (e4h2.mono  Ai) (e4h10.mono  Ai) (e4h11.mono  Ai) b3) ?_;rintro ce w7 ⟨_,rfl,ax⟩ b4 ao bo
 have ay:=ax.mono (DN aa b4);refine Av h fun x8 b6 h=>Bv ao (Mt _ _ (Ao ao) ay b6) ?_;rintro ap w9 ⟨_,rfl,az⟩ b7 aq ar;obtain⟨b8,aq,ar,b9⟩:=az.take hH ao b7;refine A1 1 Z<|Bm ((List Bool)×Qq5) (fun⟨ab,p⟩=>[]) (fun⟨ab,p⟩ wr=>DE w [.row v2 4 1 (ab).length p,.box b1 [q] 25] wr fun Oz=>A5 .bool (gz H w wr Oz) ab p/\Iv ab=some r) ?_ ?_
 ·refine A8 ?_;have bp:=QC.start (aq.at (i:=0) Z);obtain⟨af,h⟩:=Bc h;have an:=an.mono (Ac (bo.trans ar));refine Bz (Qq4×(List Bool)×Qq4×Value×Value×Nat×Qq5×Qq5×Nat) (fun⟨a,g,Ll94,o,ql94,kl94,d,b,n⟩=>[(1,No a1),(2,(Aac b1)),(5,v2),(6,ql94)]) (fun⟨a,g,Ll94,o,ql94,kl94,d,b,n⟩ wr=>DE w [.row o 3 1 (Ll94).length d,.row v2 4 1 (g).length b,.box b1 [q] 25] wr fun Oz=>A5 (.int .i64) (gz H w wr Oz) Ll94 d/\QC o ql94 1 kl94 Ll94.length/\a=Qz8 kl94 Ll94/\A5 .bool (gz H w wr Oz) g b/\FW (HH a0 a1) n (a,g)=some r) (fun⟨a,g,Ll94,o,ql94,kl94,d,b,n⟩=>n) (x8,(Qzw (a0.length:Int).toNat (false:Bool)),x8,ap,ap,0,b8,b0,af) Z ⟨aq,b9,bp,Z,an,h⟩ ?_;rintro⟨a,g,Ll94,o,ql94,kl94,d,b,nn97⟩ cf ⟨c,e,s,u,f,h⟩;obtain⟨af,co,rfl,h,ae⟩:=Ba h;refine AM<|B1 1 Z<|Ag (AT (QC.vec (i:=0) c hH Z e s u))<|A1 1 Z<|AS h ?_ ?_<;>intro bq h
  ·refine A4<|A2<|A8<|B1 1 Z<|A3 h fun ag h=>Bf (QC.vec (i:=0) c hH Z e s u) ((0:Int).toNat) (CT ag) (AD ag) ?_;rintro cg _ rfl a2;refine Ag (AX a2 (Le.refl _))<|A1 1 Z<|B1 1 Z<|A3 h fun a3 h=>Vm (l:=Ll94) (yy:=a) 0 c s u a3 fun br bs ah ai=>A1 1 Z<|AM<|AI 3 Z<|AS h ?_ ?_<;>intro a4 h
   ·cases h
   refine A4<|A2<|B1 2 Z<|A3 h fun aj h=>Bf (c.KA hH (i:=1) Z f) ((a.getD ((0:Int).toNat) Qq1).toNat) (CT aj) (AD aj) ?_;rintro ch _ rfl a5;refine Ag (AX a5 (Le.refl _))<|A1 1 Z<|Bi h ?_ ?_<;>intro a6 h
   ·refine B1 2 Z<|A3 h fun x h=>Ck 1 Z Aao Fv.e c Z ((a.getD ((0:Int).toNat) Qq1).toNat) (CT x) (AD x) fun ci a7=>CO 1 ((a.getD ((0:Int).toNat) Qq1).toNat) true Z hH c Z f a7 (AD x) Z fun cj a8 k au y=>Al<|Az<|Ar 1 Z<|Ag (Af Z Aas Z Ho.e)<|Ag (Ae 2 Z k Z)<|Ar 1 Z<|A3 h fun ak h=>Bf ad ((a.getD ((0:Int).toNat) Qq1).toNat) (CT ak) (AD ak) ?_;rintro ck _ ⟨_,_,rfl,rfl,⟨_,_,rfl,rfl,⟨_,_,rfl,⟨e115v2,rfl,e115h2⟩,⟨_,_,rfl,rfl,⟨_,_,rfl,rfl,⟨_,_,rfl,rfl,⟨_,_,rfl,rfl,⟨_,_,rfl,rfl,⟨_,_,rfl,rfl,⟨_,_,rfl,rfl,⟨_,_,rfl,⟨e115v10,rfl,e115h10⟩,⟨e115v11,rfl,e115h11⟩⟩⟩⟩⟩⟩⟩⟩⟩⟩⟩⟩ a9;refine Ag (Ce a9 (hH.trans k.arg))<|Av h fun av ba h=>Bv k (JQ (a0:=(a0.getD ((a.getD ((0:Int).toNat) Qq1).toNat) Qq1)) _ _ (Ao k) (e115h2.mono  Ai) (e115h10.mono  Ai) (e115h11.mono  Ai) ba) ?_;rintro ca cl ⟨_,rfl,al⟩ bb bc ac;have am:=al.mono (DN k bb)
    refine A3 h fun bd h=>?_;have e:=e.mono (Ac (au.trans ac));refine Yd (r:=(.int .i64)) (l:=Ll94) (m:=av) (yy:=(Qz8 (1:Int).toNat a)) 0 Aam Qqb hH bc Z e ai ah am bd fun bt bu bv bw cm be bf bg bh aw bi=>Ar 1 Z<|AP<|A9 ?_;have h:=BW.again h ae;have y:=y.mono (Ac (ac.trans aw));refine AN (((Qz8 (1:Int).toNat a)++av),(g.set ((a.getD ((0:Int).toNat) Qq1).toNat) true),bw,bu,bt,bv,be,a8,af) ⟨bh,bi,bg,bf,y,h⟩
   refine A4<|A9 ?_;have h:=BW.again h ae;refine AN ((Qz8 (1:Int).toNat a),g,Ll94,o,br,bs,d,b,af) ⟨c,e,ai,ah,f,h⟩
  refine Bq<|AK<|AF ?_;have h:=BW.out h ae;refine Bj ?_;have bj:=c.AR (i:=0) Z;have f:=f.mono (Ac (Ah (i:=0) Z));refine AH (_,_) ⟨bj,f,h⟩
 rintro⟨ab,p⟩ cn ⟨bx,cb,h⟩;refine AI 1 Z<|Au ?_
 cases h
 refine Aj Z ⟨bx.ext,Z⟩
def KE:Option (Qq6):=
 some ((0,0))
def GC(a0:(List AaE))(b:(List (Nat->Bool))):Int->Option ((Int)⊕(Qq6)):=fun a=>
 if a<(a0.length:Int)then Bb (0<=a/\a<(a0.length:Int)) (Qq8 (IU (a0.getD a.toNat Qq1) b) (fun c=>if c then none else Bb (BH (a+1)) (some (Sum.inl (a+1)))))else Qzq Sum.inr KE
def Ps(a0:(List AaE))(a:(List (Nat->Bool)))(s:Int):Option (Qq6):=Go.L.run (GC a0 a) s
def Hq(a0:(List AaE)):Option (Qq6):=
 Qq8 (IK a0) (fun a=>Qq8 (DT a false) (fun b=>if 0<=b then none else Qq8 (IJ a0) (fun c=>(Ps a0 c) (0:Int))))
def Iw(a0:(List AaE)):Int->Option ((Int)⊕(Qq6)):=fun a=>
 if a<(a0.length:Int)then Qq8 (Kn a0 a) (fun b=>if b then none else Bb (BH (a+1)) (some (Sum.inl (a+1))))else Qzq Sum.inr ((Hq a0))
def KF(a0:(List AaE))(s:Int):Option (Qq6):=Go.L.run (Iw a0) s
def Jc(a0:(List AaE)):Option (Qq6):=
 (KF a0) (0:Int)
def Ix(a0:(List AaE)):Int->Option ((Int)⊕(Qq6)):=fun a=>
 if a<(a0.length:Int)then Bb (0<=a/\a<(a0.length:Int)) (Qq8 (IY a0 (a0.getD a.toNat Qq1)) (fun b=>if b=0 then Bb (BH (a+1)) (some (Sum.inl (a+1)))else none))else Qzq Sum.inr ((Jc a0))
def KG(a0:(List AaE))(s:Int):Option (Qq6):=Go.L.run (Ix a0) s
def Jd(a0:(List AaE)):Option (Qq6):=
 (KG a0) (0:Int)
def Iy(a0:(List AaE)):Int->Option ((Int)⊕(Qq6)):=fun a=>
 if a<(a0.length:Int)then Bb (0<=a/\a<(a0.length:Int)) (Bb (0<=a/\a<=(a0.length:Int)) (Qq8 (Iu (a0.getD a.toNat Qq1) (a0.take a.toNat) (a0.length:Int)) (fun b=>if b=0 then Bb (BH (a+1)) (some (Sum.inl (a+1)))else none)))else Qzq Sum.inr ((Jd a0))
def KH(a0:(List AaE))(s:Int):Option (Qq6):=Go.L.run (Iy a0) s
def KZ(a0:(List AaE)):Option (Qq6):=
 if(a0.length:Int)=0 then none else(if 40<(a0.length:Int)then none else(KH a0) (0:Int))
theorem Pt{a0:(List AaE)}{c:Value}(d:AL AaK H c a0){r:Qq6}(h:KZ a0=some r):
  Qqv 89 [.agg #[c]] w (fun v w'=>v=.agg #[No r.1,No r.2]):=by
 refine AG 100 [(0,.agg #[c])] func89 Z fun hL=>Aq<|Cj (t:=25) Z Z hL fun w1 l cg c5 _=>AZ BB.e Z cg fun w2 j au c6 _=>Al<|Aq<|Ag (Af Z Aas Z Ho.e)<|Ag (Ae 1 Z au Z)<|Ag (AT d)<|A1 1 Z<|AM<|A8<|AI 3 Z<|AS h ?_ ?_<;>intro ch h
 ·cases h
 refine AI 3 Z<|AS h ?_ ?_<;>intro ci h
 ·cases h
 refine A4<|A9<|A2<|Bm Unit (fun(_:Unit)=>[(1,(Aac l)),(2,(Aac j))]) (fun(_:Unit) wr=>AW w [.box j [No 0,No 0] 27,.box l [c] 25] wr/\(Jd a0)=some r) ?_ ?_
 ·refine Aq<|Ag (Af Z Aas Z Ho.e)<|Ag (Ae 1 Z au Z)<|Ag (AT d)<|A1 1 Z<|A8 ?_;obtain⟨av,h⟩:=Bc h;refine Bz (Int×Nat) (fun⟨g,n⟩=>[(1,(Aac l)),(2,(Aac j)),(3,No (a0.length:Int)),(27,c),(28,No (a0.length:Int)),(29,No g)]) (fun⟨g,n⟩ wr=>AW w [.box j [No 0,No 0] 27,.box l [c] 25] wr/\FW (Iy a0) n g=some r) (fun⟨g,n⟩=>n) (0,av) Z ⟨au,h⟩ ?_;rintro⟨g,nn74⟩ c7 ⟨ab,h⟩;obtain⟨av,dx,rfl,h,aw⟩:=Ba h;refine AI 1 Z<|AM<|AS h ?_ ?_<;>intro b3 h
  ·refine A4<|A2<|AM<|A8<|B1 1 Z<|A3 h fun ax h=>Bf d g.toNat (CT ax) (AD ax) ?_;rintro dy _ ⟨_,_,rfl,rfl,⟨_,_,rfl,rfl,⟨_,_,rfl,⟨e78v2,rfl,e78h2⟩,⟨_,_,rfl,rfl,⟨_,_,rfl,rfl,⟨_,_,rfl,rfl,⟨_,_,rfl,rfl,⟨_,_,rfl,rfl,⟨_,_,rfl,rfl,⟨_,_,rfl,rfl,⟨_,_,rfl,⟨e78v10,rfl,e78h10⟩,⟨e78v11,rfl,e78h11⟩⟩⟩⟩⟩⟩⟩⟩⟩⟩⟩⟩ b4;refine Ag (Ce b4 (hH.trans ab.arg))<|AZ Bl.e Z ab fun dz d0 b5 ct _=>Ar 1 Z<|A7 0 Z b5 Z (h1:=(BP Z (BP Z (BP e78h2.one (Uw 7 Z (BP e78h10.one (BP e78h11.one Mx))))))) fun d1 b6 cu=>Al<|CI (Qqz 0 8 (.tail 8)) mixed V (fun cj b7=>?_);have k:=b6.call b7;refine B9 Z (Ax 0 Z Bl.e k Z) Z<|B9 Z (Af Z Aas Z Ho.e) Z<|B9 Z (Ae 2 Z k Z) Z<|BJ 1 Z<|A3 h fun b8 h=>UH Z Z Aat d b8 Z fun d2 b9=>BJ 1 Z<|Av h fun d3 ca h=>?_
   have a5:=(fun(b0:World) (u:Ext cj b0)=>NG b0 _ (Le.refl _) ((e78h2.mono (hH.trans k.arg)).mono u.le) ((e78h10.mono (hH.trans k.arg)).mono u.le) ((e78h11.mono (hH.trans k.arg)).mono u.le) ((b9.mono (hH.trans k.arg)).mono u.le) ca);refine IA Z Z Z a5<|BJ 1 Z<|B8 (fun d4 cb=>?_);have cc:=k.call cb;refine Al<|AI 2 Z<|DP h ?_ ?_<;>intro cd h
   ·cases h
   refine A4<|A9<|A2<|Az<|A3 h fun ce h=>Ag (AA ce)<|Ar 1 Z<|AP ?_;have cf:=cc.AR (i:=0) Z;have h:=BW.again h aw;refine AN (_,_) ⟨cf,h⟩
  refine Bq<|AK<|AF ?_;have h:=BW.out h aw;refine Bj<|AH () ⟨ab,h⟩
 rintro _ c8 ⟨ay,h⟩;refine Bm Unit (fun(_:Unit)=>[(1,(Aac l)),(2,(Aac j))]) (fun(_:Unit) wr=>AW w [.box j [No 0,No 0] 27,.box l [c] 25] wr/\(Jc a0)=some r) ?_ ?_
 ·refine Aq<|Ag (Af Z Aas Z Ho.e)<|Ag (Ae 1 Z ay Z)<|Ag (AT d)<|A1 1 Z<|A8 ?_;obtain⟨ac,h⟩:=Bc h;refine Bz (Int×Nat) (fun⟨a,n⟩=>[(1,(Aac l)),(2,(Aac j)),(48,c),(49,No (a0.length:Int)),(50,No a)]) (fun⟨a,n⟩ wr=>AW w [.box j [No 0,No 0] 27,.box l [c] 25] wr/\FW (Ix a0) n a=some r) (fun⟨a,n⟩=>n) (0,ac) Z ⟨ay,h⟩ ?_;rintro⟨a,nn144⟩ cv ⟨x,h⟩;obtain⟨ac,c9,rfl,h,af⟩:=Ba h;refine AI 1 Z<|AM<|AS h ?_ ?_<;>intro a6 h
  ·refine A4<|A2<|AM<|A8<|B1 1 Z<|A3 h fun ag h=>Bf d a.toNat (CT ag) (AD ag) ?_;rintro da _ ⟨_,_,rfl,rfl,⟨_,_,rfl,rfl,⟨_,_,rfl,⟨e148v2,rfl,e148h2⟩,⟨_,_,rfl,rfl,⟨_,_,rfl,rfl,⟨_,_,rfl,rfl,⟨_,_,rfl,rfl,⟨_,_,rfl,rfl,⟨_,_,rfl,rfl,⟨_,_,rfl,rfl,⟨_,_,rfl,⟨e148v10,rfl,e148h10⟩,⟨e148v11,rfl,e148h11⟩⟩⟩⟩⟩⟩⟩⟩⟩⟩⟩⟩ a7;refine Ag (Ce a7 (hH.trans x.arg))<|AZ Bl.e Z x fun db dc a8 ck _=>Ar 1 Z<|A7 0 Z a8 Z (h1:=(BP Z (BP Z (BP e148h2.one (Uw 7 Z (BP e148h10.one (BP e148h11.one Mx))))))) fun dd m cl=>Al<|Aq<|Ag (Ax 2 Z HQ.e m Z)<|Ag (Ax 0 Z Bl.e m Z)<|Av h fun de a9 h=>A6 m (Od (a0:=a0) (a1:=(a0.getD a.toNat Qq1)) _ _ (Ao m) (d.mono  Ai) (e148h2.mono  Ai) (e148h10.mono  Ai) (e148h11.mono  Ai) a9) fun df cw ba cm=>A1 1 Z<|AI 2 Z<|DP h ?_ ?_<;>intro bc h
   ·cases h
   refine A4<|A9<|A2<|Az<|A3 h fun bd h=>Ag (AA bd)<|Ar 1 Z<|AP ?_;have be:=ba.AR (i:=0) Z;have h:=BW.again h af;refine AN (_,_) ⟨be,h⟩
  refine Bq<|AK<|AF ?_;have h:=BW.out h af;refine Bj<|AH () ⟨x,h⟩
 rintro _ cx ⟨ah,h⟩;refine Bm Unit (fun(_:Unit)=>[(1,(Aac l)),(2,(Aac j))]) (fun(_:Unit) wr=>AW w [.box j [No 0,No 0] 27,.box l [c] 25] wr/\(Hq a0)=some r) ?_ ?_
 ·refine Aq<|Ag (Af Z Aas Z Ho.e)<|Ag (Ae 1 Z ah Z)<|Ag (AT d)<|A1 1 Z<|A8 ?_;obtain⟨ad,h⟩:=Bc h;refine Bz (Int×Nat) (fun⟨e,n⟩=>[(1,(Aac l)),(2,(Aac j)),(66,No (a0.length:Int)),(67,No e)]) (fun⟨e,n⟩ wr=>AW w [.box j [No 0,No 0] 27,.box l [c] 25] wr/\FW (Iw a0) n e=some r) (fun⟨e,n⟩=>n) (0,ad) Z ⟨ah,h⟩ ?_;rintro⟨e,nn196⟩ cy ⟨o,h⟩;obtain⟨ad,dg,rfl,h,ai⟩:=Ba h;refine AI 1 Z<|AM<|AS h ?_ ?_<;>intro bf h
  ·refine A4<|A2<|AM<|A8<|AI 2 Z<|Aq<|Ag (Ax 1 Z HQ.e o Z)<|Ar 1 Z<|Av h fun dh bg h=>A6 o (OU (a0:=a0) _ _ (Ao o) (d.mono  Ai) bg) fun di cz bh cn=>Al<|Bi h ?_ ?_<;>intro bi h
   ·cases h
   refine A4<|A9<|A2<|Az<|A3 h fun bj h=>Ag (AA bj)<|Ar 1 Z<|AP ?_;have h:=BW.again h ai;refine AN (_,_) ⟨bh,h⟩
  refine Bq<|AK<|AF ?_;have h:=BW.out h ai;refine Bj<|AH () ⟨o,h⟩
 rintro _ c0 ⟨p,h⟩;refine AM<|Aq<|Ag (Ax 1 Z HQ.e p Z)<|Av h fun dj bk h=>Bv p (OO (a0:=a0) _ _ (Ao p) (d.mono  Ai) bk) ?_;rintro co dk ⟨_,rfl,ao⟩ bl aj cp;have ap:=ao.Dj hH p bl;refine Av h fun dl bm h=>A6 aj (L9 _ _ (Ao aj) ap bm) fun dm c1 s cq=>A1 1 Z<|AI 2 Z<|AS h ?_ ?_<;>intro bn h
 ·cases h
 refine A4<|A2<|Aq<|Ag (Ax 1 Z HQ.e s Z)<|Av h fun az bo h=>Bv s (Mu (a0:=a0) _ _ (Ao s) (d.mono  Ai) bo) ?_;rintro aa dn ⟨_,rfl,aq⟩ bp ak cr;have ar:=aq.Dj hH s bp;refine A1 1 Z<|Bm Unit (fun(_:Unit)=>[(2,(Aac j))]) (fun(_:Unit) wr=>AW w [.box j [No 0,No 0] 27,.box l [c] 25] wr/\KE=some r) ?_ ?_
 ·refine Aq<|Ag (Af Z Aas Z Ho.e)<|Ag (Ae 1 Z ak Z)<|Ag (AT d)<|A1 1 Z<|A8 ?_;obtain⟨ae,h⟩:=Bc h;refine Bz (Int×Nat) (fun⟨b,n⟩=>[(2,(Aac j)),(12,aa),(86,c),(87,No (a0.length:Int)),(88,No b)]) (fun⟨b,n⟩ wr=>DE w [.box j [No 0,No 0] 27,.box l [c] 25] wr fun Oz=>AL (.bb 256) (gz H w wr Oz) aa az/\FW (GC a0 az) n b=some r) (fun⟨b,n⟩=>n) (0,ae) Z ⟨ak,ar,h⟩ ?_;rintro⟨b,nn264⟩ c2 ⟨y,f,h⟩;obtain⟨ae,dp,rfl,h,al⟩:=Ba h;refine AI 1 Z<|AM<|AS h ?_ ?_<;>intro bq h
  ·refine A4<|A2<|AM<|A8<|B1 1 Z<|A3 h fun am h=>Bf d b.toNat (CT am) (AD am) ?_;rintro dq _ ⟨_,_,rfl,rfl,⟨_,_,rfl,rfl,⟨_,_,rfl,⟨e268v2,rfl,e268h2⟩,⟨_,_,rfl,rfl,⟨_,_,rfl,rfl,⟨_,_,rfl,rfl,⟨_,_,rfl,rfl,⟨_,_,rfl,rfl,⟨_,_,rfl,rfl,⟨_,_,rfl,rfl,⟨_,_,rfl,⟨e268v10,rfl,e268h10⟩,⟨e268v11,rfl,e268h11⟩⟩⟩⟩⟩⟩⟩⟩⟩⟩⟩⟩ br;refine Ag (Ce br (hH.trans y.arg))<|AZ Bl.e Z y fun dr ds bs a2 _=>Ar 1 Z<|A7 0 Z bs Z (h1:=(BP Z (BP Z (BP e268h2.one (Uw 7 Z (BP e268h10.one (BP e268h11.one Mx))))))) fun dt z a3=>Al<|Aq<|Ag (Ax 0 Z Bl.e z Z)<|Ar 1 Z<|Av h fun du bt h=>?_;have f:=f.mono (Ac (a2.trans a3));refine A6 z (Ob (a0:=(a0.getD b.toNat Qq1)) _ _ (Ao z) (e268h2.mono  Ai) (e268h10.mono  Ai) (e268h11.mono  Ai) f bt) fun dv c3 bu a4=>Al<|Bi h ?_ ?_<;>intro bv h
   ·cases h
   refine A4<|A9<|A2<|Az<|A3 h fun bw h=>Ag (AA bw)<|Ar 1 Z<|AP ?_;have bx:=bu.AR (i:=0) Z;have h:=BW.again h al;have f:=f.mono (Ac (a4.trans (Ah (i:=0) Z)));refine AN (_,_) ⟨bx,f,h⟩
  refine Bq<|AK<|AF ?_;have h:=BW.out h al;refine Bj<|AH () ⟨y,h⟩
 rintro _ c4 ⟨bz,h⟩;refine Aq<|Ag (B7 (fun _=>Dx _))<|A7 0 Z bz Z fun dw an cs=>Al<|Au ?_
 cases h
 refine DO (.cell Z Aaj Z BB.e (Bo (i:=0) an Z)) ⟨an.ext,Z⟩
def Je(a:Aae):Option (Aae×Qq6):=
 if 2000<(a.length:Int)then none else some (a,(0,0))
def Iz(a0:(List AaE)):Aae×Int->Option ((Aae×Int)⊕(Aae×Qq6)):=fun⟨b,a⟩=>
 if a<(a0.length:Int)then Bb (0<=a/\a<(a0.length:Int)) (Qq8 (LL a0 (a0.getD a.toNat Qq1)) (fun c=>Bb (b.length+c.length<=9223372036854775807) (Bb (BH (a+1)) (some (Sum.inl ((b++c),(a+1)))))))else Qzq Sum.inr (Je b)
def KI(a0:(List AaE))(s:Aae×Int):Option (Aae×Qq6):=Go.L.run (Iz a0) s
def La(a0:(List AaE)):Option (Aae×Qq6):=
 Qq8 (KZ a0) (fun a=>if a.1=0/\a.2=0 then(KI a0) (([]:Aae),0)else none)
theorem Pu(hU:Jm H){a0:(List AaE)}{c:Value}(e:AL AaK H c a0){r:Aae×Qq6}(h:La a0=some r):
  Qqv 48 [.agg #[c]] w (fun v w'=>v=.tuple #[Aad r.1,.agg #[No r.2.1,No r.2.2]]):=by
 refine AG 33 [(0,.agg #[c])] func48 Z fun hL=>Aq<|Cj (t:=25) Z Z hL fun w1 u ah au _=>Ar 1 Z<|AZ BB.e Z ah fun w2 q j av _=>Al<|AM<|Aq<|Ag (Ax 1 Z HQ.e j Z)<|Av h fun s ai h=>A6 j (Pt (a0:=a0) _ _ (Ao j) (e.mono  Ai) ai) fun w4 a4 aj aw=>AZ BB.e Z aj fun w5 b5 al ax _=>A7 0 Z al Z fun w6 k ay=>Al<|Aq<|Ag (Ax 0 Z BB.e k Z)<|Ag (B7 (fun _=>Dx _))<|Ag (MP Mq (OK _ _ _ _))<|Al<|DP h ?_ ?_<;>intro am h
 ·cases h
 refine A4<|A2<|AI 1 Z<|Bm Aae (fun d=>[(3,(Aac q)),(5,(Aad d))]) (fun d wr=>AW w [.box b5 [No s.1,No s.2] 27,.box q [No 0,No 0] 27,.box u [c] 25] wr/\Je d=some r) ?_ ?_
 ·refine Aq<|Ag (Af Z Aas Z Ho.e)<|Ag (Ae 2 Z k Z)<|Ag (AT e)<|A1 1 Z<|A8 ?_;obtain⟨l,h⟩:=Bc h;refine Bz (Aae×Int×Nat) (fun⟨b,a,n⟩=>[(1,(Aac u)),(3,(Aac q)),(5,(Aad b)),(15,c),(16,No (a0.length:Int)),(17,No a)]) (fun⟨b,a,n⟩ wr=>AW w [.box b5 [No s.1,No s.2] 27,.box q [No 0,No 0] 27,.box u [c] 25] wr/\FW (Iz a0) n (b,a)=some r) (fun⟨b,a,n⟩=>n) (([]:Aae),0,l) Z ⟨k,h⟩ ?_;rintro⟨b,a,nn54⟩ az ⟨g,h⟩;obtain⟨l,a5,rfl,h,m⟩:=Ba h;refine AI 1 Z<|AM<|AS h ?_ ?_<;>intro x h
  ·refine A4<|A2<|AM<|A8<|Aq<|A3 h fun o h=>Bf e a.toNat (CT o) (AD o) ?_;rintro a6 _ ⟨_,_,rfl,rfl,⟨_,_,rfl,rfl,⟨_,_,rfl,⟨e58v2,rfl,e58h2⟩,⟨_,_,rfl,rfl,⟨_,_,rfl,rfl,⟨_,_,rfl,rfl,⟨_,_,rfl,rfl,⟨_,_,rfl,rfl,⟨_,_,rfl,rfl,⟨_,_,rfl,rfl,⟨_,_,rfl,⟨e58v10,rfl,e58h10⟩,⟨e58v11,rfl,e58h11⟩⟩⟩⟩⟩⟩⟩⟩⟩⟩⟩⟩ y;refine Ag (Ce y (hH.trans g.arg))<|AZ Bl.e Z g fun a7 a8 z ao _=>A7 0 Z z Z (h1:=(BP Z (BP Z (BP e58h2.one (Uw 7 Z (BP e58h10.one (BP e58h11.one Mx))))))) fun a9 f ap=>Al<|Az<|Ar 1 Z<|Ag (Ax 3 Z HQ.e f Z)<|Ag (Ax 0 Z Bl.e f Z)<|Av h fun an aa h=>A6 f (Qj (a0:=a0) (a1:=(a0.getD a.toNat Qq1)) _ _ (Ao f) (hU.mono  Ai) (e.mono  Ai) (e58h2.mono  Ai) (e58h10.mono  Ai) (e58h11.mono  Ai) aa) fun ba a2 ab aq=>A3 h fun ac h=>Ag (PT ac)<|Ar 1 Z<|AP<|A9<|A2<|Az<|A3 h fun ad h=>?_
   refine Ag (AA ad)<|Ar 1 Z<|AP ?_;have ae:=ab.AR (i:=0) Z;have h:=BW.again h m;refine AN (_,_,_) ⟨ae,h⟩
  refine Bq<|AK<|AF ?_;have h:=BW.out h m;refine Bj<|AH _ ⟨g,h⟩
 rintro d a3 ⟨af,h⟩;refine AM<|B1 1 Z<|Ag (Lm Z)<|A1 1 Z<|AS h ?_ ?_<;>intro ag h
 ·cases h
 refine A4<|A2<|B1 1 Z<|Ag (B7 (fun _=>Dx _))<|Ar 1 Z<|A7 1 Z af Z fun bb p ar=>Al<|Au ?_
 cases h
 refine IS (.tmp Z) (.cell Z Aaj Z BB.e (Bo (i:=1) p Z)) ⟨p.ext,Z⟩
def Dz(a0:(List AaE)):Option (Qq6):=
 Qq8 (La a0) (fun a=>some (a.2))
theorem Hf(hU:Jm H)(a0:(List AaE)){a:Value}(e:AL AaK H a a0){r:Qq6}(h:Dz a0=some r):
  Qqv 15 [.agg #[a]] w (fun v w'=>v=.agg #[No r.1,No r.2]):=by
 refine AG 11 [(0,.agg #[a])] func15 Z fun hL=>Aq<|Cj (t:=25) Z Z hL fun x y f l _=>AZ BB.e Z f fun z b2 b m _=>Al<|Aq<|Ag (Ax 1 Z HQ.e b Z)<|Av h fun x3 g h=>A6 b (Pu (a0:=a0) _ _ (Ao b) (hU.mono  Ai) (e.mono  Ai) g) fun w4 u j o=>Ar 3 Z<|AZ BB.e Z j fun w5 b5 k p _=>Ar 1 Z<|A7 0 Z k Z fun w6 c q=>Al<|Aq<|Ag (Ax 0 Z BB.e c Z)<|A7 1 Z c Z fun w7 d s=>Al<|Au ?_
 cases h
 refine DO (.cell Z Aaj Z BB.e (Bo (i:=1) d Z)) ⟨d.ext,Z⟩
def Jp(a0:(List AaE))(a1:Int):Option (Qq6):=
 Qq8 (Dz a0) (fun a=>if a.1=0/\a.2=0 then Bb (BH ((a0.length:Int) - 1)) (Qq8 (Hw a1 (0:Int) ((a0.length:Int) - 1)) (fun b=>if !b then none else some ((0,0))))else none)
theorem MW(hU:Jm H){a0:(List AaE)}{a1:Int}{a:Value}(c:AL AaK H a a0){r:Qq6}(h:Jp a0 a1=some r):
  Qqv 91 [.agg #[a],No a1] w (fun v w'=>v=.agg #[No r.1,No r.2]):=by
 refine AG 21 [(0,.agg #[a]),(1,No a1)] func91 Z fun hL=>Aq<|Cj (t:=25) Z Z hL fun w1 b1 l x _=>AZ BB.e Z l fun w2 b2 d y _=>Al<|AM<|Aq<|Ag (Ax 1 Z HQ.e d Z)<|Av h fun x3 m h=>A6 d (Hf _ _ (Ao d) (hU.mono  Ai) a0 (c.mono  Ai) m) fun w4 ad o z=>AZ BB.e Z o fun w5 b5 p aa _=>A7 0 Z p Z fun w6 b ab=>Al<|Aq<|Ag (Ax 0 Z BB.e b Z)<|Ag (B7 (fun _=>Dx _))<|Ag (MP Mq (OK _ _ _ _))<|Al<|DP h ?_ ?_<;>intro q h
 ·cases h
 refine A4<|A2<|AM<|B1 1 Z<|Ag (Af Z Aas Z Ho.e)<|Ag (Ae 2 Z b Z)<|Ag (AT c)<|A3 h fun f h=>Ag (AA f)<|Av h fun ae g h=>A6 b (Ih _ _ (Ao b) g) fun af ac j s=>A1 1 Z<|Bi h ?_ ?_<;>intro k h
 ·cases h
 refine A4<|A2<|Aq<|Ag (B7 (fun _=>Dx _))<|A7 1 Z j Z fun ag e u=>Al<|Au ?_
 cases h
 refine DO (.cell Z Aaj Z BB.e (Bo (i:=1) e Z)) ⟨e.ext,Z⟩
def KJ(a:Qq4):Option (Qq4×Qq6):=
 some (a,(0,0))
def GD(a1:Int)(c:(List (Nat->Bool))):Qq4×Int->Option ((Qq4×Int)⊕(Qq4×Qq6)):=fun⟨b,a⟩=>
 if a<256 then Bb (0<=a/\a<256) (if((c.getD a1.toNat Qq1) a.toNat)then Bb (Go.E.Gx 8 (b.length+([a]).length)) (Bb (BH (a+1)) (some (Sum.inl ((b++[a]),(a+1)))))else Bb (BH (a+1)) (some (Sum.inl (b,(a+1)))))else Qzq Sum.inr (KJ b)
def MT(a1:Int)(a:(List (Nat->Bool)))(s:Qq4×Int):Option (Qq4×Qq6):=Go.L.run (GD a1 a) s
def Lb(a0:(List AaE))(a1:Int):Option (Qq4×Qq6):=
 Qq8 (Jp a0 a1) (fun b=>if b.1=0/\b.2=0 then Qq8 (IJ a0) (fun a=>Bb (0<=a1/\a1<(a.length:Int)) ((MT a1 a) (([]:Qq4),0)))else none)
theorem Pw(hU:Jm H){a0:(List AaE)}{a1:Int}{g:Value}(z:AL AaK H g a0){r:Qq4×Qq6}(h:Lb a0 a1=some r):
  Qqv 49 [.agg #[g],No a1] w (fun v w'=>∃u0,v=.tuple #[u0,.agg #[No r.2.1,No r.2.2]]/\Cv 3 (.int .i64) H w w' u0 (r.1)):=by
 refine AG 34 [(0,.agg #[g]),(1,No a1)] func49 Z fun hL=>Aq<|Cj (t:=25) Z Z hL fun w1 b1 a7 bh _=>Ar 1 Z<|AZ BB.e Z a7 fun w2 b2 aa bi _=>Al<|AM<|Aq<|Ag (Ax 1 Z HQ.e aa Z)<|Ar 1 Z<|Av h fun x3 a8 h=>A6 aa (MW (a0:=a0) _ _ (Ao aa) (hU.mono  Ai) (z.mono  Ai) a8) fun w4 bp a9 bj=>AZ BB.e Z a9 fun w5 b5 bb bk _=>A7 0 Z bb Z fun w6 ak bl=>Al<|Aq<|Ag (Ax 0 Z BB.e ak Z)<|Ag (B7 (fun _=>Dx _))<|Ag (MP Mq (OK _ _ _ _))<|Al<|DP h ?_ ?_<;>intro bc h
 ·cases h
 refine A4<|A2<|B1 1 Z ?_;obtain⟨j,be,q⟩:=CF (.int .i64) H 3 ak;refine Al<|Bm (Qq4×Value×Qq5) (fun⟨p,k,f⟩=>[(5,(Aac b2)),(7,k)]) (fun⟨p,k,f⟩ wr=>DE w [.row k 3 1 (p).length f,.box b5 [No x3.1,No x3.2] 27,.box b2 [No 0,No 0] 27,.box b1 [g] 25] wr fun Oz=>A5 (.int .i64) (gz H w wr Oz) p f/\KJ p=some r) ?_ ?_
 ·refine Aq<|Ag (Ax 3 Z HQ.e j Z)<|Av h fun al am h=>Bv j (Mu (a0:=a0) _ _ (Ao j) (z.mono  Ai) am) ?_;rintro bf bq ⟨_,rfl,ab⟩ an ac ah;have ad:=ab.Dj hH j an;refine Ar 1 Z<|A3 h fun ae h=>Bf ad a1.toNat (CT ae) (AD ae) ?_;rintro br _ rfl ao;refine Ag (Ce (hz:=⟨(Ux Hp.e)⟩) ao (Ao ac))<|A1 1 Z<|A8 ?_;obtain⟨y,h⟩:=Bc h;have q:=q.mono (Ac ah);refine Bz (Qq4×Int×Value×Qq5×Nat) (fun⟨c,a,d,b,n⟩=>[(5,(Aac b2)),(7,d),(21,.agg (Kj 256 (al.getD a1.toNat Qq1)).toArray),(22,No a)]) (fun⟨c,a,d,b,n⟩ wr=>DE w [.row d 3 1 (c).length b,.box b5 [No x3.1,No x3.2] 27,.box b2 [No 0,No 0] 27,.box b1 [g] 25] wr fun Oz=>A5 (.int .i64) (gz H w wr Oz) c b/\FW (GD a1 al) n (c,a)=some r) (fun⟨c,a,d,b,n⟩=>n) (([]:Qq4),0,Aaa,[],y) Z ⟨ac,q,h⟩ ?_;rintro⟨c,a,d,b,nn66⟩ bm ⟨s,e,h⟩;obtain⟨y,bs,rfl,h,u⟩:=Ba h
  refine AI 1 Z<|AM<|AS h ?_ ?_<;>intro ap h
  ·refine A4<|A2<|AM<|A8<|B1 1 Z<|A3 h fun aq h=>Ag (Qf Z aq Z)<|A1 2 Z<|AI 1 Z<|Bi h ?_ ?_<;>intro ar h
   ·refine Az<|Ar 2 Z<|BV [a] (r:=(.int .i64)) (fun _=>LI _ _) s (.c1 Z .nil) fun bt bu bn au ai av=>A3 h fun aw h=>?_;have e:=e.mono (Ac ai);refine BL (r:=(.int .i64)) 0 c [a] Z Aam au Z e av aw fun bd bv ax ay bg az=>Ar 1 Z<|AP<|A9<|A2<|Az<|A3 h fun a2 h=>Ag (AA a2)<|Ar 1 Z<|AP ?_;have h:=BW.again h u;refine AN (_,_,_,_,_) ⟨ay,az,h⟩
   refine A4<|A9<|A2<|Az<|A3 h fun a3 h=>Ag (AA a3)<|Ar 1 Z<|AP ?_;have h:=BW.again h u;refine AN (_,_,_,_,_) ⟨s,e,h⟩
  refine Bq<|AK<|AF ?_;have h:=BW.out h u;refine Bj<|AH (_,_,_) ⟨s,e,h⟩
 rintro⟨p,k,f⟩ bo ⟨a4,o,h⟩;refine B1 1 Z<|Ag (B7 (fun _=>Dx _))<|Ar 1 Z<|A7 2 Z a4 Z fun bw x aj=>Al<|Au ?_
 cases h
 refine IS (.tmp Z) (.cell Z Aaj Z BB.e (Bo (i:=2) x Z)) ?_;have o:=o.mono (Ac aj);exact⟨x.ext,_,Z,(x.Hn hH (i:=0) Z o)⟩
end
def Gj(a1:Nat)(a:List AaE)(b:Qq4):Option (Bool×(List AaE)):=
 Bb (a1<a.length) (some (true,(a.set a1 ((a.getD a1 Qq1).1,(a.getD a1 Qq1).2.1,(a.getD a1 Qq1).2.2.1,(a.getD a1 Qq1).2.2.2.1,(a.getD a1 Qq1).2.2.2.2.1,(a.getD a1 Qq1).2.2.2.2.2.1,(a.getD a1 Qq1).2.2.2.2.2.2.1,(a.getD a1 Qq1).2.2.2.2.2.2.2.1,(a.getD a1 Qq1).2.2.2.2.2.2.2.2.1,(a.getD a1 Qq1).2.2.2.2.2.2.2.2.2.1,(a.getD a1 Qq1).2.2.2.2.2.2.2.2.2.2.1,b))))
def Gk(a1:Nat)(a:List AaE)(b:Qq4):Option (Bool×(List AaE)):=
 Bb (a1<a.length) (Qq8 (B6 (a.getD a1 Qq1)) (fun c=>if c then Bb (0<=(0:Int)/\(0:Int)<(b.length:Int)) (Bb (a1<a.length) (Bb (0<=(1:Int)/\(1:Int)<=(b.length:Int)) ((Gj a1) (a.set a1 ((a.getD a1 Qq1).1,(a.getD a1 Qq1).2.1,(a.getD a1 Qq1).2.2.1,(a.getD a1 Qq1).2.2.2.1,(a.getD a1 Qq1).2.2.2.2.1,(a.getD a1 Qq1).2.2.2.2.2.1,(a.getD a1 Qq1).2.2.2.2.2.2.1,(a.getD a1 Qq1).2.2.2.2.2.2.2.1,(a.getD a1 Qq1).2.2.2.2.2.2.2.2.1,b.getD ((0:Int).toNat) Qq1,(a.getD a1 Qq1).2.2.2.2.2.2.2.2.2.2.1,(a.getD a1 Qq1).2.2.2.2.2.2.2.2.2.2.2)) (b.drop (1:Int).toNat))))else(Gj a1) a b))
def HI(a0:(List AaE))(a1:Nat)(a:Qq4):Option (Bool×(List AaE)):=
 Bb (a1<a0.length) (Qq8 (BF (a0.getD a1 Qq1)) (fun b=>if b then Bb (0<=(0:Int)/\(0:Int)<(a.length:Int)) (Bb (a1<a0.length) (Bb (0<=(1:Int)/\(1:Int)<=(a.length:Int)) ((Gk a1) (a0.set a1 ((a0.getD a1 Qq1).1,(a0.getD a1 Qq1).2.1,(a0.getD a1 Qq1).2.2.1,(a0.getD a1 Qq1).2.2.2.1,(a0.getD a1 Qq1).2.2.2.2.1,(a0.getD a1 Qq1).2.2.2.2.2.1,(a0.getD a1 Qq1).2.2.2.2.2.2.1,(a0.getD a1 Qq1).2.2.2.2.2.2.2.1,a.getD ((0:Int).toNat) Qq1,(a0.getD a1 Qq1).2.2.2.2.2.2.2.2.2.1,(a0.getD a1 Qq1).2.2.2.2.2.2.2.2.2.2.1,(a0.getD a1 Qq1).2.2.2.2.2.2.2.2.2.2.2)) (a.drop (1:Int).toNat))))else(Gk a1) a0 a))
def Hg(a0:(List AaE))(a1:Nat)(a2:List Aae):Qq4×Int->Option ((Qq4×Int)⊕(Bool×(List AaE))):=fun⟨b,a⟩=>
 if a<(a2.length:Int)then Bb (0<=a/\a<(a2.length:Int)) (Qq8 (K2 a0 (a2.getD a.toNat Qq1)) (fun c=>if c<0 then none else Bb (Go.E.Gx 8 (b.length+([c]).length)) (Bb (BH (a+1)) (some (Sum.inl ((b++[c]),(a+1)))))))else Qzq Sum.inr ((HI a0 a1) b)
def JB(a0:(List AaE))(a1:Nat)(a2:List Aae)(s:Qq4×Int):Option (Bool×(List AaE)):=Go.L.run (Hg a0 a1 a2) s
def JC(a0:(List AaE))(a1:Nat)(a2:List Aae):Option (Bool×(List AaE)):=
 (JB a0 a1 a2) (([]:Qq4),0)
theorem O4{w0 w:World}{H:PH}(hH:Le H (hp w0)){O:List BN}{a0:(List AaE)}{a1:Nat}{a2:List Aae}{va0_0:Value}{xsa0_0:Qq5}{pa1:Addr}{va2:Value}(hL:AW w0 (Ha [.row va0_0 50 12 (a0).length xsa0_0] O) w)(bf:A5 AaK (gz H w0 w (Ha [.row va0_0 50 12 (a0).length xsa0_0] O)) a0 xsa0_0)(ag:J0 va0_0 (a1 * 12) pa1)(ci:AL .st (gz H w0 w (Ha [.row va0_0 50 12 (a0).length xsa0_0] O)) va2 a2){r:Bool×(List AaE)}(h:JC a0 a1 a2=some r):
  Ok prog 14 [.agg #[va0_0],.pointer (some pa1),va2] w (fun v w'=>∃(y1:Qq5),v=.bool r.1/\AW w0 (Ha [.row va0_0 50 12 (r.2).length y1] O) w'/\Le (fz w (Ha [.row va0_0 50 12 (a0).length xsa0_0] O)) (fz w' (Ha [.row va0_0 50 12 (r.2).length y1] O))/\A5 AaK (gz H w0 w' (Ha [.row va0_0 50 12 (r.2).length y1] O)) (r.2) y1):=by
 refine BC (n:=56) [(0,.agg #[va0_0]),(1,.pointer (some pa1)),(2,va2)] func14 Z Z Z Z ?_;have hT:=Le.refl (fz w (Ha [.row va0_0 50 12 (a0).length xsa0_0] O));refine Aq<|Cj (t:=25) Z Z hL fun w1 b1 el bk _=>A1 1 Z<|B1 1 Z ?_;obtain⟨dz,bl,em⟩:=CF (.int .i64) H 3 el;refine Al<|Bm (Qq4×Value×Qq5) (fun⟨x,ba,au⟩=>[(1,.pointer (some pa1)),(7,ba)]) (fun⟨x,ba,au⟩ wr=>DE w0 (Ha [.row ba 3 1 (x).length au,.box b1 [va0_0] 25,.row va0_0 50 12 (a0).length xsa0_0] O) wr fun Oz=>A5 (.int .i64) (gz H w0 wr Oz) x au/\A5 AaK (gz H w0 wr Oz) a0 xsa0_0/\Le (fz w (Ha [.row va0_0 50 12 (a0).length xsa0_0] O)) (fz wr Oz)/\(HI a0 a1) x=some r) ?_ ?_
 ·have bm:=dz.rG H;refine B1 1 Z ?_;have ci:=ci.mono (Ac (bk.trans bl));refine Ag (AT (ci.mono bm))<|A1 1 Z<|A8 ?_;obtain⟨ct,h⟩:=Bc h;have bf:=bf.mono (Ac (bk.trans bl));have hT:=hT.trans (bk.trans bl);refine Bz (Qq4×Int×Value×Qq5×Nat) (fun⟨av,ah,bb,ar,n⟩=>[(1,.pointer (some pa1)),(3,(Aac b1)),(7,bb),(11,va2),(12,No (a2.length:Int)),(13,No ah)]) (fun⟨av,ah,bb,ar,n⟩ wr=>DE w0 (Ha [.row bb 3 1 (av).length ar,.box b1 [va0_0] 25,.row va0_0 50 12 (a0).length xsa0_0] O) wr fun Oz=>AL .st (gz H w0 wr Oz) va2 a2/\A5 (.int .i64) (gz H w0 wr Oz) av ar/\A5 AaK (gz H w0 wr Oz) a0 xsa0_0/\Le (fz w (Ha [.row va0_0 50 12 (a0).length xsa0_0] O)) (fz wr Oz)/\FW (Hg a0 a1 a2) n (av,ah)=some r) (fun⟨av,ah,bb,ar,n⟩=>n) (([]:Qq4),0,Aaa,[],ct) Z ⟨dz,(ci.mono bm),(em.mono bm),(bf.mono bm),hT,h⟩ ?_;rintro⟨av,ah,bb,ar,nn59⟩ es ⟨bc,ce,cj,he59_Ra0_0,hT,h⟩
  obtain⟨ct,ff,rfl,h,cu⟩:=Ba h;have ai:=bc.rG H;refine AI 1 Z<|AM<|AS h ?_ ?_<;>intro d0 h
  ·refine A4<|A2<|AM<|A8<|Aq<|A3 h fun cv h=>Bf (ce.mono ai) ah.toNat (CT cv) (AD cv) ?_;rintro fg _ rfl d1;refine Ag (AX d1 (Ao bc))<|A1 1 Z<|Aq<|Ag (Af Z Aas Z Ho.e)<|Ag (Ae 1 Z bc Z)<|Ar 1 Z<|Av h fun cw d2 h=>A6 bc (Nz _ _ (Le.refl _) (bc.KA hH (i:=2) Z (he59_Ra0_0.mono ai)) d2) fun fh et d3 ck=>A1 1 Z<|AM<|AI 2 Z<|AS h ?_ ?_<;>intro d4 h
   ·cases h
   refine A4<|A2<|Az<|Ar 2 Z<|BV [cw] (r:=(.int .i64)) (fun _=>LI _ _) d3 (.c1 Z .nil) fun fi fj eu d5 cl d6=>A3 h fun d7 h=>?_;have ai:=ai.trans (Ac (ck.trans cl));refine BL (r:=(.int .i64)) 0 av [cw] Z Aam d5 Z (cj.mono ai) d6 d7 fun en fk d8 d9 cm ea=>Ar 1 Z<|AP<|A9<|A2<|Az<|A3 h fun eb h=>Ag (AA eb)<|Ar 1 Z<|AP ?_;have h:=BW.again h cu;have hT:=hT.trans (ck.trans (cl.trans cm));have ai:=ai.trans (Ac cm);refine AN (_,_,_,_,_) ⟨d9,(ce.mono ai),ea,(he59_Ra0_0.mono ai),hT,h⟩
  refine Bq<|AK<|AF ?_;have h:=BW.out h cu;refine Bj<|AH (_,_,_) ⟨bc,(cj.mono ai),(he59_Ra0_0.mono ai),hT,h⟩
 have hT:=hT.trans (bk.trans bl);rintro⟨x,ba,au⟩ ev ⟨ch,ab,he39_Ra0_0,hT,h⟩;refine Bm ((List AaE)×Qq4×Qq5×Value) (fun⟨a,f,al,am⟩=>[(1,.pointer (some pa1)),(7,am)]) (fun⟨a,f,al,am⟩ wr=>DE w0 (Ha [.box b1 [va0_0] 25,.row va0_0 50 12 (a).length al] O) wr fun Oz=>AL (.int .i64) (gz H w0 wr Oz) am f/\A5 AaK (gz H w0 wr Oz) a al/\Le (fz w (Ha [.row va0_0 50 12 (a0).length xsa0_0] O)) (fz wr Oz)/\(Gk a1) a f=some r) ?_ ?_
 ·refine B1 1 Z<|A3 h fun cx h=>?_;obtain⟨_,cy,hcell129⟩:=he39_Ra0_0.at a1 _ (getD_some cx);obtain⟨_,_,rfl,rfl,⟨_,_,rfl,rfl,⟨_,_,rfl,⟨e129v2,rfl,e129h2⟩,⟨_,_,rfl,rfl,⟨_,_,rfl,rfl,⟨_,_,rfl,rfl,⟨_,_,rfl,rfl,⟨_,_,rfl,rfl,⟨_,_,rfl,rfl,⟨_,_,rfl,rfl,⟨_,_,rfl,⟨e129v10,rfl,e129h10⟩,⟨e129v11,rfl,e129h11⟩⟩⟩⟩⟩⟩⟩⟩⟩⟩⟩⟩:=cy;refine Ag (AV Z)<|Ag (Si 2 ch ag hcell129)<|Av h fun ew cz h=>A6 ch (BG (a0:=(a0.getD a1 Qq1)) _ _ (Ao ch) e129h2 e129h10 e129h11 cz) fun ex eo bd s=>Al<|Bi h ?_ ?_<;>intro c0 h
  ·refine Ek (IB Gy) (fun z0 z=>Le (gz H w0 z0 (Ha [.row ba 3 1 (x).length au,.box b1 [va0_0] 25,.row va0_0 50 12 (a0).length xsa0_0] O)) (hp z)/\z.heap[b1]? = some (.cells [va0_0].toArray 25 (0,0))) mixed Z (fun y ey cn=>?_);have q:=bd.call cn;have ac:=Bd bd cn;have b:=q.rG H;refine Gz ⟨b.trans (Ao q),q.at (i:=1) Z⟩ fun kI138=>Aw 0 y kI138 Z (fun _ _=>Ad Z) Z<|Aw 1 y kI138 Z (fun _ _=>Ad Z) Z<|Aw 4 y kI138 Z (fun _ _=>Ad Z) Z<|Q3 2 5 Z Z ?_ ?_
   ·refine A3 h fun aw h=>?_;have ab:=ab.mono (Ac (s.trans ac));refine Bf (q.KA hH (i:=0) Z (ab.mono b)) ((0:Int).toNat) (CT aw) (AD aw) ?_;rintro ez _ rfl co;refine AB ⟨b.trans (Ao q),q.at (i:=1) Z⟩ fun kI141=>Q3 3 5 Z Z ?_ ?_
    ·refine Ag (AX co (Le.refl _))<|AB ⟨b.trans (Ao q),q.at (i:=1) Z⟩ fun kI142=>A3 h fun ae h=>?_;have he39_Ra0_0:=he39_Ra0_0.mono (Ac (s.trans ac));obtain⟨_,c2,hcell143⟩:=(he39_Ra0_0.mono b).at a1 _ (getD_some ae);obtain⟨_,_,rfl,rfl,⟨_,_,rfl,rfl,⟨_,_,rfl,⟨e143v2,rfl,e143h2⟩,⟨_,_,rfl,rfl,⟨_,_,rfl,rfl,⟨_,_,rfl,rfl,⟨_,_,rfl,rfl,⟨_,_,rfl,rfl,⟨_,_,rfl,rfl,⟨_,_,rfl,rfl,⟨_,_,rfl,⟨e143v10,rfl,e143h10⟩,⟨e143v11,rfl,e143h11⟩⟩⟩⟩⟩⟩⟩⟩⟩⟩⟩⟩:=c2;refine Aw 6 y kI142 Z (fun _ _=>AV Z) Z<|Aw 7 y kI142 Z (fun _ _=>Af Z Aak Z B4.e) Z<|Q3 5 8 Z Z ?_ ?_
     ·have c3:=q.Dj hH (i:=0) Z (ab.mono b);have bn:=q.AR (i:=0) Z;refine A3 h fun ao h=>DQ c3 ao ?_;intro ed bo;have b:=b.trans (Ac (Ah (i:=0) Z));refine AB ⟨b.trans (Ao bn),bn.at (i:=0) Z⟩ fun kI149=>CK 8 Z ?_
      refine Ii 1 AaK 8 a1 (((a0.getD a1 Qq1).1,(a0.getD a1 Qq1).2.1,(a0.getD a1 Qq1).2.2.1,(a0.getD a1 Qq1).2.2.2.1,(a0.getD a1 Qq1).2.2.2.2.1,(a0.getD a1 Qq1).2.2.2.2.2.1,(a0.getD a1 Qq1).2.2.2.2.2.2.1,(a0.getD a1 Qq1).2.2.2.2.2.2.2.1,x.getD ((0:Int).toNat) Qq1,(a0.getD a1 Qq1).2.2.2.2.2.2.2.2.2.1,(a0.getD a1 Qq1).2.2.2.2.2.2.2.2.2.2.1,(a0.getD a1 Qq1).2.2.2.2.2.2.2.2.2.2.2)) bn Z (he39_Ra0_0.mono b) ag ae (fun c hc=>by obtain⟨_,_,rfl,rfl,⟨_,_,rfl,rfl,⟨_,_,rfl,⟨z150v2,rfl,z150h2⟩,⟨_,_,rfl,rfl,⟨_,_,rfl,rfl,⟨_,_,rfl,rfl,⟨_,_,rfl,rfl,⟨_,_,rfl,rfl,⟨_,_,rfl,rfl,⟨_,_,rfl,rfl,⟨_,_,rfl,⟨z150v10,rfl,z150h10⟩,⟨z150v11,rfl,z150h11⟩⟩⟩⟩⟩⟩⟩⟩⟩⟩⟩⟩:=hc;show Rp.rel AaK _ _ [.string ⟨((a0.getD a1 Qq1).1).toArray⟩,No ((a0.getD a1 Qq1).2.1),z150v2,No ((a0.getD a1 Qq1).2.2.2.1),.bool ((a0.getD a1 Qq1).2.2.2.2.1),No ((a0.getD a1 Qq1).2.2.2.2.2.1),No ((a0.getD a1 Qq1).2.2.2.2.2.2.1),No ((a0.getD a1 Qq1).2.2.2.2.2.2.2.1),No (x.getD ((0:Int).toNat) Qq1),No ((a0.getD a1 Qq1).2.2.2.2.2.2.2.2.2.1),z150v10,z150v11];exact⟨_,_,Z,Z,⟨_,_,Z,Z,⟨_,_,Z,⟨_,Z,z150h2⟩,⟨_,_,Z,Z,⟨_,_,Z,Z,⟨_,_,Z,Z,⟨_,_,Z,Z,⟨_,_,Z,Z,⟨_,_,Z,Z,⟨_,_,Z,Z,⟨_,_,Z,⟨_,Z,z150h10⟩,⟨_,Z,z150h11⟩⟩⟩⟩⟩⟩⟩⟩⟩⟩⟩⟩) ?_
      intro e0 c4 bp ax bq;have b:=b.trans (Ac ax);refine AB ⟨b.trans (Ao bp),bp.at (i:=0) Z⟩ fun kI151=>Aw 9 y kI151 Z (fun _ _=>Ad Z) Z<|Cq ?_;have hT:=hT.trans (s.trans (ac.trans ((Ah (i:=0) Z).trans ax)));have bo:=bo.mono (Ac ax);have bq:=bq.mono (Ac ax);refine AH (_,_,_,_) ⟨bp,bo,bq,hT,h⟩
     refine A3 h fun ao h=>?_
     refine Ii 2 AaK 8 a1 (((a0.getD a1 Qq1).1,(a0.getD a1 Qq1).2.1,(a0.getD a1 Qq1).2.2.1,(a0.getD a1 Qq1).2.2.2.1,(a0.getD a1 Qq1).2.2.2.2.1,(a0.getD a1 Qq1).2.2.2.2.2.1,(a0.getD a1 Qq1).2.2.2.2.2.2.1,(a0.getD a1 Qq1).2.2.2.2.2.2.2.1,x.getD ((0:Int).toNat) Qq1,(a0.getD a1 Qq1).2.2.2.2.2.2.2.2.2.1,(a0.getD a1 Qq1).2.2.2.2.2.2.2.2.2.2.1,(a0.getD a1 Qq1).2.2.2.2.2.2.2.2.2.2.2)) q Z (he39_Ra0_0.mono b) ag ae (fun c hc=>by obtain⟨_,_,rfl,rfl,⟨_,_,rfl,rfl,⟨_,_,rfl,⟨z152v2,rfl,z152h2⟩,⟨_,_,rfl,rfl,⟨_,_,rfl,rfl,⟨_,_,rfl,rfl,⟨_,_,rfl,rfl,⟨_,_,rfl,rfl,⟨_,_,rfl,rfl,⟨_,_,rfl,rfl,⟨_,_,rfl,⟨z152v10,rfl,z152h10⟩,⟨z152v11,rfl,z152h11⟩⟩⟩⟩⟩⟩⟩⟩⟩⟩⟩⟩:=hc;show Rp.rel AaK _ _ [.string ⟨((a0.getD a1 Qq1).1).toArray⟩,No ((a0.getD a1 Qq1).2.1),z152v2,No ((a0.getD a1 Qq1).2.2.2.1),.bool ((a0.getD a1 Qq1).2.2.2.2.1),No ((a0.getD a1 Qq1).2.2.2.2.2.1),No ((a0.getD a1 Qq1).2.2.2.2.2.2.1),No ((a0.getD a1 Qq1).2.2.2.2.2.2.2.1),No (x.getD ((0:Int).toNat) Qq1),No ((a0.getD a1 Qq1).2.2.2.2.2.2.2.2.2.1),z152v10,z152v11];exact⟨_,_,Z,Z,⟨_,_,Z,Z,⟨_,_,Z,⟨_,Z,z152h2⟩,⟨_,_,Z,Z,⟨_,_,Z,Z,⟨_,_,Z,Z,⟨_,_,Z,Z,⟨_,_,Z,Z,⟨_,_,Z,Z,⟨_,_,Z,Z,⟨_,_,Z,⟨_,Z,z152h10⟩,⟨_,Z,z152h11⟩⟩⟩⟩⟩⟩⟩⟩⟩⟩⟩⟩) ?_
     intro e1 c5 be bg br;have b:=b.trans (Ac bg);refine AB ⟨b.trans (Ao be),be.at (i:=1) Z⟩ fun kI153=>CK 5 Z ?_;have c6:=be.Dj hH (i:=0) Z (ab.mono b);have bs:=be.AR (i:=0) Z;refine DQ c6 ao ?_;intro ee c7;have b:=b.trans (Ac (Ah (i:=0) Z));refine AB ⟨b.trans (Ao bs),bs.at (i:=0) Z⟩ fun kI156=>Aw 9 y kI156 Z (fun _ _=>Ad Z) Z<|Cq ?_;have hT:=hT.trans (s.trans (ac.trans (bg.trans (Ah (i:=0) Z))));have br:=br.mono (Ac (bg.trans (Ah (i:=0) Z)));refine AH (_,_,_,_) ⟨bs,c7,br,hT,h⟩
    refine A3 h fun ae h=>A3 h fun ao h=>?_;have c8:=q.Dj hH (i:=0) Z (ab.mono b);have ay:=q.AR (i:=0) Z;refine DQ c8 ao ?_;intro ef bt;have b:=b.trans (Ac (Ah (i:=0) Z));refine AB ⟨b.trans (Ao ay),ay.at (i:=0) Z⟩ fun kI159=>CK 3 Z<|Ag (AX co (Le.refl _))<|AB ⟨b.trans (Ao ay),ay.at (i:=0) Z⟩ fun kI160=>?_;have he39_Ra0_0:=he39_Ra0_0.mono (Ac (s.trans ac));obtain⟨_,c9,hcell161⟩:=(he39_Ra0_0.mono b).at a1 _ (getD_some ae);obtain⟨_,_,rfl,rfl,⟨_,_,rfl,rfl,⟨_,_,rfl,⟨e161v2,rfl,e161h2⟩,⟨_,_,rfl,rfl,⟨_,_,rfl,rfl,⟨_,_,rfl,rfl,⟨_,_,rfl,rfl,⟨_,_,rfl,rfl,⟨_,_,rfl,rfl,⟨_,_,rfl,rfl,⟨_,_,rfl,⟨e161v10,rfl,e161h10⟩,⟨e161v11,rfl,e161h11⟩⟩⟩⟩⟩⟩⟩⟩⟩⟩⟩⟩:=c9;refine Aw 6 y kI160 Z (fun _ _=>AV Z) Z<|Aw 7 y kI160 Z (fun _ _=>Af Z Aak Z B4.e) Z<|CK 8 Z ?_
    refine Ii 1 AaK 8 a1 (((a0.getD a1 Qq1).1,(a0.getD a1 Qq1).2.1,(a0.getD a1 Qq1).2.2.1,(a0.getD a1 Qq1).2.2.2.1,(a0.getD a1 Qq1).2.2.2.2.1,(a0.getD a1 Qq1).2.2.2.2.2.1,(a0.getD a1 Qq1).2.2.2.2.2.2.1,(a0.getD a1 Qq1).2.2.2.2.2.2.2.1,x.getD ((0:Int).toNat) Qq1,(a0.getD a1 Qq1).2.2.2.2.2.2.2.2.2.1,(a0.getD a1 Qq1).2.2.2.2.2.2.2.2.2.2.1,(a0.getD a1 Qq1).2.2.2.2.2.2.2.2.2.2.2)) ay Z (he39_Ra0_0.mono b) ag ae (fun c hc=>by obtain⟨_,_,rfl,rfl,⟨_,_,rfl,rfl,⟨_,_,rfl,⟨z163v2,rfl,z163h2⟩,⟨_,_,rfl,rfl,⟨_,_,rfl,rfl,⟨_,_,rfl,rfl,⟨_,_,rfl,rfl,⟨_,_,rfl,rfl,⟨_,_,rfl,rfl,⟨_,_,rfl,rfl,⟨_,_,rfl,⟨z163v10,rfl,z163h10⟩,⟨z163v11,rfl,z163h11⟩⟩⟩⟩⟩⟩⟩⟩⟩⟩⟩⟩:=hc;show Rp.rel AaK _ _ [.string ⟨((a0.getD a1 Qq1).1).toArray⟩,No ((a0.getD a1 Qq1).2.1),z163v2,No ((a0.getD a1 Qq1).2.2.2.1),.bool ((a0.getD a1 Qq1).2.2.2.2.1),No ((a0.getD a1 Qq1).2.2.2.2.2.1),No ((a0.getD a1 Qq1).2.2.2.2.2.2.1),No ((a0.getD a1 Qq1).2.2.2.2.2.2.2.1),No (x.getD ((0:Int).toNat) Qq1),No ((a0.getD a1 Qq1).2.2.2.2.2.2.2.2.2.1),z163v10,z163v11];exact⟨_,_,Z,Z,⟨_,_,Z,Z,⟨_,_,Z,⟨_,Z,z163h2⟩,⟨_,_,Z,Z,⟨_,_,Z,Z,⟨_,_,Z,Z,⟨_,_,Z,Z,⟨_,_,Z,Z,⟨_,_,Z,Z,⟨_,_,Z,Z,⟨_,_,Z,⟨_,Z,z163h10⟩,⟨_,Z,z163h11⟩⟩⟩⟩⟩⟩⟩⟩⟩⟩⟩⟩) ?_
    intro e2 da bu az bv;have b:=b.trans (Ac az);refine AB ⟨b.trans (Ao bu),bu.at (i:=0) Z⟩ fun kI164=>Aw 9 y kI164 Z (fun _ _=>Ad Z) Z<|Cq ?_;have hT:=hT.trans (s.trans (ac.trans ((Ah (i:=0) Z).trans az)));have bt:=bt.mono (Ac az);have bv:=bv.mono (Ac az);refine AH (_,_,_,_) ⟨bu,bt,bv,hT,h⟩
   refine A3 h fun aw h=>A3 h fun ae h=>A3 h fun ao h=>?_;have ab:=ab.mono (Ac (s.trans ac));have cp:=q.Dj hH (i:=0) Z (ab.mono b);have aj:=q.AR (i:=0) Z;refine DQ cp ao ?_;intro eg bw;have b:=b.trans (Ac (Ah (i:=0) Z));refine AB ⟨b.trans (Ao aj),aj.at (i:=0) Z⟩ fun kI167=>CK 2 Z<|Bf cp ((0:Int).toNat) (CT aw) (AD aw) ?_;rintro e3 _ rfl db;refine AB ⟨b.trans (Ao aj),aj.at (i:=0) Z⟩ fun kI169=>CK 3 Z<|Ag (AX db (Ao aj))<|AB ⟨b.trans (Ao aj),aj.at (i:=0) Z⟩ fun kI170=>?_;have he39_Ra0_0:=he39_Ra0_0.mono (Ac (s.trans ac));obtain⟨_,dc,hcell171⟩:=(he39_Ra0_0.mono b).at a1 _ (getD_some ae);obtain⟨_,_,rfl,rfl,⟨_,_,rfl,rfl,⟨_,_,rfl,⟨e171v2,rfl,e171h2⟩,⟨_,_,rfl,rfl,⟨_,_,rfl,rfl,⟨_,_,rfl,rfl,⟨_,_,rfl,rfl,⟨_,_,rfl,rfl,⟨_,_,rfl,rfl,⟨_,_,rfl,rfl,⟨_,_,rfl,⟨e171v10,rfl,e171h10⟩,⟨e171v11,rfl,e171h11⟩⟩⟩⟩⟩⟩⟩⟩⟩⟩⟩⟩:=dc;refine Aw 6 y kI170 Z (fun _ _=>AV Z) Z ?_
   refine Aw 7 y kI170 Z (fun _ _=>Af Z Aak Z B4.e) Z<|CK 8 Z ?_
   refine Ii 1 AaK 8 a1 (((a0.getD a1 Qq1).1,(a0.getD a1 Qq1).2.1,(a0.getD a1 Qq1).2.2.1,(a0.getD a1 Qq1).2.2.2.1,(a0.getD a1 Qq1).2.2.2.2.1,(a0.getD a1 Qq1).2.2.2.2.2.1,(a0.getD a1 Qq1).2.2.2.2.2.2.1,(a0.getD a1 Qq1).2.2.2.2.2.2.2.1,x.getD ((0:Int).toNat) Qq1,(a0.getD a1 Qq1).2.2.2.2.2.2.2.2.2.1,(a0.getD a1 Qq1).2.2.2.2.2.2.2.2.2.2.1,(a0.getD a1 Qq1).2.2.2.2.2.2.2.2.2.2.2)) aj Z (he39_Ra0_0.mono b) ag ae (fun c hc=>by obtain⟨_,_,rfl,rfl,⟨_,_,rfl,rfl,⟨_,_,rfl,⟨z173v2,rfl,z173h2⟩,⟨_,_,rfl,rfl,⟨_,_,rfl,rfl,⟨_,_,rfl,rfl,⟨_,_,rfl,rfl,⟨_,_,rfl,rfl,⟨_,_,rfl,rfl,⟨_,_,rfl,rfl,⟨_,_,rfl,⟨z173v10,rfl,z173h10⟩,⟨z173v11,rfl,z173h11⟩⟩⟩⟩⟩⟩⟩⟩⟩⟩⟩⟩:=hc;show Rp.rel AaK _ _ [.string ⟨((a0.getD a1 Qq1).1).toArray⟩,No ((a0.getD a1 Qq1).2.1),z173v2,No ((a0.getD a1 Qq1).2.2.2.1),.bool ((a0.getD a1 Qq1).2.2.2.2.1),No ((a0.getD a1 Qq1).2.2.2.2.2.1),No ((a0.getD a1 Qq1).2.2.2.2.2.2.1),No ((a0.getD a1 Qq1).2.2.2.2.2.2.2.1),No (x.getD ((0:Int).toNat) Qq1),No ((a0.getD a1 Qq1).2.2.2.2.2.2.2.2.2.1),z173v10,z173v11];exact⟨_,_,Z,Z,⟨_,_,Z,Z,⟨_,_,Z,⟨_,Z,z173h2⟩,⟨_,_,Z,Z,⟨_,_,Z,Z,⟨_,_,Z,Z,⟨_,_,Z,Z,⟨_,_,Z,Z,⟨_,_,Z,Z,⟨_,_,Z,Z,⟨_,_,Z,⟨_,Z,z173h10⟩,⟨_,Z,z173h11⟩⟩⟩⟩⟩⟩⟩⟩⟩⟩⟩⟩) ?_
   intro e4 dd bx a3 bz;have b:=b.trans (Ac a3);refine AB ⟨b.trans (Ao bx),bx.at (i:=0) Z⟩ fun kI174=>Aw 9 y kI174 Z (fun _ _=>Ad Z) Z<|Cq ?_;have hT:=hT.trans (s.trans (ac.trans ((Ah (i:=0) Z).trans a3)));have bw:=bw.mono (Ac a3);have bz:=bz.mono (Ac a3);refine AH (_,_,_,_) ⟨bx,bw,bz,hT,h⟩
  refine A4 ?_;have ab:=ab.mono (Ac s);have de:=bd.Dj hH (i:=0) Z ab;have df:=bd.AR (i:=0) Z;have he39_Ra0_0:=he39_Ra0_0.mono (Ac (s.trans (Ah (i:=0) Z)));have hT:=hT.trans (s.trans (Ah (i:=0) Z));refine AH (_,_,_,_) ⟨df,de,he39_Ra0_0,hT,h⟩
 rintro⟨a,f,al,am⟩ ep ⟨b0,g,k,hT,h⟩;refine Bm ((List AaE)×Qq4×Qq5×Value) (fun⟨p,aq,a4,an⟩=>[(1,.pointer (some pa1)),(7,an)]) (fun⟨p,aq,a4,an⟩ wr=>DE w0 (Ha [.box b1 [va0_0] 25,.row va0_0 50 12 (p).length a4] O) wr fun Oz=>AL (.int .i64) (gz H w0 wr Oz) an aq/\A5 AaK (gz H w0 wr Oz) p a4/\Le (fz w (Ha [.row va0_0 50 12 (a0).length xsa0_0] O)) (fz wr Oz)/\(Gj a1) p aq=some r) ?_ ?_
 ·refine B1 1 Z<|A3 h fun dg h=>?_;obtain⟨_,dh,hcell226⟩:=k.at a1 _ (getD_some dg);obtain⟨_,_,rfl,rfl,⟨_,_,rfl,rfl,⟨_,_,rfl,⟨e226v2,rfl,e226h2⟩,⟨_,_,rfl,rfl,⟨_,_,rfl,rfl,⟨_,_,rfl,rfl,⟨_,_,rfl,rfl,⟨_,_,rfl,rfl,⟨_,_,rfl,rfl,⟨_,_,rfl,rfl,⟨_,_,rfl,⟨e226v10,rfl,e226h10⟩,⟨e226v11,rfl,e226h11⟩⟩⟩⟩⟩⟩⟩⟩⟩⟩⟩⟩:=dh;refine Ag (AV Z)<|Ag (Si 1 b0 ag hcell226)<|Av h fun e5 di h=>A6 b0 (By (a0:=(a.getD a1 Qq1)) _ _ (Ao b0) e226h2 e226h10 e226h11 di) fun e6 eq b2 u=>Al<|Bi h ?_ ?_<;>intro dj h
  ·refine Ek (IB Gy) (fun z0 z=>Le (gz H w0 z0 (Ha [.box b1 [va0_0] 25,.row va0_0 50 12 (a).length al] O)) (hp z)/\z.heap[b1]? = some (.cells [va0_0].toArray 25 (0,0))) mixed Z (fun aa e7 cq=>?_);have e:=b2.call cq;have ad:=Bd b2 cq;have d:=e.rG H;refine Gz ⟨d.trans (Ao e),e.at (i:=0) Z⟩ fun kI235=>Aw 0 aa kI235 Z (fun _ _=>Ad Z) Z<|Aw 1 aa kI235 Z (fun _ _=>Ad Z) Z<|Aw 4 aa kI235 Z (fun _ _=>Ad Z) Z<|Q3 2 5 Z Z ?_ ?_
   ·refine A3 h fun a5 h=>?_;have g:=g.mono (Ac (u.trans ad));refine Bf (g.mono d) ((0:Int).toNat) (CT a5) (AD a5) ?_;rintro e8 _ rfl cr;refine AB ⟨d.trans (Ao e),e.at (i:=0) Z⟩ fun kI238=>Q3 3 5 Z Z ?_ ?_
    ·refine Ag (AX cr (Ao e))<|AB ⟨d.trans (Ao e),e.at (i:=0) Z⟩ fun kI239=>A3 h fun af h=>?_;have k:=k.mono (Ac (u.trans ad));obtain⟨_,dk,hcell240⟩:=(k.mono d).at a1 _ (getD_some af);obtain⟨_,_,rfl,rfl,⟨_,_,rfl,rfl,⟨_,_,rfl,⟨e240v2,rfl,e240h2⟩,⟨_,_,rfl,rfl,⟨_,_,rfl,rfl,⟨_,_,rfl,rfl,⟨_,_,rfl,rfl,⟨_,_,rfl,rfl,⟨_,_,rfl,rfl,⟨_,_,rfl,rfl,⟨_,_,rfl,⟨e240v10,rfl,e240h10⟩,⟨e240v11,rfl,e240h11⟩⟩⟩⟩⟩⟩⟩⟩⟩⟩⟩⟩:=dk;refine Aw 6 aa kI239 Z (fun _ _=>AV Z) Z<|Aw 7 aa kI239 Z (fun _ _=>Af Z Aak Z B4.e) Z<|Q3 5 8 Z Z ?_ ?_
     ·refine A3 h fun ap h=>DQ (g.mono d) ap fun eh b3=>AB ⟨d.trans (Ao e),e.at (i:=0) Z⟩ fun kI245=>CK 8 Z ?_
      refine Ii 1 AaK 9 a1 (((a.getD a1 Qq1).1,(a.getD a1 Qq1).2.1,(a.getD a1 Qq1).2.2.1,(a.getD a1 Qq1).2.2.2.1,(a.getD a1 Qq1).2.2.2.2.1,(a.getD a1 Qq1).2.2.2.2.2.1,(a.getD a1 Qq1).2.2.2.2.2.2.1,(a.getD a1 Qq1).2.2.2.2.2.2.2.1,(a.getD a1 Qq1).2.2.2.2.2.2.2.2.1,f.getD ((0:Int).toNat) Qq1,(a.getD a1 Qq1).2.2.2.2.2.2.2.2.2.2.1,(a.getD a1 Qq1).2.2.2.2.2.2.2.2.2.2.2)) e Z (k.mono d) ag af (fun c hc=>by obtain⟨_,_,rfl,rfl,⟨_,_,rfl,rfl,⟨_,_,rfl,⟨z246v2,rfl,z246h2⟩,⟨_,_,rfl,rfl,⟨_,_,rfl,rfl,⟨_,_,rfl,rfl,⟨_,_,rfl,rfl,⟨_,_,rfl,rfl,⟨_,_,rfl,rfl,⟨_,_,rfl,rfl,⟨_,_,rfl,⟨z246v10,rfl,z246h10⟩,⟨z246v11,rfl,z246h11⟩⟩⟩⟩⟩⟩⟩⟩⟩⟩⟩⟩:=hc;show Rp.rel AaK _ _ [.string ⟨((a.getD a1 Qq1).1).toArray⟩,No ((a.getD a1 Qq1).2.1),z246v2,No ((a.getD a1 Qq1).2.2.2.1),.bool ((a.getD a1 Qq1).2.2.2.2.1),No ((a.getD a1 Qq1).2.2.2.2.2.1),No ((a.getD a1 Qq1).2.2.2.2.2.2.1),No ((a.getD a1 Qq1).2.2.2.2.2.2.2.1),No ((a.getD a1 Qq1).2.2.2.2.2.2.2.2.1),No (f.getD ((0:Int).toNat) Qq1),z246v10,z246v11];exact⟨_,_,Z,Z,⟨_,_,Z,Z,⟨_,_,Z,⟨_,Z,z246h2⟩,⟨_,_,Z,Z,⟨_,_,Z,Z,⟨_,_,Z,Z,⟨_,_,Z,Z,⟨_,_,Z,Z,⟨_,_,Z,Z,⟨_,_,Z,Z,⟨_,_,Z,⟨_,Z,z246h10⟩,⟨_,Z,z246h11⟩⟩⟩⟩⟩⟩⟩⟩⟩⟩⟩⟩) ?_
      intro e9 dl b4 a6 b5;have d:=d.trans (Ac a6);refine AB ⟨d.trans (Ao b4),b4.at (i:=0) Z⟩ fun kI247=>Aw 9 aa kI247 Z (fun _ _=>Ad Z) Z<|Cq ?_;have hT:=hT.trans (u.trans (ad.trans a6));have b3:=b3.mono (Ac a6);have b5:=b5.mono (Ac a6);refine AH (_,_,_,_) ⟨b4,b3,b5,hT,h⟩
     refine A3 h fun ap h=>?_
     refine Ii 1 AaK 9 a1 (((a.getD a1 Qq1).1,(a.getD a1 Qq1).2.1,(a.getD a1 Qq1).2.2.1,(a.getD a1 Qq1).2.2.2.1,(a.getD a1 Qq1).2.2.2.2.1,(a.getD a1 Qq1).2.2.2.2.2.1,(a.getD a1 Qq1).2.2.2.2.2.2.1,(a.getD a1 Qq1).2.2.2.2.2.2.2.1,(a.getD a1 Qq1).2.2.2.2.2.2.2.2.1,f.getD ((0:Int).toNat) Qq1,(a.getD a1 Qq1).2.2.2.2.2.2.2.2.2.2.1,(a.getD a1 Qq1).2.2.2.2.2.2.2.2.2.2.2)) e Z (k.mono d) ag af (fun c hc=>by obtain⟨_,_,rfl,rfl,⟨_,_,rfl,rfl,⟨_,_,rfl,⟨z248v2,rfl,z248h2⟩,⟨_,_,rfl,rfl,⟨_,_,rfl,rfl,⟨_,_,rfl,rfl,⟨_,_,rfl,rfl,⟨_,_,rfl,rfl,⟨_,_,rfl,rfl,⟨_,_,rfl,rfl,⟨_,_,rfl,⟨z248v10,rfl,z248h10⟩,⟨z248v11,rfl,z248h11⟩⟩⟩⟩⟩⟩⟩⟩⟩⟩⟩⟩:=hc;show Rp.rel AaK _ _ [.string ⟨((a.getD a1 Qq1).1).toArray⟩,No ((a.getD a1 Qq1).2.1),z248v2,No ((a.getD a1 Qq1).2.2.2.1),.bool ((a.getD a1 Qq1).2.2.2.2.1),No ((a.getD a1 Qq1).2.2.2.2.2.1),No ((a.getD a1 Qq1).2.2.2.2.2.2.1),No ((a.getD a1 Qq1).2.2.2.2.2.2.2.1),No ((a.getD a1 Qq1).2.2.2.2.2.2.2.2.1),No (f.getD ((0:Int).toNat) Qq1),z248v10,z248v11];exact⟨_,_,Z,Z,⟨_,_,Z,Z,⟨_,_,Z,⟨_,Z,z248h2⟩,⟨_,_,Z,Z,⟨_,_,Z,Z,⟨_,_,Z,Z,⟨_,_,Z,Z,⟨_,_,Z,Z,⟨_,_,Z,Z,⟨_,_,Z,Z,⟨_,_,Z,⟨_,Z,z248h10⟩,⟨_,Z,z248h11⟩⟩⟩⟩⟩⟩⟩⟩⟩⟩⟩⟩) ?_
     intro fa dm a7 bh b6;have d:=d.trans (Ac bh);refine AB ⟨d.trans (Ao a7),a7.at (i:=0) Z⟩ fun kI249=>CK 5 Z<|DQ (g.mono d) ap fun ei dn=>AB ⟨d.trans (Ao a7),a7.at (i:=0) Z⟩ fun kI251=>Aw 9 aa kI251 Z (fun _ _=>Ad Z) Z<|Cq ?_;have hT:=hT.trans (u.trans (ad.trans bh));have b6:=b6.mono (Ac bh);refine AH (_,_,_,_) ⟨a7,dn,b6,hT,h⟩
    refine A3 h fun af h=>A3 h fun ap h=>DQ (g.mono d) ap fun ej b7=>AB ⟨d.trans (Ao e),e.at (i:=0) Z⟩ fun kI253=>CK 3 Z<|Ag (AX cr (Ao e))<|AB ⟨d.trans (Ao e),e.at (i:=0) Z⟩ fun kI254=>?_;have k:=k.mono (Ac (u.trans ad));obtain⟨_,dp,hcell255⟩:=(k.mono d).at a1 _ (getD_some af);obtain⟨_,_,rfl,rfl,⟨_,_,rfl,rfl,⟨_,_,rfl,⟨e255v2,rfl,e255h2⟩,⟨_,_,rfl,rfl,⟨_,_,rfl,rfl,⟨_,_,rfl,rfl,⟨_,_,rfl,rfl,⟨_,_,rfl,rfl,⟨_,_,rfl,rfl,⟨_,_,rfl,rfl,⟨_,_,rfl,⟨e255v10,rfl,e255h10⟩,⟨e255v11,rfl,e255h11⟩⟩⟩⟩⟩⟩⟩⟩⟩⟩⟩⟩:=dp;refine Aw 6 aa kI254 Z (fun _ _=>AV Z) Z<|Aw 7 aa kI254 Z (fun _ _=>Af Z Aak Z B4.e) Z<|CK 8 Z ?_
    refine Ii 1 AaK 9 a1 (((a.getD a1 Qq1).1,(a.getD a1 Qq1).2.1,(a.getD a1 Qq1).2.2.1,(a.getD a1 Qq1).2.2.2.1,(a.getD a1 Qq1).2.2.2.2.1,(a.getD a1 Qq1).2.2.2.2.2.1,(a.getD a1 Qq1).2.2.2.2.2.2.1,(a.getD a1 Qq1).2.2.2.2.2.2.2.1,(a.getD a1 Qq1).2.2.2.2.2.2.2.2.1,f.getD ((0:Int).toNat) Qq1,(a.getD a1 Qq1).2.2.2.2.2.2.2.2.2.2.1,(a.getD a1 Qq1).2.2.2.2.2.2.2.2.2.2.2)) e Z (k.mono d) ag af (fun c hc=>by obtain⟨_,_,rfl,rfl,⟨_,_,rfl,rfl,⟨_,_,rfl,⟨z257v2,rfl,z257h2⟩,⟨_,_,rfl,rfl,⟨_,_,rfl,rfl,⟨_,_,rfl,rfl,⟨_,_,rfl,rfl,⟨_,_,rfl,rfl,⟨_,_,rfl,rfl,⟨_,_,rfl,rfl,⟨_,_,rfl,⟨z257v10,rfl,z257h10⟩,⟨z257v11,rfl,z257h11⟩⟩⟩⟩⟩⟩⟩⟩⟩⟩⟩⟩:=hc;show Rp.rel AaK _ _ [.string ⟨((a.getD a1 Qq1).1).toArray⟩,No ((a.getD a1 Qq1).2.1),z257v2,No ((a.getD a1 Qq1).2.2.2.1),.bool ((a.getD a1 Qq1).2.2.2.2.1),No ((a.getD a1 Qq1).2.2.2.2.2.1),No ((a.getD a1 Qq1).2.2.2.2.2.2.1),No ((a.getD a1 Qq1).2.2.2.2.2.2.2.1),No ((a.getD a1 Qq1).2.2.2.2.2.2.2.2.1),No (f.getD ((0:Int).toNat) Qq1),z257v10,z257v11];exact⟨_,_,Z,Z,⟨_,_,Z,Z,⟨_,_,Z,⟨_,Z,z257h2⟩,⟨_,_,Z,Z,⟨_,_,Z,Z,⟨_,_,Z,Z,⟨_,_,Z,Z,⟨_,_,Z,Z,⟨_,_,Z,Z,⟨_,_,Z,Z,⟨_,_,Z,⟨_,Z,z257h10⟩,⟨_,Z,z257h11⟩⟩⟩⟩⟩⟩⟩⟩⟩⟩⟩⟩) ?_
    intro fb dq b8 a8 b9;have d:=d.trans (Ac a8);refine AB ⟨d.trans (Ao b8),b8.at (i:=0) Z⟩ fun kI258=>Aw 9 aa kI258 Z (fun _ _=>Ad Z) Z<|Cq ?_;have hT:=hT.trans (u.trans (ad.trans a8));have b7:=b7.mono (Ac a8);have b9:=b9.mono (Ac a8);refine AH (_,_,_,_) ⟨b8,b7,b9,hT,h⟩
   refine A3 h fun a5 h=>A3 h fun af h=>A3 h fun ap h=>?_;have g:=g.mono (Ac (u.trans ad));refine DQ (g.mono d) ap fun ek ca=>AB ⟨d.trans (Ao e),e.at (i:=0) Z⟩ fun kI260=>CK 2 Z<|Bf (g.mono d) ((0:Int).toNat) (CT a5) (AD a5) ?_;rintro fc _ rfl dr;refine AB ⟨d.trans (Ao e),e.at (i:=0) Z⟩ fun kI262=>CK 3 Z<|Ag (AX dr (Ao e))<|AB ⟨d.trans (Ao e),e.at (i:=0) Z⟩ fun kI263=>?_;have k:=k.mono (Ac (u.trans ad));obtain⟨_,ds,hcell264⟩:=(k.mono d).at a1 _ (getD_some af);obtain⟨_,_,rfl,rfl,⟨_,_,rfl,rfl,⟨_,_,rfl,⟨e264v2,rfl,e264h2⟩,⟨_,_,rfl,rfl,⟨_,_,rfl,rfl,⟨_,_,rfl,rfl,⟨_,_,rfl,rfl,⟨_,_,rfl,rfl,⟨_,_,rfl,rfl,⟨_,_,rfl,rfl,⟨_,_,rfl,⟨e264v10,rfl,e264h10⟩,⟨e264v11,rfl,e264h11⟩⟩⟩⟩⟩⟩⟩⟩⟩⟩⟩⟩:=ds;refine Aw 6 aa kI263 Z (fun _ _=>AV Z) Z<|Aw 7 aa kI263 Z (fun _ _=>Af Z Aak Z B4.e) Z<|CK 8 Z ?_
   refine Ii 1 AaK 9 a1 (((a.getD a1 Qq1).1,(a.getD a1 Qq1).2.1,(a.getD a1 Qq1).2.2.1,(a.getD a1 Qq1).2.2.2.1,(a.getD a1 Qq1).2.2.2.2.1,(a.getD a1 Qq1).2.2.2.2.2.1,(a.getD a1 Qq1).2.2.2.2.2.2.1,(a.getD a1 Qq1).2.2.2.2.2.2.2.1,(a.getD a1 Qq1).2.2.2.2.2.2.2.2.1,f.getD ((0:Int).toNat) Qq1,(a.getD a1 Qq1).2.2.2.2.2.2.2.2.2.2.1,(a.getD a1 Qq1).2.2.2.2.2.2.2.2.2.2.2)) e Z (k.mono d) ag af (fun c hc=>by obtain⟨_,_,rfl,rfl,⟨_,_,rfl,rfl,⟨_,_,rfl,⟨z266v2,rfl,z266h2⟩,⟨_,_,rfl,rfl,⟨_,_,rfl,rfl,⟨_,_,rfl,rfl,⟨_,_,rfl,rfl,⟨_,_,rfl,rfl,⟨_,_,rfl,rfl,⟨_,_,rfl,rfl,⟨_,_,rfl,⟨z266v10,rfl,z266h10⟩,⟨z266v11,rfl,z266h11⟩⟩⟩⟩⟩⟩⟩⟩⟩⟩⟩⟩:=hc;show Rp.rel AaK _ _ [.string ⟨((a.getD a1 Qq1).1).toArray⟩,No ((a.getD a1 Qq1).2.1),z266v2,No ((a.getD a1 Qq1).2.2.2.1),.bool ((a.getD a1 Qq1).2.2.2.2.1),No ((a.getD a1 Qq1).2.2.2.2.2.1),No ((a.getD a1 Qq1).2.2.2.2.2.2.1),No ((a.getD a1 Qq1).2.2.2.2.2.2.2.1),No ((a.getD a1 Qq1).2.2.2.2.2.2.2.2.1),No (f.getD ((0:Int).toNat) Qq1),z266v10,z266v11];exact⟨_,_,Z,Z,⟨_,_,Z,Z,⟨_,_,Z,⟨_,Z,z266h2⟩,⟨_,_,Z,Z,⟨_,_,Z,Z,⟨_,_,Z,Z,⟨_,_,Z,Z,⟨_,_,Z,Z,⟨_,_,Z,Z,⟨_,_,Z,Z,⟨_,_,Z,⟨_,Z,z266h10⟩,⟨_,Z,z266h11⟩⟩⟩⟩⟩⟩⟩⟩⟩⟩⟩⟩) ?_
   intro fd dt cb a9 cc;have d:=d.trans (Ac a9);refine AB ⟨d.trans (Ao cb),cb.at (i:=0) Z⟩ fun kI267=>Aw 9 aa kI267 Z (fun _ _=>Ad Z) Z<|Cq ?_;have hT:=hT.trans (u.trans (ad.trans a9));have ca:=ca.mono (Ac a9);have cc:=cc.mono (Ac a9);refine AH (_,_,_,_) ⟨cb,ca,cc,hT,h⟩
  refine A4 ?_;have g:=g.mono (Ac u);have k:=k.mono (Ac u);have hT:=hT.trans u;refine AH (_,_,_,_) ⟨b2,g,k,hT,h⟩
 rintro⟨p,aq,a4,an⟩ er ⟨du,bi,cf,hT,h⟩;refine B1 2 Z<|A3 h fun cs h=>?_;obtain⟨_,dv,hcell270⟩:=cf.at a1 _ (getD_some cs);obtain⟨_,_,rfl,rfl,⟨_,_,rfl,rfl,⟨_,_,rfl,⟨e270v2,rfl,e270h2⟩,⟨_,_,rfl,rfl,⟨_,_,rfl,rfl,⟨_,_,rfl,rfl,⟨_,_,rfl,rfl,⟨_,_,rfl,rfl,⟨_,_,rfl,rfl,⟨_,_,rfl,rfl,⟨_,_,rfl,⟨e270v10,rfl,e270h10⟩,⟨e270v11,rfl,e270h11⟩⟩⟩⟩⟩⟩⟩⟩⟩⟩⟩⟩:=dv;refine Ag (AV Z)<|Ag (Af Z Aak Z E4.e) ?_
 refine Ii 1 AaK 11 a1 (((p.getD a1 Qq1).1,(p.getD a1 Qq1).2.1,(p.getD a1 Qq1).2.2.1,(p.getD a1 Qq1).2.2.2.1,(p.getD a1 Qq1).2.2.2.2.1,(p.getD a1 Qq1).2.2.2.2.2.1,(p.getD a1 Qq1).2.2.2.2.2.2.1,(p.getD a1 Qq1).2.2.2.2.2.2.2.1,(p.getD a1 Qq1).2.2.2.2.2.2.2.2.1,(p.getD a1 Qq1).2.2.2.2.2.2.2.2.2.1,(p.getD a1 Qq1).2.2.2.2.2.2.2.2.2.2.1,aq)) (hv:=⟨bi.one⟩) du Z cf ag cs (fun c hc=>by obtain⟨_,_,rfl,rfl,⟨_,_,rfl,rfl,⟨_,_,rfl,⟨z273v2,rfl,z273h2⟩,⟨_,_,rfl,rfl,⟨_,_,rfl,rfl,⟨_,_,rfl,rfl,⟨_,_,rfl,rfl,⟨_,_,rfl,rfl,⟨_,_,rfl,rfl,⟨_,_,rfl,rfl,⟨_,_,rfl,⟨z273v10,rfl,z273h10⟩,⟨z273v11,rfl,z273h11⟩⟩⟩⟩⟩⟩⟩⟩⟩⟩⟩⟩:=hc;show Rp.rel AaK _ _ [.string ⟨((p.getD a1 Qq1).1).toArray⟩,No ((p.getD a1 Qq1).2.1),z273v2,No ((p.getD a1 Qq1).2.2.2.1),.bool ((p.getD a1 Qq1).2.2.2.2.1),No ((p.getD a1 Qq1).2.2.2.2.2.1),No ((p.getD a1 Qq1).2.2.2.2.2.2.1),No ((p.getD a1 Qq1).2.2.2.2.2.2.2.1),No ((p.getD a1 Qq1).2.2.2.2.2.2.2.2.1),No ((p.getD a1 Qq1).2.2.2.2.2.2.2.2.2.1),z273v10,an];exact⟨_,_,Z,Z,⟨_,_,Z,Z,⟨_,_,Z,⟨_,Z,z273h2⟩,⟨_,_,Z,Z,⟨_,_,Z,Z,⟨_,_,Z,Z,⟨_,_,Z,Z,⟨_,_,Z,Z,⟨_,_,Z,Z,⟨_,_,Z,Z,⟨_,_,Z,⟨_,Z,z273h10⟩,⟨_,Z,bi⟩⟩⟩⟩⟩⟩⟩⟩⟩⟩⟩⟩) ?_
 intro fe dw dx cg cd;refine Al<|AI 1 Z<|Au ?_
 cases h
 refine Aj Z ?_;have dy:=dx.AR (i:=0) Z;have cd:=cd.mono (Ac (cg.trans (Ah (i:=0) Z)));have hT:=hT.trans (cg.trans (Ah (i:=0) Z));exact⟨dw,Z,dy,hT,cd⟩
def Jf(a:List AaE):Option (((List AaE))×Qq6):=
 Qq8 (Dz a) (fun b=>if b.1=0/\b.2=0 then some (a,(0,0))else none)
def I0(d:List (List Aae))(e:List AaE):(List AaE)×Int->Option (((List AaE)×Int)⊕(((List AaE))×Qq6)):=fun⟨b,a⟩=>
 if a<(e.length:Int)then Bb (0<=a/\a<(b.length:Int)) (Bb (0<=a/\a<(d.length:Int)) (Qq8 (JC b a.toNat (d.getD a.toNat Qq1)) (fun c=>if !c.1 then none else Bb (BH (a+1)) (some (Sum.inl (c.2,(a+1)))))))else Qzq Sum.inr (Jf b)
def KK(a:List (List Aae))(b:List AaE)(s:(List AaE)×Int):Option (((List AaE))×Qq6):=Go.L.run (I0 a b) s
def Jg(b:List (List Aae))(a:List AaE):Option (((List AaE))×Qq6):=
 (KK b a) (a,0)
def I1:(List (List Aae))×(List AaE)×Aae×Int->Option (((List (List Aae))×(List AaE)×Aae×Int)⊕(((List AaE))×Qq6)):=fun⟨d,e,b,c⟩=>
 if b=([]:Aae)then Qzq Sum.inr (Jg d e)else Qq8 (K1 b ([10]:Aae)) (fun f=>Qq8 (Jb f.1) (fun a=>if(bif !a.2.2 then true else !f.2.2)then none else Bb (Go.E.Gx 152 (e.length+([a.1]).length)) (Bb (Go.E.Gx 24 (d.length+([a.2.1]).length)) (Bb (BH (c+1)) (some (Sum.inl ((d++[a.2.1]),(e++[a.1]),f.2.1,(c+1))))))))
def KL(s:(List (List Aae))×(List AaE)×Aae×Int):Option (((List AaE))×Qq6):=Go.L.run I1 s
def I2(a0:Aae):Option (((List AaE))×Qq6):=
 if 2000<(a0.length:Int)then none else KL (([]:List (List Aae)),([]:List AaE),a0,0)
section
variable(w:World)(H:PH)(hH:Le H (hp w)) include hH
theorem Px(hU:Jm H){a0:Aae}{r:((List AaE))×Qq6}(h:I2 a0=some r):
  Qqv 4 [Aad a0] w (fun v w'=>∃u0,v=.tuple #[.agg #[u0],.agg #[No r.2.1,No r.2.2]]/\Cv 50 AaK H w w' u0 (r.1)):=by
 refine AG 86 [(0,(Aad a0))] func4 Z fun hL=>Aq<|AZ HQ.e Z hL fun w1 b1 dc ds _=>AZ BB.e Z dc fun w2 b2 dd dt _=>Al<|AM<|B1 1 Z<|Ag (Lm Z)<|A1 1 Z<|AS h ?_ ?_<;>intro de h
 ·cases h
 refine A4<|A2<|Aq<|AZ HQ.e Z dd fun w6 b6 df du _=>Al<|B1 1 Z ?_;obtain⟨dg,dv,br⟩:=CF (.vec .st) H 31 df;refine Al<|Bm ((List (List Aae))×(List AaE)×Value×Qq5×Value×Qq5) (fun⟨o,an,p,d,j,ac⟩=>[(2,(Aac b1)),(3,(Aac b2)),(4,(Aac b6)),(5,p)]) (fun⟨o,an,p,d,j,ac⟩ wr=>DE w [.row j 50 12 (an).length ac,.row p 31 1 (o).length d,.box b6 [j] 25,.box b2 [No 0,No 0] 27,.box b1 [Aaa] 25] wr fun Oz=>A5 AaK (gz H w wr Oz) an ac/\A5 (.vec .st) (gz H w wr Oz) o d/\Jg o an=some r) ?_ ?_
 ·refine AI 1 Z<|A8 ?_;obtain⟨c3,b7,c4⟩:=CF AaK H 50 dg;obtain⟨bs,h⟩:=Bc h;have br:=br.mono (Ac b7)
  refine Bz ((List (List Aae))×(List AaE)×Aae×Int×Value×Qq5×Value×Qq5×Nat) (fun⟨ad,ae,af,t,aj,u,ak,x,n⟩=>[(0,(Aad af)),(2,(Aac b1)),(3,(Aac b2)),(4,(Aac b6)),(5,aj),(6,No t)]) (fun⟨ad,ae,af,t,aj,u,ak,x,n⟩ wr=>DE w [.row ak 50 12 (ae).length x,.row aj 31 1 (ad).length u,.box b6 [ak] 25,.box b2 [No 0,No 0] 27,.box b1 [Aaa] 25] wr fun Oz=>A5 AaK (gz H w wr Oz) ae x/\A5 (.vec .st) (gz H w wr Oz) ad u/\FW I1 n (ad,ae,af,t)=some r) (fun⟨ad,ae,af,t,aj,u,ak,x,n⟩=>n) (([]:List (List Aae)),([]:List AaE),a0,0,Aaa,[],Aaa,[],bs) Z ⟨c3,c4,br,h⟩ ?_
  rintro⟨ad,ae,af,t,aj,u,ak,x,nn92⟩ dw ⟨bd,ao,ap,h⟩;obtain⟨bs,en,rfl,h,bt⟩:=Ba h;refine AM<|B1 1 Z<|Ag (NN Z Z)<|Al<|DP h ?_ ?_<;>intro c5 h
  ·refine A4<|A2<|AM<|A8<|B1 1 Z<|Av h fun dh c6 h=>A6 bd (Ny _ _ (Ao bd) c6) fun eo dx al bg=>A1 7 Z<|B1 1 Z<|Av h fun ay c7 h=>Bv al (Oe _ _ (Ao al) (hU.mono  Ai) c7) ?_;rintro _ dy ⟨di,dj,dk,dl,rfl,bm,bn,bo,bp⟩ aq b8 a9;have y:=bm.Dj hH al aq;have z:=bn.Dj hH al aq;have aa:=bo.Dj hH al aq;have ab:=bp.Dj hH al aq;refine Ar 4 Z<|AZ Bl.e Z b8 fun dz d0 b9 e _=>A7 0 Z b9 Z (h1:=(BP Z (BP Z (BP y.one (Uw 7 Z (BP z.one (BP aa.one Mx))))))) fun d1 ar f=>A1 2 Z<|AM ?_;have b:=ar.rG H;refine B1 3 Z<|Jz 2 2 Z Z Z Z Z Z Z<|Al<|Bi h ?_ ?_<;>intro ca h
   ·cases h
   refine A4<|A2<|Az<|Ag (Af Z Aas Z Ho.e)<|Ag (Ae 3 Z ar Z)<|Ag (Ax 0 Z Bl.e ar Z) ?_;have y:=y.mono (Ac (e.trans f));have z:=z.mono (Ac (e.trans f));have aa:=aa.mono (Ac (e.trans f));refine BV [ay.1] (r:=AaK) (fun _=>W3 _ _ _ _ _ _ _ _ _ _ _ _ _) ar (.c12 ⟨_,_,Z,Z,⟨_,_,Z,Z,⟨_,_,Z,⟨_,Z,(y.mono b)⟩,⟨_,_,Z,Z,⟨_,_,Z,Z,⟨_,_,Z,Z,⟨_,_,Z,Z,⟨_,_,Z,Z,⟨_,_,Z,Z,⟨_,_,Z,Z,⟨_,_,Z,⟨_,Z,(z.mono b)⟩,⟨_,Z,(aa.mono b)⟩⟩⟩⟩⟩⟩⟩⟩⟩⟩⟩⟩ .nil) fun d2 d3 dm cb bu cc=>A3 h fun cd h=>?_;have ao:=ao.mono (Ac (bg.trans (a9.trans (e.trans f))));have b:=b.trans (Ac bu)
   refine BL (r:=AaK) 1 ae [ay.1] Z Aat cb Z (ao.mono b) cc cd fun c8 d4 ce cf bv a5=>Ar 2 Z ?_;have ab:=ab.mono (Ac (e.trans f));have b:=b.trans (Ac bv);refine BV [ay.2.1] (r:=(.vec .st)) (fun _=>WA _ (ab.mono b).one _) cf (.c1 ⟨_,Z,(ab.mono b)⟩ .nil) fun d5 d6 dn cg ba ch=>A3 h fun ci h=>?_;have ap:=ap.mono (Ac (bg.trans (a9.trans (e.trans f))));have b:=b.trans (Ac ba);refine BL (r:=(.vec .st)) 2 ad [ay.2.1] Z Aay cg Z (ap.mono b) ch ci fun c9 d7 cj bh bw a6=>Ar 1 Z<|Ag (Af Z Aas Z Ho.e)<|AY 3 Z Z (row_one (bh.at (i:=1) Z)) bh Z Z fun d8 ck bb=>Ar 2 Z<|AP<|A9<|A2<|Az<|Ar 1 Z<|A3 h fun cl h=>?_
   refine Ag (AA cl)<|Ar 1 Z<|AP ?_;have cm:=ck.AR (i:=0) Z;have h:=BW.again h bt;have a5:=a5.mono (Ac (ba.trans (bw.trans (bb.trans (Ah (i:=0) Z)))));have a6:=a6.mono (Ac (bb.trans (Ah (i:=0) Z)));refine AN ((ad++[ay.2.1]),(ae++[ay.1]),dh.2.1,(t+1),c9,cj,c8,ce,bs) ⟨cm,a5,a6,h⟩
  refine Bq<|AK<|AF ?_;have h:=BW.out h bt;refine Bj<|AH (ad,ae,aj,u,ak,x) ⟨bd,ao,ap,h⟩
 rintro⟨o,an,p,d,j,ac⟩ d9 ⟨be,cn,c,h⟩;refine Bm ((List AaE)×Qq5) (fun⟨am,ag⟩=>[(2,(Aac b1)),(3,(Aac b2)),(4,(Aac b6))]) (fun⟨am,ag⟩ wr=>DE w [.row j 50 12 (am).length ag,.row p 31 1 (o).length d,.box b6 [j] 25,.box b2 [No 0,No 0] 27,.box b1 [Aaa] 25] wr fun Oz=>A5 AaK (gz H w wr Oz) am ag/\A5 (.vec .st) (gz H w wr Oz) o d/\Jf am=some r) ?_ ?_
 ·refine Aq<|Ag (Af Z Aas Z Ho.e)<|Ag (Ae 2 Z be Z)<|Ag (Ng 0 Z be Z)<|A1 1 Z<|A8 ?_;obtain⟨bf,h⟩:=Bc h;refine Bz ((List AaE)×Int×Qq5×Nat) (fun⟨s,a,g,n⟩=>[(2,(Aac b1)),(3,(Aac b2)),(4,(Aac b6)),(5,p),(58,No (an.length:Int)),(59,No a)]) (fun⟨s,a,g,n⟩ wr=>DE w [.row j 50 12 (s).length g,.row p 31 1 (o).length d,.box b6 [j] 25,.box b2 [No 0,No 0] 27,.box b1 [Aaa] 25] wr fun Oz=>A5 AaK (gz H w wr Oz) s g/\A5 (.vec .st) (gz H w wr Oz) o d/\FW (I0 o an) n (s,a)=some r) (fun⟨s,a,g,n⟩=>n) (an,0,ac,bf) Z ⟨be,cn,c,h⟩ ?_;rintro⟨s,a,g,nn180⟩ dp ⟨a7,ah,c,h⟩;obtain⟨bf,ea,rfl,h,bi⟩:=Ba h
  refine AI 1 Z<|AM<|AS h ?_ ?_<;>intro co h
  ·refine A4<|A2<|AM<|A8<|AI 2 Z<|CI (Qqz 0 9 (.tail 9)) mixed V (fun eb bj=>?_);have k:=a7.call bj;have bc:=Bd a7 bj;refine B9 Z (Ax 2 Z HQ.e k Z) Z<|B9 Z (Af Z Aas Z Ho.e) Z<|B9 Z (Ae 2 Z k Z) Z<|BJ 1 Z<|A3 h fun bk h=>Oq 0 Z Z Z Aat Bl.e k Z a.toNat (CT bk) (AD bk) Z fun ec cp=>BJ 2 Z<|A3 h fun a8 h=>Oq 1 Z Z Z Aay Cx.e k Z a.toNat (CT a8) (AD a8) Z ?_;intro ed cq;have c:=c.mono (Ac bc);obtain⟨_,cr,hcell188⟩:=c.at a.toNat _ (getD_some ((AD a8)));obtain⟨e188v0,rfl,e188h0⟩:=cr;refine B9 Z (Ie 1 k cq (hcell188 0 _ Z)) Z<|B8 (fun ee bl=>?_);have cs:=k.call bl;have ax:=Bd k bl;refine Av h fun da ct h=>?_;have ah:=ah.mono (Ac (bc.trans ax));have e188h0:=e188h0.mono (Ac ax)
   refine BO (O4 (a0:=s) (a1:=a.toNat) (a2:=(o.getD a.toNat Qq1)) (O:=[.row p 31 1 (o).length d,.box b6 [j] 25,.box b2 [No 0,No 0] 27,.box b1 [Aaa] 25]) hH cs ah cp e188h0 ct) ?_;rintro _ ef ⟨y193_1,rfl,cu,bx,bq⟩;refine A1 1 Z<|Bi h ?_ ?_<;>intro cv h
   ·cases h
   refine A4<|A9<|A2<|Az<|A3 h fun cw h=>Ag (AA cw)<|Ar 1 Z<|AP ?_;have h:=BW.again h bi;have c:=c.mono (Ac (ax.trans bx));refine AN (_,_,_,_) ⟨cu,bq,c,h⟩
  refine Bq<|AK<|AF ?_;have h:=BW.out h bi;refine Bj<|AH (_,_) ⟨a7,ah,c,h⟩
 rintro⟨am,ag⟩ dq ⟨au,ai,c,h⟩;refine AM<|Aq<|Ag (Ax 2 Z HQ.e au Z)<|Av h fun eg cx h=>A6 au (Hf _ _ (Le.refl _) (hU.mono (hH.trans au.arg)) am (au.KA hH (i:=0) Z ai) cx) fun eh dr cy bz=>AZ BB.e Z cy fun ei ej cz b0 _=>A7 0 Z cz Z fun ek av b3=>Al<|Aq<|Ag (Ax 0 Z BB.e av Z)<|Ag (B7 (fun _=>Dx _))<|Ag (MP Mq (OK _ _ _ _))<|Al<|DP h ?_ ?_<;>intro c0 h
 ·cases h
 refine A4<|A2<|Aq<|Ag (Ax 3 Z HQ.e av Z)<|Ag (B7 (fun _=>Dx _))<|A7 5 Z av Z (h1:=(BP (row_one (av.at (i:=1) Z)) Mx)) fun el c2 b4=>A7 4 Z c2 Z fun em aw b5=>Al<|Au ?_
 cases h
 refine IS (.cell Z Aas Z HQ.e (Bo (i:=5) aw Z)) (.cell Z Aaj Z BB.e (Bo (i:=4) aw Z)) ?_;have ai:=ai.mono (Ac (bz.trans (b0.trans (b3.trans (b4.trans b5)))));exact⟨aw.ext,_,Z,(aw.Hn hH (i:=1) Z ai)⟩
def EU:Option Aae:=
 some (([102,105,108,101,32,115,101,113,117,101,110,99,101,32,45,58,109,97,103,105,99,32,98,111,100,121,58,107,105,110,100,115,10,109,97,103,105,99,32,108,105,116,101,114,97,108,32,53,50,52,49,53,51,51,49,10,107,105,110,100,115,32,99,104,111,105,99,101,32,98,105,116,32,110,105,98,98,108,101,32,103,114,97,121,32,99,111,108,111,114,10,98,105,116,32,115,101,113,117,101,110,99,101,32,102,108,97,103,115,58,102,48,32,119,105,100,116,104,58,115,105,100,101,32,104,101,105,103,104,116,58,115,105,100,101,32,99,111,108,111,114,115,58,112,50,32,114,111,119,115,58,100,97,116,97,10,110,105,98,98,108,101,32,115,101,113,117,101,110,99,101,32,102,108,97,103,115,58,102,49,32,119,105,100,116,104,58,115,105,100,101,32,104,101,105,103,104,116,58,115,105,100,101,32,99,111,108,111,114,115,58,112,49,54,32,114,111,119,115,58,100,97,116,97,10,103,114,97,121,32,115,101,113,117,101,110,99,101,32,102,108,97,103,115,58,102,50,32,119,105,100,116,104,58,115,105,100,101,32,104,101,105,103,104,116,58,115,105,100,101,32,114,111,119,115,58,100,97,116,97,10,99,111,108,111,114,32,115,101,113,117,101,110,99,101,32,102,108,97,103,115,58,102,51,32,119,105,100,116,104,58,115,105,100,101,32,104,101,105,103,104,116,58,115,105,100,101,32,114,111,119,115,58,100,97,116,97,10,102,48,32,110,117,109,98,101,114,32,49,32,98,105,103,32,48,32,51,10,102,49,32,110,117,109,98,101,114,32,49,32,98,105,103,32,49,54,32,49,57,10,102,50,32,110,117,109,98,101,114,32,49,32,98,105,103,32,51,50,32,51,53,10,102,51,32,110,117,109,98,101,114,32,49,32,98,105,103,32,52,56,32,53,49,10,115,105,100,101,32,110,117,109,98,101,114,32,49,32,98,105,103,32,49,32,54,52,10,112,50,32,99,111,117,110,116,101,100,32,110,50,32,114,103,98,10,112,49,54,32,99,111,117,110,116,101,100,32,110,49,54,32,114,103,98,10,110,50,32,110,117,109,98,101,114,32,49,32,98,105,103,32,49,32,50,10,110,49,54,32,110,117,109,98,101,114,32,49,32,98,105,103,32,49,32,49,54,10,114,103,98,32,98,121,116,101,115,32,51,10,100,97,116,97,32,98,108,111,98,32,115,105,122,101,10,115,105,122,101,32,110,117,109,98,101,114,32,50,32,98,105,103,32,48,32,54,53,53,51,53,10]:Aae))
theorem N1{r:Aae}(h:EU=some r):
  Qqv 5 [] w (fun v w'=>v=(Aad r)):=by
 refine AG 1 [] func5 Z fun hL=>AI 1 Z<|AI 1 Z<|Au ?_
 cases h
 refine Aj Z ⟨hL.ext,Z⟩
end
end Go.Proofs.YtnmkjjgmnbmmnaaGreatDoor
end
noncomputable section
namespace Go.Proofs.YtnmkjjgmnbmmnaaGreatDoor
open Go Go.E Go.RowKit Go.L
noncomputable section
instance ZD:DecidableEq (Int×Int×Qq7×Qq4):=inferInstance
instance ZE:DecidableEq (Bool×Int×Int×Int×Int×Int×Qq7×Qq4):=inferInstance
instance ZM:DecidableEq QV:=inferInstanceAs (DecidableEq (Qq3×Int×Qq3×Int×Bool×Int×Int×Int×Int×Int×Qq7×Qq4))
instance ZN:DecidableEq (List QV×Qq6):=inferInstance
def SF:List QV:=[([102,105,108,101],7,[],0,false,0,0,0,0,0,[[],[98,111,100,121]],[1,2]),
 ([109,97,103,105,99],1,[82,65,83,49],0,false,0,0,0,0,0,[],[]),
 ([107,105,110,100,115],8,[],0,false,0,0,0,0,0,[],[3,4,5,6]),
 ([98,105,116],7,[],0,false,0,0,0,0,0,[[102,108,97,103,115],[119,105,100,116,104],[104,101,105,103,104,116],[99,111,108,111,114,115],[114,111,119,115]],[7,11,11,12,17]),
 ([110,105,98,98,108,101],7,[],0,false,0,0,0,0,0,[[102,108,97,103,115],[119,105,100,116,104],[104,101,105,103,104,116],[99,111,108,111,114,115],[114,111,119,115]],[8,11,11,13,17]),
 ([103,114,97,121],7,[],0,false,0,0,0,0,0,[[102,108,97,103,115],[119,105,100,116,104],[104,101,105,103,104,116],[114,111,119,115]],[9,11,11,17]),
 ([99,111,108,111,114],7,[],0,false,0,0,0,0,0,[[102,108,97,103,115],[119,105,100,116,104],[104,101,105,103,104,116],[114,111,119,115]],[10,11,11,17]),
 ([102,48],2,[],1,true,0,3,0,0,0,[],[]),
 ([102,49],2,[],1,true,16,19,0,0,0,[],[]),
 ([102,50],2,[],1,true,32,35,0,0,0,[],[]),
 ([102,51],2,[],1,true,48,51,0,0,0,[],[]),
 ([115,105,100,101],2,[],1,true,1,64,0,0,0,[],[]),
 ([112,50],6,[],0,false,0,0,0,14,16,[],[]),
 ([112,49,54],6,[],0,false,0,0,0,15,16,[],[]),
 ([110,50],2,[],1,true,1,2,0,0,0,[],[]),
 ([110,49,54],2,[],1,true,1,16,0,0,0,[],[]),
 ([114,103,98],4,[],3,false,0,0,0,0,0,[],[]),
 ([100,97,116,97],10,[],0,false,0,0,0,18,0,[],[]),
 ([115,105,122,101],2,[],2,true,0,65535,0,0,0,[],[])]
def SB:List Qq4:=[[1],[],[3,4,5,6],[7],[8],[9],[10],[],[],[],[],[],[14],[15],[],[],[],[18],[]]
def SO:List Nat:=[0,4835703278458516698824704,0,0,0,0,0,15,983040,64424509440,4222124650659840,36893488147419103230,0,0,6,131070,115792089237316195423570985008687907853269984665640564039457584007913129639935,0,115792089237316195423570985008687907853269984665640564039457584007913129639935]
def SM:List Nat:=[4835703278458516698824704,4835703278458516698824704,4222189076152335,15,983040,64424509440,4222124650659840,15,983040,64424509440,4222124650659840,36893488147419103230,6,131070,6,131070,115792089237316195423570985008687907853269984665640564039457584007913129639935,115792089237316195423570985008687907853269984665640564039457584007913129639935,115792089237316195423570985008687907853269984665640564039457584007913129639935]
def Zc:Option Bool:=
 Qq8 (IK SF) (fun a=>Qq8 (DT a false) (fun b=>Qq8 (Dt (SF.getD 0 Qq1)) (fun _=>Qq8 (CU (SF.getD 2 Qq1)) (fun _=>some (decide (b<0))))))
def Zd:Option Bool:=
 Qq8 (EU) (fun a=>Qq8 (I2 a) (fun b=>some (decide (b=(SF,((0:Int),(0:Int)))))))
end
end Go.Proofs.YtnmkjjgmnbmmnaaGreatDoor
end
noncomputable section
namespace Go.L
def Ap{α:Type}(m m':Option α):Prop:=∀r,m=some r->m'=some r
theorem VU{α:Type}(m:Option α):Ap m m:=fun _ h=>h
theorem ZW{α β:Type}{m m':Option α}{f f':α->Option β}(h:Ap m m')(k:∀x,Ap (f x) (f' x)):Ap (Qq8 m f) (Qq8 m' f'):=fun r e=>by
 obtain⟨x,h1,h2⟩:=bind_some e;rw[h x h1,Option.bind_some];exact k x r h2
theorem ZX{α:Type}{p:Prop}[Decidable p]{m m':Option α}(h:Ap m m'):Ap (Go.L.Bb p m) (Go.L.Bb p m'):=fun r e=>by
 obtain⟨h1,h2⟩:=HP e;rw[An (h:=h1)];exact h r h2
theorem ZY{α:Type}{p:Prop}[Decidable p]{a b a' b':Option α}(h:Ap a a')(k:Ap b b'):Ap (if p then a else b) (if p then a' else b'):=fun r e=>by
 by_cases hp:p
 ·rw[if_pos hp]at e ⊢;exact h r e
 ·rw[if_neg hp]at e ⊢;exact k r e
theorem ZZ{α β:Type}{f:α->β}{m m':Option α}(h:Ap m m'):Ap (Qzq f m) (Qzq f m'):=fun r e=>by
 cases m with
 | none=>cases e
 | some x=>rw[h x Z];exact e
theorem apO{α β:Type}{x:Option α}{ex ex':Option β}{k k':α->Option β}(h:Ap ex ex')(hk:∀y,Ap (k y) (k' y)):Ap (Go.L.Z1 x ex k) (Go.L.Z1 x ex' k'):=by
 cases x with
 | none=>exact h
 | some y=>exact hk y
theorem Ap.FW{σ ρ:Type}{b b':σ->Option (σ⊕ρ)}(h:∀s,Ap (b s) (b' s)):∀(n:Nat) (s:σ),Ap (FW b n s) (FW b' n s)
 | 0,_=>fun _ e=>by cases e
 | n+1,s=>fun r e=>by
  obtain⟨m,x,hm,h1,h2⟩:=Ba e;obtain rfl:n=m:=by omega
  rw[Go.L.FW,h s x h1]
  cases x with
  | inl s'=>exact Ap.FW h n s' r h2
  | inr y=>exact congrArg some h2
theorem Ap.run{σ ρ:Type}{b b':σ->Option (σ⊕ρ)}(h:∀s,Ap (b s) (b' s))(n:Nat)(s:σ):Ap (Go.L.FW b n s) (Go.L.run b' s):=fun r e=>Rs (Ap.FW h n s r e)
class Mi {α:Type} (m:Option α) where
 c:Option α
 h:Ap c m
noncomputable instance {α:Type} (x:α):Mi (some x):=⟨some x,VU _⟩
noncomputable instance {α:Type}:Mi (none:Option α):=⟨none,VU _⟩
noncomputable instance iB {α β:Type} (m:Option α) (f:α->Option β) [i:Mi m] [j:∀x,Mi (f x)]:Mi (Qq8 m f):=⟨Qq8 i.c fun x=>(j x).c,ZW i.h fun x=>(j x).h⟩
noncomputable instance iC {α:Type} (p:Prop) [Decidable p] (m:Option α) [i:Mi m]:Mi (Go.L.Bb p m):=⟨Go.L.Bb p i.c,ZX i.h⟩
noncomputable instance iI {α:Type} (p:Prop) [Decidable p] (a b:Option α) [i:Mi a] [j:Mi b]:Mi (if p then a else b):=⟨if p then i.c else j.c,ZY i.h j.h⟩
noncomputable instance {α β:Type} (f:α->β) (m:Option α) [i:Mi m]:Mi (Qzq f m):=⟨Qzq f i.c,ZZ i.h⟩
noncomputable instance {α β:Type} (x:Option α) (ex:Option β) (k:α->Option β) [i:Mi ex] [j:∀y,Mi (k y)]:Mi (Go.L.Z1 x ex k):=⟨Go.L.Z1 x i.c fun y=>(j y).c,apO i.h fun y=>(j y).h⟩
noncomputable instance {σ ρ:Type} (b:σ->Option (σ⊕ρ)) (s:σ) [i:∀s,Mi (b s)]:Mi (Go.L.run b s):=⟨Go.L.FW (fun s=>(i s).c) 600 s,Ap.run (fun s=>(i s).h) 600 s⟩
end Go.L
end
noncomputable section
namespace Go.Proofs.YtnmkjjgmnbmmnaaGreatDoor
open Go Go.E Go.RowKit Go.L
noncomputable section
instance (a):Mi (P6 a):=⟨_,VU _⟩
instance (a b):Mi (R1 a b):=⟨_,VU _⟩
instance (a b c d):Mi (OQ a b c d):=⟨_,VU _⟩
instance (a b):Mi (Pj a b):=⟨_,VU _⟩
instance (a b):Mi (Vi a b):=⟨_,VU _⟩
instance (a):Mi (Td a):=⟨_,VU _⟩
instance (a):Mi (Qi a):=⟨_,VU _⟩
instance (a):Mi (Vh a):=⟨_,VU _⟩
instance (a0) (a1):Mi (Em a0 a1):=by delta Em;infer_instance
instance (a0):Mi (GV a0):=by delta GV;infer_instance
instance (a0) (a1_0_c0):Mi (HB a0 a1_0_c0):=by delta HB;infer_instance
instance:Mi (CY):=by delta CY;infer_instance
instance (a0) (a1_c0_0_c0) (s):Mi (CL a0 a1_c0_0_c0 s):=by delta CL;infer_instance
instance (a0) (a1_c0_0_c0) (s):Mi (Ey a0 a1_c0_0_c0 s):=by delta Ey;infer_instance
instance (a0) (a1_c0_0_c0):Mi (DH a0 a1_c0_0_c0):=by delta DH;infer_instance
instance (a0) (a1_c0_0_c0):Mi (CZ a0 a1_c0_0_c0):=by delta CZ;infer_instance
instance:Mi (Da):=by delta Da;infer_instance
instance (a0) (a1_c0) (s):Mi (CM a0 a1_c0 s):=by delta CM;infer_instance
instance (a0) (a1_c0) (s):Mi (Ez a0 a1_c0 s):=by delta Ez;infer_instance
instance (a0) (a1_c0):Mi (DI a0 a1_c0):=by delta DI;infer_instance
instance (a0) (a1_c0):Mi (Db a0 a1_c0):=by delta Db;infer_instance
instance (a0) (a1_0_c0) (a2):Mi (IX a0 a1_0_c0 a2):=by delta IX;repeat' first | (show Mi _;infer_instance) | refine @iB _ _ _ _ ?_ (fun _=>?_) | refine @iC _ _ _ _ ?_ | refine @iI _ _ _ _ _ ?_ ?_
instance (a) (b):Mi (Iq a b):=by delta Iq;infer_instance
instance (a0) (a) (s):Mi (HC a0 a s):=by obtain⟨c,b⟩:=s;delta HC;dsimp only;repeat' first | (show Mi _;infer_instance) | refine @iB _ _ _ _ ?_ (fun _=>?_) | refine @iC _ _ _ _ ?_ | refine @iI _ _ _ _ _ ?_ ?_
instance (a0) (a) (s):Mi (Ka a0 a s):=by delta Ka;infer_instance
instance (a):Mi (Ir a):=by delta Ir;infer_instance
instance (a0) (s):Mi (HD a0 s):=by obtain⟨b,a⟩:=s;delta HD;dsimp only;infer_instance
instance (a0) (s):Mi (Kb a0 s):=by delta Kb;infer_instance
instance (a0):Mi (IK a0):=by delta IK;infer_instance
instance:Mi (Eo):=by delta Eo;infer_instance
instance (a0) (a1) (s):Mi (DS a0 a1 s):=by delta DS;infer_instance
instance (a0) (a1) (s):Mi (FY a0 a1 s):=by delta FY;infer_instance
instance (a0) (a1):Mi (DT a0 a1):=by delta DT;infer_instance
instance:Mi (D7):=by delta D7;infer_instance
instance (a0) (a1) (s):Mi (Cr a0 a1 s):=by delta Cr;infer_instance
instance (a0) (a1) (s):Mi (Cy a0 a1 s):=by delta Cy;infer_instance
instance (a0) (a1):Mi (ED a0 a1):=by delta ED;infer_instance
instance (a0) (a1):Mi (Cf a0 a1):=by delta Cf;infer_instance
instance (a0) (a1):Mi (Hx a0 a1):=by delta Hx;infer_instance
instance (a0):Mi (BF a0):=by delta BF;infer_instance
instance (a0):Mi (Dt a0):=by delta Dt;infer_instance
instance (a0):Mi (CU a0):=by delta CU;infer_instance
instance:Mi (Zc):=by delta Zc;infer_instance
theorem Vn:Zc=some true:=(inferInstance:Mi Zc).h true V
end
end Go.Proofs.YtnmkjjgmnbmmnaaGreatDoor
end
