/- Texts of a claim, merged. -/
import Derived.Test.YtekmbcbgknmhiaaGreatDoorLp4
import Derived.KernelRfl
open _root_.Go.Proofs.Tryz renaming underlying22→AcL,underlying23→Afr,underlying58→Ahy,underlying96→Aj7,underlying98→Aj8,underlying52→AjB,underlying66→AjC,underlying50→AjD,underlying43→AjE,underlying28→Aji,underlying26→Ajm,underlying137→Ajq,underlying62→Ajs,underlying94→Ajt
open Option renaming bind->Qq4,bind_some->Qq6,map->Qq7
open List renaming getD_eq_getElem?_getD->Qq9,getElem?_eq_getElem->Qzw,replicate->Qzz,length_map->Qzk,length_cons->Qzj,length_append->Qzu,drop_eq_nil_of_le->Qz5,length_nil->Qzf,length_take->QzK,append_nil->QzZ,length_drop->QzJ,getElem?_drop->Qxj,take_add_one->QxX,length_singleton->QxD,nil_append->Qxw,append_assoc->QxZ,length_pos_iff->Qka,drop_zero->QxE
open Int renaming toNat_natCast->Qq8,eq_ofNat_of_zero_le->QxA
open Prod renaming fst->Qq5
open Nat renaming le_refl->Qzx,zero_add->Qzc,le_trans->Qz2,add_zero->Qxq,zero_le->Qz6
open Bool renaming and_eq_true->Qzb,eq_iff_iff->QzD,true_and->Qx6
open ByteArray renaming size->Qxb
open UInt8 renaming toNat_lt->Qx1
set_option linter.unusedVariables false
set_option linter.unusedSimpArgs false
set_option linter.unusedSectionVars false
noncomputable section
namespace Go
abbrev AjK:=((List Int))×(List Int)×(List Int)
end Go
namespace Go.Proofs.YtekmbcbgknmhiaaGreatDoor
open Go Go.E Go.RowKit Go.L
set_option maxHeartbeats 1000000
set_option maxRecDepth 10000
open _root_.Go.Proofs.Tryz
def KQ(a0 a1:Int):Option ((Int×Int)):=
 some ((a0,a1))
section
variable(w:World)(H:PH)(hH:Le H (hp w)) include hH
theorem OU{a0 a1:Int}{r:(Int×Int)}(h:KQ a0 a1=some r):
  Qqv 98 [No a0,No a1] w (fun v w'=>v=.agg #[No r.1,No r.2]):=by
 refine A1 8 [(0,No a0),(1,No a1)] func98 Z fun hL=>Ak<|AA AG.e Z hL fun e f b c _=>Ac<|Bu 2 Z<|Aj (AT (fun _=>My _ _ _))<|Ag 0 Z b Z fun g a d=>Ac<|Ay ?_
 cases h
 refine Dy (.cell Z Aji Z AG.e (AK (i:=0) a Z)) ⟨a.ext,Z⟩
def D0(a0:(List Int)):Option Int:=
 some ((max (a0.length:Int) (1:Int)))
theorem K1{a0:(List Int)}{a:Value}(c:AH (.int .i64) H a a0){r:Int}(h:D0 a0=some r):
  Qqv 97 [.agg #[a]] w (fun v w'=>v=No r):=by
 refine A1 7 [(0,.agg #[a])] func97 Z fun hL=>Ak<|CB (t:=96) Z Z hL fun e f b d _=>A7 1 Z<|Ak<|Aj (Ae Z Aj7 Z Sn.e)<|Aj (Af 0 Z b Z)<|Aj (Bc c)<|Aj (Adc Z Z)<|A7 1 Z<|Ay ?_
 cases h
 refine Am Z ⟨b.ext,Z⟩
def Ef(a0:((List Int))×(List Int)×(List Int)):Option Int:=
 Qq4 (D0 a0.1) (fun a=>AO (Bw (a - 1)) (some ((a - 1))))
theorem GR(a0:((List Int))×(List Int)×(List Int)){a b c:Value}(e:AH (.int .i64) H a (a0.1))(_h0_1:AH (.int .i64) H b (a0.2.1))(_h0_2:AH (.int .i64) H c (a0.2.2)){r:Int}(h:Ef a0=some r):
  Qqv 59 [.agg #[a,b,c]] w (fun v w'=>v=No r):=by
 refine A1 7 [(0,.agg #[a,b,c])] func59 Z fun hL=>Ak<|CB (t:=98) Z Z hL fun m o d j _=>A7 1 Z<|Ak<|Aj (Ae Z Aj8 Z ZX.e)<|Aj (KC 0 1 Z ZX.e d Z Z)<|Ax h fun p f h=>AF d (K1 (a0:=a0.1) _ _ (Ao d) (e.mono  Ah) f) fun q l g k=>Az h fun i h=>Aj (A5 i)<|A7 1 Z<|Ay ?_
 cases h
 refine Am Z ⟨g.ext,Z⟩
def BR(a0:(List Int))(a1 a3 b a c d:Int):Option ((Int×Int×Int×Int) ⊕ (Int×Int)):=
 if(a0.getD a.toNat Qq2=a1)/\(a<a3) then AO (Bw (b+1)) (AO (Bw (a+1)) (some (Sum.inl (c,d,(b+1),(a+1))))) else AO (Bw (a+1)) (some (Sum.inl (c,d,b,(a+1))))
def Es(a b c:Int):Option (Int×Int):=
 AO (Bw (a+b)) (AO (Bw (a+c)) (some ((a+b),(a+c))))
def Cv(a0:(List Int))(a1 a2 a3:Int):Int×Int×Int×Int->Option ((Int×Int×Int×Int) ⊕ (Int×Int)):=fun⟨b,c,d,a⟩=>
 if a<(a0.length:Int) then AO (0<=a/\a<(a0.length:Int)) (if a0.getD a.toNat Qq2=(-1) then(BR a0 a1 a3 d a) b c else(if a0.getD a.toNat Qq2<a1 then AO (Bw (b+1)) ((BR a0 a1 a3 d a) (b+1) c) else(if(a0.getD a.toNat Qq2=a1)/\(a<a2) then AO (Bw (c+1)) ((BR a0 a1 a3 d a) b (c+1)) else(BR a0 a1 a3 d a) b c))) else Qq7 Sum.inr (Es b c d)
def Iq(a0:(List Int))(a1 a2 a3:Int)(s:Int×Int×Int×Int):Option (Int×Int):=Go.L.run (Cv a0 a1 a2 a3) s
def F7(a0:(List Int))(a1 a2 a3:Int):Option (Int×Int):=
 (Iq a0 a1 a2 a3) (1,0,0,0)
theorem Oc{a0:(List Int)}{a1 a2 a3:Int}{g:Value}(q:AH (.int .i64) H g a0){r:Int×Int}(h:F7 a0 a1 a2 a3=some r):
  Qqv 255 [.agg #[g],No a1,No a2,No a3] w (fun v w'=>v=.tuple #[No r.1,No r.2]):=by
 refine A1 60 [(0,.agg #[g]),(1,No a1),(2,No a2),(3,No a3)] func255 Z fun hL=>Ak<|CB (t:=96) Z Z hL fun w1 b1 ah ao _=>A7 2 Z<|AJ 3 Z<|Bt (Int×Int×Int) (fun⟨i,j,k⟩=>[(10,No i),(11,No j),(12,No k)]) (fun⟨i,j,k⟩ wr=>Bb w [.box b1 [g] 96] wr/\Es i j k=some r) ?_ ?_
 ·refine Ak<|Aj (Ae Z Aj7 Z Sn.e)<|Aj (Af 0 Z ah Z)<|Aj (Bc q)<|A7 1 Z<|A3 ?_;obtain⟨o,h⟩:=Ba h;refine B6 (Int×Int×Int×Int×Nat) (fun⟨b,c,d,a,n⟩=>[(1,No a1),(2,No a2),(3,No a3),(10,No b),(11,No c),(12,No d),(16,g),(17,No (a0.length:Int)),(18,No a)]) (fun⟨b,c,d,a,n⟩ wr=>Bb w [.box b1 [g] 96] wr/\HG (Cv a0 a1 a2 a3) n (b,c,d,a)=some r) (fun⟨b,c,d,a,n⟩=>n) (1,0,0,0,o) Z ⟨ah,h⟩ ?_;rintro⟨b,c,d,a,nn94⟩ ap ⟨l,h⟩;obtain⟨o,am,rfl,h,m⟩:=AY h;refine AJ 1 Z<|AD<|AP h ?_ ?_<;>intro aj h
  ·refine Aw<|As<|AD<|A3<|Bu 1 Z<|Az h fun s h=>Bf q a.toNat (Gy s) (AW s) ?_;rintro ar _ rfl ak;refine Aj (Bl ak (hH.trans l.arg))<|A7 2 Z<|Bt (Int×Int) (fun⟨e,f⟩=>[(1,No a1),(2,No a2),(3,No a3),(10,No e),(11,No f),(12,No d),(13,No a),(14,No (a0.getD a.toNat Qq2)),(16,g),(17,No (a0.length:Int)),(18,No a)]) (fun⟨e,f⟩ wr=>Bb w [.box b1 [g] 96] wr/\(BR a0 a1 a3 d a) e f=some am) ?_ ?_
   ·refine A3<|AJ 3 Z<|AP h ?_ ?_<;>intro u h
    ·refine Aw<|A2<|A8 (_,_) ⟨l,h⟩
    refine AJ 4 Z<|AP h ?_ ?_<;>intro x h
    ·refine Au<|Aq 1 Z<|Az h fun y h=>Aj (A5 y)<|Aq 1 Z<|AL<|A2<|A8 (_,_) ⟨l,h⟩
    refine Bu 4 Z<|OD 3 3 Z Z Z Z Z Z<|A7 1 Z<|AP h ?_ ?_<;>intro z h
    ·refine Au<|Aq 1 Z<|Az h fun aa h=>Aj (A5 aa)<|Aq 1 Z<|AL<|A2<|A8 (_,_) ⟨l,h⟩
    refine Aw<|A2<|A8 (_,_) ⟨l,h⟩
   rintro⟨e,f⟩ an ⟨p,h⟩;refine Bu 4 Z<|OD 3 3 Z Z Z Z Z Z<|Ac<|AP h ?_ ?_<;>intro ab h
   ·refine Au<|Aq 1 Z<|Az h fun ac h=>Aj (A5 ac)<|Aq 1 Z<|AL<|A2<|As<|Au<|Az h fun ad h=>Aj (A5 ad)<|Aq 1 Z<|AL ?_;have h:=Cg.again h m;refine AN (_,_,_,_,_) Z ⟨p,h⟩
   refine Aw<|A2<|As<|Au<|Az h fun ae h=>Aj (A5 ae)<|Aq 1 Z<|AL ?_;have h:=Cg.again h m;refine AN (_,_,_,_,_) Z ⟨p,h⟩
  refine B4<|AE<|A6 ?_;have h:=Cg.out h m;refine Bi<|A8 (_,_,_) ⟨l,h⟩
 rintro⟨i,j,k⟩ aq ⟨al,h⟩;refine Bu 2 Z<|Az h fun af h=>Aj (A5 af)<|Aq 2 Z<|Az h fun ag h=>Aj (A5 ag)<|A7 2 Z<|Ay ?_
 cases h
 refine Am Z ⟨al.ext,Z⟩
def E8(a b:Int):Option (Int×Int×(Int×Int)):=
 some (a,(max a b),(0,0))
def BV(a0:((List Int))×(List Int)×(List Int))(a1:Ac3):Int×Int×Int->Option ((Int×Int×Int) ⊕ (Int×Int×(Int×Int))):=fun⟨b,c,a⟩=>
 if(0<=a)/\(b<c) then AO (0<=a/\a<(a1.length:Int)) (Qq4 (F7 a0.1 ((a1.getD a.toNat Qq2).toNat:Int) b c) (fun d=>AO (Bw (a - 1)) (some (Sum.inl (d.1,d.2,(a - 1)))))) else Qq7 Sum.inr (E8 b c)
def Gd(a0:((List Int))×(List Int)×(List Int))(a1:Ac3)(s:Int×Int×Int):Option (Int×Int×(Int×Int)):=Go.L.run (BV a0 a1) s
def EX(a0:((List Int))×(List Int)×(List Int))(a1:Ac3):Option (Int×Int×(Int×Int)):=
 if(a1.length:Int)=0 then Qq4 (KQ (10:Int) (-1:Int)) (fun b=>some (0,0,(b.1,b.2))) else(if 64<(a1.length:Int) then Qq4 (KQ (3:Int) (-1:Int)) (fun a=>some (0,0,(a.1,a.2))) else Qq4 (D0 a0.1) (fun c=>AO (Bw ((a1.length:Int) - 1)) ((Gd a0 a1) (0,c,((a1.length:Int) - 1)))))
theorem Qb{a0:((List Int))×(List Int)×(List Int)}{a1:Ac3}{f g j l:Value}(p:AH (.int .i64) H f (a0.1))(_h0_1:AH (.int .i64) H g (a0.2.1))(_h0_2:AH (.int .i64) H j (a0.2.2))(m:AH .byte H l a1){r:Int×Int×(Int×Int)}(h:EX a0 a1=some r):
  Qqv 198 [.agg #[f,g,j],l] w (fun v w'=>v=.tuple #[No r.1,No r.2.1,.agg #[No r.2.2.1,No r.2.2.2]]):=by
 refine A1 51 [(0,.agg #[f,g,j]),(1,l)] func198 Z fun hL=>Ak<|CB (t:=98) Z Z hL fun w1 b1 ax ba _=>Aq 2 Z<|AA AG.e Z ax fun w2 b2 k bb _=>Ac<|AD<|Bu 1 Z<|Aj (Bc m)<|A7 1 Z<|AP h ?_ ?_<;>intro ay h
 ·refine Ak<|Ax h fun x5 az h=>AF k (OU _ _ (Ao k) az) fun w6 bi a2 bc=>Aq 2 Z<|Ag 0 Z a2 Z fun w7 ad bd=>Ac<|Ay<|Ar ?_
  cases h
  refine Xu (.tmp Z) (.tmp Z) (.cell Z Aji Z AG.e (AK (i:=0) ad Z)) ⟨ad.ext,Z⟩
 refine Aw<|As<|AD<|Bu 1 Z<|Aj (Bc m)<|A7 1 Z<|AP h ?_ ?_<;>intro a3 h
 ·refine Ak<|Ax h fun bj ah h=>AF k (OU _ _ (Ao k) ah) fun bk be ai a6=>Aq 2 Z<|Ag 0 Z ai Z fun bl s a7=>Ac<|Ay<|Ar ?_
  cases h
  refine Xu (.tmp Z) (.tmp Z) (.cell Z Aji Z AG.e (AK (i:=0) s Z)) ⟨s.ext,Z⟩
 refine Aw<|As<|Ak<|Aj (Ae Z Aj8 Z ZX.e)<|Aj (KC 1 1 Z ZX.e k Z Z)<|Ax h fun a4 aj h=>AF k (K1 (a0:=a0.1) _ _ (Ao k) (p.mono  Ah) aj) fun bm bf ak a8=>A7 2 Z<|Bt (Int×Int) (fun⟨d,e⟩=>[(6,(AaD b2)),(7,No d),(8,No e)]) (fun⟨d,e⟩ wr=>Bb w [.box b2 [No 0,No 0] 28,.box b1 [f,g,j] 98] wr/\E8 d e=some r) ?_ ?_
 ·refine Bu 1 Z<|Aj (Bc m)<|Az h fun al h=>Aj (A5 al)<|A7 1 Z<|A3 ?_;obtain⟨u,h⟩:=Ba h;refine B6 (Int×Int×Int×Nat) (fun⟨b,c,a,n⟩=>[(1,l),(2,(AaD b1)),(6,(AaD b2)),(7,No b),(8,No c),(9,No a)]) (fun⟨b,c,a,n⟩ wr=>Bb w [.box b2 [No 0,No 0] 28,.box b1 [f,g,j] 98] wr/\HG (BV a0 a1) n (b,c,a)=some r) (fun⟨b,c,a,n⟩=>n) (0,a4,((a1.length:Int) - 1),u) Z ⟨ak,h⟩ ?_;rintro⟨b,c,a,nn69⟩ bg ⟨x,h⟩;obtain⟨u,bn,rfl,h,y⟩:=AY h;refine AD<|Bu 3 Z<|OD 3 2 Z Z Z Z Z Z<|Ac<|AP h ?_ ?_<;>intro am h
  ·refine Aw<|As<|AD<|A3<|Qm (Qqz 0 15 (.tail 15)) mixed Qqb (fun a5 an=>?_);have o:=x.call an;refine CF Z (Ae Z Aj8 Z ZX.e) Z<|CF Z (KC 1 1 Z ZX.e o Z Z) Z<|D4 2 Z<|Az h fun z h=>HX Z Z Z Afr m a.toNat (Gy z) (AW z) Z ?_;rintro bo _ rfl ao;refine CF Z (Bl ao (hH.trans o.arg)) Z<|CF Z (Ld (QT _)) Z<|D4 2 Z<|Ax h fun ae ap h=>?_;have ac:=(fun(af:World) (aq:Ext a5 af)=>Oc af _ (Le.refl _) ((p.mono (hH.trans o.arg)).mono aq.le) ap);refine JN Z Z Z ac<|D4 5 Z<|BU (fun bp ar=>?_);have au:=o.call ar;refine AL<|A2<|As<|Au<|Aq 1 Z<|Az h fun av h=>Aj (A5 av)<|Aq 1 Z<|AL ?_;have h:=Cg.again h y;refine AN (_,_,_,_) Z ⟨au,h⟩
  refine B4<|AE<|A6 ?_;have h:=Cg.out h y;refine Bi<|A8 (_,_) ⟨x,h⟩
 rintro⟨d,e⟩ bh ⟨aw,h⟩;refine Bu 3 Z<|Aj (Adc Z Z)<|Aj (AT (fun _=>BM _))<|Aq 2 Z<|Ag 0 Z aw Z fun bq aa a9=>Ac<|Ay ?_
 cases h
 refine Xu (.tmp Z) (.tmp Z) (.cell Z Aji Z AG.e (AK (i:=0) aa Z)) ⟨aa.ext,Z⟩
def Ex(a0:((List Int))×(List Int)×(List Int))(a1:Ac3):Option AjP:=
 Qq4 (EX (a0.1,a0.2.1,a0.2.2) a1) (fun a=>AO (Bw (a.2.1 - a.1)) (some ((a.2.1 - a.1),(a.2.2.1,a.2.2.2))))
theorem P5{a0:((List Int))×(List Int)×(List Int)}{a1:Ac3}{a b c d:Value}(j:AH (.int .i64) H a (a0.1))(k:AH (.int .i64) H b (a0.2.1))(l:AH (.int .i64) H c (a0.2.2))(m:AH .byte H d a1){r:Int×(Int×Int)}(h:Ex a0 a1=some r):
  Qqv 148 [.agg #[a,b,c],d] w (fun v w'=>v=.tuple #[No r.1,.agg #[No r.2.1,No r.2.2]]):=by
 refine A1 20 [(0,.agg #[a,b,c]),(1,d)] func148 Z fun hL=>Ak<|CB (t:=98) Z Z hL fun w1 b1 s ad _=>Aq 1 Z<|AA AG.e Z s fun w2 b2 e ae _=>Ac<|Ak<|Aj (A4 1 Z G0.e e Z)<|Aq 1 Z<|Ax h fun x3 u h=>AF e (Qb (a0:=(a0.1,a0.2.1,a0.2.2)) _ _ (Ao e) (j.mono  Ah) (k.mono  Ah) (l.mono  Ah) (m.mono  Ah) u) fun w4 ai x af=>Aq 4 Z<|AA AG.e Z x fun w5 b5 y ag _=>Aq 2 Z<|Ag 0 Z y Z fun w6 z ah=>Ac<|Eu (Qqz 0 5 (.tail 5)) mixed Qqb (fun w7 aa=>?_);have g:=z.call aa;refine D4 2 Z<|Az h fun ab h=>CF Z (A5 ab) Z<|CF Z (A4 0 Z AG.e g Z) Z<|D4 1 Z<|BU (fun aj o=>?_);have p:=g.call o;refine Ag 1 Z p Z fun ak f ac=>Ac<|Ay ?_
 cases h
 refine Bv (.tmp Z) (.cell Z Aji Z AG.e (AK (i:=1) f Z)) ⟨f.ext,Z⟩
def Ih(a:Ac3):Option Ac3:=
 some a
def Hv(a0:((List Int))×(List Int)×(List Int)):Ac3×Int×Int->Option ((Ac3×Int×Int) ⊕ (Ac3)):=fun⟨c,a,b⟩=>
 if 0<=b then AO (0<=a/\a<(a0.1.length:Int)) (AO (0<=b/\b<(c.length:Int)) (AO (0<=a/\a<(a0.2.1.length:Int)) (AO (Bw (b - 1)) (some (Sum.inl ((c.set b.toNat (Go.L.u8 (a0.1.getD a.toNat Qq2))),a0.2.1.getD a.toNat Qq2,(b - 1))))))) else Qq7 Sum.inr (Ih c)
def JG(a0:((List Int))×(List Int)×(List Int))(s:Ac3×Int×Int):Option Ac3:=Go.L.run (Hv a0) s
def Jr(a0:((List Int))×(List Int)×(List Int)):Option Ac3:=
 Qq4 (Ef (a0.1,a0.2.1,a0.2.2)) (fun a=>AO (0<=a/\((1:Nat):Int) * a<=281474976710656/\a<=9223372036854775807) (AO (Bw (((Qzz a.toNat (0:UInt8)).length:Int) - 1)) ((JG a0) ((Qzz a.toNat (0:UInt8)),0,(((Qzz a.toNat (0:UInt8)).length:Int) - 1)))))
theorem Qc{a0:((List Int))×(List Int)×(List Int)}{f g k:Value}(s:AH (.int .i64) H f (a0.1))(u:AH (.int .i64) H g (a0.2.1))(ah:AH (.int .i64) H k (a0.2.2)){r:Ac3}(h:Jr a0=some r):
  Qqv 100 [.agg #[f,g,k]] w (fun v w'=>∃ u0,v=u0/\Ck 5 .byte H w w' u0 r):=by
 refine A1 32 [(0,.agg #[f,g,k])] func100 Z fun hL=>Ak<|CB (t:=98) Z Z hL fun w1 b1 x a2 _=>A7 1 Z<|Ak<|Aj (A4 0 Z G0.e x Z)<|Ax h fun x2 av h=>AF x (GR _ _ (Ao x) (a0.1,a0.2.1,a0.2.2) (s.mono  Ah) (u.mono  Ah) (ah.mono  Ah) av) fun w3 a7 aw a3=>Az h fun ax h=>Xw (r:=.byte) (z:=(0:UInt8)) Afr (fun _=>Z) hH aw ax fun v4 w4 ay ag a4 az=>A7 1 Z<|AJ 1 Z<|Bt (Ac3×(List Value)) (fun⟨m,e⟩=>[(3,v4)]) (fun⟨m,e⟩ wr=>Fl w [.row v4 5 1 (m).length e,.box b1 [f,g,k] 98] wr fun Oz=>AI .byte (gz H w wr Oz) m e/\Ih m=some r) ?_ ?_
 ·refine Bu 1 Z<|Aj (Qo 0 Z ag Z)<|Az h fun aj h=>Aj (A5 aj)<|A7 1 Z<|A3 ?_;obtain⟨y,h⟩:=Ba h;refine B6 (Ac3×Int×Int×(List Value)×Nat) (fun⟨d,a,b,c,n⟩=>[(1,(AaD b1)),(3,v4),(4,No a),(5,No b)]) (fun⟨d,a,b,c,n⟩ wr=>Fl w [.row v4 5 1 (d).length c,.box b1 [f,g,k] 98] wr fun Oz=>AI .byte (gz H w wr Oz) d c/\HG (Hv a0) n (d,a,b)=some r) (fun⟨d,a,b,c,n⟩=>n) ((Qzz x2.toNat (0:UInt8)),0,(((Qzz x2.toNat (0:UInt8)).length:Int) - 1),ay,y) Z ⟨ag,az,h⟩ ?_;rintro⟨d,a,b,c,nn54⟩ a5 ⟨l,q,h⟩;obtain⟨y,a8,rfl,h,aa⟩:=AY h;refine AD<|AJ 2 Z<|AP h ?_ ?_<;>intro ak h
  ·refine Aw<|As<|AD<|A3<|Bu 2 Z<|Aj (Ae Z Aj8 Z ZX.e)<|Aj (Ae Z Aj7 Z Sn.e)<|Aj (Af 1 Z l Z)<|Aq 1 Z<|Az h fun ab h=>Bf s a.toNat (Gy ab) (AW ab) ?_;rintro a9 _ rfl al;refine Aj (Bl al (hH.trans l.arg))<|Aj (Ld (NG _))<|Az h fun o h=>KA 0 Z Afr QY.e l Z b.toNat (Gy o) (AW o) fun ba am=>KB 0 b.toNat ((Go.L.u8 (a0.1.getD a.toNat Qq2))) Z Z hH l Z q am (AW o) Z fun bb an p a1 ao=>Ac<|Au<|Aj (Ae Z Aj8 Z Sn.e)<|Aj (Af 1 Z p Z)<|Aq 1 Z<|Az h fun ac h=>Bf u a.toNat (Gy ac) (AW ac) ?_;rintro bc _ rfl ap;refine Aj (Bl ap (hH.trans p.arg))<|Aq 1 Z<|AL<|A2<|As<|Au<|Aq 1 Z<|Az h fun aq h=>Aj (A5 aq) ?_
   refine Aq 1 Z<|AL ?_;have h:=Cg.again h aa;refine AN (_,_,_,_,_) Z ⟨p,ao,h⟩
  refine B4<|AE<|A6 ?_;have h:=Cg.out h aa;refine Bi<|A8 (_,_) ⟨l,q,h⟩
 rintro⟨m,e⟩ a6 ⟨ad,af,h⟩;refine AJ 2 Z<|Ay ?_
 cases h
 refine Am Z ⟨ad.ext,_,Z,(ad.Ip hH (i:=0) Z af)⟩
def F8(a:Int)(c:List Int)(b:Int):Option (AjT ⊕ (AjK×Bool)):=
 AO (Bw (a+1)) (some (Sum.inl (c,b,(a+1))))
def Di(a0:List Int)(c:Int):(List Int)×Int×Int->Option (AjT ⊕ (AjT ⊕ (AjK×Bool))):=fun⟨d,b,a⟩=>
 if a<(a0.length:Int) then AO (0<=a/\a<(a0.length:Int)) (if a0.getD a.toNat Qq2=c then AO (0<=a/\a<(d.length:Int)) (AO (Bw (b+1)) (AO (Bw (a+1)) (some (Sum.inl ((d.set a.toNat b),(b+1),(a+1)))))) else AO (Bw (a+1)) (some (Sum.inl (d,b,(a+1))))) else Qq7 Sum.inr ((F8 c) d b)
def Hw(a0:List Int)(a:Int)(s:(List Int)×Int×Int):Option (AjT ⊕ (AjK×Bool)):=Go.L.run (Di a0 a) s
def F9(c:List Int)(d:List Int)(a:Int)(e:List Int)(b:Bool):Option (AjK×Bool):=
 some ((e,c,(d.set a.toNat (0:Int))),b)
def FA(a0:List Int)(d:List Int)(c:List Int)(b:List Int)(a:Int):Option (AjK×Bool):=
 AO (0<=a/\a<(b.length:Int)) (AO (0<=a/\a<(a0.length:Int)) ((F9 c b a) d (decide (a0.getD a.toNat Qq2=(-1)))))
def C4(a0:List Int)(e:List Int)(c:List Int):(List Int)×Int×Int->Option (AjT ⊕ (AjK×Bool)):=fun⟨d,a,b⟩=>
 if 0<b then AO (0<=a/\a<(d.length:Int)) (AO (0<=a/\a<(a0.length:Int)) (if a0.getD a.toNat Qq2=(-1) then Qq7 Sum.inr (some (([],[],[]),false)) else AO (0<=a/\a<(c.length:Int)) (AO (Bw (b - 1)) (some (Sum.inl ((d.set a.toNat b),c.getD a.toNat Qq2,(b - 1))))))) else Qq7 Sum.inr ((FA a0 e c) d a)
def FB(a0:List Int)(b:List Int)(a:List Int)(s:(List Int)×Int×Int):Option (AjK×Bool):=Go.L.run (C4 a0 b a) s
def FC(a0:List Int)(b:List Int)(c:List Int)(a:List Int):Option (AjK×Bool):=
 (FB a0 b a) (c,0,((a0.length:Int) - 1))
def Dj(a0:List Int)(d:List Int)(e:List Int):(List Int)×Int×Int->Option (AjT ⊕ (AjK×Bool)):=fun⟨b,c,a⟩=>
 if a<256 then(Hw a0 a) (b,c,0) else Qq7 Sum.inr ((FC a0 d e) b)
def Js(a0:List Int)(a:List Int)(b:List Int)(s:(List Int)×Int×Int):Option (AjK×Bool):=Go.L.run (Dj a0 a b) s
def FD(a0:List Int)(a:List Int)(b:List Int)(c:List Int):Option (AjK×Bool):=
 (Js a0 a c) (b,1,0)
def Ey(a0:List Int):Option (AjK×Bool):=
 AO (Bw ((a0.length:Int) - 1)) (AO (Bw (((a0.length:Int) - 1)+1)) (AO (Bw (((a0.length:Int) - 1)+1)) (AO (0<=(((a0.length:Int) - 1)+1)/\((8:Nat):Int) * (((a0.length:Int) - 1)+1)<=281474976710656/\(((a0.length:Int) - 1)+1)<=9223372036854775807) (AO (0<=(((a0.length:Int) - 1)+1)/\((8:Nat):Int) * (((a0.length:Int) - 1)+1)<=281474976710656/\(((a0.length:Int) - 1)+1)<=9223372036854775807) ((FD a0) a0 (Qzz (((a0.length:Int) - 1)+1).toNat (0:Int)) (Qzz (((a0.length:Int) - 1)+1).toNat (0:Int)))))))
theorem P6{a0:List Int}{c:Value}(m:AH (.int .i64) H c a0){r:AjK×Bool}(h:Ey a0=some r):
  Qqv 76 [c] w (fun v w'=>∃ u0 u1 u2,v=.tuple #[.agg #[u0,u1,u2],.bool r.2]/\AH (.int .i64) (un H (nw w w')) u0 (r.1.1)/\Ck 3 (.int .i64) H w w' u1 (r.1.2.1)/\Ck 3 (.int .i64) H w w' u2 (r.1.2.2)):=by
 refine A1 77 [(0,c)] func76 Z fun hL=>Ak<|AA G0.e Z hL fun w1 b1 ga gw _=>A7 1 Z<|Bu 1 Z<|Aj (Bc m)<|Az h fun gb h=>Aj (A5 gb)<|A7 1 Z<|Bt ((List Int)×(List Int)×(List Int)×Nat×Value×Value×(List Value)×Value×(List Value)) (fun⟨ab,bf,ac,bjb43,d,e,ay,f,p⟩=>[(0,c),(2,(AaD b1)),(4,No ((a0.length:Int) - 1)),(5,(AaD bjb43))]) (fun⟨ab,bf,ac,bjb43,d,e,ay,f,p⟩ wr=>Fl w [.box bjb43 [d,e,f] 98,.row f 3 1 (ac).length p,.row e 3 1 (bf).length ay,.box b1 [Aa4,Aa4,Aa4] 98] wr fun Oz=>AH (.int .i64) (gz H w wr Oz) d ab/\AI (.int .i64) (gz H w wr Oz) ac p/\AI (.int .i64) (gz H w wr Oz) bf ay/\(FD a0) ab bf ac=some r) ?_ ?_
 ·refine Qm (Qqz 0 4 (.q 5 (.q 6 (.h3 4 (.h2 7 (.q 8 (.h 9 (.tail 10))) 9 (.h 7 (.q 8 (.tail 10)))) 7 (.h2 4 (.q 8 (.h 9 (.tail 10))) 9 (.h 4 (.q 8 (.tail 10)))) 9 (.h2 4 (.h 7 (.q 8 (.tail 10))) 7 (.h 4 (.q 8 (.tail 10)))))))) mixed Qqb (fun hh fx=>?_);have b5:=ga.call fx;refine D4 1 Z<|CF Z (AT (fun _=>AfV _ m.one _)) Z<|D4 1 Z<|Az h fun fy h=>CF Z (A5 fy) Z<|D4 1 Z<|Az h fun fz h=>CF Z (A5 fz) Z<|Ajg ?_ ?_ ?_
  ·refine Az h fun ax h=>ME 0 (r:=(.int .i64)) Z Z Z Z Ahy (fun _=>Z) Z hH b5 ax fun cq hi b6 dm gk a7=>Y0 ?_ ?_
   ·refine Az h fun ao h=>ME 0 (r:=(.int .i64)) Z Z Z Z Ahy (fun _=>Z) Z hH dm ao fun gc hj f0 b7 ew b8=>CF Z (AT (fun _=>Lu _ _ (row_one (b7.at (i:=1) Z)) _ (row_one (b7.at (i:=0) Z)) _)) Z<|Pn Z G0.e Z Z b7 fun hk gd dn cr=>BU (fun hl dp=>?_);have b9:=dn.call dp;have cs:=AR dn dp;refine Ag 0 Z b9 Z (a:=(Br m.one (Br (row_one (b9.at (i:=2) Z)) (Br (row_one (b9.at (i:=1) Z)) K9)))) fun hm f1 ct=>AL ?_;have a7:=a7.mono (Aa (ew.trans (cr.trans (cs.trans ct))));have b8:=b8.mono (Aa (cr.trans (cs.trans ct)));refine A8 (a0,(Qzz (((a0.length:Int) - 1)+1).toNat (0:Int)),(Qzz (((a0.length:Int) - 1)+1).toNat (0:Int)),gd,c,cq,b6,gc,f0) ⟨f1,(m.mono  Ah),b8,a7,h⟩
   refine Az h fun ao h=>Pn Z G0.e Z Z dm fun hn fu f2 ex=>ME 0 (r:=(.int .i64)) Z Z Z Z Ahy (fun _=>Z) Z hH f2 ao fun dq ho dr bj ey ca=>CF Z (AT (fun _=>Lu _ _ (row_one (bj.at (i:=2) Z)) _ (row_one (bj.at (i:=0) Z)) _)) Z<|BU (fun hq ds=>?_);have cb:=bj.call ds;have cu:=AR bj ds;refine Ag 1 Z cb Z (a:=(Br m.one (Br (row_one (cb.at (i:=2) Z)) (Br (row_one (cb.at (i:=0) Z)) K9)))) fun ge dt cv=>AL ?_;have du:Bb w [.box fu [c,cq,dq] 98,.row dq 3 1 ((Qzz (((a0.length:Int) - 1)+1).toNat (0:Int))).length dr,.row cq 3 1 ((Qzz (((a0.length:Int) - 1)+1).toNat (0:Int))).length b6,.box b1 [Aa4,Aa4,Aa4] 98] ge:=dt.C0 [1] Z;have cw:=B2 [1] dt du Z;have a7:=a7.mono (Aa (ex.trans (ey.trans (cu.trans (cv.trans cw)))));have ca:=ca.mono (Aa (cu.trans (cv.trans cw)))
   refine A8 (a0,(Qzz (((a0.length:Int) - 1)+1).toNat (0:Int)),(Qzz (((a0.length:Int) - 1)+1).toNat (0:Int)),fu,c,cq,b6,dq,dr) ⟨du,(m.mono  Ah),ca,a7,h⟩
  ·refine Az h fun ax h=>Az h fun ao h=>ME 0 (r:=(.int .i64)) Z Z Z Z Ahy (fun _=>Z) Z hH b5 ao fun bg hr bk dv gl a8=>Y0 ?_ ?_
   ·refine ME 0 (r:=(.int .i64)) Z Z Z Z Ahy (fun _=>Z) Z hH dv ax fun dw hs dx cc ez cd=>CF Z (AT (fun _=>Lu _ _ (row_one (cc.at (i:=0) Z)) _ (row_one (cc.at (i:=1) Z)) _)) Z<|Pn Z G0.e Z Z cc fun ht fv dy cx=>BU (fun hu dz=>?_);have ce:=dy.call dz;have cy:=AR dy dz;refine Ag 0 Z ce Z (a:=(Br m.one (Br (row_one (ce.at (i:=1) Z)) (Br (row_one (ce.at (i:=2) Z)) K9)))) fun gf d0 cz=>AL ?_;have d1:Bb w [.box fv [c,dw,bg] 98,.row bg 3 1 ((Qzz (((a0.length:Int) - 1)+1).toNat (0:Int))).length bk,.row dw 3 1 ((Qzz (((a0.length:Int) - 1)+1).toNat (0:Int))).length dx,.box b1 [Aa4,Aa4,Aa4] 98] gf:=d0.C0 [2,1] Z;have c0:=B2 [2,1] d0 d1 Z;have a8:=a8.mono (Aa (ez.trans (cx.trans (cy.trans (cz.trans c0)))));have cd:=cd.mono (Aa (cx.trans (cy.trans (cz.trans c0))));refine A8 (a0,(Qzz (((a0.length:Int) - 1)+1).toNat (0:Int)),(Qzz (((a0.length:Int) - 1)+1).toNat (0:Int)),fv,c,dw,dx,bg,bk) ⟨d1,(m.mono  Ah),a8,cd,h⟩
   refine Pn Z G0.e Z Z dv fun hv fw f3 e0=>ME 0 (r:=(.int .i64)) Z Z Z Z Ahy (fun _=>Z) Z hH f3 ax fun d2 hw d3 bl e1 cf=>CF Z (AT (fun _=>Lu _ _ (row_one (bl.at (i:=0) Z)) _ (row_one (bl.at (i:=2) Z)) _)) Z<|BU (fun hx d4=>?_);have cg:=bl.call d4;have c1:=AR bl d4;refine Ag 1 Z cg Z (a:=(Br m.one (Br (row_one (cg.at (i:=0) Z)) (Br (row_one (cg.at (i:=2) Z)) K9)))) fun gg d5 c2=>AL ?_;have d6:Bb w [.box fw [c,d2,bg] 98,.row bg 3 1 ((Qzz (((a0.length:Int) - 1)+1).toNat (0:Int))).length bk,.row d2 3 1 ((Qzz (((a0.length:Int) - 1)+1).toNat (0:Int))).length d3,.box b1 [Aa4,Aa4,Aa4] 98] gg:=d5.C0 [2,2] Z;have c3:=B2 [2,2] d5 d6 Z;have a8:=a8.mono (Aa (e0.trans (e1.trans (c1.trans (c2.trans c3)))));have cf:=cf.mono (Aa (c1.trans (c2.trans c3)));refine A8 (a0,(Qzz (((a0.length:Int) - 1)+1).toNat (0:Int)),(Qzz (((a0.length:Int) - 1)+1).toNat (0:Int)),fw,c,d2,d3,bg,bk) ⟨d6,(m.mono  Ah),a8,cf,h⟩
  refine Az h fun ax h=>Az h fun ao h=>Pn Z G0.e Z Z b5 fun hy c4 d7 gm=>Y0 ?_ ?_
  ·refine ME 0 (r:=(.int .i64)) Z Z Z Z Ahy (fun _=>Z) Z hH d7 ax fun d8 hz d9 f4 gn ch=>ME 0 (r:=(.int .i64)) Z Z Z Z Ahy (fun _=>Z) Z hH f4 ao fun ea h0 eb bm e2 ci=>CF Z (AT (fun _=>Lu _ _ (row_one (bm.at (i:=1) Z)) _ (row_one (bm.at (i:=0) Z)) _)) Z<|BU (fun h1 ec=>?_);have cj:=bm.call ec;have c5:=AR bm ec;refine Ag 2 Z cj Z (a:=(Br m.one (Br (row_one (cj.at (i:=1) Z)) (Br (row_one (cj.at (i:=0) Z)) K9)))) fun gh ed c6=>AL ?_;have ee:Bb w [.box c4 [c,d8,ea] 98,.row ea 3 1 ((Qzz (((a0.length:Int) - 1)+1).toNat (0:Int))).length eb,.row d8 3 1 ((Qzz (((a0.length:Int) - 1)+1).toNat (0:Int))).length d9,.box b1 [Aa4,Aa4,Aa4] 98] gh:=ed.C0 [2] Z;have c7:=B2 [2] ed ee Z;have ch:=ch.mono (Aa (e2.trans (c5.trans (c6.trans c7))));have ci:=ci.mono (Aa (c5.trans (c6.trans c7)))
   refine A8 (a0,(Qzz (((a0.length:Int) - 1)+1).toNat (0:Int)),(Qzz (((a0.length:Int) - 1)+1).toNat (0:Int)),c4,c,d8,d9,ea,eb) ⟨ee,(m.mono  Ah),ci,ch,h⟩
  refine ME 0 (r:=(.int .i64)) Z Z Z Z Ahy (fun _=>Z) Z hH d7 ao fun ef h4 eg f5 go ck=>ME 0 (r:=(.int .i64)) Z Z Z Z Ahy (fun _=>Z) Z hH f5 ax fun eh h5 ei bn e3 cl=>CF Z (AT (fun _=>Lu _ _ (row_one (bn.at (i:=0) Z)) _ (row_one (bn.at (i:=1) Z)) _)) Z<|BU (fun h6 ej=>?_);have cm:=bn.call ej;have c8:=AR bn ej;refine Ag 2 Z cm Z (a:=(Br m.one (Br (row_one (cm.at (i:=0) Z)) (Br (row_one (cm.at (i:=1) Z)) K9)))) fun gi ek c9=>AL ?_;have el:Bb w [.box c4 [c,eh,ef] 98,.row ef 3 1 ((Qzz (((a0.length:Int) - 1)+1).toNat (0:Int))).length eg,.row eh 3 1 ((Qzz (((a0.length:Int) - 1)+1).toNat (0:Int))).length ei,.box b1 [Aa4,Aa4,Aa4] 98] gi:=ek.C0 [1,2] Z;have da:=B2 [1,2] ek el Z;have ck:=ck.mono (Aa (e3.trans (c8.trans (c9.trans da))));have cl:=cl.mono (Aa (c8.trans (c9.trans da)))
  refine A8 (a0,(Qzz (((a0.length:Int) - 1)+1).toNat (0:Int)),(Qzz (((a0.length:Int) - 1)+1).toNat (0:Int)),c4,c,eh,ei,ef,eg) ⟨el,(m.mono  Ah),ck,cl,h⟩
 rintro⟨ab,bf,ac,bjb43,d,e,ay,f,p⟩ gx ⟨em,e4,e5,e6,h⟩;have cn:=em.rG H;refine AJ 1 Z<|Bt ((List Int)×(List Value)) (fun⟨t,o⟩=>[(0,c),(2,(AaD b1)),(4,No ((a0.length:Int) - 1)),(5,(AaD bjb43))]) (fun⟨t,o⟩ wr=>Fl w [.box bjb43 [d,e,f] 98,.row f 3 1 (ac).length p,.row e 3 1 (t).length o,.box b1 [Aa4,Aa4,Aa4] 98] wr fun Oz=>AH (.int .i64) (gz H w wr Oz) d ab/\AI (.int .i64) (gz H w wr Oz) ac p/\AI (.int .i64) (gz H w wr Oz) t o/\(FC a0 ab ac) t=some r) ?_ ?_
 ·refine AJ 1 Z<|A3 ?_;obtain⟨co,h⟩:=Ba h;refine B6 ((List Int)×Int×Int×(List Value)×Nat) (fun⟨ap,aj,k,ag,n⟩=>[(0,c),(2,(AaD b1)),(4,No ((a0.length:Int) - 1)),(5,(AaD bjb43)),(6,No aj),(24,No k)]) (fun⟨ap,aj,k,ag,n⟩ wr=>Fl w [.box bjb43 [d,e,f] 98,.row f 3 1 (ac).length p,.row e 3 1 (ap).length ag,.box b1 [Aa4,Aa4,Aa4] 98] wr fun Oz=>AH (.int .i64) (gz H w wr Oz) d ab/\AI (.int .i64) (gz H w wr Oz) ac p/\AI (.int .i64) (gz H w wr Oz) ap ag/\HG (Dj a0 ab ac) n (ap,aj,k)=some r) (fun⟨ap,aj,k,ag,n⟩=>n) (bf,1,0,ay,co) Z ⟨em,(e4.mono cn),(e5.mono cn),(e6.mono cn),h⟩ ?_;rintro⟨ap,aj,k,ag,nn237⟩ gp ⟨bo,bh,he237_j47,b2,h⟩;obtain⟨co,en,rfl,h,db⟩:=AY h;have av:=bo.rG H;refine AJ 1 Z<|AD<|AP h ?_ ?_<;>intro e7 h
  ·refine Aw<|As<|Bt ((List Int)×Int×(List Value)) (fun⟨a9,aq,ar⟩=>[(0,c),(2,(AaD b1)),(4,No ((a0.length:Int) - 1)),(5,(AaD bjb43)),(6,No aq),(24,No k)]) (fun⟨a9,aq,ar⟩ wr=>Fl w [.box bjb43 [d,e,f] 98,.row f 3 1 (ac).length p,.row e 3 1 (a9).length ar,.box b1 [Aa4,Aa4,Aa4] 98] wr fun Oz=>AH (.int .i64) (gz H w wr Oz) d ab/\AI (.int .i64) (gz H w wr Oz) ac p/\AI (.int .i64) (gz H w wr Oz) a9 ar/\(F8 k) a9 aq=some en) ?_ ?_
   ·refine A3<|AJ 2 Z<|Bu 1 Z<|Aj (Bc m)<|A7 1 Z<|A3 ?_;obtain⟨bp,h⟩:=Ba h;refine B6 ((List Int)×Int×Int×(List Value)×Nat) (fun⟨al,u,l,ah,n⟩=>[(0,c),(2,(AaD b1)),(4,No ((a0.length:Int) - 1)),(5,(AaD bjb43)),(6,No u),(7,No k),(24,No k),(27,c),(28,No (a0.length:Int)),(29,No l)]) (fun⟨al,u,l,ah,n⟩ wr=>Fl w [.box bjb43 [d,e,f] 98,.row f 3 1 (ac).length p,.row e 3 1 (al).length ah,.box b1 [Aa4,Aa4,Aa4] 98] wr fun Oz=>AH (.int .i64) (gz H w wr Oz) d ab/\AI (.int .i64) (gz H w wr Oz) ac p/\AI (.int .i64) (gz H w wr Oz) al ah/\HG (Di a0 k) n (al,u,l)=some en) (fun⟨al,u,l,ah,n⟩=>n) (ap,aj,0,ag,bp) Z ⟨bo,(bh.mono av),(he237_j47.mono av),(b2.mono av),h⟩ ?_;rintro⟨al,u,l,ah,nn299⟩ gq ⟨am,ba,he299_j47,be,h⟩;obtain⟨bp,gy,rfl,h,bq⟩:=AY h;have y:=am.rG H;refine AJ 1 Z<|AD<|AP h ?_ ?_<;>intro e8 h
    ·refine Aw<|As<|AD<|A3<|Bu 1 Z<|Az h fun dc h=>Bf m l.toNat (Gy dc) (AW dc) ?_;rintro g0 _ rfl e9;refine Aj (Bl e9 (hH.trans am.arg))<|A7 2 Z<|AJ 3 Z<|AP h ?_ ?_<;>intro fa h
     ·refine Ak<|Aj (Ae Z Aj8 Z Sn.e)<|Aj (Af 0 Z am Z)<|Aq 2 Z<|Az h fun br h=>KA 2 Z Ahy CO.e am Z l.toNat (Gy br) (AW br) fun g1 fb=>KB 2 l.toNat u Z Z hH am Z (be.mono y) fb (AW br) Z fun g2 fc fd eo fe=>Ac<|Au<|Aq 1 Z<|Az h fun ff h=>Aj (A5 ff)<|Aq 1 Z<|AL<|A2<|As<|Au<|Az h fun fg h=>Aj (A5 fg)<|Aq 1 Z<|AL ?_;have h:=Cg.again h bq;have y:=y.trans (Aa eo);refine AN (_,_,_,_,_) Z ⟨fd,(ba.mono y),(he299_j47.mono y),fe,h⟩
     refine Aw<|A2<|As<|Au<|Az h fun fh h=>Aj (A5 fh)<|Aq 1 Z<|AL ?_;have h:=Cg.again h bq;refine AN (_,_,_,_,_) Z ⟨am,(ba.mono y),(he299_j47.mono y),(be.mono y),h⟩
    refine B4<|AE<|A6 ?_;have h:=Cg.out h bq;refine Bi<|A2<|A8 (_,_,_) ⟨am,(ba.mono y),(he299_j47.mono y),(be.mono y),h⟩
   rintro⟨a9,aq,ar⟩ gr ⟨dd,dk,he279_j47,ep,h⟩;have bs:=dd.rG H;refine Au<|Az h fun fi h=>Aj (A5 fi)<|Aq 1 Z<|AL ?_;have h:=Cg.again h db;refine AN (_,_,_,_,_) Z ⟨dd,(dk.mono bs),(he279_j47.mono bs),(ep.mono bs),h⟩
  refine B4<|AE<|A6 ?_;have h:=Cg.out h db;refine Bi<|A8 (_,_) ⟨bo,(bh.mono av),(he237_j47.mono av),(b2.mono av),h⟩
 rintro⟨t,o⟩ gs ⟨de,dl,he189_j47,eq,h⟩;have bt:=de.rG H;refine AJ 1 Z<|Bt ((List Int)×Int×(List Value)) (fun⟨an,a,az⟩=>[(0,c),(2,(AaD b1)),(5,(AaD bjb43)),(10,No a)]) (fun⟨an,a,az⟩ wr=>Fl w [.box bjb43 [d,e,f] 98,.row f 3 1 (an).length az,.row e 3 1 (t).length o,.box b1 [Aa4,Aa4,Aa4] 98] wr fun Oz=>AH (.int .i64) (gz H w wr Oz) d ab/\AI (.int .i64) (gz H w wr Oz) an az/\AI (.int .i64) (gz H w wr Oz) t o/\(FA a0 ab t) an a=some r) ?_ ?_
 ·refine AJ 2 Z<|A3 ?_;obtain⟨cp,h⟩:=Ba h;refine B6 ((List Int)×Int×Int×(List Value)×Nat) (fun⟨au,g,x,ak,n⟩=>[(0,c),(2,(AaD b1)),(5,(AaD bjb43)),(10,No g),(11,No x)]) (fun⟨au,g,x,ak,n⟩ wr=>Fl w [.box bjb43 [d,e,f] 98,.row f 3 1 (au).length ak,.row e 3 1 (t).length o,.box b1 [Aa4,Aa4,Aa4] 98] wr fun Oz=>AH (.int .i64) (gz H w wr Oz) d ab/\AI (.int .i64) (gz H w wr Oz) au ak/\AI (.int .i64) (gz H w wr Oz) t o/\HG (C4 a0 ab t) n (au,g,x)=some r) (fun⟨au,g,x,ak,n⟩=>n) (ac,0,((a0.length:Int) - 1),p,cp) Z ⟨de,(dl.mono bt),(he189_j47.mono bt),(eq.mono bt),h⟩ ?_;rintro⟨au,g,x,ak,nn382⟩ gt ⟨a1,bi,b3,he382_j45,h⟩;obtain⟨cp,g3,rfl,h,bu⟩:=AY h;refine AD ?_;have ad:=a1.rG H;refine AJ 2 Z<|AP h ?_ ?_<;>intro fj h
  ·refine Aw<|As<|AD<|A3<|Ak<|Aj (Ae Z Aj8 Z Sn.e)<|Aj (Af 0 Z a1 Z)<|Aq 2 Z<|Az h fun bv h=>KA 1 Z Ahy CO.e a1 Z g.toNat (Gy bv) (AW bv) fun g4 fk=>KB 1 g.toNat x Z Z hH a1 Z (b3.mono ad) fk (AW bv) Z fun g5 fl a2 er fm=>Ac<|AD<|Bu 2 Z<|Az h fun df h=>Bf m g.toNat (Gy df) (AW df) ?_;rintro g6 _ rfl fn;refine Aj (Bl fn (hH.trans a2.arg))<|A7 1 Z<|AP h ?_ ?_<;>intro fo h
   ·refine Ak<|Aj (AT (fun _=>Abf _))<|Ag 3 Z a2 Z fun g7 dg gj=>A7 1 Z<|Ay<|Ar<|Av<|Ar<|BG ?_;have h:=Cg.out h bu;refine Av<|Bh ?_
    cases h
    refine Bv (.cell Z Aj8 Z G0.e (AK (i:=3) dg Z)) (.tmp Z) ⟨dg.ext,_,_,_,Z,(AH.nil _ _),Ck.nil,Ck.nil⟩
   refine Aw<|As<|Au<|Aj (Ae Z Aj8 Z Sn.e)<|Aj (Af 0 Z a2 Z)<|Aq 1 Z<|Az h fun dh h=>?_;have ad:=ad.trans (Aa er);refine Bf (a2.RJ hH (i:=2) Z (he382_j45.mono ad)) g.toNat (Gy dh) (AW dh) ?_;rintro g8 _ rfl fp;refine Aj (Bl fp (Le.refl _))<|Aq 1 Z<|AL<|A2<|As<|Au<|Aq 1 Z<|Az h fun fq h=>Aj (A5 fq)<|Aq 1 Z<|AL ?_;have h:=Cg.again h bu;refine AN (_,_,_,_,_) Z ⟨a2,(bi.mono ad),fm,(he382_j45.mono ad),h⟩
  refine B4<|AE<|A6 ?_;have h:=Cg.out h bu;refine Bi<|A8 (_,_,_) ⟨a1,(bi.mono ad),(b3.mono ad),(he382_j45.mono ad),h⟩
 rintro⟨an,a,az⟩ gu ⟨bb,af,es,he361_j45,h⟩;have s:=bb.rG H;refine Ak<|Aj (Ae Z Aj8 Z Sn.e)<|Aj (Af 0 Z bb Z)<|Aq 1 Z<|Az h fun bw h=>KA 1 Z Ahy CO.e bb Z a.toNat (Gy bw) (AW bw) fun g9 fr=>KB 1 a.toNat 0 Z Z hH bb Z (es.mono s) fr (AW bw) Z fun ha bx di b4 aw=>Ac<|Bt ((List Int)×Bool×Value) (fun⟨bz,a3,bc⟩=>[(2,(AaD b1)),(3,.bool a3)]) (fun⟨bz,a3,bc⟩ wr=>Fl w [.box bjb43 [d,e,f] 98,.row f 3 1 ((an.set a.toNat (0:Int))).length bx,.row e 3 1 (t).length o,.box b1 [bc,e,f] 98] wr fun Oz=>AH (.int .i64) (gz H w wr Oz) d ab/\AI (.int .i64) (gz H w wr Oz) ((an.set a.toNat (0:Int))) bx/\AI (.int .i64) (gz H w wr Oz) t o/\AH (.int .i64) (gz H w wr Oz) bc bz/\(F9 t an a) bz a3=some r) ?_ ?_
 ·refine Ko (Ox Ns) (fun z0 z=>Le (gz H w z0 [.box bjb43 [d,e,f] 98,.row f 3 1 ((an.set a.toNat (0:Int))).length bx,.row e 3 1 (t).length o,.box b1 [Aa4,Aa4,Aa4] 98]) (hp z)/\z.heap[bjb43]? = some (.cells [d,e,f].toArray 98 (0,0))) mixed Z (fun ae hc dj=>?_);have aa:=di.call dj;have a4:=AR di dj;have b:=aa.rG H;refine Nv ⟨b.trans (Ao aa),aa.at (i:=0) Z⟩ fun kI426=>A9 0 ae kI426 Z (fun _ hI=>MR hI.2) Z<|A9 1 ae kI426 Z (fun _ _=>Ai Z) Z<|A9 2 ae kI426 Z (fun _ _=>Ai Z) Z<|NI2 3 6 Z Z ?_ ?_
  ·refine Az h fun a5 h=>Bf m a.toNat (Gy a5) (AW a5) ?_;rintro hd _ rfl fs;refine AX ⟨b.trans (Ao aa),aa.at (i:=0) Z⟩ fun kI429=>A9 4 ae kI429 Z (fun _ hI=>Bl (fs.mono  Ah) hI.1) Z<|A9 5 ae kI429 Z (fun _ _=>Ai Z) Z<|FX 6 Z ?_;have s:=s.trans (Aa (b4.trans a4));refine Ag 3 Z aa Z (a:=(Br ((af.mono s).mono b).one (Br (row_one (aa.at (i:=2) Z)) (Br (row_one (aa.at (i:=1) Z)) K9)))) ?_;intro he b0 et;have b:=b.trans (Aa et);refine AX ⟨b.trans (Ao b0),b0.at (i:=0) Z⟩ fun kI431=>A9 7 ae kI431 Z (fun _ _=>Ai Z) Z<|ER ?_;have aw:=aw.mono (Aa a4);refine A8 (_,_,_) ⟨b0,((af.mono s).mono b),(aw.mono b),((he361_j45.mono s).mono b),((af.mono s).mono b),h⟩
  refine Az h fun a5 h=>?_;have s:=s.trans (Aa (b4.trans a4));refine Ag 3 Z aa Z (a:=(Br ((af.mono s).mono b).one (Br (row_one (aa.at (i:=2) Z)) (Br (row_one (aa.at (i:=1) Z)) K9)))) ?_;intro hf a6 eu;have b:=b.trans (Aa eu);refine AX ⟨b.trans (Ao a6),a6.at (i:=0) Z⟩ fun kI433=>FX 3 Z<|Bf m a.toNat (Gy a5) (AW a5) ?_;rintro hg _ rfl ft;refine AX ⟨b.trans (Ao a6),a6.at (i:=0) Z⟩ fun kI435=>A9 4 ae kI435 Z (fun _ hI=>Bl (ft.mono  Ah) hI.1) Z<|A9 5 ae kI435 Z (fun _ _=>Ai Z) Z<|A9 7 ae kI435 Z (fun _ _=>Ai Z) Z<|ER ?_;have aw:=aw.mono (Aa a4);refine A8 (_,_,_) ⟨a6,((af.mono s).mono b),(aw.mono b),((he361_j45.mono s).mono b),((af.mono s).mono b),h⟩
 rintro⟨bz,a3,bc⟩ gv ⟨bd,f6,he421_j47,he421_j45,ev,h⟩;refine Ay ?_
 cases h
 refine Bv (.cell Z Aj8 Z G0.e (AK (i:=3) bd Z)) (.tmp Z) ⟨bd.ext,_,_,_,Z,(ev.mono  EC),(bd.Ip hH (i:=2) Z he421_j45),(bd.Ip hH (i:=1) Z he421_j47)⟩
def Ii(a0:((List Int))×(List Int)×(List Int))(a1 a2:Int):Option (Ac3×(Int×Int)):=
 if a1<0 then none else Qq4 (Ef (a0.1,a0.2.1,a0.2.2)) (fun d=>if d<a1 then none else(if a2<a1 then none else Qq4 (Ef (a0.1,a0.2.1,a0.2.2)) (fun b=>if b<a2 then none else Qq4 (Jr (a0.1,a0.2.1,a0.2.2)) (fun a=>AO (0<=a1/\a1<=a2/\a2<=(a.length:Int)) (Qq4 (Ft ((a.drop a1.toNat).take (a2.toNat - a1.toNat))) (fun c=>some (c,(0,0))))))))
theorem O4{a0:((List Int))×(List Int)×(List Int)}{a1 a2:Int}{d e f:Value}(g:AH (.int .i64) H d (a0.1))(j:AH (.int .i64) H e (a0.2.1))(k:AH (.int .i64) H f (a0.2.2)){r:Ac3×(Int×Int)}(h:Ii a0 a1 a2=some r):
  Qqv 60 [.agg #[d,e,f],No a1,No a2] w (fun v w'=>∃ u0,v=.tuple #[u0,.agg #[No r.2.1,No r.2.2]]/\Ck 5 .byte H w w' u0 (r.1)):=by
 refine A1 34 [(0,.agg #[d,e,f]),(1,No a1),(2,No a2)] func60 Z fun hL=>Ak<|CB (t:=98) Z Z hL fun w1 b1 ak ar _=>Aq 1 Z<|AA AG.e Z ak fun w2 b2 p au _=>Ac<|AD<|Bu 3 Z<|BT 10 h ?_ ?_<;>intro b h
 ·iterate 4 refine An b ?_
  refine Aj (AB b Z)<|Ac<|EO ?_
  cases h
 refine Ab b<|Aj (Ai Z)<|Ab b<|Aj (A4 1 Z G0.e p Z)<|Ab b<|Ax h fun x6 al h=>AF p (GR _ _ (Ao p) (a0.1,a0.2.1,a0.2.2) (g.mono  Ah) (j.mono  Ah) (k.mono  Ah) al) fun w7 ay q av=>Ab b<|Aj (Ai Z)<|Aj (AM b Z)<|Ac<|AP h ?_ ?_<;>intro am h
 ·cases h
 refine Aw<|As<|AD<|Bu 4 Z<|BT 20 h ?_ ?_<;>intro a h
 ·iterate 4 refine An a ?_
  refine Aj (AB a Z)<|Ac<|EO ?_
  cases h
 refine Ab a<|Aj (Ai Z)<|Ab a<|Aj (A4 1 Z G0.e q Z)<|Ab a<|Ax h fun az ab h=>AF q (GR _ _ (Ao q) (a0.1,a0.2.1,a0.2.2) (g.mono  Ah) (j.mono  Ah) (k.mono  Ah) ab) fun a3 aw c an=>Ab a<|Aj (Ai Z)<|Aj (AM a Z)<|Ac<|AP h ?_ ?_<;>intro ac h
 ·cases h
 refine Aw<|As<|Ak<|Aj (A4 1 Z G0.e c Z)<|Ax h fun a4 ad h=>Bk c (Qc (a0:=(a0.1,a0.2.1,a0.2.2)) _ _ (Ao c) (g.mono  Ah) (j.mono  Ah) (k.mono  Ah) ad) ?_;rintro ao a5 ⟨_,rfl,s⟩ ae l ap;have u:=s.Dz hH c ae;refine Aq 2 Z<|Az h fun af h=>Adg u af fun a6 ag=>Ax h fun a7 ah h=>Bk l (K0 _ _ (Ao l) ag ah) ?_;rintro aq a8 ⟨_,rfl,x⟩ ai y z;obtain⟨ax,y,z,m⟩:=x.take hH l ai;refine Aj (AT (fun _=>BM _))<|Aq 1 Z<|Ag 1 Z y Z fun a9 o aa=>Ac<|Ay ?_
 cases h
 refine Bv (.tmp Z) (.cell Z Aji Z AG.e (AK (i:=1) o Z)) ?_;have m:=m.mono (Aa aa);exact⟨o.ext,_,Z,(o.Ip hH (i:=0) Z m)⟩
def FE(a1:Int):Option ((List Int)):=
 AO (Bw (0 - 0)) (AO (Bw (a1 - (0 - 0))) (if 0<(a1 - (0 - 0)) then AO (0<(a1 - (0 - 0))/\(a1 - (0 - 0)) * 8<=281474976710656) (some (([]:List Int))) else some ([])))
def Hi(_a0:List Int)(a1:Int):Option ((List Int)):=
 if a1<0 then none else(FE a1)
theorem P7{a0:List Int}{a1:Int}(_:AH (.int .i64) H Aa4 a0){r:(List Int)}(h:Hi a0 a1=some r):
  Qqv 124 [Aa4,No a1] w (fun v w'=>∃ x,v=x/\Ck 3 (.int .i64) H w w' x r):=by
 refine A1 27 [(0,Aa4),(1,No a1)] func124 Z fun hL=>AJ 1 Z<|Bt Unit (fun(_:Unit)=>[(0,Aa4),(1,No a1)]) (fun(_:Unit) wr=>Bb w [] wr/\(FE a1)=some r) ?_ ?_
 ·refine AJ 2 Z<|AP h ?_ ?_<;>intro y h
  ·refine Au ?_
   cases h
  refine Aw<|A8 () ⟨hL,h⟩
 rintro _ ac ⟨d,h⟩;refine AD<|Bu 2 Z<|Aj (AaO Z)<|Aq 1 Z<|Aj (UF Z)<|Az h fun g h=>Aj (A5 g)<|Az h fun j h=>Aj (A5 j)<|A7 1 Z<|AJ 2 Z<|AP h ?_ ?_<;>intro l h
 ·refine Au<|Aq 2 Z<|Aj (AaO Z)<|Aj UR<|Aq 1 Z<|Az h fun ab h=>?_;obtain⟨z,o⟩:=QxA (show 0<=(a1 - (0 - 0)) by omega);refine AaP (k:=.i64) (m:=z) (by rw [<- o];rfl) Ahy U U U fun f a c ad p q s t u=>Aq 1 Z<|Aj (UF Z)<|Aj (Adi Z) ?_;obtain⟨b,aa⟩:=Nr (v:=.slice (some ⟨f,0,none⟩) 0 a) (e:=3) (sz:=1) (m:=0) (xs:=[]) d p ⟨Z,.inr ⟨f,a,c,Z,q,s,Qz6 _,t,by rw [u,Nat.mul_one],Z⟩⟩;refine Aq 1 Z<|AL<|As<|AJ 2 Z<|Ay ?_
  cases h
  refine Am Z ⟨b.ext,_,Z,(b.Ip hH (i:=0) Z .nil)⟩
 refine Aw<|As<|AJ 2 Z<|Ay ?_
 cases h
 refine Am Z ⟨d.ext,_,Z,Ck.nil⟩
def G2(a:List Int):Option ((List Int)):=
 some a
def BA(a0:List (List Int)):(List Int)×Int->Option (((List Int)×Int) ⊕ ((List Int))):=fun⟨b,a⟩=>
 if a<(a0.length:Int) then AO (0<=a/\a<(a0.length:Int)) (AO (Go.E.Io 8 (b.length+(a0.getD a.toNat Qq2).length)) (AO (Bw (a+1)) (some (Sum.inl ((b++a0.getD a.toNat Qq2),(a+1)))))) else Qq7 Sum.inr (G2 b)
def EI(a0:List (List Int))(s:(List Int)×Int):Option ((List Int)):=Go.L.run (BA a0) s
def EJ(a0:List (List Int))(a:Int):Option ((List Int)):=
 Qq4 (Hi ([]) a) (fun b=>(EI a0) (b,0))
def BB(a0:List (List Int)):Int×Int->Option ((Int×Int) ⊕ ((List Int))):=fun⟨b,a⟩=>
 if a<(a0.length:Int) then AO (0<=a/\a<(a0.length:Int)) (AO (Bw (b+((a0.getD a.toNat Qq2).length:Int))) (if(b+((a0.getD a.toNat Qq2).length:Int))<0 then none else AO (Bw (a+1)) (some (Sum.inl ((b+((a0.getD a.toNat Qq2).length:Int)),(a+1)))))) else Qq7 Sum.inr ((EJ a0) b)
def G3(a0:List (List Int))(s:Int×Int):Option ((List Int)):=Go.L.run (BB a0) s
def E9(a0:List (List Int)):Option ((List Int)):=
 (G3 a0) (0,0)
theorem O5{a0:List (List Int)}{e:Value}(o:AH (.vec (.int .i64)) H e a0){r:(List Int)}(h:E9 a0=some r):
  Qqv 75 [e] w (fun v w'=>∃ u0,v=u0/\Ck 3 (.int .i64) H w w' u0 r):=by
 refine A1 36 [(0,e)] func75 Z fun hL=>AJ 1 Z<|AJ 1 Z<|Bt Int (fun j=>[(0,e),(3,No j)]) (fun j wr=>Bb w [] wr/\(EJ a0) j=some r) ?_ ?_
 ·refine Bu 1 Z<|Aj (Bc o)<|A7 1 Z<|A3 ?_;obtain⟨y,h⟩:=Ba h;refine B6 (Int×Int×Nat) (fun⟨c,b,n⟩=>[(0,e),(3,No c),(9,e),(10,No (a0.length:Int)),(11,No b)]) (fun⟨c,b,n⟩ wr=>Bb w [] wr/\HG (BB a0) n (c,b)=some r) (fun⟨c,b,n⟩=>n) (0,0,y) Z ⟨hL,h⟩ ?_;rintro⟨c,b,nn42⟩ a7 ⟨s,h⟩;obtain⟨y,bb,rfl,h,z⟩:=AY h;refine AJ 1 Z<|AD<|AP h ?_ ?_<;>intro al h
  ·refine Aw<|As<|AD<|A3<|Ak<|Az h fun aa h=>Bf o b.toNat (Gy aa) (AW aa) ?_;rintro bc _ ⟨e46v0,rfl,e46h0⟩ am;refine Aj (Bl am (hH.trans s.arg))<|A7 1 Z<|Bu 2 Z<|Aj (Bc e46h0)<|Az h fun an h=>Aj (A5 an)<|A7 1 Z<|AJ 2 Z<|AP h ?_ ?_<;>intro ao h
   ·refine Au ?_
    cases h
   refine Aw<|A2<|As<|Au<|Az h fun ap h=>Aj (A5 ap)<|Aq 1 Z<|AL ?_;have h:=Cg.again h z;refine AN (_,_,_) Z ⟨s,h⟩
  refine B4<|AE<|A6 ?_;have h:=Cg.out h z;refine Bi<|A8 _ ⟨s,h⟩
 rintro j a8 ⟨t,h⟩;refine Bu 1 Z<|Ax h fun a4 aq h=>Bk t (P7 _ _ (Ao t) (AH.nil _ _) aq) ?_;rintro ah bd ⟨_,rfl,ab⟩ ar ac ai;obtain⟨au,ac,ai,av⟩:=ab.take hH t ar;refine A7 1 Z<|Bt ((List Int)×Value×(List Value)) (fun⟨q,p,k⟩=>[(6,p)]) (fun⟨q,p,k⟩ wr=>Fl w [.row p 3 1 (q).length k] wr fun Oz=>AI (.int .i64) (gz H w wr Oz) q k/\G2 q=some r) ?_ ?_
 ·refine Bu 1 Z<|Aj (Bc o)<|A7 1 Z<|A3 ?_;obtain⟨ad,h⟩:=Ba h;refine B6 ((List Int)×Int×Value×(List Value)×Nat) (fun⟨f,a,g,d,n⟩=>[(6,g),(25,e),(26,No (a0.length:Int)),(27,No a)]) (fun⟨f,a,g,d,n⟩ wr=>Fl w [.row g 3 1 (f).length d] wr fun Oz=>AI (.int .i64) (gz H w wr Oz) f d/\HG (BA a0) n (f,a)=some r) (fun⟨f,a,g,d,n⟩=>n) (a4,0,ah,au,ad) Z ⟨ac,av,h⟩ ?_;rintro⟨f,a,g,d,nn92⟩ a9 ⟨u,x,h⟩;obtain⟨ad,be,rfl,h,ae⟩:=AY h;refine AJ 1 Z<|AD<|AP h ?_ ?_<;>intro aw h
  ·refine Aw<|As<|AD<|A3<|Ak<|Az h fun af h=>Bf o a.toNat (Gy af) (AW af) ?_;rintro bf _ ⟨e96v0,rfl,e96h0⟩ ax;refine Aj (Bl ax (hH.trans u.arg))<|A7 1 Z<|Au<|Aq 2 Z<|Az h fun ay h=>By (r:=(.int .i64)) 0 f (a0.getD a.toNat Qq2) Z Ahy u Z x (e96h0.mono  Ah) ay fun a5 bg az a1 a6 a2=>Aq 1 Z<|AL<|A2<|As<|Au<|Az h fun aj h=>Aj (A5 aj)<|Aq 1 Z<|AL ?_;have h:=Cg.again h ae;refine AN (_,_,_,_,_) Z ⟨a1,a2,h⟩
  refine B4<|AE<|A6 ?_;have h:=Cg.out h ae;refine Bi<|A8 (_,_,_) ⟨u,x,h⟩
 rintro⟨q,p,k⟩ ba ⟨ag,ak,h⟩;refine AJ 2 Z<|Ay ?_
 cases h
 refine Am Z ⟨ag.ext,_,Z,(ag.Ip hH (i:=0) Z ak)⟩
def Kx(a b:Int):Option (AjK×(Int×Int)):=
 some (([],[],[]),(a,b))
def Jd(b:List Int):Option (AjK×(Int×Int)):=
 Qq4 (Ey b) (fun a=>some ((a.1.1,a.1.2.1,a.1.2.2),(0,0)))
def FF(a0:Ac3)(b:(List Int)):(List Int)×Int->Option (((List Int)×Int) ⊕ (AjK×(Int×Int))):=fun⟨c,a⟩=>
 if a<(b.length:Int) then AO (0<=a/\a<(b.length:Int)) (if b.getD a.toNat Qq2=0 then AO (Go.E.Io 8 (c.length+([(-1)]).length)) (AO (Bw (a+1)) (some (Sum.inl ((c++[(-1)]),(a+1))))) else AO (Bw (b.getD a.toNat Qq2 - 1)) (AO (0<=(b.getD a.toNat Qq2 - 1)/\(b.getD a.toNat Qq2 - 1)<(a0.length:Int)) (AO (Go.E.Io 8 (c.length+([((a0.getD ((b.getD a.toNat Qq2 - 1).toNat) Qq2).toNat:Int)]).length)) (AO (Bw (a+1)) (some (Sum.inl ((c++[((a0.getD ((b.getD a.toNat Qq2 - 1).toNat) Qq2).toNat:Int)]),(a+1)))))))) else Qq7 Sum.inr (Jd c)
def M7(a0:Ac3)(a:(List Int))(s:(List Int)×Int):Option (AjK×(Int×Int)):=Go.L.run (FF a0 a) s
def JD(a0:Ac3):Option (AjK×(Int×Int)):=
 Qq4 (Kw a0) (fun a=>if a.2.1=0/\a.2.2=0 then AO (Bw ((a0.length:Int)+1)) (AO (0<=((a0.length:Int)+1)/\((8:Nat):Int) * ((a0.length:Int)+1)<=281474976710656/\((a0.length:Int)+1)<=9223372036854775807) (Qq4 (E9 ([[(a0.length:Int)],a.1])) (fun b=>(M7 a0 b) (([]:List Int),0)))) else Kx a.2.1 a.2.2)
theorem Tq{a0:Ac3}{ac:Value}(ad:AH .byte H ac a0){r:AjK×(Int×Int)}(h:JD a0=some r):
  Qqv 45 [ac] w (fun v w'=>∃ u0 u1 u2,v=.tuple #[.agg #[u0,u1,u2],.agg #[No r.2.1,No r.2.2]]/\AH (.int .i64) (un H (nw w w')) u0 (r.1.1)/\AH (.int .i64) (un H (nw w w')) u1 (r.1.2.1)/\AH (.int .i64) (un H (nw w w')) u2 (r.1.2.2)):=by
 refine A1 58 [(0,ac)] func45 Z fun hL=>Ak<|AA G0.e Z hL fun w1 b1 cy de _=>AA AG.e Z cy fun w2 b2 a7 df _=>Ac<|Bu 1 Z<|Ax h fun s cz h=>Bk a7 (Um _ _ (Ao a7) (ad.mono  Ah) cz) ?_;rintro _ w4 ⟨dg,rfl,bi⟩ c0 c2 dh;have t:=bi.Dz hH a7 c0;refine Aq 3 Z<|AA AG.e Z c2 fun w5 b5 c3 cg _=>Aq 1 Z<|Ag 0 Z c3 Z fun w6 a9 ch=>Ac<|AD<|Ak<|Aj (A4 0 Z AG.e a9 Z)<|Aj (AT (fun _=>BM _))<|Aj (JO J2 (Nf _ _ _ _))<|Ac<|CP h ?_ ?_<;>intro c4 h
 ·refine Bt (Int×Int) (fun⟨ax,ay⟩=>[(2,(AaD b1)),(3,(AaD b2))]) (fun⟨ax,ay⟩ wr=>Bb w [.box b5 [No s.2.1,No s.2.2] 28,.box b2 [No ax,No ay] 28,.box b1 [Aa4,Aa4,Aa4] 98] wr/\Kx ax ay=some r) ?_ ?_
  ·refine Ko (Ox (UQ Ns)) (fun z0 z=>Le (gz H w z0 [.box b5 [No s.2.1,No s.2.2] 28,.box b2 [No 0,No 0] 28,.box b1 [Aa4,Aa4,Aa4] 98]) (hp z)/\z.heap[b5]? = some (.cells [No s.2.1,No s.2.2].toArray 28 (0,0))/\z.heap[b2]? = some (.cells [No 0,No 0].toArray 28 (0,0))) mixed Z (fun ba d4 ci=>?_);have x:=a9.call ci;have ae:=x.rG H;refine Nv ⟨ae.trans (Ao x),x.at (i:=0) Z,x.at (i:=1) Z⟩ fun kI27=>A9 0 ba kI27 Z (fun _ _=>AT (fun _=>Abf _)) Z<|A9 1 ba kI27 Z (fun _ hI=>MR hI.2.1) Z<|FX 2 Z<|Ag 2 Z x Z ?_;intro d5 af bj;have ae:=ae.trans (Aa bj);refine AX ⟨ae.trans (Ao af),af.at (i:=0) Z,af.at (i:=1) Z⟩ fun kI29=>FX 3 Z<|Ag 1 Z af Z fun d6 cj da=>GO<|ER<|A8 (_,_) ⟨cj,h⟩
  rintro⟨ax,ay⟩ dj ⟨au,h⟩;refine Ay<|Ar ?_
  cases h
  refine Bv (.cell Z Aj8 Z G0.e (AK (i:=2) au Z)) (.cell Z Aji Z AG.e (AK (i:=1) au Z)) ⟨au.ext,_,_,_,Z,(AH.nil _ _),(AH.nil _ _),(AH.nil _ _)⟩
 refine Aw<|As<|Bu 1 Z<|Aj (Bc ad)<|Az h fun ck h=>Aj (A5 ck)<|Az h fun cl h=>AfC (H:=H) (r:=(.int .i64)) Ahy CO.e a9 cl fun c5 d7 cm cn bk av=>A7 1 Z<|Bt ((List Int)×Value×(List Value)) (fun⟨an,ag,u⟩=>[(2,(AaD b1)),(3,(AaD b2)),(6,ag)]) (fun⟨an,ag,u⟩ wr=>Fl w [.row ag 3 1 (an).length u,.box b5 [No s.2.1,No s.2.2] 28,.box b2 [No 0,No 0] 28,.box b1 [Aa4,Aa4,Aa4] 98] wr fun Oz=>AI (.int .i64) (gz H w wr Oz) an u/\Jd an=some r) ?_ ?_
 ·refine Bu 1 Z<|Aj (Bc ad)<|B7 [(a0.length:Int)] (r:=(.int .i64)) (fun _=>Jp _ _) cn (.c1 Z .nil) fun d8 d9 dk co az bb=>Aq 1 Z ?_;have t:=t.mono (Aa (cg.trans (ch.trans (bk.trans az))));refine B7 ([[(a0.length:Int)],s.1]) (r:=(.vec (.int .i64))) (fun _=>AdJ _ bb.one _ t.one _) (hlen:=(BJ 2)) co (.c1 ⟨_,Z,bb⟩ (.c1 ⟨_,Z,t⟩ .nil)) fun ea eb dl aw bl cp=>Ax h fun y cq h=>Bk aw (O5 _ _ (Ao aw) cp cq) ?_;rintro a1 ec ⟨_,rfl,bc⟩ cr cs bm;have ao:=bc.Dz hH aw cr;refine Aj (Bc ao)<|A7 1 Z<|A3 ?_;obtain⟨ah,h⟩:=Ba h;have av:=av.mono (Aa (az.trans (bl.trans bm)))
  refine B6 ((List Int)×Int×Value×(List Value)×Nat) (fun⟨c,a,o,f,n⟩=>[(0,ac),(2,(AaD b1)),(3,(AaD b2)),(6,o),(30,a1),(31,No (y.length:Int)),(32,No a)]) (fun⟨c,a,o,f,n⟩ wr=>Fl w [.row o 3 1 (c).length f,.box b5 [No s.2.1,No s.2.2] 28,.box b2 [No 0,No 0] 28,.box b1 [Aa4,Aa4,Aa4] 98] wr fun Oz=>AH (.int .i64) (gz H w wr Oz) a1 y/\AI (.int .i64) (gz H w wr Oz) c f/\HG (FF a0 y) n (c,a)=some r) (fun⟨c,a,o,f,n⟩=>n) (([]:List Int),0,c5,cm,ah) Z ⟨cs,ao,av,h⟩ ?_;rintro⟨c,a,o,f,nn113⟩ db ⟨p,b,d,h⟩;obtain⟨ah,dm,rfl,h,ai⟩:=AY h;refine AJ 1 Z<|AD<|AP h ?_ ?_<;>intro bn h
  ·refine Aw<|As<|AD<|A3<|Ak<|Az h fun a2 h=>Bf b a.toNat (Gy a2) (AW a2) ?_;rintro dn _ rfl bo;refine Aj (Bl bo (Ao p))<|A7 1 Z<|AJ 2 Z<|AP h ?_ ?_<;>intro bp h
   ·refine Au<|Aq 1 Z<|B7 [(-1)] (r:=(.int .i64)) (fun _=>Jp _ _) p (.c1 Z .nil) fun dp dq dc bq ap br=>Az h fun bs h=>?_;have d:=d.mono (Aa ap);refine By (r:=(.int .i64)) 0 c [(-1)] Z Ahy bq Z d br bs fun ct dr bt bu bd bv=>Aq 1 Z<|AL<|A2<|As<|Au<|Az h fun bw h=>Aj (A5 bw)<|Aq 1 Z<|AL ?_;have h:=Cg.again h ai;have b:=b.mono (Aa (ap.trans bd));refine AN (_,_,_,_,_) Z ⟨bu,b,bv,h⟩
   refine Au<|Aq 3 Z<|Az h fun bx h=>Aj (A5 bx)<|Az h fun a3 h=>Bf ad ((y.getD a.toNat Qq2 - 1).toNat) (Gy a3) (AW a3) ?_;rintro ds _ rfl bz;refine Aj (Bl bz (hH.trans p.arg))<|Aj (Ld (QT _))<|B7 [((a0.getD ((y.getD a.toNat Qq2 - 1).toNat) Qq2).toNat:Int)] (r:=(.int .i64)) (fun _=>Jp _ _) p (.c1 Z .nil) fun dt du dd b0 aq b3=>Az h fun b4 h=>?_;have d:=d.mono (Aa aq);refine By (r:=(.int .i64)) 0 c [((a0.getD ((y.getD a.toNat Qq2 - 1).toNat) Qq2).toNat:Int)] Z Ahy b0 Z d b3 b4 fun cu dv b6 b7 be b8=>Aq 1 Z<|AL<|A2<|As<|Au<|Az h fun b9 h=>Aj (A5 b9)<|Aq 1 Z<|AL ?_;have h:=Cg.again h ai;have b:=b.mono (Aa (aq.trans be))
   refine AN (_,_,_,_,_) Z ⟨b7,b,b8,h⟩
  refine B4<|AE<|A6 ?_;have h:=Cg.out h ai;refine Bi<|A8 (_,_,_) ⟨p,d,h⟩
 rintro⟨an,ag,u⟩ dw ⟨bf,ca,h⟩;refine Bu 1 Z ?_;have cb:=bf.Dz hH (i:=0) Z ca;have q:=bf.AS (i:=0) Z;refine Ax h fun dx cc h=>Bk q (P6 _ _ (Ao q) cb cc) ?_;rintro _ dy ⟨c6,c7,c8,rfl,a4,a5,a6⟩ aj cd c9;have g:=a4.mono (Er q aj);have j:=a5.Dz hH q aj;have k:=a6.Dz hH q aj;refine Aq 3 Z<|AA G0.e Z cd fun dz d0 ce aa _=>Ag 0 Z ce Z (a:=(Br g.one (Br j.one (Br k.one K9)))) fun d1 ak ab=>A7 1 Z ?_;have e:=ak.rG H;refine Ak<|Aj (A4 0 Z G0.e ak Z)<|Aj (AT (fun _=>BM _)) ?_;have g:=g.mono (Aa (aa.trans ab));have j:=j.mono (Aa (aa.trans ab));have k:=k.mono (Aa (aa.trans ab));refine Ag 3 Z ak Z (a:=(Br (g.mono e).one (Br (j.mono e).one (Br (k.mono e).one K9)))) fun d2 cf bg=>Ag 2 Z cf Z fun d3 al bh=>Ac<|Ay ?_
 cases h
 refine Bv (.cell Z Aj8 Z G0.e (AK (i:=3) al Z)) (.cell Z Aji Z AG.e (AK (i:=2) al Z)) ?_;have e:=e.trans (Aa (bg.trans bh));exact⟨al.ext,_,_,_,Z,((g.mono e).mono  EC),((j.mono e).mono  EC),((k.mono e).mono  EC)⟩
end
end Go.Proofs.YtekmbcbgknmhiaaGreatDoor
end
noncomputable section
namespace Go
abbrev AjV:=Go.E.Rp.pair (Go.E.Rp.vec (Go.E.Rp.int .i64)) (Go.E.Rp.pair (Go.E.Rp.vec (Go.E.Rp.int .i64)) (Go.E.Rp.vec (Go.E.Rp.int .i64)))
end Go
namespace Go
abbrev AjN:=(Int×AjJ)×(Int×AjI)×(List AjK)
end Go
namespace Go.Proofs.YtekmbcbgknmhiaaGreatDoor
open Go Go.E Go.RowKit Go.L
set_option maxHeartbeats 1000000
set_option maxRecDepth 10000
open _root_.Go.Proofs.Tryz
def J7(a:Int)(b:List AjK)(c:List Pv)(d:List Ac3):Option (((List Pv)×(List Ac3)×(List AjK)×Int) ⊕ (AjN×(Int×Int))):=
 AO (Bw (a+1)) (some (Sum.inl (c,d,b,(a+1))))
def Eg(h:List AjK)(b c d:Int)(e:List (Ac3×AjL))(f:Int)(g:List AjR):Option (AjN×(Int×Int)):=
 if b=0/\c=0 then some (((d,e),(f,g),h),(0,0)) else Qq4 (Cz (14:Int) (-1:Int)) (fun a=>some (((0,[]),(0,[]),[]),(a.1,a.2)))
def EN(d:List Pv)(e:List Ac3)(c:List AjK):Option (AjN×(Int×Int)):=
 Qq4 (Jl e) (fun a=>if a.2.1=0/\a.2.2=0 then Qq4 (Kr d) (fun b=>(Eg c) b.2.1 b.2.2 a.1.1 a.1.2 b.1.1 b.1.2) else(Eg c) a.2.1 a.2.2 a.1.1 a.1.2 (0:Int) ([]))
def Dk(a0:List (Ac3×Pv)):(List Pv)×(List Ac3)×(List AjK)×Int->Option (((List Pv)×(List Ac3)×(List AjK)×Int) ⊕ (AjN×(Int×Int))):=fun⟨c,d,e,a⟩=>
 if a<(a0.length:Int) then AO (0<=a/\a<(a0.length:Int)) (Qq4 (JD ((a0.getD a.toNat Qq2).1)) (fun b=>if b.2.1=0/\b.2.2=0 then Qq4 (EG ((a0.getD a.toNat Qq2).2)) (fun f=>if f.1=0/\f.2=0 then AO (Go.E.Io 72 (e.length+([(b.1.1,b.1.2.1,b.1.2.2)]).length)) (AO (Go.E.Io 24 (d.length+([(a0.getD a.toNat Qq2).1]).length)) (AO (Go.E.Io 88 (c.length+([((a0.getD a.toNat Qq2).2)]).length)) ((J7 a) (e++[(b.1.1,b.1.2.1,b.1.2.2)]) (c++[((a0.getD a.toNat Qq2).2)]) (d++[(a0.getD a.toNat Qq2).1])))) else Qq4 (Cz f.1 a) (fun g=>Qq7 Sum.inr (some (((0,[]),(0,[]),[]),(g.1,g.2))))) else Qq4 (Cz b.2.1 a) (fun h=>Qq7 Sum.inr (some (((0,[]),(0,[]),[]),(h.1,h.2)))))) else Qq7 Sum.inr (EN c d e)
def J8(a0:List (Ac3×Pv))(s:(List Pv)×(List Ac3)×(List AjK)×Int):Option (AjN×(Int×Int)):=Go.L.run (Dk a0) s
def Jt(a0:List (Ac3×Pv)):Option (AjN×(Int×Int)):=
 if 64<(a0.length:Int) then Qq4 (Cz (2:Int) (-1:Int)) (fun a=>some (((0,[]),(0,[]),[]),(a.1,a.2))) else(J8 a0) (([]:List Pv),([]:List Ac3),([]:List AjK),0)
section
variable(w:World)(H:PH)(hH:Le H (hp w)) include hH
theorem PQ(hU:Gj H){a0:List (Ac3×Pv)}{e3:Value}(iv:AH (.pair (.vec .byte) .tree) H e3 a0){r:AjN×(Int×Int)}(h:Jt a0=some r):
  Qqv 20 [e3] w (fun v w'=>∃ u0 u1 u2,v=.tuple #[.agg #[No r.1.1.1,u0,No r.1.2.1.1,u1,u2],.agg #[No r.2.1,No r.2.2]]/\AH (.pair .st (.vec AjW)) (un H (nw w w')) u0 (r.1.1.2)/\AH AjU (un H (nw w w')) u1 (r.1.2.1.2)/\Ck 98 AjV H w w' u2 (r.1.2.2)):=by
 refine A1 89 [(0,e3)] func20 Z fun hL=>Ak<|AA KH.e Z hL fun w1 b1 oc p3 _=>AA AG.e Z oc fun w2 b2 ji p4 _=>Ac<|AD<|Bu 1 Z<|Aj (Bc iv)<|A7 1 Z<|AP h ?_ ?_<;>intro od h
 ·refine Ak<|Aj (AT (fun _=>Uw _))<|Ax h fun x5 oe h=>AF ji (Da _ _ (Ao ji) oe) fun w6 tw og p5=>Ag 1 Z og Z fun w7 oh p6=>Ag 0 Z oh Z fun w8 jj p7=>Ac<|Ay<|Ar ?_
  cases h
  refine Bv (.cell Z AjB Z KH.e (AK (i:=1) jj Z)) (.cell Z Aji Z AG.e (AK (i:=0) jj Z)) ⟨jj.ext,_,_,_,Z,(AH.nil _ _),(AH.nil _ _),Ck.nil⟩
 refine Aw<|As<|Ak<|AA KH.e Z ji fun tx ch mv os _=>Ac<|Bu 1 Z ?_;obtain⟨mw,ot,iw⟩:=DS (.vec .byte) H 23 mv;refine Ac<|Bu 1 Z ?_;obtain⟨mx,kf,ix⟩:=DS .tree H 64 mw;refine Ac<|Bt ((List Pv)×(List Ac3)×(List AjK)×Value×(List Value)×Value×(List Value)×Value×(List Value)) (fun⟨e4,e5,a8,ep,ci,eq,cj,bg,a3⟩=>[(2,(AaD b1)),(3,(AaD b2)),(4,(AaD ch)),(5,eq),(6,ep)]) (fun⟨e4,e5,a8,ep,ci,eq,cj,bg,a3⟩ wr=>Fl w [.row bg 98 3 (a8).length a3,.row ep 64 5 (e4).length ci,.row eq 23 1 (e5).length cj,.box ch [No 0,Aa4,No 0,Aa4,bg] 52,.box b2 [No 0,No 0] 28,.box b1 [No 0,Aa4,No 0,Aa4,Aa4] 52] wr fun Oz=>AI AjV (gz H w wr Oz) a8 a3/\AI .tree (gz H w wr Oz) e4 ci/\AI (.vec .byte) (gz H w wr Oz) e5 cj/\EN e4 e5 a8=some r) ?_ ?_
 ·refine Bu 1 Z<|Aj (Bc iv)<|A7 1 Z<|A3 ?_;obtain⟨kg,ij,kh⟩:=DS AjV H 98 mx;obtain⟨iy,h⟩:=Ba h;have iw:=iw.mono (Aa (kf.trans ij));have ix:=ix.mono (Aa ij)
  refine B6 ((List Pv)×(List Ac3)×(List AjK)×Int×Value×(List Value)×Value×(List Value)×Value×(List Value)×Nat) (fun⟨x,y,aa,b,a4,av,a5,aw,ap,ax,n⟩=>[(2,(AaD b1)),(3,(AaD b2)),(4,(AaD ch)),(5,a5),(6,a4),(18,e3),(19,No (a0.length:Int)),(20,No b)]) (fun⟨x,y,aa,b,a4,av,a5,aw,ap,ax,n⟩ wr=>Fl w [.row ap 98 3 (aa).length ax,.row a4 64 5 (x).length av,.row a5 23 1 (y).length aw,.box ch [No 0,Aa4,No 0,Aa4,ap] 52,.box b2 [No 0,No 0] 28,.box b1 [No 0,Aa4,No 0,Aa4,Aa4] 52] wr fun Oz=>AI AjV (gz H w wr Oz) aa ax/\AI .tree (gz H w wr Oz) x av/\AI (.vec .byte) (gz H w wr Oz) y aw/\HG (Dk a0) n (x,y,aa,b)=some r) (fun⟨x,y,aa,b,a4,av,a5,aw,ap,ax,n⟩=>n) (([]:List Pv),([]:List Ac3),([]:List AjK),0,Aa4,[],Aa4,[],Aa4,[],iy) Z ⟨kg,kh,ix,iw,h⟩ ?_
  rintro⟨x,y,aa,b,a4,av,a5,aw,ap,ax,nn640⟩ ou ⟨er,ai,ae,af,h⟩;obtain⟨iy,my,rfl,h,es⟩:=AY h;have e:=er.rG H;refine AJ 1 Z<|AD<|AP h ?_ ?_<;>intro ki h
  ·refine Aw<|As<|AD<|A3<|Bu 1 Z<|Az h fun i4 h=>Bf iv b.toNat (Gy i4) (AW i4) ?_;rintro p8 _ ⟨_,_,rfl,⟨e646v0,rfl,e646h0⟩,e646t1⟩ kj;obtain⟨_,_,rfl,rfl,⟨_,_,rfl,rfl,⟨_,_,rfl,⟨e646v3,rfl,e646h3⟩,⟨_,_,rfl,⟨e646v4,rfl,e646h4⟩,⟨e646v5,rfl,e646h5⟩⟩⟩⟩⟩:=Go.E.Rp.OJ e646t1;refine Aj (Cx kj (hH.trans er.arg))<|AA AfO.e Z er fun p9 iz kk aj _=>Aq 1 Z<|Ag 0 Z kk Z (a:=(Br e646h0.one (Br Z (Br Z (Br e646h3.one (Br e646h4.one (Br e646h5.one K9))))))) fun qa bh ak=>Ac<|Ak<|Aj (Ae Z AjC Z IK.e)<|Aj (Af 0 Z bh Z)<|Ax h fun d kl h=>Bk bh (Tq _ _ (Ao bh) (e646h0.mono  Ah) kl) ?_;rintro _ qb ⟨ck,cl,cm,rfl,jb,jc,jd⟩ gy km al;have g:=jb.mono (Er bh gy);have k:=jc.mono (Er bh gy);have o:=jd.mono (Er bh gy);refine Aq 3 Z<|AA G0.e Z km fun qc i0 kn p _=>AA AG.e Z kn ?_;intro qd jk ko q _
   refine Ag 1 Z ko Z (a:=(Br g.one (Br k.one (Br o.one K9)))) fun qe kp t=>Ag 0 Z kp Z fun qf a1 u=>Ac<|AD ?_;have c:=a1.rG H;refine Ak<|Aj (A4 0 Z AG.e a1 Z)<|Aj (AT (fun _=>BM _))<|Aj (JO J2 (Nf _ _ _ _))<|Ac<|CP h ?_ ?_<;>intro kq h
   ·refine Ak<|Aj (AT (fun _=>Uw _))<|Aj (Ae Z Aji Z CO.e)<|Aj (Af 0 Z a1 Z)<|Aq 1 Z<|Ax h fun qg kr h=>AF a1 (Da _ _ (Ao a1) kr) fun qh ov ks oi=>Ag 8 Z ks Z fun qi kt oj=>Ag 7 Z kt Z fun qj g0 ok=>Ac<|Ay<|Ar<|Av<|Ar<|BG ?_;have h:=Cg.out h es;refine Av<|Bh ?_
    cases h
    refine Bv (.cell Z AjB Z KH.e (AK (i:=8) g0 Z)) (.cell Z Aji Z AG.e (AK (i:=7) g0 Z)) ⟨g0.ext,_,_,_,Z,(AH.nil _ _),(AH.nil _ _),Ck.nil⟩
   refine Aw<|As<|AD<|Ak<|Aj (Ae Z AjC Z HK.e)<|Aj (KC 2 5 Z HK.e a1 Z Z)<|Ax h fun g1 ku h=>AF a1 (Og (a0:=((a0.getD b.toNat Qq2).2)) _ _ (Ao a1) (e646h3.mono  Ah) (e646h4.mono  Ah) (e646h5.mono  Ah) ku) fun qk ow kv a9=>AA AG.e Z kv fun ql jl kw ba _=>Ag 0 Z kw Z fun qm bi bb=>Ac<|Ak<|Aj (A4 0 Z AG.e bi Z)<|Aj (AT (fun _=>BM _))<|Aj (JO J2 (Nf _ _ _ _))<|Ac<|CP h ?_ ?_<;>intro kx h
   ·refine Ak<|Aj (AT (fun _=>Uw _))<|Aj (Ae Z Aji Z CO.e)<|Aj (Af 0 Z bi Z)<|Aq 1 Z<|Ax h fun qn ky h=>AF bi (Da _ _ (Ao bi) ky) fun qo ox kz ol=>Ag 9 Z kz Z fun qp k0 om=>Ag 8 Z k0 Z fun qq g2 oo=>Ac<|Ay<|Ar<|Av<|Ar<|BG ?_;have h:=Cg.out h es;refine Av<|Bh ?_
    cases h
    refine Bv (.cell Z AjB Z KH.e (AK (i:=9) g2 Z)) (.cell Z Aji Z AG.e (AK (i:=8) g2 Z)) ⟨g2.ext,_,_,_,Z,(AH.nil _ _),(AH.nil _ _),Ck.nil⟩
   refine Aw<|As ?_
   refine AhO (σ:=(List AjK)×(List Pv)×(List Ac3)×Value×(List Value)×Value×(List Value)×Value×(List Value)) (fun⟨ek,el,em,cn,bc,co,bd,cp,be⟩=>[(2,(AaD b1)),(3,(AaD b2)),(4,(AaD ch)),(5,cp),(6,co),(18,e3),(19,No (a0.length:Int)),(20,No b)]) (fun⟨ek,el,em,cn,bc,co,bd,cp,be⟩ wr=>Fl w [.box jl [No g1.1,No g1.2] 28,.box jk [No d.2.1,No d.2.2] 28,.box i0 [ck,cl,cm] 98,.box iz [e646v0,No (((a0.getD b.toNat Qq2).2).f.1),No (((a0.getD b.toNat Qq2).2).f.2.1),e646v3,e646v4,e646v5] 66,.row cn 98 3 (ek).length bc,.row co 64 5 (el).length bd,.row cp 23 1 (em).length be,.box ch [No 0,Aa4,No 0,Aa4,cn] 52,.box b2 [No 0,No 0] 28,.box b1 [No 0,Aa4,No 0,Aa4,Aa4] 52] wr fun Oz=>AH (.int .i64) (gz H w wr Oz) ck (d.1.1)/\AH (.int .i64) (gz H w wr Oz) cl (d.1.2.1)/\AH (.int .i64) (gz H w wr Oz) cm (d.1.2.2)/\AI AjV (gz H w wr Oz) ek bc/\AI .tree (gz H w wr Oz) el bd/\AI (.vec .byte) (gz H w wr Oz) em be/\(J7 b) ek el em=some my) ?_ ?_
   ·refine Ko (Ox (J1 (UQ (Si (J1 (Ox Ns)))))) (fun z0 z=>Le (gz H w z0 [.box jl [No g1.1,No g1.2] 28,.box jk [No d.2.1,No d.2.2] 28,.box i0 [ck,cl,cm] 98,.box iz [e646v0,No (((a0.getD b.toNat Qq2).2).f.1),No (((a0.getD b.toNat Qq2).2).f.2.1),e646v3,e646v4,e646v5] 66,.row ap 98 3 (aa).length ax,.row a4 64 5 (x).length av,.row a5 23 1 (y).length aw,.box ch [No 0,Aa4,No 0,Aa4,ap] 52,.box b2 [No 0,No 0] 28,.box b1 [No 0,Aa4,No 0,Aa4,Aa4] 52]) (hp z)/\z.heap[i0]? = some (.cells [ck,cl,cm].toArray 98 (0,0))/\z.heap[iz]? = some (.cells [e646v0,No (((a0.getD b.toNat Qq2).2).f.1),No (((a0.getD b.toNat Qq2).2).f.2.1),e646v3,e646v4,e646v5].toArray 66 (0,0))/\z.heap[ch]? = some (.cells [No 0,Aa4,No 0,Aa4,ap].toArray 52 (0,0))) mixed Z (fun ad qs i5=>?_);have a2:=bi.call i5;have bf:=AR bi i5;have a:=a2.rG H;refine Nv ⟨a.trans (Ao a2),a2.at (i:=2) Z,a2.at (i:=3) Z,a2.at (i:=7) Z⟩ fun kI840=>?_
    refine A9 0 ad kI840 Z (fun _ _=>Ae Z AjB Z Lh.e) Z<|A9 1 ad kI840 Z (fun _ hI=>KG Z hI.2.2.2 Z) Z<|A9 2 ad kI840 Z (fun _ hI=>MR hI.2.1) Z<|A9 5 ad kI840 Z (fun _ _=>Ai Z) Z<|A9 6 ad kI840 Z (fun _ _=>Ae Z AjC Z IK.e) Z<|A9 7 ad kI840 Z (fun _ hI=>KG Z hI.2.2.1 Z) Z<|A9 10 ad kI840 Z (fun _ _=>Ai Z) Z<|A9 11 ad kI840 Z (fun _ _=>Ae Z AjC Z HK.e) Z<|A9 12 ad kI840 Z (fun _ hI=>Ad9 5 Z HK.e hI.2.2.1 Z) Z<|NI3 (i:=3) (j:=8) (s:=13) Z Qqb Z Z ?_ ?_ ?_
    ·have g:=g.mono (Aa (p.trans (q.trans (t.trans u))));have k:=k.mono (Aa (p.trans (q.trans (t.trans u))));have o:=o.mono (Aa (p.trans (q.trans (t.trans u))));have c:=c.trans (Aa (a9.trans (ba.trans (bb.trans bf))));refine B7 [(d.1.1,d.1.2.1,d.1.2.2)] (r:=AjV) (fun _=>Ss _ _ _ _) a2 (.c3 ⟨_,_,Z,⟨_,Z,((g.mono c).mono a)⟩,⟨_,_,Z,⟨_,Z,((k.mono c).mono a)⟩,⟨_,Z,((o.mono c).mono a)⟩⟩⟩ .nil) ?_;intro qt qu oy a6 jm am;have a:=a.trans (Aa jm);refine AX ⟨a.trans (Ao a6),a6.at (i:=2) Z,a6.at (i:=3) Z,a6.at (i:=7) Z⟩ fun kI842=>NI3 (i:=4) (j:=8) (s:=13) Z Qqb Z Z ?_ ?_ ?_
     ·refine Az h fun ah h=>?_;have e:=e.trans (Aa (aj.trans (ak.trans (al.trans (p.trans (q.trans (t.trans u)))))));refine By (r:=AjV) 4 aa [(d.1.1,d.1.2.1,d.1.2.2)] Z AjD a6 Z (((ai.mono e).mono c).mono a) am ah ?_;intro i1 qv g3 bj jn aq;have a:=a.trans (Aa jn);refine AX ⟨a.trans (Ao bj),bj.at (i:=2) Z,bj.at (i:=3) Z,bj.at (i:=7) Z⟩ fun kI845=>A9 15 ad kI845 Z (fun _ _=>Ae Z AjB Z Lh.e) Z<|NI2 8 13 Z Z ?_ ?_
      ·refine B7 [(a0.getD b.toNat Qq2).1] (r:=(.vec .byte)) (fun _=>Ny _ e646h0.one _) bj (.c1 ⟨_,Z,(e646h0.mono  Ah)⟩ .nil) ?_;intro qw qx oz bk e6 et;have a:=a.trans (Aa e6);refine AX ⟨a.trans (Ao bk),bk.at (i:=2) Z,bk.at (i:=3) Z,bk.at (i:=7) Z⟩ fun kI847=>NI2 9 13 Z Z ?_ ?_
       ·refine Az h fun ab h=>By (r:=(.vec .byte)) 6 y [(a0.getD b.toNat Qq2).1] Z Ajt bk Z (((af.mono e).mono c).mono a) et ab ?_;intro mz qy k1 cq ik g4;have a:=a.trans (Aa ik);refine AX ⟨a.trans (Ao cq),cq.at (i:=2) Z,cq.at (i:=3) Z,cq.at (i:=7) Z⟩ fun kI850=>FX 13 Z<|B7 [((a0.getD b.toNat Qq2).2)] (r:=.tree) (fun _=>KU _ _ _ _ _ _) cq (.c5 (Go.E.Rp.ES ⟨_,_,Z,Z,⟨_,_,Z,Z,⟨_,_,Z,⟨_,Z,(e646h3.mono  Ah)⟩,⟨_,_,Z,⟨_,Z,(e646h4.mono  Ah)⟩,⟨_,Z,(e646h5.mono  Ah)⟩⟩⟩⟩⟩) .nil) ?_;intro qz q0 o0 cr e7 k2;have a:=a.trans (Aa e7);refine AX ⟨a.trans (Ao cr),cr.at (i:=2) Z,cr.at (i:=3) Z,cr.at (i:=7) Z⟩ fun kI852=>FX 14 Z<|Az h fun ac h=>By (r:=.tree) 5 x [((a0.getD b.toNat Qq2).2)] Z Ajs cr Z (((ae.mono e).mono c).mono a) k2 ac ?_;intro m0 q1 k3 bl e8 g5;have a:=a.trans (Aa e8)
        refine AX ⟨a.trans (Ao bl),bl.at (i:=2) Z,bl.at (i:=3) Z,bl.at (i:=7) Z⟩ fun kI855=>FX 16 Z<|B9 7 Z (row_one (bl.at (i:=4) Z)) bl Z Z fun q2 k4 cs=>DA [0,1,2,3,4,5,6,7,8,9,10,11,12,13,14,15]<|FX 17 Z<|Aq 1 Z<|DA [0,1,2,3,4,5,6,7,8,9,10,11,12,13,14,15,16]<|FX 18 Z<|Aq 1 Z<|GO<|ER ?_;have aq:=aq.mono (Aa (e6.trans (ik.trans (e7.trans (e8.trans cs)))));have g4:=g4.mono (Aa (e7.trans (e8.trans cs)));have g5:=g5.mono (Aa cs);have a:=a.trans (Aa cs);refine A8 ((aa++[(d.1.1,d.1.2.1,d.1.2.2)]),(x++[((a0.getD b.toNat Qq2).2)]),(y++[(a0.getD b.toNat Qq2).1]),i1,g3,m0,k3,mz,k1) ⟨k4,((g.mono c).mono a),((k.mono c).mono a),((o.mono c).mono a),aq,g5,g4,h⟩
       refine Az h fun ab h=>Az h fun ac h=>B7 [((a0.getD b.toNat Qq2).2)] (r:=.tree) (fun _=>KU _ _ _ _ _ _) bk (.c5 (Go.E.Rp.ES ⟨_,_,Z,Z,⟨_,_,Z,Z,⟨_,_,Z,⟨_,Z,(e646h3.mono  Ah)⟩,⟨_,_,Z,⟨_,Z,(e646h4.mono  Ah)⟩,⟨_,Z,(e646h5.mono  Ah)⟩⟩⟩⟩⟩) .nil) ?_;intro q3 q4 o1 ct e9 g6;have a:=a.trans (Aa e9);refine AX ⟨a.trans (Ao ct),ct.at (i:=2) Z,ct.at (i:=3) Z,ct.at (i:=7) Z⟩ fun kI858=>FX 9 Z ?_;have et:=et.mono (Aa e9);refine By (r:=(.vec .byte)) 6 y [(a0.getD b.toNat Qq2).1] Z Ajt ct Z (((af.mono e).mono c).mono a) et ab ?_;intro m1 q5 k5 cu fa g7;have a:=a.trans (Aa fa);refine AX ⟨a.trans (Ao cu),cu.at (i:=2) Z,cu.at (i:=3) Z,cu.at (i:=7) Z⟩ fun kI860=>FX 14 Z ?_;have g6:=g6.mono (Aa fa);refine By (r:=.tree) 5 x [((a0.getD b.toNat Qq2).2)] Z Ajs cu Z (((ae.mono e).mono c).mono a) g6 ac ?_
       intro m2 q6 k6 bm fb g8;have a:=a.trans (Aa fb);refine AX ⟨a.trans (Ao bm),bm.at (i:=2) Z,bm.at (i:=3) Z,bm.at (i:=7) Z⟩ fun kI862=>FX 16 Z<|B9 7 Z (row_one (bm.at (i:=4) Z)) bm Z Z fun q7 k7 cv=>DA [0,1,2,3,4,5,6,7,8,9,10,11,12,13,14,15]<|FX 17 Z<|Aq 1 Z<|DA [0,1,2,3,4,5,6,7,8,9,10,11,12,13,14,15,16]<|FX 18 Z<|Aq 1 Z<|GO<|ER ?_;have aq:=aq.mono (Aa (e6.trans (e9.trans (fa.trans (fb.trans cv)))));have g7:=g7.mono (Aa (fb.trans cv));have g8:=g8.mono (Aa cv);have a:=a.trans (Aa cv);refine A8 ((aa++[(d.1.1,d.1.2.1,d.1.2.2)]),(x++[((a0.getD b.toNat Qq2).2)]),(y++[(a0.getD b.toNat Qq2).1]),i1,g3,m2,k6,m1,k5) ⟨k7,((g.mono c).mono a),((k.mono c).mono a),((o.mono c).mono a),aq,g8,g7,h⟩
      refine Az h fun ab h=>Az h fun ac h=>B7 [((a0.getD b.toNat Qq2).2)] (r:=.tree) (fun _=>KU _ _ _ _ _ _) bj (.c5 (Go.E.Rp.ES ⟨_,_,Z,Z,⟨_,_,Z,Z,⟨_,_,Z,⟨_,Z,(e646h3.mono  Ah)⟩,⟨_,_,Z,⟨_,Z,(e646h4.mono  Ah)⟩,⟨_,Z,(e646h5.mono  Ah)⟩⟩⟩⟩⟩) .nil) ?_;intro q8 q9 o2 cw il g9;have a:=a.trans (Aa il);refine AX ⟨a.trans (Ao cw),cw.at (i:=2) Z,cw.at (i:=3) Z,cw.at (i:=7) Z⟩ fun kI865=>FX 8 Z<|B7 [(a0.getD b.toNat Qq2).1] (r:=(.vec .byte)) (fun _=>Ny _ e646h0.one _) cw (.c1 ⟨_,Z,(e646h0.mono  Ah)⟩ .nil) ?_;intro ra rb o3 cx fc k8;have a:=a.trans (Aa fc);refine AX ⟨a.trans (Ao cx),cx.at (i:=2) Z,cx.at (i:=3) Z,cx.at (i:=7) Z⟩ fun kI867=>FX 9 Z<|By (r:=(.vec .byte)) 6 y [(a0.getD b.toNat Qq2).1] Z Ajt cx Z (((af.mono e).mono c).mono a) k8 ab ?_;intro m3 rc k9 cy fd ha;have a:=a.trans (Aa fd)
      refine AX ⟨a.trans (Ao cy),cy.at (i:=2) Z,cy.at (i:=3) Z,cy.at (i:=7) Z⟩ fun kI869=>FX 14 Z ?_;have g9:=g9.mono (Aa (fc.trans fd));refine By (r:=.tree) 5 x [((a0.getD b.toNat Qq2).2)] Z Ajs cy Z (((ae.mono e).mono c).mono a) g9 ac ?_;intro m4 rd la bn fe hb;have a:=a.trans (Aa fe);refine AX ⟨a.trans (Ao bn),bn.at (i:=2) Z,bn.at (i:=3) Z,bn.at (i:=7) Z⟩ fun kI871=>FX 16 Z<|B9 7 Z (row_one (bn.at (i:=4) Z)) bn Z Z fun re lb cz=>DA [0,1,2,3,4,5,6,7,8,9,10,11,12,13,14,15]<|FX 17 Z<|Aq 1 Z<|DA [0,1,2,3,4,5,6,7,8,9,10,11,12,13,14,15,16]<|FX 18 Z<|Aq 1 Z<|GO<|ER ?_;have aq:=aq.mono (Aa (il.trans (fc.trans (fd.trans (fe.trans cz)))));have ha:=ha.mono (Aa (fe.trans cz));have hb:=hb.mono (Aa cz);have a:=a.trans (Aa cz)
      refine A8 ((aa++[(d.1.1,d.1.2.1,d.1.2.2)]),(x++[((a0.getD b.toNat Qq2).2)]),(y++[(a0.getD b.toNat Qq2).1]),i1,g3,m4,la,m3,k9) ⟨lb,((g.mono c).mono a),((k.mono c).mono a),((o.mono c).mono a),aq,hb,ha,h⟩
     ·refine Az h fun ah h=>Az h fun ab h=>Az h fun ac h=>B7 [(a0.getD b.toNat Qq2).1] (r:=(.vec .byte)) (fun _=>Ny _ e646h0.one _) a6 (.c1 ⟨_,Z,(e646h0.mono  Ah)⟩ .nil) ?_;intro rf rg o4 bo ff ar;have a:=a.trans (Aa ff);refine AX ⟨a.trans (Ao bo),bo.at (i:=2) Z,bo.at (i:=3) Z,bo.at (i:=7) Z⟩ fun kI874=>NI2 4 13 Z Z ?_ ?_
      ·have e:=e.trans (Aa (aj.trans (ak.trans (al.trans (p.trans (q.trans (t.trans u)))))));have am:=am.mono (Aa ff);refine By (r:=AjV) 4 aa [(d.1.1,d.1.2.1,d.1.2.2)] Z AjD bo Z (((ai.mono e).mono c).mono a) am ah ?_;intro jo rh i6 bp fg bq;have a:=a.trans (Aa fg);refine AX ⟨a.trans (Ao bp),bp.at (i:=2) Z,bp.at (i:=3) Z,bp.at (i:=7) Z⟩ fun kI876=>A9 15 ad kI876 Z (fun _ _=>Ae Z AjB Z Lh.e) Z<|NI2 9 13 Z Z ?_ ?_
       ·have ar:=ar.mono (Aa fg);refine By (r:=(.vec .byte)) 6 y [(a0.getD b.toNat Qq2).1] Z Ajt bp Z (((af.mono e).mono c).mono a) ar ab ?_;intro m5 ri lc c0 im hc;have a:=a.trans (Aa im);refine AX ⟨a.trans (Ao c0),c0.at (i:=2) Z,c0.at (i:=3) Z,c0.at (i:=7) Z⟩ fun kI878=>FX 13 Z<|B7 [((a0.getD b.toNat Qq2).2)] (r:=.tree) (fun _=>KU _ _ _ _ _ _) c0 (.c5 (Go.E.Rp.ES ⟨_,_,Z,Z,⟨_,_,Z,Z,⟨_,_,Z,⟨_,Z,(e646h3.mono  Ah)⟩,⟨_,_,Z,⟨_,Z,(e646h4.mono  Ah)⟩,⟨_,Z,(e646h5.mono  Ah)⟩⟩⟩⟩⟩) .nil) ?_;intro rj rk o5 c2 fh ld;have a:=a.trans (Aa fh);refine AX ⟨a.trans (Ao c2),c2.at (i:=2) Z,c2.at (i:=3) Z,c2.at (i:=7) Z⟩ fun kI880=>FX 14 Z<|By (r:=.tree) 5 x [((a0.getD b.toNat Qq2).2)] Z Ajs c2 Z (((ae.mono e).mono c).mono a) ld ac ?_;intro m6 rl le br fi hd;have a:=a.trans (Aa fi)
        refine AX ⟨a.trans (Ao br),br.at (i:=2) Z,br.at (i:=3) Z,br.at (i:=7) Z⟩ fun kI882=>FX 16 Z<|B9 7 Z (row_one (br.at (i:=4) Z)) br Z Z fun rm lf c4=>DA [0,1,2,3,4,5,6,7,8,9,10,11,12,13,14,15]<|FX 17 Z<|Aq 1 Z<|DA [0,1,2,3,4,5,6,7,8,9,10,11,12,13,14,15,16]<|FX 18 Z<|Aq 1 Z<|GO<|ER ?_;have bq:=bq.mono (Aa (im.trans (fh.trans (fi.trans c4))));have hc:=hc.mono (Aa (fh.trans (fi.trans c4)));have hd:=hd.mono (Aa c4);have a:=a.trans (Aa c4);refine A8 ((aa++[(d.1.1,d.1.2.1,d.1.2.2)]),(x++[((a0.getD b.toNat Qq2).2)]),(y++[(a0.getD b.toNat Qq2).1]),jo,i6,m6,le,m5,lc) ⟨lf,((g.mono c).mono a),((k.mono c).mono a),((o.mono c).mono a),bq,hd,hc,h⟩
       refine B7 [((a0.getD b.toNat Qq2).2)] (r:=.tree) (fun _=>KU _ _ _ _ _ _) bp (.c5 (Go.E.Rp.ES ⟨_,_,Z,Z,⟨_,_,Z,Z,⟨_,_,Z,⟨_,Z,(e646h3.mono  Ah)⟩,⟨_,_,Z,⟨_,Z,(e646h4.mono  Ah)⟩,⟨_,Z,(e646h5.mono  Ah)⟩⟩⟩⟩⟩) .nil) ?_;intro rn ro o6 c6 fj he;have a:=a.trans (Aa fj);refine AX ⟨a.trans (Ao c6),c6.at (i:=2) Z,c6.at (i:=3) Z,c6.at (i:=7) Z⟩ fun kI885=>FX 9 Z ?_;have ar:=ar.mono (Aa (fg.trans fj));refine By (r:=(.vec .byte)) 6 y [(a0.getD b.toNat Qq2).1] Z Ajt c6 Z (((af.mono e).mono c).mono a) ar ab ?_;intro m7 rp lg c7 fk hf;have a:=a.trans (Aa fk);refine AX ⟨a.trans (Ao c7),c7.at (i:=2) Z,c7.at (i:=3) Z,c7.at (i:=7) Z⟩ fun kI887=>FX 14 Z ?_;have he:=he.mono (Aa fk);refine By (r:=.tree) 5 x [((a0.getD b.toNat Qq2).2)] Z Ajs c7 Z (((ae.mono e).mono c).mono a) he ac ?_;intro m8 rq lh bs fl hg;have a:=a.trans (Aa fl)
       refine AX ⟨a.trans (Ao bs),bs.at (i:=2) Z,bs.at (i:=3) Z,bs.at (i:=7) Z⟩ fun kI889=>FX 16 Z<|B9 7 Z (row_one (bs.at (i:=4) Z)) bs Z Z fun rr li c8=>DA [0,1,2,3,4,5,6,7,8,9,10,11,12,13,14,15]<|FX 17 Z<|Aq 1 Z<|DA [0,1,2,3,4,5,6,7,8,9,10,11,12,13,14,15,16]<|FX 18 Z<|Aq 1 Z<|GO<|ER ?_;have bq:=bq.mono (Aa (fj.trans (fk.trans (fl.trans c8))));have hf:=hf.mono (Aa (fl.trans c8));have hg:=hg.mono (Aa c8);have a:=a.trans (Aa c8);refine A8 ((aa++[(d.1.1,d.1.2.1,d.1.2.2)]),(x++[((a0.getD b.toNat Qq2).2)]),(y++[(a0.getD b.toNat Qq2).1]),jo,i6,m8,lh,m7,lg) ⟨li,((g.mono c).mono a),((k.mono c).mono a),((o.mono c).mono a),bq,hg,hf,h⟩
      refine B7 [((a0.getD b.toNat Qq2).2)] (r:=.tree) (fun _=>KU _ _ _ _ _ _) bo (.c5 (Go.E.Rp.ES ⟨_,_,Z,Z,⟨_,_,Z,Z,⟨_,_,Z,⟨_,Z,(e646h3.mono  Ah)⟩,⟨_,_,Z,⟨_,Z,(e646h4.mono  Ah)⟩,⟨_,Z,(e646h5.mono  Ah)⟩⟩⟩⟩⟩) .nil) ?_;intro rs rt o7 c9 fm hh;have a:=a.trans (Aa fm);refine AX ⟨a.trans (Ao c9),c9.at (i:=2) Z,c9.at (i:=3) Z,c9.at (i:=7) Z⟩ fun kI892=>FX 4 Z ?_;have e:=e.trans (Aa (aj.trans (ak.trans (al.trans (p.trans (q.trans (t.trans u)))))));have am:=am.mono (Aa (ff.trans fm));refine By (r:=AjV) 4 aa [(d.1.1,d.1.2.1,d.1.2.2)] Z AjD c9 Z (((ai.mono e).mono c).mono a) am ah ?_;intro m9 ru lj da fn hi;have a:=a.trans (Aa fn);refine AX ⟨a.trans (Ao da),da.at (i:=2) Z,da.at (i:=3) Z,da.at (i:=7) Z⟩ fun kI894=>A9 15 ad kI894 Z (fun _ _=>Ae Z AjB Z Lh.e) Z<|FX 9 Z ?_
      have ar:=ar.mono (Aa (fm.trans fn));refine By (r:=(.vec .byte)) 6 y [(a0.getD b.toNat Qq2).1] Z Ajt da Z (((af.mono e).mono c).mono a) ar ab ?_;intro na rv lk db fo hj;have a:=a.trans (Aa fo);refine AX ⟨a.trans (Ao db),db.at (i:=2) Z,db.at (i:=3) Z,db.at (i:=7) Z⟩ fun kI896=>FX 14 Z ?_;have hh:=hh.mono (Aa (fn.trans fo));refine By (r:=.tree) 5 x [((a0.getD b.toNat Qq2).2)] Z Ajs db Z (((ae.mono e).mono c).mono a) hh ac ?_;intro nb rx ll bt fp hk;have a:=a.trans (Aa fp);refine AX ⟨a.trans (Ao bt),bt.at (i:=2) Z,bt.at (i:=3) Z,bt.at (i:=7) Z⟩ fun kI898=>FX 16 Z<|B9 7 Z (row_one (bt.at (i:=4) Z)) bt Z Z fun ry lm dc=>DA [0,1,2,3,4,5,6,7,8,9,10,11,12,13,14,15]<|FX 17 Z<|Aq 1 Z<|DA [0,1,2,3,4,5,6,7,8,9,10,11,12,13,14,15,16]<|FX 18 Z<|Aq 1 Z ?_
      refine GO<|ER ?_;have hi:=hi.mono (Aa (fo.trans (fp.trans dc)));have hj:=hj.mono (Aa (fp.trans dc));have hk:=hk.mono (Aa dc);have a:=a.trans (Aa dc);refine A8 ((aa++[(d.1.1,d.1.2.1,d.1.2.2)]),(x++[((a0.getD b.toNat Qq2).2)]),(y++[(a0.getD b.toNat Qq2).1]),m9,lj,nb,ll,na,lk) ⟨lm,((g.mono c).mono a),((k.mono c).mono a),((o.mono c).mono a),hi,hk,hj,h⟩
     refine Az h fun ah h=>Az h fun ab h=>Az h fun ac h=>B7 [((a0.getD b.toNat Qq2).2)] (r:=.tree) (fun _=>KU _ _ _ _ _ _) a6 (.c5 (Go.E.Rp.ES ⟨_,_,Z,Z,⟨_,_,Z,Z,⟨_,_,Z,⟨_,Z,(e646h3.mono  Ah)⟩,⟨_,_,Z,⟨_,Z,(e646h4.mono  Ah)⟩,⟨_,Z,(e646h5.mono  Ah)⟩⟩⟩⟩⟩) .nil) ?_;intro rz r0 o8 bu fq bv;have a:=a.trans (Aa fq);refine AX ⟨a.trans (Ao bu),bu.at (i:=2) Z,bu.at (i:=3) Z,bu.at (i:=7) Z⟩ fun kI901=>NI2 4 8 Z Z ?_ ?_
     ·have e:=e.trans (Aa (aj.trans (ak.trans (al.trans (p.trans (q.trans (t.trans u)))))));have am:=am.mono (Aa fq);refine By (r:=AjV) 4 aa [(d.1.1,d.1.2.1,d.1.2.2)] Z AjD bu Z (((ai.mono e).mono c).mono a) am ah ?_;intro nc r1 ln dd io hl;have a:=a.trans (Aa io);refine AX ⟨a.trans (Ao dd),dd.at (i:=2) Z,dd.at (i:=3) Z,dd.at (i:=7) Z⟩ fun kI903=>A9 15 ad kI903 Z (fun _ _=>Ae Z AjB Z Lh.e) Z<|FX 8 Z<|B7 [(a0.getD b.toNat Qq2).1] (r:=(.vec .byte)) (fun _=>Ny _ e646h0.one _) dd (.c1 ⟨_,Z,(e646h0.mono  Ah)⟩ .nil) ?_;intro r2 r3 o9 de fr lo;have a:=a.trans (Aa fr);refine AX ⟨a.trans (Ao de),de.at (i:=2) Z,de.at (i:=3) Z,de.at (i:=7) Z⟩ fun kI905=>FX 9 Z<|By (r:=(.vec .byte)) 6 y [(a0.getD b.toNat Qq2).1] Z Ajt de Z (((af.mono e).mono c).mono a) lo ab ?_
      intro nd r4 lp df fs hm;have a:=a.trans (Aa fs);refine AX ⟨a.trans (Ao df),df.at (i:=2) Z,df.at (i:=3) Z,df.at (i:=7) Z⟩ fun kI907=>FX 14 Z ?_;have bv:=bv.mono (Aa (io.trans (fr.trans fs)));refine By (r:=.tree) 5 x [((a0.getD b.toNat Qq2).2)] Z Ajs df Z (((ae.mono e).mono c).mono a) bv ac ?_;intro nf r5 lq bw ft hn;have a:=a.trans (Aa ft);refine AX ⟨a.trans (Ao bw),bw.at (i:=2) Z,bw.at (i:=3) Z,bw.at (i:=7) Z⟩ fun kI909=>FX 16 Z<|B9 7 Z (row_one (bw.at (i:=4) Z)) bw Z Z fun r6 lr dg=>DA [0,1,2,3,4,5,6,7,8,9,10,11,12,13,14,15]<|FX 17 Z<|Aq 1 Z<|DA [0,1,2,3,4,5,6,7,8,9,10,11,12,13,14,15,16]<|FX 18 Z<|Aq 1 Z<|GO<|ER ?_;have hl:=hl.mono (Aa (fr.trans (fs.trans (ft.trans dg))));have hm:=hm.mono (Aa (ft.trans dg))
      have hn:=hn.mono (Aa dg);have a:=a.trans (Aa dg);refine A8 ((aa++[(d.1.1,d.1.2.1,d.1.2.2)]),(x++[((a0.getD b.toNat Qq2).2)]),(y++[(a0.getD b.toNat Qq2).1]),nc,ln,nf,lq,nd,lp) ⟨lr,((g.mono c).mono a),((k.mono c).mono a),((o.mono c).mono a),hl,hn,hm,h⟩
     refine B7 [(a0.getD b.toNat Qq2).1] (r:=(.vec .byte)) (fun _=>Ny _ e646h0.one _) bu (.c1 ⟨_,Z,(e646h0.mono  Ah)⟩ .nil) ?_;intro r7 r8 pa dh fu ho;have a:=a.trans (Aa fu);refine AX ⟨a.trans (Ao dh),dh.at (i:=2) Z,dh.at (i:=3) Z,dh.at (i:=7) Z⟩ fun kI912=>FX 4 Z ?_;have e:=e.trans (Aa (aj.trans (ak.trans (al.trans (p.trans (q.trans (t.trans u)))))));have am:=am.mono (Aa (fq.trans fu));refine By (r:=AjV) 4 aa [(d.1.1,d.1.2.1,d.1.2.2)] Z AjD dh Z (((ai.mono e).mono c).mono a) am ah ?_;intro ng r9 ls di fv hq;have a:=a.trans (Aa fv);refine AX ⟨a.trans (Ao di),di.at (i:=2) Z,di.at (i:=3) Z,di.at (i:=7) Z⟩ fun kI914=>A9 15 ad kI914 Z (fun _ _=>Ae Z AjB Z Lh.e) Z<|FX 9 Z ?_;have ho:=ho.mono (Aa fv)
     refine By (r:=(.vec .byte)) 6 y [(a0.getD b.toNat Qq2).1] Z Ajt di Z (((af.mono e).mono c).mono a) ho ab ?_;intro nh sa lt dj fw hr;have a:=a.trans (Aa fw);refine AX ⟨a.trans (Ao dj),dj.at (i:=2) Z,dj.at (i:=3) Z,dj.at (i:=7) Z⟩ fun kI916=>FX 14 Z ?_;have bv:=bv.mono (Aa (fu.trans (fv.trans fw)));refine By (r:=.tree) 5 x [((a0.getD b.toNat Qq2).2)] Z Ajs dj Z (((ae.mono e).mono c).mono a) bv ac ?_;intro ni sb lu bx fx hs;have a:=a.trans (Aa fx);refine AX ⟨a.trans (Ao bx),bx.at (i:=2) Z,bx.at (i:=3) Z,bx.at (i:=7) Z⟩ fun kI918=>FX 16 Z<|B9 7 Z (row_one (bx.at (i:=4) Z)) bx Z Z fun sc lv dk=>DA [0,1,2,3,4,5,6,7,8,9,10,11,12,13,14,15]<|FX 17 Z<|Aq 1 Z<|DA [0,1,2,3,4,5,6,7,8,9,10,11,12,13,14,15,16]<|FX 18 Z<|Aq 1 Z<|GO ?_
     refine ER ?_;have hq:=hq.mono (Aa (fw.trans (fx.trans dk)));have hr:=hr.mono (Aa (fx.trans dk));have hs:=hs.mono (Aa dk);have a:=a.trans (Aa dk);refine A8 ((aa++[(d.1.1,d.1.2.1,d.1.2.2)]),(x++[((a0.getD b.toNat Qq2).2)]),(y++[(a0.getD b.toNat Qq2).1]),ng,ls,ni,lu,nh,lt) ⟨lv,((g.mono c).mono a),((k.mono c).mono a),((o.mono c).mono a),hq,hs,hr,h⟩
    ·refine Az h fun ah h=>Az h fun ab h=>Az h fun ac h=>B7 [(a0.getD b.toNat Qq2).1] (r:=(.vec .byte)) (fun _=>Ny _ e646h0.one _) a2 (.c1 ⟨_,Z,(e646h0.mono  Ah)⟩ .nil) ?_;intro sd se pb bz jp an;have a:=a.trans (Aa jp);refine AX ⟨a.trans (Ao bz),bz.at (i:=2) Z,bz.at (i:=3) Z,bz.at (i:=7) Z⟩ fun kI921=>NI2 3 13 Z Z ?_ ?_
     ·have g:=g.mono (Aa (p.trans (q.trans (t.trans u))));have k:=k.mono (Aa (p.trans (q.trans (t.trans u))));have o:=o.mono (Aa (p.trans (q.trans (t.trans u))));have c:=c.trans (Aa (a9.trans (ba.trans (bb.trans bf))));refine B7 [(d.1.1,d.1.2.1,d.1.2.2)] (r:=AjV) (fun _=>Ss _ _ _ _) bz (.c3 ⟨_,_,Z,⟨_,Z,((g.mono c).mono a)⟩,⟨_,_,Z,⟨_,Z,((k.mono c).mono a)⟩,⟨_,Z,((o.mono c).mono a)⟩⟩⟩ .nil) ?_;intro sf sg pc b0 dl eu;have a:=a.trans (Aa dl);refine AX ⟨a.trans (Ao b0),b0.at (i:=2) Z,b0.at (i:=3) Z,b0.at (i:=7) Z⟩ fun kI923=>NI2 4 13 Z Z ?_ ?_
      ·have e:=e.trans (Aa (aj.trans (ak.trans (al.trans (p.trans (q.trans (t.trans u)))))));refine By (r:=AjV) 4 aa [(d.1.1,d.1.2.1,d.1.2.2)] Z AjD b0 Z (((ai.mono e).mono c).mono a) eu ah ?_;intro jq sh i7 b3 fy b4;have a:=a.trans (Aa fy);refine AX ⟨a.trans (Ao b3),b3.at (i:=2) Z,b3.at (i:=3) Z,b3.at (i:=7) Z⟩ fun kI925=>A9 15 ad kI925 Z (fun _ _=>Ae Z AjB Z Lh.e) Z<|NI2 9 13 Z Z ?_ ?_
       ·have an:=an.mono (Aa (dl.trans fy));refine By (r:=(.vec .byte)) 6 y [(a0.getD b.toNat Qq2).1] Z Ajt b3 Z (((af.mono e).mono c).mono a) an ab ?_;intro nj si lw dm ip ht;have a:=a.trans (Aa ip);refine AX ⟨a.trans (Ao dm),dm.at (i:=2) Z,dm.at (i:=3) Z,dm.at (i:=7) Z⟩ fun kI927=>FX 13 Z<|B7 [((a0.getD b.toNat Qq2).2)] (r:=.tree) (fun _=>KU _ _ _ _ _ _) dm (.c5 (Go.E.Rp.ES ⟨_,_,Z,Z,⟨_,_,Z,Z,⟨_,_,Z,⟨_,Z,(e646h3.mono  Ah)⟩,⟨_,_,Z,⟨_,Z,(e646h4.mono  Ah)⟩,⟨_,Z,(e646h5.mono  Ah)⟩⟩⟩⟩⟩) .nil) ?_;intro sj sk pd dn fz lx;have a:=a.trans (Aa fz);refine AX ⟨a.trans (Ao dn),dn.at (i:=2) Z,dn.at (i:=3) Z,dn.at (i:=7) Z⟩ fun kI929=>FX 14 Z<|By (r:=.tree) 5 x [((a0.getD b.toNat Qq2).2)] Z Ajs dn Z (((ae.mono e).mono c).mono a) lx ac ?_;intro nk sl ly b5 f0 hu;have a:=a.trans (Aa f0)
        refine AX ⟨a.trans (Ao b5),b5.at (i:=2) Z,b5.at (i:=3) Z,b5.at (i:=7) Z⟩ fun kI931=>FX 16 Z<|B9 7 Z (row_one (b5.at (i:=4) Z)) b5 Z Z fun sm lz dp=>DA [0,1,2,3,4,5,6,7,8,9,10,11,12,13,14,15]<|FX 17 Z<|Aq 1 Z<|DA [0,1,2,3,4,5,6,7,8,9,10,11,12,13,14,15,16]<|FX 18 Z<|Aq 1 Z<|GO<|ER ?_;have b4:=b4.mono (Aa (ip.trans (fz.trans (f0.trans dp))));have ht:=ht.mono (Aa (fz.trans (f0.trans dp)));have hu:=hu.mono (Aa dp);have a:=a.trans (Aa dp);refine A8 ((aa++[(d.1.1,d.1.2.1,d.1.2.2)]),(x++[((a0.getD b.toNat Qq2).2)]),(y++[(a0.getD b.toNat Qq2).1]),jq,i7,nk,ly,nj,lw) ⟨lz,((g.mono c).mono a),((k.mono c).mono a),((o.mono c).mono a),b4,hu,ht,h⟩
       refine B7 [((a0.getD b.toNat Qq2).2)] (r:=.tree) (fun _=>KU _ _ _ _ _ _) b3 (.c5 (Go.E.Rp.ES ⟨_,_,Z,Z,⟨_,_,Z,Z,⟨_,_,Z,⟨_,Z,(e646h3.mono  Ah)⟩,⟨_,_,Z,⟨_,Z,(e646h4.mono  Ah)⟩,⟨_,Z,(e646h5.mono  Ah)⟩⟩⟩⟩⟩) .nil) ?_;intro sn so pe dq f1 hv;have a:=a.trans (Aa f1);refine AX ⟨a.trans (Ao dq),dq.at (i:=2) Z,dq.at (i:=3) Z,dq.at (i:=7) Z⟩ fun kI934=>FX 9 Z ?_;have an:=an.mono (Aa (dl.trans (fy.trans f1)));refine By (r:=(.vec .byte)) 6 y [(a0.getD b.toNat Qq2).1] Z Ajt dq Z (((af.mono e).mono c).mono a) an ab ?_;intro nl sp l0 dr f2 hw;have a:=a.trans (Aa f2);refine AX ⟨a.trans (Ao dr),dr.at (i:=2) Z,dr.at (i:=3) Z,dr.at (i:=7) Z⟩ fun kI936=>FX 14 Z ?_;have hv:=hv.mono (Aa f2);refine By (r:=.tree) 5 x [((a0.getD b.toNat Qq2).2)] Z Ajs dr Z (((ae.mono e).mono c).mono a) hv ac ?_;intro nm sq l1 b6 f3 hx
       have a:=a.trans (Aa f3);refine AX ⟨a.trans (Ao b6),b6.at (i:=2) Z,b6.at (i:=3) Z,b6.at (i:=7) Z⟩ fun kI938=>FX 16 Z<|B9 7 Z (row_one (b6.at (i:=4) Z)) b6 Z Z fun sr l2 ds=>DA [0,1,2,3,4,5,6,7,8,9,10,11,12,13,14,15]<|FX 17 Z<|Aq 1 Z<|DA [0,1,2,3,4,5,6,7,8,9,10,11,12,13,14,15,16]<|FX 18 Z<|Aq 1 Z<|GO<|ER ?_;have b4:=b4.mono (Aa (f1.trans (f2.trans (f3.trans ds))));have hw:=hw.mono (Aa (f3.trans ds));have hx:=hx.mono (Aa ds);have a:=a.trans (Aa ds);refine A8 ((aa++[(d.1.1,d.1.2.1,d.1.2.2)]),(x++[((a0.getD b.toNat Qq2).2)]),(y++[(a0.getD b.toNat Qq2).1]),jq,i7,nm,l1,nl,l0) ⟨l2,((g.mono c).mono a),((k.mono c).mono a),((o.mono c).mono a),b4,hx,hw,h⟩
      refine B7 [((a0.getD b.toNat Qq2).2)] (r:=.tree) (fun _=>KU _ _ _ _ _ _) b0 (.c5 (Go.E.Rp.ES ⟨_,_,Z,Z,⟨_,_,Z,Z,⟨_,_,Z,⟨_,Z,(e646h3.mono  Ah)⟩,⟨_,_,Z,⟨_,Z,(e646h4.mono  Ah)⟩,⟨_,Z,(e646h5.mono  Ah)⟩⟩⟩⟩⟩) .nil) ?_;intro ss su pf dt f4 hy;have a:=a.trans (Aa f4);refine AX ⟨a.trans (Ao dt),dt.at (i:=2) Z,dt.at (i:=3) Z,dt.at (i:=7) Z⟩ fun kI941=>FX 4 Z ?_;have e:=e.trans (Aa (aj.trans (ak.trans (al.trans (p.trans (q.trans (t.trans u)))))));have eu:=eu.mono (Aa f4);refine By (r:=AjV) 4 aa [(d.1.1,d.1.2.1,d.1.2.2)] Z AjD dt Z (((ai.mono e).mono c).mono a) eu ah ?_;intro nn sv l3 du f5 hz;have a:=a.trans (Aa f5);refine AX ⟨a.trans (Ao du),du.at (i:=2) Z,du.at (i:=3) Z,du.at (i:=7) Z⟩ fun kI943=>A9 15 ad kI943 Z (fun _ _=>Ae Z AjB Z Lh.e) Z<|FX 9 Z ?_
      have an:=an.mono (Aa (dl.trans (f4.trans f5)));refine By (r:=(.vec .byte)) 6 y [(a0.getD b.toNat Qq2).1] Z Ajt du Z (((af.mono e).mono c).mono a) an ab ?_;intro no sw l4 dv f6 h0;have a:=a.trans (Aa f6);refine AX ⟨a.trans (Ao dv),dv.at (i:=2) Z,dv.at (i:=3) Z,dv.at (i:=7) Z⟩ fun kI945=>FX 14 Z ?_;have hy:=hy.mono (Aa (f5.trans f6));refine By (r:=.tree) 5 x [((a0.getD b.toNat Qq2).2)] Z Ajs dv Z (((ae.mono e).mono c).mono a) hy ac ?_;intro np sx l5 b7 f7 h1;have a:=a.trans (Aa f7);refine AX ⟨a.trans (Ao b7),b7.at (i:=2) Z,b7.at (i:=3) Z,b7.at (i:=7) Z⟩ fun kI947=>FX 16 Z<|B9 7 Z (row_one (b7.at (i:=4) Z)) b7 Z Z fun sy l6 dw=>DA [0,1,2,3,4,5,6,7,8,9,10,11,12,13,14,15]<|FX 17 Z<|Aq 1 Z<|DA [0,1,2,3,4,5,6,7,8,9,10,11,12,13,14,15,16]<|FX 18 Z ?_
      refine Aq 1 Z<|GO<|ER ?_;have hz:=hz.mono (Aa (f6.trans (f7.trans dw)));have h0:=h0.mono (Aa (f7.trans dw));have h1:=h1.mono (Aa dw);have a:=a.trans (Aa dw);refine A8 ((aa++[(d.1.1,d.1.2.1,d.1.2.2)]),(x++[((a0.getD b.toNat Qq2).2)]),(y++[(a0.getD b.toNat Qq2).1]),nn,l3,np,l5,no,l4) ⟨l6,((g.mono c).mono a),((k.mono c).mono a),((o.mono c).mono a),hz,h1,h0,h⟩
     refine B7 [((a0.getD b.toNat Qq2).2)] (r:=.tree) (fun _=>KU _ _ _ _ _ _) bz (.c5 (Go.E.Rp.ES ⟨_,_,Z,Z,⟨_,_,Z,Z,⟨_,_,Z,⟨_,Z,(e646h3.mono  Ah)⟩,⟨_,_,Z,⟨_,Z,(e646h4.mono  Ah)⟩,⟨_,Z,(e646h5.mono  Ah)⟩⟩⟩⟩⟩) .nil) ?_;intro sz s0 pg dx iq h2;have a:=a.trans (Aa iq);refine AX ⟨a.trans (Ao dx),dx.at (i:=2) Z,dx.at (i:=3) Z,dx.at (i:=7) Z⟩ fun kI950=>FX 3 Z ?_;have g:=g.mono (Aa (p.trans (q.trans (t.trans u))));have k:=k.mono (Aa (p.trans (q.trans (t.trans u))));have o:=o.mono (Aa (p.trans (q.trans (t.trans u))));have c:=c.trans (Aa (a9.trans (ba.trans (bb.trans bf))));refine B7 [(d.1.1,d.1.2.1,d.1.2.2)] (r:=AjV) (fun _=>Ss _ _ _ _) dx (.c3 ⟨_,_,Z,⟨_,Z,((g.mono c).mono a)⟩,⟨_,_,Z,⟨_,Z,((k.mono c).mono a)⟩,⟨_,Z,((o.mono c).mono a)⟩⟩⟩ .nil) ?_;intro s1 s2 ph dy f8 l7;have a:=a.trans (Aa f8)
     refine AX ⟨a.trans (Ao dy),dy.at (i:=2) Z,dy.at (i:=3) Z,dy.at (i:=7) Z⟩ fun kI952=>FX 4 Z ?_;have e:=e.trans (Aa (aj.trans (ak.trans (al.trans (p.trans (q.trans (t.trans u)))))));refine By (r:=AjV) 4 aa [(d.1.1,d.1.2.1,d.1.2.2)] Z AjD dy Z (((ai.mono e).mono c).mono a) l7 ah ?_;intro nq s3 l8 dz f9 h3;have a:=a.trans (Aa f9);refine AX ⟨a.trans (Ao dz),dz.at (i:=2) Z,dz.at (i:=3) Z,dz.at (i:=7) Z⟩ fun kI954=>A9 15 ad kI954 Z (fun _ _=>Ae Z AjB Z Lh.e) Z<|FX 9 Z ?_;have an:=an.mono (Aa (iq.trans (f8.trans f9)));refine By (r:=(.vec .byte)) 6 y [(a0.getD b.toNat Qq2).1] Z Ajt dz Z (((af.mono e).mono c).mono a) an ab ?_;intro nr s4 l9 d0 ga h4;have a:=a.trans (Aa ga);refine AX ⟨a.trans (Ao d0),d0.at (i:=2) Z,d0.at (i:=3) Z,d0.at (i:=7) Z⟩ fun kI956=>?_
     refine FX 14 Z ?_;have h2:=h2.mono (Aa (f8.trans (f9.trans ga)));refine By (r:=.tree) 5 x [((a0.getD b.toNat Qq2).2)] Z Ajs d0 Z (((ae.mono e).mono c).mono a) h2 ac ?_;intro ns s5 ma b8 gb h5;have a:=a.trans (Aa gb);refine AX ⟨a.trans (Ao b8),b8.at (i:=2) Z,b8.at (i:=3) Z,b8.at (i:=7) Z⟩ fun kI958=>FX 16 Z<|B9 7 Z (row_one (b8.at (i:=4) Z)) b8 Z Z fun s6 mb d1=>DA [0,1,2,3,4,5,6,7,8,9,10,11,12,13,14,15]<|FX 17 Z<|Aq 1 Z<|DA [0,1,2,3,4,5,6,7,8,9,10,11,12,13,14,15,16]<|FX 18 Z<|Aq 1 Z<|GO<|ER ?_;have h3:=h3.mono (Aa (ga.trans (gb.trans d1)));have h4:=h4.mono (Aa (gb.trans d1));have h5:=h5.mono (Aa d1);have a:=a.trans (Aa d1)
     refine A8 ((aa++[(d.1.1,d.1.2.1,d.1.2.2)]),(x++[((a0.getD b.toNat Qq2).2)]),(y++[(a0.getD b.toNat Qq2).1]),nq,l8,ns,ma,nr,l9) ⟨mb,((g.mono c).mono a),((k.mono c).mono a),((o.mono c).mono a),h3,h5,h4,h⟩
    refine Az h fun ah h=>Az h fun ab h=>Az h fun ac h=>B7 [((a0.getD b.toNat Qq2).2)] (r:=.tree) (fun _=>KU _ _ _ _ _ _) a2 (.c5 (Go.E.Rp.ES ⟨_,_,Z,Z,⟨_,_,Z,Z,⟨_,_,Z,⟨_,Z,(e646h3.mono  Ah)⟩,⟨_,_,Z,⟨_,Z,(e646h4.mono  Ah)⟩,⟨_,Z,(e646h5.mono  Ah)⟩⟩⟩⟩⟩) .nil) ?_;intro s7 s8 pi b9 jr au;have a:=a.trans (Aa jr);refine AX ⟨a.trans (Ao b9),b9.at (i:=2) Z,b9.at (i:=3) Z,b9.at (i:=7) Z⟩ fun kI961=>NI2 3 8 Z Z ?_ ?_
    ·have g:=g.mono (Aa (p.trans (q.trans (t.trans u))));have k:=k.mono (Aa (p.trans (q.trans (t.trans u))));have o:=o.mono (Aa (p.trans (q.trans (t.trans u))));have c:=c.trans (Aa (a9.trans (ba.trans (bb.trans bf))));refine B7 [(d.1.1,d.1.2.1,d.1.2.2)] (r:=AjV) (fun _=>Ss _ _ _ _) b9 (.c3 ⟨_,_,Z,⟨_,Z,((g.mono c).mono a)⟩,⟨_,_,Z,⟨_,Z,((k.mono c).mono a)⟩,⟨_,Z,((o.mono c).mono a)⟩⟩⟩ .nil) ?_;intro s9 ta pj ca gc ev;have a:=a.trans (Aa gc);refine AX ⟨a.trans (Ao ca),ca.at (i:=2) Z,ca.at (i:=3) Z,ca.at (i:=7) Z⟩ fun kI963=>NI2 4 8 Z Z ?_ ?_
     ·have e:=e.trans (Aa (aj.trans (ak.trans (al.trans (p.trans (q.trans (t.trans u)))))));refine By (r:=AjV) 4 aa [(d.1.1,d.1.2.1,d.1.2.2)] Z AjD ca Z (((ai.mono e).mono c).mono a) ev ah ?_;intro nt tb mc d2 ir h6;have a:=a.trans (Aa ir);refine AX ⟨a.trans (Ao d2),d2.at (i:=2) Z,d2.at (i:=3) Z,d2.at (i:=7) Z⟩ fun kI965=>A9 15 ad kI965 Z (fun _ _=>Ae Z AjB Z Lh.e) Z<|FX 8 Z<|B7 [(a0.getD b.toNat Qq2).1] (r:=(.vec .byte)) (fun _=>Ny _ e646h0.one _) d2 (.c1 ⟨_,Z,(e646h0.mono  Ah)⟩ .nil) ?_;intro tc td pk d3 gd md;have a:=a.trans (Aa gd);refine AX ⟨a.trans (Ao d3),d3.at (i:=2) Z,d3.at (i:=3) Z,d3.at (i:=7) Z⟩ fun kI967=>FX 9 Z<|By (r:=(.vec .byte)) 6 y [(a0.getD b.toNat Qq2).1] Z Ajt d3 Z (((af.mono e).mono c).mono a) md ab ?_;intro nu te me d4 ge h7
      have a:=a.trans (Aa ge);refine AX ⟨a.trans (Ao d4),d4.at (i:=2) Z,d4.at (i:=3) Z,d4.at (i:=7) Z⟩ fun kI969=>FX 14 Z ?_;have au:=au.mono (Aa (gc.trans (ir.trans (gd.trans ge))));refine By (r:=.tree) 5 x [((a0.getD b.toNat Qq2).2)] Z Ajs d4 Z (((ae.mono e).mono c).mono a) au ac ?_;intro nv tf mf cb gf h8;have a:=a.trans (Aa gf);refine AX ⟨a.trans (Ao cb),cb.at (i:=2) Z,cb.at (i:=3) Z,cb.at (i:=7) Z⟩ fun kI971=>FX 16 Z<|B9 7 Z (row_one (cb.at (i:=4) Z)) cb Z Z fun tg mg d5=>DA [0,1,2,3,4,5,6,7,8,9,10,11,12,13,14,15]<|FX 17 Z<|Aq 1 Z<|DA [0,1,2,3,4,5,6,7,8,9,10,11,12,13,14,15,16]<|FX 18 Z<|Aq 1 Z<|GO<|ER ?_;have h6:=h6.mono (Aa (gd.trans (ge.trans (gf.trans d5))));have h7:=h7.mono (Aa (gf.trans d5));have h8:=h8.mono (Aa d5)
      have a:=a.trans (Aa d5);refine A8 ((aa++[(d.1.1,d.1.2.1,d.1.2.2)]),(x++[((a0.getD b.toNat Qq2).2)]),(y++[(a0.getD b.toNat Qq2).1]),nt,mc,nv,mf,nu,me) ⟨mg,((g.mono c).mono a),((k.mono c).mono a),((o.mono c).mono a),h6,h8,h7,h⟩
     refine B7 [(a0.getD b.toNat Qq2).1] (r:=(.vec .byte)) (fun _=>Ny _ e646h0.one _) ca (.c1 ⟨_,Z,(e646h0.mono  Ah)⟩ .nil) ?_;intro th ti pl d6 gg h9;have a:=a.trans (Aa gg);refine AX ⟨a.trans (Ao d6),d6.at (i:=2) Z,d6.at (i:=3) Z,d6.at (i:=7) Z⟩ fun kI974=>FX 4 Z ?_;have e:=e.trans (Aa (aj.trans (ak.trans (al.trans (p.trans (q.trans (t.trans u)))))));have ev:=ev.mono (Aa gg);refine By (r:=AjV) 4 aa [(d.1.1,d.1.2.1,d.1.2.2)] Z AjD d6 Z (((ai.mono e).mono c).mono a) ev ah ?_;intro nx tj mh d7 gh ia;have a:=a.trans (Aa gh);refine AX ⟨a.trans (Ao d7),d7.at (i:=2) Z,d7.at (i:=3) Z,d7.at (i:=7) Z⟩ fun kI976=>A9 15 ad kI976 Z (fun _ _=>Ae Z AjB Z Lh.e) Z<|FX 9 Z ?_;have h9:=h9.mono (Aa gh)
     refine By (r:=(.vec .byte)) 6 y [(a0.getD b.toNat Qq2).1] Z Ajt d7 Z (((af.mono e).mono c).mono a) h9 ab ?_;intro ny tk mi d8 gi ib;have a:=a.trans (Aa gi);refine AX ⟨a.trans (Ao d8),d8.at (i:=2) Z,d8.at (i:=3) Z,d8.at (i:=7) Z⟩ fun kI978=>FX 14 Z ?_;have au:=au.mono (Aa (gc.trans (gg.trans (gh.trans gi))));refine By (r:=.tree) 5 x [((a0.getD b.toNat Qq2).2)] Z Ajs d8 Z (((ae.mono e).mono c).mono a) au ac ?_;intro nz tl mj cc gj ic;have a:=a.trans (Aa gj);refine AX ⟨a.trans (Ao cc),cc.at (i:=2) Z,cc.at (i:=3) Z,cc.at (i:=7) Z⟩ fun kI980=>FX 16 Z<|B9 7 Z (row_one (cc.at (i:=4) Z)) cc Z Z fun tm mk d9=>DA [0,1,2,3,4,5,6,7,8,9,10,11,12,13,14,15]<|FX 17 Z<|Aq 1 Z<|DA [0,1,2,3,4,5,6,7,8,9,10,11,12,13,14,15,16]<|FX 18 Z<|Aq 1 Z<|GO ?_
     refine ER ?_;have ia:=ia.mono (Aa (gi.trans (gj.trans d9)));have ib:=ib.mono (Aa (gj.trans d9));have ic:=ic.mono (Aa d9);have a:=a.trans (Aa d9);refine A8 ((aa++[(d.1.1,d.1.2.1,d.1.2.2)]),(x++[((a0.getD b.toNat Qq2).2)]),(y++[(a0.getD b.toNat Qq2).1]),nx,mh,nz,mj,ny,mi) ⟨mk,((g.mono c).mono a),((k.mono c).mono a),((o.mono c).mono a),ia,ic,ib,h⟩
    refine B7 [(a0.getD b.toNat Qq2).1] (r:=(.vec .byte)) (fun _=>Ny _ e646h0.one _) b9 (.c1 ⟨_,Z,(e646h0.mono  Ah)⟩ .nil) ?_;intro tn tp pm ea is ie;have a:=a.trans (Aa is);refine AX ⟨a.trans (Ao ea),ea.at (i:=2) Z,ea.at (i:=3) Z,ea.at (i:=7) Z⟩ fun kI983=>FX 3 Z ?_;have g:=g.mono (Aa (p.trans (q.trans (t.trans u))));have k:=k.mono (Aa (p.trans (q.trans (t.trans u))));have o:=o.mono (Aa (p.trans (q.trans (t.trans u))));have c:=c.trans (Aa (a9.trans (ba.trans (bb.trans bf))));refine B7 [(d.1.1,d.1.2.1,d.1.2.2)] (r:=AjV) (fun _=>Ss _ _ _ _) ea (.c3 ⟨_,_,Z,⟨_,Z,((g.mono c).mono a)⟩,⟨_,_,Z,⟨_,Z,((k.mono c).mono a)⟩,⟨_,Z,((o.mono c).mono a)⟩⟩⟩ .nil) ?_;intro tq tr pn eb gk ml;have a:=a.trans (Aa gk);refine AX ⟨a.trans (Ao eb),eb.at (i:=2) Z,eb.at (i:=3) Z,eb.at (i:=7) Z⟩ fun kI985=>FX 4 Z ?_
    have e:=e.trans (Aa (aj.trans (ak.trans (al.trans (p.trans (q.trans (t.trans u)))))));refine By (r:=AjV) 4 aa [(d.1.1,d.1.2.1,d.1.2.2)] Z AjD eb Z (((ai.mono e).mono c).mono a) ml ah ?_;intro n0 ts mm ec gl ig;have a:=a.trans (Aa gl);refine AX ⟨a.trans (Ao ec),ec.at (i:=2) Z,ec.at (i:=3) Z,ec.at (i:=7) Z⟩ fun kI987=>A9 15 ad kI987 Z (fun _ _=>Ae Z AjB Z Lh.e) Z<|FX 9 Z ?_;have ie:=ie.mono (Aa (gk.trans gl));refine By (r:=(.vec .byte)) 6 y [(a0.getD b.toNat Qq2).1] Z Ajt ec Z (((af.mono e).mono c).mono a) ie ab ?_;intro n1 tt mn ed gm ih;have a:=a.trans (Aa gm);refine AX ⟨a.trans (Ao ed),ed.at (i:=2) Z,ed.at (i:=3) Z,ed.at (i:=7) Z⟩ fun kI989=>FX 14 Z ?_;have au:=au.mono (Aa (is.trans (gk.trans (gl.trans gm))))
    refine By (r:=.tree) 5 x [((a0.getD b.toNat Qq2).2)] Z Ajs ed Z (((ae.mono e).mono c).mono a) au ac ?_;intro n2 tu mo cd gn ii;have a:=a.trans (Aa gn);refine AX ⟨a.trans (Ao cd),cd.at (i:=2) Z,cd.at (i:=3) Z,cd.at (i:=7) Z⟩ fun kI991=>FX 16 Z<|B9 7 Z (row_one (cd.at (i:=4) Z)) cd Z Z fun tv mp ee=>DA [0,1,2,3,4,5,6,7,8,9,10,11,12,13,14,15]<|FX 17 Z<|Aq 1 Z<|DA [0,1,2,3,4,5,6,7,8,9,10,11,12,13,14,15,16]<|FX 18 Z<|Aq 1 Z<|GO<|ER ?_;have ig:=ig.mono (Aa (gm.trans (gn.trans ee)));have ih:=ih.mono (Aa (gn.trans ee));have ii:=ii.mono (Aa ee);have a:=a.trans (Aa ee)
    refine A8 ((aa++[(d.1.1,d.1.2.1,d.1.2.2)]),(x++[((a0.getD b.toNat Qq2).2)]),(y++[(a0.getD b.toNat Qq2).1]),n0,mm,n2,mo,n1,mn) ⟨mp,((g.mono c).mono a),((k.mono c).mono a),((o.mono c).mono a),ig,ii,ih,h⟩
   rintro⟨ek,el,em,cn,bc,co,bd,cp,be⟩ po ⟨i8,n3,n4,n5,js,jt,ju,h⟩;refine A2<|As ?_;have ef:=i8.rG H;refine Au<|Az h fun mq h=>Aj (A5 mq)<|Aq 1 Z<|AL ?_;have mr:=i8.AS (i:=0) Z;have ms:=mr.AS (i:=0) Z;have mt:=ms.AS (i:=0) Z;have mu:=mt.AS (i:=0) Z;have h:=Cg.again h es;have ef:=ef.trans (Aa ((Al (i:=0) Z).trans ((Al (i:=0) Z).trans ((Al (i:=0) Z).trans (Al (i:=0) Z)))));refine AN (el,em,ek,(b+1),co,bd,cp,be,cn,bc,iy) Z ⟨mu,(js.mono ef),(jt.mono ef),(ju.mono ef),h⟩
  refine B4<|AE<|A6 ?_;have h:=Cg.out h es;refine Bi<|A8 (x,y,aa,a4,av,a5,aw,ap,ax) ⟨er,(ai.mono e),(ae.mono e),(af.mono e),h⟩
 rintro⟨e4,e5,a8,ep,ci,eq,cj,bg,a3⟩ pp ⟨i9,it,jv,jw,h⟩;have ag:=i9.rG H;refine Ak<|AA AG.e Z i9 fun pq ja iu je _=>Ac<|Bt (Int×Int×Int×AjJ×Int×AjI×Value×Value) (fun⟨ew,ex,ey,ez,e0,e1,eg,eh⟩=>[(2,(AaD b1)),(3,(AaD b2)),(4,(AaD ch)),(12,(AaD ja))]) (fun⟨ew,ex,ey,ez,e0,e1,eg,eh⟩ wr=>Fl w [.box ja [No ew,No ex] 28,.row bg 98 3 (a8).length a3,.box ch [No ey,eg,No e0,eh,bg] 52,.box b2 [No 0,No 0] 28,.box b1 [No 0,Aa4,No 0,Aa4,Aa4] 52] wr fun Oz=>AI AjV (gz H w wr Oz) a8 a3/\AH (.pair .st (.vec AjW)) (gz H w wr Oz) eg ez/\AH AjU (gz H w wr Oz) eh e1/\(Eg a8) ew ex ey ez e0 e1=some r) ?_ ?_
 ·refine Bu 1 Z ?_;have ag:=ag.trans (Aa je);have jx:=iu.Dz hH (i:=3) Z (jw.mono ag);have go:=iu.AS (i:=3) Z;refine Ax h fun ce jy h=>Bk go (Vy _ _ (Ao go) (hU.mono  Ah) jx jy) ?_;rintro _ pr ⟨gr,rfl,i2⟩ jz j0 gs;have ao:=i2.mono (Er go jz);refine Aq 3 Z<|Aj (Ae Z AjB Z LD.e)<|WH 3 0 Z j0 Z Z Z (Br Z (Br ao.one K9)) fun ps j1 cf=>Ag 0 Z j1 Z fun pt ei cg=>Ac<|Ak<|Aj (A4 0 Z AG.e ei Z)<|Aj (AT (fun _=>BM _))<|Aj (Ada J2 (Nf _ _ _ _))<|Ac<|AP h ?_ ?_<;>intro j2 h
  ·refine Au<|Aq 1 Z ?_;have ag:=ag.trans (Aa ((Al (i:=3) Z).trans (gs.trans (cf.trans cg))));have j3:=ei.Dz hH (i:=2) Z (jv.mono ag);have gp:=ei.AS (i:=2) Z;refine Ax h fun e2 j4 h=>Bk gp (Ug _ _ (Ao gp) j3 j4) ?_;rintro _ pu ⟨jf,rfl,i3⟩ j5 j6 gt;have a7:=i3.mono (Er gp j5);refine Aq 3 Z<|Aj (Ae Z AjB Z Mx.e)<|WH 2 2 Z j6 Z Z Z (Br Z (Br a7.one K9)) fun pv j7 en=>Ag 0 Z j7 Z fun pw j8 eo=>AL ?_;have ao:=ao.mono (Aa (cf.trans (cg.trans ((Al (i:=2) Z).trans (gt.trans (en.trans eo))))));have ag:=ag.trans (Aa ((Al (i:=2) Z).trans (gt.trans (en.trans eo))));have a7:=a7.mono (Aa (en.trans eo));refine A8 (e2.2.1,e2.2.2,ce.1.1,ce.1.2,e2.1.1,e2.1.2,gr,jf) ⟨j8,(it.mono ag),ao,a7,h⟩
  refine Aw ?_;have ag:=ag.trans (Aa ((Al (i:=3) Z).trans (gs.trans (cf.trans cg))));have j9:=ei.AS (i:=2) Z;have ao:=ao.mono (Aa (cf.trans (cg.trans (Al (i:=2) Z))));have ag:=ag.trans (Aa (Al (i:=2) Z));refine A8 (ce.2.1,ce.2.2,ce.1.1,ce.1.2,0,[],gr,Aa4) ⟨j9,(it.mono ag),ao,(AH.nil _ _),h⟩
 rintro⟨ew,ex,ey,ez,e0,e1,eg,eh⟩ op ⟨ay,he1024_j424,gu,gv,h⟩;refine AD ?_;have az:=ay.rG H;refine Ak<|Aj (A4 0 Z AG.e ay Z)<|Aj (AT (fun _=>BM _))<|Aj (JO J2 (Nf _ _ _ _))<|Ac<|CP h ?_ ?_<;>intro ka h
 ·refine Ak<|Aj (AT (fun _=>Uw _))<|Ax h fun px kb h=>AF ay (Da _ _ (Ao ay) kb) fun py oq kc n6=>Ag 4 Z kc Z fun pz kd n7=>Ag 3 Z kd Z fun p0 gq n8=>Ac<|Ay<|Ar ?_
  cases h
  refine Bv (.cell Z AjB Z KH.e (AK (i:=4) gq Z)) (.cell Z Aji Z AG.e (AK (i:=3) gq Z)) ⟨gq.ext,_,_,_,Z,(AH.nil _ _),(AH.nil _ _),Ck.nil⟩
 refine Aw<|As<|Ak<|Aj (A4 2 Z KH.e ay Z)<|Aj (AT (fun _=>BM _))<|Ag 4 Z ay Z (a:=(Br Z (Br (gu.mono az).one (Br Z (Br (gv.mono az).one (Br (row_one (ay.at (i:=1) Z)) K9)))))) fun p1 ke jg=>Ag 3 Z ke Z fun p2 ej jh=>Ac<|Ay ?_
 cases h
 refine Bv (.cell Z AjB Z KH.e (AK (i:=4) ej Z)) (.cell Z Aji Z AG.e (AK (i:=3) ej Z)) ?_;have az:=az.trans (Aa (jg.trans jh));exact⟨ej.ext,_,_,_,Z,((gu.mono az).mono  EC),((gv.mono az).mono  EC),(ej.Ip hH (i:=1) Z (he1024_j424.mono az))⟩
def BO(a0:(Int×AjJ)×(Int×AjI)×(List AjK)):Option Int:=
 some ((a0.2.2.length:Int))
theorem DP(a0:(Int×AjJ)×(Int×AjI)×(List AjK)){a b c:Value}(_h0_0:AH (.pair .st (.vec AjW)) H a (a0.1.2))(_h0_1:AH AjU H b (a0.2.1.2))(e:AH AjV H c (a0.2.2)){r:Int}(h:BO a0=some r):
  Qqv 22 [.agg #[No a0.1.1,a,No a0.2.1.1,b,c]] w (fun v w'=>v=No r):=by
 refine A1 6 [(0,.agg #[No a0.1.1,a,No a0.2.1.1,b,c])] func22 Z fun hL=>Ak<|CB (t:=52) Z Z hL fun g i d f _=>A7 1 Z<|Ak<|Aj (Ae Z AjB Z Lh.e)<|Aj (Af 0 Z d Z)<|Aj (Bc e)<|A7 1 Z<|Ay ?_
 cases h
 refine Am Z ⟨d.ext,Z⟩
def Ge(a:List Bool):Option ((List Bool)):=
 some a
def D1(a1:List Int):(List Bool)×Int->Option (((List Bool)×Int) ⊕ ((List Bool))):=fun⟨b,a⟩=>
 if a<(a1.length:Int) then AO (0<=a/\a<(a1.length:Int)) (AO (0<=a1.getD a.toNat Qq2/\a1.getD a.toNat Qq2<(b.length:Int)) (AO (Bw (a+1)) (some (Sum.inl ((b.set ((a1.getD a.toNat Qq2).toNat) true),(a+1)))))) else Qq7 Sum.inr (Ge b)
def Gf(a1:List Int)(s:(List Bool)×Int):Option ((List Bool)):=Go.L.run (D1 a1) s
def EY(a0:(Int×AjJ)×(Int×AjI)×(List AjK))(a1:List Int):Option ((List Bool)):=
 Qq4 (BO ((a0.1.1,a0.1.2),(a0.2.1.1,a0.2.1.2),a0.2.2)) (fun a=>AO (0<=a/\((1:Nat):Int) * a<=281474976710656/\a<=9223372036854775807) ((Gf a1) ((Qzz a.toNat (false:Bool)),0)))
theorem Qd{a0:(Int×AjJ)×(Int×AjI)×(List AjK)}{a1:List Int}{e f g k:Value}(ad:AH (.pair .st (.vec AjW)) H e (a0.1.2))(ae:AH AjU H f (a0.2.1.2))(af:AH AjV H g (a0.2.2))(q:AH (.int .i64) H k a1){r:(List Bool)}(h:EY a0 a1=some r):
  Qqv 91 [.agg #[No a0.1.1,e,No a0.2.1.1,f,g],k] w (fun v w'=>∃ u0,v=u0/\Ck 4 .bool H w w' u0 r):=by
 refine A1 22 [(0,.agg #[No a0.1.1,e,No a0.2.1.1,f,g]),(1,k)] func91 Z fun hL=>Ak<|CB (t:=52) Z Z hL fun w1 b1 s ay _=>A7 1 Z<|Ak<|Aj (A4 0 Z KH.e s Z)<|Ax h fun x2 ap h=>AF s (DP _ _ (Ao s) (((a0.1.1,a0.1.2),(a0.2.1.1,a0.2.1.2),a0.2.2)) (ad.mono  Ah) (ae.mono  Ah) (af.mono  Ah) ap) fun w3 a6 aq a2=>Az h fun ar h=>Xw (r:=.bool) (z:=(false:Bool)) AjE (fun _=>Z) hH aq ar fun v4 w4 au av a3 aw=>A7 1 Z<|Bt ((List Bool)×(List Value)) (fun⟨m,d⟩=>[(5,v4)]) (fun⟨m,d⟩ wr=>Fl w [.row v4 4 1 (m).length d,.box b1 [No a0.1.1,e,No a0.2.1.1,f,g] 52] wr fun Oz=>AI .bool (gz H w wr Oz) m d/\Ge m=some r) ?_ ?_
 ·refine Bu 1 Z<|Aj (Bc q)<|A7 1 Z<|A3 ?_;obtain⟨u,h⟩:=Ba h;refine B6 ((List Bool)×Int×(List Value)×Nat) (fun⟨c,a,b,n⟩=>[(5,v4),(11,k),(12,No (a1.length:Int)),(13,No a)]) (fun⟨c,a,b,n⟩ wr=>Fl w [.row v4 4 1 (c).length b,.box b1 [No a0.1.1,e,No a0.2.1.1,f,g] 52] wr fun Oz=>AI .bool (gz H w wr Oz) c b/\HG (D1 a1) n (c,a)=some r) (fun⟨c,a,b,n⟩=>n) ((Qzz x2.toNat (false:Bool)),0,au,u) Z ⟨av,aw,h⟩ ?_;rintro⟨c,a,b,nn44⟩ a4 ⟨l,p,h⟩;obtain⟨u,a7,rfl,h,x⟩:=AY h;refine AJ 1 Z<|AD<|AP h ?_ ?_<;>intro ag h
  ·refine Aw<|As<|AD<|A3<|Ak<|Az h fun y h=>Bf q a.toNat (Gy y) (AW y) ?_;rintro a8 _ rfl ah;refine Aj (Bl ah (hH.trans l.arg))<|A7 1 Z<|Au<|Aq 2 Z<|Az h fun o h=>KA 0 Z AjE Ym.e l Z ((a1.getD a.toNat Qq2).toNat) (Gy o) (AW o) fun a9 ai=>KB 0 ((a1.getD a.toNat Qq2).toNat) true Z Z hH l Z p ai (AW o) Z fun ba aj ak ax al=>AL<|A2<|As<|Au<|Az h fun am h=>Aj (A5 am)<|Aq 1 Z<|AL ?_;have h:=Cg.again h x;refine AN (_,_,_,_) Z ⟨ak,al,h⟩
  refine B4<|AE<|A6 ?_;have h:=Cg.out h x;refine Bi<|A8 (_,_) ⟨l,p,h⟩
 rintro⟨m,d⟩ a5 ⟨aa,ac,h⟩;refine AJ 2 Z<|Ay ?_
 cases h
 refine Am Z ⟨aa.ext,_,Z,(aa.Ip hH (i:=0) Z ac)⟩
def Je(a:List Int):Option ((List Int)):=
 some a
def GS(a0:List (Int×Int)):(List Int)×Int->Option (((List Int)×Int) ⊕ ((List Int))):=fun⟨b,a⟩=>
 if a<(a0.length:Int) then AO (0<=a/\a<(a0.length:Int)) (AO (Go.E.Io 8 (b.length+([(a0.getD a.toNat Qq2).1]).length)) (AO (Bw (a+1)) (some (Sum.inl ((b++[(a0.getD a.toNat Qq2).1]),(a+1)))))) else Qq7 Sum.inr (Je b)
def Ky(a0:List (Int×Int))(s:(List Int)×Int):Option ((List Int)):=Go.L.run (GS a0) s
def H6(a0:List (Int×Int)):Option ((List Int)):=
 (Ky a0) (([]:List Int),0)
theorem OV{a0:List (Int×Int)}{g:Value}(q:AH AjW H g a0){r:(List Int)}(h:H6 a0=some r):
  Qqv 145 [g] w (fun v w'=>∃ u0,v=u0/\Ck 3 (.int .i64) H w w' u0 r):=by
 refine A1 19 [(0,g)] func145 Z fun hL=>AJ 1 Z<|Bu 1 Z ?_;obtain⟨ao,au,ap⟩:=DS (.int .i64) H 3 hL;refine Ac<|Bt ((List Int)×Value×(List Value)) (fun⟨k,j,e⟩=>[(3,j)]) (fun⟨k,j,e⟩ wr=>Fl w [.row j 3 1 (k).length e] wr fun Oz=>AI (.int .i64) (gz H w wr Oz) k e/\Je k=some r) ?_ ?_
 ·refine Bu 1 Z<|Aj (Bc q)<|A7 1 Z<|A3 ?_;obtain⟨s,h⟩:=Ba h;refine B6 ((List Int)×Int×Value×(List Value)×Nat) (fun⟨c,a,d,b,n⟩=>[(3,d),(6,g),(7,No (a0.length:Int)),(8,No a)]) (fun⟨c,a,d,b,n⟩ wr=>Fl w [.row d 3 1 (c).length b] wr fun Oz=>AI (.int .i64) (gz H w wr Oz) c b/\HG (GS a0) n (c,a)=some r) (fun⟨c,a,d,b,n⟩=>n) (([]:List Int),0,Aa4,[],s) Z ⟨ao,ap,h⟩ ?_;rintro⟨c,a,d,b,nn46⟩ av ⟨o,f,h⟩;obtain⟨s,ay,rfl,h,t⟩:=AY h;refine AJ 1 Z<|AD<|AP h ?_ ?_<;>intro ad h
  ·refine Aw<|As<|AD<|A3<|Ak<|Az h fun u h=>Bf q a.toNat (Gy u) (AW u) ?_;rintro az _ ⟨_,_,rfl,rfl,rfl⟩ ae;refine Aj (Cx ae (hH.trans o.arg))<|AA H3.e Z o fun a1 a2 af z _=>Ag 0 Z af Z fun a3 x aa=>Ac<|Au<|Aq 1 Z<|Aj (Ae Z Ajq Z CO.e)<|Aj (Af 0 Z x Z)<|B7 [(a0.getD a.toNat Qq2).1] (r:=(.int .i64)) (fun _=>Jp _ _) x (.c1 Z .nil) fun a4 a5 aw ag ab ah=>Az h fun ai h=>?_;have f:=f.mono (Aa (z.trans (aa.trans ab)));refine By (r:=(.int .i64)) 1 c [(a0.getD a.toNat Qq2).1] Z Ahy ag Z f ah ai fun aq a6 aj ak ar p=>Aq 1 Z<|AL<|A2<|As<|Au<|Az h fun al h=>Aj (A5 al)<|Aq 1 Z<|AL ?_;have am:=ak.AS (i:=0) Z;have h:=Cg.again h t;have p:=p.mono (Aa (Al (i:=0) Z))
   refine AN (_,_,_,_,_) Z ⟨am,p,h⟩
  refine B4<|AE<|A6 ?_;have h:=Cg.out h t;refine Bi<|A8 (_,_,_) ⟨o,f,h⟩
 rintro⟨k,j,e⟩ ax ⟨y,ac,h⟩;refine AJ 2 Z<|Ay ?_
 cases h
 refine Am Z ⟨y.ext,_,Z,(y.Ip hH (i:=0) Z ac)⟩
def B0(a:List Int):Option ((List Int)):=
 some a
def FG(a:List (Int×Int)):Option ((List Int)):=
 Qq4 (H6 a) (fun b=>B0 b)
def Dl(a0:(Int×AjJ)×(Int×AjI)×(List AjK))(a1:Qv):(List Int)×Int->Option (((List Int)×Int) ⊕ ((List Int))):=fun⟨b,a⟩=>
 if a<(a0.2.2.length:Int) then AO (0<=a/\a<(a0.2.2.length:Int)) (Qq4 (Ex ((a0.2.2.getD a.toNat Qq2).1,(a0.2.2.getD a.toNat Qq2).2.1,(a0.2.2.getD a.toNat Qq2).2.2) a1.f.2.2.2.1) (fun c=>if 0<c.1 then AO (Go.E.Io 8 (b.length+([a]).length)) (AO (Bw (a+1)) (some (Sum.inl ((b++[a]),(a+1))))) else AO (Bw (a+1)) (some (Sum.inl (b,(a+1)))))) else Qq7 Sum.inr (B0 b)
def FH(a0:(Int×AjJ)×(Int×AjI)×(List AjK))(a1:Qv)(s:(List Int)×Int):Option ((List Int)):=Go.L.run (Dl a0 a1) s
def CZ(a0:(Int×AjJ)×(Int×AjI)×(List AjK))(a1:Qv):Option ((List Int)):=
 if a1.f.1=1 then AO (0<=(0:Int)/\(0:Int)<(a1.f.2.1.length:Int)) (Qq4 (Gu (a0.1.1,a0.1.2) (a1.f.2.1.getD ((0:Int).toNat) Qq2)) (fun a=>FG a.1)) else(if a1.f.1=2 then Qq4 (Ed (a0.1.1,a0.1.2) a1.f.2.1) (fun b=>Qq4 (H6 b.1) (fun c=>B0 c)) else(if a1.f.1=3 then AO (0<=(0:Int)/\(0:Int)<(a1.f.2.1.length:Int)) (AO (0<=(1:Int)/\(1:Int)<(a1.f.2.1.length:Int)) (Qq4 (Ff (a0.1.1,a0.1.2) (a1.f.2.1.getD ((0:Int).toNat) Qq2) (a1.f.2.1.getD ((1:Int).toNat) Qq2) a1.f.2.2.2.2.1) (fun d=>B0 d.1))) else(if a1.f.1=4 then(FH a0 a1) (([]:List Int),0) else(if a1.f.1=5 then Qq4 (Fy (a0.2.1.1,a0.2.1.2) a1.f.2.2.1) (fun e=>B0 e.1) else(if a1.f.1=6 then Qq4 (Ev (a0.2.1.1,a0.2.1.2) a1.f.2.2.1 a1.f.2.2.2.2.1 a1.f.2.2.2.2.2.1) (fun g=>B0 g.1) else(if a1.f.1=7 then Qq4 (F1 (a0.2.1.1,a0.2.1.2) a1.f.2.2.1 a1.f.2.2.2.1) (fun h=>B0 h.1) else B0 ([]:List Int)))))))
theorem P8(hU:Gj H){a0:(Int×AjJ)×(Int×AjI)×(List AjK)}{a1:Qv}{x y p z aa ab:Value}(al:AH (.pair .st (.vec AjW)) H x (a0.1.2))(bo:AH AjU H y (a0.2.1.2))(ck:AH AjV H p (a0.2.2))(am:AH .st H z (a1.f.2.1))(cl:AH .byte H aa (a1.f.2.2.2.1))(_h1_2:AH .B1 H ab (a1.f.2.2.2.2.2.2)){r:(List Int)}(h:CZ a0 a1=some r):
  Qqv 92 [.agg #[No a0.1.1,x,No a0.2.1.1,y,p],.agg #[No a1.f.1,z,Ab5 a1.f.2.2.1,aa,No a1.f.2.2.2.2.1,No a1.f.2.2.2.2.2.1,ab]] w (fun v w'=>∃ u0,v=u0/\Ck 3 (.int .i64) H w w' u0 r):=by
 refine A1 121 [(0,.agg #[No a0.1.1,x,No a0.2.1.1,y,p]),(1,.agg #[No a1.f.1,z,Ab5 a1.f.2.2.1,aa,No a1.f.2.2.2.2.1,No a1.f.2.2.2.2.2.1,ab])] func92 Z fun hL=>Ak<|CB (t:=52) Z Z hL fun w1 b1 fi fs _=>CB (t:=26) Z Z fi fun w2 b2 fj ft _=>A7 1 Z<|Bu 1 Z ?_;obtain⟨b,fu,af⟩:=DS (.int .i64) H 3 fj;refine Ac<|Bt ((List Int)×Value×(List Value)) (fun⟨ak,ag,s⟩=>[(5,ag)]) (fun⟨ak,ag,s⟩ wr=>Fl w [.row ag 3 1 (ak).length s,.box b2 [No a1.f.1,z,Ab5 a1.f.2.2.1,aa,No a1.f.2.2.2.2.1,No a1.f.2.2.2.2.2.1,ab] 26,.box b1 [No a0.1.1,x,No a0.2.1.1,y,p] 52] wr fun Oz=>AI (.int .i64) (gz H w wr Oz) ak s/\B0 ak=some r) ?_ ?_
 ·refine Ak<|Aj (Ae Z Ajm Z CO.e)<|Aj (Af 1 Z b Z)<|Ac<|A3<|AJ 2 Z<|AP h ?_ ?_<;>intro dc h
  ·refine Bt (AjL×Value) (fun⟨u,o⟩=>[(6,o)]) (fun⟨u,o⟩ wr=>Fl w [.row Aa4 3 1 (([]:List Int)).length ([]),.box b2 [No a1.f.1,z,Ab5 a1.f.2.2.1,aa,No a1.f.2.2.2.2.1,No a1.f.2.2.2.2.2.1,ab] 26,.box b1 [No a0.1.1,x,No a0.2.1.1,y,p] 52] wr fun Oz=>AH AjW (gz H w wr Oz) o u/\AI (.int .i64) (gz H w wr Oz) (([]:List Int)) ([])/\FG u=some r) ?_ ?_
   ·refine Qm (Qqz 0 6 (.h2 6 (Qqz 7 3 (.h 10 (.q 11 (.tail 12)))) 10 (.h 6 (Qqz 7 3 (.q 11 (.tail 12)))))) mixed Qqb (fun fv br=>?_);have j:=b.call br;have bd:=AR b br;refine CF Z (Ae Z AjB Z LD.e) Z<|CF Z (KC 2 2 Z LD.e j Z Z) Z<|CF Z (Ae Z Ajm Z Nd.e) Z<|CF Z (Af 1 Z j Z) Z<|Az h fun bs h=>HX Z Z Z AcL am ((0:Int).toNat) (Gy bs) (AW bs) Z ?_;rintro fw _ rfl dd;refine CF Z (Bl dd (hH.trans j.arg)) Z<|Y0 ?_ ?_
    ·refine Ax h fun bp an h=>Ct Z Z Z (fun e7 ah=>Np _ _ (Ao (j.call ah)) (hU.mono  Ah) (al.mono  Ah) an) ?_;rintro e7 _ fx ah ao ⟨cm,rfl,cb⟩;have ap:=j.call ah;have cn:=AR j ah;have de:=ap.call ao;have co:=AR ap ao;have ac:=cb.Dz hH ap ao;refine D4 3 Z<|Pn Z AG.e Z Z de fun fy fz bt be=>D4 1 Z<|BU (fun f0 bu=>?_);have df:=bt.call bu;have bf:=AR bt bu;refine Ag 0 Z df Z fun f1 dg bg=>AL ?_;have dh:=dg.AS (i:=0) Z;have af:=af.mono (Aa (bd.trans (cn.trans (co.trans (be.trans (bf.trans (bg.trans (Al (i:=0) Z))))))));have ac:=ac.mono (Aa (be.trans (bf.trans (bg.trans (Al (i:=0) Z)))));refine A8 (_,_) ⟨dh,ac,af,h⟩
    refine Ax h fun bp an h=>Pn Z AG.e Z Z j fun f2 f3 aq cp=>Ct Z Z Z (fun e8 ai=>Np _ _ (Ao (aq.call ai)) (hU.mono  Ah) (al.mono  Ah) an) ?_;rintro e8 _ f4 ai ar ⟨cq,rfl,cc⟩;have au:=aq.call ai;have cr:=AR aq ai;have bv:=au.call ar;have cs:=AR au ar;have ad:=cc.Dz hH au ar;refine D4 4 Z<|BU (fun f5 bw=>?_);have di:=bv.call bw;have bh:=AR bv bw;refine Ag 0 Z di Z fun f6 dj bi=>AL ?_;have dk:=dj.AS (i:=0) Z;have af:=af.mono (Aa (bd.trans (cp.trans (cr.trans (cs.trans (bh.trans (bi.trans (Al (i:=0) Z))))))));have ad:=ad.mono (Aa (bh.trans (bi.trans (Al (i:=0) Z))));refine A8 (_,_) ⟨dk,ad,af,h⟩
   rintro⟨u,o⟩ fn ⟨av,bq,he142_r3,h⟩;refine Au<|Aq 1 Z<|Ax h fun e9 dl h=>Bk av (OV _ _ (Ao av) bq dl) ?_;rintro ct f7 ⟨_,rfl,cd⟩ dm bx cu;obtain⟨dn,bx,cu,aw⟩:=cd.take hH av dm;refine Aq 1 Z<|AL<|A2 ?_;have dp:=bx.AS (i:=1) Z;have aw:=aw.mono (Aa (Al (i:=1) Z));refine A8 (_,_,_) ⟨dp,aw,h⟩
  refine AJ 2 Z<|AP h ?_ ?_<;>intro dq h
  ·refine Ak<|Aj (Ae Z AjB Z LD.e)<|Aj (KC 2 2 Z LD.e b Z Z)<|Aj (Ae Z Ajm Z Nd.e)<|Aj (Af 1 Z b Z)<|Ax h fun f8 dr h=>Bk b (PY (a0:=(a0.1.1,a0.1.2)) _ _ (Ao b) (hU.mono  Ah) (al.mono  Ah) (am.mono  Ah) dr) ?_;rintro _ f9 ⟨fk,rfl,ce⟩ ds dt fl;have ae:=ce.Dz hH b ds;refine Aq 3 Z<|AA AG.e Z dt fun ga gb du cv _=>Aq 1 Z<|Ag 0 Z du Z fun gc ax cw=>Ac<|Au<|Aq 1 Z<|Ax h fun fa dv h=>?_;have ae:=ae.mono (Aa (cv.trans cw));refine Bk ax (OV _ _ (Ao ax) ae dv) ?_;rintro cx gd ⟨_,rfl,cf⟩ dw bz cy;obtain⟨dx,bz,cy,ay⟩:=cf.take hH ax dw;refine Aq 1 Z<|AL<|A2 ?_;have dy:=bz.AS (i:=1) Z;have dz:=dy.AS (i:=1) Z;have ay:=ay.mono (Aa ((Al (i:=1) Z).trans (Al (i:=1) Z)));refine A8 (_,_,_) ⟨dz,ay,h⟩
  refine AJ 2 Z<|AP h ?_ ?_<;>intro d0 h
  ·refine Qm (Qqz 0 12 (.h 12 (Qqz 13 4 (.tail 17)))) mixed Qqb (fun ge d1=>?_);have e:=b.call d1;refine CF Z (Ae Z AjB Z LD.e) Z<|CF Z (KC 2 2 Z LD.e e Z Z) Z<|CF Z (Ae Z Ajm Z Nd.e) Z<|CF Z (Af 1 Z e Z) Z<|Az h fun b0 h=>HX Z Z Z AcL am ((0:Int).toNat) (Gy b0) (AW b0) Z ?_;rintro gf _ rfl d2;refine CF Z (Bl d2 (hH.trans e.arg)) Z<|CF Z (Ae Z Ajm Z Nd.e) Z<|CF Z (Af 1 Z e Z) Z<|Az h fun b3 h=>HX Z Z Z AcL am ((1:Int).toNat) (Gy b3) (AW b3) Z ?_;rintro gg _ rfl d3;refine CF Z (Bl d3 (hH.trans e.arg)) Z<|CF Z (Ae Z Ajm Z CO.e) Z<|CF Z (Af 1 Z e Z) Z<|Ax h fun fb d4 h=>Ct Z Z Z (fun fc az=>Rs _ _ (Ao (e.call az)) (hU.mono  Ah) (al.mono  Ah) d4) ?_;rintro fc _ gh az a2 ⟨cz,rfl,cg⟩
   have a3:=e.call az;have a4:=a3.call a2;have c0:=AR a3 a2;obtain⟨d5,a4,c0,a5⟩:=cg.take hH a3 a2;refine D4 4 Z<|BU (fun gi b4=>?_);have d6:=a4.call b4;have c2:=AR a4 b4;refine AL<|A2 ?_;have d7:=d6.AS (i:=1) Z;have a5:=a5.mono (Aa (c2.trans (Al (i:=1) Z)));refine A8 (_,_,_) ⟨d7,a5,h⟩
  refine AJ 2 Z<|AP h ?_ ?_<;>intro d8 h
  ·refine Ak<|Aj (Ae Z AjB Z Lh.e)<|Aj (Af 2 Z b Z)<|Aj (Bc ck)<|A7 1 Z<|A3 ?_;obtain⟨a6,h⟩:=Ba h;refine B6 ((List Int)×Int×Value×(List Value)×Nat) (fun⟨g,a,k,c,n⟩=>[(3,(AaD b2)),(5,k),(63,p),(64,No (a0.2.2.length:Int)),(65,No a)]) (fun⟨g,a,k,c,n⟩ wr=>Fl w [.row k 3 1 (g).length c,.box b2 [No a1.f.1,z,Ab5 a1.f.2.2.1,aa,No a1.f.2.2.2.2.1,No a1.f.2.2.2.2.2.1,ab] 26,.box b1 [No a0.1.1,x,No a0.2.1.1,y,p] 52] wr fun Oz=>AI (.int .i64) (gz H w wr Oz) g c/\HG (Dl a0 a1) n (g,a)=some r) (fun⟨g,a,k,c,n⟩=>n) (([]:List Int),0,Aa4,[],a6) Z ⟨b,af,h⟩ ?_;rintro⟨g,a,k,c,nn221⟩ fo ⟨a7,d,h⟩;obtain⟨a6,gj,rfl,h,a8⟩:=AY h;refine AJ 1 Z<|AD<|AP h ?_ ?_<;>intro d9 h
   ·refine Aw<|As<|AD<|A3<|Bu 1 Z<|Az h fun b5 h=>Bf ck a.toNat (Gy b5) (AW b5) ?_;rintro gk _ ⟨_,_,rfl,⟨e225v0,rfl,e225h0⟩,⟨_,_,rfl,⟨e225v1,rfl,e225h1⟩,⟨e225v2,rfl,e225h2⟩⟩⟩ ea;refine Aj (Cx ea (hH.trans a7.arg))<|AA G0.e Z a7 fun gl gm eb bj _=>Aq 1 Z<|Ag 0 Z eb Z (a:=(Br e225h0.one (Br e225h1.one (Br e225h2.one K9)))) fun gn aj bk=>Ac<|Ak<|Aj (A4 0 Z G0.e aj Z)<|Aj (Ae Z Ajm Z IK.e)<|Aj (Af 2 Z aj Z)<|Ax h fun go ec h=>AF aj (P5 (a0:=((a0.2.2.getD a.toNat Qq2).1,(a0.2.2.getD a.toNat Qq2).2.1,(a0.2.2.getD a.toNat Qq2).2.2)) _ _ (Ao aj) (e225h0.mono  Ah) (e225h1.mono  Ah) (e225h2.mono  Ah) (cl.mono  Ah) ec) fun gp fp ed bl=>Aq 3 Z<|AA AG.e Z ed fun gq gr ee bm _=>Aq 1 Z<|Ag 0 Z ee Z fun gs b6 bn=>Ac<|AJ 2 Z ?_
    refine AP h ?_ ?_<;>intro ef h
    ·refine Au<|Aq 2 Z<|B7 [a] (r:=(.int .i64)) (fun _=>Jp _ _) b6 (.c1 Z .nil) fun gt gu fq eg c3 eh=>Az h fun ei h=>?_;have d:=d.mono (Aa (bj.trans (bk.trans (bl.trans (bm.trans (bn.trans c3))))));refine By (r:=(.int .i64)) 2 g [a] Z Ahy eg Z d eh ei fun fd gv ej ek fm a9=>Aq 1 Z<|AL<|A2<|As<|Au<|Az h fun el h=>Aj (A5 el)<|Aq 1 Z<|AL ?_;have em:=ek.AS (i:=0) Z;have en:=em.AS (i:=0) Z;have h:=Cg.again h a8;have a9:=a9.mono (Aa ((Al (i:=0) Z).trans (Al (i:=0) Z)));refine AN (_,_,_,_,_) Z ⟨en,a9,h⟩
    refine Aw<|A2<|As<|Au<|Az h fun eo h=>Aj (A5 eo)<|Aq 1 Z<|AL ?_;have ep:=b6.AS (i:=0) Z;have eq:=ep.AS (i:=0) Z;have h:=Cg.again h a8;have d:=d.mono (Aa (bj.trans (bk.trans (bl.trans (bm.trans (bn.trans ((Al (i:=0) Z).trans (Al (i:=0) Z))))))));refine AN (_,_,_,_,_) Z ⟨eq,d,h⟩
   refine B4<|AE<|A6 ?_;have h:=Cg.out h a8;refine Bi<|A2<|A8 (_,_,_) ⟨a7,d,h⟩
  refine AJ 2 Z<|AP h ?_ ?_<;>intro er h
  ·refine Au<|Aj (Ae Z AjB Z Mx.e)<|Aj (KC 2 2 Z Mx.e b Z Z)<|Aj (Ae Z Ajm Z HJ.e)<|Aj (Af 1 Z b Z)<|Ax h fun fe es h=>Bk b (Q8 (a0:=(a0.2.1.1,a0.2.1.2)) _ _ (Ao b) (bo.mono  Ah) es) ?_;rintro _ gw ⟨c4,rfl,ch⟩ et b7 c5;obtain⟨eu,b7,c5,ba⟩:=ch.take hH b et;refine Aq 4 Z<|AL<|A2 ?_;have ev:=b7.AS (i:=1) Z;have ba:=ba.mono (Aa (Al (i:=1) Z));refine A8 (_,_,_) ⟨ev,ba,h⟩
  refine AJ 2 Z<|AP h ?_ ?_<;>intro ew h
  ·refine Au<|Aj (Ae Z AjB Z Mx.e)<|Aj (KC 2 2 Z Mx.e b Z Z)<|Aj (Ae Z Ajm Z HJ.e)<|Aj (Af 1 Z b Z)<|Aj (Ae Z Ajm Z CO.e)<|Aj (Af 1 Z b Z)<|Aj (Ae Z Ajm Z CO.e)<|Aj (Af 1 Z b Z)<|Ax h fun ff ex h=>Bk b (P1 (a0:=(a0.2.1.1,a0.2.1.2)) _ _ (Ao b) (bo.mono  Ah) ex) ?_;rintro _ gx ⟨c6,rfl,ci⟩ ey b8 c7;obtain⟨ez,b8,c7,bb⟩:=ci.take hH b ey;refine Aq 4 Z<|AL<|A2 ?_;have e0:=b8.AS (i:=1) Z;have bb:=bb.mono (Aa (Al (i:=1) Z));refine A8 (_,_,_) ⟨e0,bb,h⟩
  refine AJ 2 Z<|AP h ?_ ?_<;>intro e1 h
  ·refine Au<|Aj (Ae Z AjB Z Mx.e)<|Aj (KC 2 2 Z Mx.e b Z Z)<|Aj (Ae Z Ajm Z HJ.e)<|Aj (Af 1 Z b Z)<|Aj (Ae Z Ajm Z IK.e)<|Aj (Af 1 Z b Z)<|Ax h fun fg e2 h=>Bk b (Q9 (a0:=(a0.2.1.1,a0.2.1.2)) _ _ (Ao b) (bo.mono  Ah) (cl.mono  Ah) e2) ?_;rintro _ gy ⟨c8,rfl,cj⟩ e3 b9 c9;obtain⟨e4,b9,c9,bc⟩:=cj.take hH b e3;refine Aq 4 Z<|AL<|A2 ?_;have e5:=b9.AS (i:=1) Z;have bc:=bc.mono (Aa (Al (i:=1) Z));refine A8 (_,_,_) ⟨e5,bc,h⟩
  refine Aw<|A2<|A8 (_,_,_) ⟨b,af,h⟩
 rintro⟨ak,ag,s⟩ fr ⟨ca,da,h⟩;refine AJ 2 Z<|Ay ?_
 cases h
 refine Am Z ⟨ca.ext,_,Z,(ca.Ip hH (i:=0) Z da)⟩
end
def CC(a:List Bool):Option ((List Bool)):=
 some a
def CD(a:Int)(b:List Bool):Option (((List Bool)×Int) ⊕ ((List Bool))):=
 AO (Bw (a+1)) (some (Sum.inl (b,(a+1))))
def BY(a1:Qv)(d:Int)(c:(List Bool)):(List Bool)×Int->Option (((List Bool)×Int) ⊕ (((List Bool)×Int) ⊕ ((List Bool)))):=fun⟨b,a⟩=>
 if a<(c.length:Int) then AO (0<=a/\a<(c.length:Int)) (if a1.f.1=8 then AO (0<=a/\a<(b.length:Int)) (AO (0<=a/\a<(b.length:Int)) (AO (Bw (a+1)) (some (Sum.inl ((b.set a.toNat (bif b.getD a.toNat Qq2 then c.getD a.toNat Qq2 else false)),(a+1)))))) else AO (0<=a/\a<(b.length:Int)) (AO (0<=a/\a<(b.length:Int)) (AO (Bw (a+1)) (some (Sum.inl ((b.set a.toNat (bif b.getD a.toNat Qq2 then true else c.getD a.toNat Qq2)),(a+1))))))) else Qq7 Sum.inr ((CD d) b)
def D8(a1:Qv)(a:Int)(b:(List Bool))(s:(List Bool)×Int):Option (((List Bool)×Int) ⊕ ((List Bool))):=Go.L.run (BY a1 a b) s
def BH(a0:(Int×AjJ)×(Int×AjI)×(List AjK))(a1:Qv)(self:AjN->Qv->Option ((List Bool))):(List Bool)×Int->Option (((List Bool)×Int) ⊕ ((List Bool))):=fun⟨b,a⟩=>
 if a<((a1.f.2.2.2.2.2.2.drop (1:Int).toNat).length:Int) then AO (0<=a/\a<((a1.f.2.2.2.2.2.2.drop (1:Int).toNat).length:Int)) (Qq4 (self ((a0.1.1,a0.1.2),(a0.2.1.1,a0.2.1.2),a0.2.2) ((a1.f.2.2.2.2.2.2.drop (1:Int).toNat).getD a.toNat Qq2)) (fun c=>(D8 a1 a c) (b,0))) else Qq7 Sum.inr (CC b)
def CE(a0:(Int×AjJ)×(Int×AjI)×(List AjK))(a1:Qv)(self:AjN->Qv->Option ((List Bool)))(s:(List Bool)×Int):Option ((List Bool)):=Go.L.run (BH a0 a1 self) s
def Cf(a0:(Int×AjJ)×(Int×AjI)×(List AjK))(a1:Qv)(self:AjN->Qv->Option ((List Bool)))(a:List Bool):Option ((List Bool)):=
 AO (0<=(1:Int)/\(1:Int)<=(a1.f.2.2.2.2.2.2.length:Int)) ((CE a0 a1 self) (a,0))
def BZ(a0:(Int×AjJ)×(Int×AjI)×(List AjK))(a1:Qv)(self:AjN->Qv->Option ((List Bool)))(c:(List Bool)):(List Bool)×Int->Option (((List Bool)×Int) ⊕ ((List Bool))):=fun⟨b,a⟩=>
 if a<(c.length:Int) then AO (0<=a/\a<(b.length:Int)) (AO (0<=a/\a<(b.length:Int)) (AO (Bw (a+1)) (some (Sum.inl ((b.set a.toNat (!(b.getD a.toNat Qq2))),(a+1)))))) else Qq7 Sum.inr ((Cf a0 a1 self) b)
def D9(a0:(Int×AjJ)×(Int×AjI)×(List AjK))(a1:Qv)(self:AjN->Qv->Option ((List Bool)))(a:(List Bool))(s:(List Bool)×Int):Option ((List Bool)):=Go.L.run (BZ a0 a1 self a) s
def CA(self:AjN->Qv->Option ((List Bool)))(a0:(Int×AjJ)×(Int×AjI)×(List AjK))(a1:Qv):Option ((List Bool)):=
 Qq4 (IG a1.f.1) (fun c=>if c then Qq4 (CZ ((a0.1.1,a0.1.2),(a0.2.1.1,a0.2.1.2),a0.2.2) a1) (fun d=>Qq4 (EY ((a0.1.1,a0.1.2),(a0.2.1.1,a0.2.1.2),a0.2.2) d) (fun b=>some b)) else AO (0<=(0:Int)/\(0:Int)<(a1.f.2.2.2.2.2.2.length:Int)) (Qq4 (self ((a0.1.1,a0.1.2),(a0.2.1.1,a0.2.1.2),a0.2.2) (a1.f.2.2.2.2.2.2.getD ((0:Int).toNat) Qq2)) (fun a=>if a1.f.1=10 then(D9 a0 a1 self a) (a,0) else(Cf a0 a1 self) a)))
def FI(self:AjN->Qv->Option ((List Bool))):Prop:=∀ (w:World) (H:PH) (hH:Le H (hp w)) (hU:Gj H) {a0:(Int×AjJ)×(Int×AjI)×(List AjK)} {a1:Qv} {a:Value} {b:Value} {c:Value} {d:Value} {e:Value} {g:Value} (j:AH (.pair .st (.vec AjW)) H a (a0.1.2)) (k:AH AjU H b (a0.2.1.2)) (l:AH AjV H c (a0.2.2)) (m:AH .st H d (a1.f.2.1)) (n:AH .byte H e (a1.f.2.2.2.1)) (o:AH .B1 H g (a1.f.2.2.2.2.2.2)) {r:(List Bool)} (h:self a0 a1=some r),Ok prog 51 [.agg #[No a0.1.1,a,No a0.2.1.1,b,c],.agg #[No a1.f.1,d,Ab5 a1.f.2.2.1,e,No a1.f.2.2.2.2.1,No a1.f.2.2.2.2.2.1,g]] w (fun v w'=>Ext w w'/\∃ i,v=i/\Ck 4 .bool H w w' i r)
def Bq:Nat->AjN->Qv->Option ((List Bool))
 | 0=>fun _ _=>none
 | n+1=>CA (Bq n)
def Fh:AjN->Qv->Option ((List Bool)):=Bq 1000
theorem Ni(self:AjN->Qv->Option ((List Bool)))(hself:FI self):FI (CA self):=by
 intro w H hH hU a0 a1 e g k ad ae af au av aw dc dd a8 r h;unfold FI at hself;refine A1 88 [(0,.agg #[No a0.1.1,e,No a0.2.1.1,g,k]),(1,.agg #[No a1.f.1,ad,Ab5 a1.f.2.2.1,ae,No a1.f.2.2.2.2.1,No a1.f.2.2.2.2.2.1,af])] func51 Z fun hL=>Ak<|CB (t:=52) Z Z hL fun w1 b1 ds d7 _=>CB (t:=26) Z Z ds fun w2 b2 bw d8 _=>A7 1 Z<|AD<|Ak<|Aj (Ae Z Ajm Z CO.e)<|Aj (Af 0 Z bw Z)<|Ax h fun x3 dt h=>AF bw (M6 _ _ (Ao bw) dt) fun w4 ep am d9=>Ac<|B3 h ?_ ?_<;>intro du h
 ·refine Eu (Qqz 0 3 (.h 3 (.h 4 (.q 5 (.tail 6))))) mixed Qqb (fun w7 dv=>?_);have bj:=am.call dv
  iterate 2 refine CF Z (A4 1 Z KH.e bj Z) Z ?_
  refine CF Z (A4 0 Z B8.e bj Z) Z<|Ax h fun x9 dw h=>Ct Z Z Z (fun dx a9=>P8 _ _ (Ao (bj.call a9)) (hU.mono  Ah) (au.mono  Ah) (av.mono  Ah) (aw.mono  Ah) (dc.mono  Ah) (dd.mono  Ah) (a8.mono  Ah) dw) ?_;rintro dx dz eq a9 ba ⟨_,rfl,bx⟩;have bb:=bj.call a9;have ax:=bb.call ba;have d0:=AR bb ba;have s:=bx.Dz hH bb ba;refine Ax h fun er de h=>Ct Z Z Z (fun dy an=>Qd _ _ (Ao (ax.call an)) (au.mono  Ah) (av.mono  Ah) (aw.mono  Ah) (s.mono (Aa (AR ax an))) de) ?_;rintro dy d1 es an bc ⟨_,rfl,bz⟩;have bd:=ax.call an;have ck:=AR ax an;have s:=s.mono (Aa ck);have be:=bd.call bc;have bk:=AR bd bc;obtain⟨ea,be,bk,bf⟩:=bz.take hH bd bc;have s:=s.mono (Aa bk);refine D4 1 Z<|BU (fun et b0=>?_);have b3:=be.call b0;have bl:=AR be b0;have s:=s.mono (Aa bl);have bf:=bf.mono (Aa bl);refine Ac<|Ay<|Ar ?_
  cases h
  refine Am Z ⟨b3.ext,_,Z,(b3.Ip hH (i:=0) Z bf)⟩
 refine Aw<|As<|Ak<|Aj (A4 1 Z KH.e am Z)<|A7 2 Z<|Bu 1 Z<|Aj (Ae Z Ajm Z Mm.e)<|Aj (Af 0 Z am Z)<|Az h fun b4 h=>Bf a8 ((0:Int).toNat) (Gy b4) (AW b4) ?_;rintro eu _ e20t0 df;obtain⟨_,_,rfl,rfl,⟨_,_,rfl,⟨e20v1,rfl,e20h1⟩,⟨_,_,rfl,rfl,⟨_,_,rfl,⟨e20v3,rfl,e20h3⟩,⟨_,_,rfl,rfl,⟨_,_,rfl,rfl,⟨e20v6,rfl,e20h6⟩⟩⟩⟩⟩⟩⟩:=Go.E.Rp.HL e20t0;refine Aj (Cx df (hH.trans am.arg))<|Ax h fun bm dg h=>YJ [.agg #[No a0.1.1,e,No a0.2.1.1,g,k]] [] Z Z am (hself _ _ (Ao am) (hU.mono  Ah) (au.mono  Ah) (av.mono  Ah) (aw.mono  Ah) (e20h1.mono  Ah) (e20h3.mono  Ah) (e20h6.mono  Ah) dg) ?_;rintro d ev ⟨_,rfl,b5⟩ dh ao cl;obtain⟨b6,ao,cl,b7⟩:=b5.take hH am dh;refine A7 1 Z ?_
 refine Bt ((List Bool)×(List Value)) (fun⟨aq,ah⟩=>[(3,(AaD b2)),(5,.func (.func 51) #[.agg #[No a0.1.1,e,No a0.2.1.1,g,k]] #[]),(6,d)]) (fun⟨aq,ah⟩ wr=>Fl w [.row d 4 1 (aq).length ah,.box b2 [No a1.f.1,ad,Ab5 a1.f.2.2.1,ae,No a1.f.2.2.2.2.1,No a1.f.2.2.2.2.2.1,af] 26,.box b1 [No a0.1.1,e,No a0.2.1.1,g,k] 52] wr fun Oz=>AI .bool (gz H w wr Oz) aq ah/\(Cf a0 a1 self) aq=some r) ?_ ?_
 ·refine Ak<|Aj (Ae Z Ajm Z CO.e)<|Aj (Af 1 Z ao Z)<|A7 1 Z<|AP h ?_ ?_<;>intro di h
  ·refine Bu 1 Z<|Aj (Qo 0 Z ao Z)<|A7 1 Z<|A3 ?_;obtain⟨b8,h⟩:=Ba h;refine B6 ((List Bool)×Int×(List Value)×Nat) (fun⟨ac,c,ab,n⟩=>[(3,(AaD b2)),(5,.func (.func 51) #[.agg #[No a0.1.1,e,No a0.2.1.1,g,k]] #[]),(6,d),(32,No (bm.length:Int)),(33,No c)]) (fun⟨ac,c,ab,n⟩ wr=>Fl w [.row d 4 1 (ac).length ab,.box b2 [No a1.f.1,ad,Ab5 a1.f.2.2.1,ae,No a1.f.2.2.2.2.1,No a1.f.2.2.2.2.2.1,af] 26,.box b1 [No a0.1.1,e,No a0.2.1.1,g,k] 52] wr fun Oz=>AI .bool (gz H w wr Oz) ac ab/\HG (BZ a0 a1 self bm) n (ac,c)=some r) (fun⟨ac,c,ab,n⟩=>n) (bm,0,b6,b8) Z ⟨ao,b7,h⟩ ?_;rintro⟨ac,c,ab,nn67⟩ eb ⟨ay,az,h⟩;obtain⟨b8,ew,rfl,h,b9⟩:=AY h;refine AJ 1 Z<|AD<|AP h ?_ ?_<;>intro dj h
   ·refine Aw<|As<|AD<|A3<|AJ 2 Z<|Au<|Aq 4 Z<|Az h fun ca h=>Bf (ay.RJ hH (i:=0) Z az) c.toNat (Gy ca) (AW ca) ?_;rintro ex _ rfl dk;refine Aj (Bl dk (Le.refl _))<|Aq 1 Z<|Az h fun bg h=>KA 0 Z AjE Ym.e ay Z c.toNat (Gy bg) (AW bg) fun ey dl=>KB 0 c.toNat (!(ac.getD c.toNat Qq2)) Z Z hH ay Z az dl (AW bg) Z fun ez dm dn d2 dp=>AL<|A2<|As<|Au<|Az h fun dq h=>Aj (A5 dq)<|Aq 1 Z<|AL ?_;have h:=Cg.again h b9;refine AN (_,_,_,_) Z ⟨dn,dp,h⟩
   refine B4<|AE<|A6 ?_;have h:=Cg.out h b9;refine Bi<|A8 (_,_) ⟨ay,az,h⟩
  refine Aw<|A8 (_,_) ⟨ao,b7,h⟩
 rintro⟨aq,ah⟩ ec ⟨cb,cm,h⟩;refine Bt ((List Bool)×(List Value)) (fun⟨ap,ai⟩=>[(6,d)]) (fun⟨ap,ai⟩ wr=>Fl w [.row d 4 1 (ap).length ai,.box b2 [No a1.f.1,ad,Ab5 a1.f.2.2.1,ae,No a1.f.2.2.2.2.1,No a1.f.2.2.2.2.2.1,af] 26,.box b1 [No a0.1.1,e,No a0.2.1.1,g,k] 52] wr fun Oz=>AI .bool (gz H w wr Oz) ap ai/\CC ap=some r) ?_ ?_
 ·refine Ak<|Aj (Ae Z Ajm Z Mm.e)<|Aj (Af 1 Z cb Z)<|Az h fun cn h=>Y8 a8 cn fun bh bn=>Aj (Bc bn)<|A7 1 Z<|A3 ?_;obtain⟨bi,h⟩:=Ba h;refine B6 ((List Bool)×Int×(List Value)×Nat) (fun⟨y,b,u,n⟩=>[(3,(AaD b2)),(5,.func (.func 51) #[.agg #[No a0.1.1,e,No a0.2.1.1,g,k]] #[]),(6,d),(47,bh),(48,No ((a1.f.2.2.2.2.2.2.drop (1:Int).toNat).length:Int)),(49,No b)]) (fun⟨y,b,u,n⟩ wr=>Fl w [.row d 4 1 (y).length u,.box b2 [No a1.f.1,ad,Ab5 a1.f.2.2.1,ae,No a1.f.2.2.2.2.1,No a1.f.2.2.2.2.2.1,af] 26,.box b1 [No a0.1.1,e,No a0.2.1.1,g,k] 52] wr fun Oz=>AI .bool (gz H w wr Oz) y u/\HG (BH a0 a1 self) n (y,b)=some r) (fun⟨y,b,u,n⟩=>n) (aq,0,ah,bi) Z ⟨cb,cm,h⟩ ?_;rintro⟨y,b,u,nn263⟩ d3 ⟨a2,o,h⟩;obtain⟨bi,cc,rfl,h,bo⟩:=AY h;refine AJ 1 Z<|AD<|AP h ?_ ?_<;>intro co h
  ·refine Aw<|As<|Bt ((List Bool)×(List Value)) (fun⟨aj,aa⟩=>[(3,(AaD b2)),(5,.func (.func 51) #[.agg #[No a0.1.1,e,No a0.2.1.1,g,k]] #[]),(6,d),(47,bh),(48,No ((a1.f.2.2.2.2.2.2.drop (1:Int).toNat).length:Int)),(49,No b)]) (fun⟨aj,aa⟩ wr=>Fl w [.row d 4 1 (aj).length aa,.box b2 [No a1.f.1,ad,Ab5 a1.f.2.2.1,ae,No a1.f.2.2.2.2.1,No a1.f.2.2.2.2.2.1,af] 26,.box b1 [No a0.1.1,e,No a0.2.1.1,g,k] 52] wr fun Oz=>AI .bool (gz H w wr Oz) aj aa/\(CD b) aj=some cc) ?_ ?_
   ·refine A3<|Ak<|Az h fun bp h=>Bf bn b.toNat (Gy bp) (AW bp) ?_;rintro ed _ e321t0 cp;obtain⟨_,_,rfl,rfl,⟨_,_,rfl,⟨e321v1,rfl,e321h1⟩,⟨_,_,rfl,rfl,⟨_,_,rfl,⟨e321v3,rfl,e321h3⟩,⟨_,_,rfl,rfl,⟨_,_,rfl,rfl,⟨e321v6,rfl,e321h6⟩⟩⟩⟩⟩⟩⟩:=Go.E.Rp.HL e321t0;refine Aj (Cx cp (hH.trans a2.arg))<|AA B8.e Z a2 ?_;intro ee dr cq cd _;have o:=o.mono (Aa cd);refine Ag 0 Z cq Z (a:=(Br Z (Br e321h1.one (Br Z (Br e321h3.one (Br Z (Br Z (Br e321h6.one K9)))))))) ?_;intro ef ak ce;have o:=o.mono (Aa ce);refine Ac<|Bu 1 Z<|Aj (A4 0 Z B8.e ak Z)<|Ax h fun ag cr h=>YJ [.agg #[No a0.1.1,e,No a0.2.1.1,g,k]] [] Z Z ak (hself _ _ (Ao ak) (hU.mono  Ah) (au.mono  Ah) (av.mono  Ah) (aw.mono  Ah) (e321h1.mono  Ah) (e321h3.mono  Ah) (e321h6.mono  Ah) cr) ?_;rintro a7 eg ⟨_,rfl,bv⟩ cs ct cf;have ar:=bv.Dz hH ak cs;have o:=o.mono (Aa cf);refine Aj (Bc ar)<|A7 1 Z ?_
    refine A3 ?_;obtain⟨a3,h⟩:=Ba h;refine B6 ((List Bool)×Int×(List Value)×Nat) (fun⟨l,a,x,n⟩=>[(3,(AaD b2)),(5,.func (.func 51) #[.agg #[No a0.1.1,e,No a0.2.1.1,g,k]] #[]),(6,d),(47,bh),(48,No ((a1.f.2.2.2.2.2.2.drop (1:Int).toNat).length:Int)),(49,No b),(55,a7),(56,No (ag.length:Int)),(57,No a)]) (fun⟨l,a,x,n⟩ wr=>Fl w [.box dr [No (((a1.f.2.2.2.2.2.2.drop (1:Int).toNat).getD b.toNat Qq2).f.1),e321v1,.string ⟨(((a1.f.2.2.2.2.2.2.drop (1:Int).toNat).getD b.toNat Qq2).f.2.2.1).toArray⟩,e321v3,No (((a1.f.2.2.2.2.2.2.drop (1:Int).toNat).getD b.toNat Qq2).f.2.2.2.2.1),No (((a1.f.2.2.2.2.2.2.drop (1:Int).toNat).getD b.toNat Qq2).f.2.2.2.2.2.1),e321v6] 26,.row d 4 1 (l).length x,.box b2 [No a1.f.1,ad,Ab5 a1.f.2.2.1,ae,No a1.f.2.2.2.2.1,No a1.f.2.2.2.2.2.1,af] 26,.box b1 [No a0.1.1,e,No a0.2.1.1,g,k] 52] wr fun Oz=>AH .bool (gz H w wr Oz) a7 ag/\AI .bool (gz H w wr Oz) l x/\HG (BY a1 b ag) n (l,a)=some cc) (fun⟨l,a,x,n⟩=>n) (y,0,u,a3) Z ⟨ct,ar,o,h⟩ ?_
    rintro⟨l,a,x,nn350⟩ d4 ⟨p,m,v,h⟩;obtain⟨a3,eh,rfl,h,a4⟩:=AY h;refine AJ 1 Z<|AD<|AP h ?_ ?_<;>intro cu h
    ·refine Aw<|As<|AD<|A3<|Bu 1 Z<|Az h fun bq h=>Bf m a.toNat (Gy bq) (AW bq) ?_;rintro ei _ rfl cv;refine Aj (Bl cv (Ao p))<|A7 2 Z<|Ak<|Aj (Ae Z Ajm Z CO.e)<|Aj (Af 2 Z p Z)<|A7 1 Z<|AP h ?_ ?_<;>intro cw h
     ·refine Au<|Aq 4 Z<|Az h fun br h=>Bf (p.RJ hH (i:=1) Z v) a.toNat (Gy br) (AW br) ?_;rintro ej _ rfl cx;refine Aj (Bl cx (Le.refl _))<|Aq 1 Z<|Sc 1 6 Z Z Z Z Z Z Z<|Az h fun a5 h=>KA 1 Z AjE Ym.e p Z a.toNat (Gy a5) (AW a5) fun ek cy=>KB 1 a.toNat (bif l.getD a.toNat Qq2 then ag.getD a.toNat Qq2 else false) Z Z hH p Z v cy (AW a5) Z ?_;intro el cz c0 cg c1;have m:=m.mono (Aa cg);refine AL<|A2<|As<|Au<|Az h fun c2 h=>Aj (A5 c2)<|Aq 1 Z<|AL ?_;have h:=Cg.again h a4;refine AN (_,_,_,_) Z ⟨c0,m,c1,h⟩
     refine Au<|Aq 4 Z<|Az h fun bs h=>Bf (p.RJ hH (i:=1) Z v) a.toNat (Gy bs) (AW bs) ?_;rintro em _ rfl c3;refine Aj (Bl c3 (Le.refl _))<|Aq 1 Z<|AaF 1 6 Z Z Z Z Z Z Z<|Az h fun a6 h=>KA 1 Z AjE Ym.e p Z a.toNat (Gy a6) (AW a6) fun en c4=>KB 1 a.toNat (bif l.getD a.toNat Qq2 then true else ag.getD a.toNat Qq2) Z Z hH p Z v c4 (AW a6) Z ?_;intro eo c5 c6 ch c7;have m:=m.mono (Aa ch);refine AL<|A2<|As<|Au<|Az h fun c8 h=>Aj (A5 c8)<|Aq 1 Z<|AL ?_;have h:=Cg.again h a4;refine AN (_,_,_,_) Z ⟨c6,m,c7,h⟩
    refine B4<|AE<|A6 ?_;have h:=Cg.out h a4;refine Bi<|A2 ?_;have c9:=p.AS (i:=0) Z;have v:=v.mono (Aa (Al (i:=0) Z));refine A8 (_,_) ⟨c9,v,h⟩
   rintro⟨aj,aa⟩ d5 ⟨da,ci,h⟩;refine Au<|Az h fun db h=>Aj (A5 db)<|Aq 1 Z<|AL ?_;have h:=Cg.again h bo;refine AN (_,_,_,_) Z ⟨da,ci,h⟩
  refine B4<|AE<|A6 ?_;have h:=Cg.out h bo;refine Bi<|A8 (_,_) ⟨a2,o,h⟩
 rintro⟨ap,ai⟩ d6 ⟨bt,cj,h⟩;refine AJ 2 Z<|Ay ?_
 cases h
 refine Am Z ⟨bt.ext,_,Z,(bt.Ip hH (i:=0) Z cj)⟩
theorem Od(n:Nat):FI (Bq n):=by
 induction n with
 | zero=>unfold FI;intros;rename_i h;cases h
 | succ n ih=>exact Ni (Bq n) ih
section
variable(w:World)(H:PH)(hH:Le H (hp w)) include hH
theorem OW(hU:Gj H){a0:(Int×AjJ)×(Int×AjI)×(List AjK)}{a1:Qv}{a b c d e g:Value}(i:AH (.pair .st (.vec AjW)) H a (a0.1.2))(j:AH AjU H b (a0.2.1.2))(k:AH AjV H c (a0.2.2))(l:AH .st H d (a1.f.2.1))(m:AH .byte H e (a1.f.2.2.2.1))(n:AH .B1 H g (a1.f.2.2.2.2.2.2)){r:(List Bool)}(h:Fh a0 a1=some r):Ok prog 51 [.agg #[No a0.1.1,a,No a0.2.1.1,b,c],.agg #[No a1.f.1,d,Ab5 a1.f.2.2.1,e,No a1.f.2.2.2.2.1,No a1.f.2.2.2.2.2.1,g]] w (fun v w'=>Ext w w'/\∃ o,v=o/\Ck 4 .bool H w w' o r):=Od 1000 w H hH hU i j k l m n h
def Gg(a:List Int):Option AjQ:=
 some (a,(0,0))
def D2(a2:List Bool)(c:(List Bool)):(List Int)×Int->Option (((List Int)×Int) ⊕ AjQ):=fun⟨b,a⟩=>
 if a<(c.length:Int) then AO (0<=a/\a<(c.length:Int)) (if c.getD a.toNat Qq2 then AO (0<=a/\a<(a2.length:Int)) (if a2.getD a.toNat Qq2 then AO (Go.E.Io 8 (b.length+([a]).length)) (AO (Bw (a+1)) (some (Sum.inl ((b++[a]),(a+1))))) else AO (Bw (a+1)) (some (Sum.inl (b,(a+1))))) else AO (Bw (a+1)) (some (Sum.inl (b,(a+1))))) else Qq7 Sum.inr (Gg b)
def Gh(a2:List Bool)(a:(List Bool))(s:(List Int)×Int):Option AjQ:=Go.L.run (D2 a2 a) s
def Cw(a0:(Int×AjJ)×(Int×AjI)×(List AjK))(a1:Qv)(a2:List Bool):Option AjQ:=
 Qq4 (FW a1) (fun a=>if a.1=0/\a.2=0 then Qq4 (BO ((a0.1.1,a0.1.2),(a0.2.1.1,a0.2.1.2),a0.2.2)) (fun c=>if(a2.length:Int)=c then Qq4 (Fh ((a0.1.1,a0.1.2),(a0.2.1.1,a0.2.1.2),a0.2.2) a1) (fun d=>(Gh a2 d) (([]:List Int),0)) else Qq4 (Cz (9:Int) (-2:Int)) (fun b=>some ([],(b.1,b.2)))) else some ([],(a.1,a.2)))
theorem Ij(hU:Gj H)(a0:(Int×AjJ)×(Int×AjI)×(List AjK))(a1:Qv){a2:List Bool}{p s u x y z ab:Value}(aq:AH (.pair .st (.vec AjW)) H p (a0.1.2))(ar:AH AjU H s (a0.2.1.2))(au:AH AjV H u (a0.2.2))(av:AH .st H x (a1.f.2.1))(aw:AH .byte H y (a1.f.2.2.2.1))(ax:AH .B1 H z (a1.f.2.2.2.2.2.2))(ay:AH .bool H ab a2){r:(List Int)×(Int×Int)}(h:Cw a0 a1 a2=some r):
  Qqv 24 [.agg #[No a0.1.1,p,No a0.2.1.1,s,u],.agg #[No a1.f.1,x,Ab5 a1.f.2.2.1,y,No a1.f.2.2.2.2.1,No a1.f.2.2.2.2.2.1,z],ab] w (fun v w'=>∃ u0,v=.tuple #[u0,.agg #[No r.2.1,No r.2.2]]/\Ck 3 (.int .i64) H w w' u0 (r.1)):=by
 refine A1 47 [(0,.agg #[No a0.1.1,p,No a0.2.1.1,s,u]),(1,.agg #[No a1.f.1,x,Ab5 a1.f.2.2.1,y,No a1.f.2.2.2.2.1,No a1.f.2.2.2.2.2.1,z]),(2,ab)] func24 Z fun hL=>Ak<|CB (t:=52) Z Z hL fun w1 b1 b9 cn _=>CB (t:=26) Z Z b9 fun w2 b2 cb co _=>Aq 1 Z<|AA AG.e Z cb fun w3 b3 az cp _=>Ac<|AD<|Ak<|Aj (A4 1 Z B8.e az Z)<|Ax h fun x4 cc h=>AF az (Ln (a0:=a1) _ _ (Ao az) (hU.mono  Ah) (av.mono  Ah) (aw.mono  Ah) (ax.mono  Ah) cc) fun w5 c4 cd cq=>AA AG.e Z cd fun w6 b6 cf cr _=>Ag 0 Z cf Z fun w7 ag cs=>Ac<|Ak<|Aj (A4 0 Z AG.e ag Z)<|Aj (AT (fun _=>BM _))<|Aj (JO J2 (Nf _ _ _ _))<|Ac<|CP h ?_ ?_<;>intro cg h
 ·refine Eu (.q 0 (.q 1 (.tail 2))) mixed Qqb (fun c5 bp=>?_);have a3:=ag.call bp;refine CF Z (A4 0 Z AG.e a3 Z) Z<|D4 1 Z<|BU (fun c6 bq=>?_);have br:=a3.call bq;refine Ag 1 Z br Z fun c7 a4 ch=>Ac<|Ay<|Ar ?_
  cases h
  refine Bv (.tmp Z) (.cell Z Aji Z AG.e (AK (i:=1) a4 Z)) ⟨a4.ext,_,Z,Ck.nil⟩
 refine Aw<|As<|AD<|Bu 1 Z<|Aj (Bc ay)<|Aj (A4 3 Z KH.e ag Z)<|Ax h fun c8 bs h=>AF ag (DP _ _ (Ao ag) (((a0.1.1,a0.1.2),(a0.2.1.1,a0.2.1.2),a0.2.2)) (aq.mono  Ah) (ar.mono  Ah) (au.mono  Ah) bs) fun c9 ct al ci=>A7 1 Z<|CP h ?_ ?_<;>intro bt h
 ·refine Ak<|Ax h fun da bu h=>AF al (Da _ _ (Ao al) bu) fun db cu bv cj=>Aq 1 Z<|Ag 1 Z bv Z fun dc a5 ck=>Ac<|Ay<|Ar ?_
  cases h
  refine Bv (.tmp Z) (.cell Z Aji Z AG.e (AK (i:=1) a5 Z)) ⟨a5.ext,_,Z,Ck.nil⟩
 refine Aw<|As<|Bu 1 Z ?_;obtain⟨aa,cl,am⟩:=DS (.int .i64) H 3 al;refine Ac<|Bt ((List Int)×Value×(List Value)) (fun⟨ah,ac,o⟩=>[(7,(AaD b3)),(9,ac)]) (fun⟨ah,ac,o⟩ wr=>Fl w [.row ac 3 1 (ah).length o,.box b6 [No x4.1,No x4.2] 28,.box b3 [No 0,No 0] 28,.box b2 [No a1.f.1,x,Ab5 a1.f.2.2.1,y,No a1.f.2.2.2.2.1,No a1.f.2.2.2.2.2.1,z] 26,.box b1 [No a0.1.1,p,No a0.2.1.1,s,u] 52] wr fun Oz=>AI (.int .i64) (gz H w wr Oz) ah o/\Gg ah=some r) ?_ ?_
 ·refine Ak<|Aj (A4 4 Z KH.e aa Z)<|Aj (A4 3 Z B8.e aa Z)<|Ax h fun a6 bw h=>Bk aa (OW (a0:=((a0.1.1,a0.1.2),(a0.2.1.1,a0.2.1.2),a0.2.2)) (a1:=a1) _ _ (Ao aa) (hU.mono  Ah) (aq.mono  Ah) (ar.mono  Ah) (au.mono  Ah) (av.mono  Ah) (aw.mono  Ah) (ax.mono  Ah) bw) ?_;rintro an dd ⟨_,rfl,a7⟩ bx bz bc;have ai:=a7.Dz hH aa bx;refine Aj (Bc ai)<|A7 1 Z<|A3 ?_;obtain⟨aj,h⟩:=Ba h;have am:=am.mono (Aa bc)
  refine B6 ((List Int)×Int×Value×(List Value)×Nat) (fun⟨e,a,g,b,n⟩=>[(2,ab),(7,(AaD b3)),(9,g),(26,an),(27,No (a6.length:Int)),(28,No a)]) (fun⟨e,a,g,b,n⟩ wr=>Fl w [.row g 3 1 (e).length b,.box b6 [No x4.1,No x4.2] 28,.box b3 [No 0,No 0] 28,.box b2 [No a1.f.1,x,Ab5 a1.f.2.2.1,y,No a1.f.2.2.2.2.1,No a1.f.2.2.2.2.2.1,z] 26,.box b1 [No a0.1.1,p,No a0.2.1.1,s,u] 52] wr fun Oz=>AH .bool (gz H w wr Oz) an a6/\AI (.int .i64) (gz H w wr Oz) e b/\HG (D2 a2 a6) n (e,a)=some r) (fun⟨e,a,g,b,n⟩=>n) (([]:List Int),0,Aa4,[],aj) Z ⟨bz,ai,am,h⟩ ?_;rintro⟨e,a,g,b,nn97⟩ cv ⟨k,d,j,h⟩;obtain⟨aj,de,rfl,h,ad⟩:=AY h;refine AJ 1 Z<|AD<|AP h ?_ ?_<;>intro b0 h
  ·refine Aw<|As<|AD<|A3<|Bu 1 Z<|Az h fun ao h=>Bf d a.toNat (Gy ao) (AW ao) ?_;rintro cw _ rfl bd;refine Aj (Bl bd (Ao k))<|A7 2 Z<|Bu 2 Z<|ED 34 h ?_ ?_<;>intro c h
   ·refine Ab c<|Aj (Ai Z)<|Ab c<|Aj (Ai Z)<|Ab c<|Az h fun ap h=>Bf ay a.toNat (Gy ap) (AW ap) ?_;rintro cx _ rfl be;refine Ab c<|Aj (Bl be (hH.trans k.arg))<|Aj (AB c Z)<|Ac<|B3 h ?_ ?_<;>intro bf h
    ·refine Au<|Aq 2 Z<|B7 [a] (r:=(.int .i64)) (fun _=>Jp _ _) k (.c1 Z .nil) fun cy cz cm bg ak bh=>Az h fun bi h=>?_;have j:=j.mono (Aa ak);refine By (r:=(.int .i64)) 0 e [a] Z Ahy bg Z j bh bi fun b4 c0 bj bk a8 bl=>Aq 1 Z<|AL<|A2<|As<|Au<|Az h fun bm h=>Aj (A5 bm)<|Aq 1 Z<|AL ?_;have h:=Cg.again h ad;have d:=d.mono (Aa (ak.trans a8));refine AN (_,_,_,_,_) Z ⟨bk,d,bl,h⟩
    refine Aw<|A2<|As<|Au<|Az h fun bn h=>Aj (A5 bn)<|Aq 1 Z<|AL ?_;have h:=Cg.again h ad;refine AN (_,_,_,_,_) Z ⟨k,d,j,h⟩
   iterate 4 refine An c ?_
   refine Aj (AM c Z)<|Ac<|Gx<|Aw<|A2<|As<|Au<|Az h fun bo h=>Aj (A5 bo)<|Aq 1 Z<|AL ?_;have h:=Cg.again h ad;refine AN (_,_,_,_,_) Z ⟨k,d,j,h⟩
  refine B4<|AE<|A6 ?_;have h:=Cg.out h ad;refine Bi<|A8 (_,_,_) ⟨k,j,h⟩
 rintro⟨ah,ac,o⟩ c2 ⟨b5,ae,h⟩;refine Bu 1 Z<|Aj (AT (fun _=>BM _))<|Aq 1 Z<|Ag 2 Z b5 Z fun c3 af a9=>Ac<|Ay ?_
 cases h
 refine Bv (.tmp Z) (.cell Z Aji Z AG.e (AK (i:=2) af Z)) ?_;have ae:=ae.mono (Aa a9);exact⟨af.ext,_,Z,(af.Ip hH (i:=0) Z ae)⟩
def Ik(a0:Ac3):Option Ac3:=
 some a0
theorem O6{a0:Ac3}{a:Value}(b:AH .byte H a a0){r:Ac3}(h:Ik a0=some r):
  Qqv 61 [a] w (fun v w'=>∃ c,v=c/\AH .byte (un H (nw w w')) c r):=by
 refine A1 9 [(0,a)] func61 Z fun hL=>AJ 1 Z<|Bu 2 Z<|Aj (Bc b)<|Aq 1 Z<|Aj (Bc b)<|AhN b fun e d=>A7 1 Z<|Ay ?_
 cases h
 refine Am Z ⟨hL.ext,_,Z,(d.mono (Mu hH))⟩
def Hx(a0:(Int×AjJ)×(Int×AjI)×(List AjK))(a1 a2 a3:Int):Option (Ac3×(Int×Int)):=
 AO (0<=a1/\a1<(a0.2.2.length:Int)) (Qq4 (Ef ((a0.2.2.getD a1.toNat Qq2).1,(a0.2.2.getD a1.toNat Qq2).2.1,(a0.2.2.getD a1.toNat Qq2).2.2)) (fun a=>if(a2<0)\/(a<a2) then none else(if(a3<a2)\/(a<a3) then none else AO (0<=a1/\a1<(a0.2.2.length:Int)) (Qq4 (Ii ((a0.2.2.getD a1.toNat Qq2).1,(a0.2.2.getD a1.toNat Qq2).2.1,(a0.2.2.getD a1.toNat Qq2).2.2) a2 a3) (fun b=>Qq4 (Ik b.1) (fun c=>some (c,(0,0))))))))
def Hj(a0:(Int×AjJ)×(Int×AjI)×(List AjK))(a1 a2 a3:Int)(a4:List Bool):Option (Ac3×(Int×Int)):=
 if a1<0 then none else Qq4 (BO ((a0.1.1,a0.1.2),(a0.2.1.1,a0.2.1.2),a0.2.2)) (fun b=>if b<=a1 then none else Qq4 (BO ((a0.1.1,a0.1.2),(a0.2.1.1,a0.2.1.2),a0.2.2)) (fun c=>if(a4.length:Int)=c then AO (0<=a1/\a1<(a4.length:Int)) (if !(a4.getD a1.toNat Qq2) then Qq4 (Cz (20:Int) (-1:Int)) (fun a=>some ([],(a.1,a.2))) else(Hx a0 a1 a2 a3)) else none))
theorem LV{a0:(Int×AjJ)×(Int×AjI)×(List AjK)}{a1 a2 a3:Int}{a4:List Bool}{e f g m:Value}(q:AH (.pair .st (.vec AjW)) H e (a0.1.2))(s:AH AjU H f (a0.2.1.2))(j:AH AjV H g (a0.2.2))(u:AH .bool H m a4){r:Ac3×(Int×Int)}(h:Hj a0 a1 a2 a3 a4=some r):
  Qqv 29 [.agg #[No a0.1.1,e,No a0.2.1.1,f,g],No a1,No a2,No a3,m] w (fun v w'=>∃ u0,v=.tuple #[u0,.agg #[No r.2.1,No r.2.2]]/\AH .byte (un H (nw w w')) u0 (r.1)):=by
 refine A1 78 [(0,.agg #[No a0.1.1,e,No a0.2.1.1,f,g]),(1,No a1),(2,No a2),(3,No a3),(4,m)] func29 Z fun hL=>Ak<|CB (t:=52) Z Z hL fun w1 b1 bb bm _=>Aq 1 Z<|AA AG.e Z bb fun w2 b2 x bn _=>Ac<|Bt Unit (fun(_:Unit)=>[(1,No a1),(2,No a2),(3,No a3),(5,(AaD b1)),(11,(AaD b2))]) (fun(_:Unit) wr=>Bb w [.box b2 [No 0,No 0] 28,.box b1 [No a0.1.1,e,No a0.2.1.1,f,g] 52] wr/\(Hx a0 a1 a2 a3)=some r) ?_ ?_
 ·refine A3<|Bu 3 Z<|BT 18 h ?_ ?_<;>intro a h
  ·iterate 4 refine An a ?_
   refine Aj (AB a Z)<|A7 1 Z<|EO ?_
   cases h
  refine Ab a<|Aj (Ai Z)<|Ab a<|Aj (A4 1 Z KH.e x Z)<|Ab a<|Ax h fun bt ai h=>AF x (DP _ _ (Ao x) (((a0.1.1,a0.1.2),(a0.2.1.1,a0.2.1.2),a0.2.2)) (q.mono  Ah) (s.mono  Ah) (j.mono  Ah) ai) fun bu bo o bd=>Ab a<|Aj (Ai Z)<|Aj (AM a Z)<|A7 1 Z<|AP h ?_ ?_<;>intro aj h
  ·cases h
  refine Bu 1 Z<|Aj (Bc u)<|Aj (A4 1 Z KH.e o Z)<|Ax h fun bv ak h=>AF o (DP _ _ (Ao o) (((a0.1.1,a0.1.2),(a0.2.1.1,a0.2.1.2),a0.2.2)) (q.mono  Ah) (s.mono  Ah) (j.mono  Ah) ak) fun bw bp k be=>A7 2 Z<|CP h ?_ ?_<;>intro al h
  ·cases h
  refine Bu 2 Z<|Az h fun y h=>Bf u a1.toNat (Gy y) (AW y) ?_;rintro bx _ rfl am;refine Aj (Bl am (hH.trans k.arg))<|A7 2 Z<|B3 h ?_ ?_<;>intro an h
  ·refine Ak<|Ax h fun bz ao h=>AF k (Da _ _ (Ao k) ao) fun b0 bq ap bf=>Aq 1 Z<|Ag 0 Z ap Z fun b3 z bg=>Ac<|Ay<|Av<|Bh ?_
   cases h
   refine Bv (.tmp Z) (.cell Z Aji Z AG.e (AK (i:=0) z Z)) ⟨z.ext,_,Z,(AH.nil _ _)⟩
  refine Aw<|A2<|A8 () ⟨k,h⟩
 rintro _ br ⟨l,h⟩;refine Ak<|Aj (Ae Z AjB Z Lh.e)<|Aj (Af 1 Z l Z)<|Aq 1 Z<|Az h fun aa h=>Bf j a1.toNat (Gy aa) (AW aa) ?_;rintro b4 _ ⟨_,_,rfl,⟨e49v0,rfl,e49h0⟩,⟨_,_,rfl,⟨e49v1,rfl,e49h1⟩,⟨e49v2,rfl,e49h2⟩⟩⟩ aq;refine Aj (Cx aq (hH.trans l.arg))<|Ax h fun b5 ar h=>AF l (GR _ _ (Ao l) (((a0.2.2.getD a1.toNat Qq2).1,(a0.2.2.getD a1.toNat Qq2).2.1,(a0.2.2.getD a1.toNat Qq2).2.2)) (e49h0.mono  Ah) (e49h1.mono  Ah) (e49h2.mono  Ah) ar) fun b6 bs b bh=>A7 1 Z<|AD<|A3<|Bu 3 Z<|Ys 3 2 Z Z Z Z Z Z<|A7 1 Z<|AP h ?_ ?_<;>intro au h
 ·cases h
 refine Bu 4 Z<|Ys 3 3 Z Z Z Z Z Z<|A7 1 Z<|AP h ?_ ?_<;>intro av h
 ·cases h
 refine Aw<|A2<|As<|Ak<|Aj (Ae Z AjB Z Lh.e)<|Aj (Af 1 Z b Z)<|Aq 1 Z<|Az h fun ab h=>Bf j a1.toNat (Gy ab) (AW ab) ?_;rintro b7 _ ⟨_,_,rfl,⟨e59v0,rfl,e59h0⟩,⟨_,_,rfl,⟨e59v1,rfl,e59h1⟩,⟨e59v2,rfl,e59h2⟩⟩⟩ aw;refine Aj (Cx aw (hH.trans b.arg))<|Aq 2 Z<|Ax h fun b8 ax h=>Bk b (O4 (a0:=((a0.2.2.getD a1.toNat Qq2).1,(a0.2.2.getD a1.toNat Qq2).2.1,(a0.2.2.getD a1.toNat Qq2).2.2)) _ _ (Ao b) (e59h0.mono  Ah) (e59h1.mono  Ah) (e59h2.mono  Ah) ax) ?_;rintro _ b9 ⟨bi,rfl,ac⟩ ay az bj;have c:=ac.Dz hH b ay;refine Aq 3 Z<|AA AG.e Z az fun ca cb a5 af _=>Aq 1 Z<|Ag 0 Z a5 Z fun cc p ag=>Ac<|Bu 1 Z<|Ax h fun cd a6 h=>?_;have c:=c.mono (Aa (af.trans ag));refine Bk p (O6 _ _ (Ao p) c a6) ?_;rintro bk ce ⟨_,rfl,ad⟩ a7 a8 bl;have d:=ad.mono (Er p a7)
 refine Aj (AT (fun _=>BM _))<|Aq 1 Z<|Ag 1 Z a8 Z fun cf ae ah=>Ac<|Ay ?_
 cases h
 refine Bv (.tmp Z) (.cell Z Aji Z AG.e (AK (i:=1) ae Z)) ?_;have d:=d.mono (Aa ah);exact⟨ae.ext,_,Z,(d.mono  EC)⟩
end
end Go.Proofs.YtekmbcbgknmhiaaGreatDoor
end
noncomputable section
namespace Go.L
open Go
def bt(l:List UInt8)(k:Nat):Nat:=(l.getD k Qq2).toNat
def cont(l:List UInt8)(k:Nat):Bool:=decide (k<l.length/\128<=bt l k/\bt l k<=191)
def pt3(l:List UInt8):Nat:=((bt l 0 - 224) * 64+(bt l 1 - 128)) * 64+(bt l 2 - 128)
def pt4(l:List UInt8):Nat:=(((bt l 0 - 240) * 64+(bt l 1 - 128)) * 64+(bt l 2 - 128)) * 64+(bt l 3 - 128)
def PR(l:List UInt8):Nat:=
 if 194<=bt l 0/\bt l 0<=223 then(if cont l 1 then 2 else 0)
 else if 224<=bt l 0/\bt l 0<=239 then(if cont l 1/\cont l 2/\2048<=pt3 l/\¬ (55296<=pt3 l/\pt3 l<=57343) then 3 else 0)
 else if 240<=bt l 0/\bt l 0<=244 then(if cont l 1/\cont l 2/\cont l 3/\65536<=pt4 l/\pt4 l<=1114111 then 4 else 0)
 else 0
def asc(c:Nat):Bool:=decide ((48<=c/\c<=57)\/(97<=c/\c<=122)\/(65<=c/\c<=90))
def MJ(l:List UInt8):Nat:=if asc (bt l 0) then 1 else PR l
def Ju(c:UInt8):UInt8:=if 65<=(c.toNat:Int)/\(c.toNat:Int)<=90 then c+32 else c
theorem Agj{c:UInt8}(h:128<=c.toNat):Ju c=c:=by unfold Ju;rw [if_neg U]
theorem Agk(a:List UInt8)(i k:Nat):bt (a.drop i) k=bt a (i+k):=by
 unfold bt;rw [Qq9,Qq9,Qxj]
theorem AdX(l:List UInt8)(h:l≠[]):PR l<=l.length:=by
 have hl:=Qka.2 h;unfold PR cont
 split
 ·split
  ·rename_i a;have:=of_decide_eq_true a;omega
  ·omega
 ·split
  ·split
   ·rename_i a;have:=of_decide_eq_true a.2.1;omega
   ·omega
  ·split
   ·split
    ·rename_i a;have:=of_decide_eq_true a.2.2.1;omega
    ·omega
   ·omega
theorem Aai(l:List UInt8)(h:l≠[]):MJ l<=l.length:=by
 have hl:=Qka.2 h;unfold MJ
 split
 ·omega
 ·exact AdX l h
theorem Agl{l:List UInt8}(h:bt l 0<128):PR l=0:=by
 unfold PR;rw [if_neg U,if_neg U,if_neg U]
theorem U0{l:List UInt8}(_hs:PR l≠0):(l.take (PR l)).map Ju=l.take (PR l):=by
 have key:∀ k,k<PR l->128<=bt l k:=by
  intro k hk;unfold PR at hk;unfold cont at hk
  split at hk
  ·split at hk
   ·rename_i a;have:=of_decide_eq_true a;obtain h | h:k=0\/k=1:=by omega
    all_goals subst h;omega
   ·omega
  ·split at hk
   ·split at hk
    ·rename_i a;have h2:=of_decide_eq_true a.1;have h3:=of_decide_eq_true a.2.1;obtain h | h | h:k=0\/k=1\/k=2:=by omega
     all_goals subst h;omega
    ·omega
   ·split at hk
    ·split at hk
     ·rename_i a;have h2:=of_decide_eq_true a.1;have h3:=of_decide_eq_true a.2.1;have b:=of_decide_eq_true a.2.2.1;obtain h | h | h | h:k=0\/k=1\/k=2\/k=3:=by omega
      all_goals subst h;omega
     ·omega
    ·omega
 apply List.ext_getElem Qqd;intro k a h2;rw [List.getElem_map,List.getElem_take];apply Agj;have hk:k<PR l:=by simp at h2;omega
 have:=key k hk;have hkl:k<l.length:=by simp at h2;omega
 unfold bt at this;rw [Qq9,Qzw hkl] at this;exact this
theorem YX(l:List UInt8)(k:Nat):((ByteArray.mk l.toArray).get! k).toNat=bt l k:=by
 simp [ByteArray.get!,bt,Qq9,getElem!_def]
 cases h:l[k]? <;> rfl
theorem AhU(l:List UInt8)(hne:l≠[])(m:128<=bt l 0):(PR l=0->Lib.decodeGo ⟨l.toArray⟩=(65533,1))/\(PR l≠0->(Lib.decodeGo ⟨l.toArray⟩).2=PR l/\PR l≠1):=by
 have hsz:(ByteArray.mk l.toArray).size=l.length:=by simp [Qxb]
 have hl:=Qka.2 hne
 have hc:∀ k,(decide (0+k<(ByteArray.mk l.toArray).size)&&((ByteArray.mk l.toArray).get! (0+k)).toNat / 64==2)=cont l k:=by
  intro k;rw [Qzc,hsz,YX];unfold cont
  by_cases a:k<l.length
  ·by_cases h2:bt l k / 64=2
   ·rw [decide_eq_true a,Qx6,beq_iff_eq.2 h2,decide_eq_true ⟨a,by omega,by omega⟩]
   ·rw [decide_eq_true a,Qx6,beq_eq_false_iff_ne.2 h2,decide_eq_false (fun h=>h2 U)]
  ·rw [decide_eq_false a,Bool.false_and,decide_eq_false (fun h=>a h.1)]
 unfold Lib.decodeGo;rw [hsz,if_neg U];unfold Utf8.decode;simp only [hc];simp only [Qzc,YX]
 have hv:∀ c:Nat,Utf8.valid c=decide (c<55296\/(57344<=c/\c<=1114111)):=by
  intro c;rw [QzD];unfold Utf8.valid;simp only [Bool.or_eq_true,Qzb,decide_eq_true_eq];omega
 simp only [hv];have f1:cont l 1=true->128<=bt l 1/\bt l 1<=191:=fun h=>(of_decide_eq_true h).2;have f2:cont l 2=true->128<=bt l 2/\bt l 2<=191:=fun h=>(of_decide_eq_true h).2;have f3:cont l 3=true->128<=bt l 3/\bt l 3<=191:=fun h=>(of_decide_eq_true h).2;have hb:bt l 0<256:=Qx1 _;unfold PR pt3 pt4 Utf8.runeError;generalize bt l 0=b at *;generalize bt l 1=d at *;generalize bt l 2=f at *;generalize bt l 3=g at *;generalize cont l 1=c1 at *;generalize cont l 2=c2 at *;generalize cont l 3=c3 at *;simp only [Qzb,beq_iff_eq,decide_eq_true_eq]
 by_cases hA:194<=b/\b<=223
 ·rw [if_pos hA,if_neg (show ¬ b<128 by omega)]
  by_cases a:c1=true
  ·have:=f1 a;rw [if_pos a,if_pos (show b / 32=6/\c1=true from⟨by omega,a⟩),if_pos (show b % 32 * 64+d % 64>=128 by omega)];exact⟨fun h=>absurd h Qqc,fun _=>⟨Z,by decide⟩⟩
  ·rw [if_neg a,if_neg (show ¬ (b / 32=6/\c1=true) from fun h=>a h.2),if_neg (show ¬ ((b / 16=14/\c1=true)/\c2=true) from fun h=>by omega),if_neg (show ¬ (((b / 8=30/\c1=true)/\c2=true)/\c3=true) from fun h=>by omega)];exact⟨fun _=>Z,fun h=>absurd Z h⟩
 rw [if_neg hA]
 by_cases hB:224<=b/\b<=239
 ·rw [if_pos hB,if_neg (show ¬ b<128 by omega),if_neg (show ¬ (b / 32=6/\c1=true) from fun h=>by omega)]
  by_cases a:c1=true/\c2=true
  ·have i:=f1 a.1;have j:=f2 a.2;rw [if_pos (show(b / 16=14/\c1=true)/\c2=true from⟨⟨by omega,a.1⟩,a.2⟩)];have e:b % 16 * 4096+d % 64 * 64+f % 64=((b - 224) * 64+(d - 128)) * 64+(f - 128):=by omega
   rw [e]
   by_cases h2:2048<=((b - 224) * 64+(d - 128)) * 64+(f - 128)/\¬ (55296<=((b - 224) * 64+(d - 128)) * 64+(f - 128)/\((b - 224) * 64+(d - 128)) * 64+(f - 128)<=57343)
   ·rw [if_pos ⟨a.1,a.2,h2⟩,if_pos ⟨h2.1,U⟩];exact⟨fun h=>absurd h Qqc,fun _=>⟨Z,by decide⟩⟩
   ·rw [if_neg (fun h=>h2 h.2.2),if_neg (fun h=>h2 ⟨h.1,by omega⟩)];exact⟨fun _=>Z,fun h=>absurd Z h⟩
  ·rw [if_neg (fun h=>a ⟨h.1,h.2.1⟩),if_neg (show ¬ ((b / 16=14/\c1=true)/\c2=true) from fun h=>a ⟨h.1.2,h.2⟩),if_neg (show ¬ (((b / 8=30/\c1=true)/\c2=true)/\c3=true) from fun h=>by omega)];exact⟨fun _=>Z,fun h=>absurd Z h⟩
 rw [if_neg hB]
 by_cases hC:240<=b/\b<=244
 ·rw [if_pos hC,if_neg (show ¬ b<128 by omega),if_neg (show ¬ (b / 32=6/\c1=true) from fun h=>by omega),if_neg (show ¬ ((b / 16=14/\c1=true)/\c2=true) from fun h=>by omega)]
  by_cases a:c1=true/\c2=true/\c3=true
  ·have i:=f1 a.1;have j:=f2 a.2.1;have n:=f3 a.2.2;rw [if_pos (show((b / 8=30/\c1=true)/\c2=true)/\c3=true from⟨⟨⟨by omega,a.1⟩,a.2.1⟩,a.2.2⟩)];have e:b % 8 * 262144+d % 64 * 4096+f % 64 * 64+g % 64=(((b - 240) * 64+(d - 128)) * 64+(f - 128)) * 64+(g - 128):=by omega
   rw [e]
   by_cases h2:65536<=(((b - 240) * 64+(d - 128)) * 64+(f - 128)) * 64+(g - 128)/\(((b - 240) * 64+(d - 128)) * 64+(f - 128)) * 64+(g - 128)<=1114111
   ·rw [if_pos ⟨a.1,a.2.1,a.2.2,h2⟩,if_pos ⟨h2.1,by omega⟩];exact⟨fun h=>absurd h Qqc,fun _=>⟨Z,by decide⟩⟩
   ·rw [if_neg (fun h=>h2 h.2.2.2),if_neg (fun h=>h2 ⟨h.1,by omega⟩)];exact⟨fun _=>Z,fun h=>absurd Z h⟩
  ·rw [if_neg (fun h=>a ⟨h.1,h.2.1,h.2.2.1⟩),if_neg (fun h=>a ⟨h.1.1.2,h.1.2,h.2⟩)];exact⟨fun _=>Z,fun h=>absurd Z h⟩
 rw [if_neg hC];refine⟨fun _=>?_,fun h=>absurd Z h⟩;rw [if_neg (show ¬ b<128 by omega)]
 by_cases a:b / 32=6/\c1=true
 ·have:=f1 a.2;rw [if_pos a,if_neg (show ¬ (b % 32 * 64+d % 64>=128) by omega)]
 ·rw [if_neg a,if_neg (show ¬ ((b / 16=14/\c1=true)/\c2=true) from fun h=>by omega)]
  by_cases h2:((b / 8=30/\c1=true)/\c2=true)/\c3=true
  ·have i:=f1 h2.1.1.2;rw [if_pos h2,if_neg (fun h=>by omega)]
  ·rw [if_neg h2]
end Go.L
namespace Go.Proofs.YtekmbcbgknmhiaaGreatDoor
open Go Go.L
theorem Acf{l:List UInt8}(hne:l≠[]):Ks l=some (if MJ l=0 then([],1) else((l.take (MJ l)).map Ju,((MJ l:Nat):Int))):=by
 have hl:=Qka.2 hne;obtain⟨c,m,rfl⟩:=List.exists_cons_of_ne_nil hne;have i:(c::m).getD ((0:Int).toNat) Qq2=c:=Z;have eb:bt (c::m) 0=c.toNat:=Z;have hc:=c.toNat_lt;unfold Ks;rw [Ad ⟨by decide,by omega⟩,i]
 have hup:(65<=(c.toNat:Int))/\((c.toNat:Int)<=90)->AO (((c - (65:UInt8))+(97:UInt8)).toNat<128) (some ([((c - (65:UInt8))+(97:UInt8))],(1:Int)))=some (if MJ (c::m)=0 then([],1) else(((c::m).take (MJ (c::m))).map Ju,((MJ (c::m):Nat):Int))):=by
  intro h
  have e:(c - (65:UInt8))+(97:UInt8)=c+32:=by
   apply UInt8.toNat.inj;rw [UInt8.toNat_add,UInt8.toNat_sub,UInt8.toNat_add];have j:(97:UInt8).toNat=97:=Z;have k:(65:UInt8).toNat=65:=Z;have g:(32:UInt8).toNat=32:=Z;omega
  have n:(c+32).toNat=c.toNat+32:=by
   rw [UInt8.toNat_add];have g:(32:UInt8).toNat=32:=Z;omega
  have d:MJ (c::m)=1:=by unfold MJ asc;rw [eb,if_pos (decide_eq_true U)]
  rw [e,Ad U,d,if_neg Qqc]
  show some ([c+32],(1:Int))=some ([Ju c],1)
  unfold Ju;rw [if_pos h]
 have hlo:(48<=(c.toNat:Int))/\((c.toNat:Int)<=57)\/(97<=(c.toNat:Int))/\((c.toNat:Int)<=122)->AO (c.toNat<128) (some ([c],(1:Int)))=some (if MJ (c::m)=0 then([],1) else(((c::m).take (MJ (c::m))).map Ju,((MJ (c::m):Nat):Int))):=by
  intro h;have d:MJ (c::m)=1:=by unfold MJ asc;rw [eb,if_pos (decide_eq_true U)]
  rw [Ad U,d,if_neg Qqc]
  show some ([c],(1:Int))=some ([Ju c],1)
  unfold Ju;rw [if_neg U]
 have hnon:asc c.toNat=false->(if(c.toNat:Int)<128 then some (([]:List UInt8),(1:Int)) else Qq4 (AbW (c::m)) (fun a=>if(a.1=(65533:Int))/\(a.2=(1:Int)) then some (([]:List UInt8),(1:Int)) else Go.L.AO (0<=a.2/\a.2<=((c::m).length:Int)) (some (((c::m).take a.2.toNat),a.2))))=some (if MJ (c::m)=0 then([],1) else(((c::m).take (MJ (c::m))).map Ju,((MJ (c::m):Nat):Int))):=by
  intro h;have d:MJ (c::m)=PR (c::m):=by unfold MJ;rw [if_neg (by rw [eb,h];decide)]
  rw [d]
  by_cases b:(c.toNat:Int)<128
  ·rw [if_pos b,Agl (by rw [eb];omega),if_pos Z]
  ·rw [if_neg b];have hd:=AhU (c::m) hne (by rw [eb];omega);unfold AbW;rw [Ad hne,Qq6]
   by_cases h2:PR (c::m)=0
   ·rw [hd.1 h2,if_pos ⟨Z,Z⟩,if_pos h2]
   ·obtain⟨h3,f⟩:=hd.2 h2;have o:=AdX (c::m) hne;simp only [h3];rw [if_neg U,Ad ⟨by omega,by omega⟩,if_neg h2,Qq8,U0 h2]
 by_cases b:(48<=(c.toNat:Int))/\((c.toNat:Int)<=57)
 ·rw [if_pos b];exact hlo (.inl b)
 rw [if_neg b]
 by_cases h2:97<=(c.toNat:Int)
 ·rw [if_pos h2]
  by_cases h3:(c.toNat:Int)<=122
  ·rw [if_pos h3];exact hlo (.inr ⟨h2,h3⟩)
  ·rw [if_neg h3,if_neg U];exact hnon (decide_eq_false U)
 ·rw [if_neg h2]
  by_cases f:(65<=(c.toNat:Int))/\((c.toNat:Int)<=90)
  ·rw [if_pos f];exact hup f
  ·rw [if_neg f];exact hnon (decide_eq_false U)
end Go.Proofs.YtekmbcbgknmhiaaGreatDoor
namespace Go.L
open Go
abbrev W:=List UInt8×Int×Int
abbrev WS:=(List W×Int) ⊕ List W
def fin(cur:List UInt8)(fr at':Nat):List W:=if cur=[] then[] else[(cur,(fr:Int),(at':Int))]
def V0(a:List UInt8):Nat->Nat->List UInt8->Nat->List W
 | 0,at',cur,fr=>fin cur fr at'
 | f+1,at',cur,fr=>
  if at'<a.length then
   if MJ (a.drop at')=0 then fin cur fr at'++V0 a f (at'+1) [] (at'+1)
   else V0 a f (at'+MJ (a.drop at')) (cur++((a.drop at').take (MJ (a.drop at'))).map Ju) fr
  else fin cur fr at'
def YY(a:List UInt8):List W:=V0 a (a.length+1) 0 [] 0
theorem Rf{a:List UInt8}{f at':Nat}{cur:List UInt8}{fr:Nat}(h:a.length<=at'):V0 a f at' cur fr=fin cur fr at':=by
 cases f with
 | zero=>rfl
 | succ f=>unfold V0;rw [if_neg U]
theorem XI(cur:List UInt8)(fr at':Nat):(fin cur fr at').length<=1:=by unfold fin;split <;> simp
theorem U1{a:List UInt8}{i:Nat}(h:i<a.length):a.drop i≠[]:=fun e=>by
 have:=congrArg List.length e;rw [QzJ,Qzf] at this;omega
theorem QD{a:List UInt8}{i:Nat}(h:i<a.length):i+MJ (a.drop i)<=a.length:=by
 have:=Aai _ (U1 h);rw [QzJ] at this;omega
theorem XJ{a:List UInt8}{i:Nat}(h:i<a.length):(((a.drop i).take (MJ (a.drop i))).map Ju).length=MJ (a.drop i):=by
 have:=Aai _ (U1 h);rw [Qzk,QzK];omega
end Go.L
namespace Go.Proofs.YtekmbcbgknmhiaaGreatDoor
open Go Go.L
theorem Agm{a:List UInt8}(hs:a.length<=1000000000000):∀ (f at':Nat) (L:List W),a.length<=at'+f->L.length<=at'->at'<=a.length+1->
  run (CK a) (L,(at':Int))=some (L++V0 a f at' [] at')/\
  ∀
   (cur:List UInt8) (fr:Nat),(at'<a.length\/cur≠[])->at'<=a.length->cur.length<=at'->∃ m,run (CJ a L (fr:Int)) (cur,(at':Int))=some m/\
   (match m with | .inl s=>run (CK a) s=some (L++V0 a f at' cur fr) | .inr r=>r=L++V0 a f at' cur fr):=by
 intro f
 induction f with
 | zero=>
  intro at' L hf hL ha
  constructor
  ·rw [Rf U];refine AQ (m:=some (L++fin [] at' at')) ?_;unfold CK;simp only;rw [if_neg U];unfold fin;rw [if_pos Z,QzZ]
  ·intro cur fr hc hle hcl;have hc:cur≠[]:=hc.resolve_left U;refine⟨.inr (L++fin cur fr at'),?_,Z⟩;refine AQ (m:=some (Sum.inr (L++fin cur fr at'):WS)) ?_;unfold CJ HC;simp only;rw [if_neg U,Ad (by constructor <;> omega)];unfold fin;rw [if_neg hc]
   rfl
 | succ f ih=>
  intro at' L hf hL ha
  have B:∀ (cur:List UInt8) (fr:Nat),(at'<a.length\/cur≠[])->at'<=a.length->cur.length<=at'->∃ m,run (CJ a L (fr:Int)) (cur,(at':Int))=some m/\
   (match m with | .inl s=>run (CK a) s=some (L++V0 a (f+1) at' cur fr) | .inr r=>r=L++V0 a (f+1) at' cur fr):=by
   intro cur fr hc hle hcl
   by_cases h:at'<a.length
   ·have hroom:=QD h;have hlow:=XJ h;have b:=Acf (U1 h);unfold V0;rw [if_pos h]
    by_cases d:MJ (a.drop at')=0
    ·rw [if_pos d] at b ⊢;have e:(((at':Nat):Int)+1)=((at'+1:Nat):Int):=by omega
     by_cases hcur:cur=[]
     ·have c:=(ih (at'+1) L U U U).1;refine⟨.inl (L,((at'+1:Nat):Int)),?_,?_⟩
      ·refine AQ (m:=some (Sum.inl (L,((at'+1:Nat):Int)):WS)) ?_;unfold CJ;simp only;rw [if_pos U,Ad ⟨by omega,by omega⟩,Qq8,b,Qq6];simp only;rw [if_pos trivial,Ad (by constructor <;> omega),if_pos hcur,e]
      ·simp only;rw [c];unfold fin;rw [if_pos hcur,Qxw]
     ·have c:=(ih (at'+1) (L++[(cur,(fr:Int),(at':Int))]) U (by rw [Qzu,QxD];omega) U).1;refine⟨.inl (L++[(cur,(fr:Int),(at':Int))],((at'+1:Nat):Int)),?_,?_⟩
      ·refine AQ (m:=some (Sum.inl (L++[(cur,(fr:Int),(at':Int))],((at'+1:Nat):Int)):WS)) ?_;unfold CJ;simp only;rw [if_pos U,Ad ⟨by omega,by omega⟩,Qq8,b,Qq6];simp only;rw [if_pos trivial,Ad (by constructor <;> omega),if_neg hcur,Ad (by constructor <;> omega),e]
      ·simp only;rw [c];unfold fin;rw [if_neg hcur,QxZ]
    ·rw [if_neg d] at b ⊢;have hne:((a.drop at').take (MJ (a.drop at'))).map Ju≠[]:=fun e=>by rw [e,Qzf] at hlow;omega
     obtain⟨m,c,h2⟩:=(ih (at'+MJ (a.drop at')) L U U U).2 (cur++((a.drop at').take (MJ (a.drop at'))).map Ju) fr (.inr (fun e=>hne (List.append_eq_nil_iff.1 e).2)) hroom (by rw [Qzu,hlow];omega);refine⟨m,?_,h2⟩;rw [<- c];refine Bg ?_;unfold CJ;simp only;rw [if_pos U,Ad ⟨by omega,by omega⟩,Qq8,b,Qq6];simp only;rw [if_neg hne,Ad U,Ad (by constructor <;> omega)]
     rfl
   ·have hc:cur≠[]:=hc.resolve_left h;rw [Rf U];refine⟨.inr (L++fin cur fr at'),?_,Z⟩;refine AQ (m:=some (Sum.inr (L++fin cur fr at'):WS)) ?_;unfold CJ HC;simp only;rw [if_neg U,Ad (by constructor <;> omega)];unfold fin;rw [if_neg hc]
    rfl
  refine⟨?_,B⟩
  by_cases h:at'<a.length
  ·obtain⟨m,c,h2⟩:=B [] at' (.inl h) U Qqd
   have hb:CK a (L,(at':Int))=some m:=by
    unfold CK;simp only;rw [if_pos U];exact c
   cases m with
   | inl s=>rw [Bg hb];exact h2
   | inr r=>rw [AQ (m:=some r) hb,h2]
  ·rw [Rf U];refine AQ (m:=some (L++fin [] at' at')) ?_;unfold CK;simp only;rw [if_neg U];unfold fin;rw [if_pos Z,QzZ]
theorem TN{a:List UInt8}(hs:a.length<=1000000000000):OS a=some (YY a):=by
 have:=(Agm hs (a.length+1) 0 [] U Qqd U).1;rw [Qxw] at this;exact this
theorem Acg{a:List UInt8}(hs:a.length<=1000000000000):Kt a=some (decide ((YY a).map Qq5=[a])):=by
 unfold Kt;rw [Ad U,TN hs,Qq6];generalize YY a=l
 match l with
 | []=>rw [if_neg Qqd];simp
 | [x]=>rw [if_pos (show(([x].length:Nat):Int)=1 from Z),Ad Qqd];simp
 | x::y::z=>rw [if_neg (by simp;omega)];simp
end Go.Proofs.YtekmbcbgknmhiaaGreatDoor
end
noncomputable section
namespace Go.Proofs.YtekmbcbgknmhiaaGreatDoor
open Go Go.E Go.RowKit Go.L
set_option maxHeartbeats 1000000
set_option maxRecDepth 10000
open _root_.Go.Proofs.Tryz
def LW(a b:Int):Option Int:=
 if a=3 then if b<2048 then some (0) else Qq4 (HY b (55296:Int) (57343:Int)) (fun c=>if c then some (0) else if a=4 then Qq4 (HY b (65536:Int) (1114111:Int)) (fun d=>if !d then some (0) else some a) else some a) else if a=4 then Qq4 (HY b (65536:Int) (1114111:Int)) (fun e=>if !e then some (0) else some a) else some a
def KR(a0:Ac3)(a1 c:Int):Int×Int->Option ((Int×Int) ⊕ (Int)):=fun⟨b,a⟩=>
 if a<c then AO (Bw (a1+a)) (AO (0<=(a1+a)/\(a1+a)<(a0.length:Int)) (Qq4 (HY ((a0.getD ((a1+a).toNat) Qq2).toNat:Int) (128:Int) (191:Int)) (fun d=>if !d then Qq7 Sum.inr (some (0)) else AO (Bw (64 * b)) (AO (Bw ((64 * b)+((a0.getD ((a1+a).toNat) Qq2).toNat:Int))) (AO (Bw (((64 * b)+((a0.getD ((a1+a).toNat) Qq2).toNat:Int)) - 128)) (AO (Bw (a+1)) (some (Sum.inl ((((64 * b)+((a0.getD ((a1+a).toNat) Qq2).toNat:Int)) - 128),(a+1)))))))))) else Qq7 Sum.inr ((LW c) b)
def N1(a0:Ac3)(a1 a:Int)(s:Int×Int):Option Int:=Go.L.run (KR a0 a1 a) s
def Jv(a0:Ac3)(a1 a b:Int):Option Int:=
 if a=0 then some (0) else AO (Bw (a1+a)) (if(a0.length:Int)<(a1+a) then some (0) else(N1 a0 a1 a) (b,1))
def LX(a0:Ac3)(a1 a b:Int):Option Int:=
 Qq4 (HY ((a0.getD a1.toNat Qq2).toNat:Int) (240:Int) (244:Int)) (fun c=>if c then AO (Bw (((a0.getD a1.toNat Qq2).toNat:Int) - 240)) ((Jv a0 a1) (4:Int) (((a0.getD a1.toNat Qq2).toNat:Int) - 240)) else(Jv a0 a1) a b)
def N2(a0:Ac3)(a1 a b:Int):Option Int:=
 Qq4 (HY ((a0.getD a1.toNat Qq2).toNat:Int) (224:Int) (239:Int)) (fun c=>if c then AO (Bw (((a0.getD a1.toNat Qq2).toNat:Int) - 224)) ((LX a0 a1) (3:Int) (((a0.getD a1.toNat Qq2).toNat:Int) - 224)) else(LX a0 a1) a b)
def Ts(a0:Ac3)(a1:Int):Option Int:=
 AO (0<=a1/\a1<(a0.length:Int)) (Qq4 (HY ((a0.getD a1.toNat Qq2).toNat:Int) (194:Int) (223:Int)) (fun a=>if a then AO (Bw (((a0.getD a1.toNat Qq2).toNat:Int) - 192)) ((N2 a0 a1) (2:Int) (((a0.getD a1.toNat Qq2).toNat:Int) - 192)) else(N2 a0 a1) (0:Int) (0:Int)))
def Oj(a0:Ac3)(a1:Int):Option Int:=
 AO (0<=a1/\a1<(a0.length:Int)) (Qq4 (HY ((a0.getD a1.toNat Qq2).toNat:Int) (48:Int) (57:Int)) (fun c=>if c then some (1) else Qq4 (HY ((a0.getD a1.toNat Qq2).toNat:Int) (97:Int) (122:Int)) (fun d=>if d then some (1) else Qq4 (HY ((a0.getD a1.toNat Qq2).toNat:Int) (65:Int) (90:Int)) (fun a=>if a then some (1) else Qq4 (Ts a0 a1) (fun b=>some b)))))
def MK(c:Ac3)(a:Int)(b:UInt8):Option ((Ac3×Int) ⊕ ((Ac3×Int) ⊕ ((AjM×Int) ⊕ (AjM)))):=
 AO (Go.E.Io 1 (c.length+([b]).length)) (AO (Bw (a+1)) (some (Sum.inl ((c++[b]),(a+1)))))
def R7(a b:Int)(c:Ac3):Option ((Ac3×Int) ⊕ ((AjM×Int) ⊕ (AjM))):=
 AO (Bw (a+b)) (some (Sum.inl (c,(a+b))))
def LY(a0:Ac3)(b c:Int):Ac3×Int->Option ((Ac3×Int) ⊕ ((Ac3×Int) ⊕ ((AjM×Int) ⊕ (AjM)))):=fun⟨d,a⟩=>
 AO (Bw (b+c)) (if a<(b+c) then AO (0<=a/\a<(a0.length:Int)) (if(65<=((a0.getD a.toNat Qq2).toNat:Int))/\(((a0.getD a.toNat Qq2).toNat:Int)<=90) then(MK d a) (a0.getD a.toNat Qq2+(32:UInt8)) else(MK d a) (a0.getD a.toNat Qq2)) else Qq7 Sum.inr ((R7 b c) d))
def O7(a0:Ac3)(a b:Int)(s:Ac3×Int):Option ((Ac3×Int) ⊕ ((AjM×Int) ⊕ (AjM))):=Go.L.run (LY a0 a b) s
def ML(c:List (Ac3×Int×Int))(b:Int)(d:Ac3)(a:Int):Option ((AjM×Int) ⊕ (AjM)):=
 if b<a then AO (Go.E.Io 32 (c.length+([(d,b,a)]).length)) (AO (Bw (a+1)) (some (Sum.inl ((c++[(d,b,a)]),(a+1))))) else AO (Bw (a+1)) (some (Sum.inl (c,(a+1))))
def HT(a0:Ac3)(d:List (Ac3×Int×Int))(b:Int):Ac3×Int->Option ((Ac3×Int) ⊕ ((AjM×Int) ⊕ (AjM))):=fun⟨c,a⟩=>
 if a<(a0.length:Int) then Qq4 (Oj a0 a) (fun e=>if 0<e then Qq4 (Oj a0 a) (fun f=>(O7 a0 a f) (c,a)) else Qq7 Sum.inr ((ML d b) c a)) else Qq7 Sum.inr ((ML d b) c a)
def Wq(a0:Ac3)(b:List (Ac3×Int×Int))(a:Int)(s:Ac3×Int):Option ((AjM×Int) ⊕ (AjM)):=Go.L.run (HT a0 b a) s
def R8(a:List (Ac3×Int×Int)):Option (AjM):=
 some a
def FJ(a0:Ac3):AjM×Int->Option ((AjM×Int) ⊕ (AjM)):=fun⟨b,a⟩=>
 if a<(a0.length:Int) then(Wq a0 b a) (([]:Ac3),a) else Qq7 Sum.inr (R8 b)
def Wr(a0:Ac3)(s:AjM×Int):Option (AjM):=Go.L.run (FJ a0) s
def V1(a0:Ac3):Option (AjM):=
 (Wr a0) (([]:List (Ac3×Int×Int)),0)
def NR(a0:Ac3):Option ((Int×Int)):=
 if 64<(a0.length:Int) then Qq4 (LF (3:Int) (-1:Int)) (fun d=>some ((d.1,d.2))) else AO (a0.length<=9223372036854775807) (Qq4 (V1 a0) (fun a=>if(a.length:Int)=1 then AO (0<=(0:Int)/\(0:Int)<(a.length:Int)) (if(a.getD ((0:Int).toNat) Qq2).1=a0 then some ((0,0)) else Qq4 (LF (6:Int) (-1:Int)) (fun b=>some ((b.1,b.2)))) else Qq4 (LF (6:Int) (-1:Int)) (fun c=>some ((c.1,c.2)))))
end Go.Proofs.YtekmbcbgknmhiaaGreatDoor
end
noncomputable section
namespace Go.Proofs.YtekmbcbgknmhiaaGreatDoor
open Go Go.L
theorem PS(x y z:Int):HY x y z=some (decide (y<=x/\x<=z)):=Z
theorem XK{a:List UInt8}{i:Nat}(k:Nat){z:Int}(hz:z=((i+k:Nat):Int)):((a.getD z.toNat Qq2).toNat:Int)=((bt (a.drop i) k:Nat):Int):=by
 subst hz;rw [Agk,Qq8]
 rfl
theorem NA{a:List UInt8}(hs:a.length<=1000000000000)(i k:Nat)(n:Nat)(p:Nat)(hp:p<=1000000000)(hk:k<n)(_h4:n<=4)(hlen:i+n<=a.length):
  KR a (i:Int) (n:Int) ((p:Int),(k:Int))=if cont (a.drop i) k then some (.inl (((p * 64+(bt (a.drop i) k - 128):Nat):Int),((k+1:Nat):Int))) else some (.inr 0):=by
 unfold KR;have hb:bt (a.drop i) k<256:=Qx1 _;have hg:=XK (a:=a) (i:=i) k (z:=(i:Int)+(k:Int)) U;simp only;rw [if_pos U,Ad (by constructor <;> omega),Ad ⟨by omega,by omega⟩,hg,PS,Qq6]
 have hc:cont (a.drop i) k=decide ((128:Int)<=((bt (a.drop i) k:Nat):Int)/\((bt (a.drop i) k:Nat):Int)<=191):=by
  unfold cont;rw [QzJ]
  congr 1
  apply propext
  constructor
  ·rintro⟨_,h2,h3⟩;exact⟨by omega,by omega⟩
  ·rintro⟨h2,h3⟩;exact⟨by omega,by omega,by omega⟩
 rw [hc]
 by_cases h:(128:Int)<=((bt (a.drop i) k:Nat):Int)/\((bt (a.drop i) k:Nat):Int)<=191
 ·rw [decide_eq_true h,if_neg Qqc,if_pos Z,Ad (by constructor <;> omega),Ad (by constructor <;> omega),Ad (by constructor <;> omega),Ad (by constructor <;> omega)]
  congr 3
  ·omega
 ·rw [decide_eq_false h,if_pos Qqc,if_neg Qqc]
  rfl
theorem Tt{a:List UInt8}{i:Nat}(n:Nat)(p:Nat):KR a (i:Int) (n:Int) ((p:Int),(n:Int))=(LW (n:Int) (p:Int)).map Sum.inr:=by
 unfold KR;simp only;rw [if_neg U]
theorem size_eq{a:List UInt8}(hs:a.length<=1000000000000){i:Nat}(hi:i<a.length):Ts a (i:Int)=some ((PR (a.drop i):Nat):Int):=by
 have o:bt (a.drop i) 0<256:=Qx1 _;have hg:=XK (a:=a) (i:=i) 0 (z:=(i:Int)) U;have k3z:∀ s,Jv a (i:Int) 0 s=some 0:=fun s=>by unfold Jv;rw [if_pos Z]
 -- the loop for n bytes
 have hc:∀ k,cont (a.drop i) k=true->i+k<a.length:=fun k h=>by
  have:=(of_decide_eq_true h).1;rw [QzJ] at this;omega
 unfold Ts;rw [Ad ⟨by omega,by omega⟩,hg,PS,Qq6];unfold PR
 by_cases hA:194<=bt (a.drop i) 0/\bt (a.drop i) 0<=223
 ·rw [decide_eq_true ⟨by omega,by omega⟩,if_pos Z,Ad (by constructor <;> omega),if_pos hA];unfold N2 LX Jv;rw [hg,PS,Qq6,decide_eq_false U,if_neg Qqc,PS,Qq6,decide_eq_false U,if_neg Qqc,if_neg Qqc,Ad (by constructor <;> omega)]
  by_cases h2:i+2<=a.length
  ·rw [if_neg U];have e:((bt (a.drop i) 0:Nat):Int) - 192=((bt (a.drop i) 0 - 192:Nat):Int):=by omega
   rw [e];unfold N1;have s1:=NA hs i 1 2 (bt (a.drop i) 0 - 192) U Qqc Qqc h2
   by_cases c1:cont (a.drop i) 1=true
   ·rw [if_pos c1] at s1 ⊢;refine(Bg s1).trans (AQ (m:=some 2) ((Tt 2 _).trans ?_));unfold LW;rw [if_neg Qqc,if_neg Qqc]
    rfl
   ·rw [if_neg c1] at s1 ⊢;exact AQ (m:=some 0) s1
  ·rw [if_pos U,if_neg (fun h=>by have:=hc 1 h;omega)]
   rfl
 rw [decide_eq_false U,if_neg Qqc,if_neg hA];unfold N2;rw [hg,PS,Qq6]
 by_cases hB:224<=bt (a.drop i) 0/\bt (a.drop i) 0<=239
 ·rw [decide_eq_true ⟨by omega,by omega⟩,if_pos Z,Ad (by constructor <;> omega),if_pos hB];unfold LX Jv;rw [hg,PS,Qq6,decide_eq_false U,if_neg Qqc,if_neg Qqc,Ad (by constructor <;> omega)]
  by_cases h2:i+3<=a.length
  ·rw [if_neg U];have e:((bt (a.drop i) 0:Nat):Int) - 224=((bt (a.drop i) 0 - 224:Nat):Int):=by omega
   rw [e];unfold N1;have g:bt (a.drop i) 1<256:=Qx1 _;have j:bt (a.drop i) 2<256:=Qx1 _;have s1:=NA hs i 1 3 (bt (a.drop i) 0 - 224) U Qqc Qqc h2;have b:=NA hs i 2 3 ((bt (a.drop i) 0 - 224) * 64+(bt (a.drop i) 1 - 128)) U Qqc Qqc h2
   by_cases c1:cont (a.drop i) 1=true
   ·rw [if_pos c1] at s1;refine(Bg s1).trans ?_
    by_cases c2:cont (a.drop i) 2=true
    ·rw [if_pos c2] at b;refine(Bg b).trans (AQ (m:=some _) ((Tt 3 _).trans (congrArg _ ?_)));have f:((bt (a.drop i) 0 - 224) * 64+(bt (a.drop i) 1 - 128)) * 64+(bt (a.drop i) 2 - 128)=pt3 (a.drop i):=Z;rw [f];unfold LW;rw [if_pos Qqc]
     by_cases c:2048<=pt3 (a.drop i)
     ·rw [if_neg U,PS,Qq6]
      by_cases l:55296<=pt3 (a.drop i)/\pt3 (a.drop i)<=57343
      ·rw [decide_eq_true ⟨by omega,by omega⟩,if_pos Z,if_neg (fun h=>h.2.2.2 l)];rfl
      ·rw [decide_eq_false U,if_neg Qqc,if_neg Qqc,if_pos ⟨c1,c2,c,l⟩]
     ·rw [if_pos U,if_neg (fun h=>c h.2.2.1)];rfl
    ·rw [if_neg c2] at b;rw [if_neg (fun h=>c2 h.2.1)];exact AQ (m:=some 0) b
   ·rw [if_neg c1] at s1;rw [if_neg (fun h=>c1 h.1)];exact AQ (m:=some 0) s1
  ·rw [if_pos U,if_neg (fun h=>by have:=hc 2 h.2.1;omega)]
   rfl
 rw [decide_eq_false U,if_neg Qqc,if_neg hB];unfold LX;rw [hg,PS,Qq6]
 by_cases hC:240<=bt (a.drop i) 0/\bt (a.drop i) 0<=244
 ·rw [decide_eq_true ⟨by omega,by omega⟩,if_pos Z,Ad (by constructor <;> omega),if_pos hC];unfold Jv;rw [if_neg Qqc,Ad (by constructor <;> omega)]
  by_cases h2:i+4<=a.length
  ·rw [if_neg U];have e:((bt (a.drop i) 0:Nat):Int) - 240=((bt (a.drop i) 0 - 240:Nat):Int):=by omega
   rw [e];unfold N1;have g:bt (a.drop i) 1<256:=Qx1 _;have j:bt (a.drop i) 2<256:=Qx1 _;have p:bt (a.drop i) 3<256:=Qx1 _;have s1:=NA hs i 1 4 (bt (a.drop i) 0 - 240) U Qqc Qqc h2;have b:=NA hs i 2 4 ((bt (a.drop i) 0 - 240) * 64+(bt (a.drop i) 1 - 128)) U Qqc Qqc h2;have d:=NA hs i 3 4 (((bt (a.drop i) 0 - 240) * 64+(bt (a.drop i) 1 - 128)) * 64+(bt (a.drop i) 2 - 128)) U Qqc Qqc h2
   by_cases c1:cont (a.drop i) 1=true
   ·rw [if_pos c1] at s1;refine(Bg s1).trans ?_
    by_cases c2:cont (a.drop i) 2=true
    ·rw [if_pos c2] at b;refine(Bg b).trans ?_
     by_cases c3:cont (a.drop i) 3=true
     ·rw [if_pos c3] at d;refine(Bg d).trans (AQ (m:=some _) ((Tt 4 _).trans (congrArg _ ?_)));have f:(((bt (a.drop i) 0 - 240) * 64+(bt (a.drop i) 1 - 128)) * 64+(bt (a.drop i) 2 - 128)) * 64+(bt (a.drop i) 3 - 128)=pt4 (a.drop i):=Z;rw [f];unfold LW;rw [if_neg Qqc,if_pos Qqc,PS,Qq6]
      by_cases c:65536<=pt4 (a.drop i)/\pt4 (a.drop i)<=1114111
      ·rw [decide_eq_true ⟨by omega,by omega⟩,if_neg Qqc,if_pos ⟨c1,c2,c3,c⟩]
      ·rw [decide_eq_false U,if_pos Qqc,if_neg (fun h=>c h.2.2.2)];rfl
     ·rw [if_neg c3] at d;rw [if_neg (fun h=>c3 h.2.2.1)];exact AQ (m:=some 0) d
    ·rw [if_neg c2] at b;rw [if_neg (fun h=>c2 h.2.1)];exact AQ (m:=some 0) b
   ·rw [if_neg c1] at s1;rw [if_neg (fun h=>c1 h.1)];exact AQ (m:=some 0) s1
  ·rw [if_pos U,if_neg (fun h=>by have:=hc 3 h.2.2.1;omega)]
   rfl
 rw [decide_eq_false U,if_neg Qqc,if_neg hC,k3z]
 rfl
theorem Aaj{a:List UInt8}(hs:a.length<=1000000000000){i:Nat}(hi:i<a.length):Oj a (i:Int)=some ((MJ (a.drop i):Nat):Int):=by
 have hg:=XK (a:=a) (i:=i) 0 (z:=(i:Int)) U;unfold Oj;rw [Ad ⟨by omega,by omega⟩,hg,PS,Qq6];unfold MJ asc
 by_cases b:48<=bt (a.drop i) 0/\bt (a.drop i) 0<=57
 ·rw [decide_eq_true ⟨by omega,by omega⟩,if_pos Z,if_pos (decide_eq_true (.inl b))];rfl
 rw [decide_eq_false U,if_neg Qqc,PS,Qq6]
 by_cases h2:97<=bt (a.drop i) 0/\bt (a.drop i) 0<=122
 ·rw [decide_eq_true ⟨by omega,by omega⟩,if_pos Z,if_pos (decide_eq_true (.inr (.inl h2)))];rfl
 rw [decide_eq_false U,if_neg Qqc,PS,Qq6]
 by_cases h3:65<=bt (a.drop i) 0/\bt (a.drop i) 0<=90
 ·rw [decide_eq_true ⟨by omega,by omega⟩,if_pos Z,if_pos (decide_eq_true (.inr (.inr h3)))];rfl
 rw [decide_eq_false U,if_neg Qqc,size_eq hs hi,Qq6,if_neg (fun h=>by have:=of_decide_eq_true h;omega)]
end Go.Proofs.YtekmbcbgknmhiaaGreatDoor
namespace Go.Proofs.YtekmbcbgknmhiaaGreatDoor
open Go Go.L
theorem AdY{a:List UInt8}{e j:Nat}(h:e+j<a.length):((a.drop e).take (j+1)).map Ju=((a.drop e).take j).map Ju++[Ju (a.getD (e+j) Qq2)]:=by
 have b:(a.drop e)[j]? = some (a.getD (e+j) Qq2):=by
  rw [Qxj,Qq9,Qzw h]
  rfl
 rw [QxX,b,List.map_append]
 rfl
theorem AdZ{a:List UInt8}(hs:a.length<=1000000000000){e n:Nat}(h:e+n<=a.length)(low:List UInt8)(hl:low.length<=e):
  O7 a (e:Int) (n:Int) (low,(e:Int))=some (.inl (low++((a.drop e).take n).map Ju,((e+n:Nat):Int))):=by
 unfold O7
 have key:=Fb (b:=LY a (e:Int) (n:Int)) (m:=some (.inl (low++((a.drop e).take n).map Ju,((e+n:Nat):Int)))) (fun j=>(low++((a.drop e).take j).map Ju,((e+j:Nat):Int))) n (fun j hj=>by
  unfold LY;simp only;rw [Ad (by constructor <;> omega),if_pos U,Ad ⟨by omega,by omega⟩,Qq8]
  have hlen:(low++((a.drop e).take j).map Ju).length+[Ju (a.getD (e+j) Qq2)].length<=2000000000002:=by
   rw [Qzu,Qzk,QzK,QzJ,QxD];omega
  have hk:MK (low++((a.drop e).take j).map Ju) ((e+j:Nat):Int) (Ju (a.getD (e+j) Qq2))=some (.inl (low++((a.drop e).take (j+1)).map Ju,((e+(j+1):Nat):Int))):=by
   unfold MK;rw [Ad (by constructor <;> omega),Ad (by constructor <;> omega),AdY U,QxZ]
   congr 3
  rw [<- hk];unfold Ju
  split
  ·rfl
  ·rfl) (by
  unfold LY R7;simp only;rw [Ad (by constructor <;> omega),if_neg U,Ad (by constructor <;> omega)]
  congr 3) 0 (hi:=(by omega))
 simp only [List.take_zero,List.map_nil,QzZ,Qxq] at key;exact key
theorem XL{a:List UInt8}{at':Nat}(h:a.length<=at')(L:List W):run (FJ a) (L,(at':Int))=some L:=by
 refine AQ (m:=some L) ?_;unfold FJ R8;simp only;rw [if_neg U]
theorem Aea{a:List UInt8}(hs:a.length<=1000000000000)(L:List W){fr at':Nat}(hL:L.length<=at')(ha:at'<=a.length)(cur:List UInt8)(hfr:fr<=at')(hc:cur=[]↔fr=at'):
  ML L (fr:Int) cur (at':Int)=some (.inl (L++fin cur fr at',((at'+1:Nat):Int))):=by
 unfold ML fin
 by_cases h:fr=at'
 ·rw [if_neg U,Ad (by constructor <;> omega),if_pos (hc.2 h),QzZ]
  congr 3
 ·rw [if_pos U,Ad (by rw [QxD];constructor <;> omega),Ad (by constructor <;> omega),if_neg (fun e=>h (hc.1 e))]
  congr 3
theorem Agn{a:List UInt8}(hs:a.length<=1000000000000):∀ (f at':Nat) (L:List W),a.length<=at'+f->L.length<=at'->at'<=a.length+1->
  run (FJ a) (L,(at':Int))=some (L++V0 a f at' [] at')/\
  ∀
   (cur:List UInt8) (fr:Nat),at'<=a.length->fr<=at'->cur.length<=at'->(cur=[]↔fr=at')->∃ s,run (HT a L (fr:Int)) (cur,(at':Int))=some (.inl s)/\
   run (FJ a) s=some (L++V0 a f at' cur fr):=by
 have E:∀ (f at':Nat) (L:List W),a.length<=at'->L.length<=at'->∀ (cur:List UInt8) (fr:Nat),at'<=a.length->fr<=at'->(cur=[]↔fr=at')->∃ s,run (HT a L (fr:Int)) (cur,(at':Int))=some (.inl s)/\
   run (FJ a) s=some (L++V0 a f at' cur fr):=by
  intro f at' L h hL cur fr hle hfr hc;refine⟨(L++fin cur fr at',((at'+1:Nat):Int)),?_,?_⟩
  ·refine AQ (m:=some (Sum.inl (L++fin cur fr at',((at'+1:Nat):Int)):WS)) ?_;unfold HT;simp only;rw [if_neg U,Aea hs L hL hle cur hfr hc]
  ·rw [XL U,Rf h]
 intro f
 induction f with
 | zero=>
  intro at' L hf hL ha
  constructor
  ·rw [XL U,Rf U];unfold fin;rw [if_pos Z,QzZ]
  ·intro cur fr hle hfr _ hc;exact E 0 at' L U hL cur fr hle hfr hc
 | succ f ih=>
  intro at' L hf hL ha
  have B:∀ (cur:List UInt8) (fr:Nat),at'<=a.length->fr<=at'->cur.length<=at'->(cur=[]↔fr=at')->∃ s,run (HT a L (fr:Int)) (cur,(at':Int))=some (.inl s)/\
   run (FJ a) s=some (L++V0 a (f+1) at' cur fr):=by
   intro cur fr hle hfr hcl hc
   by_cases h:at'<a.length
   ·have hroom:=QD h;have hlow:=XJ h;have hl:=Aaj hs h;unfold V0;rw [if_pos h]
    by_cases c:MJ (a.drop at')=0
    ·rw [if_pos c];refine⟨(L++fin cur fr at',((at'+1:Nat):Int)),?_,?_⟩
     ·refine AQ (m:=some (Sum.inl (L++fin cur fr at',((at'+1:Nat):Int)):WS)) ?_;unfold HT;simp only;rw [if_pos U,hl,Qq6,if_neg U,Aea hs L hL hle cur hfr hc]
     ·have b:=(ih (at'+1) (L++fin cur fr at') U (by rw [Qzu];have:=XI cur fr at';omega) U).1;rw [b,QxZ]
    ·rw [if_neg c];have hne:((a.drop at').take (MJ (a.drop at'))).map Ju≠[]:=fun e=>by rw [e,Qzf] at hlow;omega
     obtain⟨s,b,h2⟩:=(ih (at'+MJ (a.drop at')) L U U U).2 (cur++((a.drop at').take (MJ (a.drop at'))).map Ju) fr hroom U (by rw [Qzu,hlow];omega) ⟨fun e=>absurd (List.append_eq_nil_iff.1 e).2 hne,fun e=>by omega⟩;refine⟨s,?_,h2⟩;rw [<- b];refine Bg ?_;unfold HT;simp only;rw [if_pos U,hl,Qq6,if_pos U,Qq6,AdZ hs hroom cur hcl]
   ·exact E (f+1) at' L U hL cur fr hle hfr hc
  refine⟨?_,B⟩
  by_cases h:at'<a.length
  ·obtain⟨s,b,h2⟩:=B [] at' U U Qqd ⟨fun _=>Z,fun _=>Z⟩
   have hb:FJ a (L,(at':Int))=some (.inl s):=by
    unfold FJ;simp only;rw [if_pos U];exact b
   rw [Bg hb];exact h2
  ·rw [XL U,Rf U];unfold fin;rw [if_pos Z,QzZ]
theorem Ach{a:List UInt8}(hs:a.length<=1000000000000):V1 a=some (YY a):=by
 have:=(Agn hs (a.length+1) 0 [] U Qqd U).1;rw [Qxw] at this;exact this
def wf(a:List UInt8):Int×Int:=if 64<a.length then(3,-1) else if(YY a).map Qq5=[a] then(0,0) else(6,-1)
theorem NS(a:List UInt8):H5 a=some (wf a):=by
 unfold H5 wf
 by_cases h:64<a.length
 ·rw [if_pos U,if_pos h];rfl
 ·rw [if_neg U,if_neg h,Acg U,Qq6]
  by_cases b:(YY a).map Qq5=[a]
  ·rw [decide_eq_true b,if_neg Qqc,if_pos b]
  ·rw [decide_eq_false b,if_pos Qqc,if_neg b];rfl
theorem XM(a:List UInt8):NR a=some (wf a):=by
 unfold NR wf
 by_cases h:64<a.length
 ·rw [if_pos U,if_pos h];rfl
 ·rw [if_neg U,if_neg h,Ad U,Ach U,Qq6];generalize YY a=l
  match l with
  | []=>rw [if_neg Qqd,if_neg Qqd];rfl
  | [x]=>
   rw [if_pos (show(([x].length:Nat):Int)=1 from Z),Ad Qqd]
   show(if x.1=a then _ else _)=_
   by_cases b:x.1=a
   ·rw [if_pos b,if_pos (by simp [b])]
   ·rw [if_neg b,if_neg (by simp [b])];rfl
  | x::y::z=>rw [if_neg (by simp;omega),if_neg Qqd];rfl
theorem RT{a:List UInt8}:∀ (f at':Nat) (cur:List UInt8) (fr:Nat),at'<=a.length->(V0 a f at' cur fr).length+at'<=a.length+1
 | 0,at',cur,fr,h=>by unfold V0;have:=XI cur fr at';omega
 | f+1,at',cur,fr,h=>by
  unfold V0;have:=XI cur fr at'
  split
  ·rename_i b
   split
   ·rw [Qzu];have:=RT (a:=a) f (at'+1) [] (at'+1) U;omega
   ·have:=RT (a:=a) f (at'+MJ (a.drop at')) (cur++((a.drop at').take (MJ (a.drop at'))).map Ju) fr (QD b);omega
  ·omega
theorem XN(a:List UInt8):(YY a).length<=a.length+1:=RT (a:=a) (a.length+1) 0 [] 0 (Qz6 _)
end Go.Proofs.YtekmbcbgknmhiaaGreatDoor
end
noncomputable section
namespace Go.L
def RA:List UInt8->List UInt8->List (List UInt8)
 | cur,[]=>[cur]
 | cur,c::s=>if c=47 then cur::RA [] s else RA (cur++[c]) s
theorem XO:∀ (s cur:List UInt8),RA cur s=(cur++(RA [] s).headD [])::(RA [] s).tail
 | [],cur=>by simp [RA]
 | c::s,cur=>by
  unfold RA
  by_cases h:c=47
  ·rw [if_pos h,if_pos h];simp
  ·rw [if_neg h,if_neg h,XO s (cur++[c]),XO s ([]++[c])];simp
theorem XP:∀ (s cur:List UInt8),(RA cur s).length<=s.length+1
 | [],_=>by simp [RA]
 | c::s,cur=>by
  unfold RA
  split
  ·have:=XP s [];simp only [Qzj];omega
  ·have:=XP s (cur++[c]);simp only [Qzj];omega
def TO:List (List UInt8)->Nat
 | []=>0
 | x::l=>x.length+1+TO l
theorem XQ:∀ (s cur:List UInt8),TO (RA cur s)=cur.length+s.length+1
 | [],cur=>by simp [RA,TO]
 | c::s,cur=>by
  unfold RA
  split
  ·unfold TO;rw [XQ s []];simp only [Qzj,Qzf];omega
  ·rw [XQ s];simp only [Qzu,Qzj,Qzf];omega
theorem V2:∀ s:List UInt8,Lib.splitK [47] 0 (s.count 47) s=RA [] s
 | []=>rfl
 | c::s=>by
  have ih:=V2 s
  have hi:Lib.index (c::s) [47]=if c==47 then 0 else if Lib.index s [47] == -1 then -1 else Lib.index s [47]+1:=by
   rw [Lib.index_one,Lib.index_one];rfl
  by_cases h:c=47
  ·subst h;rw [List.count_cons_self];unfold Lib.splitK RA;rw [hi];simp [ih]
  ·have hb:(c==47)=false:=by simpa using h
   rw [List.count_cons_of_ne (fun e=>h e)]
   have hp:RA [] (c::s)=([c]++(RA [] s).headD [])::(RA [] s).tail:=by
    conv=>lhs;unfold RA
    rw [if_neg h,XO s ([]++[c])];rfl
   rw [hp,<- ih]
   cases hk:s.count 47 with
   | zero=>rfl
   | succ k=>
    unfold Lib.splitK;rw [hi,hb]
    by_cases a:(Lib.index s [47] == -1)=true
    ·simp [a]
    ·have hge : -1<=Lib.index s [47]:=Lib.index_ge s [47];have h2:0<=Lib.index s [47]:=by have:Lib.index s [47]≠-1:=fun e=>a (by simp [e]);omega
     obtain⟨i,b⟩:=QxA h2;have h3:((i:Int)+1 == -1)=false:=by simp;omega
     have d:((i:Int) == -1)=false:=by simp
     rw [b] at a ⊢;simp [h3,d,show((i:Int)+1).toNat=i+1 by omega]
def sl(s:List UInt8):List (List UInt8):=if s=[] then[] else RA [] s
theorem Aeb(s:List UInt8):(sl s).length<=s.length+1:=by unfold sl;split;simp;exact XP s []
theorem Aec(s:List UInt8):TO (sl s)<=s.length+1:=by unfold sl;split;simp [TO];rw [XQ];simp
theorem XR:∀ {l:List (List UInt8)} {x:List UInt8},x∈l->x.length<TO l
 | y::l,x,h=>by
  unfold TO
  rcases List.mem_cons.1 h with rfl | h
  ·omega
  ·have:=XR h;omega
def Yn(c:UInt8):Bool:=decide ((97<=c.toNat/\c.toNat<=122)\/(48<=c.toNat/\c.toNat<=57)\/c.toNat=45\/c.toNat=95\/c.toNat=46)
def S8(s:List UInt8):Bool:=decide (1<=s.length/\s.length<=32/\97<=(s.getD 0 Qq2).toNat/\(s.getD 0 Qq2).toNat<=122)&&s.all Yn
def wr(w:Bool):Int->List (List UInt8)->Int
 | _,[]=>-1
 | a,x::l=>if(S8 x||decide (x=[35])||(w&&(decide (x=[42])||decide (x=[42,42]))))=true then wr w (a+x.length+1) l else a
theorem drop_cons{α:Type}[Inhabited α]{l:List α}{i:Nat}(h:i<l.length):l.drop i=l.getD i Qq2::l.drop (i+1):=by
 rw [List.drop_eq_getElem_cons h];simp [Qq9,Qzw h]
theorem Et{α:Type}[Inhabited α]{l:List α}{i:Nat}(h:i<l.length):l.getD i Qq2∈l:=by
 rw [Qq9,Qzw h];exact List.getElem_mem h
end Go.L
namespace Go.Proofs.YtekmbcbgknmhiaaGreatDoor
open Go Go.L
theorem V3{s:List UInt8}(h:s.length<4294967281):Ix s=some (sl s):=by
 unfold Ix sl
 by_cases hs:s=[]
 ·rw [if_pos hs,if_pos hs]
 ·rw [if_neg hs,if_neg hs];unfold strings_Split QZ;rw [Ad ⟨h,Z,Z,Z⟩]
  show some (pieces s)=some (RA [] s)
  unfold pieces Lib.split;rw [Lib.count_one,V2]
theorem Ws{s:List UInt8}(hs:s.length<=1000000000000):∀ (d i f:Nat) (L:List (List UInt8)),i+d=s.length->f<=i->L.length<=i->
  Go.L.run (Fs s) (L,(f:Int),(i:Int))=some (L++RA ((s.drop f).take (i - f)) (s.drop i)):=by
 intro d
 induction d with
 | zero=>
  intro i f L hi hf hL
  have a:Fs s (L,(f:Int),(i:Int))=some (.inl (L++[(s.drop f).take (i - f)],((i+1:Nat):Int),((i+1:Nat):Int))):=by
   unfold Fs;simp only [Qq8];rw [if_pos U,if_pos U,Ad U,Ad (by unfold Go.E.Io;simp;omega),Ad (by unfold Bw;omega),Ad (by unfold Bw;omega)]
   rfl
  rw [Bg a,AQ (m:=some (L++[(s.drop f).take (i - f)]))]
  ·rw [Qz5 (by omega:s.length<=i)];rfl
  ·unfold Fs;dsimp only;rw [if_neg U]
   rfl
 | succ d ih=>
  intro i f L hi hf hL;have hil:i<s.length:=by omega
  have hd:=drop_cons hil
  by_cases hc:s.getD i Qq2=47
  ·have a:Fs s (L,(f:Int),(i:Int))=some (.inl (L++[(s.drop f).take (i - f)],((i+1:Nat):Int),((i+1:Nat):Int))):=by
    unfold Fs;simp only [Qq8];rw [if_pos U,if_neg U,Ad U,if_pos (by rw [hc];rfl),Ad U,Ad (by unfold Go.E.Io;simp;omega),Ad (by unfold Bw;omega),Ad (by unfold Bw;omega)]
    rfl
   rw [Bg a,ih (i+1) (i+1) _ U (Qzx _) (by simp;omega),hd]
   conv=>rhs;unfold RA
   rw [if_pos hc,Nat.sub_self,List.take_zero,QxZ]
   rfl
  ·have a:Fs s (L,(f:Int),(i:Int))=some (.inl (L,(f:Int),((i+1:Nat):Int))):=by
    unfold Fs;simp only [Qq8];rw [if_pos U,if_neg U,Ad U,if_neg (fun e=>hc (UInt8.toNat.inj (show(s.getD i Qq2).toNat=47 by omega))),Ad (by unfold Bw;omega)]
    rfl
   rw [Bg a,ih (i+1) f _ U U U,hd]
   conv=>rhs;unfold RA
   rw [if_neg hc]
   congr 2
   rw [show i+1 - f=(i - f)+1 by omega,QxX,Qxj,show f+(i - f)=i by omega,Qzw hil];simp [Qq9,Qzw hil]
theorem Aci{s:List UInt8}(hs:s.length<=1000000000000):RN s=some (sl s):=by
 unfold RN sl
 split
 ·rfl
 ·have:=Ws hs s.length 0 0 [] U (Qzx _) (Qzx _);exact this
theorem Aak{s:List UInt8}(hs:s.length<=1000000000000):∀ (d i:Nat),i+d=s.length->1<=i->Go.L.run (EL s) (i:Int)=some ((s.drop i).all Yn&&decide (1<=s.length/\s.length<=32)):=by
 intro d
 induction d with
 | zero=>
  intro i hi h;refine AQ ?_;unfold EL Qx HY;rw [if_neg U,Qz5 (by omega:s.length<=i)];simp only [Qq6,Option.map_some,List.all_nil,Qx6]
  congr 2
  rw [decide_eq_decide];omega
 | succ d ih=>
  intro i hi h;have hil:i<s.length:=by omega
  rw [drop_cons hil,List.all_cons]
  have hstep:EL s (i:Int)=if Yn (s.getD i Qq2) then some (.inl ((i+1:Nat):Int)) else some (.inr false):=by
   unfold EL HY Yn;rw [if_pos U,Ad U,Qq8];have hk:Bw ((i:Int)+1):=by unfold Bw;omega
   have hz : ¬ ((i:Int)=0):=by omega
   simp only [Qq6,Ad hk,if_neg hz];generalize (s.getD i Qq2).toNat=c;have j:(decide ((97:Int)<=(c:Int)/\(c:Int)<=122))=decide (97<=c/\c<=122):=by rw [decide_eq_decide];omega
   have k:(decide ((48:Int)<=(c:Int)/\(c:Int)<=57))=decide (48<=c/\c<=57):=by rw [decide_eq_decide];omega
   rw [j,k]
   by_cases a:97<=c/\c<=122
   ·simp [a]
   ·by_cases b:48<=c/\c<=57
    ·simp [a,b]
    ·by_cases e:c=45
     ·subst e;simp
     ·by_cases f:c=95
      ·subst f;simp
      ·by_cases g:c=46
       ·subst g;simp
       ·have k3' : ¬ ((c:Int)=45):=by omega
        have k4' : ¬ ((c:Int)=95):=by omega
        have k5' : ¬ ((c:Int)=46):=by omega
        simp [a,b,e,f,g,k3',k4',k5']
  by_cases hn:Yn (s.getD i Qq2)=true
  ·rw [if_pos hn] at hstep;rw [Bg hstep,ih (i+1) U U,hn,Qx6]
  ·rw [if_neg hn] at hstep;have hn':Yn (s.getD i Qq2)=false:=by simpa using hn
   rw [AQ (m:=some false) hstep,hn',Bool.false_and,Bool.false_and]
theorem Acj{s:List UInt8}(hs:s.length<=1000000000000):Qz s=some (S8 s):=by
 unfold Qz Qy
 by_cases b:s=[]
 ·subst b;refine AQ ?_
  rfl
 ·have hl:0<s.length:=Qka.2 b;have hd:s=s.getD 0 Qq2::s.drop 1:=by have:=drop_cons hl;simpa using this
  by_cases hc:97<=(s.getD 0 Qq2).toNat/\(s.getD 0 Qq2).toNat<=122
  ·have a:EL s (0:Int)=some (.inl ((1:Nat):Int)):=by
    unfold EL HY;rw [if_pos U,Ad U];simp only [Qq6,Int.toNat_zero];have hh:(decide ((97:Int)<=((s.getD 0 Qq2).toNat:Int)/\((s.getD 0 Qq2).toNat:Int)<=122))=true:=by rw [decide_eq_true_eq];omega
    rw [hh,if_neg Qqc,Ad (by unfold Bw;omega)]
    rfl
   rw [Bg a,Aak hs (s.length - 1) 1 U (Qzx _)];unfold S8;have hn:Yn (s.getD 0 Qq2)=true:=by unfold Yn;rw [decide_eq_true_eq];exact .inl hc
   have ha:s.all Yn=(s.drop 1).all Yn:=by conv=>lhs;rw [hd,List.all_cons,hn,Qx6]
   rw [ha,Bool.and_comm]
   congr 2
   rw [decide_eq_decide]
   constructor
   ·intro h;exact⟨h.1,h.2,hc.1,hc.2⟩
   ·intro h;exact⟨h.1,h.2.1⟩
  ·have a:EL s (0:Int)=some (.inr false):=by
    unfold EL HY;rw [if_pos U,Ad U];simp only [Qq6,Int.toNat_zero];have hh:(decide ((97:Int)<=((s.getD 0 Qq2).toNat:Int)/\((s.getD 0 Qq2).toNat:Int)<=122))=false:=by rw [decide_eq_false_iff_not];omega
    rw [hh]
    rfl
   rw [AQ (m:=some false) a];unfold S8;rw [show(decide (1<=s.length/\s.length<=32/\97<=(s.getD 0 Qq2).toNat/\(s.getD 0 Qq2).toNat<=122))=false by rw [decide_eq_false_iff_not];intro h;exact hc ⟨h.2.2.1,h.2.2.2⟩]
   rfl
theorem WT(l:List UInt8)(k:Nat):((ByteArray.mk l.toArray).get! k).toNat=(l.getD k Qq2).toNat:=by
 simp [ByteArray.get!,Qq9,getElem!_def]
 cases l[k]? <;> rfl
theorem Ago{l:List UInt8}{p:Nat}(h:(l.getD p Qq2).toNat<128):Utf8.decode ⟨l.toArray⟩ p=((l.getD p Qq2).toNat,1):=by
 unfold Utf8.decode;simp only [Qxq,WT];rw [if_pos h]
theorem Aed{l:List UInt8}{p:Nat}(h : ¬ (l.getD p Qq2).toNat<128):128<=(Utf8.decode ⟨l.toArray⟩ p).1:=by
 unfold Utf8.decode;simp only [Qxq,WT];rw [if_neg h]
 split
 ·split
  ·rename_i h2;simpa using h2
  ·decide
 ·split
  ·split
   ·rename_i h2;simp only [ge_iff_le,Qzb,decide_eq_true_eq] at h2;show 128<=_;omega
   ·decide
  ·split
   ·split
    ·rename_i h2;simp only [ge_iff_le,Qzb,decide_eq_true_eq] at h2;show 128<=_;omega
    ·decide
   ·decide
theorem Aee(c:UInt8):XE c.toNat = !(Yn c):=by
 unfold XE Yn;generalize c.toNat=n;rw [QzD];simp;omega
theorem Aef{a:List UInt8}:∀ (f p:Nat),a.length<=p+f->(0<=Lib.idxFuncFrom XE true ⟨a.toArray⟩ f p↔(a.drop p).all Yn=false)
 | 0,p,h=>by
  rw [Qz5 U];simp [Lib.idxFuncFrom]
 | f+1,p,h=>by
  have hsz:(ByteArray.mk a.toArray).size=a.length:=by simp [Qxb]
  unfold Lib.idxFuncFrom;rw [hsz]
  by_cases hp:p<a.length
  ·rw [if_pos hp,drop_cons hp,List.all_cons]
   by_cases hc:(a.getD p Qq2).toNat<128
   ·rw [Ago hc];simp only [Aee]
    by_cases hn:Yn (a.getD p Qq2)=true
    ·rw [hn,if_neg Qqc,Qx6];exact Aef f (p+1) U
    ·have hn':Yn (a.getD p Qq2)=false:=by simpa using hn
     rw [hn',if_pos Qqc];simp
   ·have hb:XE (Utf8.decode ⟨a.toArray⟩ p).1=true:=by
     have:=Aed hc;unfold XE;simp;omega
    have hn:Yn (a.getD p Qq2)=false:=by
     unfold Yn;rw [decide_eq_false_iff_not];omega
    rw [hb,if_pos Z,hn];simp
  ·rw [if_neg hp,Qz5 U];simp
theorem Ack(a:List UInt8):Vm a=some (!(a.all Yn)):=by
 unfold Vm Lib.idxFunc
 congr 1
 have:=Aef (a:=a) (ByteArray.mk a.toArray).size 0 (by simp [Qxb]);rw [QxE] at this;rw [QzD,decide_eq_true_eq,this];simp
theorem Abo(s:List UInt8):Lk s=some (S8 s):=by
 unfold Lk S8
 by_cases a:s=[]
 ·subst a;rfl
 ·have hl:0<s.length:=Qka.2 a;rw [if_neg a]
  by_cases b:(32:Int)<(s.length:Int)
  ·rw [if_pos b,show decide (1<=s.length/\s.length<=32/\97<=(s.getD 0 Qq2).toNat/\(s.getD 0 Qq2).toNat<=122)=false by rw [decide_eq_false_iff_not];omega]
   rfl
  ·rw [if_neg b,Ad U,Int.toNat_zero]
   by_cases h2:((s.getD 0 Qq2).toNat:Int)<97
   ·rw [if_pos h2,show decide (1<=s.length/\s.length<=32/\97<=(s.getD 0 Qq2).toNat/\(s.getD 0 Qq2).toNat<=122)=false by rw [decide_eq_false_iff_not];omega]
    rfl
   ·rw [if_neg h2,Ad U]
    by_cases h3:122<((s.getD 0 Qq2).toNat:Int)
    ·rw [if_pos h3,show decide (1<=s.length/\s.length<=32/\97<=(s.getD 0 Qq2).toNat/\(s.getD 0 Qq2).toNat<=122)=false by rw [decide_eq_false_iff_not];omega]
     rfl
    ·rw [if_neg h3,Ack,show decide (1<=s.length/\s.length<=32/\97<=(s.getD 0 Qq2).toNat/\(s.getD 0 Qq2).toNat<=122)=true by rw [decide_eq_true_eq];omega];simp
theorem Acl{w:Bool}{l:List (List UInt8)}(hl:TO l<=1000000000000):∀ (d i a:Nat),i+d=l.length->a+TO (l.drop i)<=2000000000000->
  Go.L.run (IW w l) ((a:Int),(i:Int))=some (wr w (a:Int) (l.drop i)):=by
 intro d
 induction d with
 | zero=>
  intro i a hi ha;rw [Qz5 U];refine AQ ?_;unfold IW;dsimp only;rw [if_neg U]
  rfl
 | succ d ih=>
  intro i a hi ha;have hil:i<l.length:=by omega
  have hlt:l.length<=1000000000000:=by
   have:∀ m:List (List UInt8),m.length<=TO m:=fun m=>by
    induction m with
    | nil=>exact Qz6 _
    | cons x m ih=>simp only [Qzj,TO];omega
   exact Qz2 (this l) hl
  have hx:=XR (Et hil);rw [drop_cons hil] at ha ⊢;unfold wr;unfold TO at ha;generalize hX:l.getD i Qq2=x at *;have c:Bw ((a:Int)+(x.length:Int)):=by unfold Bw;omega
  have e:Bw ((a:Int)+(x.length:Int)+1):=by unfold Bw;omega
  have f:Bw ((i:Int)+1):=by unfold Bw;omega
  have b:0<=(i:Int)/\(i:Int)<(l.length:Int):=by omega
  have hgo:Go.L.run (IW w l) ((a:Int)+(x.length:Int)+1,(i:Int)+1)=some (wr w ((a:Int)+(x.length:Int)+1) (l.drop (i+1))):=by
   have:=ih (i+1) (a+x.length+1) U U
   simpa using this
  have hb:IW w l ((a:Int),(i:Int))=if(S8 x||decide (x=[35])||(w&&(decide (x=[42])||decide (x=[42,42]))))=true then some (.inl ((a:Int)+(x.length:Int)+1,(i:Int)+1)) else some (.inr (a:Int)):=by
   unfold IW;simp only [Qq8,hX];rw [if_pos U,Ad b,Acj U];simp only [Qq6,Ad b,Ad c,Ad e,Ad f]
   cases hn:S8 x <;> by_cases g:x=[35] <;> cases w <;> by_cases h2:x=[42] <;> by_cases h3:x=[42,42] <;> simp_all
  by_cases hc:(S8 x||decide (x=[35])||(w&&(decide (x=[42])||decide (x=[42,42]))))=true
  ·rw [if_pos hc] at hb ⊢;rw [Bg hb,hgo]
  ·rw [if_neg hc] at hb ⊢;exact AQ (m:=some (a:Int)) hb
theorem Aeg{s:List UInt8}(hs:s.length<=100000000000)(w:Bool):Px s w=some (wr w 0 (sl s)):=by
 unfold Px;rw [Aci U,Qq6];have a:=Aec s;have:=Acl (w:=w) (l:=sl s) U (sl s).length 0 0 U (by simp;omega);rw [QxE] at this;exact this
def pf(s:List UInt8):Int×Int:=if 64<s.length then(3,-1) else if 0<=wr true 0 (sl s) then(1,wr true 0 (sl s)) else(0,0)
theorem Acm(s:List UInt8):LG s=some (pf s):=by
 unfold LG pf
 by_cases h:64<s.length
 ·rw [if_pos U,if_pos h];rfl
 ·rw [if_neg U,if_neg h,Aeg U];simp only [Qq6]
  split <;> rfl
theorem Acn{l:List (List UInt8)}(hl:TO l<=1000000000000):∀ (d i a:Nat),i+d=l.length->a+TO (l.drop i)<=2000000000000->
  Go.L.run (Ej l) ((a:Int),(i:Int))=some (if 0<=wr true (a:Int) (l.drop i) then(1,wr true (a:Int) (l.drop i)) else(0,0)):=by
 intro d
 induction d with
 | zero=>
  intro i a hi ha;rw [Qz5 U];refine AQ ?_;unfold Ej;dsimp only;rw [if_neg U]
  rfl
 | succ d ih=>
  intro i a hi ha;have hil:i<l.length:=by omega
  have hlt:l.length<=1000000000000:=by
   have:∀ m:List (List UInt8),m.length<=TO m:=fun m=>by
    induction m with
    | nil=>exact Qz6 _
    | cons x m ih=>simp only [Qzj,TO];omega
   exact Qz2 (this l) hl
  have hx:=XR (Et hil);rw [drop_cons hil] at ha ⊢;unfold wr;unfold TO at ha;generalize hX:l.getD i Qq2=x at *;have b:Bw ((x.length:Int)+1):=by unfold Bw;omega
  have c:Bw ((a:Int)+((x.length:Int)+1)):=by unfold Bw;omega
  have e:Bw ((i:Int)+1):=by unfold Bw;omega
  have f:0<=(i:Int)/\(i:Int)<(l.length:Int):=by omega
  have hgo:Go.L.run (Ej l) ((a:Int)+((x.length:Int)+1),(i:Int)+1)=some (if 0<=wr true ((a:Int)+(x.length:Int)+1) (l.drop (i+1)) then(1,wr true ((a:Int)+(x.length:Int)+1) (l.drop (i+1))) else(0,0)):=by
   have:=ih (i+1) (a+x.length+1) U U;rw [show((a:Int)+((x.length:Int)+1))=((a+x.length+1:Nat):Int) by omega,show((a:Int)+(x.length:Int)+1)=((a+x.length+1:Nat):Int) by omega];exact this
  have hb:Ej l ((a:Int),(i:Int))=if(S8 x||decide (x=[35])||(true&&(decide (x=[42])||decide (x=[42,42]))))=true then some (.inl ((a:Int)+((x.length:Int)+1),(i:Int)+1)) else some (.inr (1,(a:Int))):=by
   unfold Ej;simp only [Qq8,hX];rw [if_pos U,Ad f,Abo];simp only [Qq6,Ad b,Ad c,Ad e]
   cases hn:S8 x <;> by_cases g:x=[35] <;> by_cases h2:x=[42] <;> by_cases h3:x=[42,42] <;> simp_all [DI]
  by_cases hc:(S8 x||decide (x=[35])||(true&&(decide (x=[42])||decide (x=[42,42]))))=true
  ·rw [if_pos hc] at hb ⊢;rw [Bg hb,hgo]
  ·rw [if_neg hc] at hb ⊢;rw [if_pos U];exact AQ (m:=some (1,(a:Int))) hb
theorem Rg(s:List UInt8):Ho s=some (pf s):=by
 unfold Ho pf
 by_cases h:64<s.length
 ·rw [if_pos U,if_pos h];rfl
 ·rw [if_neg U,if_neg h,V3 U,Qq6];have a:=Aec s;have:=Acn (l:=sl s) U (sl s).length 0 0 U (by simp;omega);rw [QxE] at this;exact this
end Go.Proofs.YtekmbcbgknmhiaaGreatDoor
end
