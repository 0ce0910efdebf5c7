/- Texts of a claim, merged. -/
import Derived.Test.YtekmbcbgknmhiaaGreatDoorLt4
import Derived.KernelRfl
open _root_.Go.Proofs.Tryz renaming underlying22→Aed,underlying23→Afr,underlying58→Ahx,underlying96→Aj7,underlying98→Aj8,underlying52→AjB,underlying66→AjC,underlying50→AjD,underlying43→AjE,underlying28→Aje,underlying26→Ajl,underlying137→Ajp,underlying62→Ajq,underlying94→Ajs
open Option renaming bind->Qq4,bind_some->Qq6,map->Qq7
open List renaming getD_eq_getElem?_getD->Qq9,getElem?_eq_getElem->Qzj,replicate->Qzz,length_map->Qzk,length_cons->Qzw,length_append->Qzu,drop_eq_nil_of_le->Qz5,length_nil->Qzd,length_take->QzK,length_drop->QzA,append_nil->QzZ,getElem?_drop->Qxw,take_add_one->QxJ,nil_append->Qxv,length_singleton->QxD,append_assoc->QxX,drop_zero->QxE,length_pos_iff->Qkb
open Int renaming toNat_natCast->Qq8,eq_ofNat_of_zero_le->QxK
open Prod renaming fst->Qq5
open Nat renaming le_refl->Qzx,zero_add->Qzc,le_trans->Qz2,add_zero->Qxk,zero_le->Qz3
open Bool renaming and_eq_true->Qzb,eq_iff_iff->Qxz,true_and->Qkv
open ByteArray renaming size->Qxc
open UInt8 renaming toNat_lt->Qx1
set_option linter.unusedVariables false
set_option linter.unusedSimpArgs false
set_option linter.unusedSectionVars false
noncomputable section
namespace Go
abbrev AjK:=((List Int))×(List Int)×(List Int)
end Go
namespace Go.Proofs.YtekmbcbgknmhiaaGreatDoor
open Go Go.E Go.RowKit Go.L
set_option maxHeartbeats 1000000
set_option maxRecDepth 10000
open _root_.Go.Proofs.Tryz
def KL(a0 a1:Int):Option ((Int×Int)):=
 some ((a0,a1))
section
variable(w:World)(H:PH)(hH:Le H (hp w)) include hH
theorem OX{a0 a1:Int}{r:(Int×Int)}(h:KL a0 a1=some r):
  Qqv 98 [No a0,No a1] w (fun v w'=>v=.agg #[No r.1,No r.2]):=by
 refine Az 8 [(0,No a0),(1,No a1)] func98 Z fun hL=>Aj<|A9 AF.e Z hL fun e f b c _=>Ac<|Bt 2 Z<|Ai (AT (fun _=>Mx _ _ _))<|Af 0 Z b Z fun g a d=>Ac<|Ay ?_
 cases h
 refine Dv (.cell Z Aje Z AF.e (AH (i:=0) a Z)) ⟨a.ext,Z⟩
def Dw(a0:(List Int)):Option Int:=
 some ((max (a0.length:Int) (1:Int)))
theorem Kx{a0:(List Int)}{a:Value}(c:AJ (.int .i64) H a a0){r:Int}(h:Dw a0=some r):
  Qqv 97 [.agg #[a]] w (fun v w'=>v=No r):=by
 refine Az 7 [(0,.agg #[a])] func97 Z fun hL=>Aj<|C9 (t:=96) Z Z hL fun e f b d _=>A7 1 Z<|Aj<|Ai (Ae Z Aj7 Z Si.e)<|Ai (Ag 0 Z b Z)<|Ai (Bk c)<|Ai (AcX Z Z)<|A7 1 Z<|Ay ?_
 cases h
 refine Al Z ⟨b.ext,Z⟩
def Eg(a0:((List Int))×(List Int)×(List Int)):Option Int:=
 Qq4 (Dw a0.1) (fun a=>AN (Bz (a - 1)) (some ((a - 1))))
theorem GK(a0:((List Int))×(List Int)×(List Int)){a b c:Value}(e:AJ (.int .i64) H a (a0.1))(_h0_1:AJ (.int .i64) H b (a0.2.1))(_h0_2:AJ (.int .i64) H c (a0.2.2)){r:Int}(h:Eg a0=some r):
  Qqv 59 [.agg #[a,b,c]] w (fun v w'=>v=No r):=by
 refine Az 7 [(0,.agg #[a,b,c])] func59 Z fun hL=>Aj<|C9 (t:=98) Z Z hL fun m o d j _=>A7 1 Z<|Aj<|Ai (Ae Z Aj8 Z ZW.e)<|Ai (K8 0 1 Z ZW.e d Z Z)<|Aw h fun p f h=>AE d (Kx (a0:=a0.1) _ _ (An d) (e.mono  Ah) f) fun q l g k=>A1 h fun i h=>Ai (A6 i)<|A7 1 Z<|Ay ?_
 cases h
 refine Al Z ⟨g.ext,Z⟩
def BR(a0:(List Int))(a1 a3 b a c d:Int):Option ((Int×Int×Int×Int) ⊕ (Int×Int)):=
 if(a0.getD a.toNat Qq2=a1)/\(a<a3) then AN (Bz (b+1)) (AN (Bz (a+1)) (some (Sum.inl (c,d,(b+1),(a+1))))) else AN (Bz (a+1)) (some (Sum.inl (c,d,b,(a+1))))
def Es(a b c:Int):Option (Int×Int):=
 AN (Bz (a+b)) (AN (Bz (a+c)) (some ((a+b),(a+c))))
def Cu(a0:(List Int))(a1 a2 a3:Int):Int×Int×Int×Int->Option ((Int×Int×Int×Int) ⊕ (Int×Int)):=fun⟨b,c,d,a⟩=>
 if a<(a0.length:Int) then AN (0<=a/\a<(a0.length:Int)) (if a0.getD a.toNat Qq2=(-1) then(BR a0 a1 a3 d a) b c else(if a0.getD a.toNat Qq2<a1 then AN (Bz (b+1)) ((BR a0 a1 a3 d a) (b+1) c) else(if(a0.getD a.toNat Qq2=a1)/\(a<a2) then AN (Bz (c+1)) ((BR a0 a1 a3 d a) b (c+1)) else(BR a0 a1 a3 d a) b c))) else Qq7 Sum.inr (Es b c d)
def Ij(a0:(List Int))(a1 a2 a3:Int)(s:Int×Int×Int×Int):Option (Int×Int):=Go.L.run (Cu a0 a1 a2 a3) s
def F0(a0:(List Int))(a1 a2 a3:Int):Option (Int×Int):=
 (Ij a0 a1 a2 a3) (1,0,0,0)
theorem Ob{a0:(List Int)}{a1 a2 a3:Int}{g:Value}(q:AJ (.int .i64) H g a0){r:Int×Int}(h:F0 a0 a1 a2 a3=some r):
  Qqv 255 [.agg #[g],No a1,No a2,No a3] w (fun v w'=>v=.tuple #[No r.1,No r.2]):=by
 refine Az 60 [(0,.agg #[g]),(1,No a1),(2,No a2),(3,No a3)] func255 Z fun hL=>Aj<|C9 (t:=96) Z Z hL fun w1 b1 ah ao _=>A7 2 Z<|AI 3 Z<|By (Int×Int×Int) (fun⟨i,j,k⟩=>[(10,No i),(11,No j),(12,No k)]) (fun⟨i,j,k⟩ wr=>Bb w [.box b1 [g] 96] wr/\Es i j k=some r) ?_ ?_
 ·refine Aj<|Ai (Ae Z Aj7 Z Si.e)<|Ai (Ag 0 Z ah Z)<|Ai (Bk q)<|A7 1 Z<|A3 ?_;obtain⟨o,h⟩:=Ba h;refine B5 (Int×Int×Int×Int×Nat) (fun⟨b,c,d,a,n⟩=>[(1,No a1),(2,No a2),(3,No a3),(10,No b),(11,No c),(12,No d),(16,g),(17,No (a0.length:Int)),(18,No a)]) (fun⟨b,c,d,a,n⟩ wr=>Bb w [.box b1 [g] 96] wr/\H8 (Cu a0 a1 a2 a3) n (b,c,d,a)=some r) (fun⟨b,c,d,a,n⟩=>n) (1,0,0,0,o) Z ⟨ah,h⟩ ?_;rintro⟨b,c,d,a,nn94⟩ ap ⟨l,h⟩;obtain⟨o,am,rfl,h,m⟩:=AY h;refine AI 1 Z<|AB<|AO h ?_ ?_<;>intro aj h
  ·refine Av<|Ar<|AB<|A3<|Bt 1 Z<|A1 h fun s h=>Be q a.toNat (G1 s) (AX s) ?_;rintro ar _ rfl ak;refine Ai (Bl ak (hH.trans l.arg))<|A7 2 Z<|By (Int×Int) (fun⟨e,f⟩=>[(1,No a1),(2,No a2),(3,No a3),(10,No e),(11,No f),(12,No d),(13,No a),(14,No (a0.getD a.toNat Qq2)),(16,g),(17,No (a0.length:Int)),(18,No a)]) (fun⟨e,f⟩ wr=>Bb w [.box b1 [g] 96] wr/\(BR a0 a1 a3 d a) e f=some am) ?_ ?_
   ·refine A3<|AI 3 Z<|AO h ?_ ?_<;>intro u h
    ·refine Av<|A2<|AA (_,_) ⟨l,h⟩
    refine AI 4 Z<|AO h ?_ ?_<;>intro x h
    ·refine As<|Aq 1 Z<|A1 h fun y h=>Ai (A6 y)<|Aq 1 Z<|AL<|A2<|AA (_,_) ⟨l,h⟩
    refine Bt 4 Z<|OG 3 3 Z Z Z Z Z Z<|A7 1 Z<|AO h ?_ ?_<;>intro z h
    ·refine As<|Aq 1 Z<|A1 h fun aa h=>Ai (A6 aa)<|Aq 1 Z<|AL<|A2<|AA (_,_) ⟨l,h⟩
    refine Av<|A2<|AA (_,_) ⟨l,h⟩
   rintro⟨e,f⟩ an ⟨p,h⟩;refine Bt 4 Z<|OG 3 3 Z Z Z Z Z Z<|Ac<|AO h ?_ ?_<;>intro ab h
   ·refine As<|Aq 1 Z<|A1 h fun ac h=>Ai (A6 ac)<|Aq 1 Z<|AL<|A2<|Ar<|As<|A1 h fun ad h=>Ai (A6 ad)<|Aq 1 Z<|AL ?_;have h:=Ce.again h m;refine AM (_,_,_,_,_) Z ⟨p,h⟩
   refine Av<|A2<|Ar<|As<|A1 h fun ae h=>Ai (A6 ae)<|Aq 1 Z<|AL ?_;have h:=Ce.again h m;refine AM (_,_,_,_,_) Z ⟨p,h⟩
  refine B2<|AD<|A5 ?_;have h:=Ce.out h m;refine Bf<|AA (_,_,_) ⟨l,h⟩
 rintro⟨i,j,k⟩ aq ⟨al,h⟩;refine Bt 2 Z<|A1 h fun af h=>Ai (A6 af)<|Aq 2 Z<|A1 h fun ag h=>Ai (A6 ag)<|A7 2 Z<|Ay ?_
 cases h
 refine Al Z ⟨al.ext,Z⟩
def E4(a b:Int):Option (Int×Int×(Int×Int)):=
 some (a,(max a b),(0,0))
def BV(a0:((List Int))×(List Int)×(List Int))(a1:AcC):Int×Int×Int->Option ((Int×Int×Int) ⊕ (Int×Int×(Int×Int))):=fun⟨b,c,a⟩=>
 if(0<=a)/\(b<c) then AN (0<=a/\a<(a1.length:Int)) (Qq4 (F0 a0.1 ((a1.getD a.toNat Qq2).toNat:Int) b c) (fun d=>AN (Bz (a - 1)) (some (Sum.inl (d.1,d.2,(a - 1)))))) else Qq7 Sum.inr (E4 b c)
def FY(a0:((List Int))×(List Int)×(List Int))(a1:AcC)(s:Int×Int×Int):Option (Int×Int×(Int×Int)):=Go.L.run (BV a0 a1) s
def EO(a0:((List Int))×(List Int)×(List Int))(a1:AcC):Option (Int×Int×(Int×Int)):=
 if(a1.length:Int)=0 then Qq4 (KL (10:Int) (-1:Int)) (fun b=>some (0,0,(b.1,b.2))) else(if 64<(a1.length:Int) then Qq4 (KL (3:Int) (-1:Int)) (fun a=>some (0,0,(a.1,a.2))) else Qq4 (Dw a0.1) (fun c=>AN (Bz ((a1.length:Int) - 1)) ((FY a0 a1) (0,c,((a1.length:Int) - 1)))))
theorem PZ{a0:((List Int))×(List Int)×(List Int)}{a1:AcC}{f g j l:Value}(p:AJ (.int .i64) H f (a0.1))(_h0_1:AJ (.int .i64) H g (a0.2.1))(_h0_2:AJ (.int .i64) H j (a0.2.2))(m:AJ .byte H l a1){r:Int×Int×(Int×Int)}(h:EO a0 a1=some r):
  Qqv 198 [.agg #[f,g,j],l] w (fun v w'=>v=.tuple #[No r.1,No r.2.1,.agg #[No r.2.2.1,No r.2.2.2]]):=by
 refine Az 51 [(0,.agg #[f,g,j]),(1,l)] func198 Z fun hL=>Aj<|C9 (t:=98) Z Z hL fun w1 b1 ax ba _=>Aq 2 Z<|A9 AF.e Z ax fun w2 b2 k bb _=>Ac<|AB<|Bt 1 Z<|Ai (Bk m)<|A7 1 Z<|AO h ?_ ?_<;>intro ay h
 ·refine Aj<|Aw h fun x5 az h=>AE k (OX _ _ (An k) az) fun w6 bi a2 bc=>Aq 2 Z<|Af 0 Z a2 Z fun w7 ad bd=>Ac<|Ay<|Ao ?_
  cases h
  refine Xt (.tmp Z) (.tmp Z) (.cell Z Aje Z AF.e (AH (i:=0) ad Z)) ⟨ad.ext,Z⟩
 refine Av<|Ar<|AB<|Bt 1 Z<|Ai (Bk m)<|A7 1 Z<|AO h ?_ ?_<;>intro a3 h
 ·refine Aj<|Aw h fun bj ah h=>AE k (OX _ _ (An k) ah) fun bk be ai a6=>Aq 2 Z<|Af 0 Z ai Z fun bl s a7=>Ac<|Ay<|Ao ?_
  cases h
  refine Xt (.tmp Z) (.tmp Z) (.cell Z Aje Z AF.e (AH (i:=0) s Z)) ⟨s.ext,Z⟩
 refine Av<|Ar<|Aj<|Ai (Ae Z Aj8 Z ZW.e)<|Ai (K8 1 1 Z ZW.e k Z Z)<|Aw h fun a4 aj h=>AE k (Kx (a0:=a0.1) _ _ (An k) (p.mono  Ah) aj) fun bm bf ak a8=>A7 2 Z<|By (Int×Int) (fun⟨d,e⟩=>[(6,(Acy b2)),(7,No d),(8,No e)]) (fun⟨d,e⟩ wr=>Bb w [.box b2 [No 0,No 0] 28,.box b1 [f,g,j] 98] wr/\E4 d e=some r) ?_ ?_
 ·refine Bt 1 Z<|Ai (Bk m)<|A1 h fun al h=>Ai (A6 al)<|A7 1 Z<|A3 ?_;obtain⟨u,h⟩:=Ba h;refine B5 (Int×Int×Int×Nat) (fun⟨b,c,a,n⟩=>[(1,l),(2,(Acy b1)),(6,(Acy b2)),(7,No b),(8,No c),(9,No a)]) (fun⟨b,c,a,n⟩ wr=>Bb w [.box b2 [No 0,No 0] 28,.box b1 [f,g,j] 98] wr/\H8 (BV a0 a1) n (b,c,a)=some r) (fun⟨b,c,a,n⟩=>n) (0,a4,((a1.length:Int) - 1),u) Z ⟨ak,h⟩ ?_;rintro⟨b,c,a,nn69⟩ bg ⟨x,h⟩;obtain⟨u,bn,rfl,h,y⟩:=AY h;refine AB<|Bt 3 Z<|OG 3 2 Z Z Z Z Z Z<|Ac<|AO h ?_ ?_<;>intro am h
  ·refine Av<|Ar<|AB<|A3<|Qk (Qqz 0 15 (.tail 15)) mixed Qqb (fun a5 an=>?_);have o:=x.call an;refine CD Z (Ae Z Aj8 Z ZW.e) Z<|CD Z (K8 1 1 Z ZW.e o Z Z) Z<|D0 2 Z<|A1 h fun z h=>HR Z Z Z Afr m a.toNat (G1 z) (AX z) Z ?_;rintro bo _ rfl ao;refine CD Z (Bl ao (hH.trans o.arg)) Z<|CD Z (KY (QR _)) Z<|D0 2 Z<|Aw h fun ae ap h=>?_;have ac:=(fun(af:World) (aq:Ext a5 af)=>Ob af _ (Le.refl _) ((p.mono (hH.trans o.arg)).mono aq.le) ap);refine JI Z Z Z ac<|D0 5 Z<|BU (fun bp ar=>?_);have au:=o.call ar;refine AL<|A2<|Ar<|As<|Aq 1 Z<|A1 h fun av h=>Ai (A6 av)<|Aq 1 Z<|AL ?_;have h:=Ce.again h y;refine AM (_,_,_,_) Z ⟨au,h⟩
  refine B2<|AD<|A5 ?_;have h:=Ce.out h y;refine Bf<|AA (_,_) ⟨x,h⟩
 rintro⟨d,e⟩ bh ⟨aw,h⟩;refine Bt 3 Z<|Ai (AcX Z Z)<|Ai (AT (fun _=>BM _))<|Aq 2 Z<|Af 0 Z aw Z fun bq aa a9=>Ac<|Ay ?_
 cases h
 refine Xt (.tmp Z) (.tmp Z) (.cell Z Aje Z AF.e (AH (i:=0) aa Z)) ⟨aa.ext,Z⟩
def DB(a0:((List Int))×(List Int)×(List Int))(a1:AcC):Option AjP:=
 Qq4 (EO (a0.1,a0.2.1,a0.2.2) a1) (fun a=>AN (Bz (a.2.1 - a.1)) (some ((a.2.1 - a.1),(a.2.2.1,a.2.2.2))))
theorem P6{a0:((List Int))×(List Int)×(List Int)}{a1:AcC}{a b c d:Value}(j:AJ (.int .i64) H a (a0.1))(k:AJ (.int .i64) H b (a0.2.1))(l:AJ (.int .i64) H c (a0.2.2))(m:AJ .byte H d a1){r:Int×(Int×Int)}(h:DB a0 a1=some r):
  Qqv 148 [.agg #[a,b,c],d] w (fun v w'=>v=.tuple #[No r.1,.agg #[No r.2.1,No r.2.2]]):=by
 refine Az 20 [(0,.agg #[a,b,c]),(1,d)] func148 Z fun hL=>Aj<|C9 (t:=98) Z Z hL fun w1 b1 s ad _=>Aq 1 Z<|A9 AF.e Z s fun w2 b2 e ae _=>Ac<|Aj<|Ai (A4 1 Z Gv.e e Z)<|Aq 1 Z<|Aw h fun x3 u h=>AE e (PZ (a0:=(a0.1,a0.2.1,a0.2.2)) _ _ (An e) (j.mono  Ah) (k.mono  Ah) (l.mono  Ah) (m.mono  Ah) u) fun w4 ai x af=>Aq 4 Z<|A9 AF.e Z x fun w5 b5 y ag _=>Aq 2 Z<|Af 0 Z y Z fun w6 z ah=>Ac<|Eu (Qqz 0 5 (.tail 5)) mixed Qqb (fun w7 aa=>?_);have g:=z.call aa;refine D0 2 Z<|A1 h fun ab h=>CD Z (A6 ab) Z<|CD Z (A4 0 Z AF.e g Z) Z<|D0 1 Z<|BU (fun aj o=>?_);have p:=g.call o;refine Af 1 Z p Z fun ak f ac=>Ac<|Ay ?_
 cases h
 refine Bu (.tmp Z) (.cell Z Aje Z AF.e (AH (i:=1) f Z)) ⟨f.ext,Z⟩
def HZ(a:AcC):Option AcC:=
 some a
def Hp(a0:((List Int))×(List Int)×(List Int)):AcC×Int×Int->Option ((AcC×Int×Int) ⊕ (AcC)):=fun⟨c,a,b⟩=>
 if 0<=b then AN (0<=a/\a<(a0.1.length:Int)) (AN (0<=b/\b<(c.length:Int)) (AN (0<=a/\a<(a0.2.1.length:Int)) (AN (Bz (b - 1)) (some (Sum.inl ((c.set b.toNat (Go.L.u8 (a0.1.getD a.toNat Qq2))),a0.2.1.getD a.toNat Qq2,(b - 1))))))) else Qq7 Sum.inr (HZ c)
def JB(a0:((List Int))×(List Int)×(List Int))(s:AcC×Int×Int):Option AcC:=Go.L.run (Hp a0) s
def Jo(a0:((List Int))×(List Int)×(List Int)):Option AcC:=
 Qq4 (Eg (a0.1,a0.2.1,a0.2.2)) (fun a=>AN (0<=a/\((1:Nat):Int) * a<=281474976710656/\a<=9223372036854775807) (AN (Bz (((Qzz a.toNat (0:UInt8)).length:Int) - 1)) ((JB a0) ((Qzz a.toNat (0:UInt8)),0,(((Qzz a.toNat (0:UInt8)).length:Int) - 1)))))
theorem Qa{a0:((List Int))×(List Int)×(List Int)}{f g k:Value}(s:AJ (.int .i64) H f (a0.1))(u:AJ (.int .i64) H g (a0.2.1))(ah:AJ (.int .i64) H k (a0.2.2)){r:AcC}(h:Jo a0=some r):
  Qqv 100 [.agg #[f,g,k]] w (fun v w'=>∃ u0,v=u0/\Ci 5 .byte H w w' u0 r):=by
 refine Az 32 [(0,.agg #[f,g,k])] func100 Z fun hL=>Aj<|C9 (t:=98) Z Z hL fun w1 b1 x a2 _=>A7 1 Z<|Aj<|Ai (A4 0 Z Gv.e x Z)<|Aw h fun x2 av h=>AE x (GK _ _ (An x) (a0.1,a0.2.1,a0.2.2) (s.mono  Ah) (u.mono  Ah) (ah.mono  Ah) av) fun w3 a7 aw a3=>A1 h fun ax h=>Xv (r:=.byte) (z:=(0:UInt8)) Afr (fun _=>Z) hH aw ax fun v4 w4 ay ag a4 az=>A7 1 Z<|AI 1 Z<|By (AcC×(List Value)) (fun⟨m,e⟩=>[(3,v4)]) (fun⟨m,e⟩ wr=>FI w [.row v4 5 1 (m).length e,.box b1 [f,g,k] 98] wr fun Oz=>AG .byte (gz H w wr Oz) m e/\HZ m=some r) ?_ ?_
 ·refine Bt 1 Z<|Ai (Qm 0 Z ag Z)<|A1 h fun aj h=>Ai (A6 aj)<|A7 1 Z<|A3 ?_;obtain⟨y,h⟩:=Ba h;refine B5 (AcC×Int×Int×(List Value)×Nat) (fun⟨d,a,b,c,n⟩=>[(1,(Acy b1)),(3,v4),(4,No a),(5,No b)]) (fun⟨d,a,b,c,n⟩ wr=>FI w [.row v4 5 1 (d).length c,.box b1 [f,g,k] 98] wr fun Oz=>AG .byte (gz H w wr Oz) d c/\H8 (Hp a0) n (d,a,b)=some r) (fun⟨d,a,b,c,n⟩=>n) ((Qzz x2.toNat (0:UInt8)),0,(((Qzz x2.toNat (0:UInt8)).length:Int) - 1),ay,y) Z ⟨ag,az,h⟩ ?_;rintro⟨d,a,b,c,nn54⟩ a5 ⟨l,q,h⟩;obtain⟨y,a8,rfl,h,aa⟩:=AY h;refine AB<|AI 2 Z<|AO h ?_ ?_<;>intro ak h
  ·refine Av<|Ar<|AB<|A3<|Bt 2 Z<|Ai (Ae Z Aj8 Z ZW.e)<|Ai (Ae Z Aj7 Z Si.e)<|Ai (Ag 1 Z l Z)<|Aq 1 Z<|A1 h fun ab h=>Be s a.toNat (G1 ab) (AX ab) ?_;rintro a9 _ rfl al;refine Ai (Bl al (hH.trans l.arg))<|Ai (KY (NC _))<|A1 h fun o h=>K6 0 Z Afr QW.e l Z b.toNat (G1 o) (AX o) fun ba am=>K7 0 b.toNat ((Go.L.u8 (a0.1.getD a.toNat Qq2))) Z Z hH l Z q am (AX o) Z fun bb an p a1 ao=>Ac<|As<|Ai (Ae Z Aj8 Z Si.e)<|Ai (Ag 1 Z p Z)<|Aq 1 Z<|A1 h fun ac h=>Be u a.toNat (G1 ac) (AX ac) ?_;rintro bc _ rfl ap;refine Ai (Bl ap (hH.trans p.arg))<|Aq 1 Z<|AL<|A2<|Ar<|As<|Aq 1 Z<|A1 h fun aq h=>Ai (A6 aq) ?_
   refine Aq 1 Z<|AL ?_;have h:=Ce.again h aa;refine AM (_,_,_,_,_) Z ⟨p,ao,h⟩
  refine B2<|AD<|A5 ?_;have h:=Ce.out h aa;refine Bf<|AA (_,_) ⟨l,q,h⟩
 rintro⟨m,e⟩ a6 ⟨ad,af,h⟩;refine AI 2 Z<|Ay ?_
 cases h
 refine Al Z ⟨ad.ext,_,Z,(ad.Ii hH (i:=0) Z af)⟩
def F1(a:Int)(c:List Int)(b:Int):Option (AjT ⊕ (AjK×Bool)):=
 AN (Bz (a+1)) (some (Sum.inl (c,b,(a+1))))
def Dg(a0:List Int)(c:Int):(List Int)×Int×Int->Option (AjT ⊕ (AjT ⊕ (AjK×Bool))):=fun⟨d,b,a⟩=>
 if a<(a0.length:Int) then AN (0<=a/\a<(a0.length:Int)) (if a0.getD a.toNat Qq2=c then AN (0<=a/\a<(d.length:Int)) (AN (Bz (b+1)) (AN (Bz (a+1)) (some (Sum.inl ((d.set a.toNat b),(b+1),(a+1)))))) else AN (Bz (a+1)) (some (Sum.inl (d,b,(a+1))))) else Qq7 Sum.inr ((F1 c) d b)
def Hq(a0:List Int)(a:Int)(s:(List Int)×Int×Int):Option (AjT ⊕ (AjK×Bool)):=Go.L.run (Dg a0 a) s
def F2(c:List Int)(d:List Int)(a:Int)(e:List Int)(b:Bool):Option (AjK×Bool):=
 some ((e,c,(d.set a.toNat (0:Int))),b)
def F3(a0:List Int)(d:List Int)(c:List Int)(b:List Int)(a:Int):Option (AjK×Bool):=
 AN (0<=a/\a<(b.length:Int)) (AN (0<=a/\a<(a0.length:Int)) ((F2 c b a) d (decide (a0.getD a.toNat Qq2=(-1)))))
def C2(a0:List Int)(e:List Int)(c:List Int):(List Int)×Int×Int->Option (AjT ⊕ (AjK×Bool)):=fun⟨d,a,b⟩=>
 if 0<b then AN (0<=a/\a<(d.length:Int)) (AN (0<=a/\a<(a0.length:Int)) (if a0.getD a.toNat Qq2=(-1) then Qq7 Sum.inr (some (([],[],[]),false)) else AN (0<=a/\a<(c.length:Int)) (AN (Bz (b - 1)) (some (Sum.inl ((d.set a.toNat b),c.getD a.toNat Qq2,(b - 1))))))) else Qq7 Sum.inr ((F3 a0 e c) d a)
def F4(a0:List Int)(b:List Int)(a:List Int)(s:(List Int)×Int×Int):Option (AjK×Bool):=Go.L.run (C2 a0 b a) s
def F5(a0:List Int)(b:List Int)(c:List Int)(a:List Int):Option (AjK×Bool):=
 (F4 a0 b a) (c,0,((a0.length:Int) - 1))
def Dh(a0:List Int)(d:List Int)(e:List Int):(List Int)×Int×Int->Option (AjT ⊕ (AjK×Bool)):=fun⟨b,c,a⟩=>
 if a<256 then(Hq a0 a) (b,c,0) else Qq7 Sum.inr ((F5 a0 d e) b)
def Jp(a0:List Int)(a:List Int)(b:List Int)(s:(List Int)×Int×Int):Option (AjK×Bool):=Go.L.run (Dh a0 a b) s
def F6(a0:List Int)(a:List Int)(b:List Int)(c:List Int):Option (AjK×Bool):=
 (Jp a0 a c) (b,1,0)
def Ex(a0:List Int):Option (AjK×Bool):=
 AN (Bz ((a0.length:Int) - 1)) (AN (Bz (((a0.length:Int) - 1)+1)) (AN (Bz (((a0.length:Int) - 1)+1)) (AN (0<=(((a0.length:Int) - 1)+1)/\((8:Nat):Int) * (((a0.length:Int) - 1)+1)<=281474976710656/\(((a0.length:Int) - 1)+1)<=9223372036854775807) (AN (0<=(((a0.length:Int) - 1)+1)/\((8:Nat):Int) * (((a0.length:Int) - 1)+1)<=281474976710656/\(((a0.length:Int) - 1)+1)<=9223372036854775807) ((F6 a0) a0 (Qzz (((a0.length:Int) - 1)+1).toNat (0:Int)) (Qzz (((a0.length:Int) - 1)+1).toNat (0:Int)))))))
theorem P7{a0:List Int}{c:Value}(m:AJ (.int .i64) H c a0){r:AjK×Bool}(h:Ex a0=some r):
  Qqv 76 [c] w (fun v w'=>∃ u0 u1 u2,v=.tuple #[.agg #[u0,u1,u2],.bool r.2]/\AJ (.int .i64) (un H (nw w w')) u0 (r.1.1)/\Ci 3 (.int .i64) H w w' u1 (r.1.2.1)/\Ci 3 (.int .i64) H w w' u2 (r.1.2.2)):=by
 refine Az 77 [(0,c)] func76 Z fun hL=>Aj<|A9 Gv.e Z hL fun w1 b1 ga gw _=>A7 1 Z<|Bt 1 Z<|Ai (Bk m)<|A1 h fun gb h=>Ai (A6 gb)<|A7 1 Z<|By ((List Int)×(List Int)×(List Int)×Nat×Value×Value×(List Value)×Value×(List Value)) (fun⟨ab,bf,ac,bjb43,d,e,ay,f,p⟩=>[(0,c),(2,(Acy b1)),(4,No ((a0.length:Int) - 1)),(5,(Acy bjb43))]) (fun⟨ab,bf,ac,bjb43,d,e,ay,f,p⟩ wr=>FI w [.box bjb43 [d,e,f] 98,.row f 3 1 (ac).length p,.row e 3 1 (bf).length ay,.box b1 [AaB,AaB,AaB] 98] wr fun Oz=>AJ (.int .i64) (gz H w wr Oz) d ab/\AG (.int .i64) (gz H w wr Oz) ac p/\AG (.int .i64) (gz H w wr Oz) bf ay/\(F6 a0) ab bf ac=some r) ?_ ?_
 ·refine Qk (Qqz 0 4 (.q 5 (.q 6 (.h3 4 (.h2 7 (.q 8 (.h 9 (.tail 10))) 9 (.h 7 (.q 8 (.tail 10)))) 7 (.h2 4 (.q 8 (.h 9 (.tail 10))) 9 (.h 4 (.q 8 (.tail 10)))) 9 (.h2 4 (.h 7 (.q 8 (.tail 10))) 7 (.h 4 (.q 8 (.tail 10)))))))) mixed Qqb (fun hh fx=>?_);have b5:=ga.call fx;refine D0 1 Z<|CD Z (AT (fun _=>AfT _ m.one _)) Z<|D0 1 Z<|A1 h fun fy h=>CD Z (A6 fy) Z<|D0 1 Z<|A1 h fun fz h=>CD Z (A6 fz) Z<|Ajh ?_ ?_ ?_
  ·refine A1 h fun ax h=>ME 0 (r:=(.int .i64)) Z Z Z Z Ahx (fun _=>Z) Z hH b5 ax fun cq hi b6 dm gk a7=>Yz ?_ ?_
   ·refine A1 h fun ao h=>ME 0 (r:=(.int .i64)) Z Z Z Z Ahx (fun _=>Z) Z hH dm ao fun gc hj f0 b7 ew b8=>CD Z (AT (fun _=>Lo _ _ (row_one (b7.at (i:=1) Z)) _ (row_one (b7.at (i:=0) Z)) _)) Z<|Pp Z Gv.e Z Z b7 fun hk gd dn cr=>BU (fun hl dp=>?_);have b9:=dn.call dp;have cs:=AR dn dp;refine Af 0 Z b9 Z (a:=(Bn m.one (Bn (row_one (b9.at (i:=2) Z)) (Bn (row_one (b9.at (i:=1) Z)) Ky)))) fun hm f1 ct=>AL ?_;have a7:=a7.mono (Aa (ew.trans (cr.trans (cs.trans ct))));have b8:=b8.mono (Aa (cr.trans (cs.trans ct)));refine AA (a0,(Qzz (((a0.length:Int) - 1)+1).toNat (0:Int)),(Qzz (((a0.length:Int) - 1)+1).toNat (0:Int)),gd,c,cq,b6,gc,f0) ⟨f1,(m.mono  Ah),b8,a7,h⟩
   refine A1 h fun ao h=>Pp Z Gv.e Z Z dm fun hn fu f2 ex=>ME 0 (r:=(.int .i64)) Z Z Z Z Ahx (fun _=>Z) Z hH f2 ao fun dq ho dr bj ey ca=>CD Z (AT (fun _=>Lo _ _ (row_one (bj.at (i:=2) Z)) _ (row_one (bj.at (i:=0) Z)) _)) Z<|BU (fun hq ds=>?_);have cb:=bj.call ds;have cu:=AR bj ds;refine Af 1 Z cb Z (a:=(Bn m.one (Bn (row_one (cb.at (i:=2) Z)) (Bn (row_one (cb.at (i:=0) Z)) Ky)))) fun ge dt cv=>AL ?_;have du:Bb w [.box fu [c,cq,dq] 98,.row dq 3 1 ((Qzz (((a0.length:Int) - 1)+1).toNat (0:Int))).length dr,.row cq 3 1 ((Qzz (((a0.length:Int) - 1)+1).toNat (0:Int))).length b6,.box b1 [AaB,AaB,AaB] 98] ge:=dt.Cy [1] Z;have cw:=B0 [1] dt du Z;have a7:=a7.mono (Aa (ex.trans (ey.trans (cu.trans (cv.trans cw)))));have ca:=ca.mono (Aa (cu.trans (cv.trans cw)))
   refine AA (a0,(Qzz (((a0.length:Int) - 1)+1).toNat (0:Int)),(Qzz (((a0.length:Int) - 1)+1).toNat (0:Int)),fu,c,cq,b6,dq,dr) ⟨du,(m.mono  Ah),ca,a7,h⟩
  ·refine A1 h fun ax h=>A1 h fun ao h=>ME 0 (r:=(.int .i64)) Z Z Z Z Ahx (fun _=>Z) Z hH b5 ao fun bg hr bk dv gl a8=>Yz ?_ ?_
   ·refine ME 0 (r:=(.int .i64)) Z Z Z Z Ahx (fun _=>Z) Z hH dv ax fun dw hs dx cc ez cd=>CD Z (AT (fun _=>Lo _ _ (row_one (cc.at (i:=0) Z)) _ (row_one (cc.at (i:=1) Z)) _)) Z<|Pp Z Gv.e Z Z cc fun ht fv dy cx=>BU (fun hu dz=>?_);have ce:=dy.call dz;have cy:=AR dy dz;refine Af 0 Z ce Z (a:=(Bn m.one (Bn (row_one (ce.at (i:=1) Z)) (Bn (row_one (ce.at (i:=2) Z)) Ky)))) fun gf d0 cz=>AL ?_;have d1:Bb w [.box fv [c,dw,bg] 98,.row bg 3 1 ((Qzz (((a0.length:Int) - 1)+1).toNat (0:Int))).length bk,.row dw 3 1 ((Qzz (((a0.length:Int) - 1)+1).toNat (0:Int))).length dx,.box b1 [AaB,AaB,AaB] 98] gf:=d0.Cy [2,1] Z;have c0:=B0 [2,1] d0 d1 Z;have a8:=a8.mono (Aa (ez.trans (cx.trans (cy.trans (cz.trans c0)))));have cd:=cd.mono (Aa (cx.trans (cy.trans (cz.trans c0))));refine AA (a0,(Qzz (((a0.length:Int) - 1)+1).toNat (0:Int)),(Qzz (((a0.length:Int) - 1)+1).toNat (0:Int)),fv,c,dw,dx,bg,bk) ⟨d1,(m.mono  Ah),a8,cd,h⟩
   refine Pp Z Gv.e Z Z dv fun hv fw f3 e0=>ME 0 (r:=(.int .i64)) Z Z Z Z Ahx (fun _=>Z) Z hH f3 ax fun d2 hw d3 bl e1 cf=>CD Z (AT (fun _=>Lo _ _ (row_one (bl.at (i:=0) Z)) _ (row_one (bl.at (i:=2) Z)) _)) Z<|BU (fun hx d4=>?_);have cg:=bl.call d4;have c1:=AR bl d4;refine Af 1 Z cg Z (a:=(Bn m.one (Bn (row_one (cg.at (i:=0) Z)) (Bn (row_one (cg.at (i:=2) Z)) Ky)))) fun gg d5 c2=>AL ?_;have d6:Bb w [.box fw [c,d2,bg] 98,.row bg 3 1 ((Qzz (((a0.length:Int) - 1)+1).toNat (0:Int))).length bk,.row d2 3 1 ((Qzz (((a0.length:Int) - 1)+1).toNat (0:Int))).length d3,.box b1 [AaB,AaB,AaB] 98] gg:=d5.Cy [2,2] Z;have c3:=B0 [2,2] d5 d6 Z;have a8:=a8.mono (Aa (e0.trans (e1.trans (c1.trans (c2.trans c3)))));have cf:=cf.mono (Aa (c1.trans (c2.trans c3)));refine AA (a0,(Qzz (((a0.length:Int) - 1)+1).toNat (0:Int)),(Qzz (((a0.length:Int) - 1)+1).toNat (0:Int)),fw,c,d2,d3,bg,bk) ⟨d6,(m.mono  Ah),a8,cf,h⟩
  refine A1 h fun ax h=>A1 h fun ao h=>Pp Z Gv.e Z Z b5 fun hy c4 d7 gm=>Yz ?_ ?_
  ·refine ME 0 (r:=(.int .i64)) Z Z Z Z Ahx (fun _=>Z) Z hH d7 ax fun d8 hz d9 f4 gn ch=>ME 0 (r:=(.int .i64)) Z Z Z Z Ahx (fun _=>Z) Z hH f4 ao fun ea h0 eb bm e2 ci=>CD Z (AT (fun _=>Lo _ _ (row_one (bm.at (i:=1) Z)) _ (row_one (bm.at (i:=0) Z)) _)) Z<|BU (fun h1 ec=>?_);have cj:=bm.call ec;have c5:=AR bm ec;refine Af 2 Z cj Z (a:=(Bn m.one (Bn (row_one (cj.at (i:=1) Z)) (Bn (row_one (cj.at (i:=0) Z)) Ky)))) fun gh ed c6=>AL ?_;have ee:Bb w [.box c4 [c,d8,ea] 98,.row ea 3 1 ((Qzz (((a0.length:Int) - 1)+1).toNat (0:Int))).length eb,.row d8 3 1 ((Qzz (((a0.length:Int) - 1)+1).toNat (0:Int))).length d9,.box b1 [AaB,AaB,AaB] 98] gh:=ed.Cy [2] Z;have c7:=B0 [2] ed ee Z;have ch:=ch.mono (Aa (e2.trans (c5.trans (c6.trans c7))));have ci:=ci.mono (Aa (c5.trans (c6.trans c7)))
   refine AA (a0,(Qzz (((a0.length:Int) - 1)+1).toNat (0:Int)),(Qzz (((a0.length:Int) - 1)+1).toNat (0:Int)),c4,c,d8,d9,ea,eb) ⟨ee,(m.mono  Ah),ci,ch,h⟩
  refine ME 0 (r:=(.int .i64)) Z Z Z Z Ahx (fun _=>Z) Z hH d7 ao fun ef h4 eg f5 go ck=>ME 0 (r:=(.int .i64)) Z Z Z Z Ahx (fun _=>Z) Z hH f5 ax fun eh h5 ei bn e3 cl=>CD Z (AT (fun _=>Lo _ _ (row_one (bn.at (i:=0) Z)) _ (row_one (bn.at (i:=1) Z)) _)) Z<|BU (fun h6 ej=>?_);have cm:=bn.call ej;have c8:=AR bn ej;refine Af 2 Z cm Z (a:=(Bn m.one (Bn (row_one (cm.at (i:=0) Z)) (Bn (row_one (cm.at (i:=1) Z)) Ky)))) fun gi ek c9=>AL ?_;have el:Bb w [.box c4 [c,eh,ef] 98,.row ef 3 1 ((Qzz (((a0.length:Int) - 1)+1).toNat (0:Int))).length eg,.row eh 3 1 ((Qzz (((a0.length:Int) - 1)+1).toNat (0:Int))).length ei,.box b1 [AaB,AaB,AaB] 98] gi:=ek.Cy [1,2] Z;have da:=B0 [1,2] ek el Z;have ck:=ck.mono (Aa (e3.trans (c8.trans (c9.trans da))));have cl:=cl.mono (Aa (c8.trans (c9.trans da)))
  refine AA (a0,(Qzz (((a0.length:Int) - 1)+1).toNat (0:Int)),(Qzz (((a0.length:Int) - 1)+1).toNat (0:Int)),c4,c,eh,ei,ef,eg) ⟨el,(m.mono  Ah),ck,cl,h⟩
 rintro⟨ab,bf,ac,bjb43,d,e,ay,f,p⟩ gx ⟨em,e4,e5,e6,h⟩;have cn:=em.rG H;refine AI 1 Z<|By ((List Int)×(List Value)) (fun⟨t,o⟩=>[(0,c),(2,(Acy b1)),(4,No ((a0.length:Int) - 1)),(5,(Acy bjb43))]) (fun⟨t,o⟩ wr=>FI w [.box bjb43 [d,e,f] 98,.row f 3 1 (ac).length p,.row e 3 1 (t).length o,.box b1 [AaB,AaB,AaB] 98] wr fun Oz=>AJ (.int .i64) (gz H w wr Oz) d ab/\AG (.int .i64) (gz H w wr Oz) ac p/\AG (.int .i64) (gz H w wr Oz) t o/\(F5 a0 ab ac) t=some r) ?_ ?_
 ·refine AI 1 Z<|A3 ?_;obtain⟨co,h⟩:=Ba h;refine B5 ((List Int)×Int×Int×(List Value)×Nat) (fun⟨ap,aj,k,ag,n⟩=>[(0,c),(2,(Acy b1)),(4,No ((a0.length:Int) - 1)),(5,(Acy bjb43)),(6,No aj),(24,No k)]) (fun⟨ap,aj,k,ag,n⟩ wr=>FI w [.box bjb43 [d,e,f] 98,.row f 3 1 (ac).length p,.row e 3 1 (ap).length ag,.box b1 [AaB,AaB,AaB] 98] wr fun Oz=>AJ (.int .i64) (gz H w wr Oz) d ab/\AG (.int .i64) (gz H w wr Oz) ac p/\AG (.int .i64) (gz H w wr Oz) ap ag/\H8 (Dh a0 ab ac) n (ap,aj,k)=some r) (fun⟨ap,aj,k,ag,n⟩=>n) (bf,1,0,ay,co) Z ⟨em,(e4.mono cn),(e5.mono cn),(e6.mono cn),h⟩ ?_;rintro⟨ap,aj,k,ag,nn237⟩ gp ⟨bo,bh,he237_j47,b2,h⟩;obtain⟨co,en,rfl,h,db⟩:=AY h;have av:=bo.rG H;refine AI 1 Z<|AB<|AO h ?_ ?_<;>intro e7 h
  ·refine Av<|Ar<|By ((List Int)×Int×(List Value)) (fun⟨a9,aq,ar⟩=>[(0,c),(2,(Acy b1)),(4,No ((a0.length:Int) - 1)),(5,(Acy bjb43)),(6,No aq),(24,No k)]) (fun⟨a9,aq,ar⟩ wr=>FI w [.box bjb43 [d,e,f] 98,.row f 3 1 (ac).length p,.row e 3 1 (a9).length ar,.box b1 [AaB,AaB,AaB] 98] wr fun Oz=>AJ (.int .i64) (gz H w wr Oz) d ab/\AG (.int .i64) (gz H w wr Oz) ac p/\AG (.int .i64) (gz H w wr Oz) a9 ar/\(F1 k) a9 aq=some en) ?_ ?_
   ·refine A3<|AI 2 Z<|Bt 1 Z<|Ai (Bk m)<|A7 1 Z<|A3 ?_;obtain⟨bp,h⟩:=Ba h;refine B5 ((List Int)×Int×Int×(List Value)×Nat) (fun⟨al,u,l,ah,n⟩=>[(0,c),(2,(Acy b1)),(4,No ((a0.length:Int) - 1)),(5,(Acy bjb43)),(6,No u),(7,No k),(24,No k),(27,c),(28,No (a0.length:Int)),(29,No l)]) (fun⟨al,u,l,ah,n⟩ wr=>FI w [.box bjb43 [d,e,f] 98,.row f 3 1 (ac).length p,.row e 3 1 (al).length ah,.box b1 [AaB,AaB,AaB] 98] wr fun Oz=>AJ (.int .i64) (gz H w wr Oz) d ab/\AG (.int .i64) (gz H w wr Oz) ac p/\AG (.int .i64) (gz H w wr Oz) al ah/\H8 (Dg a0 k) n (al,u,l)=some en) (fun⟨al,u,l,ah,n⟩=>n) (ap,aj,0,ag,bp) Z ⟨bo,(bh.mono av),(he237_j47.mono av),(b2.mono av),h⟩ ?_;rintro⟨al,u,l,ah,nn299⟩ gq ⟨am,ba,he299_j47,be,h⟩;obtain⟨bp,gy,rfl,h,bq⟩:=AY h;have y:=am.rG H;refine AI 1 Z<|AB<|AO h ?_ ?_<;>intro e8 h
    ·refine Av<|Ar<|AB<|A3<|Bt 1 Z<|A1 h fun dc h=>Be m l.toNat (G1 dc) (AX dc) ?_;rintro g0 _ rfl e9;refine Ai (Bl e9 (hH.trans am.arg))<|A7 2 Z<|AI 3 Z<|AO h ?_ ?_<;>intro fa h
     ·refine Aj<|Ai (Ae Z Aj8 Z Si.e)<|Ai (Ag 0 Z am Z)<|Aq 2 Z<|A1 h fun br h=>K6 2 Z Ahx CO.e am Z l.toNat (G1 br) (AX br) fun g1 fb=>K7 2 l.toNat u Z Z hH am Z (be.mono y) fb (AX br) Z fun g2 fc fd eo fe=>Ac<|As<|Aq 1 Z<|A1 h fun ff h=>Ai (A6 ff)<|Aq 1 Z<|AL<|A2<|Ar<|As<|A1 h fun fg h=>Ai (A6 fg)<|Aq 1 Z<|AL ?_;have h:=Ce.again h bq;have y:=y.trans (Aa eo);refine AM (_,_,_,_,_) Z ⟨fd,(ba.mono y),(he299_j47.mono y),fe,h⟩
     refine Av<|A2<|Ar<|As<|A1 h fun fh h=>Ai (A6 fh)<|Aq 1 Z<|AL ?_;have h:=Ce.again h bq;refine AM (_,_,_,_,_) Z ⟨am,(ba.mono y),(he299_j47.mono y),(be.mono y),h⟩
    refine B2<|AD<|A5 ?_;have h:=Ce.out h bq;refine Bf<|A2<|AA (_,_,_) ⟨am,(ba.mono y),(he299_j47.mono y),(be.mono y),h⟩
   rintro⟨a9,aq,ar⟩ gr ⟨dd,dk,he279_j47,ep,h⟩;have bs:=dd.rG H;refine As<|A1 h fun fi h=>Ai (A6 fi)<|Aq 1 Z<|AL ?_;have h:=Ce.again h db;refine AM (_,_,_,_,_) Z ⟨dd,(dk.mono bs),(he279_j47.mono bs),(ep.mono bs),h⟩
  refine B2<|AD<|A5 ?_;have h:=Ce.out h db;refine Bf<|AA (_,_) ⟨bo,(bh.mono av),(he237_j47.mono av),(b2.mono av),h⟩
 rintro⟨t,o⟩ gs ⟨de,dl,he189_j47,eq,h⟩;have bt:=de.rG H;refine AI 1 Z<|By ((List Int)×Int×(List Value)) (fun⟨an,a,az⟩=>[(0,c),(2,(Acy b1)),(5,(Acy bjb43)),(10,No a)]) (fun⟨an,a,az⟩ wr=>FI w [.box bjb43 [d,e,f] 98,.row f 3 1 (an).length az,.row e 3 1 (t).length o,.box b1 [AaB,AaB,AaB] 98] wr fun Oz=>AJ (.int .i64) (gz H w wr Oz) d ab/\AG (.int .i64) (gz H w wr Oz) an az/\AG (.int .i64) (gz H w wr Oz) t o/\(F3 a0 ab t) an a=some r) ?_ ?_
 ·refine AI 2 Z<|A3 ?_;obtain⟨cp,h⟩:=Ba h;refine B5 ((List Int)×Int×Int×(List Value)×Nat) (fun⟨au,g,x,ak,n⟩=>[(0,c),(2,(Acy b1)),(5,(Acy bjb43)),(10,No g),(11,No x)]) (fun⟨au,g,x,ak,n⟩ wr=>FI w [.box bjb43 [d,e,f] 98,.row f 3 1 (au).length ak,.row e 3 1 (t).length o,.box b1 [AaB,AaB,AaB] 98] wr fun Oz=>AJ (.int .i64) (gz H w wr Oz) d ab/\AG (.int .i64) (gz H w wr Oz) au ak/\AG (.int .i64) (gz H w wr Oz) t o/\H8 (C2 a0 ab t) n (au,g,x)=some r) (fun⟨au,g,x,ak,n⟩=>n) (ac,0,((a0.length:Int) - 1),p,cp) Z ⟨de,(dl.mono bt),(he189_j47.mono bt),(eq.mono bt),h⟩ ?_;rintro⟨au,g,x,ak,nn382⟩ gt ⟨a1,bi,b3,he382_j45,h⟩;obtain⟨cp,g3,rfl,h,bu⟩:=AY h;refine AB ?_;have ad:=a1.rG H;refine AI 2 Z<|AO h ?_ ?_<;>intro fj h
  ·refine Av<|Ar<|AB<|A3<|Aj<|Ai (Ae Z Aj8 Z Si.e)<|Ai (Ag 0 Z a1 Z)<|Aq 2 Z<|A1 h fun bv h=>K6 1 Z Ahx CO.e a1 Z g.toNat (G1 bv) (AX bv) fun g4 fk=>K7 1 g.toNat x Z Z hH a1 Z (b3.mono ad) fk (AX bv) Z fun g5 fl a2 er fm=>Ac<|AB<|Bt 2 Z<|A1 h fun df h=>Be m g.toNat (G1 df) (AX df) ?_;rintro g6 _ rfl fn;refine Ai (Bl fn (hH.trans a2.arg))<|A7 1 Z<|AO h ?_ ?_<;>intro fo h
   ·refine Aj<|Ai (AT (fun _=>Abe _))<|Af 3 Z a2 Z fun g7 dg gj=>A7 1 Z<|Ay<|Ao<|Ax<|Ao<|BN ?_;have h:=Ce.out h bu;refine Ax<|BI ?_
    cases h
    refine Bu (.cell Z Aj8 Z Gv.e (AH (i:=3) dg Z)) (.tmp Z) ⟨dg.ext,_,_,_,Z,(AJ.nil _ _),Ci.nil,Ci.nil⟩
   refine Av<|Ar<|As<|Ai (Ae Z Aj8 Z Si.e)<|Ai (Ag 0 Z a2 Z)<|Aq 1 Z<|A1 h fun dh h=>?_;have ad:=ad.trans (Aa er);refine Be (a2.RG hH (i:=2) Z (he382_j45.mono ad)) g.toNat (G1 dh) (AX dh) ?_;rintro g8 _ rfl fp;refine Ai (Bl fp (Le.refl _))<|Aq 1 Z<|AL<|A2<|Ar<|As<|Aq 1 Z<|A1 h fun fq h=>Ai (A6 fq)<|Aq 1 Z<|AL ?_;have h:=Ce.again h bu;refine AM (_,_,_,_,_) Z ⟨a2,(bi.mono ad),fm,(he382_j45.mono ad),h⟩
  refine B2<|AD<|A5 ?_;have h:=Ce.out h bu;refine Bf<|AA (_,_,_) ⟨a1,(bi.mono ad),(b3.mono ad),(he382_j45.mono ad),h⟩
 rintro⟨an,a,az⟩ gu ⟨bb,af,es,he361_j45,h⟩;have s:=bb.rG H;refine Aj<|Ai (Ae Z Aj8 Z Si.e)<|Ai (Ag 0 Z bb Z)<|Aq 1 Z<|A1 h fun bw h=>K6 1 Z Ahx CO.e bb Z a.toNat (G1 bw) (AX bw) fun g9 fr=>K7 1 a.toNat 0 Z Z hH bb Z (es.mono s) fr (AX bw) Z fun ha bx di b4 aw=>Ac<|By ((List Int)×Bool×Value) (fun⟨bz,a3,bc⟩=>[(2,(Acy b1)),(3,.bool a3)]) (fun⟨bz,a3,bc⟩ wr=>FI w [.box bjb43 [d,e,f] 98,.row f 3 1 ((an.set a.toNat (0:Int))).length bx,.row e 3 1 (t).length o,.box b1 [bc,e,f] 98] wr fun Oz=>AJ (.int .i64) (gz H w wr Oz) d ab/\AG (.int .i64) (gz H w wr Oz) ((an.set a.toNat (0:Int))) bx/\AG (.int .i64) (gz H w wr Oz) t o/\AJ (.int .i64) (gz H w wr Oz) bc bz/\(F2 t an a) bz a3=some r) ?_ ?_
 ·refine Kk (O0 Nq) (fun z0 z=>Le (gz H w z0 [.box bjb43 [d,e,f] 98,.row f 3 1 ((an.set a.toNat (0:Int))).length bx,.row e 3 1 (t).length o,.box b1 [AaB,AaB,AaB] 98]) (hp z)/\z.heap[bjb43]? = some (.cells [d,e,f].toArray 98 (0,0))) mixed Z (fun ae hc dj=>?_);have aa:=di.call dj;have a4:=AR di dj;have b:=aa.rG H;refine Nt ⟨b.trans (An aa),aa.at (i:=0) Z⟩ fun kI426=>A8 0 ae kI426 Z (fun _ hI=>MQ hI.2) Z<|A8 1 ae kI426 Z (fun _ _=>Am Z) Z<|A8 2 ae kI426 Z (fun _ _=>Am Z) Z<|NI2 3 6 Z Z ?_ ?_
  ·refine A1 h fun a5 h=>Be m a.toNat (G1 a5) (AX a5) ?_;rintro hd _ rfl fs;refine AW ⟨b.trans (An aa),aa.at (i:=0) Z⟩ fun kI429=>A8 4 ae kI429 Z (fun _ hI=>Bl (fs.mono  Ah) hI.1) Z<|A8 5 ae kI429 Z (fun _ _=>Am Z) Z<|FR 6 Z ?_;have s:=s.trans (Aa (b4.trans a4));refine Af 3 Z aa Z (a:=(Bn ((af.mono s).mono b).one (Bn (row_one (aa.at (i:=2) Z)) (Bn (row_one (aa.at (i:=1) Z)) Ky)))) ?_;intro he b0 et;have b:=b.trans (Aa et);refine AW ⟨b.trans (An b0),b0.at (i:=0) Z⟩ fun kI431=>A8 7 ae kI431 Z (fun _ _=>Am Z) Z<|EK ?_;have aw:=aw.mono (Aa a4);refine AA (_,_,_) ⟨b0,((af.mono s).mono b),(aw.mono b),((he361_j45.mono s).mono b),((af.mono s).mono b),h⟩
  refine A1 h fun a5 h=>?_;have s:=s.trans (Aa (b4.trans a4));refine Af 3 Z aa Z (a:=(Bn ((af.mono s).mono b).one (Bn (row_one (aa.at (i:=2) Z)) (Bn (row_one (aa.at (i:=1) Z)) Ky)))) ?_;intro hf a6 eu;have b:=b.trans (Aa eu);refine AW ⟨b.trans (An a6),a6.at (i:=0) Z⟩ fun kI433=>FR 3 Z<|Be m a.toNat (G1 a5) (AX a5) ?_;rintro hg _ rfl ft;refine AW ⟨b.trans (An a6),a6.at (i:=0) Z⟩ fun kI435=>A8 4 ae kI435 Z (fun _ hI=>Bl (ft.mono  Ah) hI.1) Z<|A8 5 ae kI435 Z (fun _ _=>Am Z) Z<|A8 7 ae kI435 Z (fun _ _=>Am Z) Z<|EK ?_;have aw:=aw.mono (Aa a4);refine AA (_,_,_) ⟨a6,((af.mono s).mono b),(aw.mono b),((he361_j45.mono s).mono b),((af.mono s).mono b),h⟩
 rintro⟨bz,a3,bc⟩ gv ⟨bd,f6,he421_j47,he421_j45,ev,h⟩;refine Ay ?_
 cases h
 refine Bu (.cell Z Aj8 Z Gv.e (AH (i:=3) bd Z)) (.tmp Z) ⟨bd.ext,_,_,_,Z,(ev.mono  E7),(bd.Ii hH (i:=2) Z he421_j45),(bd.Ii hH (i:=1) Z he421_j47)⟩
def Ia(a0:((List Int))×(List Int)×(List Int))(a1 a2:Int):Option (AcC×(Int×Int)):=
 if a1<0 then none else Qq4 (Eg (a0.1,a0.2.1,a0.2.2)) (fun d=>if d<a1 then none else(if a2<a1 then none else Qq4 (Eg (a0.1,a0.2.1,a0.2.2)) (fun b=>if b<a2 then none else Qq4 (Jo (a0.1,a0.2.1,a0.2.2)) (fun a=>AN (0<=a1/\a1<=a2/\a2<=(a.length:Int)) (Qq4 (Fk ((a.drop a1.toNat).take (a2.toNat - a1.toNat))) (fun c=>some (c,(0,0))))))))
theorem O6{a0:((List Int))×(List Int)×(List Int)}{a1 a2:Int}{d e f:Value}(g:AJ (.int .i64) H d (a0.1))(j:AJ (.int .i64) H e (a0.2.1))(k:AJ (.int .i64) H f (a0.2.2)){r:AcC×(Int×Int)}(h:Ia a0 a1 a2=some r):
  Qqv 60 [.agg #[d,e,f],No a1,No a2] w (fun v w'=>∃ u0,v=.tuple #[u0,.agg #[No r.2.1,No r.2.2]]/\Ci 5 .byte H w w' u0 (r.1)):=by
 refine Az 34 [(0,.agg #[d,e,f]),(1,No a1),(2,No a2)] func60 Z fun hL=>Aj<|C9 (t:=98) Z Z hL fun w1 b1 ak ar _=>Aq 1 Z<|A9 AF.e Z ak fun w2 b2 p au _=>Ac<|AB<|Bt 3 Z<|CE 10 h ?_ ?_<;>intro b h
 ·iterate 4 refine Au b ?_
  refine Ai (AK b Z)<|Ac<|Ff ?_
  cases h
 refine Ab b<|Ai (Am Z)<|Ab b<|Ai (A4 1 Z Gv.e p Z)<|Ab b<|Aw h fun x6 al h=>AE p (GK _ _ (An p) (a0.1,a0.2.1,a0.2.2) (g.mono  Ah) (j.mono  Ah) (k.mono  Ah) al) fun w7 ay q av=>Ab b<|Ai (Am Z)<|Ai (AS b Z)<|Ac<|AO h ?_ ?_<;>intro am h
 ·cases h
 refine Av<|Ar<|AB<|Bt 4 Z<|CE 20 h ?_ ?_<;>intro a h
 ·iterate 4 refine Au a ?_
  refine Ai (AK a Z)<|Ac<|Ff ?_
  cases h
 refine Ab a<|Ai (Am Z)<|Ab a<|Ai (A4 1 Z Gv.e q Z)<|Ab a<|Aw h fun az ab h=>AE q (GK _ _ (An q) (a0.1,a0.2.1,a0.2.2) (g.mono  Ah) (j.mono  Ah) (k.mono  Ah) ab) fun a3 aw c an=>Ab a<|Ai (Am Z)<|Ai (AS a Z)<|Ac<|AO h ?_ ?_<;>intro ac h
 ·cases h
 refine Av<|Ar<|Aj<|Ai (A4 1 Z Gv.e c Z)<|Aw h fun a4 ad h=>Bh c (Qa (a0:=(a0.1,a0.2.1,a0.2.2)) _ _ (An c) (g.mono  Ah) (j.mono  Ah) (k.mono  Ah) ad) ?_;rintro ao a5 ⟨_,rfl,s⟩ ae l ap;have u:=s.Dn hH c ae;refine Aq 2 Z<|A1 h fun af h=>Ada u af fun a6 ag=>Aw h fun a7 ah h=>Bh l (Kw _ _ (An l) ag ah) ?_;rintro aq a8 ⟨_,rfl,x⟩ ai y z;obtain⟨ax,y,z,m⟩:=x.take hH l ai;refine Ai (AT (fun _=>BM _))<|Aq 1 Z<|Af 1 Z y Z fun a9 o aa=>Ac<|Ay ?_
 cases h
 refine Bu (.tmp Z) (.cell Z Aje Z AF.e (AH (i:=1) o Z)) ?_;have m:=m.mono (Aa aa);exact⟨o.ext,_,Z,(o.Ii hH (i:=0) Z m)⟩
def F7(a1:Int):Option ((List Int)):=
 AN (Bz (0 - 0)) (AN (Bz (a1 - (0 - 0))) (if 0<(a1 - (0 - 0)) then AN (0<(a1 - (0 - 0))/\(a1 - (0 - 0)) * 8<=281474976710656) (some (([]:List Int))) else some ([])))
def Hc(_a0:List Int)(a1:Int):Option ((List Int)):=
 if a1<0 then none else(F7 a1)
theorem P8{a0:List Int}{a1:Int}(_:AJ (.int .i64) H AaB a0){r:(List Int)}(h:Hc a0 a1=some r):
  Qqv 124 [AaB,No a1] w (fun v w'=>∃ x,v=x/\Ci 3 (.int .i64) H w w' x r):=by
 refine Az 27 [(0,AaB),(1,No a1)] func124 Z fun hL=>AI 1 Z<|By Unit (fun(_:Unit)=>[(0,AaB),(1,No a1)]) (fun(_:Unit) wr=>Bb w [] wr/\(F7 a1)=some r) ?_ ?_
 ·refine AI 2 Z<|AO h ?_ ?_<;>intro y h
  ·refine As ?_
   cases h
  refine Av<|AA () ⟨hL,h⟩
 rintro _ ac ⟨d,h⟩;refine AB<|Bt 2 Z<|Ai (AaN Z)<|Aq 1 Z<|Ai (UF Z)<|A1 h fun g h=>Ai (A6 g)<|A1 h fun j h=>Ai (A6 j)<|A7 1 Z<|AI 2 Z<|AO h ?_ ?_<;>intro l h
 ·refine As<|Aq 2 Z<|Ai (AaN Z)<|Ai UR<|Aq 1 Z<|A1 h fun ab h=>?_;obtain⟨z,o⟩:=QxK (show 0<=(a1 - (0 - 0)) by omega);refine AaO (k:=.i64) (m:=z) (by rw [<- o];rfl) Ahx U U U fun f a c ad p q s t u=>Aq 1 Z<|Ai (UF Z)<|Ai (Adc Z) ?_;obtain⟨b,aa⟩:=Np (v:=.slice (some ⟨f,0,none⟩) 0 a) (e:=3) (sz:=1) (m:=0) (xs:=[]) d p ⟨Z,.inr ⟨f,a,c,Z,q,s,Qz3 _,t,by rw [u,Nat.mul_one],Z⟩⟩;refine Aq 1 Z<|AL<|Ar<|AI 2 Z<|Ay ?_
  cases h
  refine Al Z ⟨b.ext,_,Z,(b.Ii hH (i:=0) Z .nil)⟩
 refine Av<|Ar<|AI 2 Z<|Ay ?_
 cases h
 refine Al Z ⟨d.ext,_,Z,Ci.nil⟩
def Gx(a:List Int):Option ((List Int)):=
 some a
def B9(a0:List (List Int)):(List Int)×Int->Option (((List Int)×Int) ⊕ ((List Int))):=fun⟨b,a⟩=>
 if a<(a0.length:Int) then AN (0<=a/\a<(a0.length:Int)) (AN (Go.E.H7 8 (b.length+(a0.getD a.toNat Qq2).length)) (AN (Bz (a+1)) (some (Sum.inl ((b++a0.getD a.toNat Qq2),(a+1)))))) else Qq7 Sum.inr (Gx b)
def ED(a0:List (List Int))(s:(List Int)×Int):Option ((List Int)):=Go.L.run (B9 a0) s
def EE(a0:List (List Int))(a:Int):Option ((List Int)):=
 Qq4 (Hc ([]) a) (fun b=>(ED a0) (b,0))
def BA(a0:List (List Int)):Int×Int->Option ((Int×Int) ⊕ ((List Int))):=fun⟨b,a⟩=>
 if a<(a0.length:Int) then AN (0<=a/\a<(a0.length:Int)) (AN (Bz (b+((a0.getD a.toNat Qq2).length:Int))) (if(b+((a0.getD a.toNat Qq2).length:Int))<0 then none else AN (Bz (a+1)) (some (Sum.inl ((b+((a0.getD a.toNat Qq2).length:Int)),(a+1)))))) else Qq7 Sum.inr ((EE a0) b)
def Gy(a0:List (List Int))(s:Int×Int):Option ((List Int)):=Go.L.run (BA a0) s
def E5(a0:List (List Int)):Option ((List Int)):=
 (Gy a0) (0,0)
theorem O7{a0:List (List Int)}{e:Value}(o:AJ (.vec (.int .i64)) H e a0){r:(List Int)}(h:E5 a0=some r):
  Qqv 75 [e] w (fun v w'=>∃ u0,v=u0/\Ci 3 (.int .i64) H w w' u0 r):=by
 refine Az 36 [(0,e)] func75 Z fun hL=>AI 1 Z<|AI 1 Z<|By Int (fun j=>[(0,e),(3,No j)]) (fun j wr=>Bb w [] wr/\(EE a0) j=some r) ?_ ?_
 ·refine Bt 1 Z<|Ai (Bk o)<|A7 1 Z<|A3 ?_;obtain⟨y,h⟩:=Ba h;refine B5 (Int×Int×Nat) (fun⟨c,b,n⟩=>[(0,e),(3,No c),(9,e),(10,No (a0.length:Int)),(11,No b)]) (fun⟨c,b,n⟩ wr=>Bb w [] wr/\H8 (BA a0) n (c,b)=some r) (fun⟨c,b,n⟩=>n) (0,0,y) Z ⟨hL,h⟩ ?_;rintro⟨c,b,nn42⟩ a7 ⟨s,h⟩;obtain⟨y,bb,rfl,h,z⟩:=AY h;refine AI 1 Z<|AB<|AO h ?_ ?_<;>intro al h
  ·refine Av<|Ar<|AB<|A3<|Aj<|A1 h fun aa h=>Be o b.toNat (G1 aa) (AX aa) ?_;rintro bc _ ⟨e46v0,rfl,e46h0⟩ am;refine Ai (Bl am (hH.trans s.arg))<|A7 1 Z<|Bt 2 Z<|Ai (Bk e46h0)<|A1 h fun an h=>Ai (A6 an)<|A7 1 Z<|AI 2 Z<|AO h ?_ ?_<;>intro ao h
   ·refine As ?_
    cases h
   refine Av<|A2<|Ar<|As<|A1 h fun ap h=>Ai (A6 ap)<|Aq 1 Z<|AL ?_;have h:=Ce.again h z;refine AM (_,_,_) Z ⟨s,h⟩
  refine B2<|AD<|A5 ?_;have h:=Ce.out h z;refine Bf<|AA _ ⟨s,h⟩
 rintro j a8 ⟨t,h⟩;refine Bt 1 Z<|Aw h fun a4 aq h=>Bh t (P8 _ _ (An t) (AJ.nil _ _) aq) ?_;rintro ah bd ⟨_,rfl,ab⟩ ar ac ai;obtain⟨au,ac,ai,av⟩:=ab.take hH t ar;refine A7 1 Z<|By ((List Int)×Value×(List Value)) (fun⟨q,p,k⟩=>[(6,p)]) (fun⟨q,p,k⟩ wr=>FI w [.row p 3 1 (q).length k] wr fun Oz=>AG (.int .i64) (gz H w wr Oz) q k/\Gx q=some r) ?_ ?_
 ·refine Bt 1 Z<|Ai (Bk o)<|A7 1 Z<|A3 ?_;obtain⟨ad,h⟩:=Ba h;refine B5 ((List Int)×Int×Value×(List Value)×Nat) (fun⟨f,a,g,d,n⟩=>[(6,g),(25,e),(26,No (a0.length:Int)),(27,No a)]) (fun⟨f,a,g,d,n⟩ wr=>FI w [.row g 3 1 (f).length d] wr fun Oz=>AG (.int .i64) (gz H w wr Oz) f d/\H8 (B9 a0) n (f,a)=some r) (fun⟨f,a,g,d,n⟩=>n) (a4,0,ah,au,ad) Z ⟨ac,av,h⟩ ?_;rintro⟨f,a,g,d,nn92⟩ a9 ⟨u,x,h⟩;obtain⟨ad,be,rfl,h,ae⟩:=AY h;refine AI 1 Z<|AB<|AO h ?_ ?_<;>intro aw h
  ·refine Av<|Ar<|AB<|A3<|Aj<|A1 h fun af h=>Be o a.toNat (G1 af) (AX af) ?_;rintro bf _ ⟨e96v0,rfl,e96h0⟩ ax;refine Ai (Bl ax (hH.trans u.arg))<|A7 1 Z<|As<|Aq 2 Z<|A1 h fun ay h=>Br (r:=(.int .i64)) 0 f (a0.getD a.toNat Qq2) Z Ahx u Z x (e96h0.mono  Ah) ay fun a5 bg az a1 a6 a2=>Aq 1 Z<|AL<|A2<|Ar<|As<|A1 h fun aj h=>Ai (A6 aj)<|Aq 1 Z<|AL ?_;have h:=Ce.again h ae;refine AM (_,_,_,_,_) Z ⟨a1,a2,h⟩
  refine B2<|AD<|A5 ?_;have h:=Ce.out h ae;refine Bf<|AA (_,_,_) ⟨u,x,h⟩
 rintro⟨q,p,k⟩ ba ⟨ag,ak,h⟩;refine AI 2 Z<|Ay ?_
 cases h
 refine Al Z ⟨ag.ext,_,Z,(ag.Ii hH (i:=0) Z ak)⟩
def Kt(a b:Int):Option (AjK×(Int×Int)):=
 some (([],[],[]),(a,b))
def IZ(b:List Int):Option (AjK×(Int×Int)):=
 Qq4 (Ex b) (fun a=>some ((a.1.1,a.1.2.1,a.1.2.2),(0,0)))
def F8(a0:AcC)(b:(List Int)):(List Int)×Int->Option (((List Int)×Int) ⊕ (AjK×(Int×Int))):=fun⟨c,a⟩=>
 if a<(b.length:Int) then AN (0<=a/\a<(b.length:Int)) (if b.getD a.toNat Qq2=0 then AN (Go.E.H7 8 (c.length+([(-1)]).length)) (AN (Bz (a+1)) (some (Sum.inl ((c++[(-1)]),(a+1))))) else AN (Bz (b.getD a.toNat Qq2 - 1)) (AN (0<=(b.getD a.toNat Qq2 - 1)/\(b.getD a.toNat Qq2 - 1)<(a0.length:Int)) (AN (Go.E.H7 8 (c.length+([((a0.getD ((b.getD a.toNat Qq2 - 1).toNat) Qq2).toNat:Int)]).length)) (AN (Bz (a+1)) (some (Sum.inl ((c++[((a0.getD ((b.getD a.toNat Qq2 - 1).toNat) Qq2).toNat:Int)]),(a+1)))))))) else Qq7 Sum.inr (IZ c)
def M7(a0:AcC)(a:(List Int))(s:(List Int)×Int):Option (AjK×(Int×Int)):=Go.L.run (F8 a0 a) s
def J8(a0:AcC):Option (AjK×(Int×Int)):=
 Qq4 (Ks a0) (fun a=>if a.2.1=0/\a.2.2=0 then AN (Bz ((a0.length:Int)+1)) (AN (0<=((a0.length:Int)+1)/\((8:Nat):Int) * ((a0.length:Int)+1)<=281474976710656/\((a0.length:Int)+1)<=9223372036854775807) (Qq4 (E5 ([[(a0.length:Int)],a.1])) (fun b=>(M7 a0 b) (([]:List Int),0)))) else Kt a.2.1 a.2.2)
theorem Tn{a0:AcC}{ac:Value}(ad:AJ .byte H ac a0){r:AjK×(Int×Int)}(h:J8 a0=some r):
  Qqv 45 [ac] w (fun v w'=>∃ u0 u1 u2,v=.tuple #[.agg #[u0,u1,u2],.agg #[No r.2.1,No r.2.2]]/\AJ (.int .i64) (un H (nw w w')) u0 (r.1.1)/\AJ (.int .i64) (un H (nw w w')) u1 (r.1.2.1)/\AJ (.int .i64) (un H (nw w w')) u2 (r.1.2.2)):=by
 refine Az 58 [(0,ac)] func45 Z fun hL=>Aj<|A9 Gv.e Z hL fun w1 b1 cy de _=>A9 AF.e Z cy fun w2 b2 a7 df _=>Ac<|Bt 1 Z<|Aw h fun s cz h=>Bh a7 (Uk _ _ (An a7) (ad.mono  Ah) cz) ?_;rintro _ w4 ⟨dg,rfl,bi⟩ c0 c2 dh;have t:=bi.Dn hH a7 c0;refine Aq 3 Z<|A9 AF.e Z c2 fun w5 b5 c3 cg _=>Aq 1 Z<|Af 0 Z c3 Z fun w6 a9 ch=>Ac<|AB<|Aj<|Ai (A4 0 Z AF.e a9 Z)<|Ai (AT (fun _=>BM _))<|Ai (JJ Jg (MR _ _ _ _))<|Ac<|CN h ?_ ?_<;>intro c4 h
 ·refine By (Int×Int) (fun⟨ax,ay⟩=>[(2,(Acy b1)),(3,(Acy b2))]) (fun⟨ax,ay⟩ wr=>Bb w [.box b5 [No s.2.1,No s.2.2] 28,.box b2 [No ax,No ay] 28,.box b1 [AaB,AaB,AaB] 98] wr/\Kt ax ay=some r) ?_ ?_
  ·refine Kk (O0 (UQ Nq)) (fun z0 z=>Le (gz H w z0 [.box b5 [No s.2.1,No s.2.2] 28,.box b2 [No 0,No 0] 28,.box b1 [AaB,AaB,AaB] 98]) (hp z)/\z.heap[b5]? = some (.cells [No s.2.1,No s.2.2].toArray 28 (0,0))/\z.heap[b2]? = some (.cells [No 0,No 0].toArray 28 (0,0))) mixed Z (fun ba d4 ci=>?_);have x:=a9.call ci;have ae:=x.rG H;refine Nt ⟨ae.trans (An x),x.at (i:=0) Z,x.at (i:=1) Z⟩ fun kI27=>A8 0 ba kI27 Z (fun _ _=>AT (fun _=>Abe _)) Z<|A8 1 ba kI27 Z (fun _ hI=>MQ hI.2.1) Z<|FR 2 Z<|Af 2 Z x Z ?_;intro d5 af bj;have ae:=ae.trans (Aa bj);refine AW ⟨ae.trans (An af),af.at (i:=0) Z,af.at (i:=1) Z⟩ fun kI29=>FR 3 Z<|Af 1 Z af Z fun d6 cj da=>GG<|EK<|AA (_,_) ⟨cj,h⟩
  rintro⟨ax,ay⟩ dj ⟨au,h⟩;refine Ay<|Ao ?_
  cases h
  refine Bu (.cell Z Aj8 Z Gv.e (AH (i:=2) au Z)) (.cell Z Aje Z AF.e (AH (i:=1) au Z)) ⟨au.ext,_,_,_,Z,(AJ.nil _ _),(AJ.nil _ _),(AJ.nil _ _)⟩
 refine Av<|Ar<|Bt 1 Z<|Ai (Bk ad)<|A1 h fun ck h=>Ai (A6 ck)<|A1 h fun cl h=>AfB (H:=H) (r:=(.int .i64)) Ahx CO.e a9 cl fun c5 d7 cm cn bk av=>A7 1 Z<|By ((List Int)×Value×(List Value)) (fun⟨an,ag,u⟩=>[(2,(Acy b1)),(3,(Acy b2)),(6,ag)]) (fun⟨an,ag,u⟩ wr=>FI w [.row ag 3 1 (an).length u,.box b5 [No s.2.1,No s.2.2] 28,.box b2 [No 0,No 0] 28,.box b1 [AaB,AaB,AaB] 98] wr fun Oz=>AG (.int .i64) (gz H w wr Oz) an u/\IZ an=some r) ?_ ?_
 ·refine Bt 1 Z<|Ai (Bk ad)<|B6 [(a0.length:Int)] (r:=(.int .i64)) (fun _=>Jm _ _) cn (.c1 Z .nil) fun d8 d9 dk co az bb=>Aq 1 Z ?_;have t:=t.mono (Aa (cg.trans (ch.trans (bk.trans az))));refine B6 ([[(a0.length:Int)],s.1]) (r:=(.vec (.int .i64))) (fun _=>AdE _ bb.one _ t.one _) (hlen:=(BH 2)) co (.c1 ⟨_,Z,bb⟩ (.c1 ⟨_,Z,t⟩ .nil)) fun ea eb dl aw bl cp=>Aw h fun y cq h=>Bh aw (O7 _ _ (An aw) cp cq) ?_;rintro a1 ec ⟨_,rfl,bc⟩ cr cs bm;have ao:=bc.Dn hH aw cr;refine Ai (Bk ao)<|A7 1 Z<|A3 ?_;obtain⟨ah,h⟩:=Ba h;have av:=av.mono (Aa (az.trans (bl.trans bm)))
  refine B5 ((List Int)×Int×Value×(List Value)×Nat) (fun⟨c,a,o,f,n⟩=>[(0,ac),(2,(Acy b1)),(3,(Acy b2)),(6,o),(30,a1),(31,No (y.length:Int)),(32,No a)]) (fun⟨c,a,o,f,n⟩ wr=>FI w [.row o 3 1 (c).length f,.box b5 [No s.2.1,No s.2.2] 28,.box b2 [No 0,No 0] 28,.box b1 [AaB,AaB,AaB] 98] wr fun Oz=>AJ (.int .i64) (gz H w wr Oz) a1 y/\AG (.int .i64) (gz H w wr Oz) c f/\H8 (F8 a0 y) n (c,a)=some r) (fun⟨c,a,o,f,n⟩=>n) (([]:List Int),0,c5,cm,ah) Z ⟨cs,ao,av,h⟩ ?_;rintro⟨c,a,o,f,nn113⟩ db ⟨p,b,d,h⟩;obtain⟨ah,dm,rfl,h,ai⟩:=AY h;refine AI 1 Z<|AB<|AO h ?_ ?_<;>intro bn h
  ·refine Av<|Ar<|AB<|A3<|Aj<|A1 h fun a2 h=>Be b a.toNat (G1 a2) (AX a2) ?_;rintro dn _ rfl bo;refine Ai (Bl bo (An p))<|A7 1 Z<|AI 2 Z<|AO h ?_ ?_<;>intro bp h
   ·refine As<|Aq 1 Z<|B6 [(-1)] (r:=(.int .i64)) (fun _=>Jm _ _) p (.c1 Z .nil) fun dp dq dc bq ap br=>A1 h fun bs h=>?_;have d:=d.mono (Aa ap);refine Br (r:=(.int .i64)) 0 c [(-1)] Z Ahx bq Z d br bs fun ct dr bt bu bd bv=>Aq 1 Z<|AL<|A2<|Ar<|As<|A1 h fun bw h=>Ai (A6 bw)<|Aq 1 Z<|AL ?_;have h:=Ce.again h ai;have b:=b.mono (Aa (ap.trans bd));refine AM (_,_,_,_,_) Z ⟨bu,b,bv,h⟩
   refine As<|Aq 3 Z<|A1 h fun bx h=>Ai (A6 bx)<|A1 h fun a3 h=>Be ad ((y.getD a.toNat Qq2 - 1).toNat) (G1 a3) (AX a3) ?_;rintro ds _ rfl bz;refine Ai (Bl bz (hH.trans p.arg))<|Ai (KY (QR _))<|B6 [((a0.getD ((y.getD a.toNat Qq2 - 1).toNat) Qq2).toNat:Int)] (r:=(.int .i64)) (fun _=>Jm _ _) p (.c1 Z .nil) fun dt du dd b0 aq b3=>A1 h fun b4 h=>?_;have d:=d.mono (Aa aq);refine Br (r:=(.int .i64)) 0 c [((a0.getD ((y.getD a.toNat Qq2 - 1).toNat) Qq2).toNat:Int)] Z Ahx b0 Z d b3 b4 fun cu dv b6 b7 be b8=>Aq 1 Z<|AL<|A2<|Ar<|As<|A1 h fun b9 h=>Ai (A6 b9)<|Aq 1 Z<|AL ?_;have h:=Ce.again h ai;have b:=b.mono (Aa (aq.trans be))
   refine AM (_,_,_,_,_) Z ⟨b7,b,b8,h⟩
  refine B2<|AD<|A5 ?_;have h:=Ce.out h ai;refine Bf<|AA (_,_,_) ⟨p,d,h⟩
 rintro⟨an,ag,u⟩ dw ⟨bf,ca,h⟩;refine Bt 1 Z ?_;have cb:=bf.Dn hH (i:=0) Z ca;have q:=bf.AQ (i:=0) Z;refine Aw h fun dx cc h=>Bh q (P7 _ _ (An q) cb cc) ?_;rintro _ dy ⟨c6,c7,c8,rfl,a4,a5,a6⟩ aj cd c9;have g:=a4.mono (DS q aj);have j:=a5.Dn hH q aj;have k:=a6.Dn hH q aj;refine Aq 3 Z<|A9 Gv.e Z cd fun dz d0 ce aa _=>Af 0 Z ce Z (a:=(Bn g.one (Bn j.one (Bn k.one Ky)))) fun d1 ak ab=>A7 1 Z ?_;have e:=ak.rG H;refine Aj<|Ai (A4 0 Z Gv.e ak Z)<|Ai (AT (fun _=>BM _)) ?_;have g:=g.mono (Aa (aa.trans ab));have j:=j.mono (Aa (aa.trans ab));have k:=k.mono (Aa (aa.trans ab));refine Af 3 Z ak Z (a:=(Bn (g.mono e).one (Bn (j.mono e).one (Bn (k.mono e).one Ky)))) fun d2 cf bg=>Af 2 Z cf Z fun d3 al bh=>Ac<|Ay ?_
 cases h
 refine Bu (.cell Z Aj8 Z Gv.e (AH (i:=3) al Z)) (.cell Z Aje Z AF.e (AH (i:=2) al Z)) ?_;have e:=e.trans (Aa (bg.trans bh));exact⟨al.ext,_,_,_,Z,((g.mono e).mono  E7),((j.mono e).mono  E7),((k.mono e).mono  E7)⟩
end
end Go.Proofs.YtekmbcbgknmhiaaGreatDoor
end
noncomputable section
namespace Go
abbrev AjV:=Go.E.Rp.pair (Go.E.Rp.vec (Go.E.Rp.int .i64)) (Go.E.Rp.pair (Go.E.Rp.vec (Go.E.Rp.int .i64)) (Go.E.Rp.vec (Go.E.Rp.int .i64)))
end Go
namespace Go
abbrev AjN:=(Int×AjJ)×(Int×AjI)×(List AjK)
end Go
namespace Go.Proofs.YtekmbcbgknmhiaaGreatDoor
open Go Go.E Go.RowKit Go.L
set_option maxHeartbeats 1000000
set_option maxRecDepth 10000
open _root_.Go.Proofs.Tryz
def J1(a:Int)(b:List AjK)(c:List Pv)(d:List AcC):Option (((List Pv)×(List AcC)×(List AjK)×Int) ⊕ (AjN×(Int×Int))):=
 AN (Bz (a+1)) (some (Sum.inl (c,d,b,(a+1))))
def Eh(h:List AjK)(b c d:Int)(e:List (AcC×AjL))(f:Int)(g:List AjR):Option (AjN×(Int×Int)):=
 if b=0/\c=0 then some (((d,e),(f,g),h),(0,0)) else Qq4 (Cx (14:Int) (-1:Int)) (fun a=>some (((0,[]),(0,[]),[]),(a.1,a.2)))
def EI(d:List Pv)(e:List AcC)(c:List AjK):Option (AjN×(Int×Int)):=
 Qq4 (Ji e) (fun a=>if a.2.1=0/\a.2.2=0 then Qq4 (Kn d) (fun b=>(Eh c) b.2.1 b.2.2 a.1.1 a.1.2 b.1.1 b.1.2) else(Eh c) a.2.1 a.2.2 a.1.1 a.1.2 (0:Int) ([]))
def Di(a0:List (AcC×Pv)):(List Pv)×(List AcC)×(List AjK)×Int->Option (((List Pv)×(List AcC)×(List AjK)×Int) ⊕ (AjN×(Int×Int))):=fun⟨c,d,e,a⟩=>
 if a<(a0.length:Int) then AN (0<=a/\a<(a0.length:Int)) (Qq4 (J8 ((a0.getD a.toNat Qq2).1)) (fun b=>if b.2.1=0/\b.2.2=0 then Qq4 (EA ((a0.getD a.toNat Qq2).2)) (fun f=>if f.1=0/\f.2=0 then AN (Go.E.H7 72 (e.length+([(b.1.1,b.1.2.1,b.1.2.2)]).length)) (AN (Go.E.H7 24 (d.length+([(a0.getD a.toNat Qq2).1]).length)) (AN (Go.E.H7 88 (c.length+([((a0.getD a.toNat Qq2).2)]).length)) ((J1 a) (e++[(b.1.1,b.1.2.1,b.1.2.2)]) (c++[((a0.getD a.toNat Qq2).2)]) (d++[(a0.getD a.toNat Qq2).1])))) else Qq4 (Cx f.1 a) (fun g=>Qq7 Sum.inr (some (((0,[]),(0,[]),[]),(g.1,g.2))))) else Qq4 (Cx b.2.1 a) (fun h=>Qq7 Sum.inr (some (((0,[]),(0,[]),[]),(h.1,h.2)))))) else Qq7 Sum.inr (EI c d e)
def J2(a0:List (AcC×Pv))(s:(List Pv)×(List AcC)×(List AjK)×Int):Option (AjN×(Int×Int)):=Go.L.run (Di a0) s
def I1(a0:List (AcC×Pv)):Option (AjN×(Int×Int)):=
 if 64<(a0.length:Int) then Qq4 (Cx (2:Int) (-1:Int)) (fun a=>some (((0,[]),(0,[]),[]),(a.1,a.2))) else(J2 a0) (([]:List Pv),([]:List AcC),([]:List AjK),0)
section
variable(w:World)(H:PH)(hH:Le H (hp w)) include hH
theorem Nf(hU:Ge H){a0:List (AcC×Pv)}{e3:Value}(iv:AJ (.pair (.vec .byte) .tree) H e3 a0){r:AjN×(Int×Int)}(h:I1 a0=some r):
  Qqv 20 [e3] w (fun v w'=>∃ u0 u1 u2,v=.tuple #[.agg #[No r.1.1.1,u0,No r.1.2.1.1,u1,u2],.agg #[No r.2.1,No r.2.2]]/\AJ (.pair .st (.vec AjW)) (un H (nw w w')) u0 (r.1.1.2)/\AJ AjU (un H (nw w w')) u1 (r.1.2.1.2)/\Ci 98 AjV H w w' u2 (r.1.2.2)):=by
 refine Az 89 [(0,e3)] func20 Z fun hL=>Aj<|A9 JK.e Z hL fun w1 b1 oc p3 _=>A9 AF.e Z oc fun w2 b2 ji p4 _=>Ac<|AB<|Bt 1 Z<|Ai (Bk iv)<|A7 1 Z<|AO h ?_ ?_<;>intro od h
 ·refine Aj<|Ai (AT (fun _=>Uv _))<|Aw h fun x5 oe h=>AE ji (CY _ _ (An ji) oe) fun w6 tw og p5=>Af 1 Z og Z fun w7 oh p6=>Af 0 Z oh Z fun w8 jj p7=>Ac<|Ay<|Ao ?_
  cases h
  refine Bu (.cell Z AjB Z JK.e (AH (i:=1) jj Z)) (.cell Z Aje Z AF.e (AH (i:=0) jj Z)) ⟨jj.ext,_,_,_,Z,(AJ.nil _ _),(AJ.nil _ _),Ci.nil⟩
 refine Av<|Ar<|Aj<|A9 JK.e Z ji fun tx ch mv os _=>Ac<|Bt 1 Z ?_;obtain⟨mw,ot,iw⟩:=DG (.vec .byte) H 23 mv;refine Ac<|Bt 1 Z ?_;obtain⟨mx,kf,ix⟩:=DG .tree H 64 mw;refine Ac<|By ((List Pv)×(List AcC)×(List AjK)×Value×(List Value)×Value×(List Value)×Value×(List Value)) (fun⟨e4,e5,a8,ep,ci,eq,cj,bg,a3⟩=>[(2,(Acy b1)),(3,(Acy b2)),(4,(Acy ch)),(5,eq),(6,ep)]) (fun⟨e4,e5,a8,ep,ci,eq,cj,bg,a3⟩ wr=>FI w [.row bg 98 3 (a8).length a3,.row ep 64 5 (e4).length ci,.row eq 23 1 (e5).length cj,.box ch [No 0,AaB,No 0,AaB,bg] 52,.box b2 [No 0,No 0] 28,.box b1 [No 0,AaB,No 0,AaB,AaB] 52] wr fun Oz=>AG AjV (gz H w wr Oz) a8 a3/\AG .tree (gz H w wr Oz) e4 ci/\AG (.vec .byte) (gz H w wr Oz) e5 cj/\EI e4 e5 a8=some r) ?_ ?_
 ·refine Bt 1 Z<|Ai (Bk iv)<|A7 1 Z<|A3 ?_;obtain⟨kg,ij,kh⟩:=DG AjV H 98 mx;obtain⟨iy,h⟩:=Ba h;have iw:=iw.mono (Aa (kf.trans ij));have ix:=ix.mono (Aa ij)
  refine B5 ((List Pv)×(List AcC)×(List AjK)×Int×Value×(List Value)×Value×(List Value)×Value×(List Value)×Nat) (fun⟨x,y,aa,b,a4,av,a5,aw,ap,ax,n⟩=>[(2,(Acy b1)),(3,(Acy b2)),(4,(Acy ch)),(5,a5),(6,a4),(18,e3),(19,No (a0.length:Int)),(20,No b)]) (fun⟨x,y,aa,b,a4,av,a5,aw,ap,ax,n⟩ wr=>FI w [.row ap 98 3 (aa).length ax,.row a4 64 5 (x).length av,.row a5 23 1 (y).length aw,.box ch [No 0,AaB,No 0,AaB,ap] 52,.box b2 [No 0,No 0] 28,.box b1 [No 0,AaB,No 0,AaB,AaB] 52] wr fun Oz=>AG AjV (gz H w wr Oz) aa ax/\AG .tree (gz H w wr Oz) x av/\AG (.vec .byte) (gz H w wr Oz) y aw/\H8 (Di a0) n (x,y,aa,b)=some r) (fun⟨x,y,aa,b,a4,av,a5,aw,ap,ax,n⟩=>n) (([]:List Pv),([]:List AcC),([]:List AjK),0,AaB,[],AaB,[],AaB,[],iy) Z ⟨kg,kh,ix,iw,h⟩ ?_
  rintro⟨x,y,aa,b,a4,av,a5,aw,ap,ax,nn640⟩ ou ⟨er,ai,ae,af,h⟩;obtain⟨iy,my,rfl,h,es⟩:=AY h;have e:=er.rG H;refine AI 1 Z<|AB<|AO h ?_ ?_<;>intro ki h
  ·refine Av<|Ar<|AB<|A3<|Bt 1 Z<|A1 h fun i4 h=>Be iv b.toNat (G1 i4) (AX i4) ?_;rintro p8 _ ⟨_,_,rfl,⟨e646v0,rfl,e646h0⟩,e646t1⟩ kj;obtain⟨_,_,rfl,rfl,⟨_,_,rfl,rfl,⟨_,_,rfl,⟨e646v3,rfl,e646h3⟩,⟨_,_,rfl,⟨e646v4,rfl,e646h4⟩,⟨e646v5,rfl,e646h5⟩⟩⟩⟩⟩:=Go.E.Rp.Mu e646t1;refine Ai (Cj kj (hH.trans er.arg))<|A9 Wj.e Z er fun p9 iz kk aj _=>Aq 1 Z<|Af 0 Z kk Z (a:=(Bn e646h0.one (Bn Z (Bn Z (Bn e646h3.one (Bn e646h4.one (Bn e646h5.one Ky))))))) fun qa bh ak=>Ac<|Aj<|Ai (Ae Z AjC Z IF.e)<|Ai (Ag 0 Z bh Z)<|Aw h fun d kl h=>Bh bh (Tn _ _ (An bh) (e646h0.mono  Ah) kl) ?_;rintro _ qb ⟨ck,cl,cm,rfl,jb,jc,jd⟩ gy km al;have g:=jb.mono (DS bh gy);have k:=jc.mono (DS bh gy);have o:=jd.mono (DS bh gy);refine Aq 3 Z<|A9 Gv.e Z km fun qc i0 kn p _=>A9 AF.e Z kn ?_;intro qd jk ko q _
   refine Af 1 Z ko Z (a:=(Bn g.one (Bn k.one (Bn o.one Ky)))) fun qe kp t=>Af 0 Z kp Z fun qf a1 u=>Ac<|AB ?_;have c:=a1.rG H;refine Aj<|Ai (A4 0 Z AF.e a1 Z)<|Ai (AT (fun _=>BM _))<|Ai (JJ Jg (MR _ _ _ _))<|Ac<|CN h ?_ ?_<;>intro kq h
   ·refine Aj<|Ai (AT (fun _=>Uv _))<|Ai (Ae Z Aje Z CO.e)<|Ai (Ag 0 Z a1 Z)<|Aq 1 Z<|Aw h fun qg kr h=>AE a1 (CY _ _ (An a1) kr) fun qh ov ks oi=>Af 8 Z ks Z fun qi kt oj=>Af 7 Z kt Z fun qj g0 ok=>Ac<|Ay<|Ao<|Ax<|Ao<|BN ?_;have h:=Ce.out h es;refine Ax<|BI ?_
    cases h
    refine Bu (.cell Z AjB Z JK.e (AH (i:=8) g0 Z)) (.cell Z Aje Z AF.e (AH (i:=7) g0 Z)) ⟨g0.ext,_,_,_,Z,(AJ.nil _ _),(AJ.nil _ _),Ci.nil⟩
   refine Av<|Ar<|AB<|Aj<|Ai (Ae Z AjC Z HD.e)<|Ai (K8 2 5 Z HD.e a1 Z Z)<|Aw h fun g1 ku h=>AE a1 (Oi (a0:=((a0.getD b.toNat Qq2).2)) _ _ (An a1) (e646h3.mono  Ah) (e646h4.mono  Ah) (e646h5.mono  Ah) ku) fun qk ow kv a9=>A9 AF.e Z kv fun ql jl kw ba _=>Af 0 Z kw Z fun qm bi bb=>Ac<|Aj<|Ai (A4 0 Z AF.e bi Z)<|Ai (AT (fun _=>BM _))<|Ai (JJ Jg (MR _ _ _ _))<|Ac<|CN h ?_ ?_<;>intro kx h
   ·refine Aj<|Ai (AT (fun _=>Uv _))<|Ai (Ae Z Aje Z CO.e)<|Ai (Ag 0 Z bi Z)<|Aq 1 Z<|Aw h fun qn ky h=>AE bi (CY _ _ (An bi) ky) fun qo ox kz ol=>Af 9 Z kz Z fun qp k0 om=>Af 8 Z k0 Z fun qq g2 oo=>Ac<|Ay<|Ao<|Ax<|Ao<|BN ?_;have h:=Ce.out h es;refine Ax<|BI ?_
    cases h
    refine Bu (.cell Z AjB Z JK.e (AH (i:=9) g2 Z)) (.cell Z Aje Z AF.e (AH (i:=8) g2 Z)) ⟨g2.ext,_,_,_,Z,(AJ.nil _ _),(AJ.nil _ _),Ci.nil⟩
   refine Av<|Ar ?_
   refine AhQ (σ:=(List AjK)×(List Pv)×(List AcC)×Value×(List Value)×Value×(List Value)×Value×(List Value)) (fun⟨ek,el,em,cn,bc,co,bd,cp,be⟩=>[(2,(Acy b1)),(3,(Acy b2)),(4,(Acy ch)),(5,cp),(6,co),(18,e3),(19,No (a0.length:Int)),(20,No b)]) (fun⟨ek,el,em,cn,bc,co,bd,cp,be⟩ wr=>FI w [.box jl [No g1.1,No g1.2] 28,.box jk [No d.2.1,No d.2.2] 28,.box i0 [ck,cl,cm] 98,.box iz [e646v0,No (((a0.getD b.toNat Qq2).2).f.1),No (((a0.getD b.toNat Qq2).2).f.2.1),e646v3,e646v4,e646v5] 66,.row cn 98 3 (ek).length bc,.row co 64 5 (el).length bd,.row cp 23 1 (em).length be,.box ch [No 0,AaB,No 0,AaB,cn] 52,.box b2 [No 0,No 0] 28,.box b1 [No 0,AaB,No 0,AaB,AaB] 52] wr fun Oz=>AJ (.int .i64) (gz H w wr Oz) ck (d.1.1)/\AJ (.int .i64) (gz H w wr Oz) cl (d.1.2.1)/\AJ (.int .i64) (gz H w wr Oz) cm (d.1.2.2)/\AG AjV (gz H w wr Oz) ek bc/\AG .tree (gz H w wr Oz) el bd/\AG (.vec .byte) (gz H w wr Oz) em be/\(J1 b) ek el em=some my) ?_ ?_
   ·refine Kk (O0 (Jw (UQ (Se (Jw (O0 Nq)))))) (fun z0 z=>Le (gz H w z0 [.box jl [No g1.1,No g1.2] 28,.box jk [No d.2.1,No d.2.2] 28,.box i0 [ck,cl,cm] 98,.box iz [e646v0,No (((a0.getD b.toNat Qq2).2).f.1),No (((a0.getD b.toNat Qq2).2).f.2.1),e646v3,e646v4,e646v5] 66,.row ap 98 3 (aa).length ax,.row a4 64 5 (x).length av,.row a5 23 1 (y).length aw,.box ch [No 0,AaB,No 0,AaB,ap] 52,.box b2 [No 0,No 0] 28,.box b1 [No 0,AaB,No 0,AaB,AaB] 52]) (hp z)/\z.heap[i0]? = some (.cells [ck,cl,cm].toArray 98 (0,0))/\z.heap[iz]? = some (.cells [e646v0,No (((a0.getD b.toNat Qq2).2).f.1),No (((a0.getD b.toNat Qq2).2).f.2.1),e646v3,e646v4,e646v5].toArray 66 (0,0))/\z.heap[ch]? = some (.cells [No 0,AaB,No 0,AaB,ap].toArray 52 (0,0))) mixed Z (fun ad qs i5=>?_);have a2:=bi.call i5;have bf:=AR bi i5;have a:=a2.rG H;refine Nt ⟨a.trans (An a2),a2.at (i:=2) Z,a2.at (i:=3) Z,a2.at (i:=7) Z⟩ fun kI840=>?_
    refine A8 0 ad kI840 Z (fun _ _=>Ae Z AjB Z La.e) Z<|A8 1 ad kI840 Z (fun _ hI=>KC Z hI.2.2.2 Z) Z<|A8 2 ad kI840 Z (fun _ hI=>MQ hI.2.1) Z<|A8 5 ad kI840 Z (fun _ _=>Am Z) Z<|A8 6 ad kI840 Z (fun _ _=>Ae Z AjC Z IF.e) Z<|A8 7 ad kI840 Z (fun _ hI=>KC Z hI.2.2.1 Z) Z<|A8 10 ad kI840 Z (fun _ _=>Am Z) Z<|A8 11 ad kI840 Z (fun _ _=>Ae Z AjC Z HD.e) Z<|A8 12 ad kI840 Z (fun _ hI=>Ad4 5 Z HD.e hI.2.2.1 Z) Z<|NI3 (i:=3) (j:=8) (s:=13) Z Qqb Z Z ?_ ?_ ?_
    ·have g:=g.mono (Aa (p.trans (q.trans (t.trans u))));have k:=k.mono (Aa (p.trans (q.trans (t.trans u))));have o:=o.mono (Aa (p.trans (q.trans (t.trans u))));have c:=c.trans (Aa (a9.trans (ba.trans (bb.trans bf))));refine B6 [(d.1.1,d.1.2.1,d.1.2.2)] (r:=AjV) (fun _=>Sl _ _ _ _) a2 (.c3 ⟨_,_,Z,⟨_,Z,((g.mono c).mono a)⟩,⟨_,_,Z,⟨_,Z,((k.mono c).mono a)⟩,⟨_,Z,((o.mono c).mono a)⟩⟩⟩ .nil) ?_;intro qt qu oy a6 jm am;have a:=a.trans (Aa jm);refine AW ⟨a.trans (An a6),a6.at (i:=2) Z,a6.at (i:=3) Z,a6.at (i:=7) Z⟩ fun kI842=>NI3 (i:=4) (j:=8) (s:=13) Z Qqb Z Z ?_ ?_ ?_
     ·refine A1 h fun ah h=>?_;have e:=e.trans (Aa (aj.trans (ak.trans (al.trans (p.trans (q.trans (t.trans u)))))));refine Br (r:=AjV) 4 aa [(d.1.1,d.1.2.1,d.1.2.2)] Z AjD a6 Z (((ai.mono e).mono c).mono a) am ah ?_;intro i1 qv g3 bj jn aq;have a:=a.trans (Aa jn);refine AW ⟨a.trans (An bj),bj.at (i:=2) Z,bj.at (i:=3) Z,bj.at (i:=7) Z⟩ fun kI845=>A8 15 ad kI845 Z (fun _ _=>Ae Z AjB Z La.e) Z<|NI2 8 13 Z Z ?_ ?_
      ·refine B6 [(a0.getD b.toNat Qq2).1] (r:=(.vec .byte)) (fun _=>Nu _ e646h0.one _) bj (.c1 ⟨_,Z,(e646h0.mono  Ah)⟩ .nil) ?_;intro qw qx oz bk e6 et;have a:=a.trans (Aa e6);refine AW ⟨a.trans (An bk),bk.at (i:=2) Z,bk.at (i:=3) Z,bk.at (i:=7) Z⟩ fun kI847=>NI2 9 13 Z Z ?_ ?_
       ·refine A1 h fun ab h=>Br (r:=(.vec .byte)) 6 y [(a0.getD b.toNat Qq2).1] Z Ajs bk Z (((af.mono e).mono c).mono a) et ab ?_;intro mz qy k1 cq ik g4;have a:=a.trans (Aa ik);refine AW ⟨a.trans (An cq),cq.at (i:=2) Z,cq.at (i:=3) Z,cq.at (i:=7) Z⟩ fun kI850=>FR 13 Z<|B6 [((a0.getD b.toNat Qq2).2)] (r:=.tree) (fun _=>KP _ _ _ _ _ _) cq (.c5 (Go.E.Rp.DT ⟨_,_,Z,Z,⟨_,_,Z,Z,⟨_,_,Z,⟨_,Z,(e646h3.mono  Ah)⟩,⟨_,_,Z,⟨_,Z,(e646h4.mono  Ah)⟩,⟨_,Z,(e646h5.mono  Ah)⟩⟩⟩⟩⟩) .nil) ?_;intro qz q0 o0 cr e7 k2;have a:=a.trans (Aa e7);refine AW ⟨a.trans (An cr),cr.at (i:=2) Z,cr.at (i:=3) Z,cr.at (i:=7) Z⟩ fun kI852=>FR 14 Z<|A1 h fun ac h=>Br (r:=.tree) 5 x [((a0.getD b.toNat Qq2).2)] Z Ajq cr Z (((ae.mono e).mono c).mono a) k2 ac ?_;intro m0 q1 k3 bl e8 g5;have a:=a.trans (Aa e8)
        refine AW ⟨a.trans (An bl),bl.at (i:=2) Z,bl.at (i:=3) Z,bl.at (i:=7) Z⟩ fun kI855=>FR 16 Z<|B8 7 Z (row_one (bl.at (i:=4) Z)) bl Z Z fun q2 k4 cs=>D6 [0,1,2,3,4,5,6,7,8,9,10,11,12,13,14,15]<|FR 17 Z<|Aq 1 Z<|D6 [0,1,2,3,4,5,6,7,8,9,10,11,12,13,14,15,16]<|FR 18 Z<|Aq 1 Z<|GG<|EK ?_;have aq:=aq.mono (Aa (e6.trans (ik.trans (e7.trans (e8.trans cs)))));have g4:=g4.mono (Aa (e7.trans (e8.trans cs)));have g5:=g5.mono (Aa cs);have a:=a.trans (Aa cs);refine AA ((aa++[(d.1.1,d.1.2.1,d.1.2.2)]),(x++[((a0.getD b.toNat Qq2).2)]),(y++[(a0.getD b.toNat Qq2).1]),i1,g3,m0,k3,mz,k1) ⟨k4,((g.mono c).mono a),((k.mono c).mono a),((o.mono c).mono a),aq,g5,g4,h⟩
       refine A1 h fun ab h=>A1 h fun ac h=>B6 [((a0.getD b.toNat Qq2).2)] (r:=.tree) (fun _=>KP _ _ _ _ _ _) bk (.c5 (Go.E.Rp.DT ⟨_,_,Z,Z,⟨_,_,Z,Z,⟨_,_,Z,⟨_,Z,(e646h3.mono  Ah)⟩,⟨_,_,Z,⟨_,Z,(e646h4.mono  Ah)⟩,⟨_,Z,(e646h5.mono  Ah)⟩⟩⟩⟩⟩) .nil) ?_;intro q3 q4 o1 ct e9 g6;have a:=a.trans (Aa e9);refine AW ⟨a.trans (An ct),ct.at (i:=2) Z,ct.at (i:=3) Z,ct.at (i:=7) Z⟩ fun kI858=>FR 9 Z ?_;have et:=et.mono (Aa e9);refine Br (r:=(.vec .byte)) 6 y [(a0.getD b.toNat Qq2).1] Z Ajs ct Z (((af.mono e).mono c).mono a) et ab ?_;intro m1 q5 k5 cu fa g7;have a:=a.trans (Aa fa);refine AW ⟨a.trans (An cu),cu.at (i:=2) Z,cu.at (i:=3) Z,cu.at (i:=7) Z⟩ fun kI860=>FR 14 Z ?_;have g6:=g6.mono (Aa fa);refine Br (r:=.tree) 5 x [((a0.getD b.toNat Qq2).2)] Z Ajq cu Z (((ae.mono e).mono c).mono a) g6 ac ?_
       intro m2 q6 k6 bm fb g8;have a:=a.trans (Aa fb);refine AW ⟨a.trans (An bm),bm.at (i:=2) Z,bm.at (i:=3) Z,bm.at (i:=7) Z⟩ fun kI862=>FR 16 Z<|B8 7 Z (row_one (bm.at (i:=4) Z)) bm Z Z fun q7 k7 cv=>D6 [0,1,2,3,4,5,6,7,8,9,10,11,12,13,14,15]<|FR 17 Z<|Aq 1 Z<|D6 [0,1,2,3,4,5,6,7,8,9,10,11,12,13,14,15,16]<|FR 18 Z<|Aq 1 Z<|GG<|EK ?_;have aq:=aq.mono (Aa (e6.trans (e9.trans (fa.trans (fb.trans cv)))));have g7:=g7.mono (Aa (fb.trans cv));have g8:=g8.mono (Aa cv);have a:=a.trans (Aa cv);refine AA ((aa++[(d.1.1,d.1.2.1,d.1.2.2)]),(x++[((a0.getD b.toNat Qq2).2)]),(y++[(a0.getD b.toNat Qq2).1]),i1,g3,m2,k6,m1,k5) ⟨k7,((g.mono c).mono a),((k.mono c).mono a),((o.mono c).mono a),aq,g8,g7,h⟩
      refine A1 h fun ab h=>A1 h fun ac h=>B6 [((a0.getD b.toNat Qq2).2)] (r:=.tree) (fun _=>KP _ _ _ _ _ _) bj (.c5 (Go.E.Rp.DT ⟨_,_,Z,Z,⟨_,_,Z,Z,⟨_,_,Z,⟨_,Z,(e646h3.mono  Ah)⟩,⟨_,_,Z,⟨_,Z,(e646h4.mono  Ah)⟩,⟨_,Z,(e646h5.mono  Ah)⟩⟩⟩⟩⟩) .nil) ?_;intro q8 q9 o2 cw il g9;have a:=a.trans (Aa il);refine AW ⟨a.trans (An cw),cw.at (i:=2) Z,cw.at (i:=3) Z,cw.at (i:=7) Z⟩ fun kI865=>FR 8 Z<|B6 [(a0.getD b.toNat Qq2).1] (r:=(.vec .byte)) (fun _=>Nu _ e646h0.one _) cw (.c1 ⟨_,Z,(e646h0.mono  Ah)⟩ .nil) ?_;intro ra rb o3 cx fc k8;have a:=a.trans (Aa fc);refine AW ⟨a.trans (An cx),cx.at (i:=2) Z,cx.at (i:=3) Z,cx.at (i:=7) Z⟩ fun kI867=>FR 9 Z<|Br (r:=(.vec .byte)) 6 y [(a0.getD b.toNat Qq2).1] Z Ajs cx Z (((af.mono e).mono c).mono a) k8 ab ?_;intro m3 rc k9 cy fd ha;have a:=a.trans (Aa fd)
      refine AW ⟨a.trans (An cy),cy.at (i:=2) Z,cy.at (i:=3) Z,cy.at (i:=7) Z⟩ fun kI869=>FR 14 Z ?_;have g9:=g9.mono (Aa (fc.trans fd));refine Br (r:=.tree) 5 x [((a0.getD b.toNat Qq2).2)] Z Ajq cy Z (((ae.mono e).mono c).mono a) g9 ac ?_;intro m4 rd la bn fe hb;have a:=a.trans (Aa fe);refine AW ⟨a.trans (An bn),bn.at (i:=2) Z,bn.at (i:=3) Z,bn.at (i:=7) Z⟩ fun kI871=>FR 16 Z<|B8 7 Z (row_one (bn.at (i:=4) Z)) bn Z Z fun re lb cz=>D6 [0,1,2,3,4,5,6,7,8,9,10,11,12,13,14,15]<|FR 17 Z<|Aq 1 Z<|D6 [0,1,2,3,4,5,6,7,8,9,10,11,12,13,14,15,16]<|FR 18 Z<|Aq 1 Z<|GG<|EK ?_;have aq:=aq.mono (Aa (il.trans (fc.trans (fd.trans (fe.trans cz)))));have ha:=ha.mono (Aa (fe.trans cz));have hb:=hb.mono (Aa cz);have a:=a.trans (Aa cz)
      refine AA ((aa++[(d.1.1,d.1.2.1,d.1.2.2)]),(x++[((a0.getD b.toNat Qq2).2)]),(y++[(a0.getD b.toNat Qq2).1]),i1,g3,m4,la,m3,k9) ⟨lb,((g.mono c).mono a),((k.mono c).mono a),((o.mono c).mono a),aq,hb,ha,h⟩
     ·refine A1 h fun ah h=>A1 h fun ab h=>A1 h fun ac h=>B6 [(a0.getD b.toNat Qq2).1] (r:=(.vec .byte)) (fun _=>Nu _ e646h0.one _) a6 (.c1 ⟨_,Z,(e646h0.mono  Ah)⟩ .nil) ?_;intro rf rg o4 bo ff ar;have a:=a.trans (Aa ff);refine AW ⟨a.trans (An bo),bo.at (i:=2) Z,bo.at (i:=3) Z,bo.at (i:=7) Z⟩ fun kI874=>NI2 4 13 Z Z ?_ ?_
      ·have e:=e.trans (Aa (aj.trans (ak.trans (al.trans (p.trans (q.trans (t.trans u)))))));have am:=am.mono (Aa ff);refine Br (r:=AjV) 4 aa [(d.1.1,d.1.2.1,d.1.2.2)] Z AjD bo Z (((ai.mono e).mono c).mono a) am ah ?_;intro jo rh i6 bp fg bq;have a:=a.trans (Aa fg);refine AW ⟨a.trans (An bp),bp.at (i:=2) Z,bp.at (i:=3) Z,bp.at (i:=7) Z⟩ fun kI876=>A8 15 ad kI876 Z (fun _ _=>Ae Z AjB Z La.e) Z<|NI2 9 13 Z Z ?_ ?_
       ·have ar:=ar.mono (Aa fg);refine Br (r:=(.vec .byte)) 6 y [(a0.getD b.toNat Qq2).1] Z Ajs bp Z (((af.mono e).mono c).mono a) ar ab ?_;intro m5 ri lc c0 im hc;have a:=a.trans (Aa im);refine AW ⟨a.trans (An c0),c0.at (i:=2) Z,c0.at (i:=3) Z,c0.at (i:=7) Z⟩ fun kI878=>FR 13 Z<|B6 [((a0.getD b.toNat Qq2).2)] (r:=.tree) (fun _=>KP _ _ _ _ _ _) c0 (.c5 (Go.E.Rp.DT ⟨_,_,Z,Z,⟨_,_,Z,Z,⟨_,_,Z,⟨_,Z,(e646h3.mono  Ah)⟩,⟨_,_,Z,⟨_,Z,(e646h4.mono  Ah)⟩,⟨_,Z,(e646h5.mono  Ah)⟩⟩⟩⟩⟩) .nil) ?_;intro rj rk o5 c2 fh ld;have a:=a.trans (Aa fh);refine AW ⟨a.trans (An c2),c2.at (i:=2) Z,c2.at (i:=3) Z,c2.at (i:=7) Z⟩ fun kI880=>FR 14 Z<|Br (r:=.tree) 5 x [((a0.getD b.toNat Qq2).2)] Z Ajq c2 Z (((ae.mono e).mono c).mono a) ld ac ?_;intro m6 rl le br fi hd;have a:=a.trans (Aa fi)
        refine AW ⟨a.trans (An br),br.at (i:=2) Z,br.at (i:=3) Z,br.at (i:=7) Z⟩ fun kI882=>FR 16 Z<|B8 7 Z (row_one (br.at (i:=4) Z)) br Z Z fun rm lf c4=>D6 [0,1,2,3,4,5,6,7,8,9,10,11,12,13,14,15]<|FR 17 Z<|Aq 1 Z<|D6 [0,1,2,3,4,5,6,7,8,9,10,11,12,13,14,15,16]<|FR 18 Z<|Aq 1 Z<|GG<|EK ?_;have bq:=bq.mono (Aa (im.trans (fh.trans (fi.trans c4))));have hc:=hc.mono (Aa (fh.trans (fi.trans c4)));have hd:=hd.mono (Aa c4);have a:=a.trans (Aa c4);refine AA ((aa++[(d.1.1,d.1.2.1,d.1.2.2)]),(x++[((a0.getD b.toNat Qq2).2)]),(y++[(a0.getD b.toNat Qq2).1]),jo,i6,m6,le,m5,lc) ⟨lf,((g.mono c).mono a),((k.mono c).mono a),((o.mono c).mono a),bq,hd,hc,h⟩
       refine B6 [((a0.getD b.toNat Qq2).2)] (r:=.tree) (fun _=>KP _ _ _ _ _ _) bp (.c5 (Go.E.Rp.DT ⟨_,_,Z,Z,⟨_,_,Z,Z,⟨_,_,Z,⟨_,Z,(e646h3.mono  Ah)⟩,⟨_,_,Z,⟨_,Z,(e646h4.mono  Ah)⟩,⟨_,Z,(e646h5.mono  Ah)⟩⟩⟩⟩⟩) .nil) ?_;intro rn ro o6 c6 fj he;have a:=a.trans (Aa fj);refine AW ⟨a.trans (An c6),c6.at (i:=2) Z,c6.at (i:=3) Z,c6.at (i:=7) Z⟩ fun kI885=>FR 9 Z ?_;have ar:=ar.mono (Aa (fg.trans fj));refine Br (r:=(.vec .byte)) 6 y [(a0.getD b.toNat Qq2).1] Z Ajs c6 Z (((af.mono e).mono c).mono a) ar ab ?_;intro m7 rp lg c7 fk hf;have a:=a.trans (Aa fk);refine AW ⟨a.trans (An c7),c7.at (i:=2) Z,c7.at (i:=3) Z,c7.at (i:=7) Z⟩ fun kI887=>FR 14 Z ?_;have he:=he.mono (Aa fk);refine Br (r:=.tree) 5 x [((a0.getD b.toNat Qq2).2)] Z Ajq c7 Z (((ae.mono e).mono c).mono a) he ac ?_;intro m8 rq lh bs fl hg;have a:=a.trans (Aa fl)
       refine AW ⟨a.trans (An bs),bs.at (i:=2) Z,bs.at (i:=3) Z,bs.at (i:=7) Z⟩ fun kI889=>FR 16 Z<|B8 7 Z (row_one (bs.at (i:=4) Z)) bs Z Z fun rr li c8=>D6 [0,1,2,3,4,5,6,7,8,9,10,11,12,13,14,15]<|FR 17 Z<|Aq 1 Z<|D6 [0,1,2,3,4,5,6,7,8,9,10,11,12,13,14,15,16]<|FR 18 Z<|Aq 1 Z<|GG<|EK ?_;have bq:=bq.mono (Aa (fj.trans (fk.trans (fl.trans c8))));have hf:=hf.mono (Aa (fl.trans c8));have hg:=hg.mono (Aa c8);have a:=a.trans (Aa c8);refine AA ((aa++[(d.1.1,d.1.2.1,d.1.2.2)]),(x++[((a0.getD b.toNat Qq2).2)]),(y++[(a0.getD b.toNat Qq2).1]),jo,i6,m8,lh,m7,lg) ⟨li,((g.mono c).mono a),((k.mono c).mono a),((o.mono c).mono a),bq,hg,hf,h⟩
      refine B6 [((a0.getD b.toNat Qq2).2)] (r:=.tree) (fun _=>KP _ _ _ _ _ _) bo (.c5 (Go.E.Rp.DT ⟨_,_,Z,Z,⟨_,_,Z,Z,⟨_,_,Z,⟨_,Z,(e646h3.mono  Ah)⟩,⟨_,_,Z,⟨_,Z,(e646h4.mono  Ah)⟩,⟨_,Z,(e646h5.mono  Ah)⟩⟩⟩⟩⟩) .nil) ?_;intro rs rt o7 c9 fm hh;have a:=a.trans (Aa fm);refine AW ⟨a.trans (An c9),c9.at (i:=2) Z,c9.at (i:=3) Z,c9.at (i:=7) Z⟩ fun kI892=>FR 4 Z ?_;have e:=e.trans (Aa (aj.trans (ak.trans (al.trans (p.trans (q.trans (t.trans u)))))));have am:=am.mono (Aa (ff.trans fm));refine Br (r:=AjV) 4 aa [(d.1.1,d.1.2.1,d.1.2.2)] Z AjD c9 Z (((ai.mono e).mono c).mono a) am ah ?_;intro m9 ru lj da fn hi;have a:=a.trans (Aa fn);refine AW ⟨a.trans (An da),da.at (i:=2) Z,da.at (i:=3) Z,da.at (i:=7) Z⟩ fun kI894=>A8 15 ad kI894 Z (fun _ _=>Ae Z AjB Z La.e) Z<|FR 9 Z ?_
      have ar:=ar.mono (Aa (fm.trans fn));refine Br (r:=(.vec .byte)) 6 y [(a0.getD b.toNat Qq2).1] Z Ajs da Z (((af.mono e).mono c).mono a) ar ab ?_;intro na rv lk db fo hj;have a:=a.trans (Aa fo);refine AW ⟨a.trans (An db),db.at (i:=2) Z,db.at (i:=3) Z,db.at (i:=7) Z⟩ fun kI896=>FR 14 Z ?_;have hh:=hh.mono (Aa (fn.trans fo));refine Br (r:=.tree) 5 x [((a0.getD b.toNat Qq2).2)] Z Ajq db Z (((ae.mono e).mono c).mono a) hh ac ?_;intro nb rx ll bt fp hk;have a:=a.trans (Aa fp);refine AW ⟨a.trans (An bt),bt.at (i:=2) Z,bt.at (i:=3) Z,bt.at (i:=7) Z⟩ fun kI898=>FR 16 Z<|B8 7 Z (row_one (bt.at (i:=4) Z)) bt Z Z fun ry lm dc=>D6 [0,1,2,3,4,5,6,7,8,9,10,11,12,13,14,15]<|FR 17 Z<|Aq 1 Z<|D6 [0,1,2,3,4,5,6,7,8,9,10,11,12,13,14,15,16]<|FR 18 Z<|Aq 1 Z ?_
      refine GG<|EK ?_;have hi:=hi.mono (Aa (fo.trans (fp.trans dc)));have hj:=hj.mono (Aa (fp.trans dc));have hk:=hk.mono (Aa dc);have a:=a.trans (Aa dc);refine AA ((aa++[(d.1.1,d.1.2.1,d.1.2.2)]),(x++[((a0.getD b.toNat Qq2).2)]),(y++[(a0.getD b.toNat Qq2).1]),m9,lj,nb,ll,na,lk) ⟨lm,((g.mono c).mono a),((k.mono c).mono a),((o.mono c).mono a),hi,hk,hj,h⟩
     refine A1 h fun ah h=>A1 h fun ab h=>A1 h fun ac h=>B6 [((a0.getD b.toNat Qq2).2)] (r:=.tree) (fun _=>KP _ _ _ _ _ _) a6 (.c5 (Go.E.Rp.DT ⟨_,_,Z,Z,⟨_,_,Z,Z,⟨_,_,Z,⟨_,Z,(e646h3.mono  Ah)⟩,⟨_,_,Z,⟨_,Z,(e646h4.mono  Ah)⟩,⟨_,Z,(e646h5.mono  Ah)⟩⟩⟩⟩⟩) .nil) ?_;intro rz r0 o8 bu fq bv;have a:=a.trans (Aa fq);refine AW ⟨a.trans (An bu),bu.at (i:=2) Z,bu.at (i:=3) Z,bu.at (i:=7) Z⟩ fun kI901=>NI2 4 8 Z Z ?_ ?_
     ·have e:=e.trans (Aa (aj.trans (ak.trans (al.trans (p.trans (q.trans (t.trans u)))))));have am:=am.mono (Aa fq);refine Br (r:=AjV) 4 aa [(d.1.1,d.1.2.1,d.1.2.2)] Z AjD bu Z (((ai.mono e).mono c).mono a) am ah ?_;intro nc r1 ln dd io hl;have a:=a.trans (Aa io);refine AW ⟨a.trans (An dd),dd.at (i:=2) Z,dd.at (i:=3) Z,dd.at (i:=7) Z⟩ fun kI903=>A8 15 ad kI903 Z (fun _ _=>Ae Z AjB Z La.e) Z<|FR 8 Z<|B6 [(a0.getD b.toNat Qq2).1] (r:=(.vec .byte)) (fun _=>Nu _ e646h0.one _) dd (.c1 ⟨_,Z,(e646h0.mono  Ah)⟩ .nil) ?_;intro r2 r3 o9 de fr lo;have a:=a.trans (Aa fr);refine AW ⟨a.trans (An de),de.at (i:=2) Z,de.at (i:=3) Z,de.at (i:=7) Z⟩ fun kI905=>FR 9 Z<|Br (r:=(.vec .byte)) 6 y [(a0.getD b.toNat Qq2).1] Z Ajs de Z (((af.mono e).mono c).mono a) lo ab ?_
      intro nd r4 lp df fs hm;have a:=a.trans (Aa fs);refine AW ⟨a.trans (An df),df.at (i:=2) Z,df.at (i:=3) Z,df.at (i:=7) Z⟩ fun kI907=>FR 14 Z ?_;have bv:=bv.mono (Aa (io.trans (fr.trans fs)));refine Br (r:=.tree) 5 x [((a0.getD b.toNat Qq2).2)] Z Ajq df Z (((ae.mono e).mono c).mono a) bv ac ?_;intro nf r5 lq bw ft hn;have a:=a.trans (Aa ft);refine AW ⟨a.trans (An bw),bw.at (i:=2) Z,bw.at (i:=3) Z,bw.at (i:=7) Z⟩ fun kI909=>FR 16 Z<|B8 7 Z (row_one (bw.at (i:=4) Z)) bw Z Z fun r6 lr dg=>D6 [0,1,2,3,4,5,6,7,8,9,10,11,12,13,14,15]<|FR 17 Z<|Aq 1 Z<|D6 [0,1,2,3,4,5,6,7,8,9,10,11,12,13,14,15,16]<|FR 18 Z<|Aq 1 Z<|GG<|EK ?_;have hl:=hl.mono (Aa (fr.trans (fs.trans (ft.trans dg))));have hm:=hm.mono (Aa (ft.trans dg))
      have hn:=hn.mono (Aa dg);have a:=a.trans (Aa dg);refine AA ((aa++[(d.1.1,d.1.2.1,d.1.2.2)]),(x++[((a0.getD b.toNat Qq2).2)]),(y++[(a0.getD b.toNat Qq2).1]),nc,ln,nf,lq,nd,lp) ⟨lr,((g.mono c).mono a),((k.mono c).mono a),((o.mono c).mono a),hl,hn,hm,h⟩
     refine B6 [(a0.getD b.toNat Qq2).1] (r:=(.vec .byte)) (fun _=>Nu _ e646h0.one _) bu (.c1 ⟨_,Z,(e646h0.mono  Ah)⟩ .nil) ?_;intro r7 r8 pa dh fu ho;have a:=a.trans (Aa fu);refine AW ⟨a.trans (An dh),dh.at (i:=2) Z,dh.at (i:=3) Z,dh.at (i:=7) Z⟩ fun kI912=>FR 4 Z ?_;have e:=e.trans (Aa (aj.trans (ak.trans (al.trans (p.trans (q.trans (t.trans u)))))));have am:=am.mono (Aa (fq.trans fu));refine Br (r:=AjV) 4 aa [(d.1.1,d.1.2.1,d.1.2.2)] Z AjD dh Z (((ai.mono e).mono c).mono a) am ah ?_;intro ng r9 ls di fv hq;have a:=a.trans (Aa fv);refine AW ⟨a.trans (An di),di.at (i:=2) Z,di.at (i:=3) Z,di.at (i:=7) Z⟩ fun kI914=>A8 15 ad kI914 Z (fun _ _=>Ae Z AjB Z La.e) Z<|FR 9 Z ?_;have ho:=ho.mono (Aa fv)
     refine Br (r:=(.vec .byte)) 6 y [(a0.getD b.toNat Qq2).1] Z Ajs di Z (((af.mono e).mono c).mono a) ho ab ?_;intro nh sa lt dj fw hr;have a:=a.trans (Aa fw);refine AW ⟨a.trans (An dj),dj.at (i:=2) Z,dj.at (i:=3) Z,dj.at (i:=7) Z⟩ fun kI916=>FR 14 Z ?_;have bv:=bv.mono (Aa (fu.trans (fv.trans fw)));refine Br (r:=.tree) 5 x [((a0.getD b.toNat Qq2).2)] Z Ajq dj Z (((ae.mono e).mono c).mono a) bv ac ?_;intro ni sb lu bx fx hs;have a:=a.trans (Aa fx);refine AW ⟨a.trans (An bx),bx.at (i:=2) Z,bx.at (i:=3) Z,bx.at (i:=7) Z⟩ fun kI918=>FR 16 Z<|B8 7 Z (row_one (bx.at (i:=4) Z)) bx Z Z fun sc lv dk=>D6 [0,1,2,3,4,5,6,7,8,9,10,11,12,13,14,15]<|FR 17 Z<|Aq 1 Z<|D6 [0,1,2,3,4,5,6,7,8,9,10,11,12,13,14,15,16]<|FR 18 Z<|Aq 1 Z<|GG ?_
     refine EK ?_;have hq:=hq.mono (Aa (fw.trans (fx.trans dk)));have hr:=hr.mono (Aa (fx.trans dk));have hs:=hs.mono (Aa dk);have a:=a.trans (Aa dk);refine AA ((aa++[(d.1.1,d.1.2.1,d.1.2.2)]),(x++[((a0.getD b.toNat Qq2).2)]),(y++[(a0.getD b.toNat Qq2).1]),ng,ls,ni,lu,nh,lt) ⟨lv,((g.mono c).mono a),((k.mono c).mono a),((o.mono c).mono a),hq,hs,hr,h⟩
    ·refine A1 h fun ah h=>A1 h fun ab h=>A1 h fun ac h=>B6 [(a0.getD b.toNat Qq2).1] (r:=(.vec .byte)) (fun _=>Nu _ e646h0.one _) a2 (.c1 ⟨_,Z,(e646h0.mono  Ah)⟩ .nil) ?_;intro sd se pb bz jp an;have a:=a.trans (Aa jp);refine AW ⟨a.trans (An bz),bz.at (i:=2) Z,bz.at (i:=3) Z,bz.at (i:=7) Z⟩ fun kI921=>NI2 3 13 Z Z ?_ ?_
     ·have g:=g.mono (Aa (p.trans (q.trans (t.trans u))));have k:=k.mono (Aa (p.trans (q.trans (t.trans u))));have o:=o.mono (Aa (p.trans (q.trans (t.trans u))));have c:=c.trans (Aa (a9.trans (ba.trans (bb.trans bf))));refine B6 [(d.1.1,d.1.2.1,d.1.2.2)] (r:=AjV) (fun _=>Sl _ _ _ _) bz (.c3 ⟨_,_,Z,⟨_,Z,((g.mono c).mono a)⟩,⟨_,_,Z,⟨_,Z,((k.mono c).mono a)⟩,⟨_,Z,((o.mono c).mono a)⟩⟩⟩ .nil) ?_;intro sf sg pc b0 dl eu;have a:=a.trans (Aa dl);refine AW ⟨a.trans (An b0),b0.at (i:=2) Z,b0.at (i:=3) Z,b0.at (i:=7) Z⟩ fun kI923=>NI2 4 13 Z Z ?_ ?_
      ·have e:=e.trans (Aa (aj.trans (ak.trans (al.trans (p.trans (q.trans (t.trans u)))))));refine Br (r:=AjV) 4 aa [(d.1.1,d.1.2.1,d.1.2.2)] Z AjD b0 Z (((ai.mono e).mono c).mono a) eu ah ?_;intro jq sh i7 b3 fy b4;have a:=a.trans (Aa fy);refine AW ⟨a.trans (An b3),b3.at (i:=2) Z,b3.at (i:=3) Z,b3.at (i:=7) Z⟩ fun kI925=>A8 15 ad kI925 Z (fun _ _=>Ae Z AjB Z La.e) Z<|NI2 9 13 Z Z ?_ ?_
       ·have an:=an.mono (Aa (dl.trans fy));refine Br (r:=(.vec .byte)) 6 y [(a0.getD b.toNat Qq2).1] Z Ajs b3 Z (((af.mono e).mono c).mono a) an ab ?_;intro nj si lw dm ip ht;have a:=a.trans (Aa ip);refine AW ⟨a.trans (An dm),dm.at (i:=2) Z,dm.at (i:=3) Z,dm.at (i:=7) Z⟩ fun kI927=>FR 13 Z<|B6 [((a0.getD b.toNat Qq2).2)] (r:=.tree) (fun _=>KP _ _ _ _ _ _) dm (.c5 (Go.E.Rp.DT ⟨_,_,Z,Z,⟨_,_,Z,Z,⟨_,_,Z,⟨_,Z,(e646h3.mono  Ah)⟩,⟨_,_,Z,⟨_,Z,(e646h4.mono  Ah)⟩,⟨_,Z,(e646h5.mono  Ah)⟩⟩⟩⟩⟩) .nil) ?_;intro sj sk pd dn fz lx;have a:=a.trans (Aa fz);refine AW ⟨a.trans (An dn),dn.at (i:=2) Z,dn.at (i:=3) Z,dn.at (i:=7) Z⟩ fun kI929=>FR 14 Z<|Br (r:=.tree) 5 x [((a0.getD b.toNat Qq2).2)] Z Ajq dn Z (((ae.mono e).mono c).mono a) lx ac ?_;intro nk sl ly b5 f0 hu;have a:=a.trans (Aa f0)
        refine AW ⟨a.trans (An b5),b5.at (i:=2) Z,b5.at (i:=3) Z,b5.at (i:=7) Z⟩ fun kI931=>FR 16 Z<|B8 7 Z (row_one (b5.at (i:=4) Z)) b5 Z Z fun sm lz dp=>D6 [0,1,2,3,4,5,6,7,8,9,10,11,12,13,14,15]<|FR 17 Z<|Aq 1 Z<|D6 [0,1,2,3,4,5,6,7,8,9,10,11,12,13,14,15,16]<|FR 18 Z<|Aq 1 Z<|GG<|EK ?_;have b4:=b4.mono (Aa (ip.trans (fz.trans (f0.trans dp))));have ht:=ht.mono (Aa (fz.trans (f0.trans dp)));have hu:=hu.mono (Aa dp);have a:=a.trans (Aa dp);refine AA ((aa++[(d.1.1,d.1.2.1,d.1.2.2)]),(x++[((a0.getD b.toNat Qq2).2)]),(y++[(a0.getD b.toNat Qq2).1]),jq,i7,nk,ly,nj,lw) ⟨lz,((g.mono c).mono a),((k.mono c).mono a),((o.mono c).mono a),b4,hu,ht,h⟩
       refine B6 [((a0.getD b.toNat Qq2).2)] (r:=.tree) (fun _=>KP _ _ _ _ _ _) b3 (.c5 (Go.E.Rp.DT ⟨_,_,Z,Z,⟨_,_,Z,Z,⟨_,_,Z,⟨_,Z,(e646h3.mono  Ah)⟩,⟨_,_,Z,⟨_,Z,(e646h4.mono  Ah)⟩,⟨_,Z,(e646h5.mono  Ah)⟩⟩⟩⟩⟩) .nil) ?_;intro sn so pe dq f1 hv;have a:=a.trans (Aa f1);refine AW ⟨a.trans (An dq),dq.at (i:=2) Z,dq.at (i:=3) Z,dq.at (i:=7) Z⟩ fun kI934=>FR 9 Z ?_;have an:=an.mono (Aa (dl.trans (fy.trans f1)));refine Br (r:=(.vec .byte)) 6 y [(a0.getD b.toNat Qq2).1] Z Ajs dq Z (((af.mono e).mono c).mono a) an ab ?_;intro nl sp l0 dr f2 hw;have a:=a.trans (Aa f2);refine AW ⟨a.trans (An dr),dr.at (i:=2) Z,dr.at (i:=3) Z,dr.at (i:=7) Z⟩ fun kI936=>FR 14 Z ?_;have hv:=hv.mono (Aa f2);refine Br (r:=.tree) 5 x [((a0.getD b.toNat Qq2).2)] Z Ajq dr Z (((ae.mono e).mono c).mono a) hv ac ?_;intro nm sq l1 b6 f3 hx
       have a:=a.trans (Aa f3);refine AW ⟨a.trans (An b6),b6.at (i:=2) Z,b6.at (i:=3) Z,b6.at (i:=7) Z⟩ fun kI938=>FR 16 Z<|B8 7 Z (row_one (b6.at (i:=4) Z)) b6 Z Z fun sr l2 ds=>D6 [0,1,2,3,4,5,6,7,8,9,10,11,12,13,14,15]<|FR 17 Z<|Aq 1 Z<|D6 [0,1,2,3,4,5,6,7,8,9,10,11,12,13,14,15,16]<|FR 18 Z<|Aq 1 Z<|GG<|EK ?_;have b4:=b4.mono (Aa (f1.trans (f2.trans (f3.trans ds))));have hw:=hw.mono (Aa (f3.trans ds));have hx:=hx.mono (Aa ds);have a:=a.trans (Aa ds);refine AA ((aa++[(d.1.1,d.1.2.1,d.1.2.2)]),(x++[((a0.getD b.toNat Qq2).2)]),(y++[(a0.getD b.toNat Qq2).1]),jq,i7,nm,l1,nl,l0) ⟨l2,((g.mono c).mono a),((k.mono c).mono a),((o.mono c).mono a),b4,hx,hw,h⟩
      refine B6 [((a0.getD b.toNat Qq2).2)] (r:=.tree) (fun _=>KP _ _ _ _ _ _) b0 (.c5 (Go.E.Rp.DT ⟨_,_,Z,Z,⟨_,_,Z,Z,⟨_,_,Z,⟨_,Z,(e646h3.mono  Ah)⟩,⟨_,_,Z,⟨_,Z,(e646h4.mono  Ah)⟩,⟨_,Z,(e646h5.mono  Ah)⟩⟩⟩⟩⟩) .nil) ?_;intro ss su pf dt f4 hy;have a:=a.trans (Aa f4);refine AW ⟨a.trans (An dt),dt.at (i:=2) Z,dt.at (i:=3) Z,dt.at (i:=7) Z⟩ fun kI941=>FR 4 Z ?_;have e:=e.trans (Aa (aj.trans (ak.trans (al.trans (p.trans (q.trans (t.trans u)))))));have eu:=eu.mono (Aa f4);refine Br (r:=AjV) 4 aa [(d.1.1,d.1.2.1,d.1.2.2)] Z AjD dt Z (((ai.mono e).mono c).mono a) eu ah ?_;intro nn sv l3 du f5 hz;have a:=a.trans (Aa f5);refine AW ⟨a.trans (An du),du.at (i:=2) Z,du.at (i:=3) Z,du.at (i:=7) Z⟩ fun kI943=>A8 15 ad kI943 Z (fun _ _=>Ae Z AjB Z La.e) Z<|FR 9 Z ?_
      have an:=an.mono (Aa (dl.trans (f4.trans f5)));refine Br (r:=(.vec .byte)) 6 y [(a0.getD b.toNat Qq2).1] Z Ajs du Z (((af.mono e).mono c).mono a) an ab ?_;intro no sw l4 dv f6 h0;have a:=a.trans (Aa f6);refine AW ⟨a.trans (An dv),dv.at (i:=2) Z,dv.at (i:=3) Z,dv.at (i:=7) Z⟩ fun kI945=>FR 14 Z ?_;have hy:=hy.mono (Aa (f5.trans f6));refine Br (r:=.tree) 5 x [((a0.getD b.toNat Qq2).2)] Z Ajq dv Z (((ae.mono e).mono c).mono a) hy ac ?_;intro np sx l5 b7 f7 h1;have a:=a.trans (Aa f7);refine AW ⟨a.trans (An b7),b7.at (i:=2) Z,b7.at (i:=3) Z,b7.at (i:=7) Z⟩ fun kI947=>FR 16 Z<|B8 7 Z (row_one (b7.at (i:=4) Z)) b7 Z Z fun sy l6 dw=>D6 [0,1,2,3,4,5,6,7,8,9,10,11,12,13,14,15]<|FR 17 Z<|Aq 1 Z<|D6 [0,1,2,3,4,5,6,7,8,9,10,11,12,13,14,15,16]<|FR 18 Z ?_
      refine Aq 1 Z<|GG<|EK ?_;have hz:=hz.mono (Aa (f6.trans (f7.trans dw)));have h0:=h0.mono (Aa (f7.trans dw));have h1:=h1.mono (Aa dw);have a:=a.trans (Aa dw);refine AA ((aa++[(d.1.1,d.1.2.1,d.1.2.2)]),(x++[((a0.getD b.toNat Qq2).2)]),(y++[(a0.getD b.toNat Qq2).1]),nn,l3,np,l5,no,l4) ⟨l6,((g.mono c).mono a),((k.mono c).mono a),((o.mono c).mono a),hz,h1,h0,h⟩
     refine B6 [((a0.getD b.toNat Qq2).2)] (r:=.tree) (fun _=>KP _ _ _ _ _ _) bz (.c5 (Go.E.Rp.DT ⟨_,_,Z,Z,⟨_,_,Z,Z,⟨_,_,Z,⟨_,Z,(e646h3.mono  Ah)⟩,⟨_,_,Z,⟨_,Z,(e646h4.mono  Ah)⟩,⟨_,Z,(e646h5.mono  Ah)⟩⟩⟩⟩⟩) .nil) ?_;intro sz s0 pg dx iq h2;have a:=a.trans (Aa iq);refine AW ⟨a.trans (An dx),dx.at (i:=2) Z,dx.at (i:=3) Z,dx.at (i:=7) Z⟩ fun kI950=>FR 3 Z ?_;have g:=g.mono (Aa (p.trans (q.trans (t.trans u))));have k:=k.mono (Aa (p.trans (q.trans (t.trans u))));have o:=o.mono (Aa (p.trans (q.trans (t.trans u))));have c:=c.trans (Aa (a9.trans (ba.trans (bb.trans bf))));refine B6 [(d.1.1,d.1.2.1,d.1.2.2)] (r:=AjV) (fun _=>Sl _ _ _ _) dx (.c3 ⟨_,_,Z,⟨_,Z,((g.mono c).mono a)⟩,⟨_,_,Z,⟨_,Z,((k.mono c).mono a)⟩,⟨_,Z,((o.mono c).mono a)⟩⟩⟩ .nil) ?_;intro s1 s2 ph dy f8 l7;have a:=a.trans (Aa f8)
     refine AW ⟨a.trans (An dy),dy.at (i:=2) Z,dy.at (i:=3) Z,dy.at (i:=7) Z⟩ fun kI952=>FR 4 Z ?_;have e:=e.trans (Aa (aj.trans (ak.trans (al.trans (p.trans (q.trans (t.trans u)))))));refine Br (r:=AjV) 4 aa [(d.1.1,d.1.2.1,d.1.2.2)] Z AjD dy Z (((ai.mono e).mono c).mono a) l7 ah ?_;intro nq s3 l8 dz f9 h3;have a:=a.trans (Aa f9);refine AW ⟨a.trans (An dz),dz.at (i:=2) Z,dz.at (i:=3) Z,dz.at (i:=7) Z⟩ fun kI954=>A8 15 ad kI954 Z (fun _ _=>Ae Z AjB Z La.e) Z<|FR 9 Z ?_;have an:=an.mono (Aa (iq.trans (f8.trans f9)));refine Br (r:=(.vec .byte)) 6 y [(a0.getD b.toNat Qq2).1] Z Ajs dz Z (((af.mono e).mono c).mono a) an ab ?_;intro nr s4 l9 d0 ga h4;have a:=a.trans (Aa ga);refine AW ⟨a.trans (An d0),d0.at (i:=2) Z,d0.at (i:=3) Z,d0.at (i:=7) Z⟩ fun kI956=>?_
     refine FR 14 Z ?_;have h2:=h2.mono (Aa (f8.trans (f9.trans ga)));refine Br (r:=.tree) 5 x [((a0.getD b.toNat Qq2).2)] Z Ajq d0 Z (((ae.mono e).mono c).mono a) h2 ac ?_;intro ns s5 ma b8 gb h5;have a:=a.trans (Aa gb);refine AW ⟨a.trans (An b8),b8.at (i:=2) Z,b8.at (i:=3) Z,b8.at (i:=7) Z⟩ fun kI958=>FR 16 Z<|B8 7 Z (row_one (b8.at (i:=4) Z)) b8 Z Z fun s6 mb d1=>D6 [0,1,2,3,4,5,6,7,8,9,10,11,12,13,14,15]<|FR 17 Z<|Aq 1 Z<|D6 [0,1,2,3,4,5,6,7,8,9,10,11,12,13,14,15,16]<|FR 18 Z<|Aq 1 Z<|GG<|EK ?_;have h3:=h3.mono (Aa (ga.trans (gb.trans d1)));have h4:=h4.mono (Aa (gb.trans d1));have h5:=h5.mono (Aa d1);have a:=a.trans (Aa d1)
     refine AA ((aa++[(d.1.1,d.1.2.1,d.1.2.2)]),(x++[((a0.getD b.toNat Qq2).2)]),(y++[(a0.getD b.toNat Qq2).1]),nq,l8,ns,ma,nr,l9) ⟨mb,((g.mono c).mono a),((k.mono c).mono a),((o.mono c).mono a),h3,h5,h4,h⟩
    refine A1 h fun ah h=>A1 h fun ab h=>A1 h fun ac h=>B6 [((a0.getD b.toNat Qq2).2)] (r:=.tree) (fun _=>KP _ _ _ _ _ _) a2 (.c5 (Go.E.Rp.DT ⟨_,_,Z,Z,⟨_,_,Z,Z,⟨_,_,Z,⟨_,Z,(e646h3.mono  Ah)⟩,⟨_,_,Z,⟨_,Z,(e646h4.mono  Ah)⟩,⟨_,Z,(e646h5.mono  Ah)⟩⟩⟩⟩⟩) .nil) ?_;intro s7 s8 pi b9 jr au;have a:=a.trans (Aa jr);refine AW ⟨a.trans (An b9),b9.at (i:=2) Z,b9.at (i:=3) Z,b9.at (i:=7) Z⟩ fun kI961=>NI2 3 8 Z Z ?_ ?_
    ·have g:=g.mono (Aa (p.trans (q.trans (t.trans u))));have k:=k.mono (Aa (p.trans (q.trans (t.trans u))));have o:=o.mono (Aa (p.trans (q.trans (t.trans u))));have c:=c.trans (Aa (a9.trans (ba.trans (bb.trans bf))));refine B6 [(d.1.1,d.1.2.1,d.1.2.2)] (r:=AjV) (fun _=>Sl _ _ _ _) b9 (.c3 ⟨_,_,Z,⟨_,Z,((g.mono c).mono a)⟩,⟨_,_,Z,⟨_,Z,((k.mono c).mono a)⟩,⟨_,Z,((o.mono c).mono a)⟩⟩⟩ .nil) ?_;intro s9 ta pj ca gc ev;have a:=a.trans (Aa gc);refine AW ⟨a.trans (An ca),ca.at (i:=2) Z,ca.at (i:=3) Z,ca.at (i:=7) Z⟩ fun kI963=>NI2 4 8 Z Z ?_ ?_
     ·have e:=e.trans (Aa (aj.trans (ak.trans (al.trans (p.trans (q.trans (t.trans u)))))));refine Br (r:=AjV) 4 aa [(d.1.1,d.1.2.1,d.1.2.2)] Z AjD ca Z (((ai.mono e).mono c).mono a) ev ah ?_;intro nt tb mc d2 ir h6;have a:=a.trans (Aa ir);refine AW ⟨a.trans (An d2),d2.at (i:=2) Z,d2.at (i:=3) Z,d2.at (i:=7) Z⟩ fun kI965=>A8 15 ad kI965 Z (fun _ _=>Ae Z AjB Z La.e) Z<|FR 8 Z<|B6 [(a0.getD b.toNat Qq2).1] (r:=(.vec .byte)) (fun _=>Nu _ e646h0.one _) d2 (.c1 ⟨_,Z,(e646h0.mono  Ah)⟩ .nil) ?_;intro tc td pk d3 gd md;have a:=a.trans (Aa gd);refine AW ⟨a.trans (An d3),d3.at (i:=2) Z,d3.at (i:=3) Z,d3.at (i:=7) Z⟩ fun kI967=>FR 9 Z<|Br (r:=(.vec .byte)) 6 y [(a0.getD b.toNat Qq2).1] Z Ajs d3 Z (((af.mono e).mono c).mono a) md ab ?_;intro nu te me d4 ge h7
      have a:=a.trans (Aa ge);refine AW ⟨a.trans (An d4),d4.at (i:=2) Z,d4.at (i:=3) Z,d4.at (i:=7) Z⟩ fun kI969=>FR 14 Z ?_;have au:=au.mono (Aa (gc.trans (ir.trans (gd.trans ge))));refine Br (r:=.tree) 5 x [((a0.getD b.toNat Qq2).2)] Z Ajq d4 Z (((ae.mono e).mono c).mono a) au ac ?_;intro nv tf mf cb gf h8;have a:=a.trans (Aa gf);refine AW ⟨a.trans (An cb),cb.at (i:=2) Z,cb.at (i:=3) Z,cb.at (i:=7) Z⟩ fun kI971=>FR 16 Z<|B8 7 Z (row_one (cb.at (i:=4) Z)) cb Z Z fun tg mg d5=>D6 [0,1,2,3,4,5,6,7,8,9,10,11,12,13,14,15]<|FR 17 Z<|Aq 1 Z<|D6 [0,1,2,3,4,5,6,7,8,9,10,11,12,13,14,15,16]<|FR 18 Z<|Aq 1 Z<|GG<|EK ?_;have h6:=h6.mono (Aa (gd.trans (ge.trans (gf.trans d5))));have h7:=h7.mono (Aa (gf.trans d5));have h8:=h8.mono (Aa d5)
      have a:=a.trans (Aa d5);refine AA ((aa++[(d.1.1,d.1.2.1,d.1.2.2)]),(x++[((a0.getD b.toNat Qq2).2)]),(y++[(a0.getD b.toNat Qq2).1]),nt,mc,nv,mf,nu,me) ⟨mg,((g.mono c).mono a),((k.mono c).mono a),((o.mono c).mono a),h6,h8,h7,h⟩
     refine B6 [(a0.getD b.toNat Qq2).1] (r:=(.vec .byte)) (fun _=>Nu _ e646h0.one _) ca (.c1 ⟨_,Z,(e646h0.mono  Ah)⟩ .nil) ?_;intro th ti pl d6 gg h9;have a:=a.trans (Aa gg);refine AW ⟨a.trans (An d6),d6.at (i:=2) Z,d6.at (i:=3) Z,d6.at (i:=7) Z⟩ fun kI974=>FR 4 Z ?_;have e:=e.trans (Aa (aj.trans (ak.trans (al.trans (p.trans (q.trans (t.trans u)))))));have ev:=ev.mono (Aa gg);refine Br (r:=AjV) 4 aa [(d.1.1,d.1.2.1,d.1.2.2)] Z AjD d6 Z (((ai.mono e).mono c).mono a) ev ah ?_;intro nx tj mh d7 gh ia;have a:=a.trans (Aa gh);refine AW ⟨a.trans (An d7),d7.at (i:=2) Z,d7.at (i:=3) Z,d7.at (i:=7) Z⟩ fun kI976=>A8 15 ad kI976 Z (fun _ _=>Ae Z AjB Z La.e) Z<|FR 9 Z ?_;have h9:=h9.mono (Aa gh)
     refine Br (r:=(.vec .byte)) 6 y [(a0.getD b.toNat Qq2).1] Z Ajs d7 Z (((af.mono e).mono c).mono a) h9 ab ?_;intro ny tk mi d8 gi ib;have a:=a.trans (Aa gi);refine AW ⟨a.trans (An d8),d8.at (i:=2) Z,d8.at (i:=3) Z,d8.at (i:=7) Z⟩ fun kI978=>FR 14 Z ?_;have au:=au.mono (Aa (gc.trans (gg.trans (gh.trans gi))));refine Br (r:=.tree) 5 x [((a0.getD b.toNat Qq2).2)] Z Ajq d8 Z (((ae.mono e).mono c).mono a) au ac ?_;intro nz tl mj cc gj ic;have a:=a.trans (Aa gj);refine AW ⟨a.trans (An cc),cc.at (i:=2) Z,cc.at (i:=3) Z,cc.at (i:=7) Z⟩ fun kI980=>FR 16 Z<|B8 7 Z (row_one (cc.at (i:=4) Z)) cc Z Z fun tm mk d9=>D6 [0,1,2,3,4,5,6,7,8,9,10,11,12,13,14,15]<|FR 17 Z<|Aq 1 Z<|D6 [0,1,2,3,4,5,6,7,8,9,10,11,12,13,14,15,16]<|FR 18 Z<|Aq 1 Z<|GG ?_
     refine EK ?_;have ia:=ia.mono (Aa (gi.trans (gj.trans d9)));have ib:=ib.mono (Aa (gj.trans d9));have ic:=ic.mono (Aa d9);have a:=a.trans (Aa d9);refine AA ((aa++[(d.1.1,d.1.2.1,d.1.2.2)]),(x++[((a0.getD b.toNat Qq2).2)]),(y++[(a0.getD b.toNat Qq2).1]),nx,mh,nz,mj,ny,mi) ⟨mk,((g.mono c).mono a),((k.mono c).mono a),((o.mono c).mono a),ia,ic,ib,h⟩
    refine B6 [(a0.getD b.toNat Qq2).1] (r:=(.vec .byte)) (fun _=>Nu _ e646h0.one _) b9 (.c1 ⟨_,Z,(e646h0.mono  Ah)⟩ .nil) ?_;intro tn tp pm ea is ie;have a:=a.trans (Aa is);refine AW ⟨a.trans (An ea),ea.at (i:=2) Z,ea.at (i:=3) Z,ea.at (i:=7) Z⟩ fun kI983=>FR 3 Z ?_;have g:=g.mono (Aa (p.trans (q.trans (t.trans u))));have k:=k.mono (Aa (p.trans (q.trans (t.trans u))));have o:=o.mono (Aa (p.trans (q.trans (t.trans u))));have c:=c.trans (Aa (a9.trans (ba.trans (bb.trans bf))));refine B6 [(d.1.1,d.1.2.1,d.1.2.2)] (r:=AjV) (fun _=>Sl _ _ _ _) ea (.c3 ⟨_,_,Z,⟨_,Z,((g.mono c).mono a)⟩,⟨_,_,Z,⟨_,Z,((k.mono c).mono a)⟩,⟨_,Z,((o.mono c).mono a)⟩⟩⟩ .nil) ?_;intro tq tr pn eb gk ml;have a:=a.trans (Aa gk);refine AW ⟨a.trans (An eb),eb.at (i:=2) Z,eb.at (i:=3) Z,eb.at (i:=7) Z⟩ fun kI985=>FR 4 Z ?_
    have e:=e.trans (Aa (aj.trans (ak.trans (al.trans (p.trans (q.trans (t.trans u)))))));refine Br (r:=AjV) 4 aa [(d.1.1,d.1.2.1,d.1.2.2)] Z AjD eb Z (((ai.mono e).mono c).mono a) ml ah ?_;intro n0 ts mm ec gl ig;have a:=a.trans (Aa gl);refine AW ⟨a.trans (An ec),ec.at (i:=2) Z,ec.at (i:=3) Z,ec.at (i:=7) Z⟩ fun kI987=>A8 15 ad kI987 Z (fun _ _=>Ae Z AjB Z La.e) Z<|FR 9 Z ?_;have ie:=ie.mono (Aa (gk.trans gl));refine Br (r:=(.vec .byte)) 6 y [(a0.getD b.toNat Qq2).1] Z Ajs ec Z (((af.mono e).mono c).mono a) ie ab ?_;intro n1 tt mn ed gm ih;have a:=a.trans (Aa gm);refine AW ⟨a.trans (An ed),ed.at (i:=2) Z,ed.at (i:=3) Z,ed.at (i:=7) Z⟩ fun kI989=>FR 14 Z ?_;have au:=au.mono (Aa (is.trans (gk.trans (gl.trans gm))))
    refine Br (r:=.tree) 5 x [((a0.getD b.toNat Qq2).2)] Z Ajq ed Z (((ae.mono e).mono c).mono a) au ac ?_;intro n2 tu mo cd gn ii;have a:=a.trans (Aa gn);refine AW ⟨a.trans (An cd),cd.at (i:=2) Z,cd.at (i:=3) Z,cd.at (i:=7) Z⟩ fun kI991=>FR 16 Z<|B8 7 Z (row_one (cd.at (i:=4) Z)) cd Z Z fun tv mp ee=>D6 [0,1,2,3,4,5,6,7,8,9,10,11,12,13,14,15]<|FR 17 Z<|Aq 1 Z<|D6 [0,1,2,3,4,5,6,7,8,9,10,11,12,13,14,15,16]<|FR 18 Z<|Aq 1 Z<|GG<|EK ?_;have ig:=ig.mono (Aa (gm.trans (gn.trans ee)));have ih:=ih.mono (Aa (gn.trans ee));have ii:=ii.mono (Aa ee);have a:=a.trans (Aa ee)
    refine AA ((aa++[(d.1.1,d.1.2.1,d.1.2.2)]),(x++[((a0.getD b.toNat Qq2).2)]),(y++[(a0.getD b.toNat Qq2).1]),n0,mm,n2,mo,n1,mn) ⟨mp,((g.mono c).mono a),((k.mono c).mono a),((o.mono c).mono a),ig,ii,ih,h⟩
   rintro⟨ek,el,em,cn,bc,co,bd,cp,be⟩ po ⟨i8,n3,n4,n5,js,jt,ju,h⟩;refine A2<|Ar ?_;have ef:=i8.rG H;refine As<|A1 h fun mq h=>Ai (A6 mq)<|Aq 1 Z<|AL ?_;have mr:=i8.AQ (i:=0) Z;have ms:=mr.AQ (i:=0) Z;have mt:=ms.AQ (i:=0) Z;have mu:=mt.AQ (i:=0) Z;have h:=Ce.again h es;have ef:=ef.trans (Aa ((Ak (i:=0) Z).trans ((Ak (i:=0) Z).trans ((Ak (i:=0) Z).trans (Ak (i:=0) Z)))));refine AM (el,em,ek,(b+1),co,bd,cp,be,cn,bc,iy) Z ⟨mu,(js.mono ef),(jt.mono ef),(ju.mono ef),h⟩
  refine B2<|AD<|A5 ?_;have h:=Ce.out h es;refine Bf<|AA (x,y,aa,a4,av,a5,aw,ap,ax) ⟨er,(ai.mono e),(ae.mono e),(af.mono e),h⟩
 rintro⟨e4,e5,a8,ep,ci,eq,cj,bg,a3⟩ pp ⟨i9,it,jv,jw,h⟩;have ag:=i9.rG H;refine Aj<|A9 AF.e Z i9 fun pq ja iu je _=>Ac<|By (Int×Int×Int×AjJ×Int×AjI×Value×Value) (fun⟨ew,ex,ey,ez,e0,e1,eg,eh⟩=>[(2,(Acy b1)),(3,(Acy b2)),(4,(Acy ch)),(12,(Acy ja))]) (fun⟨ew,ex,ey,ez,e0,e1,eg,eh⟩ wr=>FI w [.box ja [No ew,No ex] 28,.row bg 98 3 (a8).length a3,.box ch [No ey,eg,No e0,eh,bg] 52,.box b2 [No 0,No 0] 28,.box b1 [No 0,AaB,No 0,AaB,AaB] 52] wr fun Oz=>AG AjV (gz H w wr Oz) a8 a3/\AJ (.pair .st (.vec AjW)) (gz H w wr Oz) eg ez/\AJ AjU (gz H w wr Oz) eh e1/\(Eh a8) ew ex ey ez e0 e1=some r) ?_ ?_
 ·refine Bt 1 Z ?_;have ag:=ag.trans (Aa je);have jx:=iu.Dn hH (i:=3) Z (jw.mono ag);have go:=iu.AQ (i:=3) Z;refine Aw h fun ce jy h=>Bh go (Vy _ _ (An go) (hU.mono  Ah) jx jy) ?_;rintro _ pr ⟨gr,rfl,i2⟩ jz j0 gs;have ao:=i2.mono (DS go jz);refine Aq 3 Z<|Ai (Ae Z AjB Z L7.e)<|WH 3 0 Z j0 Z Z Z (Bn Z (Bn ao.one Ky)) fun ps j1 cf=>Af 0 Z j1 Z fun pt ei cg=>Ac<|Aj<|Ai (A4 0 Z AF.e ei Z)<|Ai (AT (fun _=>BM _))<|Ai (AaK Jg (MR _ _ _ _))<|Ac<|AO h ?_ ?_<;>intro j2 h
  ·refine As<|Aq 1 Z ?_;have ag:=ag.trans (Aa ((Ak (i:=3) Z).trans (gs.trans (cf.trans cg))));have j3:=ei.Dn hH (i:=2) Z (jv.mono ag);have gp:=ei.AQ (i:=2) Z;refine Aw h fun e2 j4 h=>Bh gp (Ue _ _ (An gp) j3 j4) ?_;rintro _ pu ⟨jf,rfl,i3⟩ j5 j6 gt;have a7:=i3.mono (DS gp j5);refine Aq 3 Z<|Ai (Ae Z AjB Z Mw.e)<|WH 2 2 Z j6 Z Z Z (Bn Z (Bn a7.one Ky)) fun pv j7 en=>Af 0 Z j7 Z fun pw j8 eo=>AL ?_;have ao:=ao.mono (Aa (cf.trans (cg.trans ((Ak (i:=2) Z).trans (gt.trans (en.trans eo))))));have ag:=ag.trans (Aa ((Ak (i:=2) Z).trans (gt.trans (en.trans eo))));have a7:=a7.mono (Aa (en.trans eo));refine AA (e2.2.1,e2.2.2,ce.1.1,ce.1.2,e2.1.1,e2.1.2,gr,jf) ⟨j8,(it.mono ag),ao,a7,h⟩
  refine Av ?_;have ag:=ag.trans (Aa ((Ak (i:=3) Z).trans (gs.trans (cf.trans cg))));have j9:=ei.AQ (i:=2) Z;have ao:=ao.mono (Aa (cf.trans (cg.trans (Ak (i:=2) Z))));have ag:=ag.trans (Aa (Ak (i:=2) Z));refine AA (ce.2.1,ce.2.2,ce.1.1,ce.1.2,0,[],gr,AaB) ⟨j9,(it.mono ag),ao,(AJ.nil _ _),h⟩
 rintro⟨ew,ex,ey,ez,e0,e1,eg,eh⟩ op ⟨ay,he1024_j424,gu,gv,h⟩;refine AB ?_;have az:=ay.rG H;refine Aj<|Ai (A4 0 Z AF.e ay Z)<|Ai (AT (fun _=>BM _))<|Ai (JJ Jg (MR _ _ _ _))<|Ac<|CN h ?_ ?_<;>intro ka h
 ·refine Aj<|Ai (AT (fun _=>Uv _))<|Aw h fun px kb h=>AE ay (CY _ _ (An ay) kb) fun py oq kc n6=>Af 4 Z kc Z fun pz kd n7=>Af 3 Z kd Z fun p0 gq n8=>Ac<|Ay<|Ao ?_
  cases h
  refine Bu (.cell Z AjB Z JK.e (AH (i:=4) gq Z)) (.cell Z Aje Z AF.e (AH (i:=3) gq Z)) ⟨gq.ext,_,_,_,Z,(AJ.nil _ _),(AJ.nil _ _),Ci.nil⟩
 refine Av<|Ar<|Aj<|Ai (A4 2 Z JK.e ay Z)<|Ai (AT (fun _=>BM _))<|Af 4 Z ay Z (a:=(Bn Z (Bn (gu.mono az).one (Bn Z (Bn (gv.mono az).one (Bn (row_one (ay.at (i:=1) Z)) Ky)))))) fun p1 ke jg=>Af 3 Z ke Z fun p2 ej jh=>Ac<|Ay ?_
 cases h
 refine Bu (.cell Z AjB Z JK.e (AH (i:=4) ej Z)) (.cell Z Aje Z AF.e (AH (i:=3) ej Z)) ?_;have az:=az.trans (Aa (jg.trans jh));exact⟨ej.ext,_,_,_,Z,((gu.mono az).mono  E7),((gv.mono az).mono  E7),(ej.Ii hH (i:=1) Z (he1024_j424.mono az))⟩
def BE(a0:(Int×AjJ)×(Int×AjI)×(List AjK)):Option Int:=
 some ((a0.2.2.length:Int))
theorem Dj(a0:(Int×AjJ)×(Int×AjI)×(List AjK)){a b c:Value}(_h0_0:AJ (.pair .st (.vec AjW)) H a (a0.1.2))(_h0_1:AJ AjU H b (a0.2.1.2))(e:AJ AjV H c (a0.2.2)){r:Int}(h:BE a0=some r):
  Qqv 22 [.agg #[No a0.1.1,a,No a0.2.1.1,b,c]] w (fun v w'=>v=No r):=by
 refine Az 6 [(0,.agg #[No a0.1.1,a,No a0.2.1.1,b,c])] func22 Z fun hL=>Aj<|C9 (t:=52) Z Z hL fun g i d f _=>A7 1 Z<|Aj<|Ai (Ae Z AjB Z La.e)<|Ai (Ag 0 Z d Z)<|Ai (Bk e)<|A7 1 Z<|Ay ?_
 cases h
 refine Al Z ⟨d.ext,Z⟩
def FZ(a:List Bool):Option ((List Bool)):=
 some a
def Dx(a1:List Int):(List Bool)×Int->Option (((List Bool)×Int) ⊕ ((List Bool))):=fun⟨b,a⟩=>
 if a<(a1.length:Int) then AN (0<=a/\a<(a1.length:Int)) (AN (0<=a1.getD a.toNat Qq2/\a1.getD a.toNat Qq2<(b.length:Int)) (AN (Bz (a+1)) (some (Sum.inl ((b.set ((a1.getD a.toNat Qq2).toNat) true),(a+1)))))) else Qq7 Sum.inr (FZ b)
def Ga(a1:List Int)(s:(List Bool)×Int):Option ((List Bool)):=Go.L.run (Dx a1) s
def EP(a0:(Int×AjJ)×(Int×AjI)×(List AjK))(a1:List Int):Option ((List Bool)):=
 Qq4 (BE ((a0.1.1,a0.1.2),(a0.2.1.1,a0.2.1.2),a0.2.2)) (fun a=>AN (0<=a/\((1:Nat):Int) * a<=281474976710656/\a<=9223372036854775807) ((Ga a1) ((Qzz a.toNat (false:Bool)),0)))
theorem Qb{a0:(Int×AjJ)×(Int×AjI)×(List AjK)}{a1:List Int}{e f g k:Value}(ad:AJ (.pair .st (.vec AjW)) H e (a0.1.2))(ae:AJ AjU H f (a0.2.1.2))(af:AJ AjV H g (a0.2.2))(q:AJ (.int .i64) H k a1){r:(List Bool)}(h:EP a0 a1=some r):
  Qqv 91 [.agg #[No a0.1.1,e,No a0.2.1.1,f,g],k] w (fun v w'=>∃ u0,v=u0/\Ci 4 .bool H w w' u0 r):=by
 refine Az 22 [(0,.agg #[No a0.1.1,e,No a0.2.1.1,f,g]),(1,k)] func91 Z fun hL=>Aj<|C9 (t:=52) Z Z hL fun w1 b1 s ay _=>A7 1 Z<|Aj<|Ai (A4 0 Z JK.e s Z)<|Aw h fun x2 ap h=>AE s (Dj _ _ (An s) (((a0.1.1,a0.1.2),(a0.2.1.1,a0.2.1.2),a0.2.2)) (ad.mono  Ah) (ae.mono  Ah) (af.mono  Ah) ap) fun w3 a6 aq a2=>A1 h fun ar h=>Xv (r:=.bool) (z:=(false:Bool)) AjE (fun _=>Z) hH aq ar fun v4 w4 au av a3 aw=>A7 1 Z<|By ((List Bool)×(List Value)) (fun⟨m,d⟩=>[(5,v4)]) (fun⟨m,d⟩ wr=>FI w [.row v4 4 1 (m).length d,.box b1 [No a0.1.1,e,No a0.2.1.1,f,g] 52] wr fun Oz=>AG .bool (gz H w wr Oz) m d/\FZ m=some r) ?_ ?_
 ·refine Bt 1 Z<|Ai (Bk q)<|A7 1 Z<|A3 ?_;obtain⟨u,h⟩:=Ba h;refine B5 ((List Bool)×Int×(List Value)×Nat) (fun⟨c,a,b,n⟩=>[(5,v4),(11,k),(12,No (a1.length:Int)),(13,No a)]) (fun⟨c,a,b,n⟩ wr=>FI w [.row v4 4 1 (c).length b,.box b1 [No a0.1.1,e,No a0.2.1.1,f,g] 52] wr fun Oz=>AG .bool (gz H w wr Oz) c b/\H8 (Dx a1) n (c,a)=some r) (fun⟨c,a,b,n⟩=>n) ((Qzz x2.toNat (false:Bool)),0,au,u) Z ⟨av,aw,h⟩ ?_;rintro⟨c,a,b,nn44⟩ a4 ⟨l,p,h⟩;obtain⟨u,a7,rfl,h,x⟩:=AY h;refine AI 1 Z<|AB<|AO h ?_ ?_<;>intro ag h
  ·refine Av<|Ar<|AB<|A3<|Aj<|A1 h fun y h=>Be q a.toNat (G1 y) (AX y) ?_;rintro a8 _ rfl ah;refine Ai (Bl ah (hH.trans l.arg))<|A7 1 Z<|As<|Aq 2 Z<|A1 h fun o h=>K6 0 Z AjE YJ.e l Z ((a1.getD a.toNat Qq2).toNat) (G1 o) (AX o) fun a9 ai=>K7 0 ((a1.getD a.toNat Qq2).toNat) true Z Z hH l Z p ai (AX o) Z fun ba aj ak ax al=>AL<|A2<|Ar<|As<|A1 h fun am h=>Ai (A6 am)<|Aq 1 Z<|AL ?_;have h:=Ce.again h x;refine AM (_,_,_,_) Z ⟨ak,al,h⟩
  refine B2<|AD<|A5 ?_;have h:=Ce.out h x;refine Bf<|AA (_,_) ⟨l,p,h⟩
 rintro⟨m,d⟩ a5 ⟨aa,ac,h⟩;refine AI 2 Z<|Ay ?_
 cases h
 refine Al Z ⟨aa.ext,_,Z,(aa.Ii hH (i:=0) Z ac)⟩
def Ja(a:List Int):Option ((List Int)):=
 some a
def GL(a0:List (Int×Int)):(List Int)×Int->Option (((List Int)×Int) ⊕ ((List Int))):=fun⟨b,a⟩=>
 if a<(a0.length:Int) then AN (0<=a/\a<(a0.length:Int)) (AN (Go.E.H7 8 (b.length+([(a0.getD a.toNat Qq2).1]).length)) (AN (Bz (a+1)) (some (Sum.inl ((b++[(a0.getD a.toNat Qq2).1]),(a+1)))))) else Qq7 Sum.inr (Ja b)
def Ku(a0:List (Int×Int))(s:(List Int)×Int):Option ((List Int)):=Go.L.run (GL a0) s
def Hw(a0:List (Int×Int)):Option ((List Int)):=
 (Ku a0) (([]:List Int),0)
theorem OY{a0:List (Int×Int)}{g:Value}(q:AJ AjW H g a0){r:(List Int)}(h:Hw a0=some r):
  Qqv 145 [g] w (fun v w'=>∃ u0,v=u0/\Ci 3 (.int .i64) H w w' u0 r):=by
 refine Az 19 [(0,g)] func145 Z fun hL=>AI 1 Z<|Bt 1 Z ?_;obtain⟨ao,au,ap⟩:=DG (.int .i64) H 3 hL;refine Ac<|By ((List Int)×Value×(List Value)) (fun⟨k,j,e⟩=>[(3,j)]) (fun⟨k,j,e⟩ wr=>FI w [.row j 3 1 (k).length e] wr fun Oz=>AG (.int .i64) (gz H w wr Oz) k e/\Ja k=some r) ?_ ?_
 ·refine Bt 1 Z<|Ai (Bk q)<|A7 1 Z<|A3 ?_;obtain⟨s,h⟩:=Ba h;refine B5 ((List Int)×Int×Value×(List Value)×Nat) (fun⟨c,a,d,b,n⟩=>[(3,d),(6,g),(7,No (a0.length:Int)),(8,No a)]) (fun⟨c,a,d,b,n⟩ wr=>FI w [.row d 3 1 (c).length b] wr fun Oz=>AG (.int .i64) (gz H w wr Oz) c b/\H8 (GL a0) n (c,a)=some r) (fun⟨c,a,d,b,n⟩=>n) (([]:List Int),0,AaB,[],s) Z ⟨ao,ap,h⟩ ?_;rintro⟨c,a,d,b,nn46⟩ av ⟨o,f,h⟩;obtain⟨s,ay,rfl,h,t⟩:=AY h;refine AI 1 Z<|AB<|AO h ?_ ?_<;>intro ad h
  ·refine Av<|Ar<|AB<|A3<|Aj<|A1 h fun u h=>Be q a.toNat (G1 u) (AX u) ?_;rintro az _ ⟨_,_,rfl,rfl,rfl⟩ ae;refine Ai (Cj ae (hH.trans o.arg))<|A9 Hu.e Z o fun a1 a2 af z _=>Af 0 Z af Z fun a3 x aa=>Ac<|As<|Aq 1 Z<|Ai (Ae Z Ajp Z CO.e)<|Ai (Ag 0 Z x Z)<|B6 [(a0.getD a.toNat Qq2).1] (r:=(.int .i64)) (fun _=>Jm _ _) x (.c1 Z .nil) fun a4 a5 aw ag ab ah=>A1 h fun ai h=>?_;have f:=f.mono (Aa (z.trans (aa.trans ab)));refine Br (r:=(.int .i64)) 1 c [(a0.getD a.toNat Qq2).1] Z Ahx ag Z f ah ai fun aq a6 aj ak ar p=>Aq 1 Z<|AL<|A2<|Ar<|As<|A1 h fun al h=>Ai (A6 al)<|Aq 1 Z<|AL ?_;have am:=ak.AQ (i:=0) Z;have h:=Ce.again h t;have p:=p.mono (Aa (Ak (i:=0) Z))
   refine AM (_,_,_,_,_) Z ⟨am,p,h⟩
  refine B2<|AD<|A5 ?_;have h:=Ce.out h t;refine Bf<|AA (_,_,_) ⟨o,f,h⟩
 rintro⟨k,j,e⟩ ax ⟨y,ac,h⟩;refine AI 2 Z<|Ay ?_
 cases h
 refine Al Z ⟨y.ext,_,Z,(y.Ii hH (i:=0) Z ac)⟩
def Bx(a:List Int):Option ((List Int)):=
 some a
def F9(a:List (Int×Int)):Option ((List Int)):=
 Qq4 (Hw a) (fun b=>Bx b)
def DP(a0:(Int×AjJ)×(Int×AjI)×(List AjK))(a1:Qv):(List Int)×Int->Option (((List Int)×Int) ⊕ ((List Int))):=fun⟨b,a⟩=>
 if a<(a0.2.2.length:Int) then AN (0<=a/\a<(a0.2.2.length:Int)) (Qq4 (DB ((a0.2.2.getD a.toNat Qq2).1,(a0.2.2.getD a.toNat Qq2).2.1,(a0.2.2.getD a.toNat Qq2).2.2) a1.f.2.2.2.1) (fun c=>if 0<c.1 then AN (Go.E.H7 8 (b.length+([a]).length)) (AN (Bz (a+1)) (some (Sum.inl ((b++[a]),(a+1))))) else AN (Bz (a+1)) (some (Sum.inl (b,(a+1)))))) else Qq7 Sum.inr (Bx b)
def FA(a0:(Int×AjJ)×(Int×AjI)×(List AjK))(a1:Qv)(s:(List Int)×Int):Option ((List Int)):=Go.L.run (DP a0 a1) s
def DC(a0:(Int×AjJ)×(Int×AjI)×(List AjK))(a1:Qv):Option ((List Int)):=
 if a1.f.1=1 then AN (0<=(0:Int)/\(0:Int)<(a1.f.2.1.length:Int)) (Qq4 (Gp (a0.1.1,a0.1.2) (a1.f.2.1.getD ((0:Int).toNat) Qq2)) (fun a=>F9 a.1)) else(if a1.f.1=2 then Qq4 (Ee (a0.1.1,a0.1.2) a1.f.2.1) (fun b=>Qq4 (Hw b.1) (fun c=>Bx c)) else(if a1.f.1=3 then AN (0<=(0:Int)/\(0:Int)<(a1.f.2.1.length:Int)) (AN (0<=(1:Int)/\(1:Int)<(a1.f.2.1.length:Int)) (Qq4 (EW (a0.1.1,a0.1.2) (a1.f.2.1.getD ((0:Int).toNat) Qq2) (a1.f.2.1.getD ((1:Int).toNat) Qq2) a1.f.2.2.2.2.1) (fun d=>Bx d.1))) else(if a1.f.1=4 then(FA a0 a1) (([]:List Int),0) else(if a1.f.1=5 then Qq4 (Fq (a0.2.1.1,a0.2.1.2) a1.f.2.2.1) (fun e=>Bx e.1) else(if a1.f.1=6 then Qq4 (Ev (a0.2.1.1,a0.2.1.2) a1.f.2.2.1 a1.f.2.2.2.2.1 a1.f.2.2.2.2.2.1) (fun g=>Bx g.1) else(if a1.f.1=7 then Qq4 (Fu (a0.2.1.1,a0.2.1.2) a1.f.2.2.1 a1.f.2.2.2.1) (fun h=>Bx h.1) else Bx ([]:List Int)))))))
theorem P9(hU:Ge H){a0:(Int×AjJ)×(Int×AjI)×(List AjK)}{a1:Qv}{x y p z aa ab:Value}(al:AJ (.pair .st (.vec AjW)) H x (a0.1.2))(bo:AJ AjU H y (a0.2.1.2))(ck:AJ AjV H p (a0.2.2))(am:AJ .st H z (a1.f.2.1))(cl:AJ .byte H aa (a1.f.2.2.2.1))(_h1_2:AJ .B1 H ab (a1.f.2.2.2.2.2.2)){r:(List Int)}(h:DC a0 a1=some r):
  Qqv 92 [.agg #[No a0.1.1,x,No a0.2.1.1,y,p],.agg #[No a1.f.1,z,AcB a1.f.2.2.1,aa,No a1.f.2.2.2.2.1,No a1.f.2.2.2.2.2.1,ab]] w (fun v w'=>∃ u0,v=u0/\Ci 3 (.int .i64) H w w' u0 r):=by
 refine Az 121 [(0,.agg #[No a0.1.1,x,No a0.2.1.1,y,p]),(1,.agg #[No a1.f.1,z,AcB a1.f.2.2.1,aa,No a1.f.2.2.2.2.1,No a1.f.2.2.2.2.2.1,ab])] func92 Z fun hL=>Aj<|C9 (t:=52) Z Z hL fun w1 b1 fi fs _=>C9 (t:=26) Z Z fi fun w2 b2 fj ft _=>A7 1 Z<|Bt 1 Z ?_;obtain⟨b,fu,af⟩:=DG (.int .i64) H 3 fj;refine Ac<|By ((List Int)×Value×(List Value)) (fun⟨ak,ag,s⟩=>[(5,ag)]) (fun⟨ak,ag,s⟩ wr=>FI w [.row ag 3 1 (ak).length s,.box b2 [No a1.f.1,z,AcB a1.f.2.2.1,aa,No a1.f.2.2.2.2.1,No a1.f.2.2.2.2.2.1,ab] 26,.box b1 [No a0.1.1,x,No a0.2.1.1,y,p] 52] wr fun Oz=>AG (.int .i64) (gz H w wr Oz) ak s/\Bx ak=some r) ?_ ?_
 ·refine Aj<|Ai (Ae Z Ajl Z CO.e)<|Ai (Ag 1 Z b Z)<|Ac<|A3<|AI 2 Z<|AO h ?_ ?_<;>intro dc h
  ·refine By (AjL×Value) (fun⟨u,o⟩=>[(6,o)]) (fun⟨u,o⟩ wr=>FI w [.row AaB 3 1 (([]:List Int)).length ([]),.box b2 [No a1.f.1,z,AcB a1.f.2.2.1,aa,No a1.f.2.2.2.2.1,No a1.f.2.2.2.2.2.1,ab] 26,.box b1 [No a0.1.1,x,No a0.2.1.1,y,p] 52] wr fun Oz=>AJ AjW (gz H w wr Oz) o u/\AG (.int .i64) (gz H w wr Oz) (([]:List Int)) ([])/\F9 u=some r) ?_ ?_
   ·refine Qk (Qqz 0 6 (.h2 6 (Qqz 7 3 (.h 10 (.q 11 (.tail 12)))) 10 (.h 6 (Qqz 7 3 (.q 11 (.tail 12)))))) mixed Qqb (fun fv br=>?_);have j:=b.call br;have bd:=AR b br;refine CD Z (Ae Z AjB Z L7.e) Z<|CD Z (K8 2 2 Z L7.e j Z Z) Z<|CD Z (Ae Z Ajl Z Na.e) Z<|CD Z (Ag 1 Z j Z) Z<|A1 h fun bs h=>HR Z Z Z Aed am ((0:Int).toNat) (G1 bs) (AX bs) Z ?_;rintro fw _ rfl dd;refine CD Z (Bl dd (hH.trans j.arg)) Z<|Yz ?_ ?_
    ·refine Aw h fun bp an h=>Cs Z Z Z (fun e7 ah=>Nl _ _ (An (j.call ah)) (hU.mono  Ah) (al.mono  Ah) an) ?_;rintro e7 _ fx ah ao ⟨cm,rfl,cb⟩;have ap:=j.call ah;have cn:=AR j ah;have de:=ap.call ao;have co:=AR ap ao;have ac:=cb.Dn hH ap ao;refine D0 3 Z<|Pp Z AF.e Z Z de fun fy fz bt be=>D0 1 Z<|BU (fun f0 bu=>?_);have df:=bt.call bu;have bf:=AR bt bu;refine Af 0 Z df Z fun f1 dg bg=>AL ?_;have dh:=dg.AQ (i:=0) Z;have af:=af.mono (Aa (bd.trans (cn.trans (co.trans (be.trans (bf.trans (bg.trans (Ak (i:=0) Z))))))));have ac:=ac.mono (Aa (be.trans (bf.trans (bg.trans (Ak (i:=0) Z)))));refine AA (_,_) ⟨dh,ac,af,h⟩
    refine Aw h fun bp an h=>Pp Z AF.e Z Z j fun f2 f3 aq cp=>Cs Z Z Z (fun e8 ai=>Nl _ _ (An (aq.call ai)) (hU.mono  Ah) (al.mono  Ah) an) ?_;rintro e8 _ f4 ai ar ⟨cq,rfl,cc⟩;have au:=aq.call ai;have cr:=AR aq ai;have bv:=au.call ar;have cs:=AR au ar;have ad:=cc.Dn hH au ar;refine D0 4 Z<|BU (fun f5 bw=>?_);have di:=bv.call bw;have bh:=AR bv bw;refine Af 0 Z di Z fun f6 dj bi=>AL ?_;have dk:=dj.AQ (i:=0) Z;have af:=af.mono (Aa (bd.trans (cp.trans (cr.trans (cs.trans (bh.trans (bi.trans (Ak (i:=0) Z))))))));have ad:=ad.mono (Aa (bh.trans (bi.trans (Ak (i:=0) Z))));refine AA (_,_) ⟨dk,ad,af,h⟩
   rintro⟨u,o⟩ fn ⟨av,bq,he142_r3,h⟩;refine As<|Aq 1 Z<|Aw h fun e9 dl h=>Bh av (OY _ _ (An av) bq dl) ?_;rintro ct f7 ⟨_,rfl,cd⟩ dm bx cu;obtain⟨dn,bx,cu,aw⟩:=cd.take hH av dm;refine Aq 1 Z<|AL<|A2 ?_;have dp:=bx.AQ (i:=1) Z;have aw:=aw.mono (Aa (Ak (i:=1) Z));refine AA (_,_,_) ⟨dp,aw,h⟩
  refine AI 2 Z<|AO h ?_ ?_<;>intro dq h
  ·refine Aj<|Ai (Ae Z AjB Z L7.e)<|Ai (K8 2 2 Z L7.e b Z Z)<|Ai (Ae Z Ajl Z Na.e)<|Ai (Ag 1 Z b Z)<|Aw h fun f8 dr h=>Bh b (PW (a0:=(a0.1.1,a0.1.2)) _ _ (An b) (hU.mono  Ah) (al.mono  Ah) (am.mono  Ah) dr) ?_;rintro _ f9 ⟨fk,rfl,ce⟩ ds dt fl;have ae:=ce.Dn hH b ds;refine Aq 3 Z<|A9 AF.e Z dt fun ga gb du cv _=>Aq 1 Z<|Af 0 Z du Z fun gc ax cw=>Ac<|As<|Aq 1 Z<|Aw h fun fa dv h=>?_;have ae:=ae.mono (Aa (cv.trans cw));refine Bh ax (OY _ _ (An ax) ae dv) ?_;rintro cx gd ⟨_,rfl,cf⟩ dw bz cy;obtain⟨dx,bz,cy,ay⟩:=cf.take hH ax dw;refine Aq 1 Z<|AL<|A2 ?_;have dy:=bz.AQ (i:=1) Z;have dz:=dy.AQ (i:=1) Z;have ay:=ay.mono (Aa ((Ak (i:=1) Z).trans (Ak (i:=1) Z)));refine AA (_,_,_) ⟨dz,ay,h⟩
  refine AI 2 Z<|AO h ?_ ?_<;>intro d0 h
  ·refine Qk (Qqz 0 12 (.h 12 (Qqz 13 4 (.tail 17)))) mixed Qqb (fun ge d1=>?_);have e:=b.call d1;refine CD Z (Ae Z AjB Z L7.e) Z<|CD Z (K8 2 2 Z L7.e e Z Z) Z<|CD Z (Ae Z Ajl Z Na.e) Z<|CD Z (Ag 1 Z e Z) Z<|A1 h fun b0 h=>HR Z Z Z Aed am ((0:Int).toNat) (G1 b0) (AX b0) Z ?_;rintro gf _ rfl d2;refine CD Z (Bl d2 (hH.trans e.arg)) Z<|CD Z (Ae Z Ajl Z Na.e) Z<|CD Z (Ag 1 Z e Z) Z<|A1 h fun b3 h=>HR Z Z Z Aed am ((1:Int).toNat) (G1 b3) (AX b3) Z ?_;rintro gg _ rfl d3;refine CD Z (Bl d3 (hH.trans e.arg)) Z<|CD Z (Ae Z Ajl Z CO.e) Z<|CD Z (Ag 1 Z e Z) Z<|Aw h fun fb d4 h=>Cs Z Z Z (fun fc az=>Rl _ _ (An (e.call az)) (hU.mono  Ah) (al.mono  Ah) d4) ?_;rintro fc _ gh az a2 ⟨cz,rfl,cg⟩
   have a3:=e.call az;have a4:=a3.call a2;have c0:=AR a3 a2;obtain⟨d5,a4,c0,a5⟩:=cg.take hH a3 a2;refine D0 4 Z<|BU (fun gi b4=>?_);have d6:=a4.call b4;have c2:=AR a4 b4;refine AL<|A2 ?_;have d7:=d6.AQ (i:=1) Z;have a5:=a5.mono (Aa (c2.trans (Ak (i:=1) Z)));refine AA (_,_,_) ⟨d7,a5,h⟩
  refine AI 2 Z<|AO h ?_ ?_<;>intro d8 h
  ·refine Aj<|Ai (Ae Z AjB Z La.e)<|Ai (Ag 2 Z b Z)<|Ai (Bk ck)<|A7 1 Z<|A3 ?_;obtain⟨a6,h⟩:=Ba h;refine B5 ((List Int)×Int×Value×(List Value)×Nat) (fun⟨g,a,k,c,n⟩=>[(3,(Acy b2)),(5,k),(63,p),(64,No (a0.2.2.length:Int)),(65,No a)]) (fun⟨g,a,k,c,n⟩ wr=>FI w [.row k 3 1 (g).length c,.box b2 [No a1.f.1,z,AcB a1.f.2.2.1,aa,No a1.f.2.2.2.2.1,No a1.f.2.2.2.2.2.1,ab] 26,.box b1 [No a0.1.1,x,No a0.2.1.1,y,p] 52] wr fun Oz=>AG (.int .i64) (gz H w wr Oz) g c/\H8 (DP a0 a1) n (g,a)=some r) (fun⟨g,a,k,c,n⟩=>n) (([]:List Int),0,AaB,[],a6) Z ⟨b,af,h⟩ ?_;rintro⟨g,a,k,c,nn221⟩ fo ⟨a7,d,h⟩;obtain⟨a6,gj,rfl,h,a8⟩:=AY h;refine AI 1 Z<|AB<|AO h ?_ ?_<;>intro d9 h
   ·refine Av<|Ar<|AB<|A3<|Bt 1 Z<|A1 h fun b5 h=>Be ck a.toNat (G1 b5) (AX b5) ?_;rintro gk _ ⟨_,_,rfl,⟨e225v0,rfl,e225h0⟩,⟨_,_,rfl,⟨e225v1,rfl,e225h1⟩,⟨e225v2,rfl,e225h2⟩⟩⟩ ea;refine Ai (Cj ea (hH.trans a7.arg))<|A9 Gv.e Z a7 fun gl gm eb bj _=>Aq 1 Z<|Af 0 Z eb Z (a:=(Bn e225h0.one (Bn e225h1.one (Bn e225h2.one Ky)))) fun gn aj bk=>Ac<|Aj<|Ai (A4 0 Z Gv.e aj Z)<|Ai (Ae Z Ajl Z IF.e)<|Ai (Ag 2 Z aj Z)<|Aw h fun go ec h=>AE aj (P6 (a0:=((a0.2.2.getD a.toNat Qq2).1,(a0.2.2.getD a.toNat Qq2).2.1,(a0.2.2.getD a.toNat Qq2).2.2)) _ _ (An aj) (e225h0.mono  Ah) (e225h1.mono  Ah) (e225h2.mono  Ah) (cl.mono  Ah) ec) fun gp fp ed bl=>Aq 3 Z<|A9 AF.e Z ed fun gq gr ee bm _=>Aq 1 Z<|Af 0 Z ee Z fun gs b6 bn=>Ac<|AI 2 Z ?_
    refine AO h ?_ ?_<;>intro ef h
    ·refine As<|Aq 2 Z<|B6 [a] (r:=(.int .i64)) (fun _=>Jm _ _) b6 (.c1 Z .nil) fun gt gu fq eg c3 eh=>A1 h fun ei h=>?_;have d:=d.mono (Aa (bj.trans (bk.trans (bl.trans (bm.trans (bn.trans c3))))));refine Br (r:=(.int .i64)) 2 g [a] Z Ahx eg Z d eh ei fun fd gv ej ek fm a9=>Aq 1 Z<|AL<|A2<|Ar<|As<|A1 h fun el h=>Ai (A6 el)<|Aq 1 Z<|AL ?_;have em:=ek.AQ (i:=0) Z;have en:=em.AQ (i:=0) Z;have h:=Ce.again h a8;have a9:=a9.mono (Aa ((Ak (i:=0) Z).trans (Ak (i:=0) Z)));refine AM (_,_,_,_,_) Z ⟨en,a9,h⟩
    refine Av<|A2<|Ar<|As<|A1 h fun eo h=>Ai (A6 eo)<|Aq 1 Z<|AL ?_;have ep:=b6.AQ (i:=0) Z;have eq:=ep.AQ (i:=0) Z;have h:=Ce.again h a8;have d:=d.mono (Aa (bj.trans (bk.trans (bl.trans (bm.trans (bn.trans ((Ak (i:=0) Z).trans (Ak (i:=0) Z))))))));refine AM (_,_,_,_,_) Z ⟨eq,d,h⟩
   refine B2<|AD<|A5 ?_;have h:=Ce.out h a8;refine Bf<|A2<|AA (_,_,_) ⟨a7,d,h⟩
  refine AI 2 Z<|AO h ?_ ?_<;>intro er h
  ·refine As<|Ai (Ae Z AjB Z Mw.e)<|Ai (K8 2 2 Z Mw.e b Z Z)<|Ai (Ae Z Ajl Z HC.e)<|Ai (Ag 1 Z b Z)<|Aw h fun fe es h=>Bh b (Q6 (a0:=(a0.2.1.1,a0.2.1.2)) _ _ (An b) (bo.mono  Ah) es) ?_;rintro _ gw ⟨c4,rfl,ch⟩ et b7 c5;obtain⟨eu,b7,c5,ba⟩:=ch.take hH b et;refine Aq 4 Z<|AL<|A2 ?_;have ev:=b7.AQ (i:=1) Z;have ba:=ba.mono (Aa (Ak (i:=1) Z));refine AA (_,_,_) ⟨ev,ba,h⟩
  refine AI 2 Z<|AO h ?_ ?_<;>intro ew h
  ·refine As<|Ai (Ae Z AjB Z Mw.e)<|Ai (K8 2 2 Z Mw.e b Z Z)<|Ai (Ae Z Ajl Z HC.e)<|Ai (Ag 1 Z b Z)<|Ai (Ae Z Ajl Z CO.e)<|Ai (Ag 1 Z b Z)<|Ai (Ae Z Ajl Z CO.e)<|Ai (Ag 1 Z b Z)<|Aw h fun ff ex h=>Bh b (P2 (a0:=(a0.2.1.1,a0.2.1.2)) _ _ (An b) (bo.mono  Ah) ex) ?_;rintro _ gx ⟨c6,rfl,ci⟩ ey b8 c7;obtain⟨ez,b8,c7,bb⟩:=ci.take hH b ey;refine Aq 4 Z<|AL<|A2 ?_;have e0:=b8.AQ (i:=1) Z;have bb:=bb.mono (Aa (Ak (i:=1) Z));refine AA (_,_,_) ⟨e0,bb,h⟩
  refine AI 2 Z<|AO h ?_ ?_<;>intro e1 h
  ·refine As<|Ai (Ae Z AjB Z Mw.e)<|Ai (K8 2 2 Z Mw.e b Z Z)<|Ai (Ae Z Ajl Z HC.e)<|Ai (Ag 1 Z b Z)<|Ai (Ae Z Ajl Z IF.e)<|Ai (Ag 1 Z b Z)<|Aw h fun fg e2 h=>Bh b (Q7 (a0:=(a0.2.1.1,a0.2.1.2)) _ _ (An b) (bo.mono  Ah) (cl.mono  Ah) e2) ?_;rintro _ gy ⟨c8,rfl,cj⟩ e3 b9 c9;obtain⟨e4,b9,c9,bc⟩:=cj.take hH b e3;refine Aq 4 Z<|AL<|A2 ?_;have e5:=b9.AQ (i:=1) Z;have bc:=bc.mono (Aa (Ak (i:=1) Z));refine AA (_,_,_) ⟨e5,bc,h⟩
  refine Av<|A2<|AA (_,_,_) ⟨b,af,h⟩
 rintro⟨ak,ag,s⟩ fr ⟨ca,da,h⟩;refine AI 2 Z<|Ay ?_
 cases h
 refine Al Z ⟨ca.ext,_,Z,(ca.Ii hH (i:=0) Z da)⟩
end
def CA(a:List Bool):Option ((List Bool)):=
 some a
def CB(a:Int)(b:List Bool):Option (((List Bool)×Int) ⊕ ((List Bool))):=
 AN (Bz (a+1)) (some (Sum.inl (b,(a+1))))
def BX(a1:Qv)(d:Int)(c:(List Bool)):(List Bool)×Int->Option (((List Bool)×Int) ⊕ (((List Bool)×Int) ⊕ ((List Bool)))):=fun⟨b,a⟩=>
 if a<(c.length:Int) then AN (0<=a/\a<(c.length:Int)) (if a1.f.1=8 then AN (0<=a/\a<(b.length:Int)) (AN (0<=a/\a<(b.length:Int)) (AN (Bz (a+1)) (some (Sum.inl ((b.set a.toNat (bif b.getD a.toNat Qq2 then c.getD a.toNat Qq2 else false)),(a+1)))))) else AN (0<=a/\a<(b.length:Int)) (AN (0<=a/\a<(b.length:Int)) (AN (Bz (a+1)) (some (Sum.inl ((b.set a.toNat (bif b.getD a.toNat Qq2 then true else c.getD a.toNat Qq2)),(a+1))))))) else Qq7 Sum.inr ((CB d) b)
def D4(a1:Qv)(a:Int)(b:(List Bool))(s:(List Bool)×Int):Option (((List Bool)×Int) ⊕ ((List Bool))):=Go.L.run (BX a1 a b) s
def BF(a0:(Int×AjJ)×(Int×AjI)×(List AjK))(a1:Qv)(self:AjN->Qv->Option ((List Bool))):(List Bool)×Int->Option (((List Bool)×Int) ⊕ ((List Bool))):=fun⟨b,a⟩=>
 if a<((a1.f.2.2.2.2.2.2.drop (1:Int).toNat).length:Int) then AN (0<=a/\a<((a1.f.2.2.2.2.2.2.drop (1:Int).toNat).length:Int)) (Qq4 (self ((a0.1.1,a0.1.2),(a0.2.1.1,a0.2.1.2),a0.2.2) ((a1.f.2.2.2.2.2.2.drop (1:Int).toNat).getD a.toNat Qq2)) (fun c=>(D4 a1 a c) (b,0))) else Qq7 Sum.inr (CA b)
def CC(a0:(Int×AjJ)×(Int×AjI)×(List AjK))(a1:Qv)(self:AjN->Qv->Option ((List Bool)))(s:(List Bool)×Int):Option ((List Bool)):=Go.L.run (BF a0 a1 self) s
def Cd(a0:(Int×AjJ)×(Int×AjI)×(List AjK))(a1:Qv)(self:AjN->Qv->Option ((List Bool)))(a:List Bool):Option ((List Bool)):=
 AN (0<=(1:Int)/\(1:Int)<=(a1.f.2.2.2.2.2.2.length:Int)) ((CC a0 a1 self) (a,0))
def BY(a0:(Int×AjJ)×(Int×AjI)×(List AjK))(a1:Qv)(self:AjN->Qv->Option ((List Bool)))(c:(List Bool)):(List Bool)×Int->Option (((List Bool)×Int) ⊕ ((List Bool))):=fun⟨b,a⟩=>
 if a<(c.length:Int) then AN (0<=a/\a<(b.length:Int)) (AN (0<=a/\a<(b.length:Int)) (AN (Bz (a+1)) (some (Sum.inl ((b.set a.toNat (!(b.getD a.toNat Qq2))),(a+1)))))) else Qq7 Sum.inr ((Cd a0 a1 self) b)
def D5(a0:(Int×AjJ)×(Int×AjI)×(List AjK))(a1:Qv)(self:AjN->Qv->Option ((List Bool)))(a:(List Bool))(s:(List Bool)×Int):Option ((List Bool)):=Go.L.run (BY a0 a1 self a) s
def C8(self:AjN->Qv->Option ((List Bool)))(a0:(Int×AjJ)×(Int×AjI)×(List AjK))(a1:Qv):Option ((List Bool)):=
 Qq4 (IB a1.f.1) (fun c=>if c then Qq4 (DC ((a0.1.1,a0.1.2),(a0.2.1.1,a0.2.1.2),a0.2.2) a1) (fun d=>Qq4 (EP ((a0.1.1,a0.1.2),(a0.2.1.1,a0.2.1.2),a0.2.2) d) (fun b=>some b)) else AN (0<=(0:Int)/\(0:Int)<(a1.f.2.2.2.2.2.2.length:Int)) (Qq4 (self ((a0.1.1,a0.1.2),(a0.2.1.1,a0.2.1.2),a0.2.2) (a1.f.2.2.2.2.2.2.getD ((0:Int).toNat) Qq2)) (fun a=>if a1.f.1=10 then(D5 a0 a1 self a) (a,0) else(Cd a0 a1 self) a)))
def FB(self:AjN->Qv->Option ((List Bool))):Prop:=∀ (w:World) (H:PH) (hH:Le H (hp w)) (hU:Ge H) {a0:(Int×AjJ)×(Int×AjI)×(List AjK)} {a1:Qv} {a:Value} {b:Value} {c:Value} {d:Value} {e:Value} {g:Value} (j:AJ (.pair .st (.vec AjW)) H a (a0.1.2)) (k:AJ AjU H b (a0.2.1.2)) (l:AJ AjV H c (a0.2.2)) (m:AJ .st H d (a1.f.2.1)) (n:AJ .byte H e (a1.f.2.2.2.1)) (o:AJ .B1 H g (a1.f.2.2.2.2.2.2)) {r:(List Bool)} (h:self a0 a1=some r),Ok prog 51 [.agg #[No a0.1.1,a,No a0.2.1.1,b,c],.agg #[No a1.f.1,d,AcB a1.f.2.2.1,e,No a1.f.2.2.2.2.1,No a1.f.2.2.2.2.2.1,g]] w (fun v w'=>Ext w w'/\∃ i,v=i/\Ci 4 .bool H w w' i r)
def Bq:Nat->AjN->Qv->Option ((List Bool))
 | 0=>fun _ _=>none
 | n+1=>C8 (Bq n)
def EY:AjN->Qv->Option ((List Bool)):=Bq 1000
theorem Ng(self:AjN->Qv->Option ((List Bool)))(hself:FB self):FB (C8 self):=by
 intro w H hH hU a0 a1 e g k ad ae af au av aw dc dd a8 r h;unfold FB at hself;refine Az 88 [(0,.agg #[No a0.1.1,e,No a0.2.1.1,g,k]),(1,.agg #[No a1.f.1,ad,AcB a1.f.2.2.1,ae,No a1.f.2.2.2.2.1,No a1.f.2.2.2.2.2.1,af])] func51 Z fun hL=>Aj<|C9 (t:=52) Z Z hL fun w1 b1 ds d7 _=>C9 (t:=26) Z Z ds fun w2 b2 bw d8 _=>A7 1 Z<|AB<|Aj<|Ai (Ae Z Ajl Z CO.e)<|Ai (Ag 0 Z bw Z)<|Aw h fun x3 dt h=>AE bw (M6 _ _ (An bw) dt) fun w4 ep am d9=>Ac<|B3 h ?_ ?_<;>intro du h
 ·refine Eu (Qqz 0 3 (.h 3 (.h 4 (.q 5 (.tail 6))))) mixed Qqb (fun w7 dv=>?_);have bj:=am.call dv
  iterate 2 refine CD Z (A4 1 Z JK.e bj Z) Z ?_
  refine CD Z (A4 0 Z B7.e bj Z) Z<|Aw h fun x9 dw h=>Cs Z Z Z (fun dx a9=>P9 _ _ (An (bj.call a9)) (hU.mono  Ah) (au.mono  Ah) (av.mono  Ah) (aw.mono  Ah) (dc.mono  Ah) (dd.mono  Ah) (a8.mono  Ah) dw) ?_;rintro dx dz eq a9 ba ⟨_,rfl,bx⟩;have bb:=bj.call a9;have ax:=bb.call ba;have d0:=AR bb ba;have s:=bx.Dn hH bb ba;refine Aw h fun er de h=>Cs Z Z Z (fun dy an=>Qb _ _ (An (ax.call an)) (au.mono  Ah) (av.mono  Ah) (aw.mono  Ah) (s.mono (Aa (AR ax an))) de) ?_;rintro dy d1 es an bc ⟨_,rfl,bz⟩;have bd:=ax.call an;have ck:=AR ax an;have s:=s.mono (Aa ck);have be:=bd.call bc;have bk:=AR bd bc;obtain⟨ea,be,bk,bf⟩:=bz.take hH bd bc;have s:=s.mono (Aa bk);refine D0 1 Z<|BU (fun et b0=>?_);have b3:=be.call b0;have bl:=AR be b0;have s:=s.mono (Aa bl);have bf:=bf.mono (Aa bl);refine Ac<|Ay<|Ao ?_
  cases h
  refine Al Z ⟨b3.ext,_,Z,(b3.Ii hH (i:=0) Z bf)⟩
 refine Av<|Ar<|Aj<|Ai (A4 1 Z JK.e am Z)<|A7 2 Z<|Bt 1 Z<|Ai (Ae Z Ajl Z Mh.e)<|Ai (Ag 0 Z am Z)<|A1 h fun b4 h=>Be a8 ((0:Int).toNat) (G1 b4) (AX b4) ?_;rintro eu _ e20t0 df;obtain⟨_,_,rfl,rfl,⟨_,_,rfl,⟨e20v1,rfl,e20h1⟩,⟨_,_,rfl,rfl,⟨_,_,rfl,⟨e20v3,rfl,e20h3⟩,⟨_,_,rfl,rfl,⟨_,_,rfl,rfl,⟨e20v6,rfl,e20h6⟩⟩⟩⟩⟩⟩⟩:=Go.E.Rp.HE e20t0;refine Ai (Cj df (hH.trans am.arg))<|Aw h fun bm dg h=>YI [.agg #[No a0.1.1,e,No a0.2.1.1,g,k]] [] Z Z am (hself _ _ (An am) (hU.mono  Ah) (au.mono  Ah) (av.mono  Ah) (aw.mono  Ah) (e20h1.mono  Ah) (e20h3.mono  Ah) (e20h6.mono  Ah) dg) ?_;rintro d ev ⟨_,rfl,b5⟩ dh ao cl;obtain⟨b6,ao,cl,b7⟩:=b5.take hH am dh;refine A7 1 Z ?_
 refine By ((List Bool)×(List Value)) (fun⟨aq,ah⟩=>[(3,(Acy b2)),(5,.func (.func 51) #[.agg #[No a0.1.1,e,No a0.2.1.1,g,k]] #[]),(6,d)]) (fun⟨aq,ah⟩ wr=>FI w [.row d 4 1 (aq).length ah,.box b2 [No a1.f.1,ad,AcB a1.f.2.2.1,ae,No a1.f.2.2.2.2.1,No a1.f.2.2.2.2.2.1,af] 26,.box b1 [No a0.1.1,e,No a0.2.1.1,g,k] 52] wr fun Oz=>AG .bool (gz H w wr Oz) aq ah/\(Cd a0 a1 self) aq=some r) ?_ ?_
 ·refine Aj<|Ai (Ae Z Ajl Z CO.e)<|Ai (Ag 1 Z ao Z)<|A7 1 Z<|AO h ?_ ?_<;>intro di h
  ·refine Bt 1 Z<|Ai (Qm 0 Z ao Z)<|A7 1 Z<|A3 ?_;obtain⟨b8,h⟩:=Ba h;refine B5 ((List Bool)×Int×(List Value)×Nat) (fun⟨ac,c,ab,n⟩=>[(3,(Acy b2)),(5,.func (.func 51) #[.agg #[No a0.1.1,e,No a0.2.1.1,g,k]] #[]),(6,d),(32,No (bm.length:Int)),(33,No c)]) (fun⟨ac,c,ab,n⟩ wr=>FI w [.row d 4 1 (ac).length ab,.box b2 [No a1.f.1,ad,AcB a1.f.2.2.1,ae,No a1.f.2.2.2.2.1,No a1.f.2.2.2.2.2.1,af] 26,.box b1 [No a0.1.1,e,No a0.2.1.1,g,k] 52] wr fun Oz=>AG .bool (gz H w wr Oz) ac ab/\H8 (BY a0 a1 self bm) n (ac,c)=some r) (fun⟨ac,c,ab,n⟩=>n) (bm,0,b6,b8) Z ⟨ao,b7,h⟩ ?_;rintro⟨ac,c,ab,nn67⟩ eb ⟨ay,az,h⟩;obtain⟨b8,ew,rfl,h,b9⟩:=AY h;refine AI 1 Z<|AB<|AO h ?_ ?_<;>intro dj h
   ·refine Av<|Ar<|AB<|A3<|AI 2 Z<|As<|Aq 4 Z<|A1 h fun ca h=>Be (ay.RG hH (i:=0) Z az) c.toNat (G1 ca) (AX ca) ?_;rintro ex _ rfl dk;refine Ai (Bl dk (Le.refl _))<|Aq 1 Z<|A1 h fun bg h=>K6 0 Z AjE YJ.e ay Z c.toNat (G1 bg) (AX bg) fun ey dl=>K7 0 c.toNat (!(ac.getD c.toNat Qq2)) Z Z hH ay Z az dl (AX bg) Z fun ez dm dn d2 dp=>AL<|A2<|Ar<|As<|A1 h fun dq h=>Ai (A6 dq)<|Aq 1 Z<|AL ?_;have h:=Ce.again h b9;refine AM (_,_,_,_) Z ⟨dn,dp,h⟩
   refine B2<|AD<|A5 ?_;have h:=Ce.out h b9;refine Bf<|AA (_,_) ⟨ay,az,h⟩
  refine Av<|AA (_,_) ⟨ao,b7,h⟩
 rintro⟨aq,ah⟩ ec ⟨cb,cm,h⟩;refine By ((List Bool)×(List Value)) (fun⟨ap,ai⟩=>[(6,d)]) (fun⟨ap,ai⟩ wr=>FI w [.row d 4 1 (ap).length ai,.box b2 [No a1.f.1,ad,AcB a1.f.2.2.1,ae,No a1.f.2.2.2.2.1,No a1.f.2.2.2.2.2.1,af] 26,.box b1 [No a0.1.1,e,No a0.2.1.1,g,k] 52] wr fun Oz=>AG .bool (gz H w wr Oz) ap ai/\CA ap=some r) ?_ ?_
 ·refine Aj<|Ai (Ae Z Ajl Z Mh.e)<|Ai (Ag 1 Z cb Z)<|A1 h fun cn h=>Y7 a8 cn fun bh bn=>Ai (Bk bn)<|A7 1 Z<|A3 ?_;obtain⟨bi,h⟩:=Ba h;refine B5 ((List Bool)×Int×(List Value)×Nat) (fun⟨y,b,u,n⟩=>[(3,(Acy b2)),(5,.func (.func 51) #[.agg #[No a0.1.1,e,No a0.2.1.1,g,k]] #[]),(6,d),(47,bh),(48,No ((a1.f.2.2.2.2.2.2.drop (1:Int).toNat).length:Int)),(49,No b)]) (fun⟨y,b,u,n⟩ wr=>FI w [.row d 4 1 (y).length u,.box b2 [No a1.f.1,ad,AcB a1.f.2.2.1,ae,No a1.f.2.2.2.2.1,No a1.f.2.2.2.2.2.1,af] 26,.box b1 [No a0.1.1,e,No a0.2.1.1,g,k] 52] wr fun Oz=>AG .bool (gz H w wr Oz) y u/\H8 (BF a0 a1 self) n (y,b)=some r) (fun⟨y,b,u,n⟩=>n) (aq,0,ah,bi) Z ⟨cb,cm,h⟩ ?_;rintro⟨y,b,u,nn263⟩ d3 ⟨a2,o,h⟩;obtain⟨bi,cc,rfl,h,bo⟩:=AY h;refine AI 1 Z<|AB<|AO h ?_ ?_<;>intro co h
  ·refine Av<|Ar<|By ((List Bool)×(List Value)) (fun⟨aj,aa⟩=>[(3,(Acy b2)),(5,.func (.func 51) #[.agg #[No a0.1.1,e,No a0.2.1.1,g,k]] #[]),(6,d),(47,bh),(48,No ((a1.f.2.2.2.2.2.2.drop (1:Int).toNat).length:Int)),(49,No b)]) (fun⟨aj,aa⟩ wr=>FI w [.row d 4 1 (aj).length aa,.box b2 [No a1.f.1,ad,AcB a1.f.2.2.1,ae,No a1.f.2.2.2.2.1,No a1.f.2.2.2.2.2.1,af] 26,.box b1 [No a0.1.1,e,No a0.2.1.1,g,k] 52] wr fun Oz=>AG .bool (gz H w wr Oz) aj aa/\(CB b) aj=some cc) ?_ ?_
   ·refine A3<|Aj<|A1 h fun bp h=>Be bn b.toNat (G1 bp) (AX bp) ?_;rintro ed _ e321t0 cp;obtain⟨_,_,rfl,rfl,⟨_,_,rfl,⟨e321v1,rfl,e321h1⟩,⟨_,_,rfl,rfl,⟨_,_,rfl,⟨e321v3,rfl,e321h3⟩,⟨_,_,rfl,rfl,⟨_,_,rfl,rfl,⟨e321v6,rfl,e321h6⟩⟩⟩⟩⟩⟩⟩:=Go.E.Rp.HE e321t0;refine Ai (Cj cp (hH.trans a2.arg))<|A9 B7.e Z a2 ?_;intro ee dr cq cd _;have o:=o.mono (Aa cd);refine Af 0 Z cq Z (a:=(Bn Z (Bn e321h1.one (Bn Z (Bn e321h3.one (Bn Z (Bn Z (Bn e321h6.one Ky)))))))) ?_;intro ef ak ce;have o:=o.mono (Aa ce);refine Ac<|Bt 1 Z<|Ai (A4 0 Z B7.e ak Z)<|Aw h fun ag cr h=>YI [.agg #[No a0.1.1,e,No a0.2.1.1,g,k]] [] Z Z ak (hself _ _ (An ak) (hU.mono  Ah) (au.mono  Ah) (av.mono  Ah) (aw.mono  Ah) (e321h1.mono  Ah) (e321h3.mono  Ah) (e321h6.mono  Ah) cr) ?_;rintro a7 eg ⟨_,rfl,bv⟩ cs ct cf;have ar:=bv.Dn hH ak cs;have o:=o.mono (Aa cf);refine Ai (Bk ar)<|A7 1 Z ?_
    refine A3 ?_;obtain⟨a3,h⟩:=Ba h;refine B5 ((List Bool)×Int×(List Value)×Nat) (fun⟨l,a,x,n⟩=>[(3,(Acy b2)),(5,.func (.func 51) #[.agg #[No a0.1.1,e,No a0.2.1.1,g,k]] #[]),(6,d),(47,bh),(48,No ((a1.f.2.2.2.2.2.2.drop (1:Int).toNat).length:Int)),(49,No b),(55,a7),(56,No (ag.length:Int)),(57,No a)]) (fun⟨l,a,x,n⟩ wr=>FI w [.box dr [No (((a1.f.2.2.2.2.2.2.drop (1:Int).toNat).getD b.toNat Qq2).f.1),e321v1,.string ⟨(((a1.f.2.2.2.2.2.2.drop (1:Int).toNat).getD b.toNat Qq2).f.2.2.1).toArray⟩,e321v3,No (((a1.f.2.2.2.2.2.2.drop (1:Int).toNat).getD b.toNat Qq2).f.2.2.2.2.1),No (((a1.f.2.2.2.2.2.2.drop (1:Int).toNat).getD b.toNat Qq2).f.2.2.2.2.2.1),e321v6] 26,.row d 4 1 (l).length x,.box b2 [No a1.f.1,ad,AcB a1.f.2.2.1,ae,No a1.f.2.2.2.2.1,No a1.f.2.2.2.2.2.1,af] 26,.box b1 [No a0.1.1,e,No a0.2.1.1,g,k] 52] wr fun Oz=>AJ .bool (gz H w wr Oz) a7 ag/\AG .bool (gz H w wr Oz) l x/\H8 (BX a1 b ag) n (l,a)=some cc) (fun⟨l,a,x,n⟩=>n) (y,0,u,a3) Z ⟨ct,ar,o,h⟩ ?_
    rintro⟨l,a,x,nn350⟩ d4 ⟨p,m,v,h⟩;obtain⟨a3,eh,rfl,h,a4⟩:=AY h;refine AI 1 Z<|AB<|AO h ?_ ?_<;>intro cu h
    ·refine Av<|Ar<|AB<|A3<|Bt 1 Z<|A1 h fun bq h=>Be m a.toNat (G1 bq) (AX bq) ?_;rintro ei _ rfl cv;refine Ai (Bl cv (An p))<|A7 2 Z<|Aj<|Ai (Ae Z Ajl Z CO.e)<|Ai (Ag 2 Z p Z)<|A7 1 Z<|AO h ?_ ?_<;>intro cw h
     ·refine As<|Aq 4 Z<|A1 h fun br h=>Be (p.RG hH (i:=1) Z v) a.toNat (G1 br) (AX br) ?_;rintro ej _ rfl cx;refine Ai (Bl cx (Le.refl _))<|Aq 1 Z<|Uo 1 6 Z Z Z Z Z Z Z<|A1 h fun a5 h=>K6 1 Z AjE YJ.e p Z a.toNat (G1 a5) (AX a5) fun ek cy=>K7 1 a.toNat (bif l.getD a.toNat Qq2 then ag.getD a.toNat Qq2 else false) Z Z hH p Z v cy (AX a5) Z ?_;intro el cz c0 cg c1;have m:=m.mono (Aa cg);refine AL<|A2<|Ar<|As<|A1 h fun c2 h=>Ai (A6 c2)<|Aq 1 Z<|AL ?_;have h:=Ce.again h a4;refine AM (_,_,_,_) Z ⟨c0,m,c1,h⟩
     refine As<|Aq 4 Z<|A1 h fun bs h=>Be (p.RG hH (i:=1) Z v) a.toNat (G1 bs) (AX bs) ?_;rintro em _ rfl c3;refine Ai (Bl c3 (Le.refl _))<|Aq 1 Z<|AaD 1 6 Z Z Z Z Z Z Z<|A1 h fun a6 h=>K6 1 Z AjE YJ.e p Z a.toNat (G1 a6) (AX a6) fun en c4=>K7 1 a.toNat (bif l.getD a.toNat Qq2 then true else ag.getD a.toNat Qq2) Z Z hH p Z v c4 (AX a6) Z ?_;intro eo c5 c6 ch c7;have m:=m.mono (Aa ch);refine AL<|A2<|Ar<|As<|A1 h fun c8 h=>Ai (A6 c8)<|Aq 1 Z<|AL ?_;have h:=Ce.again h a4;refine AM (_,_,_,_) Z ⟨c6,m,c7,h⟩
    refine B2<|AD<|A5 ?_;have h:=Ce.out h a4;refine Bf<|A2 ?_;have c9:=p.AQ (i:=0) Z;have v:=v.mono (Aa (Ak (i:=0) Z));refine AA (_,_) ⟨c9,v,h⟩
   rintro⟨aj,aa⟩ d5 ⟨da,ci,h⟩;refine As<|A1 h fun db h=>Ai (A6 db)<|Aq 1 Z<|AL ?_;have h:=Ce.again h bo;refine AM (_,_,_,_) Z ⟨da,ci,h⟩
  refine B2<|AD<|A5 ?_;have h:=Ce.out h bo;refine Bf<|AA (_,_) ⟨a2,o,h⟩
 rintro⟨ap,ai⟩ d6 ⟨bt,cj,h⟩;refine AI 2 Z<|Ay ?_
 cases h
 refine Al Z ⟨bt.ext,_,Z,(bt.Ii hH (i:=0) Z cj)⟩
theorem Oc(n:Nat):FB (Bq n):=by
 induction n with
 | zero=>unfold FB;intros;rename_i h;cases h
 | succ n ih=>exact Ng (Bq n) ih
section
variable(w:World)(H:PH)(hH:Le H (hp w)) include hH
theorem OZ(hU:Ge H){a0:(Int×AjJ)×(Int×AjI)×(List AjK)}{a1:Qv}{a b c d e g:Value}(i:AJ (.pair .st (.vec AjW)) H a (a0.1.2))(j:AJ AjU H b (a0.2.1.2))(k:AJ AjV H c (a0.2.2))(l:AJ .st H d (a1.f.2.1))(m:AJ .byte H e (a1.f.2.2.2.1))(n:AJ .B1 H g (a1.f.2.2.2.2.2.2)){r:(List Bool)}(h:EY a0 a1=some r):Ok prog 51 [.agg #[No a0.1.1,a,No a0.2.1.1,b,c],.agg #[No a1.f.1,d,AcB a1.f.2.2.1,e,No a1.f.2.2.2.2.1,No a1.f.2.2.2.2.2.1,g]] w (fun v w'=>Ext w w'/\∃ o,v=o/\Ci 4 .bool H w w' o r):=Oc 1000 w H hH hU i j k l m n h
def Gb(a:List Int):Option AjQ:=
 some (a,(0,0))
def Dy(a2:List Bool)(c:(List Bool)):(List Int)×Int->Option (((List Int)×Int) ⊕ AjQ):=fun⟨b,a⟩=>
 if a<(c.length:Int) then AN (0<=a/\a<(c.length:Int)) (if c.getD a.toNat Qq2 then AN (0<=a/\a<(a2.length:Int)) (if a2.getD a.toNat Qq2 then AN (Go.E.H7 8 (b.length+([a]).length)) (AN (Bz (a+1)) (some (Sum.inl ((b++[a]),(a+1))))) else AN (Bz (a+1)) (some (Sum.inl (b,(a+1))))) else AN (Bz (a+1)) (some (Sum.inl (b,(a+1))))) else Qq7 Sum.inr (Gb b)
def Gc(a2:List Bool)(a:(List Bool))(s:(List Int)×Int):Option AjQ:=Go.L.run (Dy a2 a) s
def Cv(a0:(Int×AjJ)×(Int×AjI)×(List AjK))(a1:Qv)(a2:List Bool):Option AjQ:=
 Qq4 (FQ a1) (fun a=>if a.1=0/\a.2=0 then Qq4 (BE ((a0.1.1,a0.1.2),(a0.2.1.1,a0.2.1.2),a0.2.2)) (fun c=>if(a2.length:Int)=c then Qq4 (EY ((a0.1.1,a0.1.2),(a0.2.1.1,a0.2.1.2),a0.2.2) a1) (fun d=>(Gc a2 d) (([]:List Int),0)) else Qq4 (Cx (9:Int) (-2:Int)) (fun b=>some ([],(b.1,b.2)))) else some ([],(a.1,a.2)))
theorem Ib(hU:Ge H)(a0:(Int×AjJ)×(Int×AjI)×(List AjK))(a1:Qv){a2:List Bool}{p s u x y z ab:Value}(aq:AJ (.pair .st (.vec AjW)) H p (a0.1.2))(ar:AJ AjU H s (a0.2.1.2))(au:AJ AjV H u (a0.2.2))(av:AJ .st H x (a1.f.2.1))(aw:AJ .byte H y (a1.f.2.2.2.1))(ax:AJ .B1 H z (a1.f.2.2.2.2.2.2))(ay:AJ .bool H ab a2){r:(List Int)×(Int×Int)}(h:Cv a0 a1 a2=some r):
  Qqv 24 [.agg #[No a0.1.1,p,No a0.2.1.1,s,u],.agg #[No a1.f.1,x,AcB a1.f.2.2.1,y,No a1.f.2.2.2.2.1,No a1.f.2.2.2.2.2.1,z],ab] w (fun v w'=>∃ u0,v=.tuple #[u0,.agg #[No r.2.1,No r.2.2]]/\Ci 3 (.int .i64) H w w' u0 (r.1)):=by
 refine Az 47 [(0,.agg #[No a0.1.1,p,No a0.2.1.1,s,u]),(1,.agg #[No a1.f.1,x,AcB a1.f.2.2.1,y,No a1.f.2.2.2.2.1,No a1.f.2.2.2.2.2.1,z]),(2,ab)] func24 Z fun hL=>Aj<|C9 (t:=52) Z Z hL fun w1 b1 b9 cn _=>C9 (t:=26) Z Z b9 fun w2 b2 cb co _=>Aq 1 Z<|A9 AF.e Z cb fun w3 b3 az cp _=>Ac<|AB<|Aj<|Ai (A4 1 Z B7.e az Z)<|Aw h fun x4 cc h=>AE az (Li (a0:=a1) _ _ (An az) (hU.mono  Ah) (av.mono  Ah) (aw.mono  Ah) (ax.mono  Ah) cc) fun w5 c4 cd cq=>A9 AF.e Z cd fun w6 b6 cf cr _=>Af 0 Z cf Z fun w7 ag cs=>Ac<|Aj<|Ai (A4 0 Z AF.e ag Z)<|Ai (AT (fun _=>BM _))<|Ai (JJ Jg (MR _ _ _ _))<|Ac<|CN h ?_ ?_<;>intro cg h
 ·refine Eu (.q 0 (.q 1 (.tail 2))) mixed Qqb (fun c5 bp=>?_);have a3:=ag.call bp;refine CD Z (A4 0 Z AF.e a3 Z) Z<|D0 1 Z<|BU (fun c6 bq=>?_);have br:=a3.call bq;refine Af 1 Z br Z fun c7 a4 ch=>Ac<|Ay<|Ao ?_
  cases h
  refine Bu (.tmp Z) (.cell Z Aje Z AF.e (AH (i:=1) a4 Z)) ⟨a4.ext,_,Z,Ci.nil⟩
 refine Av<|Ar<|AB<|Bt 1 Z<|Ai (Bk ay)<|Ai (A4 3 Z JK.e ag Z)<|Aw h fun c8 bs h=>AE ag (Dj _ _ (An ag) (((a0.1.1,a0.1.2),(a0.2.1.1,a0.2.1.2),a0.2.2)) (aq.mono  Ah) (ar.mono  Ah) (au.mono  Ah) bs) fun c9 ct al ci=>A7 1 Z<|CN h ?_ ?_<;>intro bt h
 ·refine Aj<|Aw h fun da bu h=>AE al (CY _ _ (An al) bu) fun db cu bv cj=>Aq 1 Z<|Af 1 Z bv Z fun dc a5 ck=>Ac<|Ay<|Ao ?_
  cases h
  refine Bu (.tmp Z) (.cell Z Aje Z AF.e (AH (i:=1) a5 Z)) ⟨a5.ext,_,Z,Ci.nil⟩
 refine Av<|Ar<|Bt 1 Z ?_;obtain⟨aa,cl,am⟩:=DG (.int .i64) H 3 al;refine Ac<|By ((List Int)×Value×(List Value)) (fun⟨ah,ac,o⟩=>[(7,(Acy b3)),(9,ac)]) (fun⟨ah,ac,o⟩ wr=>FI w [.row ac 3 1 (ah).length o,.box b6 [No x4.1,No x4.2] 28,.box b3 [No 0,No 0] 28,.box b2 [No a1.f.1,x,AcB a1.f.2.2.1,y,No a1.f.2.2.2.2.1,No a1.f.2.2.2.2.2.1,z] 26,.box b1 [No a0.1.1,p,No a0.2.1.1,s,u] 52] wr fun Oz=>AG (.int .i64) (gz H w wr Oz) ah o/\Gb ah=some r) ?_ ?_
 ·refine Aj<|Ai (A4 4 Z JK.e aa Z)<|Ai (A4 3 Z B7.e aa Z)<|Aw h fun a6 bw h=>Bh aa (OZ (a0:=((a0.1.1,a0.1.2),(a0.2.1.1,a0.2.1.2),a0.2.2)) (a1:=a1) _ _ (An aa) (hU.mono  Ah) (aq.mono  Ah) (ar.mono  Ah) (au.mono  Ah) (av.mono  Ah) (aw.mono  Ah) (ax.mono  Ah) bw) ?_;rintro an dd ⟨_,rfl,a7⟩ bx bz bc;have ai:=a7.Dn hH aa bx;refine Ai (Bk ai)<|A7 1 Z<|A3 ?_;obtain⟨aj,h⟩:=Ba h;have am:=am.mono (Aa bc)
  refine B5 ((List Int)×Int×Value×(List Value)×Nat) (fun⟨e,a,g,b,n⟩=>[(2,ab),(7,(Acy b3)),(9,g),(26,an),(27,No (a6.length:Int)),(28,No a)]) (fun⟨e,a,g,b,n⟩ wr=>FI w [.row g 3 1 (e).length b,.box b6 [No x4.1,No x4.2] 28,.box b3 [No 0,No 0] 28,.box b2 [No a1.f.1,x,AcB a1.f.2.2.1,y,No a1.f.2.2.2.2.1,No a1.f.2.2.2.2.2.1,z] 26,.box b1 [No a0.1.1,p,No a0.2.1.1,s,u] 52] wr fun Oz=>AJ .bool (gz H w wr Oz) an a6/\AG (.int .i64) (gz H w wr Oz) e b/\H8 (Dy a2 a6) n (e,a)=some r) (fun⟨e,a,g,b,n⟩=>n) (([]:List Int),0,AaB,[],aj) Z ⟨bz,ai,am,h⟩ ?_;rintro⟨e,a,g,b,nn97⟩ cv ⟨k,d,j,h⟩;obtain⟨aj,de,rfl,h,ad⟩:=AY h;refine AI 1 Z<|AB<|AO h ?_ ?_<;>intro b0 h
  ·refine Av<|Ar<|AB<|A3<|Bt 1 Z<|A1 h fun ao h=>Be d a.toNat (G1 ao) (AX ao) ?_;rintro cw _ rfl bd;refine Ai (Bl bd (An k))<|A7 2 Z<|Bt 2 Z<|GV 34 h ?_ ?_<;>intro c h
   ·refine Ab c<|Ai (Am Z)<|Ab c<|Ai (Am Z)<|Ab c<|A1 h fun ap h=>Be ay a.toNat (G1 ap) (AX ap) ?_;rintro cx _ rfl be;refine Ab c<|Ai (Bl be (hH.trans k.arg))<|Ai (AK c Z)<|Ac<|B3 h ?_ ?_<;>intro bf h
    ·refine As<|Aq 2 Z<|B6 [a] (r:=(.int .i64)) (fun _=>Jm _ _) k (.c1 Z .nil) fun cy cz cm bg ak bh=>A1 h fun bi h=>?_;have j:=j.mono (Aa ak);refine Br (r:=(.int .i64)) 0 e [a] Z Ahx bg Z j bh bi fun b4 c0 bj bk a8 bl=>Aq 1 Z<|AL<|A2<|Ar<|As<|A1 h fun bm h=>Ai (A6 bm)<|Aq 1 Z<|AL ?_;have h:=Ce.again h ad;have d:=d.mono (Aa (ak.trans a8));refine AM (_,_,_,_,_) Z ⟨bk,d,bl,h⟩
    refine Av<|A2<|Ar<|As<|A1 h fun bn h=>Ai (A6 bn)<|Aq 1 Z<|AL ?_;have h:=Ce.again h ad;refine AM (_,_,_,_,_) Z ⟨k,d,j,h⟩
   iterate 4 refine Au c ?_
   refine Ai (AS c Z)<|Ac<|Gt<|Av<|A2<|Ar<|As<|A1 h fun bo h=>Ai (A6 bo)<|Aq 1 Z<|AL ?_;have h:=Ce.again h ad;refine AM (_,_,_,_,_) Z ⟨k,d,j,h⟩
  refine B2<|AD<|A5 ?_;have h:=Ce.out h ad;refine Bf<|AA (_,_,_) ⟨k,j,h⟩
 rintro⟨ah,ac,o⟩ c2 ⟨b5,ae,h⟩;refine Bt 1 Z<|Ai (AT (fun _=>BM _))<|Aq 1 Z<|Af 2 Z b5 Z fun c3 af a9=>Ac<|Ay ?_
 cases h
 refine Bu (.tmp Z) (.cell Z Aje Z AF.e (AH (i:=2) af Z)) ?_;have ae:=ae.mono (Aa a9);exact⟨af.ext,_,Z,(af.Ii hH (i:=0) Z ae)⟩
def Ic(a0:AcC):Option AcC:=
 some a0
theorem O8{a0:AcC}{a:Value}(b:AJ .byte H a a0){r:AcC}(h:Ic a0=some r):
  Qqv 61 [a] w (fun v w'=>∃ c,v=c/\AJ .byte (un H (nw w w')) c r):=by
 refine Az 9 [(0,a)] func61 Z fun hL=>AI 1 Z<|Bt 2 Z<|Ai (Bk b)<|Aq 1 Z<|Ai (Bk b)<|AhP b fun e d=>A7 1 Z<|Ay ?_
 cases h
 refine Al Z ⟨hL.ext,_,Z,(d.mono (Ms hH))⟩
def Hr(a0:(Int×AjJ)×(Int×AjI)×(List AjK))(a1 a2 a3:Int):Option (AcC×(Int×Int)):=
 AN (0<=a1/\a1<(a0.2.2.length:Int)) (Qq4 (Eg ((a0.2.2.getD a1.toNat Qq2).1,(a0.2.2.getD a1.toNat Qq2).2.1,(a0.2.2.getD a1.toNat Qq2).2.2)) (fun a=>if(a2<0)\/(a<a2) then none else(if(a3<a2)\/(a<a3) then none else AN (0<=a1/\a1<(a0.2.2.length:Int)) (Qq4 (Ia ((a0.2.2.getD a1.toNat Qq2).1,(a0.2.2.getD a1.toNat Qq2).2.1,(a0.2.2.getD a1.toNat Qq2).2.2) a2 a3) (fun b=>Qq4 (Ic b.1) (fun c=>some (c,(0,0))))))))
def Hd(a0:(Int×AjJ)×(Int×AjI)×(List AjK))(a1 a2 a3:Int)(a4:List Bool):Option (AcC×(Int×Int)):=
 if a1<0 then none else Qq4 (BE ((a0.1.1,a0.1.2),(a0.2.1.1,a0.2.1.2),a0.2.2)) (fun b=>if b<=a1 then none else Qq4 (BE ((a0.1.1,a0.1.2),(a0.2.1.1,a0.2.1.2),a0.2.2)) (fun c=>if(a4.length:Int)=c then AN (0<=a1/\a1<(a4.length:Int)) (if !(a4.getD a1.toNat Qq2) then Qq4 (Cx (20:Int) (-1:Int)) (fun a=>some ([],(a.1,a.2))) else(Hr a0 a1 a2 a3)) else none))
theorem LQ{a0:(Int×AjJ)×(Int×AjI)×(List AjK)}{a1 a2 a3:Int}{a4:List Bool}{e f g m:Value}(q:AJ (.pair .st (.vec AjW)) H e (a0.1.2))(s:AJ AjU H f (a0.2.1.2))(j:AJ AjV H g (a0.2.2))(u:AJ .bool H m a4){r:AcC×(Int×Int)}(h:Hd a0 a1 a2 a3 a4=some r):
  Qqv 29 [.agg #[No a0.1.1,e,No a0.2.1.1,f,g],No a1,No a2,No a3,m] w (fun v w'=>∃ u0,v=.tuple #[u0,.agg #[No r.2.1,No r.2.2]]/\AJ .byte (un H (nw w w')) u0 (r.1)):=by
 refine Az 78 [(0,.agg #[No a0.1.1,e,No a0.2.1.1,f,g]),(1,No a1),(2,No a2),(3,No a3),(4,m)] func29 Z fun hL=>Aj<|C9 (t:=52) Z Z hL fun w1 b1 bb bm _=>Aq 1 Z<|A9 AF.e Z bb fun w2 b2 x bn _=>Ac<|By Unit (fun(_:Unit)=>[(1,No a1),(2,No a2),(3,No a3),(5,(Acy b1)),(11,(Acy b2))]) (fun(_:Unit) wr=>Bb w [.box b2 [No 0,No 0] 28,.box b1 [No a0.1.1,e,No a0.2.1.1,f,g] 52] wr/\(Hr a0 a1 a2 a3)=some r) ?_ ?_
 ·refine A3<|Bt 3 Z<|CE 18 h ?_ ?_<;>intro a h
  ·iterate 4 refine Au a ?_
   refine Ai (AK a Z)<|A7 1 Z<|Ff ?_
   cases h
  refine Ab a<|Ai (Am Z)<|Ab a<|Ai (A4 1 Z JK.e x Z)<|Ab a<|Aw h fun bt ai h=>AE x (Dj _ _ (An x) (((a0.1.1,a0.1.2),(a0.2.1.1,a0.2.1.2),a0.2.2)) (q.mono  Ah) (s.mono  Ah) (j.mono  Ah) ai) fun bu bo o bd=>Ab a<|Ai (Am Z)<|Ai (AS a Z)<|A7 1 Z<|AO h ?_ ?_<;>intro aj h
  ·cases h
  refine Bt 1 Z<|Ai (Bk u)<|Ai (A4 1 Z JK.e o Z)<|Aw h fun bv ak h=>AE o (Dj _ _ (An o) (((a0.1.1,a0.1.2),(a0.2.1.1,a0.2.1.2),a0.2.2)) (q.mono  Ah) (s.mono  Ah) (j.mono  Ah) ak) fun bw bp k be=>A7 2 Z<|CN h ?_ ?_<;>intro al h
  ·cases h
  refine Bt 2 Z<|A1 h fun y h=>Be u a1.toNat (G1 y) (AX y) ?_;rintro bx _ rfl am;refine Ai (Bl am (hH.trans k.arg))<|A7 2 Z<|B3 h ?_ ?_<;>intro an h
  ·refine Aj<|Aw h fun bz ao h=>AE k (CY _ _ (An k) ao) fun b0 bq ap bf=>Aq 1 Z<|Af 0 Z ap Z fun b3 z bg=>Ac<|Ay<|Ax<|BI ?_
   cases h
   refine Bu (.tmp Z) (.cell Z Aje Z AF.e (AH (i:=0) z Z)) ⟨z.ext,_,Z,(AJ.nil _ _)⟩
  refine Av<|A2<|AA () ⟨k,h⟩
 rintro _ br ⟨l,h⟩;refine Aj<|Ai (Ae Z AjB Z La.e)<|Ai (Ag 1 Z l Z)<|Aq 1 Z<|A1 h fun aa h=>Be j a1.toNat (G1 aa) (AX aa) ?_;rintro b4 _ ⟨_,_,rfl,⟨e49v0,rfl,e49h0⟩,⟨_,_,rfl,⟨e49v1,rfl,e49h1⟩,⟨e49v2,rfl,e49h2⟩⟩⟩ aq;refine Ai (Cj aq (hH.trans l.arg))<|Aw h fun b5 ar h=>AE l (GK _ _ (An l) (((a0.2.2.getD a1.toNat Qq2).1,(a0.2.2.getD a1.toNat Qq2).2.1,(a0.2.2.getD a1.toNat Qq2).2.2)) (e49h0.mono  Ah) (e49h1.mono  Ah) (e49h2.mono  Ah) ar) fun b6 bs b bh=>A7 1 Z<|AB<|A3<|Bt 3 Z<|Yr 3 2 Z Z Z Z Z Z<|A7 1 Z<|AO h ?_ ?_<;>intro au h
 ·cases h
 refine Bt 4 Z<|Yr 3 3 Z Z Z Z Z Z<|A7 1 Z<|AO h ?_ ?_<;>intro av h
 ·cases h
 refine Av<|A2<|Ar<|Aj<|Ai (Ae Z AjB Z La.e)<|Ai (Ag 1 Z b Z)<|Aq 1 Z<|A1 h fun ab h=>Be j a1.toNat (G1 ab) (AX ab) ?_;rintro b7 _ ⟨_,_,rfl,⟨e59v0,rfl,e59h0⟩,⟨_,_,rfl,⟨e59v1,rfl,e59h1⟩,⟨e59v2,rfl,e59h2⟩⟩⟩ aw;refine Ai (Cj aw (hH.trans b.arg))<|Aq 2 Z<|Aw h fun b8 ax h=>Bh b (O6 (a0:=((a0.2.2.getD a1.toNat Qq2).1,(a0.2.2.getD a1.toNat Qq2).2.1,(a0.2.2.getD a1.toNat Qq2).2.2)) _ _ (An b) (e59h0.mono  Ah) (e59h1.mono  Ah) (e59h2.mono  Ah) ax) ?_;rintro _ b9 ⟨bi,rfl,ac⟩ ay az bj;have c:=ac.Dn hH b ay;refine Aq 3 Z<|A9 AF.e Z az fun ca cb a5 af _=>Aq 1 Z<|Af 0 Z a5 Z fun cc p ag=>Ac<|Bt 1 Z<|Aw h fun cd a6 h=>?_;have c:=c.mono (Aa (af.trans ag));refine Bh p (O8 _ _ (An p) c a6) ?_;rintro bk ce ⟨_,rfl,ad⟩ a7 a8 bl;have d:=ad.mono (DS p a7)
 refine Ai (AT (fun _=>BM _))<|Aq 1 Z<|Af 1 Z a8 Z fun cf ae ah=>Ac<|Ay ?_
 cases h
 refine Bu (.tmp Z) (.cell Z Aje Z AF.e (AH (i:=1) ae Z)) ?_;have d:=d.mono (Aa ah);exact⟨ae.ext,_,Z,(d.mono  E7)⟩
end
end Go.Proofs.YtekmbcbgknmhiaaGreatDoor
end
noncomputable section
namespace Go.L
open Go
def bt(l:List UInt8)(k:Nat):Nat:=(l.getD k Qq2).toNat
def cont(l:List UInt8)(k:Nat):Bool:=decide (k<l.length/\128<=bt l k/\bt l k<=191)
def pt3(l:List UInt8):Nat:=((bt l 0 - 224) * 64+(bt l 1 - 128)) * 64+(bt l 2 - 128)
def pt4(l:List UInt8):Nat:=(((bt l 0 - 240) * 64+(bt l 1 - 128)) * 64+(bt l 2 - 128)) * 64+(bt l 3 - 128)
def PO(l:List UInt8):Nat:=
 if 194<=bt l 0/\bt l 0<=223 then(if cont l 1 then 2 else 0)
 else if 224<=bt l 0/\bt l 0<=239 then(if cont l 1/\cont l 2/\2048<=pt3 l/\¬ (55296<=pt3 l/\pt3 l<=57343) then 3 else 0)
 else if 240<=bt l 0/\bt l 0<=244 then(if cont l 1/\cont l 2/\cont l 3/\65536<=pt4 l/\pt4 l<=1114111 then 4 else 0)
 else 0
def asc(c:Nat):Bool:=decide ((48<=c/\c<=57)\/(97<=c/\c<=122)\/(65<=c/\c<=90))
def MI(l:List UInt8):Nat:=if asc (bt l 0) then 1 else PO l
def Jq(c:UInt8):UInt8:=if 65<=(c.toNat:Int)/\(c.toNat:Int)<=90 then c+32 else c
theorem Agh{c:UInt8}(h:128<=c.toNat):Jq c=c:=by unfold Jq;rw [if_neg U]
theorem Agi(a:List UInt8)(i k:Nat):bt (a.drop i) k=bt a (i+k):=by
 unfold bt;rw [Qq9,Qq9,Qxw]
theorem AdS(l:List UInt8)(h:l≠[]):PO l<=l.length:=by
 have hl:=Qkb.2 h;unfold PO cont
 split
 ·split
  ·rename_i a;have:=of_decide_eq_true a;omega
  ·omega
 ·split
  ·split
   ·rename_i a;have:=of_decide_eq_true a.2.1;omega
   ·omega
  ·split
   ·split
    ·rename_i a;have:=of_decide_eq_true a.2.2.1;omega
    ·omega
   ·omega
theorem Aah(l:List UInt8)(h:l≠[]):MI l<=l.length:=by
 have hl:=Qkb.2 h;unfold MI
 split
 ·omega
 ·exact AdS l h
theorem Agj{l:List UInt8}(h:bt l 0<128):PO l=0:=by
 unfold PO;rw [if_neg U,if_neg U,if_neg U]
theorem Uz{l:List UInt8}(_hs:PO l≠0):(l.take (PO l)).map Jq=l.take (PO l):=by
 have key:∀ k,k<PO l->128<=bt l k:=by
  intro k hk;unfold PO at hk;unfold cont at hk
  split at hk
  ·split at hk
   ·rename_i a;have:=of_decide_eq_true a;obtain h | h:k=0\/k=1:=by omega
    all_goals subst h;omega
   ·omega
  ·split at hk
   ·split at hk
    ·rename_i a;have h2:=of_decide_eq_true a.1;have h3:=of_decide_eq_true a.2.1;obtain h | h | h:k=0\/k=1\/k=2:=by omega
     all_goals subst h;omega
    ·omega
   ·split at hk
    ·split at hk
     ·rename_i a;have h2:=of_decide_eq_true a.1;have h3:=of_decide_eq_true a.2.1;have b:=of_decide_eq_true a.2.2.1;obtain h | h | h | h:k=0\/k=1\/k=2\/k=3:=by omega
      all_goals subst h;omega
     ·omega
    ·omega
 apply List.ext_getElem Qqd;intro k a h2;rw [List.getElem_map,List.getElem_take];apply Agh;have hk:k<PO l:=by simp at h2;omega
 have:=key k hk;have hkl:k<l.length:=by simp at h2;omega
 unfold bt at this;rw [Qq9,Qzj hkl] at this;exact this
theorem YX(l:List UInt8)(k:Nat):((ByteArray.mk l.toArray).get! k).toNat=bt l k:=by
 simp [ByteArray.get!,bt,Qq9,getElem!_def]
 cases h:l[k]? <;> rfl
theorem AhW(l:List UInt8)(hne:l≠[])(m:128<=bt l 0):(PO l=0->Lib.decodeGo ⟨l.toArray⟩=(65533,1))/\(PO l≠0->(Lib.decodeGo ⟨l.toArray⟩).2=PO l/\PO l≠1):=by
 have hsz:(ByteArray.mk l.toArray).size=l.length:=by simp [Qxc]
 have hl:=Qkb.2 hne
 have hc:∀ k,(decide (0+k<(ByteArray.mk l.toArray).size)&&((ByteArray.mk l.toArray).get! (0+k)).toNat / 64==2)=cont l k:=by
  intro k;rw [Qzc,hsz,YX];unfold cont
  by_cases a:k<l.length
  ·by_cases h2:bt l k / 64=2
   ·rw [decide_eq_true a,Qkv,beq_iff_eq.2 h2,decide_eq_true ⟨a,by omega,by omega⟩]
   ·rw [decide_eq_true a,Qkv,beq_eq_false_iff_ne.2 h2,decide_eq_false (fun h=>h2 U)]
  ·rw [decide_eq_false a,Bool.false_and,decide_eq_false (fun h=>a h.1)]
 unfold Lib.decodeGo;rw [hsz,if_neg U];unfold Utf8.decode;simp only [hc];simp only [Qzc,YX]
 have hv:∀ c:Nat,Utf8.valid c=decide (c<55296\/(57344<=c/\c<=1114111)):=by
  intro c;rw [Qxz];unfold Utf8.valid;simp only [Bool.or_eq_true,Qzb,decide_eq_true_eq];omega
 simp only [hv];have f1:cont l 1=true->128<=bt l 1/\bt l 1<=191:=fun h=>(of_decide_eq_true h).2;have f2:cont l 2=true->128<=bt l 2/\bt l 2<=191:=fun h=>(of_decide_eq_true h).2;have f3:cont l 3=true->128<=bt l 3/\bt l 3<=191:=fun h=>(of_decide_eq_true h).2;have hb:bt l 0<256:=Qx1 _;unfold PO pt3 pt4 Utf8.runeError;generalize bt l 0=b at *;generalize bt l 1=d at *;generalize bt l 2=f at *;generalize bt l 3=g at *;generalize cont l 1=c1 at *;generalize cont l 2=c2 at *;generalize cont l 3=c3 at *;simp only [Qzb,beq_iff_eq,decide_eq_true_eq]
 by_cases hA:194<=b/\b<=223
 ·rw [if_pos hA,if_neg (show ¬ b<128 by omega)]
  by_cases a:c1=true
  ·have:=f1 a;rw [if_pos a,if_pos (show b / 32=6/\c1=true from⟨by omega,a⟩),if_pos (show b % 32 * 64+d % 64>=128 by omega)];exact⟨fun h=>absurd h Qqc,fun _=>⟨Z,by decide⟩⟩
  ·rw [if_neg a,if_neg (show ¬ (b / 32=6/\c1=true) from fun h=>a h.2),if_neg (show ¬ ((b / 16=14/\c1=true)/\c2=true) from fun h=>by omega),if_neg (show ¬ (((b / 8=30/\c1=true)/\c2=true)/\c3=true) from fun h=>by omega)];exact⟨fun _=>Z,fun h=>absurd Z h⟩
 rw [if_neg hA]
 by_cases hB:224<=b/\b<=239
 ·rw [if_pos hB,if_neg (show ¬ b<128 by omega),if_neg (show ¬ (b / 32=6/\c1=true) from fun h=>by omega)]
  by_cases a:c1=true/\c2=true
  ·have i:=f1 a.1;have j:=f2 a.2;rw [if_pos (show(b / 16=14/\c1=true)/\c2=true from⟨⟨by omega,a.1⟩,a.2⟩)];have e:b % 16 * 4096+d % 64 * 64+f % 64=((b - 224) * 64+(d - 128)) * 64+(f - 128):=by omega
   rw [e]
   by_cases h2:2048<=((b - 224) * 64+(d - 128)) * 64+(f - 128)/\¬ (55296<=((b - 224) * 64+(d - 128)) * 64+(f - 128)/\((b - 224) * 64+(d - 128)) * 64+(f - 128)<=57343)
   ·rw [if_pos ⟨a.1,a.2,h2⟩,if_pos ⟨h2.1,U⟩];exact⟨fun h=>absurd h Qqc,fun _=>⟨Z,by decide⟩⟩
   ·rw [if_neg (fun h=>h2 h.2.2),if_neg (fun h=>h2 ⟨h.1,by omega⟩)];exact⟨fun _=>Z,fun h=>absurd Z h⟩
  ·rw [if_neg (fun h=>a ⟨h.1,h.2.1⟩),if_neg (show ¬ ((b / 16=14/\c1=true)/\c2=true) from fun h=>a ⟨h.1.2,h.2⟩),if_neg (show ¬ (((b / 8=30/\c1=true)/\c2=true)/\c3=true) from fun h=>by omega)];exact⟨fun _=>Z,fun h=>absurd Z h⟩
 rw [if_neg hB]
 by_cases hC:240<=b/\b<=244
 ·rw [if_pos hC,if_neg (show ¬ b<128 by omega),if_neg (show ¬ (b / 32=6/\c1=true) from fun h=>by omega),if_neg (show ¬ ((b / 16=14/\c1=true)/\c2=true) from fun h=>by omega)]
  by_cases a:c1=true/\c2=true/\c3=true
  ·have i:=f1 a.1;have j:=f2 a.2.1;have n:=f3 a.2.2;rw [if_pos (show((b / 8=30/\c1=true)/\c2=true)/\c3=true from⟨⟨⟨by omega,a.1⟩,a.2.1⟩,a.2.2⟩)];have e:b % 8 * 262144+d % 64 * 4096+f % 64 * 64+g % 64=(((b - 240) * 64+(d - 128)) * 64+(f - 128)) * 64+(g - 128):=by omega
   rw [e]
   by_cases h2:65536<=(((b - 240) * 64+(d - 128)) * 64+(f - 128)) * 64+(g - 128)/\(((b - 240) * 64+(d - 128)) * 64+(f - 128)) * 64+(g - 128)<=1114111
   ·rw [if_pos ⟨a.1,a.2.1,a.2.2,h2⟩,if_pos ⟨h2.1,by omega⟩];exact⟨fun h=>absurd h Qqc,fun _=>⟨Z,by decide⟩⟩
   ·rw [if_neg (fun h=>h2 h.2.2.2),if_neg (fun h=>h2 ⟨h.1,by omega⟩)];exact⟨fun _=>Z,fun h=>absurd Z h⟩
  ·rw [if_neg (fun h=>a ⟨h.1,h.2.1,h.2.2.1⟩),if_neg (fun h=>a ⟨h.1.1.2,h.1.2,h.2⟩)];exact⟨fun _=>Z,fun h=>absurd Z h⟩
 rw [if_neg hC];refine⟨fun _=>?_,fun h=>absurd Z h⟩;rw [if_neg (show ¬ b<128 by omega)]
 by_cases a:b / 32=6/\c1=true
 ·have:=f1 a.2;rw [if_pos a,if_neg (show ¬ (b % 32 * 64+d % 64>=128) by omega)]
 ·rw [if_neg a,if_neg (show ¬ ((b / 16=14/\c1=true)/\c2=true) from fun h=>by omega)]
  by_cases h2:((b / 8=30/\c1=true)/\c2=true)/\c3=true
  ·have i:=f1 h2.1.1.2;rw [if_pos h2,if_neg (fun h=>by omega)]
  ·rw [if_neg h2]
end Go.L
namespace Go.Proofs.YtekmbcbgknmhiaaGreatDoor
open Go Go.L
theorem Acb{l:List UInt8}(hne:l≠[]):Ko l=some (if MI l=0 then([],1) else((l.take (MI l)).map Jq,((MI l:Nat):Int))):=by
 have hl:=Qkb.2 hne;obtain⟨c,m,rfl⟩:=List.exists_cons_of_ne_nil hne;have i:(c::m).getD ((0:Int).toNat) Qq2=c:=Z;have eb:bt (c::m) 0=c.toNat:=Z;have hc:=c.toNat_lt;unfold Ko;rw [Ad ⟨by decide,by omega⟩,i]
 have hup:(65<=(c.toNat:Int))/\((c.toNat:Int)<=90)->AN (((c - (65:UInt8))+(97:UInt8)).toNat<128) (some ([((c - (65:UInt8))+(97:UInt8))],(1:Int)))=some (if MI (c::m)=0 then([],1) else(((c::m).take (MI (c::m))).map Jq,((MI (c::m):Nat):Int))):=by
  intro h
  have e:(c - (65:UInt8))+(97:UInt8)=c+32:=by
   apply UInt8.toNat.inj;rw [UInt8.toNat_add,UInt8.toNat_sub,UInt8.toNat_add];have j:(97:UInt8).toNat=97:=Z;have k:(65:UInt8).toNat=65:=Z;have g:(32:UInt8).toNat=32:=Z;omega
  have n:(c+32).toNat=c.toNat+32:=by
   rw [UInt8.toNat_add];have g:(32:UInt8).toNat=32:=Z;omega
  have d:MI (c::m)=1:=by unfold MI asc;rw [eb,if_pos (decide_eq_true U)]
  rw [e,Ad U,d,if_neg Qqc]
  show some ([c+32],(1:Int))=some ([Jq c],1)
  unfold Jq;rw [if_pos h]
 have hlo:(48<=(c.toNat:Int))/\((c.toNat:Int)<=57)\/(97<=(c.toNat:Int))/\((c.toNat:Int)<=122)->AN (c.toNat<128) (some ([c],(1:Int)))=some (if MI (c::m)=0 then([],1) else(((c::m).take (MI (c::m))).map Jq,((MI (c::m):Nat):Int))):=by
  intro h;have d:MI (c::m)=1:=by unfold MI asc;rw [eb,if_pos (decide_eq_true U)]
  rw [Ad U,d,if_neg Qqc]
  show some ([c],(1:Int))=some ([Jq c],1)
  unfold Jq;rw [if_neg U]
 have hnon:asc c.toNat=false->(if(c.toNat:Int)<128 then some (([]:List UInt8),(1:Int)) else Qq4 (AbT (c::m)) (fun a=>if(a.1=(65533:Int))/\(a.2=(1:Int)) then some (([]:List UInt8),(1:Int)) else Go.L.AN (0<=a.2/\a.2<=((c::m).length:Int)) (some (((c::m).take a.2.toNat),a.2))))=some (if MI (c::m)=0 then([],1) else(((c::m).take (MI (c::m))).map Jq,((MI (c::m):Nat):Int))):=by
  intro h;have d:MI (c::m)=PO (c::m):=by unfold MI;rw [if_neg (by rw [eb,h];decide)]
  rw [d]
  by_cases b:(c.toNat:Int)<128
  ·rw [if_pos b,Agj (by rw [eb];omega),if_pos Z]
  ·rw [if_neg b];have hd:=AhW (c::m) hne (by rw [eb];omega);unfold AbT;rw [Ad hne,Qq6]
   by_cases h2:PO (c::m)=0
   ·rw [hd.1 h2,if_pos ⟨Z,Z⟩,if_pos h2]
   ·obtain⟨h3,f⟩:=hd.2 h2;have o:=AdS (c::m) hne;simp only [h3];rw [if_neg U,Ad ⟨by omega,by omega⟩,if_neg h2,Qq8,Uz h2]
 by_cases b:(48<=(c.toNat:Int))/\((c.toNat:Int)<=57)
 ·rw [if_pos b];exact hlo (.inl b)
 rw [if_neg b]
 by_cases h2:97<=(c.toNat:Int)
 ·rw [if_pos h2]
  by_cases h3:(c.toNat:Int)<=122
  ·rw [if_pos h3];exact hlo (.inr ⟨h2,h3⟩)
  ·rw [if_neg h3,if_neg U];exact hnon (decide_eq_false U)
 ·rw [if_neg h2]
  by_cases f:(65<=(c.toNat:Int))/\((c.toNat:Int)<=90)
  ·rw [if_pos f];exact hup f
  ·rw [if_neg f];exact hnon (decide_eq_false U)
end Go.Proofs.YtekmbcbgknmhiaaGreatDoor
namespace Go.L
open Go
abbrev W:=List UInt8×Int×Int
abbrev WS:=(List W×Int) ⊕ List W
def fin(cur:List UInt8)(fr at':Nat):List W:=if cur=[] then[] else[(cur,(fr:Int),(at':Int))]
def V0(a:List UInt8):Nat->Nat->List UInt8->Nat->List W
 | 0,at',cur,fr=>fin cur fr at'
 | f+1,at',cur,fr=>
  if at'<a.length then
   if MI (a.drop at')=0 then fin cur fr at'++V0 a f (at'+1) [] (at'+1)
   else V0 a f (at'+MI (a.drop at')) (cur++((a.drop at').take (MI (a.drop at'))).map Jq) fr
  else fin cur fr at'
def Ws(a:List UInt8):List W:=V0 a (a.length+1) 0 [] 0
theorem Rb{a:List UInt8}{f at':Nat}{cur:List UInt8}{fr:Nat}(h:a.length<=at'):V0 a f at' cur fr=fin cur fr at':=by
 cases f with
 | zero=>rfl
 | succ f=>unfold V0;rw [if_neg U]
theorem XG(cur:List UInt8)(fr at':Nat):(fin cur fr at').length<=1:=by unfold fin;split <;> simp
theorem U0{a:List UInt8}{i:Nat}(h:i<a.length):a.drop i≠[]:=fun e=>by
 have:=congrArg List.length e;rw [QzA,Qzd] at this;omega
theorem QB{a:List UInt8}{i:Nat}(h:i<a.length):i+MI (a.drop i)<=a.length:=by
 have:=Aah _ (U0 h);rw [QzA] at this;omega
theorem XH{a:List UInt8}{i:Nat}(h:i<a.length):(((a.drop i).take (MI (a.drop i))).map Jq).length=MI (a.drop i):=by
 have:=Aah _ (U0 h);rw [Qzk,QzK];omega
end Go.L
namespace Go.Proofs.YtekmbcbgknmhiaaGreatDoor
open Go Go.L
theorem Agk{a:List UInt8}(hs:a.length<=1000000000000):∀ (f at':Nat) (L:List W),a.length<=at'+f->L.length<=at'->at'<=a.length+1->
  run (CJ a) (L,(at':Int))=some (L++V0 a f at' [] at')/\
  ∀
   (cur:List UInt8) (fr:Nat),(at'<a.length\/cur≠[])->at'<=a.length->cur.length<=at'->∃ m,run (CI a L (fr:Int)) (cur,(at':Int))=some m/\
   (match m with | .inl s=>run (CJ a) s=some (L++V0 a f at' cur fr) | .inr r=>r=L++V0 a f at' cur fr):=by
 intro f
 induction f with
 | zero=>
  intro at' L hf hL ha
  constructor
  ·rw [Rb U];refine AP (m:=some (L++fin [] at' at')) ?_;unfold CJ;simp only;rw [if_neg U];unfold fin;rw [if_pos Z,QzZ]
  ·intro cur fr hc hle hcl;have hc:cur≠[]:=hc.resolve_left U;refine⟨.inr (L++fin cur fr at'),?_,Z⟩;refine AP (m:=some (Sum.inr (L++fin cur fr at'):WS)) ?_;unfold CI H3;simp only;rw [if_neg U,Ad (by constructor <;> omega)];unfold fin;rw [if_neg hc]
   rfl
 | succ f ih=>
  intro at' L hf hL ha
  have B:∀ (cur:List UInt8) (fr:Nat),(at'<a.length\/cur≠[])->at'<=a.length->cur.length<=at'->∃ m,run (CI a L (fr:Int)) (cur,(at':Int))=some m/\
   (match m with | .inl s=>run (CJ a) s=some (L++V0 a (f+1) at' cur fr) | .inr r=>r=L++V0 a (f+1) at' cur fr):=by
   intro cur fr hc hle hcl
   by_cases h:at'<a.length
   ·have hroom:=QB h;have hlow:=XH h;have b:=Acb (U0 h);unfold V0;rw [if_pos h]
    by_cases d:MI (a.drop at')=0
    ·rw [if_pos d] at b ⊢;have e:(((at':Nat):Int)+1)=((at'+1:Nat):Int):=by omega
     by_cases hcur:cur=[]
     ·have c:=(ih (at'+1) L U U U).1;refine⟨.inl (L,((at'+1:Nat):Int)),?_,?_⟩
      ·refine AP (m:=some (Sum.inl (L,((at'+1:Nat):Int)):WS)) ?_;unfold CI;simp only;rw [if_pos U,Ad ⟨by omega,by omega⟩,Qq8,b,Qq6];simp only;rw [if_pos trivial,Ad (by constructor <;> omega),if_pos hcur,e]
      ·simp only;rw [c];unfold fin;rw [if_pos hcur,Qxv]
     ·have c:=(ih (at'+1) (L++[(cur,(fr:Int),(at':Int))]) U (by rw [Qzu,QxD];omega) U).1;refine⟨.inl (L++[(cur,(fr:Int),(at':Int))],((at'+1:Nat):Int)),?_,?_⟩
      ·refine AP (m:=some (Sum.inl (L++[(cur,(fr:Int),(at':Int))],((at'+1:Nat):Int)):WS)) ?_;unfold CI;simp only;rw [if_pos U,Ad ⟨by omega,by omega⟩,Qq8,b,Qq6];simp only;rw [if_pos trivial,Ad (by constructor <;> omega),if_neg hcur,Ad (by constructor <;> omega),e]
      ·simp only;rw [c];unfold fin;rw [if_neg hcur,QxX]
    ·rw [if_neg d] at b ⊢;have hne:((a.drop at').take (MI (a.drop at'))).map Jq≠[]:=fun e=>by rw [e,Qzd] at hlow;omega
     obtain⟨m,c,h2⟩:=(ih (at'+MI (a.drop at')) L U U U).2 (cur++((a.drop at').take (MI (a.drop at'))).map Jq) fr (.inr (fun e=>hne (List.append_eq_nil_iff.1 e).2)) hroom (by rw [Qzu,hlow];omega);refine⟨m,?_,h2⟩;rw [<- c];refine Bg ?_;unfold CI;simp only;rw [if_pos U,Ad ⟨by omega,by omega⟩,Qq8,b,Qq6];simp only;rw [if_neg hne,Ad U,Ad (by constructor <;> omega)]
     rfl
   ·have hc:cur≠[]:=hc.resolve_left h;rw [Rb U];refine⟨.inr (L++fin cur fr at'),?_,Z⟩;refine AP (m:=some (Sum.inr (L++fin cur fr at'):WS)) ?_;unfold CI H3;simp only;rw [if_neg U,Ad (by constructor <;> omega)];unfold fin;rw [if_neg hc]
    rfl
  refine⟨?_,B⟩
  by_cases h:at'<a.length
  ·obtain⟨m,c,h2⟩:=B [] at' (.inl h) U Qqd
   have hb:CJ a (L,(at':Int))=some m:=by
    unfold CJ;simp only;rw [if_pos U];exact c
   cases m with
   | inl s=>rw [Bg hb];exact h2
   | inr r=>rw [AP (m:=some r) hb,h2]
  ·rw [Rb U];refine AP (m:=some (L++fin [] at' at')) ?_;unfold CJ;simp only;rw [if_neg U];unfold fin;rw [if_pos Z,QzZ]
theorem TL{a:List UInt8}(hs:a.length<=1000000000000):OV a=some (Ws a):=by
 have:=(Agk hs (a.length+1) 0 [] U Qqd U).1;rw [Qxv] at this;exact this
theorem Acd{a:List UInt8}(hs:a.length<=1000000000000):Kp a=some (decide ((Ws a).map Qq5=[a])):=by
 unfold Kp;rw [Ad U,TL hs,Qq6];generalize Ws a=l
 match l with
 | []=>rw [if_neg Qqd];simp
 | [x]=>rw [if_pos (show(([x].length:Nat):Int)=1 from Z),Ad Qqd];simp
 | x::y::z=>rw [if_neg (by simp;omega)];simp
end Go.Proofs.YtekmbcbgknmhiaaGreatDoor
end
noncomputable section
namespace Go.Proofs.YtekmbcbgknmhiaaGreatDoor
open Go Go.E Go.RowKit Go.L
set_option maxHeartbeats 1000000
set_option maxRecDepth 10000
open _root_.Go.Proofs.Tryz
def LR(a b:Int):Option Int:=
 if a=3 then if b<2048 then some (0) else Qq4 (HS b (55296:Int) (57343:Int)) (fun c=>if c then some (0) else if a=4 then Qq4 (HS b (65536:Int) (1114111:Int)) (fun d=>if !d then some (0) else some a) else some a) else if a=4 then Qq4 (HS b (65536:Int) (1114111:Int)) (fun e=>if !e then some (0) else some a) else some a
def KM(a0:AcC)(a1 c:Int):Int×Int->Option ((Int×Int) ⊕ (Int)):=fun⟨b,a⟩=>
 if a<c then AN (Bz (a1+a)) (AN (0<=(a1+a)/\(a1+a)<(a0.length:Int)) (Qq4 (HS ((a0.getD ((a1+a).toNat) Qq2).toNat:Int) (128:Int) (191:Int)) (fun d=>if !d then Qq7 Sum.inr (some (0)) else AN (Bz (64 * b)) (AN (Bz ((64 * b)+((a0.getD ((a1+a).toNat) Qq2).toNat:Int))) (AN (Bz (((64 * b)+((a0.getD ((a1+a).toNat) Qq2).toNat:Int)) - 128)) (AN (Bz (a+1)) (some (Sum.inl ((((64 * b)+((a0.getD ((a1+a).toNat) Qq2).toNat:Int)) - 128),(a+1)))))))))) else Qq7 Sum.inr ((LR c) b)
def Ny(a0:AcC)(a1 a:Int)(s:Int×Int):Option Int:=Go.L.run (KM a0 a1 a) s
def Jr(a0:AcC)(a1 a b:Int):Option Int:=
 if a=0 then some (0) else AN (Bz (a1+a)) (if(a0.length:Int)<(a1+a) then some (0) else(Ny a0 a1 a) (b,1))
def LS(a0:AcC)(a1 a b:Int):Option Int:=
 Qq4 (HS ((a0.getD a1.toNat Qq2).toNat:Int) (240:Int) (244:Int)) (fun c=>if c then AN (Bz (((a0.getD a1.toNat Qq2).toNat:Int) - 240)) ((Jr a0 a1) (4:Int) (((a0.getD a1.toNat Qq2).toNat:Int) - 240)) else(Jr a0 a1) a b)
def Nz(a0:AcC)(a1 a b:Int):Option Int:=
 Qq4 (HS ((a0.getD a1.toNat Qq2).toNat:Int) (224:Int) (239:Int)) (fun c=>if c then AN (Bz (((a0.getD a1.toNat Qq2).toNat:Int) - 224)) ((LS a0 a1) (3:Int) (((a0.getD a1.toNat Qq2).toNat:Int) - 224)) else(LS a0 a1) a b)
def To(a0:AcC)(a1:Int):Option Int:=
 AN (0<=a1/\a1<(a0.length:Int)) (Qq4 (HS ((a0.getD a1.toNat Qq2).toNat:Int) (194:Int) (223:Int)) (fun a=>if a then AN (Bz (((a0.getD a1.toNat Qq2).toNat:Int) - 192)) ((Nz a0 a1) (2:Int) (((a0.getD a1.toNat Qq2).toNat:Int) - 192)) else(Nz a0 a1) (0:Int) (0:Int)))
def Om(a0:AcC)(a1:Int):Option Int:=
 AN (0<=a1/\a1<(a0.length:Int)) (Qq4 (HS ((a0.getD a1.toNat Qq2).toNat:Int) (48:Int) (57:Int)) (fun c=>if c then some (1) else Qq4 (HS ((a0.getD a1.toNat Qq2).toNat:Int) (97:Int) (122:Int)) (fun d=>if d then some (1) else Qq4 (HS ((a0.getD a1.toNat Qq2).toNat:Int) (65:Int) (90:Int)) (fun a=>if a then some (1) else Qq4 (To a0 a1) (fun b=>some b)))))
def MJ(c:AcC)(a:Int)(b:UInt8):Option ((AcC×Int) ⊕ ((AcC×Int) ⊕ ((AjM×Int) ⊕ (AjM)))):=
 AN (Go.E.H7 1 (c.length+([b]).length)) (AN (Bz (a+1)) (some (Sum.inl ((c++[b]),(a+1)))))
def R2(a b:Int)(c:AcC):Option ((AcC×Int) ⊕ ((AjM×Int) ⊕ (AjM))):=
 AN (Bz (a+b)) (some (Sum.inl (c,(a+b))))
def LU(a0:AcC)(b c:Int):AcC×Int->Option ((AcC×Int) ⊕ ((AcC×Int) ⊕ ((AjM×Int) ⊕ (AjM)))):=fun⟨d,a⟩=>
 AN (Bz (b+c)) (if a<(b+c) then AN (0<=a/\a<(a0.length:Int)) (if(65<=((a0.getD a.toNat Qq2).toNat:Int))/\(((a0.getD a.toNat Qq2).toNat:Int)<=90) then(MJ d a) (a0.getD a.toNat Qq2+(32:UInt8)) else(MJ d a) (a0.getD a.toNat Qq2)) else Qq7 Sum.inr ((R2 b c) d))
def O9(a0:AcC)(a b:Int)(s:AcC×Int):Option ((AcC×Int) ⊕ ((AjM×Int) ⊕ (AjM))):=Go.L.run (LU a0 a b) s
def MK(c:List (AcC×Int×Int))(b:Int)(d:AcC)(a:Int):Option ((AjM×Int) ⊕ (AjM)):=
 if b<a then AN (Go.E.H7 32 (c.length+([(d,b,a)]).length)) (AN (Bz (a+1)) (some (Sum.inl ((c++[(d,b,a)]),(a+1))))) else AN (Bz (a+1)) (some (Sum.inl (c,(a+1))))
def HL(a0:AcC)(d:List (AcC×Int×Int))(b:Int):AcC×Int->Option ((AcC×Int) ⊕ ((AjM×Int) ⊕ (AjM))):=fun⟨c,a⟩=>
 if a<(a0.length:Int) then Qq4 (Om a0 a) (fun e=>if 0<e then Qq4 (Om a0 a) (fun f=>(O9 a0 a f) (c,a)) else Qq7 Sum.inr ((MK d b) c a)) else Qq7 Sum.inr ((MK d b) c a)
def Wt(a0:AcC)(b:List (AcC×Int×Int))(a:Int)(s:AcC×Int):Option ((AjM×Int) ⊕ (AjM)):=Go.L.run (HL a0 b a) s
def R3(a:List (AcC×Int×Int)):Option (AjM):=
 some a
def FC(a0:AcC):AjM×Int->Option ((AjM×Int) ⊕ (AjM)):=fun⟨b,a⟩=>
 if a<(a0.length:Int) then(Wt a0 b a) (([]:AcC),a) else Qq7 Sum.inr (R3 b)
def Wu(a0:AcC)(s:AjM×Int):Option (AjM):=Go.L.run (FC a0) s
def V1(a0:AcC):Option (AjM):=
 (Wu a0) (([]:List (AcC×Int×Int)),0)
def NO(a0:AcC):Option ((Int×Int)):=
 if 64<(a0.length:Int) then Qq4 (L8 (3:Int) (-1:Int)) (fun d=>some ((d.1,d.2))) else AN (a0.length<=9223372036854775807) (Qq4 (V1 a0) (fun a=>if(a.length:Int)=1 then AN (0<=(0:Int)/\(0:Int)<(a.length:Int)) (if(a.getD ((0:Int).toNat) Qq2).1=a0 then some ((0,0)) else Qq4 (L8 (6:Int) (-1:Int)) (fun b=>some ((b.1,b.2)))) else Qq4 (L8 (6:Int) (-1:Int)) (fun c=>some ((c.1,c.2)))))
end Go.Proofs.YtekmbcbgknmhiaaGreatDoor
end
noncomputable section
namespace Go.Proofs.YtekmbcbgknmhiaaGreatDoor
open Go Go.L
theorem PQ(x y z:Int):HS x y z=some (decide (y<=x/\x<=z)):=Z
theorem XI{a:List UInt8}{i:Nat}(k:Nat){z:Int}(hz:z=((i+k:Nat):Int)):((a.getD z.toNat Qq2).toNat:Int)=((bt (a.drop i) k:Nat):Int):=by
 subst hz;rw [Agi,Qq8]
 rfl
theorem N6{a:List UInt8}(hs:a.length<=1000000000000)(i k:Nat)(n:Nat)(p:Nat)(hp:p<=1000000000)(hk:k<n)(_h4:n<=4)(hlen:i+n<=a.length):
  KM a (i:Int) (n:Int) ((p:Int),(k:Int))=if cont (a.drop i) k then some (.inl (((p * 64+(bt (a.drop i) k - 128):Nat):Int),((k+1:Nat):Int))) else some (.inr 0):=by
 unfold KM;have hb:bt (a.drop i) k<256:=Qx1 _;have hg:=XI (a:=a) (i:=i) k (z:=(i:Int)+(k:Int)) U;simp only;rw [if_pos U,Ad (by constructor <;> omega),Ad ⟨by omega,by omega⟩,hg,PQ,Qq6]
 have hc:cont (a.drop i) k=decide ((128:Int)<=((bt (a.drop i) k:Nat):Int)/\((bt (a.drop i) k:Nat):Int)<=191):=by
  unfold cont;rw [QzA]
  congr 1
  apply propext
  constructor
  ·rintro⟨_,h2,h3⟩;exact⟨by omega,by omega⟩
  ·rintro⟨h2,h3⟩;exact⟨by omega,by omega,by omega⟩
 rw [hc]
 by_cases h:(128:Int)<=((bt (a.drop i) k:Nat):Int)/\((bt (a.drop i) k:Nat):Int)<=191
 ·rw [decide_eq_true h,if_neg Qqc,if_pos Z,Ad (by constructor <;> omega),Ad (by constructor <;> omega),Ad (by constructor <;> omega),Ad (by constructor <;> omega)]
  congr 3
  ·omega
 ·rw [decide_eq_false h,if_pos Qqc,if_neg Qqc]
  rfl
theorem Tp{a:List UInt8}{i:Nat}(n:Nat)(p:Nat):KM a (i:Int) (n:Int) ((p:Int),(n:Int))=(LR (n:Int) (p:Int)).map Sum.inr:=by
 unfold KM;simp only;rw [if_neg U]
theorem size_eq{a:List UInt8}(hs:a.length<=1000000000000){i:Nat}(hi:i<a.length):To a (i:Int)=some ((PO (a.drop i):Nat):Int):=by
 have o:bt (a.drop i) 0<256:=Qx1 _;have hg:=XI (a:=a) (i:=i) 0 (z:=(i:Int)) U;have k3z:∀ s,Jr a (i:Int) 0 s=some 0:=fun s=>by unfold Jr;rw [if_pos Z]
 -- the loop for n bytes
 have hc:∀ k,cont (a.drop i) k=true->i+k<a.length:=fun k h=>by
  have:=(of_decide_eq_true h).1;rw [QzA] at this;omega
 unfold To;rw [Ad ⟨by omega,by omega⟩,hg,PQ,Qq6];unfold PO
 by_cases hA:194<=bt (a.drop i) 0/\bt (a.drop i) 0<=223
 ·rw [decide_eq_true ⟨by omega,by omega⟩,if_pos Z,Ad (by constructor <;> omega),if_pos hA];unfold Nz LS Jr;rw [hg,PQ,Qq6,decide_eq_false U,if_neg Qqc,PQ,Qq6,decide_eq_false U,if_neg Qqc,if_neg Qqc,Ad (by constructor <;> omega)]
  by_cases h2:i+2<=a.length
  ·rw [if_neg U];have e:((bt (a.drop i) 0:Nat):Int) - 192=((bt (a.drop i) 0 - 192:Nat):Int):=by omega
   rw [e];unfold Ny;have s1:=N6 hs i 1 2 (bt (a.drop i) 0 - 192) U Qqc Qqc h2
   by_cases c1:cont (a.drop i) 1=true
   ·rw [if_pos c1] at s1 ⊢;refine(Bg s1).trans (AP (m:=some 2) ((Tp 2 _).trans ?_));unfold LR;rw [if_neg Qqc,if_neg Qqc]
    rfl
   ·rw [if_neg c1] at s1 ⊢;exact AP (m:=some 0) s1
  ·rw [if_pos U,if_neg (fun h=>by have:=hc 1 h;omega)]
   rfl
 rw [decide_eq_false U,if_neg Qqc,if_neg hA];unfold Nz;rw [hg,PQ,Qq6]
 by_cases hB:224<=bt (a.drop i) 0/\bt (a.drop i) 0<=239
 ·rw [decide_eq_true ⟨by omega,by omega⟩,if_pos Z,Ad (by constructor <;> omega),if_pos hB];unfold LS Jr;rw [hg,PQ,Qq6,decide_eq_false U,if_neg Qqc,if_neg Qqc,Ad (by constructor <;> omega)]
  by_cases h2:i+3<=a.length
  ·rw [if_neg U];have e:((bt (a.drop i) 0:Nat):Int) - 224=((bt (a.drop i) 0 - 224:Nat):Int):=by omega
   rw [e];unfold Ny;have g:bt (a.drop i) 1<256:=Qx1 _;have j:bt (a.drop i) 2<256:=Qx1 _;have s1:=N6 hs i 1 3 (bt (a.drop i) 0 - 224) U Qqc Qqc h2;have b:=N6 hs i 2 3 ((bt (a.drop i) 0 - 224) * 64+(bt (a.drop i) 1 - 128)) U Qqc Qqc h2
   by_cases c1:cont (a.drop i) 1=true
   ·rw [if_pos c1] at s1;refine(Bg s1).trans ?_
    by_cases c2:cont (a.drop i) 2=true
    ·rw [if_pos c2] at b;refine(Bg b).trans (AP (m:=some _) ((Tp 3 _).trans (congrArg _ ?_)));have f:((bt (a.drop i) 0 - 224) * 64+(bt (a.drop i) 1 - 128)) * 64+(bt (a.drop i) 2 - 128)=pt3 (a.drop i):=Z;rw [f];unfold LR;rw [if_pos Qqc]
     by_cases c:2048<=pt3 (a.drop i)
     ·rw [if_neg U,PQ,Qq6]
      by_cases l:55296<=pt3 (a.drop i)/\pt3 (a.drop i)<=57343
      ·rw [decide_eq_true ⟨by omega,by omega⟩,if_pos Z,if_neg (fun h=>h.2.2.2 l)];rfl
      ·rw [decide_eq_false U,if_neg Qqc,if_neg Qqc,if_pos ⟨c1,c2,c,l⟩]
     ·rw [if_pos U,if_neg (fun h=>c h.2.2.1)];rfl
    ·rw [if_neg c2] at b;rw [if_neg (fun h=>c2 h.2.1)];exact AP (m:=some 0) b
   ·rw [if_neg c1] at s1;rw [if_neg (fun h=>c1 h.1)];exact AP (m:=some 0) s1
  ·rw [if_pos U,if_neg (fun h=>by have:=hc 2 h.2.1;omega)]
   rfl
 rw [decide_eq_false U,if_neg Qqc,if_neg hB];unfold LS;rw [hg,PQ,Qq6]
 by_cases hC:240<=bt (a.drop i) 0/\bt (a.drop i) 0<=244
 ·rw [decide_eq_true ⟨by omega,by omega⟩,if_pos Z,Ad (by constructor <;> omega),if_pos hC];unfold Jr;rw [if_neg Qqc,Ad (by constructor <;> omega)]
  by_cases h2:i+4<=a.length
  ·rw [if_neg U];have e:((bt (a.drop i) 0:Nat):Int) - 240=((bt (a.drop i) 0 - 240:Nat):Int):=by omega
   rw [e];unfold Ny;have g:bt (a.drop i) 1<256:=Qx1 _;have j:bt (a.drop i) 2<256:=Qx1 _;have p:bt (a.drop i) 3<256:=Qx1 _;have s1:=N6 hs i 1 4 (bt (a.drop i) 0 - 240) U Qqc Qqc h2;have b:=N6 hs i 2 4 ((bt (a.drop i) 0 - 240) * 64+(bt (a.drop i) 1 - 128)) U Qqc Qqc h2;have d:=N6 hs i 3 4 (((bt (a.drop i) 0 - 240) * 64+(bt (a.drop i) 1 - 128)) * 64+(bt (a.drop i) 2 - 128)) U Qqc Qqc h2
   by_cases c1:cont (a.drop i) 1=true
   ·rw [if_pos c1] at s1;refine(Bg s1).trans ?_
    by_cases c2:cont (a.drop i) 2=true
    ·rw [if_pos c2] at b;refine(Bg b).trans ?_
     by_cases c3:cont (a.drop i) 3=true
     ·rw [if_pos c3] at d;refine(Bg d).trans (AP (m:=some _) ((Tp 4 _).trans (congrArg _ ?_)));have f:(((bt (a.drop i) 0 - 240) * 64+(bt (a.drop i) 1 - 128)) * 64+(bt (a.drop i) 2 - 128)) * 64+(bt (a.drop i) 3 - 128)=pt4 (a.drop i):=Z;rw [f];unfold LR;rw [if_neg Qqc,if_pos Qqc,PQ,Qq6]
      by_cases c:65536<=pt4 (a.drop i)/\pt4 (a.drop i)<=1114111
      ·rw [decide_eq_true ⟨by omega,by omega⟩,if_neg Qqc,if_pos ⟨c1,c2,c3,c⟩]
      ·rw [decide_eq_false U,if_pos Qqc,if_neg (fun h=>c h.2.2.2)];rfl
     ·rw [if_neg c3] at d;rw [if_neg (fun h=>c3 h.2.2.1)];exact AP (m:=some 0) d
    ·rw [if_neg c2] at b;rw [if_neg (fun h=>c2 h.2.1)];exact AP (m:=some 0) b
   ·rw [if_neg c1] at s1;rw [if_neg (fun h=>c1 h.1)];exact AP (m:=some 0) s1
  ·rw [if_pos U,if_neg (fun h=>by have:=hc 3 h.2.2.1;omega)]
   rfl
 rw [decide_eq_false U,if_neg Qqc,if_neg hC,k3z]
 rfl
theorem Aai{a:List UInt8}(hs:a.length<=1000000000000){i:Nat}(hi:i<a.length):Om a (i:Int)=some ((MI (a.drop i):Nat):Int):=by
 have hg:=XI (a:=a) (i:=i) 0 (z:=(i:Int)) U;unfold Om;rw [Ad ⟨by omega,by omega⟩,hg,PQ,Qq6];unfold MI asc
 by_cases b:48<=bt (a.drop i) 0/\bt (a.drop i) 0<=57
 ·rw [decide_eq_true ⟨by omega,by omega⟩,if_pos Z,if_pos (decide_eq_true (.inl b))];rfl
 rw [decide_eq_false U,if_neg Qqc,PQ,Qq6]
 by_cases h2:97<=bt (a.drop i) 0/\bt (a.drop i) 0<=122
 ·rw [decide_eq_true ⟨by omega,by omega⟩,if_pos Z,if_pos (decide_eq_true (.inr (.inl h2)))];rfl
 rw [decide_eq_false U,if_neg Qqc,PQ,Qq6]
 by_cases h3:65<=bt (a.drop i) 0/\bt (a.drop i) 0<=90
 ·rw [decide_eq_true ⟨by omega,by omega⟩,if_pos Z,if_pos (decide_eq_true (.inr (.inr h3)))];rfl
 rw [decide_eq_false U,if_neg Qqc,size_eq hs hi,Qq6,if_neg (fun h=>by have:=of_decide_eq_true h;omega)]
end Go.Proofs.YtekmbcbgknmhiaaGreatDoor
namespace Go.Proofs.YtekmbcbgknmhiaaGreatDoor
open Go Go.L
theorem AdT{a:List UInt8}{e j:Nat}(h:e+j<a.length):((a.drop e).take (j+1)).map Jq=((a.drop e).take j).map Jq++[Jq (a.getD (e+j) Qq2)]:=by
 have b:(a.drop e)[j]? = some (a.getD (e+j) Qq2):=by
  rw [Qxw,Qq9,Qzj h]
  rfl
 rw [QxJ,b,List.map_append]
 rfl
theorem AdU{a:List UInt8}(hs:a.length<=1000000000000){e n:Nat}(h:e+n<=a.length)(low:List UInt8)(hl:low.length<=e):
  O9 a (e:Int) (n:Int) (low,(e:Int))=some (.inl (low++((a.drop e).take n).map Jq,((e+n:Nat):Int))):=by
 unfold O9
 have key:=DJ (b:=LU a (e:Int) (n:Int)) (m:=some (.inl (low++((a.drop e).take n).map Jq,((e+n:Nat):Int)))) (fun j=>(low++((a.drop e).take j).map Jq,((e+j:Nat):Int))) n (fun j hj=>by
  unfold LU;simp only;rw [Ad (by constructor <;> omega),if_pos U,Ad ⟨by omega,by omega⟩,Qq8]
  have hlen:(low++((a.drop e).take j).map Jq).length+[Jq (a.getD (e+j) Qq2)].length<=2000000000002:=by
   rw [Qzu,Qzk,QzK,QzA,QxD];omega
  have hk:MJ (low++((a.drop e).take j).map Jq) ((e+j:Nat):Int) (Jq (a.getD (e+j) Qq2))=some (.inl (low++((a.drop e).take (j+1)).map Jq,((e+(j+1):Nat):Int))):=by
   unfold MJ;rw [Ad (by constructor <;> omega),Ad (by constructor <;> omega),AdT U,QxX]
   congr 3
  rw [<- hk];unfold Jq
  split
  ·rfl
  ·rfl) (by
  unfold LU R2;simp only;rw [Ad (by constructor <;> omega),if_neg U,Ad (by constructor <;> omega)]
  congr 3) 0 (hi:=(by omega))
 simp only [List.take_zero,List.map_nil,QzZ,Qxk] at key;exact key
theorem XJ{a:List UInt8}{at':Nat}(h:a.length<=at')(L:List W):run (FC a) (L,(at':Int))=some L:=by
 refine AP (m:=some L) ?_;unfold FC R3;simp only;rw [if_neg U]
theorem AdV{a:List UInt8}(hs:a.length<=1000000000000)(L:List W){fr at':Nat}(hL:L.length<=at')(ha:at'<=a.length)(cur:List UInt8)(hfr:fr<=at')(hc:cur=[]↔fr=at'):
  MK L (fr:Int) cur (at':Int)=some (.inl (L++fin cur fr at',((at'+1:Nat):Int))):=by
 unfold MK fin
 by_cases h:fr=at'
 ·rw [if_neg U,Ad (by constructor <;> omega),if_pos (hc.2 h),QzZ]
  congr 3
 ·rw [if_pos U,Ad (by rw [QxD];constructor <;> omega),Ad (by constructor <;> omega),if_neg (fun e=>h (hc.1 e))]
  congr 3
theorem Agl{a:List UInt8}(hs:a.length<=1000000000000):∀ (f at':Nat) (L:List W),a.length<=at'+f->L.length<=at'->at'<=a.length+1->
  run (FC a) (L,(at':Int))=some (L++V0 a f at' [] at')/\
  ∀
   (cur:List UInt8) (fr:Nat),at'<=a.length->fr<=at'->cur.length<=at'->(cur=[]↔fr=at')->∃ s,run (HL a L (fr:Int)) (cur,(at':Int))=some (.inl s)/\
   run (FC a) s=some (L++V0 a f at' cur fr):=by
 have E:∀ (f at':Nat) (L:List W),a.length<=at'->L.length<=at'->∀ (cur:List UInt8) (fr:Nat),at'<=a.length->fr<=at'->(cur=[]↔fr=at')->∃ s,run (HL a L (fr:Int)) (cur,(at':Int))=some (.inl s)/\
   run (FC a) s=some (L++V0 a f at' cur fr):=by
  intro f at' L h hL cur fr hle hfr hc;refine⟨(L++fin cur fr at',((at'+1:Nat):Int)),?_,?_⟩
  ·refine AP (m:=some (Sum.inl (L++fin cur fr at',((at'+1:Nat):Int)):WS)) ?_;unfold HL;simp only;rw [if_neg U,AdV hs L hL hle cur hfr hc]
  ·rw [XJ U,Rb h]
 intro f
 induction f with
 | zero=>
  intro at' L hf hL ha
  constructor
  ·rw [XJ U,Rb U];unfold fin;rw [if_pos Z,QzZ]
  ·intro cur fr hle hfr _ hc;exact E 0 at' L U hL cur fr hle hfr hc
 | succ f ih=>
  intro at' L hf hL ha
  have B:∀ (cur:List UInt8) (fr:Nat),at'<=a.length->fr<=at'->cur.length<=at'->(cur=[]↔fr=at')->∃ s,run (HL a L (fr:Int)) (cur,(at':Int))=some (.inl s)/\
   run (FC a) s=some (L++V0 a (f+1) at' cur fr):=by
   intro cur fr hle hfr hcl hc
   by_cases h:at'<a.length
   ·have hroom:=QB h;have hlow:=XH h;have hl:=Aai hs h;unfold V0;rw [if_pos h]
    by_cases c:MI (a.drop at')=0
    ·rw [if_pos c];refine⟨(L++fin cur fr at',((at'+1:Nat):Int)),?_,?_⟩
     ·refine AP (m:=some (Sum.inl (L++fin cur fr at',((at'+1:Nat):Int)):WS)) ?_;unfold HL;simp only;rw [if_pos U,hl,Qq6,if_neg U,AdV hs L hL hle cur hfr hc]
     ·have b:=(ih (at'+1) (L++fin cur fr at') U (by rw [Qzu];have:=XG cur fr at';omega) U).1;rw [b,QxX]
    ·rw [if_neg c];have hne:((a.drop at').take (MI (a.drop at'))).map Jq≠[]:=fun e=>by rw [e,Qzd] at hlow;omega
     obtain⟨s,b,h2⟩:=(ih (at'+MI (a.drop at')) L U U U).2 (cur++((a.drop at').take (MI (a.drop at'))).map Jq) fr hroom U (by rw [Qzu,hlow];omega) ⟨fun e=>absurd (List.append_eq_nil_iff.1 e).2 hne,fun e=>by omega⟩;refine⟨s,?_,h2⟩;rw [<- b];refine Bg ?_;unfold HL;simp only;rw [if_pos U,hl,Qq6,if_pos U,Qq6,AdU hs hroom cur hcl]
   ·exact E (f+1) at' L U hL cur fr hle hfr hc
  refine⟨?_,B⟩
  by_cases h:at'<a.length
  ·obtain⟨s,b,h2⟩:=B [] at' U U Qqd ⟨fun _=>Z,fun _=>Z⟩
   have hb:FC a (L,(at':Int))=some (.inl s):=by
    unfold FC;simp only;rw [if_pos U];exact b
   rw [Bg hb];exact h2
  ·rw [XJ U,Rb U];unfold fin;rw [if_pos Z,QzZ]
theorem Ace{a:List UInt8}(hs:a.length<=1000000000000):V1 a=some (Ws a):=by
 have:=(Agl hs (a.length+1) 0 [] U Qqd U).1;rw [Qxv] at this;exact this
def wf(a:List UInt8):Int×Int:=if 64<a.length then(3,-1) else if(Ws a).map Qq5=[a] then(0,0) else(6,-1)
theorem NP(a:List UInt8):Hv a=some (wf a):=by
 unfold Hv wf
 by_cases h:64<a.length
 ·rw [if_pos U,if_pos h];rfl
 ·rw [if_neg U,if_neg h,Acd U,Qq6]
  by_cases b:(Ws a).map Qq5=[a]
  ·rw [decide_eq_true b,if_neg Qqc,if_pos b]
  ·rw [decide_eq_false b,if_pos Qqc,if_neg b];rfl
theorem XK(a:List UInt8):NO a=some (wf a):=by
 unfold NO wf
 by_cases h:64<a.length
 ·rw [if_pos U,if_pos h];rfl
 ·rw [if_neg U,if_neg h,Ad U,Ace U,Qq6];generalize Ws a=l
  match l with
  | []=>rw [if_neg Qqd,if_neg Qqd];rfl
  | [x]=>
   rw [if_pos (show(([x].length:Nat):Int)=1 from Z),Ad Qqd]
   show(if x.1=a then _ else _)=_
   by_cases b:x.1=a
   ·rw [if_pos b,if_pos (by simp [b])]
   ·rw [if_neg b,if_neg (by simp [b])];rfl
  | x::y::z=>rw [if_neg (by simp;omega),if_neg Qqd];rfl
theorem RQ{a:List UInt8}:∀ (f at':Nat) (cur:List UInt8) (fr:Nat),at'<=a.length->(V0 a f at' cur fr).length+at'<=a.length+1
 | 0,at',cur,fr,h=>by unfold V0;have:=XG cur fr at';omega
 | f+1,at',cur,fr,h=>by
  unfold V0;have:=XG cur fr at'
  split
  ·rename_i b
   split
   ·rw [Qzu];have:=RQ (a:=a) f (at'+1) [] (at'+1) U;omega
   ·have:=RQ (a:=a) f (at'+MI (a.drop at')) (cur++((a.drop at').take (MI (a.drop at'))).map Jq) fr (QB b);omega
  ·omega
theorem XL(a:List UInt8):(Ws a).length<=a.length+1:=RQ (a:=a) (a.length+1) 0 [] 0 (Qz3 _)
end Go.Proofs.YtekmbcbgknmhiaaGreatDoor
end
noncomputable section
namespace Go.L
def R4:List UInt8->List UInt8->List (List UInt8)
 | cur,[]=>[cur]
 | cur,c::s=>if c=47 then cur::R4 [] s else R4 (cur++[c]) s
theorem XM:∀ (s cur:List UInt8),R4 cur s=(cur++(R4 [] s).headD [])::(R4 [] s).tail
 | [],cur=>by simp [R4]
 | c::s,cur=>by
  unfold R4
  by_cases h:c=47
  ·rw [if_pos h,if_pos h];simp
  ·rw [if_neg h,if_neg h,XM s (cur++[c]),XM s ([]++[c])];simp
theorem XN:∀ (s cur:List UInt8),(R4 cur s).length<=s.length+1
 | [],_=>by simp [R4]
 | c::s,cur=>by
  unfold R4
  split
  ·have:=XN s [];simp only [Qzw];omega
  ·have:=XN s (cur++[c]);simp only [Qzw];omega
def TM:List (List UInt8)->Nat
 | []=>0
 | x::l=>x.length+1+TM l
theorem XO:∀ (s cur:List UInt8),TM (R4 cur s)=cur.length+s.length+1
 | [],cur=>by simp [R4,TM]
 | c::s,cur=>by
  unfold R4
  split
  ·unfold TM;rw [XO s []];simp only [Qzw,Qzd];omega
  ·rw [XO s];simp only [Qzu,Qzw,Qzd];omega
theorem V2:∀ s:List UInt8,Lib.splitK [47] 0 (s.count 47) s=R4 [] s
 | []=>rfl
 | c::s=>by
  have ih:=V2 s
  have hi:Lib.index (c::s) [47]=if c==47 then 0 else if Lib.index s [47] == -1 then -1 else Lib.index s [47]+1:=by
   rw [Lib.index_one,Lib.index_one];rfl
  by_cases h:c=47
  ·subst h;rw [List.count_cons_self];unfold Lib.splitK R4;rw [hi];simp [ih]
  ·have hb:(c==47)=false:=by simpa using h
   rw [List.count_cons_of_ne (fun e=>h e)]
   have hp:R4 [] (c::s)=([c]++(R4 [] s).headD [])::(R4 [] s).tail:=by
    conv=>lhs;unfold R4
    rw [if_neg h,XM s ([]++[c])];rfl
   rw [hp,<- ih]
   cases hk:s.count 47 with
   | zero=>rfl
   | succ k=>
    unfold Lib.splitK;rw [hi,hb]
    by_cases a:(Lib.index s [47] == -1)=true
    ·simp [a]
    ·have hge : -1<=Lib.index s [47]:=Lib.index_ge s [47];have h2:0<=Lib.index s [47]:=by have:Lib.index s [47]≠-1:=fun e=>a (by simp [e]);omega
     obtain⟨i,b⟩:=QxK h2;have h3:((i:Int)+1 == -1)=false:=by simp;omega
     have d:((i:Int) == -1)=false:=by simp
     rw [b] at a ⊢;simp [h3,d,show((i:Int)+1).toNat=i+1 by omega]
def sl(s:List UInt8):List (List UInt8):=if s=[] then[] else R4 [] s
theorem AdW(s:List UInt8):(sl s).length<=s.length+1:=by unfold sl;split;simp;exact XN s []
theorem AdX(s:List UInt8):TM (sl s)<=s.length+1:=by unfold sl;split;simp [TM];rw [XO];simp
theorem XP:∀ {l:List (List UInt8)} {x:List UInt8},x∈l->x.length<TM l
 | y::l,x,h=>by
  unfold TM
  rcases List.mem_cons.1 h with rfl | h
  ·omega
  ·have:=XP h;omega
def Ym(c:UInt8):Bool:=decide ((97<=c.toNat/\c.toNat<=122)\/(48<=c.toNat/\c.toNat<=57)\/c.toNat=45\/c.toNat=95\/c.toNat=46)
def S5(s:List UInt8):Bool:=decide (1<=s.length/\s.length<=32/\97<=(s.getD 0 Qq2).toNat/\(s.getD 0 Qq2).toNat<=122)&&s.all Ym
def wr(w:Bool):Int->List (List UInt8)->Int
 | _,[]=>-1
 | a,x::l=>if(S5 x||decide (x=[35])||(w&&(decide (x=[42])||decide (x=[42,42]))))=true then wr w (a+x.length+1) l else a
theorem drop_cons{α:Type}[Inhabited α]{l:List α}{i:Nat}(h:i<l.length):l.drop i=l.getD i Qq2::l.drop (i+1):=by
 rw [List.drop_eq_getElem_cons h];simp [Qq9,Qzj h]
theorem Et{α:Type}[Inhabited α]{l:List α}{i:Nat}(h:i<l.length):l.getD i Qq2∈l:=by
 rw [Qq9,Qzj h];exact List.getElem_mem h
end Go.L
namespace Go.Proofs.YtekmbcbgknmhiaaGreatDoor
open Go Go.L
theorem V3{s:List UInt8}(h:s.length<4294967281):Ir s=some (sl s):=by
 unfold Ir sl
 by_cases hs:s=[]
 ·rw [if_pos hs,if_pos hs]
 ·rw [if_neg hs,if_neg hs];unfold strings_Split QX;rw [Ad ⟨h,Z,Z,Z⟩]
  show some (pieces s)=some (R4 [] s)
  unfold pieces Lib.split;rw [Lib.count_one,V2]
theorem Wv{s:List UInt8}(hs:s.length<=1000000000000):∀ (d i f:Nat) (L:List (List UInt8)),i+d=s.length->f<=i->L.length<=i->
  Go.L.run (Fj s) (L,(f:Int),(i:Int))=some (L++R4 ((s.drop f).take (i - f)) (s.drop i)):=by
 intro d
 induction d with
 | zero=>
  intro i f L hi hf hL
  have a:Fj s (L,(f:Int),(i:Int))=some (.inl (L++[(s.drop f).take (i - f)],((i+1:Nat):Int),((i+1:Nat):Int))):=by
   unfold Fj;simp only [Qq8];rw [if_pos U,if_pos U,Ad U,Ad (by unfold Go.E.H7;simp;omega),Ad (by unfold Bz;omega),Ad (by unfold Bz;omega)]
   rfl
  rw [Bg a,AP (m:=some (L++[(s.drop f).take (i - f)]))]
  ·rw [Qz5 (by omega:s.length<=i)];rfl
  ·unfold Fj;dsimp only;rw [if_neg U]
   rfl
 | succ d ih=>
  intro i f L hi hf hL;have hil:i<s.length:=by omega
  have hd:=drop_cons hil
  by_cases hc:s.getD i Qq2=47
  ·have a:Fj s (L,(f:Int),(i:Int))=some (.inl (L++[(s.drop f).take (i - f)],((i+1:Nat):Int),((i+1:Nat):Int))):=by
    unfold Fj;simp only [Qq8];rw [if_pos U,if_neg U,Ad U,if_pos (by rw [hc];rfl),Ad U,Ad (by unfold Go.E.H7;simp;omega),Ad (by unfold Bz;omega),Ad (by unfold Bz;omega)]
    rfl
   rw [Bg a,ih (i+1) (i+1) _ U (Qzx _) (by simp;omega),hd]
   conv=>rhs;unfold R4
   rw [if_pos hc,Nat.sub_self,List.take_zero,QxX]
   rfl
  ·have a:Fj s (L,(f:Int),(i:Int))=some (.inl (L,(f:Int),((i+1:Nat):Int))):=by
    unfold Fj;simp only [Qq8];rw [if_pos U,if_neg U,Ad U,if_neg (fun e=>hc (UInt8.toNat.inj (show(s.getD i Qq2).toNat=47 by omega))),Ad (by unfold Bz;omega)]
    rfl
   rw [Bg a,ih (i+1) f _ U U U,hd]
   conv=>rhs;unfold R4
   rw [if_neg hc]
   congr 2
   rw [show i+1 - f=(i - f)+1 by omega,QxJ,Qxw,show f+(i - f)=i by omega,Qzj hil];simp [Qq9,Qzj hil]
theorem Acf{s:List UInt8}(hs:s.length<=1000000000000):RJ s=some (sl s):=by
 unfold RJ sl
 split
 ·rfl
 ·have:=Wv hs s.length 0 0 [] U (Qzx _) (Qzx _);exact this
theorem Aaj{s:List UInt8}(hs:s.length<=1000000000000):∀ (d i:Nat),i+d=s.length->1<=i->Go.L.run (EG s) (i:Int)=some ((s.drop i).all Ym&&decide (1<=s.length/\s.length<=32)):=by
 intro d
 induction d with
 | zero=>
  intro i hi h;refine AP ?_;unfold EG Qu HS;rw [if_neg U,Qz5 (by omega:s.length<=i)];simp only [Qq6,Option.map_some,List.all_nil,Qkv]
  congr 2
  rw [decide_eq_decide];omega
 | succ d ih=>
  intro i hi h;have hil:i<s.length:=by omega
  rw [drop_cons hil,List.all_cons]
  have hstep:EG s (i:Int)=if Ym (s.getD i Qq2) then some (.inl ((i+1:Nat):Int)) else some (.inr false):=by
   unfold EG HS Ym;rw [if_pos U,Ad U,Qq8];have hk:Bz ((i:Int)+1):=by unfold Bz;omega
   have hz : ¬ ((i:Int)=0):=by omega
   simp only [Qq6,Ad hk,if_neg hz];generalize (s.getD i Qq2).toNat=c;have j:(decide ((97:Int)<=(c:Int)/\(c:Int)<=122))=decide (97<=c/\c<=122):=by rw [decide_eq_decide];omega
   have k:(decide ((48:Int)<=(c:Int)/\(c:Int)<=57))=decide (48<=c/\c<=57):=by rw [decide_eq_decide];omega
   rw [j,k]
   by_cases a:97<=c/\c<=122
   ·simp [a]
   ·by_cases b:48<=c/\c<=57
    ·simp [a,b]
    ·by_cases e:c=45
     ·subst e;simp
     ·by_cases f:c=95
      ·subst f;simp
      ·by_cases g:c=46
       ·subst g;simp
       ·have k3' : ¬ ((c:Int)=45):=by omega
        have k4' : ¬ ((c:Int)=95):=by omega
        have k5' : ¬ ((c:Int)=46):=by omega
        simp [a,b,e,f,g,k3',k4',k5']
  by_cases hn:Ym (s.getD i Qq2)=true
  ·rw [if_pos hn] at hstep;rw [Bg hstep,ih (i+1) U U,hn,Qkv]
  ·rw [if_neg hn] at hstep;have hn':Ym (s.getD i Qq2)=false:=by simpa using hn
   rw [AP (m:=some false) hstep,hn',Bool.false_and,Bool.false_and]
theorem Acg{s:List UInt8}(hs:s.length<=1000000000000):Qx s=some (S5 s):=by
 unfold Qx Qw
 by_cases b:s=[]
 ·subst b;refine AP ?_
  rfl
 ·have hl:0<s.length:=Qkb.2 b;have hd:s=s.getD 0 Qq2::s.drop 1:=by have:=drop_cons hl;simpa using this
  by_cases hc:97<=(s.getD 0 Qq2).toNat/\(s.getD 0 Qq2).toNat<=122
  ·have a:EG s (0:Int)=some (.inl ((1:Nat):Int)):=by
    unfold EG HS;rw [if_pos U,Ad U];simp only [Qq6,Int.toNat_zero];have hh:(decide ((97:Int)<=((s.getD 0 Qq2).toNat:Int)/\((s.getD 0 Qq2).toNat:Int)<=122))=true:=by rw [decide_eq_true_eq];omega
    rw [hh,if_neg Qqc,Ad (by unfold Bz;omega)]
    rfl
   rw [Bg a,Aaj hs (s.length - 1) 1 U (Qzx _)];unfold S5;have hn:Ym (s.getD 0 Qq2)=true:=by unfold Ym;rw [decide_eq_true_eq];exact .inl hc
   have ha:s.all Ym=(s.drop 1).all Ym:=by conv=>lhs;rw [hd,List.all_cons,hn,Qkv]
   rw [ha,Bool.and_comm]
   congr 2
   rw [decide_eq_decide]
   constructor
   ·intro h;exact⟨h.1,h.2,hc.1,hc.2⟩
   ·intro h;exact⟨h.1,h.2.1⟩
  ·have a:EG s (0:Int)=some (.inr false):=by
    unfold EG HS;rw [if_pos U,Ad U];simp only [Qq6,Int.toNat_zero];have hh:(decide ((97:Int)<=((s.getD 0 Qq2).toNat:Int)/\((s.getD 0 Qq2).toNat:Int)<=122))=false:=by rw [decide_eq_false_iff_not];omega
    rw [hh]
    rfl
   rw [AP (m:=some false) a];unfold S5;rw [show(decide (1<=s.length/\s.length<=32/\97<=(s.getD 0 Qq2).toNat/\(s.getD 0 Qq2).toNat<=122))=false by rw [decide_eq_false_iff_not];intro h;exact hc ⟨h.2.2.1,h.2.2.2⟩]
   rfl
theorem WT(l:List UInt8)(k:Nat):((ByteArray.mk l.toArray).get! k).toNat=(l.getD k Qq2).toNat:=by
 simp [ByteArray.get!,Qq9,getElem!_def]
 cases l[k]? <;> rfl
theorem Agm{l:List UInt8}{p:Nat}(h:(l.getD p Qq2).toNat<128):Utf8.decode ⟨l.toArray⟩ p=((l.getD p Qq2).toNat,1):=by
 unfold Utf8.decode;simp only [Qxk,WT];rw [if_pos h]
theorem AdY{l:List UInt8}{p:Nat}(h : ¬ (l.getD p Qq2).toNat<128):128<=(Utf8.decode ⟨l.toArray⟩ p).1:=by
 unfold Utf8.decode;simp only [Qxk,WT];rw [if_neg h]
 split
 ·split
  ·rename_i h2;simpa using h2
  ·decide
 ·split
  ·split
   ·rename_i h2;simp only [ge_iff_le,Qzb,decide_eq_true_eq] at h2;show 128<=_;omega
   ·decide
  ·split
   ·split
    ·rename_i h2;simp only [ge_iff_le,Qzb,decide_eq_true_eq] at h2;show 128<=_;omega
    ·decide
   ·decide
theorem AdZ(c:UInt8):XC c.toNat = !(Ym c):=by
 unfold XC Ym;generalize c.toNat=n;rw [Qxz];simp;omega
theorem Aea{a:List UInt8}:∀ (f p:Nat),a.length<=p+f->(0<=Lib.idxFuncFrom XC true ⟨a.toArray⟩ f p↔(a.drop p).all Ym=false)
 | 0,p,h=>by
  rw [Qz5 U];simp [Lib.idxFuncFrom]
 | f+1,p,h=>by
  have hsz:(ByteArray.mk a.toArray).size=a.length:=by simp [Qxc]
  unfold Lib.idxFuncFrom;rw [hsz]
  by_cases hp:p<a.length
  ·rw [if_pos hp,drop_cons hp,List.all_cons]
   by_cases hc:(a.getD p Qq2).toNat<128
   ·rw [Agm hc];simp only [AdZ]
    by_cases hn:Ym (a.getD p Qq2)=true
    ·rw [hn,if_neg Qqc,Qkv];exact Aea f (p+1) U
    ·have hn':Ym (a.getD p Qq2)=false:=by simpa using hn
     rw [hn',if_pos Qqc];simp
   ·have hb:XC (Utf8.decode ⟨a.toArray⟩ p).1=true:=by
     have:=AdY hc;unfold XC;simp;omega
    have hn:Ym (a.getD p Qq2)=false:=by
     unfold Ym;rw [decide_eq_false_iff_not];omega
    rw [hb,if_pos Z,hn];simp
  ·rw [if_neg hp,Qz5 U];simp
theorem Ach(a:List UInt8):Vm a=some (!(a.all Ym)):=by
 unfold Vm Lib.idxFunc
 congr 1
 have:=Aea (a:=a) (ByteArray.mk a.toArray).size 0 (by simp [Qxc]);rw [QxE] at this;rw [Qxz,decide_eq_true_eq,this];simp
theorem Abo(s:List UInt8):Ld s=some (S5 s):=by
 unfold Ld S5
 by_cases a:s=[]
 ·subst a;rfl
 ·have hl:0<s.length:=Qkb.2 a;rw [if_neg a]
  by_cases b:(32:Int)<(s.length:Int)
  ·rw [if_pos b,show decide (1<=s.length/\s.length<=32/\97<=(s.getD 0 Qq2).toNat/\(s.getD 0 Qq2).toNat<=122)=false by rw [decide_eq_false_iff_not];omega]
   rfl
  ·rw [if_neg b,Ad U,Int.toNat_zero]
   by_cases h2:((s.getD 0 Qq2).toNat:Int)<97
   ·rw [if_pos h2,show decide (1<=s.length/\s.length<=32/\97<=(s.getD 0 Qq2).toNat/\(s.getD 0 Qq2).toNat<=122)=false by rw [decide_eq_false_iff_not];omega]
    rfl
   ·rw [if_neg h2,Ad U]
    by_cases h3:122<((s.getD 0 Qq2).toNat:Int)
    ·rw [if_pos h3,show decide (1<=s.length/\s.length<=32/\97<=(s.getD 0 Qq2).toNat/\(s.getD 0 Qq2).toNat<=122)=false by rw [decide_eq_false_iff_not];omega]
     rfl
    ·rw [if_neg h3,Ach,show decide (1<=s.length/\s.length<=32/\97<=(s.getD 0 Qq2).toNat/\(s.getD 0 Qq2).toNat<=122)=true by rw [decide_eq_true_eq];omega];simp
theorem Aci{w:Bool}{l:List (List UInt8)}(hl:TM l<=1000000000000):∀ (d i a:Nat),i+d=l.length->a+TM (l.drop i)<=2000000000000->
  Go.L.run (IS w l) ((a:Int),(i:Int))=some (wr w (a:Int) (l.drop i)):=by
 intro d
 induction d with
 | zero=>
  intro i a hi ha;rw [Qz5 U];refine AP ?_;unfold IS;dsimp only;rw [if_neg U]
  rfl
 | succ d ih=>
  intro i a hi ha;have hil:i<l.length:=by omega
  have hlt:l.length<=1000000000000:=by
   have:∀ m:List (List UInt8),m.length<=TM m:=fun m=>by
    induction m with
    | nil=>exact Qz3 _
    | cons x m ih=>simp only [Qzw,TM];omega
   exact Qz2 (this l) hl
  have hx:=XP (Et hil);rw [drop_cons hil] at ha ⊢;unfold wr;unfold TM at ha;generalize hX:l.getD i Qq2=x at *;have c:Bz ((a:Int)+(x.length:Int)):=by unfold Bz;omega
  have e:Bz ((a:Int)+(x.length:Int)+1):=by unfold Bz;omega
  have f:Bz ((i:Int)+1):=by unfold Bz;omega
  have b:0<=(i:Int)/\(i:Int)<(l.length:Int):=by omega
  have hgo:Go.L.run (IS w l) ((a:Int)+(x.length:Int)+1,(i:Int)+1)=some (wr w ((a:Int)+(x.length:Int)+1) (l.drop (i+1))):=by
   have:=ih (i+1) (a+x.length+1) U U
   simpa using this
  have hb:IS w l ((a:Int),(i:Int))=if(S5 x||decide (x=[35])||(w&&(decide (x=[42])||decide (x=[42,42]))))=true then some (.inl ((a:Int)+(x.length:Int)+1,(i:Int)+1)) else some (.inr (a:Int)):=by
   unfold IS;simp only [Qq8,hX];rw [if_pos U,Ad b,Acg U];simp only [Qq6,Ad b,Ad c,Ad e,Ad f]
   cases hn:S5 x <;> by_cases g:x=[35] <;> cases w <;> by_cases h2:x=[42] <;> by_cases h3:x=[42,42] <;> simp_all
  by_cases hc:(S5 x||decide (x=[35])||(w&&(decide (x=[42])||decide (x=[42,42]))))=true
  ·rw [if_pos hc] at hb ⊢;rw [Bg hb,hgo]
  ·rw [if_neg hc] at hb ⊢;exact AP (m:=some (a:Int)) hb
theorem Aeb{s:List UInt8}(hs:s.length<=100000000000)(w:Bool):Py s w=some (wr w 0 (sl s)):=by
 unfold Py;rw [Acf U,Qq6];have a:=AdX s;have:=Aci (w:=w) (l:=sl s) U (sl s).length 0 0 U (by simp;omega);rw [QxE] at this;exact this
def pf(s:List UInt8):Int×Int:=if 64<s.length then(3,-1) else if 0<=wr true 0 (sl s) then(1,wr true 0 (sl s)) else(0,0)
theorem Acj(s:List UInt8):LA s=some (pf s):=by
 unfold LA pf
 by_cases h:64<s.length
 ·rw [if_pos U,if_pos h];rfl
 ·rw [if_neg U,if_neg h,Aeb U];simp only [Qq6]
  split <;> rfl
theorem Ack{l:List (List UInt8)}(hl:TM l<=1000000000000):∀ (d i a:Nat),i+d=l.length->a+TM (l.drop i)<=2000000000000->
  Go.L.run (Ek l) ((a:Int),(i:Int))=some (if 0<=wr true (a:Int) (l.drop i) then(1,wr true (a:Int) (l.drop i)) else(0,0)):=by
 intro d
 induction d with
 | zero=>
  intro i a hi ha;rw [Qz5 U];refine AP ?_;unfold Ek;dsimp only;rw [if_neg U]
  rfl
 | succ d ih=>
  intro i a hi ha;have hil:i<l.length:=by omega
  have hlt:l.length<=1000000000000:=by
   have:∀ m:List (List UInt8),m.length<=TM m:=fun m=>by
    induction m with
    | nil=>exact Qz3 _
    | cons x m ih=>simp only [Qzw,TM];omega
   exact Qz2 (this l) hl
  have hx:=XP (Et hil);rw [drop_cons hil] at ha ⊢;unfold wr;unfold TM at ha;generalize hX:l.getD i Qq2=x at *;have b:Bz ((x.length:Int)+1):=by unfold Bz;omega
  have c:Bz ((a:Int)+((x.length:Int)+1)):=by unfold Bz;omega
  have e:Bz ((i:Int)+1):=by unfold Bz;omega
  have f:0<=(i:Int)/\(i:Int)<(l.length:Int):=by omega
  have hgo:Go.L.run (Ek l) ((a:Int)+((x.length:Int)+1),(i:Int)+1)=some (if 0<=wr true ((a:Int)+(x.length:Int)+1) (l.drop (i+1)) then(1,wr true ((a:Int)+(x.length:Int)+1) (l.drop (i+1))) else(0,0)):=by
   have:=ih (i+1) (a+x.length+1) U U;rw [show((a:Int)+((x.length:Int)+1))=((a+x.length+1:Nat):Int) by omega,show((a:Int)+(x.length:Int)+1)=((a+x.length+1:Nat):Int) by omega];exact this
  have hb:Ek l ((a:Int),(i:Int))=if(S5 x||decide (x=[35])||(true&&(decide (x=[42])||decide (x=[42,42]))))=true then some (.inl ((a:Int)+((x.length:Int)+1),(i:Int)+1)) else some (.inr (1,(a:Int))):=by
   unfold Ek;simp only [Qq8,hX];rw [if_pos U,Ad f,Abo];simp only [Qq6,Ad b,Ad c,Ad e]
   cases hn:S5 x <;> by_cases g:x=[35] <;> by_cases h2:x=[42] <;> by_cases h3:x=[42,42] <;> simp_all [DH]
  by_cases hc:(S5 x||decide (x=[35])||(true&&(decide (x=[42])||decide (x=[42,42]))))=true
  ·rw [if_pos hc] at hb ⊢;rw [Bg hb,hgo]
  ·rw [if_neg hc] at hb ⊢;rw [if_pos U];exact AP (m:=some (1,(a:Int))) hb
theorem Rc(s:List UInt8):Hi s=some (pf s):=by
 unfold Hi pf
 by_cases h:64<s.length
 ·rw [if_pos U,if_pos h];rfl
 ·rw [if_neg U,if_neg h,V3 U,Qq6];have a:=AdX s;have:=Ack (l:=sl s) U (sl s).length 0 0 U (by simp;omega);rw [QxE] at this;exact this
end Go.Proofs.YtekmbcbgknmhiaaGreatDoor
end
