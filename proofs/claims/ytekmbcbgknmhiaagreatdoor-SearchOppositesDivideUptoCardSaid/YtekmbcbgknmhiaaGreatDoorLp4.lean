/- Texts of a claim, merged. -/
import Derived.Test.YtekmbcbgknmhiaaGreatDoorLp3
import Derived.KernelRfl
import Derived.Shelf.SlSortCmp.NoneTotal
open _root_.Go.Proofs.Tryz renaming underlying22→AcL,underlying23→Afr,underlying58→Ahy,underlying44→Aj0,underlying46→Aj3,underlying135→Aj4,underlying24→Aj6,underlying28→Aji,underlying26→Ajm,underlying109→Ajo,underlying137→Ajq,underlying192→Ajz
open Option renaming bind->Qq4,map->Qq7
open Int renaming toNat_natCast->Qq8
open Prod renaming fst->Qq5
open List renaming replicate->Qzz,length_map->Qzk,range->Qzv,eq_nil_of_length_eq_zero->Qz8,map_cons->Qzd,map_map->Qx0,mem_map_of_mem->QkX
open Nat renaming le_refl->Qzx
set_option linter.unusedVariables false
set_option linter.unusedSimpArgs false
set_option linter.unusedSectionVars false
noncomputable section
namespace Go
abbrev AjM:=List (Ac3×Int×Int)
end Go
namespace Go.Proofs.YtekmbcbgknmhiaaGreatDoor
open Go Go.E Go.RowKit Go.L
set_option maxHeartbeats 1000000
set_option maxRecDepth 10000
open _root_.Go.Proofs.Tryz
def HC(c:Int)(d:Ac3)(a:List (Ac3×Int×Int))(b:Int):Option ((AjM×Int) ⊕ (AjM)):=
 AO (Go.E.Io 32 (a.length+1)) (Qq7 Sum.inr (some ((a++[(d,c,b)]))))
def CJ(a1:Ac3)(d:List (Ac3×Int×Int))(e:Int):Ac3×Int->Option ((Ac3×Int) ⊕ ((AjM×Int) ⊕ (AjM))):=fun⟨c,a⟩=>
 if a<(a1.length:Int) then AO (0<=a/\a<=(a1.length:Int)) (Qq4 (Ks (a1.drop a.toNat)) (fun b=>if b.1=([]:Ac3) then AO (Bw (a+b.2)) (if c=([]:Ac3) then Qq7 Sum.inr (some (Sum.inl (d,(a+b.2)))) else AO (Go.E.Io 32 (d.length+1)) (Qq7 Sum.inr (some (Sum.inl ((d++[(c,e,a)]),(a+b.2)))))) else AO (c.length+b.1.length<=9223372036854775807) (AO (Bw (a+b.2)) (some (Sum.inl ((c++b.1),(a+b.2))))))) else Qq7 Sum.inr ((HC e) c d a)
def M3(a1:Ac3)(b:List (Ac3×Int×Int))(a:Int)(s:Ac3×Int):Option ((AjM×Int) ⊕ (AjM)):=Go.L.run (CJ a1 b a) s
def CK(a1:Ac3):AjM×Int->Option ((AjM×Int) ⊕ (AjM)):=fun⟨b,a⟩=>
 if a<(a1.length:Int) then(M3 a1 b a) (([]:Ac3),a) else Qq7 Sum.inr (some b)
def M4(a1:Ac3)(s:AjM×Int):Option (AjM):=Go.L.run (CK a1) s
def KO(a0:List (Ac3×Int×Int))(a1:Ac3):Option (AjM):=
 (M4 a1) (a0,0)
theorem Tm{l w:World}{H:PH}(hH:Le H (hp l))(hU:Gj H){O:List BS}{a0:List (Ac3×Int×Int)}{a1:Ac3}{la0 Da0 ba0:Nat}{ca0:Loop}{va0:Value}{xsa0:List Value}{va1_0:Value}{pa1:Addr}(bb:Adq prog (.pair .st AjW) 3 32 la0 Da0 ba0 ca0 131 135)(hL:Bb l (Ha [.obj la0 (.loop ca0),.obj Da0 (.deferred (some [])),.box ba0 [va0] 131,.row va0 135 3 (a0).length xsa0] O) w)(b2:AI (.pair .st AjW) (gz H l w (Ha [.obj la0 (.loop ca0),.obj Da0 (.deferred (some [])),.box ba0 [va0] 131,.row va0 135 3 (a0).length xsa0] O)) a0 xsa0)(be:AH .byte (gz H l w (Ha [.obj la0 (.loop ca0),.obj Da0 (.deferred (some [])),.box ba0 [va0] 131,.row va0 135 3 (a0).length xsa0] O)) va1_0 a1)(b3:IT (gz H l w (Ha [.obj la0 (.loop ca0),.obj Da0 (.deferred (some [])),.box ba0 [va0] 131,.row va0 135 3 (a0).length xsa0] O)) pa1 [va1_0]){r:AjM}(h:KO a0 a1=some r):
  Ok prog 180 [.func (.yield la0) #[] #[],.pointer (some pa1)] w (fun v w'=>∃ (u0:Value) (y0:List Value),v=.tuple #[]/\Bb l (Ha [.obj la0 (.loop ca0),.obj Da0 (.deferred (some [])),.box ba0 [u0] 131,.row u0 135 3 (r).length y0] O) w'/\Le (fz w (Ha [.obj la0 (.loop ca0),.obj Da0 (.deferred (some [])),.box ba0 [va0] 131,.row va0 135 3 (a0).length xsa0] O)) (fz w' (Ha [.obj la0 (.loop ca0),.obj Da0 (.deferred (some [])),.box ba0 [u0] 131,.row u0 135 3 (r).length y0] O))/\AI (.pair .st AjW) (gz H l w' (Ha [.obj la0 (.loop ca0),.obj Da0 (.deferred (some [])),.box ba0 [u0] 131,.row u0 135 3 (r).length y0] O)) r y0):=by
 refine Dq (n:=53) [(0,.func (.yield la0) #[] #[]),(1,.pointer (some pa1))] func180 Z Z Z Z ?_;have hT:=Le.refl (fz w (Ha [.obj la0 (.loop ca0),.obj Da0 (.deferred (some [])),.box ba0 [va0] 131,.row va0 135 3 (a0).length xsa0] O));refine Us ?_;have bc:=hL.rG H;refine AJ 1 Z<|AD<|AaW<|As<|A3 ?_;obtain⟨a6,h⟩:=Ba h;refine B6 (AjM×Int×Value×(List Value)×Nat) (fun⟨m,a,g,d,n⟩=>[(0,.func (.yield la0) #[] #[]),(1,.pointer (some pa1)),(3,No a)]) (fun⟨m,a,g,d,n⟩ wr=>Fl l (Ha [.obj la0 (.loop ca0),.obj Da0 (.deferred (some [])),.box ba0 [g] 131,.row g 135 3 (m).length d] O) wr fun Oz=>IT (gz H l wr Oz) pa1 [va1_0]/\AH .byte (gz H l wr Oz) va1_0 a1/\AI (.pair .st AjW) (gz H l wr Oz) m d/\Le (fz w (Ha [.obj la0 (.loop ca0),.obj Da0 (.deferred (some [])),.box ba0 [va0] 131,.row va0 135 3 (a0).length xsa0] O)) (fz wr Oz)/\HG (CK a1) n (m,a)=some r) (fun⟨m,a,g,d,n⟩=>n) (a0,0,va0,xsa0,a6) Z ⟨hL,(b3.mono bc),(be.mono bc),(b2.mono bc),hT,h⟩ ?_;rintro⟨m,a,g,d,nn68⟩ cc ⟨af,aq,ar,a7,hT,h⟩;obtain⟨a6,b1,rfl,h,ag⟩:=AY h;refine AD ?_;have x:=af.rG H
 refine Bu 1 Z<|Aj (Bl (aq.mono x) (Ao af))<|Aj (Bc (ar.mono x))<|A7 1 Z<|AP h ?_ ?_<;>intro b4 h
 ·refine Aw<|As<|A3<|Bu 1 Z<|Aj (AT (fun _=>AdF _ _))<|AA OM.e Z af fun cj aa b5 ah _=>Ag 0 Z b5 Z fun ck b6 ai=>Ac<|Bt (Ac3×AjM×Int×Value×(List Value)) (fun⟨p,y,f,k,o⟩=>[(0,.func (.yield la0) #[] #[]),(3,No f),(4,(AaD aa))]) (fun⟨p,y,f,k,o⟩ wr=>Fl l (Ha [.box aa [Ab5 p,No a,No 0] 135,.obj la0 (.loop ca0),.obj Da0 (.deferred (some [])),.box ba0 [k] 131,.row k 135 3 (y).length o] O) wr fun Oz=>AI (.pair .st AjW) (gz H l wr Oz) y o/\Le (fz w (Ha [.obj la0 (.loop ca0),.obj Da0 (.deferred (some [])),.box ba0 [va0] 131,.row va0 135 3 (a0).length xsa0] O)) (fz wr Oz)/\(HC a) p y f=some b1) ?_ ?_
  ·refine A3 ?_;obtain⟨a3,h⟩:=Ba h;have x:=x.trans (Aa (ah.trans ai));have hT:=hT.trans (ah.trans ai);refine B6 (Ac3×Int×Nat) (fun⟨j,c,n⟩=>[(0,.func (.yield la0) #[] #[]),(1,.pointer (some pa1)),(3,No c),(4,(AaD aa))]) (fun⟨j,c,n⟩ wr=>Fl l (Ha [.box aa [Ab5 j,No a,No 0] 135,.obj la0 (.loop ca0),.obj Da0 (.deferred (some [])),.box ba0 [g] 131,.row g 135 3 (m).length d] O) wr fun Oz=>IT (gz H l wr Oz) pa1 [va1_0]/\AH .byte (gz H l wr Oz) va1_0 a1/\AI (.pair .st AjW) (gz H l wr Oz) m d/\Le (fz w (Ha [.obj la0 (.loop ca0),.obj Da0 (.deferred (some [])),.box ba0 [va0] 131,.row va0 135 3 (a0).length xsa0] O)) (fz wr Oz)/\HG (CJ a1 m a) n (j,c)=some b1) (fun⟨j,c,n⟩=>n) (([]:Ac3),a,a3) Z ⟨b6,(aq.mono x),(ar.mono x),(a7.mono x),hT,h⟩ ?_;rintro⟨j,c,nn155⟩ b9 ⟨z,q,t,he155_Ra0,hT,h⟩;obtain⟨a3,cd,rfl,h,ad⟩:=AY h;refine AD ?_;have b:=z.rG H;refine Bu 1 Z<|Aj (Bl (q.mono b) (Ao z))<|Aj (Bc (t.mono b))<|A7 1 Z ?_
   refine AP h ?_ ?_<;>intro bf h
   ·refine Aw<|As<|A3<|Ak<|Aj (Bl (q.mono b) (Ao z))<|Aq 1 Z<|Az h fun bg h=>Y8 (t.mono b) bg fun ce bh=>Ax h fun aj bi h=>AF z (Uh _ _ (Ao z) (hU.mono  Ah) bh bi) fun cf ca ak u=>A7 5 Z<|AD<|Bu 1 Z<|Aj (Nk Z Z)<|Ac<|AP h ?_ ?_<;>intro bj h
    ·refine Bu 1 Z<|Aj (Ae Z Aj4 Z CO.e)<|B9 0 Z Z ak Z Z fun a4 ab ac=>Ac<|Bu 2 Z<|Az h fun bk h=>Aj (A5 bk)<|A7 1 Z<|AD<|Ado<|NI (Db (Db (Db (Bn (DQ (Bn (Mv (Bn (DQ (Bn (HI Jn)))))))))))<|Aj (Ae Z Aj4 Z HJ.e)<|Jo<|NI (Db (Db (Db (Bn (DQ (Bn (Mv (Bn (DQ (Bn (HI Jn)))))))))))<|Aj (Af 0 Z ab Z)<|Jo<|NI (Db (Db (Db (Bn (DQ (Bn (Mv (Bn (DQ (Bn (HI Jn)))))))))))<|Aj (Sg Z Z)<|Jo<|NI (Db (Db (Db (Bn (DQ (Bn (Mv (Bn (DQ (Bn (HI Jn)))))))))))<|Aq 1 Z<|Jo<|Adp (s:=34) Z (fun e=>?_) (fun e=>?_)
     ·have h:=OF (W6 e) h;refine Pp e<|NI (Db (Db (Db (Bn (DQ (Bn (Mv (Bn (DQ (Bn (HI Jn)))))))))))<|Aq 1 Z<|Jo<|Pp e<|NI (Db (Db (Db (Bn (DQ (Bn (Mv (Bn (DQ (Bn (HI Jn)))))))))))<|Aj (A4 0 Z OM.e ab Z)<|Jo<|Pp e ?_;have al:Bb l (Ha [.box ba0 [g] 131,.row g 135 3 (m).length d,.box aa [Ab5 j,No a,No c] 135,.obj la0 (.loop ca0),.obj Da0 (.deferred (some []))] O) a4:=ab.C0 [4,4] Z;have au:=B2 [4,4] ab al Z;have a8:Bb l (Ha [.obj la0 (.loop ca0),.obj Da0 (.deferred (some [])),.box ba0 [g] 131,.row g 135 3 (m).length d,.box aa [Ab5 j,No a,No c] 135] O) a4:=al.C0 [4,4] Z;have av:=B2 [4,4] al a8 Z;refine Az h fun bl h=>?_;have b:=b.trans (Aa (u.trans (ac.trans (au.trans av))))
      have bm:=@bb l a4 H ((Ha [.box aa [Ab5 j,No a,No c] 135] O)) g (.agg #[Ab5 j,No a,No c]) d [Ab5 j,No a,No c] m (j,a,c) hH a8 (he155_Ra0.mono b) Z ⟨_,_,Z,Z,⟨_,_,Z,Z,Z⟩⟩ bl;refine YA bm ?_;rintro cg ⟨b7,bn,bo,aw,am⟩;refine Pp e<|NI (Db (Db (Db (Bn (DQ (Bn (Mv (Bn (DQ (Bn (HI Jn)))))))))))<|Aq 1 Z<|Jo<|NI (Db (Db (Db (Bn (DQ (Bn (Mv (Bn (DQ (Bn (HI Jn)))))))))))<|Aj (AB e Z)<|Jo<|Te<|Gx<|Aw<|As<|B4<|AE<|Mr<|A6 ?_;have h:=Cg.out h ad;refine Mr<|Qh<|Bi ?_;have bp:=bo.AS (i:=4) Z;have h:=Cg.again h ag;have hT:=hT.trans (u.trans (ac.trans (au.trans (av.trans (aw.trans (Al (i:=4) Z))))));have b:=b.trans (Aa (aw.trans (Al (i:=4) Z)));have am:=am.mono (Aa (Al (i:=4) Z))
      refine AN (_,_,_,_,_) Z ⟨bp,(q.mono b),(t.mono b),am,hT,h⟩
     have h:=OE (W7 e) h;refine NI (Db (Db (Db (Bn (DQ (Bn (Mv (Bn (DQ (Bn (HI Jn)))))))))))<|An e<|Jo<|NI (Db (Db (Db (Bn (DQ (Bn (Mv (Bn (DQ (Bn (HI Jn)))))))))))<|An e<|Jo<|NI (Db (Db (Db (Bn (DQ (Bn (Mv (Bn (DQ (Bn (HI Jn)))))))))))<|An e<|Jo<|NI (Db (Db (Db (Bn (DQ (Bn (Mv (Bn (DQ (Bn (HI Jn)))))))))))<|An e<|Jo<|NI (Db (Db (Db (Bn (DQ (Bn (Mv (Bn (DQ (Bn (HI Jn)))))))))))<|Aj (AM e Z)<|Jo<|Te<|Gx<|Aw<|As<|B4<|AE<|Mr<|A6 ?_;have h:=Cg.out h ad;refine Mr<|Qh<|Bi ?_;have bq:=ab.AS (i:=0) Z;have h:=Cg.again h ag;have b:=b.trans (Aa (u.trans (ac.trans (Al (i:=0) Z))))
     have hT:=hT.trans (u.trans (ac.trans (Al (i:=0) Z)));refine AN (_,_,_,_,_) Z ⟨bq,(q.mono b),(t.mono b),(he155_Ra0.mono b),hT,h⟩
    refine Aw<|As<|Ak<|Aj (Ae Z Aj4 Z HJ.e)<|Aj (Af 0 Z ak Z)<|Aq 1 Z<|Az h fun br h=>Aj (L9 br)<|Aj (Ae Z Aj4 Z HJ.e)<|B9 0 Z Z ak Z Z fun ch bs ax=>Ac<|Au<|Aq 2 Z<|Az h fun bt h=>Aj (A5 bt)<|Aq 1 Z<|AL<|A2 ?_;have h:=Cg.again h ad;have b:=b.trans (Aa (u.trans ax));have hT:=hT.trans (u.trans ax);refine AN (_,_,_) Z ⟨bs,(q.mono b),(t.mono b),(he155_Ra0.mono b),hT,h⟩
   refine B4<|AE<|A6 ?_;have h:=Cg.out h ad;refine Bi<|A8 (_,_,_,_,_) ⟨z,(he155_Ra0.mono b),hT,h⟩
  have hT:=hT.trans (ah.trans ai);rintro⟨p,y,f,k,o⟩ cb ⟨bu,ae,hT,h⟩;refine Bu 1 Z<|Aj (Ae Z Aj4 Z CO.e)<|B9 0 Z Z bu Z Z fun a5 an ay=>Ac<|Ado<|NI (Db (Bn (DQ (Bn (HI Jn)))))<|Aq 1 Z<|Jo<|NI (Db (Bn (DQ (Bn (HI Jn)))))<|Aj (A4 0 Z OM.e an Z)<|Jo ?_;have ao:Bb l (Ha [.box ba0 [k] 131,.row k 135 3 (y).length o,.box aa [Ab5 p,No a,No f] 135,.obj la0 (.loop ca0),.obj Da0 (.deferred (some []))] O) a5:=an.C0 [4,4] Z;have az:=B2 [4,4] an ao Z;have a9:Bb l (Ha [.obj la0 (.loop ca0),.obj Da0 (.deferred (some [])),.box ba0 [k] 131,.row k 135 3 (y).length o,.box aa [Ab5 p,No a,No f] 135] O) a5:=ao.C0 [4,4] Z;have a2:=B2 [4,4] ao a9 Z;refine Az h fun bv h=>?_;have ae:=ae.mono (Aa (ay.trans (az.trans a2)))
  have bw:=@bb l a5 H ((Ha [.box aa [Ab5 p,No a,No f] 135] O)) k (.agg #[Ab5 p,No a,No f]) o [Ab5 p,No a,No f] y (p,a,f) hH a9 ae Z ⟨_,_,Z,Z,⟨_,_,Z,Z,Z⟩⟩ bv;refine YA bw ?_;rintro ci ⟨b8,bx,bz,bd,ap⟩;refine Te<|Ay<|Av<|BG ?_;have h:=Cg.out h ag;refine Av<|Gz ?_
  cases h
  refine AfA ?_;have b0:=bz.AS (i:=4) Z;have hT:=hT.trans (ay.trans (az.trans (a2.trans (bd.trans (Al (i:=4) Z)))));have ap:=ap.mono (Aa (Al (i:=4) Z));exact⟨b8,bx,Z,b0,hT,ap⟩
 refine B4<|AE<|A6 ?_;have h:=Cg.out h ag;refine Bi<|Adm ?_
 cases h
 refine L8 ⟨g,d,Z,af,hT,(a7.mono x)⟩
end Go.Proofs.YtekmbcbgknmhiaaGreatDoor
end
noncomputable section
namespace Go.Proofs.YtekmbcbgknmhiaaGreatDoor
open Go Go.E Go.RowKit
def Iter(H:PH)(v:Value)(l:List UInt8):Prop:=∃ p u,v=.func (.func 180) #[] #[.pointer (some p)]/\IT H p [u]/\AH .byte H u l
theorem Iter.mono{H H':PH}{v:Value}{l:List UInt8}(h:Iter H v l)(hs:Le H H'):Iter H' v l:=by
 obtain⟨p,u,a,h2,h3⟩:=h;exact⟨p,u,a,h2.mono hs,h3.mono hs⟩
abbrev rpW:Rp (List UInt8×Int×Int):=.pair .st (.pair (.int .i64) (.int .i64))
def OS(l:List UInt8):Option (List (List UInt8×Int×Int)):=KO [] l
section
variable(w:World)(H:PH)(hH:Le H (hp w)) include hH
theorem YU{a0:List UInt8}{b:Value}(e:AH .byte H b a0):
  Ok Tryz.prog 129 [b] w (fun v w'=>Ext w w'/\Iter (un H (nw w w')) v a0):=by
 refine Dq (n:=4) [(0,b)] Tryz.func129 Z Z Z Z ?_;have hL:=Bb.start w;refine Ak<|Qs (t:=23) Z e.one hL fun c a d l _=>Aq 1 Z<|Ac<|Ak<|Aq 2 Z<|Ac<|Ay<|Uo Z Z ?_;have f:IT (hp c) ⟨a,0,none⟩ [b]:=AK (i:=0) d Z;have hn:a>=w.heap.size:=d.own _ (.head _) a Z;refine⟨d.ext,⟨a,0,none⟩,b,Z,⟨Z,fun j u hj=>?_⟩,e.mono (Mu hH)⟩;have g:=f.2 j u hj
 have h2:un H (nw w c) a=hp c a:=by
  have h3:nw w c a=hp c a:=by unfold nw;rw [if_pos hn];rfl
  cases h:hp c a with
  | none=>
   have:=d.at (i:=0) Z;have k:c.heap[a]? = none:=h;rw [show c.heap[a]? = _ from this] at k
   cases k
  | some o=>exact Iv a o (h3.trans h)
 simp only [Addr.add_lit,IJ] at g ⊢;rw [h2];exact g
end
set_option maxRecDepth 10000 in
section
variable(w:World)(H:PH)(hH:Le H (hp w)) include hH
theorem XG(hU:Gj H){p:Addr}{u:Value}{l0:List UInt8}(hpt:IT H p [u])(hv:AH .byte H u l0){r:List (List UInt8×Int×Int)}(h:KO [] l0=some r):
  Ok Tryz.prog 179 [.slice none 0 0,.func (.func 180) #[] #[.pointer (some p)]] w (fun v w'=>Ext w w'/\Ck 135 rpW H w w' v r):=by
 refine AbR (k:=13) [(0,.slice none 0 0),(1,.func (.func 180) #[] #[.pointer (some p)])] Tryz.func179 Z Z Z Z ?_;have hL:=Bb.start w;refine Ak<|Qs (t:=131) Z Z hL fun w1 d af ax _=>Aq 1 Z<|Ac<|AD<|Ak<|Aq 1 Z<|Ac<|A3<|AfJ (cap:=[.pointer (some p)]) Z ⟨Tryz.f180,_,Tryz.func180,Z,Z⟩ af ?_;intro a fr fn l D w2 rec hrec ag ay
 have hY:Adq Tryz.prog rpW 3 32 l D d rec 131 135:=by
  subst hrec;refine Adu (p:=7) (k:=13) Z Z Z ⟨fr.size,Z,fr.get⟩ Z ?_;intro x0 x1 G P v y xs c m x hG hM he hy hx hc;obtain⟨xa,xb,xc⟩:=x;obtain⟨_,_,rfl,rfl,_,_,rfl,rfl,rfl⟩:=hx;refine W9 Z AfI<|AA OM.e Z hM fun w3 bx ah f _=>Ta 0 Z Z hy OM.e ah Z Z (Br Z (Br Z (Br Z K9))) fun w4 ai g=>AL<|Adt (i:=1) Z ai Z fun w5 b j=>Adr<|W9 Z (Bn Ads)<|Aj (Qq 3 Z b Z Z)<|Aj (A4 0 Z OM.e b Z)<|B7 [(xa,xb,xc)] (r:=rpW) (fun _=>AdI _ _ _ _) (hlen:=(show 1<=9223372036854775807 by decide)) (hH:=hG) b (.c3 ⟨_,_,Z,Z,_,_,Z,Z,Z⟩ .nil) fun v6 w6 a6 aj n ak=>By (r:=rpW) 4 m [(xa,xb,xc)] Z Tryz.underlying131 (hH:=hG) aj Z (((he.mono (Aa (hH:=hG) f)).mono (Aa (hH:=hG) g)).mono (Aa (hH:=hG) j) |>.mono (Aa (hH:=hG) n)) ak hc fun v7 w7 al o am an=>B9 3 Z (row_one (o.at (i:=4) Z)) o Z Z fun w8 ao q=>AL<|A2<|X3 (i:=1) ao Z ?_;intro w9 ap s;refine⟨Z,v7,al,ap.AS (i:=0) Z,((((((f.trans g).trans j).trans n).trans am).trans q).trans s).trans (Al (i:=0) Z),?_⟩
  exact((an.mono (Aa (hH:=hG) q)).mono (Aa (hH:=hG) s)).mono (Aa (hH:=hG) (Al (i:=0) Z))
 obtain⟨aq,a3,a7⟩:=DS rpW H 135 ag
 have ar:(yR l D d rec 131 135 3 (.slice none 0 0) ([]:List (List UInt8×Int×Int)).length []++[]).Perm (.row (.slice none 0 0) 135 rpW.sz ([]:List (List UInt8×Int×Int)).length []::[.obj l (.loop rec),.obj D (.deferred (some [])),.box d [.slice none 0 0] 131]):=
  List.perm_append_comm (l₁:=([.obj l (.loop rec),.obj D (.deferred (some [])),.box d [.slice none 0 0] 131]:List BS)) (l₂:=([.row (.slice none 0 0) 135 3 0 []]:List BS))
 have au:=aq.perm ar;have hc:=Tm hH hU (O:=[]) hY au .nil (hv.mono  Ah) (hpt.mono  Ah) h;refine hc.2.mono fun e w5 ⟨v5,av,hR⟩=>⟨⟨v5,av⟩,?_⟩;obtain⟨u0,y0,_,aw,a5,ab⟩:=hR;refine⟨_,aw,fun w6 z ac=>?_⟩;refine A2<|As<|Ak<|Aj (Qq 2 Z z Z Z)<|Aq 1 Z<|Ac<|Ay<|AfK (i:=1) (l:=[.tmp 4]) Z Z z Z ?_;intro w7 aa ad;exact⟨aa.ext,aa.Ip hH (i:=3) Z ((ab.mono (Aa ac)).mono (Aa ad))⟩
theorem Vv(hU:Gj H){a:Value}{a0:List UInt8}(b:Iter H a a0){r:List (List UInt8×Int×Int)}(h:OS a0=some r):
  Ok Tryz.prog 128 [a] w (fun v w'=>Ext w w'/\∃ c,v=c/\Ck 135 rpW H w w' c r):=by
 obtain⟨p,u,rfl,h2,h3⟩:=b;refine Dq (n:=5) [(0,.func (.func 180) #[] #[.pointer (some p)])] Tryz.func128 Z Z Z Z<|Ak<|Aq 1 Z<|Ac<|Ak<|Aq 1 Z<|EP (XG w H hH hU h2 h3 h) ?_;intro v w' ⟨hx,ho⟩;refine Aq 1 Z<|Ac<|Ay<|Uo Z Z ⟨hx,_,Z,ho⟩
end
end Go.Proofs.YtekmbcbgknmhiaaGreatDoor
end
noncomputable section
namespace Go.Proofs.YtekmbcbgknmhiaaGreatDoor
open Go Go.E Go.RowKit Go.L
set_option maxHeartbeats 1000000
set_option maxRecDepth 10000
open _root_.Go.Proofs.Tryz
def Jk(a0:Ac3):Option (AjM×(Int×Int)):=
 if 2048<(a0.length:Int) then Qq4 (DU (3:Int) (-1:Int)) (fun a=>some ([],(a.1,a.2))) else Qq4 (OS a0) (fun b=>some (b,(0,0)))
section
variable(w:World)(H:PH)(hH:Le H (hp w)) include hH
theorem Vw(hU:Gj H){a0:Ac3}{b:Value}(e:AH .byte H b a0){r:AjM×(Int×Int)}(h:Jk a0=some r):
  Qqv 79 [b] w (fun v w'=>∃ p,v=.tuple #[p,.agg #[No r.2.1,No r.2.2]]/\Ck 135 (.pair .st AjW) H w w' p (r.1)):=by
 refine A1 12 [(0,b)] func79 Z fun hL=>Bu 1 Z<|AA AG.e Z hL fun w1 b1 a ab _=>Ac<|AD<|Bu 1 Z<|Aj (Bc e)<|A7 1 Z<|AP h ?_ ?_<;>intro q h
 ·refine Ak<|Ax h fun x4 s h=>AF a (D5 _ _ (Ao a) s) fun w5 ag t ac=>Aq 1 Z<|Ag 0 Z t Z fun w6 m ad=>Ac<|Ay<|Ar ?_
  cases h
  refine Bv (.tmp Z) (.cell Z Aji Z AG.e (AK (i:=0) m Z)) ⟨m.ext,_,Z,Ck.nil⟩
 refine Aw<|As<|Bu 1 Z<|Bk a (YU _ _ (Ao a) (e.mono  Ah)) ?_;intro u8 w8 u x f ae;have y:=u.mono (Er a x);refine Ax h fun x9 z h=>Bk f (Vv _ _ (Ao f) (hU.mono  Ah) y z) ?_;rintro aa ah ⟨_,rfl,g⟩ o j k;obtain⟨af,j,k,c⟩:=g.take hH f o;refine Aj (AT (fun _=>BM _))<|Aq 1 Z<|Ag 1 Z j Z fun ai d l=>Ac<|Ay ?_
 cases h
 refine Bv (.tmp Z) (.cell Z Aji Z AG.e (AK (i:=1) d Z)) ?_;have c:=c.mono (Aa l);exact⟨d.ext,_,Z,(d.Ip hH (i:=0) Z c)⟩
def Kt(a0:Ac3):Option Bool:=
 AO (a0.length<=9223372036854775807) (Qq4 (OS a0) (fun a=>if(a.length:Int)=1 then AO (0<=(0:Int)/\(0:Int)<(a.length:Int)) (some (decide ((a.getD ((0:Int).toNat) Qq2).1=a0))) else some false))
theorem Ui(hU:Gj H){a0:Ac3}{r:Bool}(h:Kt a0=some r):
  Qqv 157 [Ab5 a0] w (fun v w'=>v=.bool r):=by
 refine A1 19 [(0,(Ab5 a0))] func157 Z fun hL=>AJ 1 Z<|Bu 1 Z<|Az h fun j h=>Adj (H:=H) hL j fun v1 w1 z c t k=>Bk c (YU _ _ (Ao c) k) ?_;intro u3 w3 l m d u;have o:=l.mono (Er c m);refine Ax h fun x4 p h=>Bk d (Vv _ _ (Ao d) (hU.mono  Ah) o p) ?_;rintro x w5 ⟨_,rfl,f⟩ q e y;have b:=f.Dz hH d q;refine A7 1 Z<|Bu 1 Z<|Aj (Bc b)<|Aq 2 Z<|BT 11 h ?_ ?_<;>intro a h
 ·refine Ab a<|Aj (Ai Z)<|Ab a<|Az h fun g h=>Bf b ((0:Int).toNat) (Gy g) (AW g) ?_;rintro p8 _ ⟨_,_,rfl,rfl,⟨_,_,rfl,rfl,rfl⟩⟩ s;refine Ab a<|Aj (Ae Z Aj4 Z HJ.e) ?_;have i:=s.add 0;refine Ab a<|Aj (Bl i (Ao e))<|Ab a<|Aj (Ai Z)<|Ab a<|Aj (Nk Z Z)<|Aj (AB a Z)<|A7 1 Z<|Ay ?_
  cases h
  refine Am Z ⟨e.ext,Z⟩
 iterate 6 refine An a ?_
 refine Aj (AM a Z)<|A7 1 Z<|Ay ?_
 cases h
 refine Am Z ⟨e.ext,Z⟩
def H5(a0:Ac3):Option ((Int×Int)):=
 if 64<(a0.length:Int) then Qq4 (DU (3:Int) (-1:Int)) (fun b=>some ((b.1,b.2))) else Qq4 (Kt a0) (fun c=>if !c then Qq4 (DU (6:Int) (-1:Int)) (fun a=>some ((a.1,a.2))) else some ((0,0)))
theorem Kc(hU:Gj H){a0:Ac3}{r:(Int×Int)}(h:H5 a0=some r):
  Qqv 102 [Ab5 a0] w (fun v w'=>v=.agg #[No r.1,No r.2]):=by
 refine A1 12 [(0,(Ab5 a0))] func102 Z fun hL=>Ak<|AA AG.e Z hL fun w1 b1 a t _=>Ac<|AD<|Bu 1 Z<|Aj (IU Z)<|A7 1 Z<|AP h ?_ ?_<;>intro k h
 ·refine Ak<|Ax h fun x4 l h=>AF a (D5 _ _ (Ao a) l) fun w5 aa m u=>Ag 0 Z m Z fun w6 e x=>Ac<|Ay<|Ar ?_
  cases h
  refine Dy (.cell Z Aji Z AG.e (AK (i:=0) e Z)) ⟨e.ext,Z⟩
 refine Aw<|As<|AD<|Bu 1 Z<|Ax h fun x8 o h=>AF a (Ui _ _ (Ao a) (hU.mono  Ah) o) fun w9 ab b y=>A7 1 Z<|B3 h ?_ ?_<;>intro f h
 ·refine Ak<|Ax h fun ac g h=>AF b (D5 _ _ (Ao b) g) fun ad z j p=>Ag 0 Z j Z fun ae c q=>Ac<|Ay<|Ar ?_
  cases h
  refine Dy (.cell Z Aji Z AG.e (AK (i:=0) c Z)) ⟨c.ext,Z⟩
 refine Aw<|As<|Ak<|Aj (AT (fun _=>BM _))<|Ag 0 Z b Z fun af d s=>Ac<|Ay ?_
 cases h
 refine Dy (.cell Z Aji Z AG.e (AK (i:=0) d Z)) ⟨d.ext,Z⟩
end
end Go.Proofs.YtekmbcbgknmhiaaGreatDoor
end
noncomputable section
namespace Go.Proofs.YtekmbcbgknmhiaaGreatDoor
open Go Go.E Go.RowKit Go.Shelf Go.Maps Go.Sort Go.WideElems Go.MapKept
abbrev rpH:Rp (Int×Int):=.pair (.int .i64) (.int .i64)
abbrev AiF(H:PH)(v:Value)(l:List (List UInt8×List (Int×Int))):Prop:=Wf encS (.vec rpH) H v l
def YV(H:PH)(v:Value)(l:List (List UInt8×List (Int×Int))):Prop:=∃ b u,v=.func (.func 184) #[] #[.pointer (some ⟨b,0,none⟩)]/\H b=some (.cells #[u] 130 (0,0))/\AiF H u l
theorem YV.mono{H H':PH}{v:Value}{l:List (List UInt8×List (Int×Int))}(h:YV H v l)(hs:Le H H'):YV H' v l:=by
 obtain⟨b,u,a,h2,h3⟩:=h;exact⟨b,u,a,hs _ _ h2,h3.mono hs⟩
section
variable(w:World)(H:PH)(hH:Le H (hp w)) include hH
theorem Agh{v:Value}{l:List (List UInt8×List (Int×Int))}(hm:AiF H v l):Ok Tryz.prog 131 [v] w (fun v' w'=>Ext w w'/\YV (un H (nw w w')) v' l):=by
 obtain⟨b,vs,rfl,h⟩:=id hm;have hc:CallsIn Fence.wide 5 Tryz.prog 131 #[.map (some b)] w fun e w'=>e=.returned (.func (.func 184) #[] #[.pointer (some ⟨w.heap.size,0,none⟩)])/\w'=w.alloc (.cells #[.map (some b)] 130):=AnyZ.keys_in Tryz.AgY Fence.wide 5 trivial Z (some b) w;refine⟨⟨Tryz.f131,_,Tryz.func131,Z,Z⟩,(callsIn_wide.1 hc).mono fun e w' he=>?_⟩;obtain⟨rfl,rfl⟩:=he;refine⟨_,Z,Dx w _,w.heap.size,.map (some b),Z,?_,hm.mono (Mu hH)⟩;refine Iv _ _ ?_;unfold nw;rw [if_pos (Qzx _)];exact World.alloc_heap_new w _
end
theorem QX{κ:Type}{enc:κ->Value}:∀ (l:List κ) (vs:List Value) (i:Nat),l.length=vs.length->(mE enc i l vs).map (·.born)=List.range' i l.length
 | [],[],_,_=>rfl
 | a::l,u::vs,i,h=>by
  simp only [mE,Qzd,List.length_cons,List.range'_succ];rw [QX l vs (i+1) (by simpa using h)]
theorem XH{κ:Type}{enc:κ->Value}:∀ (l:List κ) (vs:List Value) (i:Nat),l.length=vs.length->(mE enc i l vs).map (·.key)=l.map enc
 | [],[],_,_=>rfl
 | a::l,u::vs,i,h=>by
  simp only [mE,Qzd];rw [XH l vs (i+1) (by simpa using h)]
def AdW:Value->Option (DataW Unit×List MemPlace):=fun _=>some (.nil,[])
theorem YW{P:Program}{k:TypeId}(hk:P.underlying k=some .string){s:List UInt8}(h:s.length<=maxLen):keyOf P k (encS s)=some (.string s):=by
 have:(ByteArray.mk s.toArray).size<=maxLen:=h;simp [keyOf,hk,mapKey,encS,this]
theorem Ahp{P:Program}{k:TypeId}(hk:P.underlying k=some .string):∀ (l:List (List UInt8)) (vs:List Value) (i:Nat),l.length=vs.length->(∀ x∈l,x.length<=maxLen)->
  (mE encS i l vs).map (rg P k AdW)=l.map fun s=>(Lit.string s,(DataW.nil:DataW Unit))
 | [],[],_,_,_=>rfl
 | a::l,u::vs,i,h,hb=>by
  simp only [mE,Qzd];rw [Ahp hk l vs (i+1) (by simpa using h) (fun x hx=>hb x (.tail _ hx))]
  congr 1
  simp [WideElems.rg,WideElems.rd,YW hk (hb a (.head _)),AdW]
def S5{β:Type}(l:List (List UInt8×β)):Prop:=(l.map Qq5).Nodup/\(∀ x∈l.map Qq5,x.length<=maxLen)/\l.length * 16<=140737488355328
noncomputable instance {β:Type} (l:List (List UInt8×β)):Decidable (S5 l):=Classical.propDecidable _
def M5{β:Type}(l:List (List UInt8×β)):Option (List (List UInt8)):=Go.L.AO (S5 l) (some ((l.map Qq5).mergeSort leB))
theorem AiG(m:Nat):AnyZ.SortsIn Tryz.prog Tryz.TF Fence.wide m:=
 ⟨fun blk off cap ss W hH hblk hsz=>callsIn_wide.2 (Any.slices_Sort_string Tryz.AgW blk off cap ss W hH hblk hsz),
  fun p cap W=>callsIn_wide.2 (Any.slices_Sort_string_none Tryz.AgW p cap W)⟩
theorem WO(G:PH):∀ l:List (List UInt8),AI Rp.st G l (l.map Go.Proofs.encStr)
 | []=>.nil
 | _::l=>.cons (c:=[_]) Z (WO G l)
section
variable(w:World)(H:PH)(hH:Le H (hp w)) include hH
theorem Acd{v:Value}{l:List (List UInt8×List (Int×Int))}(hi:YV H v l){r:List (List UInt8)}(h:M5 l=some r):
  Ok Tryz.prog 130 [v] w (fun v' w'=>Ext w w'/\∃ f,v'=f/\Ck 9 .st H w w' f r):=by
 obtain⟨⟨hnd,hlen,hby⟩,h⟩:=Go.L.G6 h;obtain rfl:=Option.some.inj h;obtain⟨bx,u,rfl,hbx,b,vs,rfl,hb,hl,_⟩:=hi;have hbx':w.heap[bx]? = _:=hH _ _ hbx;have hb':w.heap[b]? = _:=hH _ _ hb;have hlk:(l.map Qq5).length=vs.length:=by rw [Qzk];exact hl
 have hml:(mE encS 0 (l.map Qq5) vs).length=l.length:=by rw [Tg _ _ _ hlk,Qzk]
 have hrg:=Ahp (P:=Tryz.prog) Tryz.underlying9 (l.map Qq5) vs 0 hlk hlen
 have hown:w.ownsMap Tryz.prog 9 AdW b l.length (.map (((mE encS 0 (l.map Qq5) vs).map (rg Tryz.prog 9 AdW)).foldr DataW.insert [])):=by
  refine⟨_,_,hb',⟨?_,⟨?_,?_,?_⟩,?_⟩,?_,Z⟩
  ·rw [List.size_toArray,hml];unfold maxLen;omega
  ·intro x hx;have c:x.born∈(mE encS 0 (l.map Qq5) vs).map (·.born):=QkX (by simpa using hx);rw [QX _ _ _ hlk,List.mem_range'_1,Qzk] at c;omega
  ·rw [List.toList_toArray,QX _ _ _ hlk];exact List.nodup_range'
  ·rw [List.toList_toArray,XH _ _ _ hlk];exact List.pairwise_map.2 (hnd.imp fun {a b} hab he=>hab (by simpa [encS] using he))
  ·intro x hx;have hx':x∈mE encS 0 (l.map Qq5) vs:=by simpa using hx
   have c:x.key∈(mE encS 0 (l.map Qq5) vs).map (·.key):=QkX hx';rw [XH _ _ _ hlk] at c;obtain⟨s,hs,he⟩:=List.mem_map.1 c;exact⟨(.string s,.nil),by simp [WideElems.rd,<- he,YW Tryz.underlying9 (hlen s hs),AdW]⟩
  ·rw [List.size_toArray,hml];exact Qzx _
 rw [hrg] at hown
 have hq:∀ ks:List (List UInt8),(strKeys (.map ((ks.map fun s=>(Lit.string s,(DataW.nil:DataW Unit))).foldr DataW.insert []))).Perm ks:=fun ks=>by
  have c:=(WideShapes.sorted_perm (ks.map fun s=>(Lit.string s,(DataW.nil:DataW Unit)))).map (fun p=>strOf p.1);rw [Qx0] at c;have h2:((fun p:Lit×DataW Unit=>strOf p.1)∘fun s=>(Lit.string s,(DataW.nil:DataW Unit)))=id:=by funext s;rfl
  rw [h2,List.map_id] at c;exact c
 have hperm:=hq (l.map Qq5)
 have hsz:Go.Maps.size (.map (((l.map Qq5).map fun s=>(Lit.string s,(DataW.nil:DataW Unit))).foldr DataW.insert []))=l.length:=by
  have c:=(WideShapes.sorted_perm ((l.map Qq5).map fun s=>(Lit.string s,(DataW.nil:DataW Unit)))).length_eq;rw [Qzk,Qzk] at c;exact c
 have hseq:SeqGives Fence.wide 2 Tryz.prog 184 #[.pointer (some ⟨bx,0,none⟩)] Go.Proofs.encStr (fun ss=>ss.Perm (strKeys (.map (((l.map Qq5).map fun s=>(Lit.string s,(DataW.nil:DataW Unit))).foldr DataW.insert [])))) (Go.Maps.size (.map (((l.map Qq5).map fun s=>(Lit.string s,(DataW.nil:DataW Unit))).foldr DataW.insert []))) w:=
  AnyZ.keys_gives (ρ:=Tryz.W0) {Tryz.AgY with} Fence.wide _ trivial Z U bx b l.length _ _ (lt_of_heap hbx') (by simp [World.cell?,hbx']) hown
 have cS:=AnyZ.sorted_in Tryz.Afw Fence.wide 5 trivial trivial trivial trivial Z U (AiG _) (enters_of Tryz.func183 Qqb Z) 184 #[.pointer (some ⟨bx,0,none⟩)] trivial (enters_of Tryz.func184 Qqb Z) _ _ (by rw [hsz];unfold maxLen;omega) (by rw [hsz];exact hby) _ hseq
 change CallsIn _ _ Tryz.prog 130 _ _ _ at cS
 refine⟨⟨Tryz.f130,_,Tryz.func130,Z,Z⟩,(callsIn_wide.1 cS).mono fun e w' he=>?_⟩;obtain⟨v',ss,rfl,hS,hrow,_,hbel⟩:=he;refine⟨_,Z,Ext.off hbel,v',Z,_,?_,WO _ _⟩;have d:ss.mergeSort leB=(l.map Qq5).mergeSort leB:=mergeSort_of_perm (hS.trans hperm);have g:ss.length=((l.map Qq5).mergeSort leB).length:=by rw [<- d];simp
 rw [g] at hrow;rw [<- d];rw [<- d] at hrow;exact hrow
end
end Go.Proofs.YtekmbcbgknmhiaaGreatDoor
end
noncomputable section
namespace Go
abbrev AjS:=(Int×AjJ)×(Int×Int)
end Go
namespace Go.Proofs.YtekmbcbgknmhiaaGreatDoor
open Go Go.E Go.RowKit Go.L
set_option maxHeartbeats 1000000
set_option maxRecDepth 10000
open _root_.Go.Proofs.Tryz
def AZ(a0 a1:Int):Option Int:=
 Qq4 (GG a0) (fun a=>AO (Bw (a1+a)) (some ((a1+a))))
theorem El{d w:World}{H:PH}(_hH:Le H (hp d))(O:List BS)(a0 a1:Int){ba1:Nat}(hL:Bb d (Ha [.box ba1 [No a1] 3] O) w){r:Int}(h:AZ a0 a1=some r):
  Ok prog 133 [No a0,AaD ba1] w (fun v w'=>v=.tuple #[]/\Bb d (Ha [.box ba1 [No r] 3] O) w'/\Le (fz w (Ha [.box ba1 [No a1] 3] O)) (fz w' (Ha [.box ba1 [No r] 3] O))):=by
 refine Dq (n:=7) [(0,No a0),(1,(AaD ba1))] func133 Z Z Z Z ?_;have hT:=Le.refl (fz w (Ha [.box ba1 [No a1] 3] O));refine Qm (Qqz 0 4 (.tail 4)) mixed Qqb (fun o b=>?_);have a:=hL.call b;have e:=AR hL b;refine CF Z (Af 0 Z a Z) Z<|D4 1 Z<|Ax h fun p i h=>JN Z Z Z (fun s m=>S0 _ _ (Le.refl _) i)<|Az h fun j h=>CF Z (A5 j) Z<|BU (fun t c=>?_);have k:=a.call c;have f:=AR a c;refine B9 0 Z Z k Z Z fun u l g=>AL ?_
 cases h
 refine L8 ?_;have hT:=hT.trans (e.trans (f.trans g));exact⟨Z,l,hT⟩
def F2(a b:Int):Option ((Int×Int) ⊕ (Int)):=
 AO (Bw (a+1)) (some (Sum.inl (b,(a+1))))
def BQ(a0:Int×AjJ)(b:Int):Int×Int×Int×Int->Option ((Int×Int×Int×Int) ⊕ ((Int×Int) ⊕ (Int))):=fun⟨c,e,d,a⟩=>
 if a<(((a0.2.getD b.toNat Qq2).2).length:Int) then AO (0<=a/\a<(((a0.2.getD b.toNat Qq2).2).length:Int)) (if(((a0.2.getD b.toNat Qq2).2).getD a.toNat Qq2).1=c then Qq4 (AZ (1:Int) d) (fun f=>AO (Bw ((((a0.2.getD b.toNat Qq2).2).getD a.toNat Qq2).2 - e)) (Qq4 (AZ ((((a0.2.getD b.toNat Qq2).2).getD a.toNat Qq2).2 - e) f) (fun g=>AO (Bw (a+1)) (some (Sum.inl ((((a0.2.getD b.toNat Qq2).2).getD a.toNat Qq2).1,(((a0.2.getD b.toNat Qq2).2).getD a.toNat Qq2).2,g,(a+1))))))) else AO (Bw (1+(((a0.2.getD b.toNat Qq2).2).getD a.toNat Qq2).1)) (AO (Bw ((1+(((a0.2.getD b.toNat Qq2).2).getD a.toNat Qq2).1) - c)) (Qq4 (AZ ((1+(((a0.2.getD b.toNat Qq2).2).getD a.toNat Qq2).1) - c) d) (fun h=>AO (Bw ((((a0.2.getD b.toNat Qq2).2).getD a.toNat Qq2).2+1)) (Qq4 (AZ ((((a0.2.getD b.toNat Qq2).2).getD a.toNat Qq2).2+1) h) (fun i=>AO (Bw (a+1)) (some (Sum.inl ((((a0.2.getD b.toNat Qq2).2).getD a.toNat Qq2).1,(((a0.2.getD b.toNat Qq2).2).getD a.toNat Qq2).2,i,(a+1)))))))))) else Qq7 Sum.inr ((F2 b) d)
def Hq(a0:Int×AjJ)(a:Int)(s:Int×Int×Int×Int):Option ((Int×Int) ⊕ (Int)):=Go.L.run (BQ a0 a) s
def F3(a0:Int×AjJ)(a b:Int):Option ((Int×Int) ⊕ (Int)):=
 Qq4 (AZ (((a0.2.getD a.toNat Qq2).2).length:Int) b) (fun c=>(Hq a0 a) (0,(-1),c,0))
def C2(a0:Int×AjJ)(b:Int):Int×Int->Option ((Int×Int) ⊕ ((Int×Int) ⊕ (Int))):=fun⟨c,a⟩=>
 if a<(((a0.2.getD b.toNat Qq2).1).length:Int) then AO (0<=a/\a<(((a0.2.getD b.toNat Qq2).1).length:Int)) (AO (Bw (((((a0.2.getD b.toNat Qq2).1).getD a.toNat Qq2).toNat:Int)+1)) (Qq4 (AZ (((((a0.2.getD b.toNat Qq2).1).getD a.toNat Qq2).toNat:Int)+1) c) (fun d=>AO (Bw (a+1)) (some (Sum.inl (d,(a+1))))))) else Qq7 Sum.inr ((F3 a0 b) c)
def Hr(a0:Int×AjJ)(a:Int)(s:Int×Int):Option ((Int×Int) ⊕ (Int)):=Go.L.run (C2 a0 a) s
def C3(a0:Int×AjJ):Int×Int->Option ((Int×Int) ⊕ (Int)):=fun⟨b,a⟩=>
 if a<(a0.2.length:Int) then AO (0<=a/\a<(a0.2.length:Int)) (Qq4 (AZ (((a0.2.getD a.toNat Qq2).1).length:Int) b) (fun c=>AO (((a0.2.getD a.toNat Qq2).1).length<=9223372036854775807) ((Hr a0 a) (c,0)))) else Qq7 Sum.inr (some b)
def Hs(a0:Int×AjJ)(s:Int×Int):Option Int:=Go.L.run (C3 a0) s
def FO(a0:Int×AjJ)(a1_c0:Int):Option Int:=
 AO (Bw (a0.1+1)) (Qq4 (AZ (a0.1+1) a1_c0) (fun a=>AO (Bw ((a0.2.length:Int)+1)) (Qq4 (AZ ((a0.2.length:Int)+1) a) (fun b=>(Hs a0) (b,0)))))
theorem P3{k w:World}{H:PH}(hH:Le H (hp k)){O:List BS}{a0:Int×AjJ}{a1_c0:Int}{va0_1:Value}{ba1_c0:Nat}(hL:Bb k (Ha [.box ba1_c0 [No a1_c0] 3] O) w)(y:AH (.pair .st (.vec AjW)) (gz H k w (Ha [.box ba1_c0 [No a1_c0] 3] O)) va0_1 (a0.2)){r:Int}(h:FO a0 a1_c0=some r):
  Ok prog 132 [.agg #[No a0.1,va0_1],.func (.func 133) #[] #[AaD ba1_c0]] w (fun v w'=>v=.tuple #[]/\Bb k (Ha [.box ba1_c0 [No r] 3] O) w'/\Le (fz w (Ha [.box ba1_c0 [No a1_c0] 3] O)) (fz w' (Ha [.box ba1_c0 [No r] 3] O))):=by
 refine Dq (n:=91) [(0,.agg #[No a0.1,va0_1]),(1,.func (.func 133) #[] #[AaD ba1_c0])] func132 Z Z Z Z ?_;have hT:=Le.refl (fz w (Ha [.box ba1_c0 [No a1_c0] 3] O));refine Ak<|CB (t:=46) Z Z hL fun w1 q b2 b3 _=>Ac<|Bu 1 Z<|Aj (Ae Z Aj3 Z CO.e)<|Aj (Af 0 Z b2 Z)<|Az h fun dm h=>Aj (A5 dm) ?_;have db:Bb k (Ha [.box ba1_c0 [No a1_c0] 3,.box q [No a0.1,va0_1] 46] O) w1:=b2.C0 [1] Z;have b4:=B2 [1] b2 db Z;refine Ax h fun x4 dn h=>Fk Z Z (El hH (Ha [.box q [No a0.1,va0_1] 46] O) (a0.1+1) a1_c0 db dn) ?_;rintro _ w5 ⟨rfl,dc,b5⟩;refine Ac<|Bu 1 Z<|Aj (Ae Z Aj3 Z ZV.e)<|Aj (Af 1 Z dc Z) ?_;have y:=y.mono (Aa (b3.trans (b4.trans b5)));refine Aj (Bc y)<|Az h fun dp h=>Aj (A5 dp)<|Ax h fun x7 dq h=>Fk Z Z (El hH (Ha [.box q [No a0.1,va0_1] 46] O) (((a0.2.length:Int)+1)) x4 dc dq) ?_;rintro _ w8 ⟨rfl,dd,b6⟩
 refine Ac<|Ak<|Aj (Ae Z Aj3 Z ZV.e)<|Aj (Af 1 Z dd Z) ?_;have y:=y.mono (Aa b6);refine Aj (Bc y)<|A7 1 Z<|A3 ?_;obtain⟨be,h⟩:=Ba h;have hT:=hT.trans (b3.trans (b4.trans (b5.trans b6)));refine B6 (Int×Int×Nat) (fun⟨aa,a,n⟩=>[(1,.func (.func 133) #[] #[AaD ba1_c0]),(23,va0_1),(24,No (a0.2.length:Int)),(25,No a)]) (fun⟨aa,a,n⟩ wr=>Fl k (Ha [.box ba1_c0 [No aa] 3,.box q [No a0.1,va0_1] 46] O) wr fun Oz=>AH (.pair .st (.vec AjW)) (gz H k wr Oz) va0_1 (a0.2)/\Le (fz w (Ha [.box ba1_c0 [No a1_c0] 3] O)) (fz wr Oz)/\HG (C3 a0) n (aa,a)=some r) (fun⟨aa,a,n⟩=>n) (x7,0,be) Z ⟨dd,y,hT,h⟩ ?_;rintro⟨aa,a,nn119⟩ dr ⟨a6,z,hT,h⟩;obtain⟨be,a7,rfl,h,bg⟩:=AY h;refine AJ 1 Z<|AD<|AP h ?_ ?_<;>intro cb h
 ·refine Aw<|As<|Bt Int (fun aj=>[(1,.func (.func 133) #[] #[AaD ba1_c0]),(23,va0_1),(24,No (a0.2.length:Int)),(25,No a)]) (fun aj wr=>Fl k (Ha [.box ba1_c0 [No aj] 3,.box q [No a0.1,va0_1] 46] O) wr fun Oz=>AH (.pair .st (.vec AjW)) (gz H k wr Oz) va0_1 (a0.2)/\Le (fz w (Ha [.box ba1_c0 [No a1_c0] 3] O)) (fz wr Oz)/\(F2 a) aj=some a7) ?_ ?_
  ·refine A3<|Ak<|Az h fun bh h=>Bf z a.toNat (Gy bh) (AW bh) ?_;rintro d0 _ ⟨_,_,rfl,rfl,⟨e228v1,rfl,e228h1⟩⟩ cc;refine Aj (Cx cc (Ao a6))<|AA R3.e Z a6 fun d1 c cd ac _=>Ag 0 Z cd Z (a:=(Br Z (Br e228h1.one K9))) fun de a8 ad=>Ac<|Bu 1 Z<|Aj (Ae Z Ajz Z HJ.e)<|Aj (Af 0 Z a8 Z)<|Aj (IU Z) ?_;have bi:Bb k (Ha [.box ba1_c0 [No aa] 3,.box c [.string ⟨((a0.2.getD a.toNat Qq2).1).toArray⟩,e228v1] 192,.box q [No a0.1,va0_1] 46] O) de:=a8.C0 [1] Z;have ae:=B2 [1] a8 bi Z;refine Ax h fun df ce h=>Fk Z Z (El hH ((Ha [.box c [.string ⟨((a0.2.getD a.toNat Qq2).1).toArray⟩,e228v1] 192,.box q [No a0.1,va0_1] 46] O)) ((((a0.2.getD a.toNat Qq2).1).length:Int)) aa bi ce) ?_;rintro _ d2 ⟨rfl,bj,af⟩;refine Ac ?_
   refine Bt Int (fun ak=>[(1,.func (.func 133) #[] #[AaD ba1_c0]),(5,(AaD c)),(23,va0_1),(24,No (a0.2.length:Int)),(25,No a)]) (fun ak wr=>Fl k (Ha [.box ba1_c0 [No ak] 3,.box c [.string ⟨((a0.2.getD a.toNat Qq2).1).toArray⟩,e228v1] 192,.box q [No a0.1,va0_1] 46] O) wr fun Oz=>AH (.pair .st (.vec AjW)) (gz H k wr Oz) va0_1 (a0.2)/\AH AjW (gz H k wr Oz) e228v1 ((a0.2.getD a.toNat Qq2).2)/\Le (fz w (Ha [.box ba1_c0 [No a1_c0] 3] O)) (fz wr Oz)/\(F3 a0 a) ak=some a7) ?_ ?_
   ·refine Ak<|Aj (Ae Z Ajz Z HJ.e)<|Aj (Af 1 Z bj Z)<|Az h fun cf h=>Adj (H:=H) bj cf fun b7 d3 ds cg al bk=>Aj (Bc bk)<|A7 1 Z<|A3 ?_;obtain⟨bf,h⟩:=Ba h;have z:=z.mono (Aa (ac.trans (ad.trans (ae.trans (af.trans al)))));have e228h1:=e228h1.mono (Aa (ac.trans (ad.trans (ae.trans (af.trans al)))));have hT:=hT.trans (ac.trans (ad.trans (ae.trans (af.trans al))))
    refine B6 (Int×Int×Nat) (fun⟨ab,e,n⟩=>[(1,.func (.func 133) #[] #[AaD ba1_c0]),(5,(AaD c)),(23,va0_1),(24,No (a0.2.length:Int)),(25,No a),(36,b7),(37,No (((a0.2.getD a.toNat Qq2).1).length:Int)),(38,No e)]) (fun⟨ab,e,n⟩ wr=>Fl k (Ha [.box ba1_c0 [No ab] 3,.box c [.string ⟨((a0.2.getD a.toNat Qq2).1).toArray⟩,e228v1] 192,.box q [No a0.1,va0_1] 46] O) wr fun Oz=>AH (.pair .st (.vec AjW)) (gz H k wr Oz) va0_1 (a0.2)/\AH .byte (gz H k wr Oz) b7 ((a0.2.getD a.toNat Qq2).1)/\AH AjW (gz H k wr Oz) e228v1 ((a0.2.getD a.toNat Qq2).2)/\Le (fz w (Ha [.box ba1_c0 [No a1_c0] 3] O)) (fz wr Oz)/\HG (C2 a0 a) n (ab,e)=some a7) (fun⟨ab,e,n⟩=>n) (df,0,bf) Z ⟨cg,z,bk,e228h1,hT,h⟩ ?_;rintro⟨ab,e,nn280⟩ dt ⟨ai,a3,a4,a5,hT,h⟩;obtain⟨bf,d4,rfl,h,bl⟩:=AY h;have l:=ai.rG H;refine AJ 1 Z<|AD<|AP h ?_ ?_<;>intro ch h
    ·refine Aw<|As<|AD<|A3<|Ak<|Az h fun bm h=>Bf (a4.mono l) e.toNat (Gy bm) (AW bm) ?_;rintro d5 _ rfl ci;refine Aj (Bl ci (Ao ai))<|A7 1 Z<|Au<|Aq 2 Z<|Aj (Ld (QT _))<|Az h fun cj h=>Aj (A5 cj)<|Ax h fun dg ck h=>Fk Z Z (El hH ((Ha [.box c [.string ⟨((a0.2.getD a.toNat Qq2).1).toArray⟩,e228v1] 192,.box q [No a0.1,va0_1] 46] O)) ((((((a0.2.getD a.toNat Qq2).1).getD e.toNat Qq2).toNat:Int)+1)) ab ai ck) ?_;rintro _ d6 ⟨rfl,cl,bd⟩;refine AL<|A2<|As<|Au<|Az h fun cm h=>Aj (A5 cm)<|Aq 1 Z<|AL ?_;have h:=Cg.again h bl;have l:=l.trans (Aa bd);have hT:=hT.trans bd;refine AN (_,_,_) Z ⟨cl,(a3.mono l),(a4.mono l),(a5.mono l),hT,h⟩
    refine B4<|AE<|A6 ?_;have h:=Cg.out h bl;refine Bi<|A8 _ ⟨ai,(a3.mono l),(a5.mono l),hT,h⟩
   have hT:=hT.trans (ac.trans (ad.trans (ae.trans af)));rintro ak du ⟨bn,ag,s,hT,h⟩;refine Bu 1 Z<|Aj (Ae Z Ajz Z AdE.e)<|Aj (Af 1 Z bn Z)<|Aj (Bc s)<|Ax h fun dh cn h=>Fk Z Z (El hH ((Ha [.box c [.string ⟨((a0.2.getD a.toNat Qq2).1).toArray⟩,e228v1] 192,.box q [No a0.1,va0_1] 46] O)) ((((a0.2.getD a.toNat Qq2).2).length:Int)) ak bn cn) ?_;rintro _ d7 ⟨rfl,co,am⟩;refine Ac<|Ak<|Aj (AT (fun _=>AdG _ _))<|AA H3.e Z co fun d8 o cp an _=>Ag 0 Z cp Z fun d9 bo ao=>Ac<|Ak<|Aj (Ae Z Ajz Z AdE.e)<|Aj (Af 2 Z bo Z) ?_;have s:=s.mono (Aa (am.trans (an.trans ao)));refine Aj (Bc s)<|A7 1 Z<|A3 ?_;obtain⟨a9,h⟩:=Ba h;have ag:=ag.mono (Aa (am.trans (an.trans ao)));have hT:=hT.trans (am.trans (an.trans ao))
   refine B6 (Int×Int×Int×Int×Nat) (fun⟨g,j,p,b,n⟩=>[(1,.func (.func 133) #[] #[AaD ba1_c0]),(8,(AaD o)),(23,va0_1),(24,No (a0.2.length:Int)),(25,No a),(55,e228v1),(56,No (((a0.2.getD a.toNat Qq2).2).length:Int)),(57,No b)]) (fun⟨g,j,p,b,n⟩ wr=>Fl k (Ha [.box o [No g,No j] 137,.box ba1_c0 [No p] 3,.box c [.string ⟨((a0.2.getD a.toNat Qq2).1).toArray⟩,e228v1] 192,.box q [No a0.1,va0_1] 46] O) wr fun Oz=>AH (.pair .st (.vec AjW)) (gz H k wr Oz) va0_1 (a0.2)/\AH AjW (gz H k wr Oz) e228v1 ((a0.2.getD a.toNat Qq2).2)/\Le (fz w (Ha [.box ba1_c0 [No a1_c0] 3] O)) (fz wr Oz)/\HG (BQ a0 a) n (g,j,p,b)=some a7) (fun⟨g,j,p,b,n⟩=>n) (0,(-1),dh,0,a9) Z ⟨bo,ag,s,hT,h⟩ ?_;rintro⟨g,j,p,b,nn330⟩ dv ⟨ba,d,f,hT,h⟩;obtain⟨a9,ea,rfl,h,bb⟩:=AY h;refine AJ 1 Z<|AD<|AP h ?_ ?_<;>intro cq h
   ·refine Aw<|As<|AD<|A3<|Ak<|Az h fun bp h=>Bf f b.toNat (Gy bp) (AW bp) ?_;rintro eb _ ⟨_,_,rfl,rfl,rfl⟩ cr;refine Aj (Cx cr (Ao ba))<|AA H3.e Z ba fun ec ah cs u _=>Ag 0 Z cs Z fun b8 m x=>Ac<|AD<|Ak<|Aj (Ae Z Ajq Z CO.e)<|Aj (Af 0 Z m Z)<|Aj (Ae Z Ajq Z CO.e)<|Aj (Af 1 Z m Z)<|A7 1 Z<|CP h ?_ ?_<;>intro ct h
    ·refine Bu 1 Z<|Aj (Ae Z Ajq Z CO.e)<|Aj (Af 0 Z m Z)<|Az h fun cu h=>Aj (A5 cu)<|Aj (Ae Z Ajq Z CO.e)<|Aj (Af 1 Z m Z)<|Az h fun cv h=>Aj (A5 cv) ?_;have bq:Bb k (Ha [.box ba1_c0 [No p] 3,.box ah [No ((((a0.2.getD a.toNat Qq2).2).getD b.toNat Qq2).1),No ((((a0.2.getD a.toNat Qq2).2).getD b.toNat Qq2).2)] 137,.box o [No g,No j] 137,.box c [.string ⟨((a0.2.getD a.toNat Qq2).1).toArray⟩,e228v1] 192,.box q [No a0.1,va0_1] 46] O) b8:=m.C0 [2] Z;have ap:=B2 [2] m bq Z;refine Ax h fun di cw h=>Fk Z Z (El hH ((Ha [.box ah [No ((((a0.2.getD a.toNat Qq2).2).getD b.toNat Qq2).1),No ((((a0.2.getD a.toNat Qq2).2).getD b.toNat Qq2).2)] 137,.box o [No g,No j] 137,.box c [.string ⟨((a0.2.getD a.toNat Qq2).1).toArray⟩,e228v1] 192,.box q [No a0.1,va0_1] 46] O)) (((1+(((a0.2.getD a.toNat Qq2).2).getD b.toNat Qq2).1) - g)) p bq cw) ?_
     rintro _ ed ⟨rfl,br,aq⟩;refine Ac<|Au<|Aq 1 Z<|Aj (Ae Z Ajq Z CO.e)<|Aj (Af 1 Z br Z)<|Az h fun cx h=>Aj (A5 cx)<|Ax h fun b9 cy h=>Fk Z Z (El hH ((Ha [.box ah [No ((((a0.2.getD a.toNat Qq2).2).getD b.toNat Qq2).1),No ((((a0.2.getD a.toNat Qq2).2).getD b.toNat Qq2).2)] 137,.box o [No g,No j] 137,.box c [.string ⟨((a0.2.getD a.toNat Qq2).1).toArray⟩,e228v1] 192,.box q [No a0.1,va0_1] 46] O)) (((((a0.2.getD a.toNat Qq2).2).getD b.toNat Qq2).2+1)) di br cy) ?_;rintro _ ee ⟨rfl,bs,ar⟩;refine AL<|As<|Au<|Aj (A4 1 Z H3.e bs Z)<|Ag 2 Z bs Z fun dj cz au=>AL<|A2<|As<|Au<|Az h fun c0 h=>Aj (A5 c0)<|Aq 1 Z<|AL ?_;have bt:=cz.AS (i:=1) Z
     have bu:Bb k (Ha [.box o [No ((((a0.2.getD a.toNat Qq2).2).getD b.toNat Qq2).1),No ((((a0.2.getD a.toNat Qq2).2).getD b.toNat Qq2).2)] 137,.box ba1_c0 [No b9] 3,.box c [.string ⟨((a0.2.getD a.toNat Qq2).1).toArray⟩,e228v1] 192,.box q [No a0.1,va0_1] 46] O) dj:=bt.C0 [1] Z;have av:=B2 [1] bt bu Z;have h:=Cg.again h bb;have d:=d.mono (Aa (u.trans (x.trans (ap.trans (aq.trans (ar.trans (au.trans ((Al (i:=1) Z).trans av))))))));have f:=f.mono (Aa (u.trans (x.trans (ap.trans (aq.trans (ar.trans (au.trans ((Al (i:=1) Z).trans av))))))));have hT:=hT.trans (u.trans (x.trans (ap.trans (aq.trans (ar.trans (au.trans ((Al (i:=1) Z).trans av)))))));refine AN (_,_,_,_,_) Z ⟨bu,d,f,hT,h⟩
    refine Bu 1 Z ?_;have bv:Bb k (Ha [.box ba1_c0 [No p] 3,.box ah [No ((((a0.2.getD a.toNat Qq2).2).getD b.toNat Qq2).1),No ((((a0.2.getD a.toNat Qq2).2).getD b.toNat Qq2).2)] 137,.box o [No g,No j] 137,.box c [.string ⟨((a0.2.getD a.toNat Qq2).1).toArray⟩,e228v1] 192,.box q [No a0.1,va0_1] 46] O) b8:=m.C0 [2] Z;have aw:=B2 [2] m bv Z;refine Ax h fun dk c1 h=>Fk Z Z (El hH ((Ha [.box ah [No ((((a0.2.getD a.toNat Qq2).2).getD b.toNat Qq2).1),No ((((a0.2.getD a.toNat Qq2).2).getD b.toNat Qq2).2)] 137,.box o [No g,No j] 137,.box c [.string ⟨((a0.2.getD a.toNat Qq2).1).toArray⟩,e228v1] 192,.box q [No a0.1,va0_1] 46] O)) 1 p bv c1) ?_;rintro _ ef ⟨rfl,bc,ax⟩;refine Ac<|Au<|Aq 1 Z<|Aj (Ae Z Ajq Z CO.e)<|Aj (Af 1 Z bc Z)<|Aj (Ae Z Ajq Z CO.e)<|Aj (Af 2 Z bc Z)<|Az h fun c2 h=>Aj (A5 c2)<|Ax h fun ca c3 h=>?_
    refine Fk Z Z (El hH ((Ha [.box ah [No ((((a0.2.getD a.toNat Qq2).2).getD b.toNat Qq2).1),No ((((a0.2.getD a.toNat Qq2).2).getD b.toNat Qq2).2)] 137,.box o [No g,No j] 137,.box c [.string ⟨((a0.2.getD a.toNat Qq2).1).toArray⟩,e228v1] 192,.box q [No a0.1,va0_1] 46] O)) (((((a0.2.getD a.toNat Qq2).2).getD b.toNat Qq2).2 - j)) dk bc c3) ?_;rintro _ eg ⟨rfl,bw,ay⟩;refine AL<|As<|Au<|Aj (A4 1 Z H3.e bw Z)<|Ag 2 Z bw Z fun dl c4 az=>AL<|A2<|As<|Au<|Az h fun c5 h=>Aj (A5 c5)<|Aq 1 Z<|AL ?_;have bx:=c4.AS (i:=1) Z;have bz:Bb k (Ha [.box o [No ((((a0.2.getD a.toNat Qq2).2).getD b.toNat Qq2).1),No ((((a0.2.getD a.toNat Qq2).2).getD b.toNat Qq2).2)] 137,.box ba1_c0 [No ca] 3,.box c [.string ⟨((a0.2.getD a.toNat Qq2).1).toArray⟩,e228v1] 192,.box q [No a0.1,va0_1] 46] O) dl:=bx.C0 [1] Z;have a2:=B2 [1] bx bz Z;have h:=Cg.again h bb
    have d:=d.mono (Aa (u.trans (x.trans (aw.trans (ax.trans (ay.trans (az.trans ((Al (i:=1) Z).trans a2))))))));have f:=f.mono (Aa (u.trans (x.trans (aw.trans (ax.trans (ay.trans (az.trans ((Al (i:=1) Z).trans a2))))))));have hT:=hT.trans (u.trans (x.trans (aw.trans (ax.trans (ay.trans (az.trans ((Al (i:=1) Z).trans a2)))))));refine AN (_,_,_,_,_) Z ⟨bz,d,f,hT,h⟩
   refine B4<|AE<|A6 ?_;have h:=Cg.out h bb;refine Bi<|A2 ?_;have c6:=ba.AS (i:=0) Z;have c7:=c6.AS (i:=1) Z;have d:=d.mono (Aa ((Al (i:=0) Z).trans (Al (i:=1) Z)));have hT:=hT.trans ((Al (i:=0) Z).trans (Al (i:=1) Z));refine A8 _ ⟨c7,d,hT,h⟩
  rintro aj dw ⟨c8,b0,hT,h⟩;refine Au<|Az h fun c9 h=>Aj (A5 c9)<|Aq 1 Z<|AL ?_;have h:=Cg.again h bg;refine AN (_,_,_) Z ⟨c8,b0,hT,h⟩
 refine B4<|AE<|A6 ?_;have h:=Cg.out h bg;refine Bi ?_
 cases h
 refine L8 ?_;have da:=a6.AS (i:=1) Z;have hT:=hT.trans (Al (i:=1) Z);exact⟨Z,da,hT⟩
def HQ(a0:Int)(a:List (Ac3×AjL)):Option AjS:=
 Qq4 (FO (a0,a) (0:Int)) (fun c=>if 131072<c then Qq4 (DU (14:Int) (-1:Int)) (fun b=>some ((0,[]),(b.1,b.2))) else some ((a0,a),(0,0)))
def Hb(a0:Int)(a1:List (Ac3×AjL))(b:(List Ac3)):AjJ×Int->Option ((AjJ×Int) ⊕ AjS):=fun⟨c,a⟩=>
 if a<(b.length:Int) then AO (0<=a/\a<(b.length:Int)) (AO (Go.E.Io 40 (c.length+([(b.getD a.toNat Qq2,(BW [] (b.getD a.toNat Qq2) a1))]).length)) (AO (Bw (a+1)) (some (Sum.inl ((c++[(b.getD a.toNat Qq2,(BW [] (b.getD a.toNat Qq2) a1))]),(a+1)))))) else Qq7 Sum.inr ((HQ a0) c)
def LQ(a0:Int)(a1:List (Ac3×AjL))(a:(List Ac3))(s:AjJ×Int):Option AjS:=Go.L.run (Hb a0 a1 a) s
def Lz(a0:Int)(a1:List (Ac3×AjL)):Option AjS:=
 Qq4 (M5 a1) (fun a=>(LQ a0 a1 a) (([]:List (Ac3×AjL)),0))
section
variable(w:World)(H:PH)(hH:Le H (hp w)) include hH
theorem Vx{a0:Int}{a1:List (Ac3×AjL)}{x:Value}(ah:Wf encS (.vec AjW) H x a1){r:(Int×AjJ)×(Int×Int)}(h:Lz a0 a1=some r):
  Qqv 80 [No a0,x] w (fun v w'=>∃ u0,v=.tuple #[.agg #[No r.1.1,u0],.agg #[No r.2.1,No r.2.2]]/\AH (.pair .st (.vec AjW)) (un H (nw w w')) u0 (r.1.2)):=by
 refine A1 40 [(0,No a0),(1,x)] func80 Z fun hL=>Ak<|AA LD.e Z hL fun w1 b1 bt b6 _=>AA AG.e Z bt fun w2 b2 bu b7 _=>Ac<|Bu 1 Z<|Aj (AT (fun _=>AfR _ _))<|AA LD.e Z bu fun w3 b3 bv b8 _=>Ag 0 Z bv Z fun w4 al b9=>Ac<|Bt (AjJ×Value×(List Value)) (fun⟨u,p,j⟩=>[(4,(AaD b1)),(5,(AaD b2)),(6,(AaD b3))]) (fun⟨u,p,j⟩ wr=>Fl w [.row p 192 2 (u).length j,.box b3 [No a0,p] 46,.box b2 [No 0,No 0] 28,.box b1 [No 0,Aa4] 46] wr fun Oz=>AI (.pair .st (.vec AjW)) (gz H w wr Oz) u j/\(HQ a0) u=some r) ?_ ?_
 ·refine Bu 1 Z<|Bk al (Agh _ _ (Ao al) (ah.mono  Ah)) ?_;intro ce cf a3 a4 z bx;have a5:=a3.mono (Er al a4);refine Ax h fun c a6 h=>Bk z (Acd _ _ (Ao z) a5 a6) ?_;rintro ae cg ⟨_,rfl,am⟩ a7 a8 bz;have d:=am.Dz hH z a7;refine Aj (Bc d)<|A7 1 Z<|A3 ?_;obtain⟨a9,au,ba⟩:=DS (.pair .st (.vec AjW)) H 192 a8;obtain⟨an,h⟩:=Ba h;have d:=d.mono (Aa au)
  refine B6 (AjJ×Int×Value×(List Value)×Nat) (fun⟨e,a,g,b,n⟩=>[(1,x),(4,(AaD b1)),(5,(AaD b2)),(6,(AaD b3)),(14,ae),(15,No (c.length:Int)),(16,No a)]) (fun⟨e,a,g,b,n⟩ wr=>Fl w [.row g 192 2 (e).length b,.box b3 [No a0,g] 46,.box b2 [No 0,No 0] 28,.box b1 [No 0,Aa4] 46] wr fun Oz=>AH .st (gz H w wr Oz) ae c/\AI (.pair .st (.vec AjW)) (gz H w wr Oz) e b/\HG (Hb a0 a1 c) n (e,a)=some r) (fun⟨e,a,g,b,n⟩=>n) (([]:List (Ac3×AjL)),0,Aa4,[],an) Z ⟨a9,d,ba,h⟩ ?_;rintro⟨e,a,g,b,nn60⟩ ca ⟨q,f,o,h⟩;obtain⟨an,ch,rfl,h,ao⟩:=AY h;refine AJ 1 Z<|AD<|AP h ?_ ?_<;>intro bb h
  ·refine Aw<|As<|AD<|A3<|Ak<|Az h fun ap h=>Bf f a.toNat (Gy ap) (AW ap) ?_;rintro ci _ rfl bc;refine Aj (Bl bc (Ao q))<|A7 1 Z<|Au<|Aj (Ae Z Aj3 Z ZV.e)<|Aj (Af 1 Z q Z)<|Aq 3 Z<|AaZ (k:=c.getD a.toNat Qq2) AhQ zeroValue109 ah (hH.trans q.arg) fun cj aq=>Aj (AT (fun _=>ZY _ Z _ aq.one _))<|B7 ([(c.getD a.toNat Qq2,(BW [] (c.getD a.toNat Qq2) a1))]) (r:=(.pair .st (.vec AjW))) (fun _=>AfZ _ _ _) q (.c2 ⟨_,_,Z,Z,⟨_,Z,(aq.mono  Ah)⟩⟩ .nil) fun ck cl cb bd af be=>Az h fun bf h=>?_;have o:=o.mono (Aa af);refine By (r:=(.pair .st (.vec AjW))) 0 e ([(c.getD a.toNat Qq2,(BW [] (c.getD a.toNat Qq2) a1))]) Z Aj0 bd Z o be bf fun bw cm bg ar av aa=>Aj (Ae Z Aj3 Z ZV.e) ?_
   refine B9 1 Z (row_one (ar.at (i:=0) Z)) ar Z Z fun cn bh ag=>AL<|A2<|As<|Au<|Az h fun bi h=>Aj (A5 bi)<|Aq 1 Z<|AL ?_;have h:=Cg.again h ao;have f:=f.mono (Aa (af.trans (av.trans ag)));have aa:=aa.mono (Aa ag);refine AN (_,_,_,_,_) Z ⟨bh,f,aa,h⟩
  refine B4<|AE<|A6 ?_;have h:=Cg.out h ao;refine Bi<|A8 (_,_,_) ⟨q,o,h⟩
 rintro⟨u,p,j⟩ cc ⟨bj,y,h⟩;refine Ak<|AA CO.e Z bj fun co cp bk aw _=>B9 0 Z Z bk Z Z fun cq ab ax=>Ac<|Ak<|Aj (A4 2 Z LD.e ab Z)<|Aq 1 Z ?_;have y:=y.mono (Aa (aw.trans ax));have s:=ab.Dz hH (i:=1) Z y;have bl:=ab.AS (i:=1) Z;refine Ax h fun cr bm h=>EP (P3 (a0:=(a0,u)) (a1_c0:=0) (O:=[.box b3 [No a0,p] 46,.box b2 [No 0,No 0] 28,.box b1 [No 0,Aa4] 46]) hH bl s bm) ?_;rintro _ cs ⟨rfl,t,ay⟩;refine Ac<|AD<|Ak<|Aj (Af 0 Z t Z)<|A7 1 Z<|AP h ?_ ?_<;>intro bn h
 ·refine Ak<|Aj (AT (fun _=>X8 _))<|Ax h fun ct bo h=>AF t (D5 _ _ (Ao t) bo) fun cu cd bp b0=>Ag 3 Z bp Z fun cv bq b4=>Ag 2 Z bq Z fun cw ac b5=>Ac<|Ay<|Ar ?_
  cases h
  refine Bv (.cell Z Aj3 Z LD.e (AK (i:=3) ac Z)) (.cell Z Aji Z AG.e (AK (i:=2) ac Z)) ⟨ac.ext,_,Z,(AH.nil _ _)⟩
 refine Aw<|As<|Ak<|Aj (A4 1 Z LD.e t Z)<|Aj (AT (fun _=>BM _))<|Ag 3 Z t Z (a:=(Br Z (Br s.one K9))) fun cx br az=>Ag 2 Z br Z fun cy ad a2=>Ac<|Ay ?_
 cases h
 refine Bv (.cell Z Aj3 Z LD.e (AK (i:=3) ad Z)) (.cell Z Aji Z AG.e (AK (i:=2) ad Z)) ?_;have s:=s.mono (Aa (ay.trans (az.trans a2)));exact⟨ad.ext,_,Z,(s.mono  EC)⟩
def Kd(a:Int)(b:List (Ac3×AjL)):Option ((AjJ×Int) ⊕ AjS):=
 AO (Bw (a+1)) (some (Sum.inl (b,(a+1))))
def Hc(c:Int)(b:AjM×(Int×Int)):AjJ×Int->Option ((AjJ×Int) ⊕ ((AjJ×Int) ⊕ AjS)):=fun⟨d,a⟩=>
 if a<(b.1.length:Int) then AO (0<=a/\a<(b.1.length:Int)) (AO (Go.E.Io 16 ((BW [] ((b.1.getD a.toNat Qq2).1) d).length+1)) (AO (Bw (a+1)) (some (Sum.inl ((FY ((b.1.getD a.toNat Qq2).1) ((BW [] ((b.1.getD a.toNat Qq2).1) d)++[(c,a)]) d),(a+1)))))) else Qq7 Sum.inr ((Kd c) d)
def Ke(a:Int)(b:AjM×(Int×Int))(s:AjJ×Int):Option ((AjJ×Int) ⊕ AjS):=Go.L.run (Hc a b) s
def HR(a0:List Ac3)(b:List (Ac3×AjL)):Option AjS:=
 Qq4 (Lz (a0.length:Int) b) (fun a=>some ((a.1.1,a.1.2),(a.2.1,a.2.2)))
def EM(a0:List Ac3):AjJ×Int->Option ((AjJ×Int) ⊕ AjS):=fun⟨c,a⟩=>
 if a<(a0.length:Int) then AO (0<=a/\a<(a0.length:Int)) (Qq4 (Jk (a0.getD a.toNat Qq2)) (fun b=>if b.2.1=0/\b.2.2=0 then(Ke a b) (c,0) else Qq4 (DU b.2.1 a) (fun d=>Qq7 Sum.inr (some ((0,[]),(d.1,d.2)))))) else Qq7 Sum.inr ((HR a0) c)
def NQ(a0:List Ac3)(s:AjJ×Int):Option AjS:=Go.L.run (EM a0) s
def Jl(a0:List Ac3):Option AjS:=
 if 64<(a0.length:Int) then Qq4 (DU (2:Int) (-1:Int)) (fun a=>some ((0,[]),(a.1,a.2))) else(NQ a0) (([]:List (Ac3×AjL)),0)
theorem Vy(hU:Gj H){a0:List Ac3}{m:Value}(ah:AH (.vec .byte) H m a0){r:(Int×AjJ)×(Int×Int)}(h:Jl a0=some r):
  Qqv 47 [m] w (fun v w'=>∃ u0,v=.tuple #[.agg #[No r.1.1,u0],.agg #[No r.2.1,No r.2.2]]/\AH (.pair .st (.vec AjW)) (un H (nw w w')) u0 (r.1.2)):=by
 refine A1 64 [(0,m)] func47 Z fun hL=>Ak<|AA LD.e Z hL fun w1 b1 cg cz _=>AA AG.e Z cg fun w2 b2 a2 c0 _=>Ac<|AD<|Bu 1 Z<|Aj (Bc ah)<|A7 1 Z<|AP h ?_ ?_<;>intro ch h
 ·refine Ak<|Aj (AT (fun _=>X8 _))<|Ax h fun x5 ci h=>AF a2 (D5 _ _ (Ao a2) ci) fun w6 dt cj c1=>Ag 1 Z cj Z fun w7 ck c3=>Ag 0 Z ck Z fun w8 a3 c4=>Ac<|Ay<|Ar ?_
  cases h
  refine Bv (.cell Z Aj3 Z LD.e (AK (i:=1) a3 Z)) (.cell Z Aji Z AG.e (AK (i:=0) a3 Z)) ⟨a3.ext,_,Z,(AH.nil _ _)⟩
 refine Aw<|As<|Ak<|WC encS AjL a2 fun du o ce cs=>A7 1 Z<|Bt (AjJ×(List Value)) (fun⟨t,vsl142⟩=>[(0,m),(2,(AaD b1)),(3,(AaD b2)),(4,.map (some o))]) (fun⟨t,vsl142⟩ wr=>Fl w (Ha [R2 encS o t vsl142,.box b2 [No 0,No 0] 28,.box b1 [No 0,Aa4] 46] (mT AbT 137 2 t vsl142)) wr fun Oz=>(t).length=(vsl142).length/\(HR a0) t=some r) ?_ ?_
 ·refine Bu 1 Z<|Aj (Bc ah)<|A7 1 Z<|A3 ?_;obtain⟨aq,h⟩:=Ba h;refine B6 (AjJ×Int×(List Value)×Nat) (fun⟨p,c,vsl209,n⟩=>[(0,m),(2,(AaD b1)),(3,(AaD b2)),(4,.map (some o)),(17,m),(18,No (a0.length:Int)),(19,No c)]) (fun⟨p,c,vsl209,n⟩ wr=>Fl w (Ha [R2 encS o p vsl209,.box b2 [No 0,No 0] 28,.box b1 [No 0,Aa4] 46] (mT AbT 137 2 p vsl209)) wr fun Oz=>(p).length=(vsl209).length/\HG (EM a0) n (p,c)=some r) (fun⟨p,c,vsl209,n⟩=>n) (([]:List (Ac3×AjL)),0,([]:List Value),aq) Z ⟨ce,Z,h⟩ ?_;rintro⟨p,c,vsl209,nn211⟩ ct ⟨ab,ao,h⟩;obtain⟨aq,a4,rfl,h,ai⟩:=AY h;refine AJ 1 Z<|AD<|AP h ?_ ?_<;>intro bi h
  ·refine Aw<|As<|Bt (AjJ×(List Value)) (fun⟨aa,vsl273⟩=>[(0,m),(2,(AaD b1)),(3,(AaD b2)),(4,.map (some o)),(17,m),(18,No (a0.length:Int)),(19,No c)]) (fun⟨aa,vsl273⟩ wr=>Fl w (Ha [R2 encS o aa vsl273,.box b2 [No 0,No 0] 28,.box b1 [No 0,Aa4] 46] (mT AbT 137 2 aa vsl273)) wr fun Oz=>(aa).length=(vsl273).length/\(Kd c) aa=some a4) ?_ ?_
   ·refine A3<|Bu 1 Z<|Az h fun au h=>Bf ah c.toNat (Gy au) (AW au) ?_;rintro c5 _ ⟨e276v0,rfl,e276h0⟩ bj;refine Aj (Bl bj (hH.trans ab.arg))<|A7 2 Z<|Bu 1 Z<|Ax h fun b bk h=>Bk ab (Vw _ _ (Ao ab) (hU.mono  Ah) (e276h0.mono  Ah) bk) ?_;rintro _ c6 ⟨ap,rfl,az⟩ bl bm cl;have u:=az.Dz hH ab bl;refine Aq 3 Z<|AA AG.e Z bm fun c7 af bn a5 _=>Aq 1 Z<|Ag 0 Z bn Z fun c8 ac a6=>Ac<|AD<|Ak<|Aj (A4 0 Z AG.e ac Z)<|Aj (AT (fun _=>BM _))<|Aj (JO J2 (Nf _ _ _ _))<|Ac<|CP h ?_ ?_<;>intro bo h
    ·refine Ak<|Aj (AT (fun _=>X8 _))<|Aj (Ae Z Aji Z CO.e)<|Aj (Af 0 Z ac Z)<|Aq 1 Z<|Ax h fun c9 bp h=>AF ac (D5 _ _ (Ao ac) bp) fun da cu bq cm=>Ag 3 Z bq Z fun db br cn=>Ag 2 Z br Z fun dc aj co=>Ac<|Ay<|Ar<|Av<|Bh<|BG ?_;have h:=Cg.out h ai;refine Av<|Bh ?_
     cases h
     refine Bv (.cell Z Aj3 Z LD.e (AK (i:=3) aj Z)) (.cell Z Aji Z AG.e (AK (i:=2) aj Z)) ⟨aj.ext,_,Z,(AH.nil _ _)⟩
    refine Aw<|As<|Bu 1 Z ?_;have u:=u.mono (Aa (a5.trans a6));refine Aj (Bc u)<|A7 1 Z<|A3 ?_;obtain⟨ar,h⟩:=Ba h;refine B6 (AjJ×Int×(List Value)×Nat) (fun⟨d,a,vsl310,n⟩=>[(0,m),(2,(AaD b1)),(3,(AaD b2)),(4,.map (some o)),(5,No c),(17,m),(18,No (a0.length:Int)),(19,No c),(37,ap),(38,No (b.1.length:Int)),(39,No a)]) (fun⟨d,a,vsl310,n⟩ wr=>Fl w (Ha [.box af [No b.2.1,No b.2.2] 28,R2 encS o d vsl310,.box b2 [No 0,No 0] 28,.box b1 [No 0,Aa4] 46] (mT AbT 137 2 d vsl310)) wr fun Oz=>AH (.pair .st AjW) (gz H w wr Oz) ap (b.1)/\(d).length=(vsl310).length/\HG (Hc c b) n (d,a)=some a4) (fun⟨d,a,vsl310,n⟩=>n) (p,0,vsl209,ar) Z ⟨ac,u,ao,h⟩ ?_;rintro⟨d,a,vsl310,nn312⟩ cv ⟨ak,x,ag,h⟩;obtain⟨ar,dd,rfl,h,av⟩:=AY h;refine AJ 1 Z<|AD<|AP h ?_ ?_<;>intro bs h
    ·refine Aw<|As<|AD<|A3<|Bu 1 Z<|Az h fun aw h=>Bf x a.toNat (Gy aw) (AW aw) ?_;rintro de _ ⟨_,_,rfl,rfl,⟨_,_,rfl,rfl,rfl⟩⟩ bt;refine Aj (Cx bt (Ao ak))<|AA OM.e Z ak fun df al bu a7 _=>Aq 1 Z<|Ag 0 Z bu Z fun dg ax a8=>Ac ?_
     refine Ko (J1 (UQ (Si (J1 (J1 (Ox (Si (J1 (Ox Ns))))))))) (fun z0 z=>Le (gz H w z0 (Ha [.box al [.string ⟨((b.1.getD a.toNat Qq2).1).toArray⟩,No ((b.1.getD a.toNat Qq2).2.1),No ((b.1.getD a.toNat Qq2).2.2)] 135,.box af [No b.2.1,No b.2.2] 28,R2 encS o d vsl310,.box b2 [No 0,No 0] 28,.box b1 [No 0,Aa4] 46] (mT AbT 137 2 d vsl310))) (hp z)/\z.heap[al]? = some (.cells [.string ⟨((b.1.getD a.toNat Qq2).1).toArray⟩,No ((b.1.getD a.toNat Qq2).2.1),No ((b.1.getD a.toNat Qq2).2.2)].toArray 135 (0,0))/\z.heap[af]? = some (.cells [No b.2.1,No b.2.2].toArray 28 (0,0))/\z.heap[b2]? = some (.cells [No 0,No 0].toArray 28 (0,0))/\z.heap[b1]? = some (.cells [No 0,Aa4].toArray 46 (0,0))/\z.heap[o]? = some (.map (mE encS 0 ((d).map Qq5) vsl310).toArray (d).length)) mixed Z (fun f di ay=>?_);have j:=ax.call ay;have a9:=AR ax ay;have g:=j.rG H;refine Nv ⟨g.trans (Ao j),j.at (i:=0) Z,j.at (i:=1) Z,j.at (i:=3) Z,j.at (i:=4) Z,j.at (i:=2) Z⟩ fun kI323=>?_
     refine A9 0 f kI323 Z (fun _ _=>Ai Z) Z<|A9 1 f kI323 Z (fun _ _=>Ae Z Aj4 Z HJ.e) Z<|A9 2 f kI323 Z (fun _ hI=>KG Z hI.2.1 Z) Z<|A9 3 f kI323 Z (fun _ _=>Ai Z) Z<|A9 4 f kI323 Z (fun _ _=>Ae Z Aj4 Z HJ.e) Z<|A9 5 f kI323 Z (fun _ hI=>KG Z hI.2.1 Z) Z<|A9 6 f kI323 Z (fun _ hI=>AfM (k:=(b.1.getD a.toNat Qq2).1) (enc:=encS) Z AhQ zeroValue109 hI.2.2.2.2.2 (by rw [Qzk];exact ag)) Z<|A9 7 f kI323 Z (fun _ _=>Ai Z) Z<|A9 8 f kI323 Z (fun _ _=>Ai Z) Z<|A9 9 f kI323 Z (fun _ _=>AT (fun _=>Vj _ _ _)) Z<|FX 10 Z<|B7 [(c,a)] (r:=AjW) (fun _=>YM _ _ _) j (.c2 ⟨_,_,Z,Z,Z⟩ .nil) ?_;intro dj dk cw q ba bv;have g:=g.trans (Aa ba)
     refine AX ⟨g.trans (Ao q),q.at (i:=0) Z,q.at (i:=1) Z,q.at (i:=3) Z,q.at (i:=4) Z,q.at (i:=2) Z⟩ fun kI325=>FX 11 Z<|Az h fun bw h=>Adx (A:=[.box al [.string ⟨((b.1.getD a.toNat Qq2).1).toArray⟩,No ((b.1.getD a.toNat Qq2).2.1),No ((b.1.getD a.toNat Qq2).2.2)] 135,.box af [No b.2.1,No b.2.2] 28,R2 encS o d vsl310,.box b2 [No 0,No 0] 28,.box b1 [No 0,Aa4] 46]) (l:=d) (vs:=vsl310) (k:=(b.1.getD a.toNat Qq2).1) (z:=(c,a)) (r:=AjW) (H:=H) Ady Z Ajo Qqc hH q ag bv bw ?_;intro dl dm T327 bb s bc;have g:=g.trans (Aa bc);refine AX ⟨g.trans (Ao s),s.at (i:=0) Z,s.at (i:=1) Z,s.at (i:=3) Z,s.at (i:=4) Z,s.at (i:=2) Z⟩ fun kI329=>FX 12 Z ?_
     refine AhI (A:=[.box al [.string ⟨((b.1.getD a.toNat Qq2).1).toArray⟩,No ((b.1.getD a.toNat Qq2).2.1),No ((b.1.getD a.toNat Qq2).2.2)] 135,.box af [No b.2.1,No b.2.2] 28,R2 encS o d vsl310,.box b2 [No 0,No 0] 28,.box b1 [No 0,Aa4] 46]) (T:=T327) 2 bb Z AhQ s Z fun bx dn bz b0 bd=>GO<|ER<|A2<|As<|Au<|Az h fun b3 h=>Aj (A5 b3)<|Aq 1 Z<|AL ?_;have b4:=b0.AS (i:=0) Z;have h:=Cg.again h av;have x:=x.mono (Aa (a7.trans (a8.trans a9)));have g:=g.trans (Aa (bd.trans (Al (i:=0) Z)));refine AN (_,_,_,_) Z ⟨b4,(x.mono g),bz,h⟩
    refine B4<|AE<|A6 ?_;have h:=Cg.out h av;refine Bi<|A2 ?_;have b5:=ak.AS (i:=0) Z;refine A8 (_,_) ⟨b5,ag,h⟩
   rintro⟨aa,vsl273⟩ cx ⟨b6,be,h⟩;refine Au<|Az h fun b7 h=>Aj (A5 b7)<|Aq 1 Z<|AL ?_;have h:=Cg.again h ai;refine AN (_,_,_,_) Z ⟨b6,be,h⟩
  refine B4<|AE<|A6 ?_;have h:=Cg.out h ai;refine Bi<|A8 (_,_) ⟨ab,ao,h⟩
 rintro⟨t,vsl142⟩ cy ⟨b8,bf,h⟩;refine Bu 1 Z<|Aj (Bc ah)<|Aq 1 Z ?_;obtain⟨am,cp,b9⟩:=AaY (A:=[R2 encS o t vsl142,.box b2 [No 0,No 0] 28,.box b1 [No 0,Aa4] 46]) (l:=t) (vs:=vsl142) (e:=137) (r:=AjW) 0 Z Ady hH bf b8 Z;refine Ax h fun dp ca h=>Bk am (Vx _ _ (Ao am) b9 ca) ?_;rintro _ dq ⟨cq,rfl,a1⟩ cb cc cr;have y:=a1.mono (Er am cb);refine Aq 2 Z<|Ag 1 Z cc Z (a:=(Br Z (Br y.one K9))) fun dr cd bg=>Ag 0 Z cd Z fun ds an bh=>Ac<|Ay ?_
 cases h
 refine Bv (.cell Z Aj3 Z LD.e (AK (i:=1) an Z)) (.cell Z Aji Z AG.e (AK (i:=0) an Z)) ?_;have y:=y.mono (Aa (bg.trans bh));exact⟨an.ext,_,Z,(y.mono  EC)⟩
end
end Go.Proofs.YtekmbcbgknmhiaaGreatDoor
end
noncomputable section
namespace Go.Proofs.YtekmbcbgknmhiaaGreatDoor
open Go Go.E Go.RowKit Go.L
set_option maxHeartbeats 1000000
set_option maxRecDepth 10000
open _root_.Go.Proofs.Tryz
def Gu(a0:Int×AjJ)(a1:Ac3):Option (AjL×(Int×Int)):=
 Qq4 (H5 a1) (fun a=>if a.1=0/\a.2=0 then Qq4 (DD (a0.1,a0.2) a1) (fun b=>Qq4 (D7 b) (fun c=>some (c,(0,0)))) else some ([],(a.1,a.2)))
section
variable(w:World)(H:PH)(hH:Le H (hp w)) include hH
theorem Np(hU:Gj H){a0:Int×AjJ}{a1:Ac3}{b:Value}(u:AH (.pair .st (.vec AjW)) H b (a0.2)){r:AjL×(Int×Int)}(h:Gu a0 a1=some r):
  Qqv 144 [.agg #[No a0.1,b],Ab5 a1] w (fun v w'=>∃ u0,v=.tuple #[u0,.agg #[No r.2.1,No r.2.2]]/\Ck 137 AjW H w w' u0 (r.1)):=by
 refine A1 18 [(0,.agg #[No a0.1,b]),(1,(Ab5 a1))] func144 Z fun hL=>Ak<|CB (t:=46) Z Z hL fun w1 b1 ae ao _=>Aq 1 Z<|AA AG.e Z ae fun w2 b2 s ap _=>Ac<|AD<|Bu 1 Z<|Ax h fun x3 af h=>AF s (Kc _ _ (Ao s) (hU.mono  Ah) af) fun w4 aw ag aq=>AA AG.e Z ag fun w5 b5 ah ar _=>Ag 0 Z ah Z fun w6 a au=>Ac<|Ak<|Aj (A4 0 Z AG.e a Z)<|Aj (AT (fun _=>BM _))<|Aj (JO J2 (Nf _ _ _ _))<|Ac<|CP h ?_ ?_<;>intro ai h
 ·refine Eu (.q 0 (.q 1 (.tail 2))) mixed Qqb (fun w9 aj=>?_);have f:=a.call aj;refine CF Z (A4 0 Z AG.e f Z) Z<|D4 1 Z<|BU (fun ax x=>?_);have y:=f.call x;refine Ag 1 Z y Z fun ay g ak=>Ac<|Ay<|Ar ?_
  cases h
  refine Bv (.tmp Z) (.cell Z Aji Z AG.e (AK (i:=1) g Z)) ⟨g.ext,_,Z,Ck.nil⟩
 refine Aw<|As<|Ak<|Aj (A4 2 Z LD.e a Z)<|Aq 1 Z<|Ax h fun az z h=>Bk a (Hg (a0:=(a0.1,a0.2)) _ _ (Ao a) (u.mono  Ah) z) ?_;rintro al a2 ⟨_,rfl,j⟩ aa c am;have k:=j.mono (Er a aa);refine Ax h fun a3 ab h=>Bk c (Mo _ _ (Ao c) k ab) ?_;rintro an a4 ⟨_,rfl,l⟩ ac m o;obtain⟨av,m,o,d⟩:=l.take hH c ac;refine Aj (AT (fun _=>BM _))<|Aq 1 Z<|Ag 2 Z m Z fun a5 e p=>Ac<|Ay ?_
 cases h
 refine Bv (.tmp Z) (.cell Z Aji Z AG.e (AK (i:=2) e Z)) ?_;have d:=d.mono (Aa p);exact⟨e.ext,_,Z,(e.Ip hH (i:=0) Z d)⟩
def Ga(a:List (Int×Int)):Option (AjL×(Int×Int)):=
 some (a,(0,0))
def CW(a:Int)(b:List (Int×Int)):Option ((AjL×Int) ⊕ (AjL×(Int×Int))):=
 AO (Bw (a+1)) (some (Sum.inl (b,(a+1))))
def E6(c:List (Int×Int))(a:Int)(b:AjL):Option ((AjL×Int) ⊕ (AjL×(Int×Int))):=
 AO (Go.E.Io 16 (c.length+([((b.getD a.toNat Qq2).1,(b.getD a.toNat Qq2).2)]).length)) ((CW a) (c++[((b.getD a.toNat Qq2).1,(b.getD a.toNat Qq2).2)]))
def Cm(a0:Int×AjJ)(a1:List Ac3)(d:List (Int×Int))(b:Int)(c:AjL):Int->Option ((Int) ⊕ ((AjL×Int) ⊕ (AjL×(Int×Int)))):=fun a=>
 if a<(a1.length:Int) then AO (0<=a/\a<(a1.length:Int)) (AO (Bw ((c.getD b.toNat Qq2).2+a)) (Qq4 (DD (a0.1,a0.2) (a1.getD a.toNat Qq2)) (fun e=>Qq4 (Cj e ((c.getD b.toNat Qq2).1,((c.getD b.toNat Qq2).2+a))) (fun f=>if !f then Qq7 Sum.inr ((CW b) d) else AO (Bw (a+1)) (some (Sum.inl (a+1))))))) else Qq7 Sum.inr ((E6 d b c))
def Ia(a0:Int×AjJ)(a1:List Ac3)(b:List (Int×Int))(a:Int)(c:AjL)(s:Int):Option ((AjL×Int) ⊕ (AjL×(Int×Int))):=Go.L.run (Cm a0 a1 b a c) s
def CL(a0:Int×AjJ)(a1:List Ac3)(b:AjL):AjL×Int->Option ((AjL×Int) ⊕ (AjL×(Int×Int))):=fun⟨c,a⟩=>
 if a<(b.length:Int) then AO (0<=a/\a<(b.length:Int)) ((Ia a0 a1 c a b) (0:Int)) else Qq7 Sum.inr (Ga c)
def Ib(a0:Int×AjJ)(a1:List Ac3)(a:AjL)(s:AjL×Int):Option (AjL×(Int×Int)):=Go.L.run (CL a0 a1 a) s
def Gb(a0:Int×AjJ)(a1:List Ac3):Option (AjL×(Int×Int)):=
 AO (0<=(0:Int)/\(0:Int)<(a1.length:Int)) (Qq4 (DD (a0.1,a0.2) (a1.getD ((0:Int).toNat) Qq2)) (fun a=>(Ib a0 a1 a) (([]:List (Int×Int)),0)))
def CM(a0:Int×AjJ)(a1:List Ac3):Int->Option ((Int) ⊕ (AjL×(Int×Int))):=fun a=>
 if a<(a1.length:Int) then AO (0<=a/\a<(a1.length:Int)) (Qq4 (H5 (a1.getD a.toNat Qq2)) (fun b=>if b.1=0/\b.2=0 then AO (Bw (a+1)) (some (Sum.inl (a+1))) else Qq4 (DU b.1 a) (fun c=>Qq7 Sum.inr (some ([],(c.1,c.2)))))) else Qq7 Sum.inr ((Gb a0 a1))
def Ic(a0:Int×AjJ)(a1:List Ac3)(s:Int):Option (AjL×(Int×Int)):=Go.L.run (CM a0 a1) s
def Ed(a0:Int×AjJ)(a1:List Ac3):Option (AjL×(Int×Int)):=
 if(a1.length:Int)=0 then Qq4 (DU (10:Int) (-1:Int)) (fun b=>some ([],(b.1,b.2))) else(if 16<(a1.length:Int) then Qq4 (DU (2:Int) (-1:Int)) (fun a=>some ([],(a.1,a.2))) else(Ic a0 a1) (0:Int))
theorem PY(hU:Gj H){a0:Int×AjJ}{a1:List Ac3}{s o:Value}(bx:AH (.pair .st (.vec AjW)) H s (a0.2))(aa:AH .st H o a1){r:AjL×(Int×Int)}(h:Ed a0 a1=some r):
  Qqv 146 [.agg #[No a0.1,s],o] w (fun v w'=>∃ u0,v=.tuple #[u0,.agg #[No r.2.1,No r.2.2]]/\Ck 137 AjW H w w' u0 (r.1)):=by
 refine A1 76 [(0,.agg #[No a0.1,s]),(1,o)] func146 Z fun hL=>Ak<|CB (t:=46) Z Z hL fun w1 b1 dn d8 _=>Aq 1 Z<|AA AG.e Z dn fun w2 b2 ba d9 _=>Ac<|Us<|AD<|Bu 1 Z<|Aj (Bc aa)<|A7 1 Z<|AP h ?_ ?_<;>intro dp h
 ·refine Ak<|Ax h fun x5 dq h=>AF ba (D5 _ _ (Ao ba) dq) fun w6 ey dr ea=>Aq 1 Z<|Ag 0 Z dr Z fun w7 c4 eb=>Ac<|Ay<|Ar<|Gz ?_
  cases h
  refine Bv (.tmp Z) (.cell Z Aji Z AG.e (AK (i:=0) c4 Z)) ⟨c4.ext,_,Z,Ck.nil⟩
 refine Aw<|As<|AD<|Bu 1 Z<|Aj (Bc aa)<|A7 1 Z<|AP h ?_ ?_<;>intro ds h
 ·refine Ak<|Ax h fun ez c5 h=>AF ba (D5 _ _ (Ao ba) c5) fun e0 ec c6 du=>Aq 1 Z<|Ag 0 Z c6 Z fun e1 bz dv=>Ac<|Ay<|Ar<|Gz ?_
  cases h
  refine Bv (.tmp Z) (.cell Z Aji Z AG.e (AK (i:=0) bz Z)) ⟨bz.ext,_,Z,Ck.nil⟩
 refine Aw<|As<|Bt Unit (fun(_:Unit)=>[(1,o),(2,(AaD b1)),(5,(AaD b2))]) (fun(_:Unit) wr=>Bb w [.box b2 [No 0,No 0] 28,.box b1 [No a0.1,s] 46] wr/\(Gb a0 a1)=some r) ?_ ?_
 ·refine Bu 1 Z<|Aj (Bc aa)<|A7 1 Z<|A3 ?_;obtain⟨b0,h⟩:=Ba h;refine B6 (Int×Nat) (fun⟨p,n⟩=>[(1,o),(2,(AaD b1)),(5,(AaD b2)),(22,o),(23,No (a1.length:Int)),(24,No p)]) (fun⟨p,n⟩ wr=>Bb w [.box b2 [No 0,No 0] 28,.box b1 [No a0.1,s] 46] wr/\HG (CM a0 a1) n p=some r) (fun⟨p,n⟩=>n) (0,b0) Z ⟨ba,h⟩ ?_;rintro⟨p,nn71⟩ ed ⟨ax,h⟩;obtain⟨b0,e2,rfl,h,bd⟩:=AY h;refine AJ 1 Z<|AD<|AP h ?_ ?_<;>intro c7 h
  ·refine Aw<|As<|AD<|A3<|Bu 1 Z<|Az h fun b3 h=>Bf aa p.toNat (Gy b3) (AW b3) ?_;rintro e3 _ rfl c8;refine Aj (Bl c8 (hH.trans ax.arg))<|A7 2 Z<|Bu 1 Z<|Ax h fun e4 c9 h=>AF ax (Kc _ _ (Ao ax) (hU.mono  Ah) c9) fun e5 ee da dw=>AA AG.e Z da fun e6 e7 db dx _=>Ag 0 Z db Z fun e8 aq dy=>Ac<|Ak<|Aj (A4 0 Z AG.e aq Z)<|Aj (AT (fun _=>BM _))<|Aj (JO J2 (Nf _ _ _ _))<|Ac<|CP h ?_ ?_<;>intro dc h
   ·refine Ak<|Aj (Ae Z Aji Z CO.e)<|Aj (Af 0 Z aq Z)<|Aq 1 Z<|Ax h fun e9 dd h=>AF aq (D5 _ _ (Ao aq) dd) fun fa ef de dz=>Aq 1 Z<|Ag 1 Z de Z fun fb b4 d0=>Ac<|Ay<|Av<|Ar<|BG ?_;have h:=Cg.out h bd;refine Av<|Bh<|Gz ?_
    cases h
    refine Bv (.tmp Z) (.cell Z Aji Z AG.e (AK (i:=1) b4 Z)) ⟨b4.ext,_,Z,Ck.nil⟩
   refine Aw<|A2<|As<|Au<|Az h fun df h=>Aj (A5 df)<|Aq 1 Z<|AL ?_;have dg:=aq.AS (i:=0) Z;have h:=Cg.again h bd;refine AN (_,_) Z ⟨dg,h⟩
  refine B4<|AE<|A6 ?_;have h:=Cg.out h bd;refine Bi<|A8 () ⟨ax,h⟩
 rintro _ eg ⟨dh,h⟩;refine Bu 1 Z ?_;obtain⟨b5,d1,be⟩:=DS AjW H 137 dh;refine Ac<|AD<|AaW<|As<|Bt (AjL×Value×(List Value)) (fun⟨ar,am,ac⟩=>[(5,(AaD b2)),(9,am)]) (fun⟨ar,am,ac⟩ wr=>Fl w [.row am 137 2 (ar).length ac,.box b2 [No 0,No 0] 28,.box b1 [No a0.1,s] 46] wr fun Oz=>AI AjW (gz H w wr Oz) ar ac/\Ga ar=some r) ?_ ?_
 ·refine Eu (Qqz 0 4 (.q 6 (.h 4 (.q 5 (.tail 7))))) mixed Qqb (fun eh bi=>?_);have ad:=b5.call bi;have b6:=AR b5 bi;refine CF Z (A4 2 Z LD.e ad Z) Z<|D4 1 Z<|Az h fun bj h=>HX Z Z Z AcL aa ((0:Int).toNat) (Gy bj) (AW bj) Z ?_;rintro ei _ rfl ce;refine CF Z (Bl ce (hH.trans ad.arg)) Z<|D4 1 Z<|Ax h fun c cf h=>Ct Z Z Z (fun di an=>Hg _ _ (Ao (ad.call an)) (bx.mono  Ah) cf) ?_;rintro di k ej an ay ⟨_,rfl,bt⟩;have az:=ad.call an;have b7:=AR ad an;have bk:=az.call ay;have b8:=AR az ay;have x:=bt.mono (Er az ay);refine CF Z (Bc x) Z<|BU (fun ek bl=>?_);have cg:=bk.call bl;have bb:=AR bk bl;refine Ac<|A3 ?_;obtain⟨bf,h⟩:=Ba h;have be:=be.mono (Aa (b6.trans (b7.trans (b8.trans bb))));have x:=x.mono (Aa bb)
  refine B6 (AjL×Int×Value×(List Value)×Nat) (fun⟨e,a,f,d,n⟩=>[(1,o),(2,(AaD b1)),(5,(AaD b2)),(9,f),(43,k),(44,No (c.length:Int)),(45,No a)]) (fun⟨e,a,f,d,n⟩ wr=>Fl w [.row f 137 2 (e).length d,.box b2 [No 0,No 0] 28,.box b1 [No a0.1,s] 46] wr fun Oz=>AH AjW (gz H w wr Oz) k c/\AI AjW (gz H w wr Oz) e d/\HG (CL a0 a1 c) n (e,a)=some r) (fun⟨e,a,f,d,n⟩=>n) (([]:List (Int×Int)),0,Aa4,[],bf) Z ⟨cg,x,be,h⟩ ?_;rintro⟨e,a,f,d,nn294⟩ d2 ⟨a2,y,b,h⟩;obtain⟨bf,bg,rfl,h,bm⟩:=AY h;refine AJ 1 Z<|AD<|AP h ?_ ?_<;>intro ch h
  ·refine Aw<|As<|Bt (AjL×Value×(List Value)) (fun⟨ak,ae,u⟩=>[(1,o),(2,(AaD b1)),(5,(AaD b2)),(9,ae),(43,k),(44,No (c.length:Int)),(45,No a)]) (fun⟨ak,ae,u⟩ wr=>Fl w [.row ae 137 2 (ak).length u,.box b2 [No 0,No 0] 28,.box b1 [No a0.1,s] 46] wr fun Oz=>AH AjW (gz H w wr Oz) k c/\AI AjW (gz H w wr Oz) ak u/\(CW a) ak=some bg) ?_ ?_
   ·refine A3<|Ak<|Az h fun bn h=>Bf y a.toNat (Gy bn) (AW bn) ?_;rintro el _ ⟨_,_,rfl,rfl,rfl⟩ ci;refine Aj (Cx ci (Ao a2))<|AA H3.e Z a2 fun em a3 cj au _=>Ag 0 Z cj Z fun en ck av=>Ac<|Bt Unit (fun(_:Unit)=>[(1,o),(2,(AaD b1)),(5,(AaD b2)),(9,f),(11,(AaD a3)),(43,k),(44,No (c.length:Int)),(45,No a)]) (fun(_:Unit) wr=>Fl w [.box a3 [No ((c.getD a.toNat Qq2).1),No ((c.getD a.toNat Qq2).2)] 137,.row f 137 2 (e).length d,.box b2 [No 0,No 0] 28,.box b1 [No a0.1,s] 46] wr fun Oz=>AH AjW (gz H w wr Oz) k c/\AI AjW (gz H w wr Oz) e d/\(E6 e a c)=some bg) ?_ ?_
    ·refine Bu 1 Z<|Aj (Bc aa)<|A7 1 Z<|A3 ?_;obtain⟨bh,h⟩:=Ba h;have y:=y.mono (Aa (au.trans av));have b:=b.mono (Aa (au.trans av));refine B6 (Int×Nat) (fun⟨g,n⟩=>[(1,o),(2,(AaD b1)),(5,(AaD b2)),(9,f),(11,(AaD a3)),(43,k),(44,No (c.length:Int)),(45,No a),(49,o),(50,No (a1.length:Int)),(51,No g)]) (fun⟨g,n⟩ wr=>Fl w [.box a3 [No ((c.getD a.toNat Qq2).1),No ((c.getD a.toNat Qq2).2)] 137,.row f 137 2 (e).length d,.box b2 [No 0,No 0] 28,.box b1 [No a0.1,s] 46] wr fun Oz=>AH AjW (gz H w wr Oz) k c/\AI AjW (gz H w wr Oz) e d/\HG (Cm a0 a1 e a c) n g=some bg) (fun⟨g,n⟩=>n) (0,bh) Z ⟨ck,y,b,h⟩ ?_;rintro⟨g,nn425⟩ d3 ⟨ao,j,b,h⟩;obtain⟨bh,eo,rfl,h,a4⟩:=AY h;refine AJ 1 Z<|AD<|AP h ?_ ?_<;>intro cl h
     ·refine Aw<|As<|AD<|A3<|Bu 1 Z<|Az h fun bo h=>Bf aa g.toNat (Gy bo) (AW bo) ?_;rintro ep _ rfl cm;refine Aj (Bl cm (hH.trans ao.arg))<|A7 2 Z<|Eu (.q 0 (.q 1 (Qqz 3 7 (.h 2 (.q 10 (.q 11 (.tail 12))))))) mixed Qqb (fun eq bp=>?_);have z:=ao.call bp;have af:=AR ao bp;refine CF Z (A4 3 Z LD.e z Z) Z<|D4 1 Z<|CF Z (Ae Z Ajq Z CO.e) Z<|CF Z (Af 0 Z z Z) Z<|CF Z (Ae Z Ajq Z CO.e) Z<|CF Z (Af 0 Z z Z) Z<|D4 1 Z<|Az h fun cn h=>CF Z (A5 cn) Z<|CF Z (AT (fun _=>Vj _ _ _)) Z<|Ax h fun er co h=>Ct Z Z Z (fun dj ap=>Hg _ _ (Ao (z.call ap)) (bx.mono  Ah) co) ?_;rintro dj dt dk ap a5 ⟨_,rfl,bu⟩;have a6:=z.call ap;have ag:=AR z ap;have a7:=a6.call a5;have ah:=AR a6 a5;have bv:=bu.mono (Er a6 a5)
      refine Ax h fun es cp h=>?_;have b9:=(fun(ca:World) (cq:Ext dk ca)=>Ll ca _ (Le.refl _) ((bv.mono (Ao a7)).mono cq.le) cp);refine JN Z Z Z b9<|D4 1 Z<|BU (fun et bq=>?_);have br:=a7.call bq;have ai:=AR a7 bq;refine Ac<|B3 h ?_ ?_<;>intro cr h
      ·refine B4<|Mr<|AE<|A6 ?_;have h:=Cg.out h a4;refine Mr<|Qh<|Bi ?_;have cs:=br.AS (i:=0) Z;have j:=j.mono (Aa (af.trans (ag.trans (ah.trans (ai.trans (Al (i:=0) Z))))));have b:=b.mono (Aa (af.trans (ag.trans (ah.trans (ai.trans (Al (i:=0) Z))))));refine A8 (_,_,_) ⟨cs,j,b,h⟩
      refine Aw<|A2<|As<|Au<|Az h fun ct h=>Aj (A5 ct)<|Aq 1 Z<|AL ?_;have h:=Cg.again h a4;have j:=j.mono (Aa (af.trans (ag.trans (ah.trans ai))));have b:=b.mono (Aa (af.trans (ag.trans (ah.trans ai))));refine AN (_,_) Z ⟨br,j,b,h⟩
     refine B4<|AE<|A6 ?_;have h:=Cg.out h a4;refine Bi<|A8 () ⟨ao,j,b,h⟩
    have b:=b.mono (Aa (au.trans av));rintro _ d4 ⟨bs,al,b,h⟩;refine Au<|Aq 1 Z<|Aj (A4 0 Z H3.e bs Z)<|B7 [((c.getD a.toNat Qq2).1,(c.getD a.toNat Qq2).2)] (r:=AjW) (fun _=>YM _ _ _) bs (.c2 ⟨_,_,Z,Z,Z⟩ .nil) fun eu ev d5 cu bc cv=>Az h fun cw h=>?_;have b:=b.mono (Aa bc);refine By (r:=AjW) 1 e [((c.getD a.toNat Qq2).1,(c.getD a.toNat Qq2).2)] Z Ajo cu Z b cv cw fun dl ew cx cy cb a8=>Aq 1 Z<|AL<|A2 ?_;have cz:=cy.AS (i:=0) Z;have al:=al.mono (Aa (bc.trans (cb.trans (Al (i:=0) Z))));have a8:=a8.mono (Aa (Al (i:=0) Z));refine A8 (_,_,_) ⟨cz,al,a8,h⟩
   rintro⟨ak,ae,u⟩ d6 ⟨c0,bw,cc,h⟩;refine Au<|Az h fun c1 h=>Aj (A5 c1)<|Aq 1 Z<|AL ?_;have h:=Cg.again h bm;refine AN (_,_,_,_,_) Z ⟨c0,bw,cc,h⟩
  refine B4<|AE<|A6 ?_;have h:=Cg.out h bm;refine Bi<|A8 (_,_,_) ⟨a2,b,h⟩
 rintro⟨ar,am,ac⟩ d7 ⟨c3,aw,h⟩;refine Bu 1 Z<|Aj (AT (fun _=>BM _))<|Aq 1 Z<|Ag 1 Z c3 Z fun ex a9 cd=>Ac<|Ay<|Gz ?_
 cases h
 refine Bv (.tmp Z) (.cell Z Aji Z AG.e (AK (i:=1) a9 Z)) ?_;have aw:=aw.mono (Aa cd);exact⟨a9.ext,_,Z,(a9.Ip hH (i:=0) Z aw)⟩
end
def EW(a0:Int×Int)(a1:Int×Int)(a2:Int):Option (Bool×(Int×Int)×Int):=
 AO (Bw (a1.2 - a0.2)) (AO (Bw (a0.2 - a1.2)) (if(a1.1=a0.1)/\(0<(max (a1.2 - a0.2) (a0.2 - a1.2))) then some (decide ((max (a1.2 - a0.2) (a0.2 - a1.2))<=a2),(a1.1,a1.2),a2) else some (false,(a1.1,a1.2),a2)))
theorem PZ{d w:World}{H:PH}(_hH:Le H (hp d)){O:List BS}{a0 a1:Int×Int}{a2:Int}{ba1 ba2:Nat}(hL:Bb d (Ha [.box ba1 [No a1.1,No a1.2] 137,.box ba2 [No a2] 3] O) w){r:Bool×(Int×Int)×Int}(h:EW a0 a1 a2=some r):
  Ok prog 197 [.agg #[No a0.1,No a0.2],AaD ba1,AaD ba2] w (fun v w'=>v=.bool r.1/\Bb d (Ha [.box ba1 [No r.2.1.1,No r.2.1.2] 137,.box ba2 [No r.2.2] 3] O) w'/\Le (fz w (Ha [.box ba1 [No a1.1,No a1.2] 137,.box ba2 [No a2] 3] O)) (fz w' (Ha [.box ba1 [No r.2.1.1,No r.2.1.2] 137,.box ba2 [No r.2.2] 3] O))):=by
 refine Dq (n:=31) [(0,.agg #[No a0.1,No a0.2]),(1,(AaD ba1)),(2,(AaD ba2))] func197 Z Z Z Z ?_;have hT:=Le.refl (fz w (Ha [.box ba1 [No a1.1,No a1.2] 137,.box ba2 [No a2] 3] O));refine Ak<|CB (t:=137) Z Z hL fun k l a c _=>A7 1 Z<|Ak<|Aj (Ae Z Ajq Z CO.e)<|Aj (Af 1 Z a Z)<|Aj (Ae Z Ajq Z CO.e)<|Aj (Af 0 Z a Z)<|Az h fun e h=>Aj (A5 e)<|Aj (Ae Z Ajq Z CO.e)<|Aj (Af 0 Z a Z)<|Aj (Ae Z Ajq Z CO.e)<|Aj (Af 1 Z a Z)<|Az h fun f h=>Aj (A5 f)<|Aj (Adc Z Z)<|A7 1 Z<|Ak<|Aj (Ae Z Ajq Z CO.e)<|Aj (Af 1 Z a Z)<|Aj (Ae Z Ajq Z CO.e)<|Aj (Af 0 Z a Z)<|Aq 2 Z ?_;refine OD 2 5 Z Z Z Z Z Z<|Aq 1 Z<|BT 26 h ?_ ?_<;>intro b h
 ·refine Ab b<|Aj (Ai Z)<|Ab b<|Aj (Af 2 Z a Z)<|Ab b<|Aj (Ai Z)<|Aj (AB b Z)<|A7 1 Z<|Ay ?_
  cases h
  refine Am Z ?_;have g:=a.AS (i:=0) Z;have hT:=hT.trans (c.trans (Al (i:=0) Z));exact⟨Z,g,hT⟩
 iterate 3 refine An b ?_
 refine Aj (AM b Z)<|A7 1 Z<|Ay ?_
 cases h
 refine Am Z ?_;have j:=a.AS (i:=0) Z;have hT:=hT.trans (c.trans (Al (i:=0) Z));exact⟨Z,j,hT⟩
def Cr(a b c:Int):Option (Int×(Int×Int)×Int):=
 some ((-1),(a,b),c)
def Bp(a0:List (Int×Int)):Int×Int×Int×Int->Option ((Int×Int×Int×Int) ⊕ (Int×(Int×Int)×Int)):=fun⟨c,d,e,a⟩=>
 if a<(a0.length:Int) then AO (0<=a/\a<(a0.length:Int)) (Qq4 (EW ((a0.getD a.toNat Qq2).1,(a0.getD a.toNat Qq2).2) (c,d) e) (fun b=>if b.1 then Qq7 Sum.inr (some (a,(b.2.1.1,b.2.1.2),b.2.2)) else AO (Bw (a+1)) (some (Sum.inl (b.2.1.1,b.2.1.2,b.2.2,(a+1)))))) else Qq7 Sum.inr (Cr c d e)
def Dp(a0:List (Int×Int))(s:Int×Int×Int×Int):Option (Int×(Int×Int)×Int):=Go.L.run (Bp a0) s
def CN(a0:List (Int×Int))(a1_c0:Int×Int)(a1_c1:Int):Option (Int×(Int×Int)×Int):=
 (Dp a0) (a1_c0.1,a1_c0.2,a1_c1,0)
theorem KP{g w:World}{H:PH}(hH:Le H (hp g)){O:List BS}{a0:List (Int×Int)}{a1_c0:Int×Int}{a1_c1:Int}{va0:Value}{ba1_c0 ba1_c1:Nat}(hL:Bb g (Ha [.box ba1_c0 [No a1_c0.1,No a1_c0.2] 137,.box ba1_c1 [No a1_c1] 3] O) w)(t:AH AjW (gz H g w (Ha [.box ba1_c0 [No a1_c0.1,No a1_c0.2] 137,.box ba1_c1 [No a1_c1] 3] O)) va0 a0){r:Int×(Int×Int)×Int}(h:CN a0 a1_c0 a1_c1=some r):
  Ok prog 254 [va0,.func (.func 197) #[] #[AaD ba1_c0,AaD ba1_c1]] w (fun v w'=>v=No r.1/\Bb g (Ha [.box ba1_c0 [No r.2.1.1,No r.2.1.2] 137,.box ba1_c1 [No r.2.2] 3] O) w'/\Le (fz w (Ha [.box ba1_c0 [No a1_c0.1,No a1_c0.2] 137,.box ba1_c1 [No a1_c1] 3] O)) (fz w' (Ha [.box ba1_c0 [No r.2.1.1,No r.2.1.2] 137,.box ba1_c1 [No r.2.2] 3] O))):=by
 refine Dq (n:=19) [(0,va0),(1,.func (.func 197) #[] #[AaD ba1_c0,AaD ba1_c1])] func254 Z Z Z Z ?_;have hT:=Le.refl (fz w (Ha [.box ba1_c0 [No a1_c0.1,No a1_c0.2] 137,.box ba1_c1 [No a1_c1] 3] O));refine AJ 1 Z<|Bt (Int×Int×Int) (fun⟨k,l,m⟩=>[]) (fun⟨k,l,m⟩ wr=>Fl g (Ha [.box ba1_c0 [No k,No l] 137,.box ba1_c1 [No m] 3] O) wr fun Oz=>Le (fz w (Ha [.box ba1_c0 [No a1_c0.1,No a1_c0.2] 137,.box ba1_c1 [No a1_c1] 3] O)) (fz wr Oz)/\Cr k l m=some r) ?_ ?_
 ·refine Bu 1 Z<|Aj (Bc t)<|A7 1 Z<|A3 ?_;obtain⟨o,h⟩:=Ba h;refine B6 (Int×Int×Int×Int×Nat) (fun⟨c,d,e,a,n⟩=>[(0,va0),(1,.func (.func 197) #[] #[AaD ba1_c0,AaD ba1_c1]),(7,No (a0.length:Int)),(8,No a)]) (fun⟨c,d,e,a,n⟩ wr=>Fl g (Ha [.box ba1_c0 [No c,No d] 137,.box ba1_c1 [No e] 3] O) wr fun Oz=>AH AjW (gz H g wr Oz) va0 a0/\Le (fz w (Ha [.box ba1_c0 [No a1_c0.1,No a1_c0.2] 137,.box ba1_c1 [No a1_c1] 3] O)) (fz wr Oz)/\HG (Bp a0) n (c,d,e,a)=some r) (fun⟨c,d,e,a,n⟩=>n) (a1_c0.1,a1_c0.2,a1_c1,0,o) Z ⟨hL,t,hT,h⟩ ?_;rintro⟨c,d,e,a,nn51⟩ ac ⟨i,b,hT,h⟩;obtain⟨o,ae,rfl,h,j⟩:=AY h;refine AJ 1 Z<|AD<|AP h ?_ ?_<;>intro u h
  ·refine Aw<|As<|AD<|A3<|AJ 2 Z<|Bu 3 Z<|Az h fun p h=>Bf b a.toNat (Gy p) (AW p) ?_;rintro af _ ⟨_,_,rfl,rfl,rfl⟩ x;refine Aj (Cx x (Ao i))<|Ax h fun q y h=>Fk Z Z (PZ (a0:=((a0.getD a.toNat Qq2).1,(a0.getD a.toNat Qq2).2)) (a1:=(c,d)) (a2:=e) (O:=(Ha [] O)) hH i y) ?_;rintro _ ag ⟨rfl,s,f⟩;refine Ac<|B3 h ?_ ?_<;>intro z h
   ·refine AJ 2 Z<|Ay<|Av<|Ar<|BG ?_;have h:=Cg.out h j;refine Av<|Bh ?_
    cases h
    refine Am Z ?_;have hT:=hT.trans f;exact⟨Z,s,hT⟩
   refine Aw<|A2<|As<|Au<|Az h fun aa h=>Aj (A5 aa)<|Aq 1 Z<|AL ?_;have h:=Cg.again h j;have b:=b.mono (Aa f);have hT:=hT.trans f;refine AN (_,_,_,_,_) Z ⟨s,b,hT,h⟩
  refine B4<|AE<|A6 ?_;have h:=Cg.out h j;refine Bi<|A8 (_,_,_) ⟨i,hT,h⟩
 rintro⟨k,l,m⟩ ad ⟨ab,hT,h⟩;refine AJ 1 Z<|Ay ?_
 cases h
 refine Am Z ⟨Z,ab,hT⟩
def BI(a0:List (Int×Int))(a1_c0:Int×Int)(a1_c1:Int):Option (Bool×(Int×Int)×Int):=
 Qq4 (CN a0 (a1_c0.1,a1_c0.2) a1_c1) (fun a=>some (decide (0<=a.1),(a.2.1.1,a.2.1.2),a.2.2))
theorem Kf{a w:World}{H:PH}(hH:Le H (hp a)){O:List BS}{a0:List (Int×Int)}{a1_c0:Int×Int}{a1_c1:Int}{va0:Value}{ba1_c0 ba1_c1:Nat}(hL:Bb a (Ha [.box ba1_c0 [No a1_c0.1,No a1_c0.2] 137,.box ba1_c1 [No a1_c1] 3] O) w)(c:AH AjW (gz H a w (Ha [.box ba1_c0 [No a1_c0.1,No a1_c0.2] 137,.box ba1_c1 [No a1_c1] 3] O)) va0 a0){r:Bool×(Int×Int)×Int}(h:BI a0 a1_c0 a1_c1=some r):
  Ok prog 196 [va0,.func (.func 197) #[] #[AaD ba1_c0,AaD ba1_c1]] w (fun v w'=>v=.bool r.1/\Bb a (Ha [.box ba1_c0 [No r.2.1.1,No r.2.1.2] 137,.box ba1_c1 [No r.2.2] 3] O) w'/\Le (fz w (Ha [.box ba1_c0 [No a1_c0.1,No a1_c0.2] 137,.box ba1_c1 [No a1_c1] 3] O)) (fz w' (Ha [.box ba1_c0 [No r.2.1.1,No r.2.1.2] 137,.box ba1_c1 [No r.2.2] 3] O))):=by
 refine Dq (n:=9) [(0,va0),(1,.func (.func 197) #[] #[AaD ba1_c0,AaD ba1_c1])] func196 Z Z Z Z ?_;have hT:=Le.refl (fz w (Ha [.box ba1_c0 [No a1_c0.1,No a1_c0.2] 137,.box ba1_c1 [No a1_c1] 3] O));refine AJ 1 Z<|Bu 2 Z<|Ax h fun f d h=>EP (KP (a0:=a0) (a1_c0:=(a1_c0.1,a1_c0.2)) (a1_c1:=a1_c1) (O:=(Ha [] O)) hH hL c d) ?_;rintro _ g ⟨rfl,e,b⟩;refine A7 2 Z<|Ay ?_
 cases h
 refine Am Z ?_;have hT:=hT.trans b;exact⟨Z,e,hT⟩
def Hh(a:List Int)(_c100:Int):Option AjQ:=
 some (a,(0,0))
def Du(a0:Int×AjJ)(a2:Ac3)(d:AjL):(List Int)×Int×Int->Option (AjT ⊕ AjQ):=fun⟨c,e,a⟩=>
 if a<(d.length:Int) then AO (0<=a/\a<(d.length:Int)) (Qq4 (DD (a0.1,a0.2) a2) (fun f=>Qq4 (BI f ((d.getD a.toNat Qq2).1,(d.getD a.toNat Qq2).2) e) (fun b=>if b.1 then Qq4 (BD c b.2.1.1) (fun g=>if !g then AO (Go.E.Io 8 (c.length+([b.2.1.1]).length)) (AO (Bw (a+1)) (some (Sum.inl ((c++[b.2.1.1]),b.2.2,(a+1))))) else AO (Bw (a+1)) (some (Sum.inl (c,b.2.2,(a+1))))) else AO (Bw (a+1)) (some (Sum.inl (c,b.2.2,(a+1))))))) else Qq7 Sum.inr (Hh c e)
def K4(a0:Int×AjJ)(a2:Ac3)(a:AjL)(s:(List Int)×Int×Int):Option AjQ:=Go.L.run (Du a0 a2 a) s
def Ff(a0:Int×AjJ)(a1:Ac3)(a2:Ac3)(a3:Int):Option AjQ:=
 Qq4 (H5 a1) (fun b=>if b.1=0/\b.2=0 then Qq4 (H5 a2) (fun a=>if a.1=0/\a.2=0 then(if a3<1 then Qq4 (DU (4:Int) (-3:Int)) (fun c=>some ([],(c.1,c.2))) else if 2048<a3 then Qq4 (DU (4:Int) (-3:Int)) (fun d=>some ([],(d.1,d.2))) else Qq4 (DD (a0.1,a0.2) a1) (fun f=>(K4 a0 a2 f) (([]:List Int),a3,0))) else Qq4 (DU a.1 (-2:Int)) (fun e=>some ([],(e.1,e.2)))) else some ([],(b.1,b.2)))
section
variable(w:World)(H:PH)(hH:Le H (hp w)) include hH
theorem Rs(hU:Gj H){a0:Int×AjJ}{a1 a2:Ac3}{a3:Int}{k:Value}(bw:AH (.pair .st (.vec AjW)) H k (a0.2)){r:(List Int)×(Int×Int)}(h:Ff a0 a1 a2 a3=some r):
  Qqv 147 [.agg #[No a0.1,k],Ab5 a1,Ab5 a2,No a3] w (fun v w'=>∃ u0,v=.tuple #[u0,.agg #[No r.2.1,No r.2.2]]/\Ck 3 (.int .i64) H w w' u0 (r.1)):=by
 refine A1 66 [(0,.agg #[No a0.1,k]),(1,(Ab5 a1)),(2,(Ab5 a2)),(3,No a3)] func147 Z fun hL=>Ak<|CB (t:=46) Z Z hL fun w1 b1 dg d3 _=>Qs (t:=3) Z Z dg fun w2 b2 dh d4 _=>Aq 1 Z<|AA AG.e Z dh fun w3 b3 cw d5 _=>Ac<|AD<|Bu 1 Z<|Ax h fun s di h=>AF cw (Kc _ _ (Ao cw) (hU.mono  Ah) di) fun w5 em dj d6=>AA AG.e Z dj fun w6 b6 dk d7 _=>Ag 0 Z dk Z fun w7 bk d8=>Ac<|Ak<|Aj (A4 0 Z AG.e bk Z)<|Aj (AT (fun _=>BM _))<|Aj (JO J2 (Nf _ _ _ _))<|Ac<|CP h ?_ ?_<;>intro dl h
 ·refine Eu (.q 0 (.q 1 (.tail 2))) mixed Qqb (fun en cx=>?_);have bx:=bk.call cx;refine CF Z (A4 0 Z AG.e bx Z) Z<|D4 1 Z<|BU (fun eo cy=>?_);have cz:=bx.call cy;refine Ag 1 Z cz Z fun ep bz dn=>Ac<|Ay<|Ar ?_
  cases h
  refine Bv (.tmp Z) (.cell Z Aji Z AG.e (AK (i:=1) bz Z)) ⟨bz.ext,_,Z,Ck.nil⟩
 refine Aw<|As<|AD<|Bu 1 Z<|Ax h fun g c0 h=>AF bk (Kc _ _ (Ao bk) (hU.mono  Ah) c0) fun eq d9 c2 dp=>AA AG.e Z c2 fun er ac c3 dq _=>Ag 0 Z c3 Z fun es p dr=>Ac<|Ak<|Aj (A4 0 Z AG.e p Z)<|Aj (AT (fun _=>BM _))<|Aj (JO J2 (Nf _ _ _ _))<|Ac<|CP h ?_ ?_<;>intro c4 h
 ·refine Ak<|Aj (Ae Z Aji Z CO.e)<|Aj (Af 0 Z p Z)<|Ax h fun et c5 h=>AF p (D5 _ _ (Ao p) c5) fun eu ea c6 ds=>Aq 1 Z<|Ag 2 Z c6 Z fun ev b0 dt=>Ac<|Ay<|Ar ?_
  cases h
  refine Bv (.tmp Z) (.cell Z Aji Z AG.e (AK (i:=2) b0 Z)) ⟨b0.ext,_,Z,Ck.nil⟩
 refine Aw<|As<|AD<|Ak<|Aj (Af 3 Z p Z)<|Aq 2 Z<|BT 32 h ?_ ?_<;>intro af h
 ·iterate 2 refine An af ?_
  refine Aj (AB af Z)<|Ac<|EO<|Ak<|Ax h fun ew c7 h=>AF p (D5 _ _ (Ao p) c7) fun ex eb c8 du=>Aq 1 Z<|Ag 2 Z c8 Z fun ey b4 dv=>Ac<|Ay<|Ar ?_
  cases h
  refine Bv (.tmp Z) (.cell Z Aji Z AG.e (AK (i:=2) b4 Z)) ⟨b4.ext,_,Z,Ck.nil⟩
 refine Ab af<|Aj (Af 3 Z p Z)<|Ab af<|Aj (Ai Z)<|Aj (AM af Z)<|Ac<|AP h ?_ ?_<;>intro c9 h
 ·refine Ak<|Ax h fun ez da h=>AF p (D5 _ _ (Ao p) da) fun e0 ec db dw=>Aq 1 Z<|Ag 2 Z db Z fun e1 b5 dx=>Ac<|Ay<|Ar ?_
  cases h
  refine Bv (.tmp Z) (.cell Z Aji Z AG.e (AK (i:=2) b5 Z)) ⟨b5.ext,_,Z,Ck.nil⟩
 refine Aw<|As<|Bu 1 Z ?_;obtain⟨ar,dy,bi⟩:=DS (.int .i64) H 3 p;refine Ac<|Bt ((List Int)×Int×Value×(List Value)) (fun⟨a9,au,av,ai⟩=>[(9,(AaD b3)),(12,av)]) (fun⟨a9,au,av,ai⟩ wr=>Fl w [.row av 3 1 (a9).length ai,.box ac [No g.1,No g.2] 28,.box b6 [No s.1,No s.2] 28,.box b3 [No 0,No 0] 28,.box b2 [No au] 3,.box b1 [No a0.1,k] 46] wr fun Oz=>AI (.int .i64) (gz H w wr Oz) a9 ai/\Hh a9 au=some r) ?_ ?_
 ·refine Ak<|Aj (A4 5 Z LD.e ar Z)<|Aq 1 Z<|Ax h fun ad cd h=>Bk ar (Hg (a0:=(a0.1,a0.2)) _ _ (Ao ar) (bw.mono  Ah) cd) ?_;rintro ba ed ⟨_,rfl,bu⟩ ce cf b7;have aq:=bu.mono (Er ar ce);refine Aj (Bc aq)<|A7 1 Z<|A3 ?_;obtain⟨an,h⟩:=Ba h;have bi:=bi.mono (Aa b7)
  refine B6 ((List Int)×Int×Int×Value×(List Value)×Nat) (fun⟨d,x,a,f,b,n⟩=>[(2,(Ab5 a2)),(4,(AaD b1)),(7,(AaD b2)),(9,(AaD b3)),(12,f),(39,ba),(40,No (ad.length:Int)),(41,No a)]) (fun⟨d,x,a,f,b,n⟩ wr=>Fl w [.row f 3 1 (d).length b,.box ac [No g.1,No g.2] 28,.box b6 [No s.1,No s.2] 28,.box b3 [No 0,No 0] 28,.box b2 [No x] 3,.box b1 [No a0.1,k] 46] wr fun Oz=>AH AjW (gz H w wr Oz) ba ad/\AI (.int .i64) (gz H w wr Oz) d b/\HG (Du a0 a2 ad) n (d,x,a)=some r) (fun⟨d,x,a,f,b,n⟩=>n) (([]:List Int),a3,0,Aa4,[],an) Z ⟨cf,aq,bi,h⟩ ?_;rintro⟨d,x,a,f,b,nn135⟩ dz ⟨aw,e,c,h⟩;obtain⟨an,ee,rfl,h,aj⟩:=AY h;refine AJ 1 Z<|AD<|AP h ?_ ?_<;>intro cg h
  ·refine Aw<|As<|AD<|A3<|Ak<|Az h fun bl h=>Bf e a.toNat (Gy bl) (AW bl) ?_;rintro ef _ ⟨_,_,rfl,rfl,rfl⟩ ch;refine Aj (Cx ch (Ao aw))<|AA H3.e Z aw fun eg dc ci y _=>Ag 0 Z ci Z fun eh ak z=>Ac<|Ak<|Aj (A4 6 Z LD.e ak Z)<|Aq 1 Z<|Ax h fun dd cj h=>Bk ak (Hg (a0:=(a0.1,a0.2)) _ _ (Ao ak) (bw.mono  Ah) cj) ?_;rintro dm de ⟨_,rfl,bv⟩ ck bm aa;have ag:=bv.mono (Er ak ck);refine Aq 1 Z ?_;have bn:Bb w [.box dc [No ((ad.getD a.toNat Qq2).1),No ((ad.getD a.toNat Qq2).2)] 137,.box b2 [No x] 3,.row f 3 1 (d).length b,.box ac [No g.1,No g.2] 28,.box b6 [No s.1,No s.2] 28,.box b3 [No 0,No 0] 28,.box b1 [No a0.1,k] 46] de:=bm.C0 [5,1] Z;have u:=B2 [5,1] bm bn Z;refine Ax h fun j cl h=>?_;have ag:=ag.mono (Aa u)
   refine EP (Kf (a0:=dd) (a1_c0:=((ad.getD a.toNat Qq2).1,(ad.getD a.toNat Qq2).2)) (a1_c1:=x) (O:=[.row f 3 1 (d).length b,.box ac [No g.1,No g.2] 28,.box b6 [No s.1,No s.2] 28,.box b3 [No 0,No 0] 28,.box b1 [No a0.1,k] 46]) hH bn ag cl) ?_;rintro _ b8 ⟨rfl,al,ab⟩;refine A7 1 Z<|Bu 2 Z<|ED 51 h ?_ ?_<;>intro o h
   ·refine Ab o<|Aj (Ai Z)<|Ab o<|Aj (Ae Z Ajq Z CO.e)<|Ab o<|Aj (Af 0 Z al Z)<|Ab o<|Ax h fun ei cm h=>?_;have c:=c.mono (Aa (y.trans (z.trans (aa.trans (u.trans ab)))));refine AF al (HN _ _ (Le.refl _) (al.RJ hH (i:=2) Z c) cm) fun b9 d0 ax ae=>Ab o<|Aj (Ai Z)<|Aj (AB o Z)<|Ac<|B3 h ?_ ?_<;>intro cn h
    ·refine Au<|Aq 1 Z<|Aj (Ae Z Ajq Z CO.e)<|Aj (Af 0 Z ax Z)<|B7 [j.2.1.1] (r:=(.int .i64)) (fun _=>Jp _ _) ax (.c1 Z .nil) fun ej ek d1 co bb cp=>Az h fun cq h=>?_;have c:=c.mono (Aa (ae.trans bb));refine By (r:=(.int .i64)) 2 d [j.2.1.1] Z Ahy co Z c cp cq fun bj ca ay cr cb az=>Aq 1 Z<|AL<|A2<|As<|Au<|Az h fun cs h=>Aj (A5 cs)<|Aq 1 Z<|AL ?_;have bo:=cr.AS (i:=0) Z;have a4:Bb w [.box b6 [No s.1,No s.2] 28,.box b3 [No 0,No 0] 28,.box b2 [No j.2.2] 3,.row bj 3 1 ((d++[j.2.1.1])).length ay,.box ac [No g.1,No g.2] 28,.box b1 [No a0.1,k] 46] ca:=bo.C0 [4,4] Z;have bc:=B2 [4,4] bo a4 Z
     have bp:Bb w [.row bj 3 1 ((d++[j.2.1.1])).length ay,.box ac [No g.1,No g.2] 28,.box b6 [No s.1,No s.2] 28,.box b3 [No 0,No 0] 28,.box b2 [No j.2.2] 3,.box b1 [No a0.1,k] 46] ca:=a4.C0 [4,4] Z;have bd:=B2 [4,4] a4 bp Z;have h:=Cg.again h aj;have e:=e.mono (Aa (y.trans (z.trans (aa.trans (u.trans (ab.trans (ae.trans (bb.trans (cb.trans ((Al (i:=0) Z).trans (bc.trans bd)))))))))));have az:=az.mono (Aa ((Al (i:=0) Z).trans (bc.trans bd)));refine AN ((d++[j.2.1.1]),j.2.2,(a+1),bj,ay,an) Z ⟨bp,e,az,h⟩
    refine Aw<|A2<|As<|Au<|Az h fun ct h=>Aj (A5 ct)<|Aq 1 Z<|AL ?_;have bq:=ax.AS (i:=0) Z;have a5:Bb w [.box b6 [No s.1,No s.2] 28,.box b3 [No 0,No 0] 28,.box b2 [No j.2.2] 3,.row f 3 1 (d).length b,.box ac [No g.1,No g.2] 28,.box b1 [No a0.1,k] 46] b9:=bq.C0 [4,4] Z;have be:=B2 [4,4] bq a5 Z;have br:Bb w [.row f 3 1 (d).length b,.box ac [No g.1,No g.2] 28,.box b6 [No s.1,No s.2] 28,.box b3 [No 0,No 0] 28,.box b2 [No j.2.2] 3,.box b1 [No a0.1,k] 46] b9:=a5.C0 [4,4] Z;have bf:=B2 [4,4] a5 br Z;have h:=Cg.again h aj;have e:=e.mono (Aa (y.trans (z.trans (aa.trans (u.trans (ab.trans (ae.trans ((Al (i:=0) Z).trans (be.trans bf)))))))));have c:=c.mono (Aa (ae.trans ((Al (i:=0) Z).trans (be.trans bf))));refine AN (d,j.2.2,(a+1),f,b,an) Z ⟨br,e,c,h⟩
   iterate 5 refine An o ?_
   refine Aj (AM o Z)<|Ac<|Gx<|Aw<|A2<|As<|Au<|Az h fun cu h=>Aj (A5 cu)<|Aq 1 Z<|AL ?_;have bs:=al.AS (i:=0) Z;have a6:Bb w [.box b6 [No s.1,No s.2] 28,.box b3 [No 0,No 0] 28,.box b2 [No j.2.2] 3,.row f 3 1 (d).length b,.box ac [No g.1,No g.2] 28,.box b1 [No a0.1,k] 46] b8:=bs.C0 [4,4] Z;have bg:=B2 [4,4] bs a6 Z;have bt:Bb w [.row f 3 1 (d).length b,.box ac [No g.1,No g.2] 28,.box b6 [No s.1,No s.2] 28,.box b3 [No 0,No 0] 28,.box b2 [No j.2.2] 3,.box b1 [No a0.1,k] 46] b8:=a6.C0 [4,4] Z;have bh:=B2 [4,4] a6 bt Z;have h:=Cg.again h aj;have e:=e.mono (Aa (y.trans (z.trans (aa.trans (u.trans (ab.trans ((Al (i:=0) Z).trans (bg.trans bh))))))));have c:=c.mono (Aa (y.trans (z.trans (aa.trans (u.trans (ab.trans ((Al (i:=0) Z).trans (bg.trans bh))))))))
   refine AN (d,j.2.2,(a+1),f,b,an) Z ⟨bt,e,c,h⟩
  refine B4<|AE<|A6 ?_;have h:=Cg.out h aj;refine Bi<|A8 (_,_,_,_) ⟨aw,c,h⟩
 rintro⟨a9,au,av,ai⟩ d2 ⟨cv,a7,h⟩;refine Bu 1 Z<|Aj (AT (fun _=>BM _))<|Aq 1 Z<|Ag 3 Z cv Z fun el a8 cc=>Ac<|Ay ?_
 cases h
 refine Bv (.tmp Z) (.cell Z Aji Z AG.e (AK (i:=3) a8 Z)) ?_;have a7:=a7.mono (Aa cc);exact⟨a8.ext,_,Z,(a8.Ip hH (i:=0) Z a7)⟩
def Cz(a0 a1:Int):Option ((Int×Int)):=
 some ((a0,a1))
theorem Da{a0 a1:Int}{r:(Int×Int)}(h:Cz a0 a1=some r):
  Qqv 34 [No a0,No a1] w (fun v w'=>v=.agg #[No r.1,No r.2]):=by
 refine A1 8 [(0,No a0),(1,No a1)] func34 Z fun hL=>Ak<|AA AG.e Z hL fun e f b c _=>Ac<|Bu 2 Z<|Aj (AT (fun _=>My _ _ _))<|Ag 0 Z b Z fun g a d=>Ac<|Ay ?_
 cases h
 refine Dy (.cell Z Aji Z AG.e (AK (i:=0) a Z)) ⟨a.ext,Z⟩
def IG(a0:Int):Option Bool:=
 some (decide ((1<=a0)/\(a0<=7)))
theorem M6{a0:Int}{r:Bool}(h:IG a0=some r):
  Qqv 90 [No a0] w (fun v w'=>v=.bool r):=by
 refine A1 9 [(0,No a0)] func90 Z fun hL=>AJ 1 Z<|Bu 3 Z<|OD 2 2 Z Z Z Z Z Z<|A7 1 Z<|Ay ?_
 cases h
 refine Am Z ⟨hL.ext,Z⟩
end
def J5(a0:Qv)(a1:Qv):Option (Bool×Qv):=
 some (decide (a0.f.1=a1.f.1),a1)
theorem RQ{a w:World}{H:PH}(hH:Le H (hp a)){O:List BS}{a0 a1:Qv}{va0_1 va0_3 va0_6:Value}{ba1:Nat}{va1_1 va1_3 va1_6:Value}(hL:Bb a (Ha [.box ba1 [No a1.f.1,va1_1,Ab5 a1.f.2.2.1,va1_3,No a1.f.2.2.2.2.1,No a1.f.2.2.2.2.2.1,va1_6] 26] O) w)(_ha0_1:AH .st (gz H a w (Ha [.box ba1 [No a1.f.1,va1_1,Ab5 a1.f.2.2.1,va1_3,No a1.f.2.2.2.2.1,No a1.f.2.2.2.2.2.1,va1_6] 26] O)) va0_1 (a0.f.2.1))(_ha0_3:AH .byte (gz H a w (Ha [.box ba1 [No a1.f.1,va1_1,Ab5 a1.f.2.2.1,va1_3,No a1.f.2.2.2.2.1,No a1.f.2.2.2.2.2.1,va1_6] 26] O)) va0_3 (a0.f.2.2.2.1))(_ha0_6:AH .B1 (gz H a w (Ha [.box ba1 [No a1.f.1,va1_1,Ab5 a1.f.2.2.1,va1_3,No a1.f.2.2.2.2.1,No a1.f.2.2.2.2.2.1,va1_6] 26] O)) va0_6 (a0.f.2.2.2.2.2.2))(k:AH .st (gz H a w (Ha [.box ba1 [No a1.f.1,va1_1,Ab5 a1.f.2.2.1,va1_3,No a1.f.2.2.2.2.1,No a1.f.2.2.2.2.2.1,va1_6] 26] O)) va1_1 (a1.f.2.1))(l:AH .byte (gz H a w (Ha [.box ba1 [No a1.f.1,va1_1,Ab5 a1.f.2.2.1,va1_3,No a1.f.2.2.2.2.1,No a1.f.2.2.2.2.2.1,va1_6] 26] O)) va1_3 (a1.f.2.2.2.1))(m:AH .B1 (gz H a w (Ha [.box ba1 [No a1.f.1,va1_1,Ab5 a1.f.2.2.1,va1_3,No a1.f.2.2.2.2.1,No a1.f.2.2.2.2.2.1,va1_6] 26] O)) va1_6 (a1.f.2.2.2.2.2.2)){r:Bool×Qv}(h:J5 a0 a1=some r):
  Ok prog 156 [.agg #[No a0.f.1,va0_1,Ab5 a0.f.2.2.1,va0_3,No a0.f.2.2.2.2.1,No a0.f.2.2.2.2.2.1,va0_6],AaD ba1] w (fun v w'=>∃ (c:Value) (d:Value) (e:Value),v=.bool r.1/\Bb a (Ha [.box ba1 [No r.2.f.1,c,Ab5 r.2.f.2.2.1,d,No r.2.f.2.2.2.2.1,No r.2.f.2.2.2.2.2.1,e] 26] O) w'/\Le (fz w (Ha [.box ba1 [No a1.f.1,va1_1,Ab5 a1.f.2.2.1,va1_3,No a1.f.2.2.2.2.1,No a1.f.2.2.2.2.2.1,va1_6] 26] O)) (fz w' (Ha [.box ba1 [No r.2.f.1,c,Ab5 r.2.f.2.2.1,d,No r.2.f.2.2.2.2.1,No r.2.f.2.2.2.2.2.1,e] 26] O))/\AH .st (gz H a w' (Ha [.box ba1 [No r.2.f.1,c,Ab5 r.2.f.2.2.1,d,No r.2.f.2.2.2.2.1,No r.2.f.2.2.2.2.2.1,e] 26] O)) c (r.2.f.2.1)/\AH .byte (gz H a w' (Ha [.box ba1 [No r.2.f.1,c,Ab5 r.2.f.2.2.1,d,No r.2.f.2.2.2.2.1,No r.2.f.2.2.2.2.2.1,e] 26] O)) d (r.2.f.2.2.2.1)/\AH .B1 (gz H a w' (Ha [.box ba1 [No r.2.f.1,c,Ab5 r.2.f.2.2.1,d,No r.2.f.2.2.2.2.1,No r.2.f.2.2.2.2.2.1,e] 26] O)) e (r.2.f.2.2.2.2.2.2)):=by
 refine Dq (n:=9) [(0,.agg #[No a0.f.1,va0_1,Ab5 a0.f.2.2.1,va0_3,No a0.f.2.2.2.2.1,No a0.f.2.2.2.2.2.1,va0_6]),(1,(AaD ba1))] func156 Z Z Z Z ?_;have hT:=Le.refl (fz w (Ha [.box ba1 [No a1.f.1,va1_1,Ab5 a1.f.2.2.1,va1_3,No a1.f.2.2.2.2.1,No a1.f.2.2.2.2.2.1,va1_6] 26] O));have b:=hL.rG H;refine Ak<|CB (t:=26) Z Z hL fun p q g j _=>A7 1 Z<|Ak<|Aj (Ae Z Ajm Z CO.e)<|Aj (Af 0 Z g Z)<|Aj (Ae Z Ajm Z CO.e)<|Aj (Af 1 Z g Z)<|A7 2 Z<|Ay ?_
 cases h
 refine Am Z ?_;have o:=g.AS (i:=0) Z;have b:=b.trans (Aa (j.trans (Al (i:=0) Z)));have hT:=hT.trans (j.trans (Al (i:=0) Z));exact⟨va1_1,va1_3,va1_6,Z,o,hT,(k.mono b),(l.mono b),(m.mono b)⟩
def C8(a:Int)(b:List Ac3)(c:Ac3)(d:Ac3)(e f:Int)(g:List Qv):Option (Int×Qv):=
 some ((-1),(Qv.mk a b c d e f g))
def Bj(a0:List Qv):Int×(List Ac3)×Ac3×Ac3×Int×Int×(List Qv)×Int->Option ((Int×(List Ac3)×Ac3×Ac3×Int×Int×(List Qv)×Int) ⊕ (Int×Qv)):=fun⟨c,d,e,g,h,i,j,a⟩=>
 if a<(a0.length:Int) then AO (0<=a/\a<(a0.length:Int)) (Qq4 (J5 (a0.getD a.toNat Qq2) (Qv.mk c d e g h i j)) (fun b=>if b.1 then Qq7 Sum.inr (some (a,b.2)) else AO (Bw (a+1)) (some (Sum.inl (b.2.f.1,b.2.f.2.1,b.2.f.2.2.1,b.2.f.2.2.2.1,b.2.f.2.2.2.2.1,b.2.f.2.2.2.2.2.1,b.2.f.2.2.2.2.2.2,(a+1)))))) else Qq7 Sum.inr (C8 c d e g h i j)
def C9(a0:List Qv)(s:Int×(List Ac3)×Ac3×Ac3×Int×Int×(List Qv)×Int):Option (Int×Qv):=Go.L.run (Bj a0) s
def Ci(a0:List Qv)(a1_c0:Qv):Option (Int×Qv):=
 (C9 a0) (a1_c0.f.1,a1_c0.f.2.1,a1_c0.f.2.2.1,a1_c0.f.2.2.2.1,a1_c0.f.2.2.2.2.1,a1_c0.f.2.2.2.2.2.1,a1_c0.f.2.2.2.2.2.2,0)
theorem JL{c w:World}{H:PH}(hH:Le H (hp c)){O:List BS}{a0:List Qv}{a1_c0:Qv}{va0:Value}{ba1_c0:Nat}{va1_c0_1 va1_c0_3 va1_c0_6:Value}(hL:Bb c (Ha [.box ba1_c0 [No a1_c0.f.1,va1_c0_1,Ab5 a1_c0.f.2.2.1,va1_c0_3,No a1_c0.f.2.2.2.2.1,No a1_c0.f.2.2.2.2.2.1,va1_c0_6] 26] O) w)(a9:AH .B1 (gz H c w (Ha [.box ba1_c0 [No a1_c0.f.1,va1_c0_1,Ab5 a1_c0.f.2.2.1,va1_c0_3,No a1_c0.f.2.2.2.2.1,No a1_c0.f.2.2.2.2.2.1,va1_c0_6] 26] O)) va0 a0)(ha1_c0_1:AH .st (gz H c w (Ha [.box ba1_c0 [No a1_c0.f.1,va1_c0_1,Ab5 a1_c0.f.2.2.1,va1_c0_3,No a1_c0.f.2.2.2.2.1,No a1_c0.f.2.2.2.2.2.1,va1_c0_6] 26] O)) va1_c0_1 (a1_c0.f.2.1))(ha1_c0_3:AH .byte (gz H c w (Ha [.box ba1_c0 [No a1_c0.f.1,va1_c0_1,Ab5 a1_c0.f.2.2.1,va1_c0_3,No a1_c0.f.2.2.2.2.1,No a1_c0.f.2.2.2.2.2.1,va1_c0_6] 26] O)) va1_c0_3 (a1_c0.f.2.2.2.1))(ha1_c0_6:AH .B1 (gz H c w (Ha [.box ba1_c0 [No a1_c0.f.1,va1_c0_1,Ab5 a1_c0.f.2.2.1,va1_c0_3,No a1_c0.f.2.2.2.2.1,No a1_c0.f.2.2.2.2.2.1,va1_c0_6] 26] O)) va1_c0_6 (a1_c0.f.2.2.2.2.2.2)){r:Int×Qv}(h:Ci a0 a1_c0=some r):
  Ok prog 204 [va0,.func (.func 156) #[] #[AaD ba1_c0]] w (fun v w'=>∃ (u2:Value) (u4:Value) (u7:Value),v=No r.1/\Bb c (Ha [.box ba1_c0 [No r.2.f.1,u2,Ab5 r.2.f.2.2.1,u4,No r.2.f.2.2.2.2.1,No r.2.f.2.2.2.2.2.1,u7] 26] O) w'/\Le (fz w (Ha [.box ba1_c0 [No a1_c0.f.1,va1_c0_1,Ab5 a1_c0.f.2.2.1,va1_c0_3,No a1_c0.f.2.2.2.2.1,No a1_c0.f.2.2.2.2.2.1,va1_c0_6] 26] O)) (fz w' (Ha [.box ba1_c0 [No r.2.f.1,u2,Ab5 r.2.f.2.2.1,u4,No r.2.f.2.2.2.2.1,No r.2.f.2.2.2.2.2.1,u7] 26] O))/\AH .st (gz H c w' (Ha [.box ba1_c0 [No r.2.f.1,u2,Ab5 r.2.f.2.2.1,u4,No r.2.f.2.2.2.2.1,No r.2.f.2.2.2.2.2.1,u7] 26] O)) u2 (r.2.f.2.1)/\AH .byte (gz H c w' (Ha [.box ba1_c0 [No r.2.f.1,u2,Ab5 r.2.f.2.2.1,u4,No r.2.f.2.2.2.2.1,No r.2.f.2.2.2.2.2.1,u7] 26] O)) u4 (r.2.f.2.2.2.1)/\AH .B1 (gz H c w' (Ha [.box ba1_c0 [No r.2.f.1,u2,Ab5 r.2.f.2.2.1,u4,No r.2.f.2.2.2.2.1,No r.2.f.2.2.2.2.2.1,u7] 26] O)) u7 (r.2.f.2.2.2.2.2.2)):=by
 refine Dq (n:=19) [(0,va0),(1,.func (.func 156) #[] #[AaD ba1_c0])] func204 Z Z Z Z ?_;have hT:=Le.refl (fz w (Ha [.box ba1_c0 [No a1_c0.f.1,va1_c0_1,Ab5 a1_c0.f.2.2.1,va1_c0_3,No a1_c0.f.2.2.2.2.1,No a1_c0.f.2.2.2.2.2.1,va1_c0_6] 26] O));have ab:=hL.rG H;refine AJ 1 Z<|Bt (Int×(List Ac3)×Ac3×Ac3×Int×Int×(List Qv)×Value×Value×Value) (fun⟨aj,ak,al,am,an,ao,ap,i,j,k⟩=>[]) (fun⟨aj,ak,al,am,an,ao,ap,i,j,k⟩ wr=>Fl c (Ha [.box ba1_c0 [No aj,i,Ab5 al,j,No an,No ao,k] 26] O) wr fun Oz=>AH .st (gz H c wr Oz) i ak/\AH .byte (gz H c wr Oz) j am/\AH .B1 (gz H c wr Oz) k ap/\Le (fz w (Ha [.box ba1_c0 [No a1_c0.f.1,va1_c0_1,Ab5 a1_c0.f.2.2.1,va1_c0_3,No a1_c0.f.2.2.2.2.1,No a1_c0.f.2.2.2.2.2.1,va1_c0_6] 26] O)) (fz wr Oz)/\C8 aj ak al am an ao ap=some r) ?_ ?_
 ·refine Bu 1 Z<|Aj (Bc (a9.mono ab))<|A7 1 Z<|A3 ?_;obtain⟨a3,h⟩:=Ba h
  refine B6 (Int×(List Ac3)×Ac3×Ac3×Int×Int×(List Qv)×Int×Value×Value×Value×Nat) (fun⟨l,m,o,p,q,s,t,a,d,e,g,n⟩=>[(0,va0),(1,.func (.func 156) #[] #[AaD ba1_c0]),(7,No (a0.length:Int)),(8,No a)]) (fun⟨l,m,o,p,q,s,t,a,d,e,g,n⟩ wr=>Fl c (Ha [.box ba1_c0 [No l,d,Ab5 o,e,No q,No s,g] 26] O) wr fun Oz=>AH .B1 (gz H c wr Oz) va0 a0/\AH .st (gz H c wr Oz) d m/\AH .byte (gz H c wr Oz) e p/\AH .B1 (gz H c wr Oz) g t/\Le (fz w (Ha [.box ba1_c0 [No a1_c0.f.1,va1_c0_1,Ab5 a1_c0.f.2.2.1,va1_c0_3,No a1_c0.f.2.2.2.2.1,No a1_c0.f.2.2.2.2.2.1,va1_c0_6] 26] O)) (fz wr Oz)/\HG (Bj a0) n (l,m,o,p,q,s,t,a)=some r) (fun⟨l,m,o,p,q,s,t,a,d,e,g,n⟩=>n) (a1_c0.f.1,a1_c0.f.2.1,a1_c0.f.2.2.1,a1_c0.f.2.2.2.1,a1_c0.f.2.2.2.2.1,a1_c0.f.2.2.2.2.2.1,a1_c0.f.2.2.2.2.2.2,0,va1_c0_1,va1_c0_3,va1_c0_6,a3) Z ⟨hL,(a9.mono ab),(ha1_c0_1.mono ab),(ha1_c0_3.mono ab),(ha1_c0_6.mono ab),hT,h⟩ ?_;rintro⟨l,m,o,p,q,s,t,a,d,e,g,nn71⟩ bf ⟨x,ac,aq,ar,au,hT,h⟩
  obtain⟨a3,bh,rfl,h,ag⟩:=AY h;have b:=x.rG H;refine AJ 1 Z<|AD<|AP h ?_ ?_<;>intro ba h
  ·refine Aw<|As<|AD<|A3<|AJ 2 Z<|Bu 3 Z<|Az h fun a4 h=>Bf (ac.mono b) a.toNat (Gy a4) (AW a4) ?_;rintro bi _ e76t0 bb;obtain⟨_,_,rfl,rfl,⟨_,_,rfl,⟨e76v1,rfl,e76h1⟩,⟨_,_,rfl,rfl,⟨_,_,rfl,⟨e76v3,rfl,e76h3⟩,⟨_,_,rfl,rfl,⟨_,_,rfl,rfl,⟨e76v6,rfl,e76h6⟩⟩⟩⟩⟩⟩⟩:=Go.E.Rp.HL e76t0;refine Aj (Cx bb (Ao x))<|Ax h fun u bc h=>Fk Z Z (RQ (a0:=(a0.getD a.toNat Qq2)) (a1:=(Qv.mk l m o p q s t)) (O:=(Ha [] O)) hH x e76h1 e76h3 e76h6 (aq.mono b) (ar.mono b) (au.mono b) bc) ?_;rintro _ bj ⟨av,aw,ax,rfl,y,z,ad,ae,af⟩;refine Ac<|B3 h ?_ ?_<;>intro bd h
   ·have ah:=y.rG H;refine AJ 2 Z<|Ay<|Av<|Ar<|BG ?_;have h:=Cg.out h ag;refine Av<|Bh ?_
    cases h
    refine Am Z ?_;have hT:=hT.trans z;exact⟨av,aw,ax,Z,y,hT,(ad.mono ah),(ae.mono ah),(af.mono ah)⟩
   refine Aw<|A2<|As ?_;have aa:=y.rG H;refine Au<|Az h fun be h=>Aj (A5 be)<|Aq 1 Z<|AL ?_;have h:=Cg.again h ag;have b:=b.trans (Aa z);have hT:=hT.trans z;refine AN (u.2.f.1,u.2.f.2.1,u.2.f.2.2.1,u.2.f.2.2.2.1,u.2.f.2.2.2.2.1,u.2.f.2.2.2.2.2.1,u.2.f.2.2.2.2.2.2,(a+1),av,aw,ax,a3) Z ⟨y,((ac.mono b).mono aa),(ad.mono aa),(ae.mono aa),(af.mono aa),hT,h⟩
  refine B4<|AE<|A6 ?_;have h:=Cg.out h ag;refine Bi<|A8 (l,m,o,p,q,s,t,d,e,g) ⟨x,(aq.mono b),(ar.mono b),(au.mono b),hT,h⟩
 rintro⟨aj,ak,al,am,an,ao,ap,i,j,k⟩ bg ⟨a5,a6,a7,a8,hT,h⟩;have ai:=a5.rG H;refine AJ 1 Z<|Ay ?_
 cases h
 refine Am Z ⟨i,j,k,Z,a5,hT,(a6.mono ai),(a7.mono ai),(a8.mono ai)⟩
def AV(a0:List Qv)(a1_c0:Qv):Option (Bool×Qv):=
 Qq4 (Ci a0 a1_c0) (fun a=>some (decide (0<=a.1),a.2))
theorem Bz{a w:World}{H:PH}(hH:Le H (hp a))(O:List BS)(a0:List Qv)(a1_c0:Qv){va0:Value}{ba1_c0:Nat}{va1_c0_1 va1_c0_3 va1_c0_6:Value}(hL:Bb a (Ha [.box ba1_c0 [No a1_c0.f.1,va1_c0_1,Ab5 a1_c0.f.2.2.1,va1_c0_3,No a1_c0.f.2.2.2.2.1,No a1_c0.f.2.2.2.2.2.1,va1_c0_6] 26] O) w)(p:AH .B1 (gz H a w (Ha [.box ba1_c0 [No a1_c0.f.1,va1_c0_1,Ab5 a1_c0.f.2.2.1,va1_c0_3,No a1_c0.f.2.2.2.2.1,No a1_c0.f.2.2.2.2.2.1,va1_c0_6] 26] O)) va0 a0)(ha1_c0_1:AH .st (gz H a w (Ha [.box ba1_c0 [No a1_c0.f.1,va1_c0_1,Ab5 a1_c0.f.2.2.1,va1_c0_3,No a1_c0.f.2.2.2.2.1,No a1_c0.f.2.2.2.2.2.1,va1_c0_6] 26] O)) va1_c0_1 (a1_c0.f.2.1))(ha1_c0_3:AH .byte (gz H a w (Ha [.box ba1_c0 [No a1_c0.f.1,va1_c0_1,Ab5 a1_c0.f.2.2.1,va1_c0_3,No a1_c0.f.2.2.2.2.1,No a1_c0.f.2.2.2.2.2.1,va1_c0_6] 26] O)) va1_c0_3 (a1_c0.f.2.2.2.1))(ha1_c0_6:AH .B1 (gz H a w (Ha [.box ba1_c0 [No a1_c0.f.1,va1_c0_1,Ab5 a1_c0.f.2.2.1,va1_c0_3,No a1_c0.f.2.2.2.2.1,No a1_c0.f.2.2.2.2.2.1,va1_c0_6] 26] O)) va1_c0_6 (a1_c0.f.2.2.2.2.2.2)){r:Bool×Qv}(h:AV a0 a1_c0=some r):
  Ok prog 155 [va0,.func (.func 156) #[] #[AaD ba1_c0]] w (fun v w'=>∃ (c:Value) (d:Value) (e:Value),v=.bool r.1/\Bb a (Ha [.box ba1_c0 [No r.2.f.1,c,Ab5 r.2.f.2.2.1,d,No r.2.f.2.2.2.2.1,No r.2.f.2.2.2.2.2.1,e] 26] O) w'/\Le (fz w (Ha [.box ba1_c0 [No a1_c0.f.1,va1_c0_1,Ab5 a1_c0.f.2.2.1,va1_c0_3,No a1_c0.f.2.2.2.2.1,No a1_c0.f.2.2.2.2.2.1,va1_c0_6] 26] O)) (fz w' (Ha [.box ba1_c0 [No r.2.f.1,c,Ab5 r.2.f.2.2.1,d,No r.2.f.2.2.2.2.1,No r.2.f.2.2.2.2.2.1,e] 26] O))/\AH .st (gz H a w' (Ha [.box ba1_c0 [No r.2.f.1,c,Ab5 r.2.f.2.2.1,d,No r.2.f.2.2.2.2.1,No r.2.f.2.2.2.2.2.1,e] 26] O)) c (r.2.f.2.1)/\AH .byte (gz H a w' (Ha [.box ba1_c0 [No r.2.f.1,c,Ab5 r.2.f.2.2.1,d,No r.2.f.2.2.2.2.1,No r.2.f.2.2.2.2.2.1,e] 26] O)) d (r.2.f.2.2.2.1)/\AH .B1 (gz H a w' (Ha [.box ba1_c0 [No r.2.f.1,c,Ab5 r.2.f.2.2.1,d,No r.2.f.2.2.2.2.1,No r.2.f.2.2.2.2.2.1,e] 26] O)) e (r.2.f.2.2.2.2.2.2)):=by
 refine Dq (n:=9) [(0,va0),(1,.func (.func 156) #[] #[AaD ba1_c0])] func155 Z Z Z Z ?_;have hT:=Le.refl (fz w (Ha [.box ba1_c0 [No a1_c0.f.1,va1_c0_1,Ab5 a1_c0.f.2.2.1,va1_c0_3,No a1_c0.f.2.2.2.2.1,No a1_c0.f.2.2.2.2.2.1,va1_c0_6] 26] O));have b:=hL.rG H;refine AJ 1 Z<|Bu 2 Z<|Ax h fun t q h=>EP (JL (a0:=a0) (a1_c0:=a1_c0) (O:=(Ha [] O)) hH hL (p.mono b) (ha1_c0_1.mono b) (ha1_c0_3.mono b) (ha1_c0_6.mono b) q) ?_;rintro _ u ⟨k,l,m,rfl,s,o,g,i,j⟩;refine A7 2 Z<|Ay ?_
 cases h
 refine Am Z ?_;have hT:=hT.trans o;exact⟨k,l,m,Z,s,hT,g,i,j⟩
def Cs(a0:Qv)(d:Ac3)(o:Ac3)(e g b c a:Int):Option Bool:=
 if((decide ((a0.f.2.1.length:Int)<b))||(decide (c<(a0.f.2.1.length:Int)))) then(if((decide ((a0.f.2.1.length:Int)<b))||(decide (c<(a0.f.2.1.length:Int)))) then some false else(if !((decide (a0.f.1=8))||(decide (a0.f.1=9))) then some true else Qq4 (AV a0.f.2.2.2.2.2.2 a0) (fun h=>some (!h.1)))) else(if(a0.f.2.2.2.2.2.2.length:Int)<a then(if(a0.f.2.2.2.2.2.2.length:Int)<a then some false else(if !((decide (a0.f.1=8))||(decide (a0.f.1=9))) then some true else Qq4 (AV a0.f.2.2.2.2.2.2 a0) (fun i=>some (!i.1)))) else(if(bif !((decide (a0.f.1=8))||(decide (a0.f.1=9))) then decide (a<(a0.f.2.2.2.2.2.2.length:Int)) else false) then(if(bif !((decide (a0.f.1=8))||(decide (a0.f.1=9))) then decide (a<(a0.f.2.2.2.2.2.2.length:Int)) else false) then some false else(if !((decide (a0.f.1=8))||(decide (a0.f.1=9))) then some true else Qq4 (AV a0.f.2.2.2.2.2.2 a0) (fun j=>some (!j.1)))) else(if d=a0.f.2.2.1 then(if e=a0.f.2.2.2.2.1 then(if g=a0.f.2.2.2.2.2.1 then(if(o.length:Int)=(a0.f.2.2.2.1.length:Int) then(if !((decide (a0.f.1=8))||(decide (a0.f.1=9))) then some true else Qq4 (AV a0.f.2.2.2.2.2.2 a0) (fun k=>some (!k.1))) else some false) else(if g=a0.f.2.2.2.2.2.1 then(if !((decide (a0.f.1=8))||(decide (a0.f.1=9))) then some true else Qq4 (AV a0.f.2.2.2.2.2.2 a0) (fun l=>some (!l.1))) else some false)) else(if e=a0.f.2.2.2.2.1 then(if !((decide (a0.f.1=8))||(decide (a0.f.1=9))) then some true else Qq4 (AV a0.f.2.2.2.2.2.2 a0) (fun m=>some (!m.1))) else some false)) else(if d=a0.f.2.2.1 then(if !((decide (a0.f.1=8))||(decide (a0.f.1=9))) then some true else Qq4 (AV a0.f.2.2.2.2.2.2 a0) (fun n=>some (!n.1))) else some false))))
def JC(a0:Qv):Option Bool:=
 if a0.f.1=1 then(Cs a0) ([]:Ac3) ([]) (0:Int) (0:Int) (1:Int) (1:Int) (0:Int) else(if a0.f.1=2 then(Cs a0) ([]:Ac3) ([]) (0:Int) (0:Int) (2:Int) (16:Int) (0:Int) else(if a0.f.1=3 then(Cs a0) ([]:Ac3) ([]) a0.f.2.2.2.2.1 (0:Int) (2:Int) (2:Int) (0:Int) else(if a0.f.1=4 then(Cs a0) ([]:Ac3) a0.f.2.2.2.1 (0:Int) (0:Int) (0:Int) (0:Int) (0:Int) else(if a0.f.1=5 then(Cs a0) a0.f.2.2.1 ([]) (0:Int) (0:Int) (0:Int) (0:Int) (0:Int) else(if a0.f.1=6 then(Cs a0) a0.f.2.2.1 ([]) a0.f.2.2.2.2.1 a0.f.2.2.2.2.2.1 (0:Int) (0:Int) (0:Int) else(if a0.f.1=7 then(Cs a0) a0.f.2.2.1 a0.f.2.2.2.1 (0:Int) (0:Int) (0:Int) (0:Int) (0:Int) else(if a0.f.1=10 then(Cs a0) ([]:Ac3) ([]) (0:Int) (0:Int) (0:Int) (0:Int) (1:Int) else(Cs a0) ([]:Ac3) ([]) (0:Int) (0:Int) (0:Int) (0:Int) (2:Int))))))))
section
variable(w:World)(H:PH)(hH:Le H (hp w)) include hH
theorem Tn{a0:Qv}{b e c:Value}(ae:AH .st H b (a0.f.2.1))(o:AH .byte H e (a0.f.2.2.2.1))(g:AH .B1 H c (a0.f.2.2.2.2.2.2)){r:Bool}(h:JC a0=some r):
  Qqv 101 [.agg #[No a0.f.1,b,Ab5 a0.f.2.2.1,e,No a0.f.2.2.2.2.1,No a0.f.2.2.2.2.2.1,c]] w (fun v w'=>v=.bool r):=by
 refine A1 123 [(0,.agg #[No a0.f.1,b,Ab5 a0.f.2.2.1,e,No a0.f.2.2.2.2.1,No a0.f.2.2.2.2.2.1,c])] func101 Z fun hL=>Ak<|CB (t:=26) Z Z hL fun w1 b1 ax eb _=>A7 1 Z<|Ak<|Aj (Ae Z Ajm Z CO.e)<|Aj (Af 0 Z ax Z)<|Aj (Ae Z Ajm Z Nd.e)<|Aj (Af 0 Z ax Z)<|Aj (Ae Z Ajm Z Mm.e)<|Aj (Af 0 Z ax Z)<|Aj (AT (fun _=>YL _ _ ae.one _ g.one _))<|AA B8.e Z ax fun w2 b2 dc ec _=>Ag 0 Z dc Z (a:=(Br Z (Br ae.one (Br Z (Br Z (Br Z (Br Z (Br g.one K9)))))))) fun w3 ag ed=>Ac<|AJ 2 Z<|AJ 1 Z ?_
 refine Bt (Ac3×Ac3×Int×Int×Int×Int×Int×Value) (fun⟨k,ay,l,m,ak,al,ao,d⟩=>[(1,(AaD b1)),(3,(AaD b2)),(4,No ak),(5,No al),(6,No ao)]) (fun⟨k,ay,l,m,ak,al,ao,d⟩ wr=>Fl w [.box b2 [No a0.f.1,b,Ab5 k,d,No l,No m,c] 26,.box b1 [No a0.f.1,b,Ab5 a0.f.2.2.1,e,No a0.f.2.2.2.2.1,No a0.f.2.2.2.2.2.1,c] 26] wr fun Oz=>AH .byte (gz H w wr Oz) d ay/\(Cs a0) k ay l m ak al ao=some r) ?_ ?_
 ·refine Ak<|Aj (Ae Z Ajm Z CO.e)<|Aj (Af 1 Z ag Z)<|Ac<|A3<|AJ 2 Z<|AP h ?_ ?_<;>intro ca h
  ·refine Au<|Aq 2 Z<|AL<|A2<|A8 (([]:Ac3),[],0,0,1,1,0,Aa4) ⟨ag,(AH.nil _ _),h⟩
  refine AJ 2 Z<|AP h ?_ ?_<;>intro cb h
  ·refine Au<|Aq 2 Z<|AL<|A2<|A8 (([]:Ac3),[],0,0,2,16,0,Aa4) ⟨ag,(AH.nil _ _),h⟩
  refine AJ 2 Z<|AP h ?_ ?_<;>intro cc h
  ·refine Qm (Qqz 0 5 (.tail 5)) mixed Qqb (fun eu cd=>?_);have a2:=ag.call cd;refine CF Z (Ae Z Ajm Z CO.e) Z<|CF Z (Af 1 Z a2 Z) Z<|D4 2 Z<|CF Z (Ae Z Ajm Z CO.e) Z<|BU (fun ev ce=>?_);have cf:=a2.call ce;refine B9 0 Z Z cf Z Z fun ew cg d7=>AL<|A2<|A8 (([]:Ac3),[],a0.f.2.2.2.2.1,0,2,2,0,Aa4) ⟨cg,(AH.nil _ _),h⟩
  refine AJ 2 Z<|AP h ?_ ?_<;>intro ch h
  ·refine Au<|Aj (Ae Z Ajm Z IK.e)<|Aj (Af 1 Z ag Z)<|Aj (Ae Z Ajm Z IK.e)<|B9 0 Z o.one ag Z Z fun ex ci d8=>AL<|A2<|A8 (([]:Ac3),a0.f.2.2.2.1,0,0,0,0,0,e) ⟨ci,(o.mono  Ah),h⟩
  refine AJ 2 Z<|AP h ?_ ?_<;>intro cj h
  ·refine Au<|Aj (Ae Z Ajm Z HJ.e)<|Aj (Af 1 Z ag Z)<|Aj (Ae Z Ajm Z HJ.e)<|B9 0 Z Z ag Z Z fun ey ck d9=>AL<|A2<|A8 (a0.f.2.2.1,[],0,0,0,0,0,Aa4) ⟨ck,(AH.nil _ _),h⟩
  refine AJ 2 Z<|AP h ?_ ?_<;>intro cl h
  ·refine Ko (J1 (Ox Ns)) (fun z0 z=>Le (gz H w z0 [.box b2 [No a0.f.1,b,(Ab5 []),Aa4,No 0,No 0,c] 26,.box b1 [No a0.f.1,b,Ab5 a0.f.2.2.1,e,No a0.f.2.2.2.2.1,No a0.f.2.2.2.2.2.1,c] 26]) (hp z)/\z.heap[b1]? = some (.cells [No a0.f.1,b,Ab5 a0.f.2.2.1,e,No a0.f.2.2.2.2.1,No a0.f.2.2.2.2.2.1,c].toArray 26 (0,0))) mixed Z (fun af ez cn=>?_);have ap:=ag.call cn;have ai:=ap.rG H;refine Nv ⟨ai.trans (Ao ap),ap.at (i:=1) Z⟩ fun kI88=>A9 0 af kI88 Z (fun _ _=>Ae Z Ajm Z HJ.e) Z<|A9 1 af kI88 Z (fun _ hI=>KG Z hI.2 Z) Z<|A9 2 af kI88 Z (fun _ _=>Ae Z Ajm Z CO.e) Z<|A9 3 af kI88 Z (fun _ hI=>KG Z hI.2 Z) Z<|A9 4 af kI88 Z (fun _ _=>Ae Z Ajm Z CO.e) Z<|A9 5 af kI88 Z (fun _ hI=>KG Z hI.2 Z) Z<|A9 6 af kI88 Z (fun _ _=>Ae Z Ajm Z HJ.e) Z<|FX 7 Z ?_
   refine B9 0 Z Z ap Z Z ?_;intro e0 av a4;have ai:=ai.trans (Aa a4);refine AX ⟨ai.trans (Ao av),av.at (i:=1) Z⟩ fun kI90=>A9 8 af kI90 Z (fun _ _=>Ae Z Ajm Z CO.e) Z<|FX 9 Z<|B9 0 Z Z av Z Z ?_;intro e1 aw a5;have ai:=ai.trans (Aa a5);refine AX ⟨ai.trans (Ao aw),aw.at (i:=1) Z⟩ fun kI92=>A9 10 af kI92 Z (fun _ _=>Ae Z Ajm Z CO.e) Z<|FX 11 Z<|B9 0 Z Z aw Z Z fun e2 co ea=>GO<|ER<|A2<|A8 (a0.f.2.2.1,[],a0.f.2.2.2.2.1,a0.f.2.2.2.2.2.1,0,0,0,Aa4) ⟨co,(AH.nil _ _),h⟩
  refine AJ 2 Z<|AP h ?_ ?_<;>intro cp h
  ·refine Ko (J1 (Ox Ns)) (fun z0 z=>Le (gz H w z0 [.box b2 [No a0.f.1,b,(Ab5 []),Aa4,No 0,No 0,c] 26,.box b1 [No a0.f.1,b,Ab5 a0.f.2.2.1,e,No a0.f.2.2.2.2.1,No a0.f.2.2.2.2.2.1,c] 26]) (hp z)/\z.heap[b1]? = some (.cells [No a0.f.1,b,Ab5 a0.f.2.2.1,e,No a0.f.2.2.2.2.1,No a0.f.2.2.2.2.2.1,c].toArray 26 (0,0))) mixed Z (fun an e3 cq=>?_);have aq:=ag.call cq;have ar:=aq.rG H;refine Nv ⟨ar.trans (Ao aq),aq.at (i:=1) Z⟩ fun kI100=>A9 0 an kI100 Z (fun _ _=>Ae Z Ajm Z HJ.e) Z<|A9 1 an kI100 Z (fun _ hI=>KG Z hI.2 Z) Z<|A9 2 an kI100 Z (fun _ _=>Ae Z Ajm Z IK.e) Z<|A9 3 an kI100 Z (fun _ hI=>KG Z hI.2 Z) Z<|A9 4 an kI100 Z (fun _ _=>Ae Z Ajm Z HJ.e) Z<|FX 5 Z<|B9 0 Z Z aq Z Z ?_;intro ee au a3;have ar:=ar.trans (Aa a3);refine AX ⟨ar.trans (Ao au),au.at (i:=1) Z⟩ fun kI102=>?_
   refine A9 6 an kI102 Z (fun _ _=>Ae Z Ajm Z IK.e) Z<|FX 7 Z<|B9 0 Z o.one au Z Z fun ef a6 dd=>GO<|ER<|A2<|A8 (a0.f.2.2.1,a0.f.2.2.2.1,0,0,0,0,0,e) ⟨a6,(o.mono  Ah),h⟩
  refine AJ 2 Z<|AP h ?_ ?_<;>intro a7 h
  ·refine Au<|Aq 1 Z<|AL<|A2<|A8 (([]:Ac3),[],0,0,0,0,1,Aa4) ⟨ag,(AH.nil _ _),h⟩
  refine Au<|Aq 1 Z<|AL<|A2<|A8 (([]:Ac3),[],0,0,0,0,2,Aa4) ⟨ag,(AH.nil _ _),h⟩
 rintro⟨k,ay,l,m,ak,al,ao,d⟩ aj ⟨a,a8,h⟩;refine Ak<|Aj (Ae Z Ajm Z Mm.e)<|Aj (Af 1 Z a Z)<|Aj (Bc g)<|A7 1 Z<|Ak<|Aj (Ae Z Ajm Z CO.e)<|Aj (Af 1 Z a Z)<|Aq 2 Z<|OL 4 68 (.bool ((decide (a0.f.1=8))||(decide (a0.f.1=9)))) (fun az=>?_) ?_
 ·refine IL (s:=64) Z (fun p=>?_) (fun p=>?_)
  ·iterate 3 refine An p ?_
   refine Aj (AB p Z)<|az.to 3 (Wg p) Z Z
  refine Ab p<|Aj (Ae Z Ajm Z CO.e)<|Ab p<|Aj (Af 1 Z a Z)<|Ab p<|Aj (Ai Z)<|Aj (AM p Z)<|az.to 3 (Wh p) Z Z
 refine A7 1 Z<|AD<|A3<|AD<|Ak<|Aj (Ae Z Ajm Z Nd.e)<|Aj (Af 1 Z a Z)<|Aj (Bc ae)<|Aq 3 Z<|OL 6 81 (.bool ((decide ((a0.f.2.1.length:Int)<ak))||(decide (al<(a0.f.2.1.length:Int))))) (fun a1=>?_) ?_
 ·refine IL (s:=75) Z (fun j=>?_) (fun j=>?_)
  ·iterate 5 refine An j ?_
   refine Aj (AB j Z)<|a1.to 5 (Wg j) Z Z
  refine Ab j<|Aj (Ae Z Ajm Z Nd.e)<|Ab j<|Aj (Af 1 Z a Z)<|Ab j<|Aj (Bc ae)<|Ab j<|Aj (Ai Z)<|Ab j<|Aj (Ai Z)<|Aj (AM j Z)<|a1.to 5 (Wh j) Z Z
 refine A7 1 Z<|B3 h ?_ ?_<;>intro a9 h
 ·refine Aw<|As<|B3 h ?_ ?_<;>intro ba h
  ·refine AJ 1 Z<|Ay<|Av<|Ar ?_
   cases h
   refine Am Z ⟨a.ext,Z⟩
  refine Aw<|A2<|As<|Bu 3 Z<|ED 116 h ?_ ?_<;>intro u h
  ·iterate 5 refine An u ?_
   refine Aj (AB u Z)<|A7 1 Z<|Ay ?_
   cases h
   refine Am Z ⟨a.ext,Z⟩
  refine Ab u<|Aj (Ae Z Ajm Z Mm.e)<|Ab u<|Aj (Af 1 Z a Z)<|Ab u<|Aj (Ai Z)<|Ab u ?_;have bb:Bb w [.box b1 [No a0.f.1,b,Ab5 a0.f.2.2.1,e,No a0.f.2.2.2.2.1,No a0.f.2.2.2.2.2.1,c] 26,.box b2 [No a0.f.1,b,Ab5 k,d,No l,No m,c] 26] aj:=a.C0 [1] Z;refine Ax h fun eg bc h=>EP (Bz hH ([.box b2 [No a0.f.1,b,Ab5 k,d,No l,No m,c] 26]) a0.f.2.2.2.2.2.2 a0 bb (g.mono  Ah) (ae.mono  Ah) (o.mono  Ah) (g.mono  Ah) bc) ?_;rintro _ eh ⟨de,df,dg,rfl,bd,dh,cr,cs,ct⟩;refine Ab u<|Aj (Ai Z)<|Aj (AM u Z)<|A7 1 Z<|Ay ?_
  cases h
  refine Am Z ⟨bd.ext,Z⟩
 refine AJ 4 Z<|AP h ?_ ?_<;>intro be h
 ·refine Aw<|As<|AP h ?_ ?_<;>intro bf h
  ·refine AJ 1 Z<|Ay<|Av<|Ar ?_
   cases h
   refine Am Z ⟨a.ext,Z⟩
  refine Aw<|A2<|As<|Bu 3 Z<|ED 116 h ?_ ?_<;>intro x h
  ·iterate 5 refine An x ?_
   refine Aj (AB x Z)<|A7 1 Z<|Ay ?_
   cases h
   refine Am Z ⟨a.ext,Z⟩
  refine Ab x<|Aj (Ae Z Ajm Z Mm.e)<|Ab x<|Aj (Af 1 Z a Z)<|Ab x<|Aj (Ai Z)<|Ab x ?_;have bg:Bb w [.box b1 [No a0.f.1,b,Ab5 a0.f.2.2.1,e,No a0.f.2.2.2.2.1,No a0.f.2.2.2.2.2.1,c] 26,.box b2 [No a0.f.1,b,Ab5 k,d,No l,No m,c] 26] aj:=a.C0 [1] Z;refine Ax h fun ei bh h=>EP (Bz hH ([.box b2 [No a0.f.1,b,Ab5 k,d,No l,No m,c] 26]) a0.f.2.2.2.2.2.2 a0 bg (g.mono  Ah) (ae.mono  Ah) (o.mono  Ah) (g.mono  Ah) bh) ?_;rintro _ ej ⟨di,dj,dk,rfl,bi,dl,cu,cv,cw⟩;refine Ab x<|Aj (Ai Z)<|Aj (AM x Z)<|A7 1 Z<|Ay ?_
  cases h
  refine Am Z ⟨bi.ext,Z⟩
 refine Bu 3 Z<|Sc 3 2 Z Z Z Z Z Z Z<|A7 1 Z<|B3 h ?_ ?_<;>intro bj h
 ·refine Aw<|As<|B3 h ?_ ?_<;>intro bk h
  ·refine AJ 1 Z<|Ay<|Av<|Ar ?_
   cases h
   refine Am Z ⟨a.ext,Z⟩
  refine Aw<|A2<|As<|Bu 3 Z<|ED 116 h ?_ ?_<;>intro y h
  ·iterate 5 refine An y ?_
   refine Aj (AB y Z)<|A7 1 Z<|Ay ?_
   cases h
   refine Am Z ⟨a.ext,Z⟩
  refine Ab y<|Aj (Ae Z Ajm Z Mm.e)<|Ab y<|Aj (Af 1 Z a Z)<|Ab y<|Aj (Ai Z)<|Ab y ?_;have bl:Bb w [.box b1 [No a0.f.1,b,Ab5 a0.f.2.2.1,e,No a0.f.2.2.2.2.1,No a0.f.2.2.2.2.2.1,c] 26,.box b2 [No a0.f.1,b,Ab5 k,d,No l,No m,c] 26] aj:=a.C0 [1] Z;refine Ax h fun ek bm h=>EP (Bz hH ([.box b2 [No a0.f.1,b,Ab5 k,d,No l,No m,c] 26]) a0.f.2.2.2.2.2.2 a0 bl (g.mono  Ah) (ae.mono  Ah) (o.mono  Ah) (g.mono  Ah) bm) ?_;rintro _ el ⟨dm,dn,dp,rfl,bn,dq,cx,cy,cz⟩;refine Ab y<|Aj (Ai Z)<|Aj (AM y Z)<|A7 1 Z<|Ay ?_
  cases h
  refine Am Z ⟨bn.ext,Z⟩
 refine Ak<|Aj (Ae Z Ajm Z HJ.e)<|Aj (Af 0 Z a Z)<|Aj (Ae Z Ajm Z HJ.e)<|Aj (Af 1 Z a Z)<|Aj (Sg Z Z)<|A7 1 Z<|CP h ?_ ?_<;>intro bo h
 ·refine Aw<|As<|CP h ?_ ?_<;>intro bp h
  ·refine AJ 1 Z<|Ay<|Av<|Ar ?_
   cases h
   refine Am Z ⟨a.ext,Z⟩
  refine Aw<|A2<|As<|Bu 3 Z<|ED 116 h ?_ ?_<;>intro aa h
  ·iterate 5 refine An aa ?_
   refine Aj (AB aa Z)<|A7 1 Z<|Ay ?_
   cases h
   refine Am Z ⟨a.ext,Z⟩
  refine Ab aa<|Aj (Ae Z Ajm Z Mm.e)<|Ab aa<|Aj (Af 1 Z a Z)<|Ab aa<|Aj (Ai Z)<|Ab aa ?_;have bq:Bb w [.box b1 [No a0.f.1,b,Ab5 a0.f.2.2.1,e,No a0.f.2.2.2.2.1,No a0.f.2.2.2.2.2.1,c] 26,.box b2 [No a0.f.1,b,Ab5 k,d,No l,No m,c] 26] aj:=a.C0 [1] Z;refine Ax h fun em br h=>EP (Bz hH ([.box b2 [No a0.f.1,b,Ab5 k,d,No l,No m,c] 26]) a0.f.2.2.2.2.2.2 a0 bq (g.mono  Ah) (ae.mono  Ah) (o.mono  Ah) (g.mono  Ah) br) ?_;rintro _ en ⟨dr,ds,dt,rfl,bs,du,c0,c1,c2⟩;refine Ab aa<|Aj (Ai Z)<|Aj (AM aa Z)<|A7 1 Z<|Ay ?_
  cases h
  refine Am Z ⟨bs.ext,Z⟩
 refine Ak<|Aj (Ae Z Ajm Z CO.e)<|Aj (Af 0 Z a Z)<|Aj (Ae Z Ajm Z CO.e)<|Aj (Af 1 Z a Z)<|A7 2 Z<|CP h ?_ ?_<;>intro bt h
 ·refine Aw<|As<|CP h ?_ ?_<;>intro bu h
  ·refine AJ 1 Z<|Ay<|Av<|Ar ?_
   cases h
   refine Am Z ⟨a.ext,Z⟩
  refine Aw<|A2<|As<|Bu 3 Z<|ED 116 h ?_ ?_<;>intro ab h
  ·iterate 5 refine An ab ?_
   refine Aj (AB ab Z)<|A7 1 Z<|Ay ?_
   cases h
   refine Am Z ⟨a.ext,Z⟩
  refine Ab ab<|Aj (Ae Z Ajm Z Mm.e)<|Ab ab<|Aj (Af 1 Z a Z)<|Ab ab<|Aj (Ai Z)<|Ab ab ?_;have bv:Bb w [.box b1 [No a0.f.1,b,Ab5 a0.f.2.2.1,e,No a0.f.2.2.2.2.1,No a0.f.2.2.2.2.2.1,c] 26,.box b2 [No a0.f.1,b,Ab5 k,d,No l,No m,c] 26] aj:=a.C0 [1] Z;refine Ax h fun eo bw h=>EP (Bz hH ([.box b2 [No a0.f.1,b,Ab5 k,d,No l,No m,c] 26]) a0.f.2.2.2.2.2.2 a0 bv (g.mono  Ah) (ae.mono  Ah) (o.mono  Ah) (g.mono  Ah) bw) ?_;rintro _ ep ⟨dv,dw,dx,rfl,bx,dy,c3,c4,c5⟩;refine Ab ab<|Aj (Ai Z)<|Aj (AM ab Z)<|A7 1 Z<|Ay ?_
  cases h
  refine Am Z ⟨bx.ext,Z⟩
 refine Ak<|Aj (Ae Z Ajm Z CO.e)<|Aj (Af 0 Z a Z)<|Aj (Ae Z Ajm Z CO.e)<|Aj (Af 1 Z a Z)<|A7 2 Z<|CP h ?_ ?_<;>intro bz h
 ·refine Aw<|As<|CP h ?_ ?_<;>intro b0 h
  ·refine AJ 1 Z<|Ay<|Av<|Ar ?_
   cases h
   refine Am Z ⟨a.ext,Z⟩
  refine Aw<|A2<|As<|Bu 3 Z<|ED 116 h ?_ ?_<;>intro ac h
  ·iterate 5 refine An ac ?_
   refine Aj (AB ac Z)<|A7 1 Z<|Ay ?_
   cases h
   refine Am Z ⟨a.ext,Z⟩
  refine Ab ac<|Aj (Ae Z Ajm Z Mm.e)<|Ab ac<|Aj (Af 1 Z a Z)<|Ab ac<|Aj (Ai Z)<|Ab ac ?_;have b3:Bb w [.box b1 [No a0.f.1,b,Ab5 a0.f.2.2.1,e,No a0.f.2.2.2.2.1,No a0.f.2.2.2.2.2.1,c] 26,.box b2 [No a0.f.1,b,Ab5 k,d,No l,No m,c] 26] aj:=a.C0 [1] Z;refine Ax h fun eq b4 h=>EP (Bz hH ([.box b2 [No a0.f.1,b,Ab5 k,d,No l,No m,c] 26]) a0.f.2.2.2.2.2.2 a0 b3 (g.mono  Ah) (ae.mono  Ah) (o.mono  Ah) (g.mono  Ah) b4) ?_;rintro _ er ⟨dz,d0,d1,rfl,b5,d2,c6,c7,c8⟩;refine Ab ac<|Aj (Ai Z)<|Aj (AM ac Z)<|A7 1 Z<|Ay ?_
  cases h
  refine Am Z ⟨b5.ext,Z⟩
 refine Au<|Aj (Ae Z Ajm Z IK.e)<|Aj (Af 0 Z a Z)<|Aj (Bc a8)<|Aj (Ae Z Ajm Z IK.e)<|Aj (Af 1 Z a Z)<|Aj (Bc o)<|Aq 2 Z<|AL<|As<|CP h ?_ ?_<;>intro b6 h
 ·refine AJ 1 Z<|Ay<|Av<|Ar ?_
  cases h
  refine Am Z ⟨a.ext,Z⟩
 refine Aw<|A2<|As<|Bu 3 Z<|ED 116 h ?_ ?_<;>intro ad h
 ·iterate 5 refine An ad ?_
  refine Aj (AB ad Z)<|A7 1 Z<|Ay ?_
  cases h
  refine Am Z ⟨a.ext,Z⟩
 refine Ab ad<|Aj (Ae Z Ajm Z Mm.e)<|Ab ad<|Aj (Af 1 Z a Z)<|Ab ad<|Aj (Ai Z)<|Ab ad ?_;have b7:Bb w [.box b1 [No a0.f.1,b,Ab5 a0.f.2.2.1,e,No a0.f.2.2.2.2.1,No a0.f.2.2.2.2.2.1,c] 26,.box b2 [No a0.f.1,b,Ab5 k,d,No l,No m,c] 26] aj:=a.C0 [1] Z;refine Ax h fun es b8 h=>EP (Bz hH ([.box b2 [No a0.f.1,b,Ab5 k,d,No l,No m,c] 26]) a0.f.2.2.2.2.2.2 a0 b7 (g.mono  Ah) (ae.mono  Ah) (o.mono  Ah) (g.mono  Ah) b8) ?_;rintro _ et ⟨d3,d4,d5,rfl,b9,d6,c9,da,db⟩;refine Ab ad<|Aj (Ai Z)<|Aj (AM ad Z)<|A7 1 Z<|Ay ?_
 cases h
 refine Am Z ⟨b9.ext,Z⟩
def FP(a0:Qv)(a:Bool):Option Int:=
 if a then some (4) else(if((decide (a0.f.1=4))&&(decide ((a0.f.2.2.2.1.length:Int)=0))) then some (10) else(if 64<(a0.f.2.2.2.1.length:Int) then some (3) else some (0)))
def FQ(a0:Qv):Option Int:=
 Qq4 (Ho a0.f.2.2.1) (fun a=>if a.1=0/\a.2=0 then(if((decide (a0.f.1=3))&&((decide (a0.f.2.2.2.2.1<1))||(decide (2048<a0.f.2.2.2.2.1)))) then(FP a0) ((decide (a0.f.1=3))&&((decide (a0.f.2.2.2.2.1<1))||(decide (2048<a0.f.2.2.2.2.1)))) else(FP a0) ((decide (a0.f.1=6))&&(decide (a0.f.2.2.2.2.2.1<a0.f.2.2.2.2.1)))) else some (a.1))
def Ee(a0:Qv):Int->Option ((Int) ⊕ (Int)):=fun a=>
 if a<(a0.f.2.1.length:Int) then AO (0<=a/\a<(a0.f.2.1.length:Int)) (Qq4 (H5 (a0.f.2.1.getD a.toNat Qq2)) (fun b=>if b.1=0/\b.2=0 then AO (Bw (a+1)) (some (Sum.inl (a+1))) else Qq7 Sum.inr (some (b.1)))) else Qq7 Sum.inr ((FQ a0))
def IN(a0:Qv)(s:Int):Option Int:=Go.L.run (Ee a0) s
def HD(a0:Qv):Option Int:=
 if((decide (a0.f.1<1))||(decide (10<a0.f.1))) then some (5) else Qq4 (JC a0) (fun a=>if !a then some (6) else(IN a0) (0:Int))
theorem Rt(hU:Gj H){a0:Qv}{j o p:Value}(y:AH .st H j (a0.f.2.1))(z:AH .byte H o (a0.f.2.2.2.1))(ao:AH .B1 H p (a0.f.2.2.2.2.2.2)){r:Int}(h:HD a0=some r):
  Qqv 62 [.agg #[No a0.f.1,j,Ab5 a0.f.2.2.1,o,No a0.f.2.2.2.2.1,No a0.f.2.2.2.2.2.1,p]] w (fun v w'=>v=No r):=by
 refine A1 80 [(0,.agg #[No a0.f.1,j,Ab5 a0.f.2.2.1,o,No a0.f.2.2.2.2.1,No a0.f.2.2.2.2.2.1,p])] func62 Z fun hL=>Ak<|CB (t:=26) Z Z hL fun w1 b1 q bg _=>A7 1 Z<|AD<|Ak<|Aj (Ae Z Ajm Z CO.e)<|Aj (Af 0 Z q Z)<|Aq 2 Z<|OL 4 14 (.bool ((decide (a0.f.1<1))||(decide (10<a0.f.1)))) (fun am=>?_) ?_
 ·refine IL (s:=10) Z (fun l=>?_) (fun l=>?_)
  ·iterate 3 refine An l ?_
   refine Aj (AB l Z)<|am.to 3 (Wg l) Z Z
  refine Ab l<|Aj (Ae Z Ajm Z CO.e)<|Ab l<|Aj (Af 0 Z q Z)<|Ab l<|Aj (Ai Z)<|Aj (AM l Z)<|am.to 3 (Wh l) Z Z
 refine Ac<|B3 h ?_ ?_<;>intro a6 h
 ·refine AJ 1 Z<|Ay<|Ar ?_
  cases h
  refine Am Z ⟨q.ext,Z⟩
 refine Aw<|As<|AD<|Ak<|Aj (A4 0 Z B8.e q Z)<|Ax h fun x6 a7 h=>AF q (Tn (a0:=a0) _ _ (Ao q) (y.mono  Ah) (z.mono  Ah) (ao.mono  Ah) a7) fun w7 bn ae bh=>A7 1 Z<|B3 h ?_ ?_<;>intro a8 h
 ·refine AJ 1 Z<|Ay<|Ar ?_
  cases h
  refine Am Z ⟨ae.ext,Z⟩
 refine Aw<|As<|Bt Unit (fun(_:Unit)=>[(1,(AaD b1))]) (fun(_:Unit) wr=>Bb w [.box b1 [No a0.f.1,j,Ab5 a0.f.2.2.1,o,No a0.f.2.2.2.2.1,No a0.f.2.2.2.2.2.1,p] 26] wr/\(FQ a0)=some r) ?_ ?_
 ·refine Ak<|Aj (Ae Z Ajm Z Nd.e)<|Aj (Af 0 Z ae Z)<|Aj (Bc y)<|A7 1 Z<|A3 ?_;obtain⟨af,h⟩:=Ba h;refine B6 (Int×Nat) (fun⟨c,n⟩=>[(1,(AaD b1)),(19,j),(20,No (a0.f.2.1.length:Int)),(21,No c)]) (fun⟨c,n⟩ wr=>Bb w [.box b1 [No a0.f.1,j,Ab5 a0.f.2.2.1,o,No a0.f.2.2.2.2.1,No a0.f.2.2.2.2.2.1,p] 26] wr/\HG (Ee a0) n c=some r) (fun⟨c,n⟩=>n) (0,af) Z ⟨ae,h⟩ ?_;rintro⟨c,nn58⟩ bi ⟨u,h⟩;obtain⟨af,bo,rfl,h,aa⟩:=AY h;refine AJ 1 Z<|AD<|AP h ?_ ?_<;>intro ap h
  ·refine Aw<|As<|AD<|A3<|Ak<|Az h fun ag h=>Bf y c.toNat (Gy ag) (AW ag) ?_;rintro bp _ rfl aq;refine Aj (Bl aq (hH.trans u.arg))<|A7 1 Z<|Bu 1 Z<|Ax h fun bq ar h=>AF u (Kc _ _ (Ao u) (hU.mono  Ah) ar) fun br bj au ba=>AA AG.e Z au fun bs bt av bb _=>Ag 0 Z av Z fun bu x bc=>Ac<|Ak<|Aj (A4 0 Z AG.e x Z)<|Aj (AT (fun _=>BM _))<|Aj (JO J2 (Nf _ _ _ _))<|Ac<|CP h ?_ ?_<;>intro aw h
   ·refine Ak<|Aj (Ae Z Aji Z CO.e)<|Aj (Af 0 Z x Z)<|A7 1 Z<|Ay<|Av<|Ar<|BG ?_;have h:=Cg.out h aa;refine Av<|Bh ?_
    cases h
    refine Am Z ⟨x.ext,Z⟩
   refine Aw<|A2<|As<|Au<|Az h fun ax h=>Aj (A5 ax)<|Aq 1 Z<|AL ?_;have ay:=x.AS (i:=0) Z;have h:=Cg.again h aa;refine AN (_,_) Z ⟨ay,h⟩
  refine B4<|AE<|A6 ?_;have h:=Cg.out h aa;refine Bi<|A8 () ⟨u,h⟩
 rintro _ bk ⟨ab,h⟩;refine AD<|Ak<|Aj (Ae Z Ajm Z HJ.e)<|Aj (Af 0 Z ab Z)<|Ax h fun an az h=>AF ab (KW _ _ (Ao ab) az) fun bv bl a1 bd=>AA AG.e Z a1 fun bw a9 a2 be _=>Ag 0 Z a2 Z fun bx d bf=>Ac<|Ak<|Aj (A4 0 Z AG.e d Z)<|Aj (AT (fun _=>BM _))<|Aj (JO J2 (Nf _ _ _ _))<|Ac<|CP h ?_ ?_<;>intro a3 h
 ·refine Ak<|Aj (Ae Z Aji Z CO.e)<|Aj (Af 0 Z d Z)<|A7 1 Z<|Ay<|Ar ?_
  cases h
  refine Am Z ⟨d.ext,Z⟩
 refine Aw<|As<|AD<|A3<|Bt Bool (fun m=>[(1,(AaD b1)),(41,.bool m)]) (fun m wr=>Bb w [.box a9 [No an.1,No an.2] 28,.box b1 [No a0.f.1,j,Ab5 a0.f.2.2.1,o,No a0.f.2.2.2.2.1,No a0.f.2.2.2.2.2.1,p] 26] wr/\(FP a0) m=some r) ?_ ?_
 ·refine Ak<|Aj (Ae Z Ajm Z CO.e)<|Aj (Af 1 Z d Z)<|Aq 2 Z<|OL 9 54 (.bool ((decide (a0.f.1=3))&&((decide (a0.f.2.2.2.2.1<1))||(decide (2048<a0.f.2.2.2.2.1))))) (fun ah=>?_) ?_
  ·refine IL (s:=45) Z (fun a=>?_) (fun a=>?_)
   ·refine Ab a<|Aj (Ae Z Ajm Z CO.e)<|Ab a<|Aj (Af 1 Z d Z)<|Ab a<|Aj (Ai Z)<|Ab a<|Aj (Ai Z)<|OL 4 53 (.bool ((decide (a0.f.2.2.2.2.1<1))||(decide (2048<a0.f.2.2.2.2.1)))) (fun ai=>?_) ?_
    ·refine IL (s:=49) Z (fun g=>?_) (fun g=>?_)
     ·iterate 3 refine An g ?_
      refine Ab a<|Aj (AB g Z)<|ai.to 3 (Wg g) Z Z
     refine Ab g<|Aj (Ae Z Ajm Z CO.e)<|Ab g<|Aj (Af 1 Z d Z)<|Ab g<|Aj (Ai Z)<|Ab a<|Aj (AM g Z)<|ai.to 3 (Wh g) Z Z
    refine Aj (AB a Z)<|ah.to 5 (AdC a) Z Z
   iterate 4 refine An a ?_
   iterate 3 refine Jj ?_
   refine An a<|Aj (AM a Z)<|ah.to 8 (AdD a) Z Z
  refine A7 1 Z<|B3 h ?_ ?_<;>intro a4 h
  ·refine Aw<|A8 _ ⟨d,h⟩
  refine Au<|Aj (Ae Z Ajm Z CO.e)<|Aj (Af 1 Z d Z)<|Aq 2 Z<|OL 6 64 (.bool ((decide (a0.f.1=6))&&(decide (a0.f.2.2.2.2.2.1<a0.f.2.2.2.2.1)))) (fun aj=>?_) ?_
  ·refine IL (s:=58) Z (fun e=>?_) (fun e=>?_)
   ·refine Ab e<|Aj (Ae Z Ajm Z CO.e)<|Ab e<|Aj (Af 1 Z d Z)<|Ab e<|Aj (Ae Z Ajm Z CO.e)<|Ab e<|Aj (Af 1 Z d Z)<|Ab e<|Aj (Ai Z)<|Aj (AB e Z)<|aj.to 5 (AdC e) Z Z
   iterate 5 refine An e ?_
   refine Aj (AM e Z)<|aj.to 5 (AdD e) Z Z
  refine Aq 1 Z<|AL<|A8 _ ⟨d,h⟩
 rintro m bm ⟨k,h⟩;refine B3 h ?_ ?_<;>intro a5 h
 ·refine AJ 1 Z<|Ay<|Av<|Ar ?_
  cases h
  refine Am Z ⟨k.ext,Z⟩
 refine Ak<|Aj (Ae Z Ajm Z CO.e)<|Aj (Af 1 Z k Z)<|Aq 2 Z<|OL 5 74 (.bool ((decide (a0.f.1=4))&&(decide ((a0.f.2.2.2.1.length:Int)=0)))) (fun ac=>?_) ?_
 ·refine IL (s:=69) Z (fun b=>?_) (fun b=>?_)
  ·refine Ab b<|Aj (Ae Z Ajm Z IK.e)<|Ab b<|Aj (Af 1 Z k Z)<|Ab b<|Aj (Bc z)<|Ab b<|Aj (Ai Z)<|Aj (AB b Z)<|ac.to 4 (AdC b) Z Z
  iterate 4 refine An b ?_
  refine Aj (AM b Z)<|ac.to 4 (AdD b) Z Z
 refine A7 1 Z<|B3 h ?_ ?_<;>intro ak h
 ·refine AJ 1 Z<|Ay<|Av<|Ar ?_
  cases h
  refine Am Z ⟨k.ext,Z⟩
 refine Ak<|Aj (Ae Z Ajm Z IK.e)<|Aj (Af 1 Z k Z)<|Aj (Bc z)<|A7 2 Z<|AP h ?_ ?_<;>intro al h
 ·refine AJ 1 Z<|Ay<|Av<|Ar ?_
  cases h
  refine Am Z ⟨k.ext,Z⟩
 refine Aw<|A2<|As<|AJ 1 Z<|Ay ?_
 cases h
 refine Am Z ⟨k.ext,Z⟩
end
def I2(a:Int):Option AjP:=
 some (a,(0,0))
def E7(a0:Qv)(a2:Int)(self:Qv->Int->Int->Option AjP):Int×Int->Option ((Int×Int) ⊕ AjP):=fun⟨c,a⟩=>
 if a<(a0.f.2.2.2.2.2.2.length:Int) then AO (0<=a/\a<(a0.f.2.2.2.2.2.2.length:Int)) (AO (Bw (a2+1)) (Qq4 (self (a0.f.2.2.2.2.2.2.getD a.toNat Qq2) c (a2+1)) (fun b=>if b.2.1=0/\b.2.2=0 then AO (Bw (a+1)) (some (Sum.inl (b.1,(a+1)))) else Qq7 Sum.inr (some (0,(b.2.1,b.2.2)))))) else Qq7 Sum.inr (I2 c)
def Kg(a0:Qv)(a2:Int)(self:Qv->Int->Int->Option AjP)(s:Int×Int):Option AjP:=Go.L.run (E7 a0 a2 self) s
def F4(self:Qv->Int->Int->Option AjP)(a0:Qv)(a1 a2:Int):Option AjP:=
 if(40<=a1)\/(8<a2) then Qq4 (Cz (2:Int) a1) (fun b=>some (0,(b.1,b.2))) else Qq4 (HD a0) (fun c=>if c=0 then AO (Bw (a1+1)) ((Kg a0 a2 self) ((a1+1),0)) else Qq4 (Cz c a1) (fun a=>some (0,(a.1,a.2))))
def Kh(self:Qv->Int->Int->Option AjP):Prop:=∀ (w:World) (H:PH) (hH:Le H (hp w)) (hU:Gj H) {a0:Qv} {a1:Int} {a2:Int} {a:Value} {b:Value} {c:Value} (d:AH .st H a (a0.f.2.1)) (e:AH .byte H b (a0.f.2.2.2.1)) (g:AH .B1 H c (a0.f.2.2.2.2.2.2)) {r:Int×(Int×Int)} (h:self a0 a1 a2=some r),Ok prog 32 [.agg #[No a0.f.1,a,Ab5 a0.f.2.2.1,b,No a0.f.2.2.2.2.1,No a0.f.2.2.2.2.2.1,c],No a1,No a2] w (fun v w'=>Ext w w'/\v=.tuple #[No r.1,.agg #[No r.2.1,No r.2.2]])
def F5:Nat->Qv->Int->Int->Option AjP
 | 0=>fun _ _ _=>none
 | n+1=>F4 (F5 n)
def LR:Qv->Int->Int->Option AjP:=F5 1000
theorem QA(self:Qv->Int->Int->Option AjP)(hself:Kh self):Kh (F4 self):=by
 intro w H hH hU a0 a1 a2 l m d an ao o r h;unfold Kh at hself;refine A1 52 [(0,.agg #[No a0.f.1,l,Ab5 a0.f.2.2.1,m,No a0.f.2.2.2.2.1,No a0.f.2.2.2.2.2.1,d]),(1,No a1),(2,No a2)] func32 Z fun hL=>Ak<|CB (t:=26) Z Z hL fun w1 b1 a5 bl _=>Aq 1 Z<|AA AG.e Z a5 fun w2 b2 k bm _=>Ac<|AD<|Bu 3 Z<|Ys 2 2 Z Z Z Z Z Z<|Ac<|AP h ?_ ?_<;>intro a6 h
 ·refine Bu 1 Z<|Ax h fun x5 a7 h=>AF k (Da _ _ (Ao k) a7) fun w6 b4 a8 bn=>Aq 1 Z<|Ag 0 Z a8 Z fun w7 am bo=>Ac<|Ay<|Ar ?_
  cases h
  refine Bv (.tmp Z) (.cell Z Aji Z AG.e (AK (i:=0) am Z)) ⟨am.ext,Z⟩
 refine Aw<|As<|AD<|Ak<|Aj (A4 1 Z B8.e k Z)<|Ax h fun x9 a9 h=>AF k (Rt (a0:=a0) _ _ (Ao k) (hU.mono  Ah) (an.mono  Ah) (ao.mono  Ah) (o.mono  Ah) a9) fun b5 bp e bf=>A7 1 Z<|AJ 2 Z<|CP h ?_ ?_<;>intro ap h
 ·refine Bu 2 Z<|Ax h fun b6 aq h=>AF e (Da _ _ (Ao e) aq) fun b7 bq ar bg=>Aq 1 Z<|Ag 0 Z ar Z fun b8 y bh=>Ac<|Ay<|Ar ?_
  cases h
  refine Bv (.tmp Z) (.cell Z Aji Z AG.e (AK (i:=0) y Z)) ⟨y.ext,Z⟩
 refine Aw<|As<|Bu 1 Z<|Az h fun au h=>Aj (A5 au)<|A7 1 Z<|Bt Int (fun c=>[(7,(AaD b2)),(9,No c)]) (fun c wr=>Bb w [.box b2 [No 0,No 0] 28,.box b1 [No a0.f.1,l,Ab5 a0.f.2.2.1,m,No a0.f.2.2.2.2.1,No a0.f.2.2.2.2.2.1,d] 26] wr/\I2 c=some r) ?_ ?_
 ·refine Ak<|Aj (Ae Z Ajm Z Mm.e)<|Aj (Af 1 Z e Z)<|Aj (Bc o)<|A7 1 Z<|A3 ?_;obtain⟨z,h⟩:=Ba h;refine B6 (Int×Int×Nat) (fun⟨b,a,n⟩=>[(2,No a2),(7,(AaD b2)),(9,No b),(31,d),(32,No (a0.f.2.2.2.2.2.2.length:Int)),(33,No a)]) (fun⟨b,a,n⟩ wr=>Bb w [.box b2 [No 0,No 0] 28,.box b1 [No a0.f.1,l,Ab5 a0.f.2.2.1,m,No a0.f.2.2.2.2.1,No a0.f.2.2.2.2.2.1,d] 26] wr/\HG (E7 a0 a2 self) n (b,a)=some r) (fun⟨b,a,n⟩=>n) ((a1+1),0,z) Z ⟨e,h⟩ ?_;rintro⟨b,a,nn92⟩ br ⟨p,h⟩;obtain⟨z,b9,rfl,h,s⟩:=AY h;refine AJ 1 Z<|AD<|AP h ?_ ?_<;>intro av h
  ·refine Aw<|As<|AD<|A3<|Ak<|Az h fun aa h=>Bf o a.toNat (Gy aa) (AW aa) ?_;rintro ca _ e96t0 aw;obtain⟨_,_,rfl,rfl,⟨_,_,rfl,⟨e96v1,rfl,e96h1⟩,⟨_,_,rfl,rfl,⟨_,_,rfl,⟨e96v3,rfl,e96h3⟩,⟨_,_,rfl,rfl,⟨_,_,rfl,rfl,⟨e96v6,rfl,e96h6⟩⟩⟩⟩⟩⟩⟩:=Go.E.Rp.HL e96t0;refine Aj (Cx aw (hH.trans p.arg))<|AA B8.e Z p fun cb cc ax bi _=>Ag 0 Z ax Z (a:=(Br Z (Br e96h1.one (Br Z (Br e96h3.one (Br Z (Br Z (Br e96h6.one K9)))))))) fun cd ay bj=>Ac<|Ak<|AA AG.e Z ay fun bs bt g ba _=>Ac<|Ak<|Aj (A4 1 Z B8.e g Z)<|Aq 2 Z<|Az h fun ac h=>Aj (A5 ac)<|Ax h fun az ad h=>AF g (hself _ _ (Ao g) (hU.mono  Ah) (e96h1.mono  Ah) (e96h3.mono  Ah) (e96h6.mono  Ah) ad) fun bu bk ae bb=>Aq 4 Z<|Ag 0 Z ae Z fun bv j bc=>Ac<|Ak<|Aj (A4 0 Z AG.e j Z) ?_
   refine Aj (AT (fun _=>BM _))<|Aj (JO J2 (Nf _ _ _ _))<|Ac<|CP h ?_ ?_<;>intro af h
   ·refine Eu (.q 0 (.q 1 (.tail 2))) mixed Qqb (fun bw ag=>?_);have u:=j.call ag;refine CF Z (A4 0 Z AG.e u Z) Z<|D4 1 Z<|BU (fun bx ah=>?_);have ai:=u.call ah;refine Ag 2 Z ai Z fun bz v bd=>Ac<|Ay<|Av<|Ar<|BG ?_;have h:=Cg.out h s;refine Av<|Bh ?_
    cases h
    refine Bv (.tmp Z) (.cell Z Aji Z AG.e (AK (i:=2) v Z)) ⟨v.ext,Z⟩
   refine Aw<|A2<|As<|Au<|Az h fun aj h=>Aj (A5 aj)<|Aq 1 Z<|AL ?_;have ak:=j.AS (i:=0) Z;have al:=ak.AS (i:=0) Z;have h:=Cg.again h s;refine AN (_,_,_) Z ⟨al,h⟩
  refine B4<|AE<|A6 ?_;have h:=Cg.out h s;refine Bi<|A8 _ ⟨p,h⟩
 rintro c b0 ⟨a3,h⟩;refine Bu 1 Z<|Aj (AT (fun _=>BM _))<|Aq 1 Z<|Ag 0 Z a3 Z fun b3 x be=>Ac<|Ay ?_
 cases h
 refine Bv (.tmp Z) (.cell Z Aji Z AG.e (AK (i:=0) x Z)) ⟨x.ext,Z⟩
theorem S6(n:Nat):Kh (F5 n):=by
 induction n with
 | zero=>unfold Kh;intros;rename_i h;cases h
 | succ n ih=>exact QA (F5 n) ih
section
variable(w:World)(H:PH)(hH:Le H (hp w)) include hH
theorem Uj(hU:Gj H){a0:Qv}{a1 a2:Int}{a b c:Value}(d:AH .st H a (a0.f.2.1))(e:AH .byte H b (a0.f.2.2.2.1))(g:AH .B1 H c (a0.f.2.2.2.2.2.2)){r:Int×(Int×Int)}(h:LR a0 a1 a2=some r):Ok prog 32 [.agg #[No a0.f.1,a,Ab5 a0.f.2.2.1,b,No a0.f.2.2.2.2.1,No a0.f.2.2.2.2.2.1,c],No a1,No a2] w (fun v w'=>Ext w w'/\v=.tuple #[No r.1,.agg #[No r.2.1,No r.2.2]]):=S6 1000 w H hH hU d e g h
def Jb(a:Ac3):Option Ac3:=
 AO (Go.E.Io 1 (a.length+([(39:UInt8)]).length)) (some ((a++[(39:UInt8)])))
def E1(a0:Ac3):Ac3×Int->Option ((Ac3×Int) ⊕ (Ac3)):=fun⟨b,a⟩=>
 if a<(a0.length:Int) then AO (0<=a/\a<(a0.length:Int)) (if(((((a0.getD a.toNat Qq2).toNat:Int)=92)\/(((a0.getD a.toNat Qq2).toNat:Int)=39))\/(((a0.getD a.toNat Qq2).toNat:Int)<32))\/(126<((a0.getD a.toNat Qq2).toNat:Int)) then AO (0<=((a0.getD a.toNat Qq2 >>> (4:UInt8)).toNat:Int)/\((a0.getD a.toNat Qq2 >>> (4:UInt8)).toNat:Int)<(([48,49,50,51,52,53,54,55,56,57,97,98,99,100,101,102]:Ac3).length:Int)) (AO (0<=((a0.getD a.toNat Qq2 &&& (15:UInt8)).toNat:Int)/\((a0.getD a.toNat Qq2 &&& (15:UInt8)).toNat:Int)<(([48,49,50,51,52,53,54,55,56,57,97,98,99,100,101,102]:Ac3).length:Int)) (AO (Go.E.Io 1 (b.length+([(92:UInt8),(([48,49,50,51,52,53,54,55,56,57,97,98,99,100,101,102]:Ac3).getD ((a0.getD a.toNat Qq2 >>> (4:UInt8)).toNat:Int).toNat Qq2),(([48,49,50,51,52,53,54,55,56,57,97,98,99,100,101,102]:Ac3).getD ((a0.getD a.toNat Qq2 &&& (15:UInt8)).toNat:Int).toNat Qq2)]).length)) (AO (Bw (a+1)) (some (Sum.inl ((b++[(92:UInt8),(([48,49,50,51,52,53,54,55,56,57,97,98,99,100,101,102]:Ac3).getD ((a0.getD a.toNat Qq2 >>> (4:UInt8)).toNat:Int).toNat Qq2),(([48,49,50,51,52,53,54,55,56,57,97,98,99,100,101,102]:Ac3).getD ((a0.getD a.toNat Qq2 &&& (15:UInt8)).toNat:Int).toNat Qq2)]),(a+1))))))) else AO (Go.E.Io 1 (b.length+([a0.getD a.toNat Qq2]).length)) (AO (Bw (a+1)) (some (Sum.inl ((b++[a0.getD a.toNat Qq2]),(a+1)))))) else Qq7 Sum.inr (Jb b)
def Ku(a0:Ac3)(s:Ac3×Int):Option Ac3:=Go.L.run (E1 a0) s
def IH(a0:Ac3):Option Ac3:=
 (Ku a0) ([(39:UInt8)],0)
theorem OT{a0:Ac3}{p:Value}(ab:AH .byte H p a0){r:Ac3}(h:IH a0=some r):
  Qqv 65 [p] w (fun v w'=>v=(Ab5 r)):=by
 refine A1 45 [(0,p)] func65 Z fun hL=>AJ 1 Z<|Ak<|Ow [(39:UInt8)] (r:=.byte) (fun _=>Sr _ _) (BJ 1) hH hL (.c1 Z .nil) fun v1 w1 bb bc bm bd=>A7 1 Z<|Bt (Ac3×Value×(List Value)) (fun⟨o,s,j⟩=>[(3,s)]) (fun⟨o,s,j⟩ wr=>Fl w [.row s 5 1 (o).length j] wr fun Oz=>AI .byte (gz H w wr Oz) o j/\Jb o=some r) ?_ ?_
 ·refine Bu 1 Z<|Aj (Bc ab)<|A7 1 Z<|A3 ?_;obtain⟨y,h⟩:=Ba h;refine B6 (Ac3×Int×Value×(List Value)×Nat) (fun⟨e,a,g,f,n⟩=>[(3,g),(7,p),(8,No (a0.length:Int)),(9,No a)]) (fun⟨e,a,g,f,n⟩ wr=>Fl w [.row g 5 1 (e).length f] wr fun Oz=>AI .byte (gz H w wr Oz) e f/\HG (E1 a0) n (e,a)=some r) (fun⟨e,a,g,f,n⟩=>n) ([(39:UInt8)],0,v1,bb,y) Z ⟨bc,bd,h⟩ ?_;rintro⟨e,a,g,f,nn79⟩ bn ⟨k,d,h⟩;obtain⟨y,bv,rfl,h,u⟩:=AY h;refine AJ 1 Z<|AD<|AP h ?_ ?_<;>intro aq h
  ·refine Aw<|As<|AD<|A3<|Ak<|Az h fun ac h=>Bf ab a.toNat (Gy ac) (AW ac) ?_;rintro bw _ rfl ar;refine Aj (Bl ar (hH.trans k.arg))<|A7 1 Z<|Bu 3 Z<|Ys 2 2 Z Z Z Z Z Z<|Aq 1 Z<|Ys 2 6 Z Z Z Z Z Z<|Aq 1 Z<|Ys 2 10 Z Z Z Z Z Z<|Ac<|AP h ?_ ?_<;>intro au h
   ·refine Qm (Qqz 0 7 (.h 7 (.tail 8))) mixed Qqb (fun bx ad=>?_);have av:=k.call ad;have ah:=AR k ad;refine D4 2 Z<|CF Z (AhA (c:=4) Z Qqc) Z<|Az h fun aw h=>CF Z (NH aw) Z<|D4 1 Z<|CF Z (AcZ (b:=15) Z Z Z) Z<|Az h fun ax h=>CF Z (NH ax) Z<|RL ([(92:UInt8),(([48,49,50,51,52,53,54,55,56,57,97,98,99,100,101,102]:Ac3).getD ((a0.getD a.toNat Qq2 >>> (4:UInt8)).toNat:Int).toNat Qq2),(([48,49,50,51,52,53,54,55,56,57,97,98,99,100,101,102]:Ac3).getD ((a0.getD a.toNat Qq2 &&& (15:UInt8)).toNat:Int).toNat Qq2)]) (r:=.byte) Z Z (fun _=>Abh _ _ _ _) Z (BJ 3) hH av (.c1 Z (.c1 Z (.c1 Z .nil))) fun bz b0 bo ae ai x=>BU (fun b1 af=>?_);have ay:=ae.call af;have z:=AR ae af;refine Az h fun az h=>?_;have d:=d.mono (Aa (ah.trans (ai.trans z)));have x:=x.mono (Aa z)
    refine By (r:=.byte) 0 e ([(92:UInt8),(([48,49,50,51,52,53,54,55,56,57,97,98,99,100,101,102]:Ac3).getD ((a0.getD a.toNat Qq2 >>> (4:UInt8)).toNat:Int).toNat Qq2),(([48,49,50,51,52,53,54,55,56,57,97,98,99,100,101,102]:Ac3).getD ((a0.getD a.toNat Qq2 &&& (15:UInt8)).toNat:Int).toNat Qq2)]) Z Afr ay Z d x az fun be b2 a1 a2 bh a3=>Aq 1 Z<|AL<|A2<|As<|Au<|Az h fun a4 h=>Aj (A5 a4)<|Aq 1 Z<|AL ?_;have h:=Cg.again h u;refine AN (_,_,_,_,_) Z ⟨a2,a3,h⟩
   refine Au<|Aq 2 Z<|B7 [a0.getD a.toNat Qq2] (r:=.byte) (fun _=>Sr _ _) k (.c1 Z .nil) fun b3 b4 bp a5 aj a6=>Az h fun ak h=>?_;have d:=d.mono (Aa aj);refine By (r:=.byte) 0 e [a0.getD a.toNat Qq2] Z Afr a5 Z d a6 ak fun bf b5 a7 a8 bi a9=>Aq 1 Z<|AL<|A2<|As<|Au<|Az h fun al h=>Aj (A5 al)<|Aq 1 Z<|AL ?_;have h:=Cg.again h u;refine AN (_,_,_,_,_) Z ⟨a8,a9,h⟩
  refine B4<|AE<|A6 ?_;have h:=Cg.out h u;refine Bi<|A8 (_,_,_) ⟨k,d,h⟩
 rintro⟨o,s,j⟩ bq ⟨ba,t,h⟩;refine Bu 1 Z<|B7 [(39:UInt8)] (r:=.byte) (fun _=>Sr _ _) ba (.c1 Z .nil) fun br bs bj am ag an=>Az h fun ao h=>?_;have t:=t.mono (Aa ag);refine By (r:=.byte) 0 o [(39:UInt8)] Z Afr am Z t an ao fun bt bu bk aa bg ap=>Aj (UL (aa.RJ hH (i:=0) Z ap) (Le.refl _))<|A7 1 Z<|Ay ?_
 cases h
 refine Am Z ⟨aa.ext,Z⟩
end
def I3(a0:Qv)(a:(List Ac3))(b:Ac3):Option (Qv):=
 some ((Qv.mk a0.f.1 a a0.f.2.2.1 b a0.f.2.2.2.2.1 a0.f.2.2.2.2.2.1 ([])))
def Ie(a0:Qv)(b:(List Ac3))(c:Ac3):Int->Option ((Int) ⊕ (Qv)):=fun a=>
 if a<(a0.f.2.2.2.2.2.2.length:Int) then AO (0<=a/\a<(a0.f.2.2.2.2.2.2.length:Int)) none else Qq7 Sum.inr ((I3 a0 b c))
def Ki(a0:Qv)(a:(List Ac3))(b:Ac3)(s:Int):Option (Qv):=Go.L.run (Ie a0 a b) s
def I4(_self:Qv->Option (Qv))(a0:Qv):Option (Qv):=
 Qq4 (Dd a0.f.2.1) (fun a=>Qq4 (Ft a0.f.2.2.2.1) (fun b=>(Ki a0 a b) (0:Int)))
def LS(self:Qv->Option (Qv)):Prop:=∀ (w:World) (H:PH) (hH:Le H (hp w)) {a0:Qv} {a:Value} {b:Value} {c:Value} (i:AH .st H a (a0.f.2.1)) (j:AH .byte H b (a0.f.2.2.2.1)) (k:AH .B1 H c (a0.f.2.2.2.2.2.2)) {r:Qv} (h:self a0=some r),Ok prog 96 [.agg #[No a0.f.1,a,Ab5 a0.f.2.2.1,b,No a0.f.2.2.2.2.1,No a0.f.2.2.2.2.2.1,c]] w (fun v w'=>Ext w w'/\∃ d e g,v=.agg #[No r.f.1,d,Ab5 r.f.2.2.1,e,No r.f.2.2.2.2.1,No r.f.2.2.2.2.2.1,g]/\AH .st (un H (nw w w')) d (r.f.2.1)/\AH .byte (un H (nw w w')) e (r.f.2.2.2.1)/\Ck 26 .B1 H w w' g (r.f.2.2.2.2.2.2))
def Jc:Nat->Qv->Option (Qv)
 | 0=>fun _=>none
 | n+1=>I4 (Jc n)
def LU:Qv->Option (Qv):=Jc 1000
theorem QB(self:Qv->Option (Qv))(_hself:LS self):LS (I4 self):=by
 intro w H hH a0 a1 a2 ad a3 a4 ae r h;refine A1 32 [(0,.agg #[No a0.f.1,a1,Ab5 a0.f.2.2.1,a2,No a0.f.2.2.2.2.1,No a0.f.2.2.2.2.2.1,ad])] func96 Z fun hL=>Ak<|CB (t:=26) Z Z hL fun w1 b1 bc bi _=>AA B8.e Z bc fun w2 b2 bd bj _=>Ac<|Eu (.q 0 (.q 1 (.q 3 (.q 4 (.h 2 (.q 6 (.h 5 (.tail 7)))))))) mixed Qqb (fun w3 be=>?_);have u:=bd.call be;refine CF Z (Ae Z Ajm Z Nd.e) Z<|CF Z (Af 1 Z u Z) Z<|CF Z (Ae Z Ajm Z IK.e) Z<|CF Z (Af 1 Z u Z) Z<|Ax h fun x5 bf h=>Ct Z Z Z (fun w7 af=>GF _ _ (Ao (u.call af)) (a3.mono  Ah) bf) ?_;rintro w7 l w6 af ag ⟨_,rfl,av⟩;have ah:=u.call af;have ai:=ah.call ag;have bl:=AR ah ag;have a:=av.Dz hH ah ag;refine CF Z (Ae Z Ajm Z Nd.e) Z<|Ax h fun x9 bg h=>Ct Z Z Z (fun bh m=>K0 _ _ (Ao (ai.call m)) (a4.mono  Ah) bg) ?_;rintro bh k bp m o ⟨_,rfl,aj⟩;have p:=ai.call m;have ax:=AR ai m;have a:=a.mono (Aa ax)
 have ak:=p.call o;have ay:=AR p o;have b:=aj.Dz hH p o;have a:=a.mono (Aa ay);refine BU (fun bq al=>?_);have a5:=ak.call al;have v:=AR ak al;have a:=a.mono (Aa v);have b:=b.mono (Aa v);refine B9 1 Z a.one a5 Z Z ?_;intro br a6 x;have a:=a.mono (Aa x);have b:=b.mono (Aa x);refine Aj (Ae Z Ajm Z IK.e)<|B9 1 Z b.one a6 Z Z ?_;intro bs am y;have a:=a.mono (Aa y);have b:=b.mono (Aa y);refine Ac<|Ak<|Aj (Ae Z Ajm Z Mm.e)<|Aj (Af 1 Z am Z)<|A7 1 Z<|Ak<|Aj (Ae Z Ajm Z Mm.e)<|B9 1 Z Z am Z Z ?_;intro bt a7 z;have a:=a.mono (Aa z);have b:=b.mono (Aa z);refine Ac ?_
 refine Bt Unit (fun(_:Unit)=>[(1,(AaD b1)),(2,(AaD b2))]) (fun(_:Unit) wr=>Fl w [.box b2 AcE 26,.box b1 [No a0.f.1,l,Ab5 a0.f.2.2.1,k,No a0.f.2.2.2.2.1,No a0.f.2.2.2.2.2.1,Aa4] 26] wr fun Oz=>AH .st (gz H w wr Oz) l x5/\AH .byte (gz H w wr Oz) k x9/\(I3 a0 x5 x9)=some r) ?_ ?_
 ·refine Bu 1 Z<|Aj (Bc ae)<|A7 1 Z<|A3 ?_;obtain⟨az,h⟩:=Ba h;refine B6 (Int×Nat) (fun⟨c,n⟩=>[(1,(AaD b1)),(2,(AaD b2)),(17,ad),(18,No (a0.f.2.2.2.2.2.2.length:Int)),(19,No c)]) (fun⟨c,n⟩ wr=>Fl w [.box b2 AcE 26,.box b1 [No a0.f.1,l,Ab5 a0.f.2.2.1,k,No a0.f.2.2.2.2.1,No a0.f.2.2.2.2.2.1,Aa4] 26] wr fun Oz=>AH .st (gz H w wr Oz) l x5/\AH .byte (gz H w wr Oz) k x9/\HG (Ie a0 x5 x9) n c=some r) (fun⟨c,n⟩=>n) (0,az) Z ⟨a7,a,b,h⟩ ?_;rintro⟨c,nn47⟩ bm ⟨s,d,e,h⟩;obtain⟨az,bu,rfl,h,a8⟩:=AY h;refine AJ 1 Z<|AD<|AP h ?_ ?_<;>intro a9 h
  ·refine Aw<|As<|AD<|A3<|Ak<|Az h fun an h=>Bf ae c.toNat (Gy an) (AW an) ?_;rintro bv _ e51t0 ba;obtain⟨_,_,rfl,rfl,⟨_,_,rfl,⟨e51v1,rfl,e51h1⟩,⟨_,_,rfl,rfl,⟨_,_,rfl,⟨e51v3,rfl,e51h3⟩,⟨_,_,rfl,rfl,⟨_,_,rfl,rfl,⟨e51v6,rfl,e51h6⟩⟩⟩⟩⟩⟩⟩:=Go.E.Rp.HL e51t0;refine Aj (Cx ba (hH.trans s.arg))<|AA B8.e Z s ?_;intro bw bx bb aa _;have d:=d.mono (Aa aa);have e:=e.mono (Aa aa);refine Ag 0 Z bb Z (a:=(Br Z (Br e51h1.one (Br Z (Br e51h3.one (Br Z (Br Z (Br e51h6.one K9)))))))) ?_;intro bz bn ab;have d:=d.mono (Aa ab);have e:=e.mono (Aa ab);refine Ac ?_
   cases h
  refine B4<|AE<|A6 ?_;have h:=Cg.out h a8;refine Bi<|A8 () ⟨s,d,e,h⟩
 rintro _ bo ⟨ao,g,j,h⟩;refine Ak<|Aj (A4 1 Z B8.e ao Z)<|Ag 0 Z ao Z (a:=(Br Z (Br g.one (Br Z (Br j.one (AU Z)))))) ?_;intro b0 ap ac;have g:=g.mono (Aa ac);have j:=j.mono (Aa ac);refine Ac<|Ay ?_
 cases h
 refine Dy (.cell Z Ajm Z B8.e (AK (i:=0) ap Z)) ⟨ap.ext,_,_,_,Z,(g.mono  EC),(j.mono  EC),Ck.nil⟩
theorem S7(n:Nat):LS (Jc n):=by
 induction n with
 | zero=>unfold LS;intros;rename_i h;cases h
 | succ n ih=>exact QB (Jc n) ih
section
variable(w:World)(H:PH)(hH:Le H (hp w)) include hH
theorem PN{a0:Qv}{a b c:Value}(d:AH .st H a (a0.f.2.1))(e:AH .byte H b (a0.f.2.2.2.1))(g:AH .B1 H c (a0.f.2.2.2.2.2.2)){r:Qv}(h:LU a0=some r):Ok prog 96 [.agg #[No a0.f.1,a,Ab5 a0.f.2.2.1,b,No a0.f.2.2.2.2.1,No a0.f.2.2.2.2.2.1,c]] w (fun v w'=>Ext w w'/\∃ i j k,v=.agg #[No r.f.1,i,Ab5 r.f.2.2.1,j,No r.f.2.2.2.2.1,No r.f.2.2.2.2.2.1,k]/\AH .st (un H (nw w w')) i (r.f.2.1)/\AH .byte (un H (nw w w')) j (r.f.2.2.2.1)/\Ck 26 .B1 H w w' k (r.f.2.2.2.2.2.2)):=S7 1000 w H hH d e g h
end
def Ig(a:Int)(b:List Qv):Option (Qv):=
 some ((Qv.mk a ([]) ([]:Ac3) ([]) (0:Int) (0:Int) b))
def Ht(a0:Qv)(a1:Bool)(d:Int)(self:Qv->Bool->Option (Qv)):(List Qv)×Int->Option (((List Qv)×Int) ⊕ (Qv)):=fun⟨b,a⟩=>
 if a<(a0.f.2.2.2.2.2.2.length:Int) then AO (0<=a/\a<(a0.f.2.2.2.2.2.2.length:Int)) (Qq4 (self (a0.f.2.2.2.2.2.2.getD a.toNat Qq2) a1) (fun c=>if c.f.1=d then none else AO (Go.E.Io 112 (b.length+([c]).length)) (AO (Bw (a+1)) (some (Sum.inl ((b++[c]),(a+1))))))) else Qq7 Sum.inr ((Ig d) b)
def JF(a0:Qv)(a1:Bool)(a:Int)(self:Qv->Bool->Option (Qv))(s:(List Qv)×Int):Option (Qv):=Go.L.run (Ht a0 a1 a self) s
def Gc(a0:Qv)(a1:Bool)(self:Qv->Bool->Option (Qv))(a:Int):Option (Qv):=
 (JF a0 a1 a self) (([]:List Qv),0)
def HS(self:Qv->Bool->Option (Qv))(a0:Qv)(a1:Bool):Option (Qv):=
 if a0.f.1=10 then AO (0<=(0:Int)/\(0:Int)<(a0.f.2.2.2.2.2.2.length:Int)) (Qq4 (self (a0.f.2.2.2.2.2.2.getD ((0:Int).toNat) Qq2) (!a1)) (fun e=>some e)) else Qq4 (IG a0.f.1) (fun a=>if(bif a then !a1 else false) then Qq4 (LU a0) (fun b=>some b) else Qq4 (IG a0.f.1) (fun c=>if c then Qq4 (LU a0) (fun d=>some ((Qv.mk (10:Int) ([]) ([]:Ac3) ([]) (0:Int) (0:Int) ([d])))) else(if a1 then AO (Bw (17 - a0.f.1)) ((Gc a0 a1 self) (17 - a0.f.1)) else(Gc a0 a1 self) a0.f.1)))
def J6(self:Qv->Bool->Option (Qv)):Prop:=∀ (w:World) (H:PH) (hH:Le H (hp w)) {a0:Qv} {a1:Bool} {a:Value} {b:Value} {c:Value} (i:AH .st H a (a0.f.2.1)) (j:AH .byte H b (a0.f.2.2.2.1)) (k:AH .B1 H c (a0.f.2.2.2.2.2.2)) {r:Qv} (h:self a0 a1=some r),Ok prog 58 [.agg #[No a0.f.1,a,Ab5 a0.f.2.2.1,b,No a0.f.2.2.2.2.1,No a0.f.2.2.2.2.2.1,c],.bool a1] w (fun v w'=>Ext w w'/\∃ d e g,v=.agg #[No r.f.1,d,Ab5 r.f.2.2.1,e,No r.f.2.2.2.2.1,No r.f.2.2.2.2.2.1,g]/\AH .st (un H (nw w w')) d (r.f.2.1)/\AH .byte (un H (nw w w')) e (r.f.2.2.2.1)/\AH .B1 (un H (nw w w')) g (r.f.2.2.2.2.2.2))
def It:Nat->Qv->Bool->Option (Qv)
 | 0=>fun _ _=>none
 | n+1=>HS (It n)
def MH:Qv->Bool->Option (Qv):=It 1000
theorem Qa(self:Qv->Bool->Option (Qv))(hself:J6 self):J6 (HS self):=by
 intro w H hH a0 a1 au av an bl bm ao r h;unfold J6 at hself;refine A1 75 [(0,.agg #[No a0.f.1,au,Ab5 a0.f.2.2.1,av,No a0.f.2.2.2.2.1,No a0.f.2.2.2.2.2.1,an]),(1,.bool a1)] func58 Z fun hL=>Ak<|CB (t:=26) Z Z hL fun w1 b1 c5 dw _=>AA B8.e Z c5 fun w2 b2 q dx _=>Ac<|AD<|A3<|Ak<|Aj (Ae Z Ajm Z CO.e)<|Aj (Af 1 Z q Z)<|A7 2 Z<|AP h ?_ ?_<;>intro c6 h
 ·refine Ak<|Aj (Ae Z Ajm Z Mm.e)<|Aj (Af 1 Z q Z)<|Az h fun cp h=>Bf ao ((0:Int).toNat) (Gy cp) (AW cp) ?_;rintro p5 _ e5t0 c8;obtain⟨_,_,rfl,rfl,⟨_,_,rfl,⟨e5v1,rfl,e5h1⟩,⟨_,_,rfl,rfl,⟨_,_,rfl,⟨e5v3,rfl,e5h3⟩,⟨_,_,rfl,rfl,⟨_,_,rfl,rfl,⟨e5v6,rfl,e5h6⟩⟩⟩⟩⟩⟩⟩:=Go.E.Rp.HL e5t0;refine Aj (Cx c8 (hH.trans q.arg))<|Aq 2 Z<|Ax h fun x7 c9 h=>Bk q (hself _ _ (Ao q) (e5h1.mono  Ah) (e5h3.mono  Ah) (e5h6.mono  Ah) c9) ?_;rintro _ w8 ⟨dy,dz,d0,rfl,b6,b7,b8⟩ bn da d1;have ai:=b6.mono (Er q bn);have aj:=b7.mono (Er q bn);have ak:=b8.mono (Er q bn);refine Ag 0 Z da Z (a:=(Br Z (Br ai.one (Br Z (Br aj.one (Br Z (Br Z (Br ak.one K9)))))))) ?_;intro w9 cq a7;have ai:=ai.mono (Aa a7);have aj:=aj.mono (Aa a7);have ak:=ak.mono (Aa a7);refine Ac<|Ay<|Av<|Ar ?_
  cases h
  refine Dy (.cell Z Ajm Z B8.e (AK (i:=0) cq Z)) ⟨cq.ext,_,_,_,Z,(ai.mono  EC),(aj.mono  EC),(ak.mono  EC)⟩
 refine Ak<|Aj (Ae Z Ajm Z CO.e)<|Aj (Af 1 Z q Z)<|Ax h fun el cr h=>AF q (M6 _ _ (Ao q) cr) fun em d2 k dg=>Aq 1 Z<|Sc 2 3 Z Z Z Z Z Z Z<|A7 1 Z<|B3 h ?_ ?_<;>intro cs h
 ·refine Ak<|Aj (A4 1 Z B8.e k Z)<|Ax h fun en ct h=>Bk k (PN (a0:=a0) _ _ (Ao k) (bl.mono  Ah) (bm.mono  Ah) (ao.mono  Ah) ct) ?_;rintro _ eo ⟨dh,di,dj,rfl,bo,bp,bq⟩ a8 cu dk;have ab:=bo.mono (Er k a8);have ac:=bp.mono (Er k a8);have ad:=bq.Dz hH k a8;refine Ag 0 Z cu Z (a:=(Br Z (Br ab.one (Br Z (Br ac.one (Br Z (Br Z (Br ad.one K9)))))))) ?_;intro ep br aw;have ab:=ab.mono (Aa aw);have ac:=ac.mono (Aa aw);have ad:=ad.mono (Aa aw);refine Ac<|Ay<|Av<|Ar ?_
  cases h
  refine Dy (.cell Z Ajm Z B8.e (AK (i:=0) br Z)) ⟨br.ext,_,_,_,Z,(ab.mono  EC),(ac.mono  EC),(ad.mono  EC)⟩
 refine Ak<|Aj (Ae Z Ajm Z CO.e)<|Aj (Af 1 Z k Z)<|Ax h fun eq cv h=>AF k (M6 _ _ (Ao k) cv) fun er d3 s dl=>A7 1 Z<|B3 h ?_ ?_<;>intro cw h
 ·refine Ak<|Aj (A4 1 Z B8.e s Z)<|Ax h fun db cx h=>Bk s (PN (a0:=a0) _ _ (Ao s) (bl.mono  Ah) (bm.mono  Ah) (ao.mono  Ah) cx) ?_;rintro _ es ⟨dm,dn,dp,rfl,bs,bt,bu⟩ a9 cy dq;have u:=bs.mono (Er s a9);have v:=bt.mono (Er s a9);have x:=bu.Dz hH s a9;refine B7 [db] (r:=.B1) (fun _=>Nx _ _ _ _ _ _ _ _) cy (.c7 (Go.E.Rp.H4 ⟨_,_,Z,Z,⟨_,_,Z,⟨_,Z,u⟩,⟨_,_,Z,Z,⟨_,_,Z,⟨_,Z,v⟩,⟨_,_,Z,Z,⟨_,_,Z,Z,⟨_,Z,x⟩⟩⟩⟩⟩⟩⟩) .nil) ?_;intro et eu d4 cz ax ap;have u:=u.mono (Aa ax);have v:=v.mono (Aa ax);have x:=x.mono (Aa ax);refine Aj (AT (fun _=>N8 _ _ ap.one _))<|Ag 0 Z cz Z (a:=(Br Z (Br Z (Br Z (Br Z (Br Z (Br Z (Br ap.one K9)))))))) ?_;intro ev bv al;have u:=u.mono (Aa al);have v:=v.mono (Aa al);have x:=x.mono (Aa al);have ap:=ap.mono (Aa al);refine Ac<|Ay<|Av<|Ar ?_
  cases h
  refine Dy (.cell Z Ajm Z B8.e (AK (i:=0) bv Z)) ⟨bv.ext,_,_,_,Z,(AH.nil _ _),(AH.nil _ _),(ap.mono  EC)⟩
 refine Aw<|A2<|As<|Ak<|Aj (Ae Z Ajm Z CO.e)<|Aj (Af 1 Z s Z)<|Aj (AT (fun _=>AfQ _ _))<|AA B8.e Z s fun ew ar c0 dr _=>Ag 0 Z c0 Z fun ex ba ds=>Ac<|Bt Int (fun ah=>[(1,.bool a1),(2,(AaD b1)),(4,(AaD b2)),(5,(AaD ar))]) (fun ah wr=>Bb w [.box ar [No ah,Aa4,(Ab5 []),Aa4,No 0,No 0,Aa4] 26,.box b2 AcE 26,.box b1 [No a0.f.1,au,Ab5 a0.f.2.2.1,av,No a0.f.2.2.2.2.1,No a0.f.2.2.2.2.2.1,an] 26] wr/\(Gc a0 a1 self) ah=some r) ?_ ?_
 ·refine AJ 1 Z<|B3 h ?_ ?_<;>intro c1 h
  ·refine Au<|Aj (Ae Z Ajm Z CO.e)<|Aj (Af 2 Z ba Z)<|Az h fun c2 h=>Aj (A5 c2)<|Aj (Ae Z Ajm Z CO.e)<|B9 0 Z Z ba Z Z fun ey c3 dt=>AL<|A8 _ ⟨c3,h⟩
  refine Aw<|A8 _ ⟨ba,h⟩
 rintro ah d5 ⟨bw,h⟩;refine Bt ((List Qv)×Value×(List Value)) (fun⟨a5,ay,am⟩=>[(4,(AaD b2)),(5,(AaD ar))]) (fun⟨a5,ay,am⟩ wr=>Fl w [.row ay 26 7 (a5).length am,.box ar [No ah,Aa4,(Ab5 []),Aa4,No 0,No 0,ay] 26,.box b2 AcE 26,.box b1 [No a0.f.1,au,Ab5 a0.f.2.2.1,av,No a0.f.2.2.2.2.1,No a0.f.2.2.2.2.2.1,an] 26] wr fun Oz=>AI .B1 (gz H w wr Oz) a5 am/\(Ig ah) a5=some r) ?_ ?_
 ·refine Ak<|Aj (Ae Z Ajm Z Mm.e)<|Aj (Af 2 Z bw Z)<|Aj (Bc ao)<|A7 1 Z<|A3 ?_;obtain⟨b9,dc,ca⟩:=DS .B1 H 26 bw;obtain⟨bb,h⟩:=Ba h;refine B6 ((List Qv)×Int×Value×(List Value)×Nat) (fun⟨o,c,y,j,n⟩=>[(1,.bool a1),(4,(AaD b2)),(5,(AaD ar)),(47,an),(48,No (a0.f.2.2.2.2.2.2.length:Int)),(49,No c)]) (fun⟨o,c,y,j,n⟩ wr=>Fl w [.row y 26 7 (o).length j,.box ar [No ah,Aa4,(Ab5 []),Aa4,No 0,No 0,y] 26,.box b2 AcE 26,.box b1 [No a0.f.1,au,Ab5 a0.f.2.2.1,av,No a0.f.2.2.2.2.1,No a0.f.2.2.2.2.2.1,an] 26] wr fun Oz=>AI .B1 (gz H w wr Oz) o j/\HG (Ht a0 a1 ah self) n (o,c)=some r) (fun⟨o,c,y,j,n⟩=>n) (([]:List Qv),0,Aa4,[],bb) Z ⟨b9,ca,h⟩ ?_;rintro⟨o,c,y,j,nn121⟩ du ⟨az,a,h⟩
  obtain⟨bb,d6,rfl,h,be⟩:=AY h;refine AJ 1 Z<|AD<|AP h ?_ ?_<;>intro cb h
  ·refine Aw<|As<|AD<|A3<|Ak<|Az h fun bf h=>Bf ao c.toNat (Gy bf) (AW bf) ?_;rintro d7 _ e126t0 cc;obtain⟨_,_,rfl,rfl,⟨_,_,rfl,⟨e126v1,rfl,e126h1⟩,⟨_,_,rfl,rfl,⟨_,_,rfl,⟨e126v3,rfl,e126h3⟩,⟨_,_,rfl,rfl,⟨_,_,rfl,rfl,⟨e126v6,rfl,e126h6⟩⟩⟩⟩⟩⟩⟩:=Go.E.Rp.HL e126t0;refine Aj (Cx cc (hH.trans az.arg))<|AA B8.e Z az ?_;intro d8 d9 cd bx _;have a:=a.mono (Aa bx);refine Ag 0 Z cd Z (a:=(Br Z (Br e126h1.one (Br Z (Br e126h3.one (Br Z (Br Z (Br e126h6.one K9)))))))) ?_;intro ea z bz;have a:=a.mono (Aa bz);refine Ac<|Ak<|Aj (A4 0 Z B8.e z Z)<|Aq 1 Z<|Ax h fun bc ce h=>Bk z (hself _ _ (Ao z) (e126h1.mono  Ah) (e126h3.mono  Ah) (e126h6.mono  Ah) ce) ?_;rintro _ eb ⟨dd,de,df,rfl,bi,bj,bk⟩ a2 cf b0;have d:=bi.mono (Er z a2);have e:=bj.mono (Er z a2);have g:=bk.mono (Er z a2);have a:=a.mono (Aa b0)
   refine AA B8.e Z cf ?_;intro ec ed cg ae _;have a:=a.mono (Aa ae);have d:=d.mono (Aa ae);have e:=e.mono (Aa ae);have g:=g.mono (Aa ae);refine Ag 0 Z cg Z (a:=(Br Z (Br d.one (Br Z (Br e.one (Br Z (Br Z (Br g.one K9)))))))) ?_;intro ee aa af;have a:=a.mono (Aa af);have d:=d.mono (Aa af);have e:=e.mono (Aa af);have g:=g.mono (Aa af);refine Ac ?_;have b:=aa.rG H;refine Ak<|Aj (Ae Z Ajm Z CO.e)<|Aj (Af 0 Z aa Z)<|Aj (Ae Z Ajm Z CO.e)<|Aj (Af 3 Z aa Z)<|A7 1 Z<|AP h ?_ ?_<;>intro ch h
   ·cases h
   refine Au<|Aj (Ae Z Ajm Z Mm.e)<|Aj (Af 3 Z aa Z)<|Aj (A4 0 Z B8.e aa Z)<|B7 [bc] (r:=.B1) (fun _=>Nx _ _ _ _ _ _ _ _) aa (.c7 (Go.E.Rp.H4 ⟨_,_,Z,Z,⟨_,_,Z,⟨_,Z,(d.mono b)⟩,⟨_,_,Z,Z,⟨_,_,Z,⟨_,Z,(e.mono b)⟩,⟨_,_,Z,Z,⟨_,_,Z,Z,⟨_,Z,(g.mono b)⟩⟩⟩⟩⟩⟩⟩) .nil) ?_;intro ef eg dv ci b3 ag;have b:=b.trans (Aa b3);refine Az h fun cj h=>By (r:=.B1) 2 o [bc] Z Aj6 ci Z (a.mono b) ag cj ?_;intro c4 eh ck bg a6 p;have ag:=ag.mono (Aa a6);have b:=b.trans (Aa a6);refine Aj (Ae Z Ajm Z Mm.e)<|B9 3 Z (row_one (bg.at (i:=2) Z)) bg Z Z ?_;intro ei cl aq;have ag:=ag.mono (Aa aq);have p:=p.mono (Aa aq);have b:=b.trans (Aa aq);refine AL<|A2<|As<|Au<|Az h fun cm h=>Aj (A5 cm)<|Aq 1 Z<|AL ?_;have cn:=cl.AS (i:=0) Z
   have p:=p.mono (Aa (Al (i:=0) Z));have b:=b.trans (Aa (Al (i:=0) Z));have co:=cn.AS (i:=0) Z;have p:=p.mono (Aa (Al (i:=0) Z));have b:=b.trans (Aa (Al (i:=0) Z));have h:=Cg.again h be;refine AN (_,_,_,_,_) Z ⟨co,p,h⟩
  refine B4<|AE<|A6 ?_;have h:=Cg.out h be;refine Bi<|A8 (_,_,_) ⟨az,a,h⟩
 rintro⟨a5,ay,am⟩ ej ⟨bd,a3,h⟩;refine Ak<|Aj (A4 1 Z B8.e bd Z)<|Ag 2 Z bd Z (a:=(Br Z (Br Z (Br Z (Br Z (Br Z (Br Z (Br (row_one (bd.at (i:=0) Z)) K9)))))))) ?_;intro ek a4 b4;have a3:=a3.mono (Aa b4);refine Ac<|Ay ?_
 cases h
 refine Dy (.cell Z Ajm Z B8.e (AK (i:=2) a4 Z)) ⟨a4.ext,_,_,_,Z,(AH.nil _ _),(AH.nil _ _),((a4.Ip hH (i:=0) Z a3).vec hH)⟩
theorem RR(n:Nat):J6 (It n):=by
 induction n with
 | zero=>unfold J6;intros;rename_i h;cases h
 | succ n ih=>exact Qa (It n) ih
section
variable(w:World)(H:PH)(hH:Le H (hp w)) include hH
theorem To{a0:Qv}{a1:Bool}{a b c:Value}(d:AH .st H a (a0.f.2.1))(e:AH .byte H b (a0.f.2.2.2.1))(g:AH .B1 H c (a0.f.2.2.2.2.2.2)){r:Qv}(h:MH a0 a1=some r):Ok prog 58 [.agg #[No a0.f.1,a,Ab5 a0.f.2.2.1,b,No a0.f.2.2.2.2.1,No a0.f.2.2.2.2.2.1,c],.bool a1] w (fun v w'=>Ext w w'/\∃ i j k,v=.agg #[No r.f.1,i,Ab5 r.f.2.2.1,j,No r.f.2.2.2.2.1,No r.f.2.2.2.2.2.1,k]/\AH .st (un H (nw w w')) i (r.f.2.1)/\AH .byte (un H (nw w w')) j (r.f.2.2.2.1)/\AH .B1 (un H (nw w w')) k (r.f.2.2.2.2.2.2)):=RR 1000 w H hH d e g h
end
def Gv(_self1:Qv->Option Ac3)(self2:(List Qv)->Ac3->(List Int)->Option Ac3)(a0:Qv):Option Ac3:=
 if a0.f.1=1 then AO (0<=(0:Int)/\(0:Int)<(a0.f.2.1.length:Int)) (some (a0.f.2.1.getD ((0:Int).toNat) Qq2)) else(if a0.f.1=2 then Qq4 (Sv a0.f.2.1 ([32]:Ac3)) (fun g=>AO (([34]:Ac3).length+g.length<=9223372036854775807) (AO ((([34]:Ac3)++g).length+([34]:Ac3).length<=9223372036854775807) (some (((([34]:Ac3)++g)++([34]:Ac3)))))) else(if a0.f.1=3 then AO (0<=(0:Int)/\(0:Int)<(a0.f.2.1.length:Int)) (AO ((a0.f.2.1.getD ((0:Int).toNat) Qq2).length+([126]:Ac3).length<=9223372036854775807) (Qq4 (Su a0.f.2.2.2.2.1) (fun a=>AO ((a0.f.2.1.getD ((0:Int).toNat) Qq2++([126]:Ac3)).length+a.length<=9223372036854775807) (AO (((a0.f.2.1.getD ((0:Int).toNat) Qq2++([126]:Ac3))++a).length+([126]:Ac3).length<=9223372036854775807) (AO (0<=(1:Int)/\(1:Int)<(a0.f.2.1.length:Int)) (AO ((((a0.f.2.1.getD ((0:Int).toNat) Qq2++([126]:Ac3))++a)++([126]:Ac3)).length+(a0.f.2.1.getD ((1:Int).toNat) Qq2).length<=9223372036854775807) (some (((((a0.f.2.1.getD ((0:Int).toNat) Qq2++([126]:Ac3))++a)++([126]:Ac3))++a0.f.2.1.getD ((1:Int).toNat) Qq2))))))))) else(if a0.f.1=4 then Qq4 (IH a0.f.2.2.2.1) (fun h=>some h) else(if a0.f.1=5 then AO (([47]:Ac3).length+a0.f.2.2.1.length<=9223372036854775807) (some ((([47]:Ac3)++a0.f.2.2.1))) else(if a0.f.1=6 then AO (([47]:Ac3).length+a0.f.2.2.1.length<=9223372036854775807) (AO ((([47]:Ac3)++a0.f.2.2.1).length+([61]:Ac3).length<=9223372036854775807) (Qq4 (Su a0.f.2.2.2.2.1) (fun b=>AO (((([47]:Ac3)++a0.f.2.2.1)++([61]:Ac3)).length+b.length<=9223372036854775807) (AO ((((([47]:Ac3)++a0.f.2.2.1)++([61]:Ac3))++b).length+([46,46]:Ac3).length<=9223372036854775807) (Qq4 (Su a0.f.2.2.2.2.2.1) (fun c=>AO (((((([47]:Ac3)++a0.f.2.2.1)++([61]:Ac3))++b)++([46,46]:Ac3)).length+c.length<=9223372036854775807) (some ((((((([47]:Ac3)++a0.f.2.2.1)++([61]:Ac3))++b)++([46,46]:Ac3))++c))))))))) else(if a0.f.1=7 then AO (([47]:Ac3).length+a0.f.2.2.1.length<=9223372036854775807) (AO ((([47]:Ac3)++a0.f.2.2.1).length+([61]:Ac3).length<=9223372036854775807) (Qq4 (IH a0.f.2.2.2.1) (fun d=>AO (((([47]:Ac3)++a0.f.2.2.1)++([61]:Ac3)).length+d.length<=9223372036854775807) (some ((((([47]:Ac3)++a0.f.2.2.1)++([61]:Ac3))++d)))))) else(if a0.f.1=8 then Qq4 (self2 a0.f.2.2.2.2.2.2 ([38]:Ac3) ([9])) (fun i=>some i) else(if a0.f.1=9 then Qq4 (self2 a0.f.2.2.2.2.2.2 ([124]:Ac3) ([])) (fun j=>some j) else Qq4 (self2 a0.f.2.2.2.2.2.2 ([]:Ac3) ([8,9])) (fun e=>AO (([33]:Ac3).length+e.length<=9223372036854775807) (some ((([33]:Ac3)++e))))))))))))
theorem Ru{self1:Qv->Option Ac3}{self2:(List Qv)->Ac3->(List Int)->Option Ac3}(_hself1:∀ (w:World) (H:PH) (hH:Le H (hp w)) (hU:Gj H) {a0:Qv} {b:Value} {d:Value} {e:Value} (g:AH .st H b (a0.f.2.1)) (m:AH .byte H d (a0.f.2.2.2.1)) (j:AH .B1 H e (a0.f.2.2.2.2.2.2)) {r:Ac3} (h:self1 a0=some r),Ok prog 33 [.agg #[No a0.f.1,b,Ab5 a0.f.2.2.1,d,No a0.f.2.2.2.2.1,No a0.f.2.2.2.2.2.1,e]] w (fun v w'=>Ext w w'/\v=(Ab5 r)))(hself2:∀ (w:World) (H:PH) (hH:Le H (hp w)) (hU:Gj H) {a0:List Qv} {a1:Ac3} {a2:List Int} {b:Value} {o:Value} (g:AH .B1 H b a0) (_h2_0:AH (.int .i64) H o a2) {r:Ac3} (h:self2 a0 a1 a2=some r),Ok prog 66 [b,Ab5 a1,o] w (fun v w'=>Ext w w'/\v=(Ab5 r)))(w:World)(H:PH)(hH:Le H (hp w))(hU:Gj H){a0:Qv}{b d e:Value}(g:AH .st H b (a0.f.2.1))(m:AH .byte H d (a0.f.2.2.2.1))(j:AH .B1 H e (a0.f.2.2.2.2.2.2)){r:Ac3}(h:Gv self1 self2 a0=some r):
  Ok prog 33 [.agg #[No a0.f.1,b,Ab5 a0.f.2.2.1,d,No a0.f.2.2.2.2.1,No a0.f.2.2.2.2.2.1,e]] w (fun v w'=>Ext w w'/\v=(Ab5 r)):=by
 refine A1 86 [(0,.agg #[No a0.f.1,b,Ab5 a0.f.2.2.1,d,No a0.f.2.2.2.2.1,No a0.f.2.2.2.2.2.1,e])] func33 Z fun hL=>Ak<|CB (t:=26) Z Z hL fun w1 b1 a b8 _=>A7 1 Z<|AD<|Ak<|Aj (Ae Z Ajm Z CO.e)<|Aj (Af 0 Z a Z)<|Ac<|A3<|AJ 2 Z<|AP h ?_ ?_<;>intro bv h
 ·refine Ak<|Aj (Ae Z Ajm Z Nd.e)<|Aj (Af 0 Z a Z)<|Az h fun y h=>Bf g ((0:Int).toNat) (Gy y) (AW y) ?_;rintro p4 _ rfl bw;refine Aj (Bl bw (hH.trans a.arg))<|A7 1 Z<|Ay<|Av<|Ar ?_
  cases h
  refine Am Z ⟨a.ext,Z⟩
 refine AJ 2 Z<|AP h ?_ ?_<;>intro bx h
 ·refine Ak<|Aj (Ae Z Ajm Z Nd.e)<|Aj (Af 0 Z a Z)<|Ax h fun x9 bz h=>AF a (XB _ _ (Ao a) (g.mono  Ah) bz) fun cg b9 z b0=>Az h fun aa h=>Aj (L9 aa)<|Az h fun ab h=>Aj (L9 ab)<|A7 1 Z<|Ay<|Av<|Ar ?_
  cases h
  refine Am Z ⟨z.ext,Z⟩
 refine AJ 2 Z<|AP h ?_ ?_<;>intro ac h
 ·refine Eu (Qqz 0 16 (.tail 16)) mixed Qqb (fun ch ad=>?_);have c:=a.call ad;refine CF Z (Ae Z Ajm Z Nd.e) Z<|CF Z (Af 0 Z c Z) Z<|Az h fun p h=>HX Z Z Z AcL g ((0:Int).toNat) (Gy p) (AW p) Z ?_;rintro ci _ rfl ae;refine CF Z (Bl ae (hH.trans c.arg)) Z<|Az h fun af h=>CF Z (L9 af) Z<|CF Z (Ae Z Ajm Z CO.e) Z<|CF Z (Af 0 Z c Z) Z<|Ax h fun cj ag h=>JN Z Z Z (fun ck ah=>XA _ _ (Le.refl _) (hU.mono (hH.trans (c.call ah).arg)) ag)<|Az h fun ai h=>CF Z (L9 ai) Z<|Az h fun aj h=>CF Z (L9 aj) Z<|CF Z (Ae Z Ajm Z Nd.e) Z<|CF Z (Af 0 Z c Z) Z<|Az h fun s h=>HX Z Z Z AcL g ((1:Int).toNat) (Gy s) (AW s) Z ?_;rintro cl _ rfl ak;refine CF Z (Bl ak (hH.trans c.arg)) Z<|Az h fun al h=>?_
  refine CF Z (L9 al) Z<|D4 1 Z<|BU (fun cm am=>?_);have an:=c.call am;refine Ac<|Ay<|Av<|Ar ?_
  cases h
  refine Am Z ⟨an.ext,Z⟩
 refine AJ 2 Z<|AP h ?_ ?_<;>intro ao h
 ·refine Ak<|Aj (Ae Z Ajm Z IK.e)<|Aj (Af 0 Z a Z)<|Ax h fun cn ap h=>AF a (OT _ _ (Ao a) (m.mono  Ah) ap) fun co ca aq b2=>A7 1 Z<|Ay<|Av<|Ar ?_
  cases h
  refine Am Z ⟨aq.ext,Z⟩
 refine AJ 2 Z<|AP h ?_ ?_<;>intro ar h
 ·refine Ak<|Aj (Ae Z Ajm Z HJ.e)<|Aj (Af 0 Z a Z)<|Az h fun au h=>Aj (L9 au)<|A7 1 Z<|Ay<|Av<|Ar ?_
  cases h
  refine Am Z ⟨a.ext,Z⟩
 refine AJ 2 Z<|AP h ?_ ?_<;>intro av h
 ·refine Eu (Qqz 0 14 (.tail 14)) mixed Qqb (fun cp aw=>?_);have i:=a.call aw;refine CF Z (Ae Z Ajm Z HJ.e) Z<|CF Z (Af 0 Z i Z) Z<|Az h fun ax h=>CF Z (L9 ax) Z<|Az h fun ay h=>CF Z (L9 ay) Z<|CF Z (Ae Z Ajm Z CO.e) Z<|CF Z (Af 0 Z i Z) Z<|Ax h fun cq az h=>JN Z Z Z (fun cr a3=>XA _ _ (Le.refl _) (hU.mono (hH.trans (i.call a3).arg)) az)<|Az h fun a4 h=>CF Z (L9 a4) Z<|Az h fun a5 h=>CF Z (L9 a5) Z<|CF Z (Ae Z Ajm Z CO.e) Z<|CF Z (Af 0 Z i Z) Z<|Ax h fun cs a6 h=>JN Z Z Z (fun ct a7=>XA _ _ (Le.refl _) (hU.mono (hH.trans (i.call a7).arg)) a6)<|Az h fun a8 h=>CF Z (L9 a8) Z<|D4 1 Z<|BU (fun cu a9=>?_);have ba:=i.call a9;refine Ac<|Ay<|Av<|Ar ?_
  cases h
  refine Am Z ⟨ba.ext,Z⟩
 refine AJ 2 Z<|AP h ?_ ?_<;>intro bb h
 ·refine Eu (Qqz 0 9 (.tail 9)) mixed Qqb (fun cv bc=>?_);have k:=a.call bc;refine CF Z (Ae Z Ajm Z HJ.e) Z<|CF Z (Af 0 Z k Z) Z<|Az h fun bd h=>CF Z (L9 bd) Z<|Az h fun be h=>CF Z (L9 be) Z<|CF Z (Ae Z Ajm Z IK.e) Z<|CF Z (Af 0 Z k Z) Z<|Ax h fun cw bf h=>JN Z Z Z (fun cx bg=>OT _ _ (Le.refl _) ((m.mono (hH.trans k.arg)).mono bg.le) bf)<|Az h fun bh h=>CF Z (L9 bh) Z<|D4 1 Z<|BU (fun cy bi=>?_);have bj:=k.call bi;refine Ac<|Ay<|Av<|Ar ?_
  cases h
  refine Am Z ⟨bj.ext,Z⟩
 refine AJ 2 Z<|AP h ?_ ?_<;>intro bk h
 ·refine Ak<|Aj (Ae Z Ajm Z Mm.e)<|Aj (Af 0 Z a Z)<|B7 [9] (r:=(.int .i64)) (fun _=>Jp _ _) a (.c1 Z .nil) fun cz c0 cb u b3 bl=>Ax h fun c2 bm h=>AF u (hself2 _ _ (Ao u) (hU.mono  Ah) (j.mono  Ah) bl bm) fun c3 cc bn b4=>A7 1 Z<|Ay<|Av<|Ar ?_
  cases h
  refine Am Z ⟨bn.ext,Z⟩
 refine AJ 2 Z<|AP h ?_ ?_<;>intro bo h
 ·refine Ak<|Aj (Ae Z Ajm Z Mm.e)<|Aj (Af 0 Z a Z)<|Ax h fun c4 bp h=>AF a (hself2 _ _ (Ao a) (hU.mono  Ah) (j.mono  Ah) (AH.nil _ _) bp) fun c5 cd bq b5=>A7 1 Z<|Ay<|Av<|Ar ?_
  cases h
  refine Am Z ⟨bq.ext,Z⟩
 refine Aw<|A2<|As<|Ak<|Aj (Ae Z Ajm Z Mm.e)<|Aj (Af 0 Z a Z)<|B7 [8,9] (r:=(.int .i64)) (fun _=>Abi _ _ _) (hlen:=(BJ 2)) a (.c1 Z (.c1 Z .nil)) fun c6 c7 ce x b6 br=>Ax h fun c8 bs h=>AF x (hself2 _ _ (Ao x) (hU.mono  Ah) (j.mono  Ah) br bs) fun c9 cf bt b7=>Az h fun bu h=>Aj (L9 bu)<|A7 1 Z<|Ay ?_
 cases h
 refine Am Z ⟨bt.ext,Z⟩
def Fg(c:List Ac3)(a:Int)(b:Ac3):Option (((List Ac3)×Int) ⊕ (Ac3)):=
 AO (Go.E.Io 16 (c.length+([b]).length)) (AO (Bw (a+1)) (some (Sum.inl ((c++[b]),(a+1)))))
def GJ(a1:Ac3)(b:List Ac3):Option Ac3:=
 Qq4 (Sv b a1) (fun a=>some a)
def CX(a0:List Qv)(a1:Ac3)(a2:List Int)(self1:Qv->Option Ac3):(List Ac3)×Int->Option (((List Ac3)×Int) ⊕ (Ac3)):=fun⟨c,a⟩=>
 if a<(a0.length:Int) then AO (0<=a/\a<(a0.length:Int)) (Qq4 (self1 (a0.getD a.toNat Qq2)) (fun b=>Qq4 (BD a2 ((a0.getD a.toNat Qq2).f.1)) (fun d=>if d then AO (([40]:Ac3).length+b.length<=9223372036854775807) (AO ((([40]:Ac3)++b).length+([41]:Ac3).length<=9223372036854775807) ((Fg c a) ((([40]:Ac3)++b)++([41]:Ac3)))) else(Fg c a) b))) else Qq7 Sum.inr ((GJ a1) c)
def I5(a0:List Qv)(a1:Ac3)(a2:List Int)(self1:Qv->Option Ac3)(s:(List Ac3)×Int):Option Ac3:=Go.L.run (CX a0 a1 a2 self1) s
def F6(self1:Qv->Option Ac3)(_self2:(List Qv)->Ac3->(List Int)->Option Ac3)(a0:List Qv)(a1:Ac3)(a2:List Int):Option Ac3:=
 (I5 a0 a1 a2 self1) (([]:List Ac3),0)
theorem QC{self1:Qv->Option Ac3}{self2:(List Qv)->Ac3->(List Int)->Option Ac3}(hself1:∀ (w:World) (H:PH) (hH:Le H (hp w)) (hU:Gj H) {a0:Qv} {c:Value} {ae:Value} {af:Value} (p:AH .st H c (a0.f.2.1)) (_h0_1:AH .byte H ae (a0.f.2.2.2.1)) (_h0_2:AH .B1 H af (a0.f.2.2.2.2.2.2)) {r:Ac3} (h:self1 a0=some r),Ok prog 33 [.agg #[No a0.f.1,c,Ab5 a0.f.2.2.1,ae,No a0.f.2.2.2.2.1,No a0.f.2.2.2.2.2.1,af]] w (fun v w'=>Ext w w'/\v=(Ab5 r)))(_hself2:∀ (w:World) (H:PH) (hH:Le H (hp w)) (hU:Gj H) {a0:List Qv} {a1:Ac3} {a2:List Int} {c:Value} {j:Value} (p:AH .B1 H c a0) (ag:AH (.int .i64) H j a2) {r:Ac3} (h:self2 a0 a1 a2=some r),Ok prog 66 [c,Ab5 a1,j] w (fun v w'=>Ext w w'/\v=(Ab5 r)))(w:World)(H:PH)(hH:Le H (hp w))(hU:Gj H){a0:List Qv}{a1:Ac3}{a2:List Int}{c j:Value}(p:AH .B1 H c a0)(ag:AH (.int .i64) H j a2){r:Ac3}(h:F6 self1 self2 a0 a1 a2=some r):
  Ok prog 66 [c,Ab5 a1,j] w (fun v w'=>Ext w w'/\v=(Ab5 r)):=by
 refine A1 34 [(0,c),(1,(Ab5 a1)),(2,j)] func66 Z fun hL=>AJ 1 Z<|Bu 1 Z ?_;obtain⟨bc,bl,bd⟩:=DS .st H 9 hL;refine Ac<|Bt ((List Ac3)×Value×(List Value)) (fun⟨y,q,o⟩=>[(1,(Ab5 a1)),(7,q)]) (fun⟨y,q,o⟩ wr=>Fl w [.row q 9 1 (y).length o] wr fun Oz=>AI .st (gz H w wr Oz) y o/\(GJ a1) y=some r) ?_ ?_
 ·refine Bu 1 Z<|Aj (Bc p)<|A7 1 Z<|A3 ?_;obtain⟨ah,h⟩:=Ba h;refine B6 ((List Ac3)×Int×Value×(List Value)×Nat) (fun⟨g,a,k,e,n⟩=>[(1,(Ab5 a1)),(2,j),(7,k),(11,c),(12,No (a0.length:Int)),(13,No a)]) (fun⟨g,a,k,e,n⟩ wr=>Fl w [.row k 9 1 (g).length e] wr fun Oz=>AI .st (gz H w wr Oz) g e/\HG (CX a0 a1 a2 self1) n (g,a)=some r) (fun⟨g,a,k,e,n⟩=>n) (([]:List Ac3),0,Aa4,[],ah) Z ⟨bc,bd,h⟩ ?_;rintro⟨g,a,k,e,nn79⟩ bm ⟨aa,b,h⟩;obtain⟨ah,be,rfl,h,ai⟩:=AY h;refine AJ 1 Z<|AD<|AP h ?_ ?_<;>intro a6 h
  ·refine Aw<|As<|AD<|A3<|Ak<|Az h fun aj h=>Bf p a.toNat (Gy aj) (AW aj) ?_;rintro bx _ e83t0 a7;obtain⟨_,_,rfl,rfl,⟨_,_,rfl,⟨e83v1,rfl,e83h1⟩,⟨_,_,rfl,rfl,⟨_,_,rfl,⟨e83v3,rfl,e83h3⟩,⟨_,_,rfl,rfl,⟨_,_,rfl,rfl,⟨e83v6,rfl,e83h6⟩⟩⟩⟩⟩⟩⟩:=Go.E.Rp.HL e83t0;refine Aj (Cx a7 (hH.trans aa.arg))<|AA B8.e Z aa fun bz bf a8 s _=>Ag 0 Z a8 Z (a:=(Br Z (Br e83h1.one (Br Z (Br e83h3.one (Br Z (Br Z (Br e83h6.one K9)))))))) fun b0 ab t=>Ac<|Ak<|Aj (A4 0 Z B8.e ab Z)<|Ax h fun a5 a9 h=>AF ab (hself1 (a0:=(a0.getD a.toNat Qq2)) _ _ (Ao ab) (hU.mono  Ah) (e83h1.mono  Ah) (e83h3.mono  Ah) (e83h6.mono  Ah) a9) fun b1 bn ac u=>A7 1 Z ?_
   refine Bt Ac3 (fun d=>[(1,(Ab5 a1)),(2,j),(7,k),(10,(Ab5 d)),(11,c),(12,No (a0.length:Int)),(13,No a)]) (fun d wr=>Fl w [.box bf [No ((a0.getD a.toNat Qq2).f.1),e83v1,.string ⟨((a0.getD a.toNat Qq2).f.2.2.1).toArray⟩,e83v3,No ((a0.getD a.toNat Qq2).f.2.2.2.2.1),No ((a0.getD a.toNat Qq2).f.2.2.2.2.2.1),e83v6] 26,.row k 9 1 (g).length e] wr fun Oz=>AI .st (gz H w wr Oz) g e/\(Fg g a) d=some be) ?_ ?_
   ·refine Bu 1 Z<|Aj (Ae Z Ajm Z CO.e)<|Aj (Af 0 Z ac Z)<|Ax h fun bo am h=>AF ac (HN _ _ (Ao ac) (ag.mono  Ah) am) fun bp bi ad z=>Ac<|B3 h ?_ ?_<;>intro an h
    ·refine Au<|Aq 1 Z<|Az h fun ao h=>Aj (L9 ao)<|Az h fun ap h=>Aj (L9 ap)<|Aq 1 Z<|AL ?_;have b:=b.mono (Aa (s.trans (t.trans (u.trans z))));refine A8 _ ⟨ad,b,h⟩
    refine Aw ?_;have b:=b.mono (Aa (s.trans (t.trans (u.trans z))));refine A8 _ ⟨ad,b,h⟩
   have b:=b.mono (Aa (s.trans (t.trans u)));rintro d bq ⟨ba,b,h⟩;refine Au<|Aq 2 Z<|B7 [d] (r:=.st) (fun _=>Sp _ Z _) ba (.c1 Z .nil) fun br bs bj aq ak ar=>Az h fun au h=>?_;have b:=b.mono (Aa ak);refine By (r:=.st) 1 g [d] Z AcL aq Z b ar au fun bb bt av aw bg x=>Aq 1 Z<|AL<|A2<|As<|Au<|Az h fun ax h=>Aj (A5 ax)<|Aq 1 Z<|AL ?_;have ay:=aw.AS (i:=0) Z;have h:=Cg.again h ai;have x:=x.mono (Aa (Al (i:=0) Z));refine AN (_,_,_,_,_) Z ⟨ay,x,h⟩
  refine B4<|AE<|A6 ?_;have h:=Cg.out h ai;refine Bi<|A8 (_,_,_) ⟨aa,b,h⟩
 rintro⟨y,q,o⟩ bu ⟨al,az,h⟩;refine Bu 2 Z<|Ax h fun bv a3 h=>AF al (XB _ _ (Le.refl _) (al.RJ hH (i:=0) Z az) a3) fun bw bk a4 bh=>A7 1 Z<|Ay ?_
 cases h
 refine Am Z ⟨a4.ext,Z⟩
def BL:Nat->(Qv->Option Ac3)×((List Qv)->Ac3->(List Int)->Option Ac3)
 | 0=>(fun _=>none,fun _ _ _=>none)
 | n+1=>(Gv ((BL n).1) ((BL n).2),F6 ((BL n).1) ((BL n).2))
def Oi:Qv->Option Ac3:=(BL 1000).1
theorem RS(n:Nat):(∀ (w:World) (H:PH) (hH:Le H (hp w)) (hU:Gj H) {a0:Qv} {a:Value} {b:Value} {c:Value} (e:AH .st H a (a0.f.2.1)) (g:AH .byte H b (a0.f.2.2.2.1)) (i:AH .B1 H c (a0.f.2.2.2.2.2.2)) {r:Ac3} (h:((BL n).1) a0=some r),Ok prog 33 [.agg #[No a0.f.1,a,Ab5 a0.f.2.2.1,b,No a0.f.2.2.2.2.1,No a0.f.2.2.2.2.2.1,c]] w (fun v w'=>Ext w w'/\v=(Ab5 r)))/\(∀ (w:World) (H:PH) (hH:Le H (hp w)) (hU:Gj H) {a0:List Qv} {a1:Ac3} {a2:List Int} {a:Value} {d:Value} (e:AH .B1 H a a0) (j:AH (.int .i64) H d a2) {r:Ac3} (h:((BL n).2) a0 a1 a2=some r),Ok prog 66 [a,Ab5 a1,d] w (fun v w'=>Ext w w'/\v=(Ab5 r))):=by
 induction n with
 | zero=>exact⟨(by intros;rename_i h;cases h),(by intros;rename_i h;cases h)⟩
 | succ n ih=>exact⟨Ru ih.1 ih.2,QC ih.1 ih.2⟩
section
variable(w:World)(H:PH)(hH:Le H (hp w)) include hH
theorem Vz(hU:Gj H){a0:Qv}{a b c:Value}(d:AH .st H a (a0.f.2.1))(e:AH .byte H b (a0.f.2.2.2.1))(g:AH .B1 H c (a0.f.2.2.2.2.2.2)){r:Ac3}(h:Oi a0=some r):Ok prog 33 [.agg #[No a0.f.1,a,Ab5 a0.f.2.2.1,b,No a0.f.2.2.2.2.1,No a0.f.2.2.2.2.2.1,c]] w (fun v w'=>Ext w w'/\v=(Ab5 r)):=(RS 1000).1 w H hH hU d e g h
def Hu(a0:Qv):Option (Ac3×(Int×Int)):=
 Qq4 (LR a0 (0:Int) (1:Int)) (fun a=>if a.2.1=0/\a.2.2=0 then Qq4 (Oi a0) (fun b=>if 200<(b.length:Int) then Qq4 (Cz (14:Int) (-1:Int)) (fun c=>some (([]:Ac3),(c.1,c.2))) else some (b,(0,0))) else some (([]:Ac3),(a.2.1,a.2.2)))
theorem KZ(hU:Gj H)(a0:Qv){b c d:Value}(g:AH .st H b (a0.f.2.1))(j:AH .byte H c (a0.f.2.2.2.1))(k:AH .B1 H d (a0.f.2.2.2.2.2.2)){r:Ac3×(Int×Int)}(h:Hu a0=some r):
  Qqv 11 [.agg #[No a0.f.1,b,Ab5 a0.f.2.2.1,c,No a0.f.2.2.2.2.1,No a0.f.2.2.2.2.2.1,d]] w (fun v w'=>v=.tuple #[Ab5 r.1,.agg #[No r.2.1,No r.2.2]]):=by
 refine A1 24 [(0,.agg #[No a0.f.1,b,Ab5 a0.f.2.2.1,c,No a0.f.2.2.2.2.1,No a0.f.2.2.2.2.2.1,d])] func11 Z fun hL=>Ak<|CB (t:=26) Z Z hL fun w1 b1 ac an _=>Aq 1 Z<|AA AG.e Z ac fun w2 b2 l ao _=>Ac<|AD<|Ak<|Aj (A4 1 Z B8.e l Z)<|Ax h fun x3 ad h=>AF l (Uj (a0:=a0) _ _ (Ao l) (hU.mono  Ah) (g.mono  Ah) (j.mono  Ah) (k.mono  Ah) ad) fun w4 aw ae ap=>Aq 3 Z<|AA AG.e Z ae fun w5 b5 af aq _=>Aq 1 Z<|Ag 0 Z af Z fun w6 a ar=>Ac<|Ak<|Aj (A4 0 Z AG.e a Z)<|Aj (AT (fun _=>BM _))<|Aj (JO J2 (Nf _ _ _ _))<|Ac<|CP h ?_ ?_<;>intro ag h
 ·refine Eu (.q 0 (.q 1 (.tail 2))) mixed Qqb (fun w9 ah=>?_);have m:=a.call ah;refine CF Z (A4 0 Z AG.e m Z) Z<|D4 1 Z<|BU (fun ax u=>?_);have x:=m.call u;refine Ag 1 Z x Z fun ay o ai=>Ac<|Ay<|Ar ?_
  cases h
  refine Bv (.tmp Z) (.cell Z Aji Z AG.e (AK (i:=1) o Z)) ⟨o.ext,Z⟩
 refine Aw<|As<|Ak<|Aj (A4 2 Z B8.e a Z)<|Ax h fun az y h=>AF a (Vz (a0:=a0) _ _ (Ao a) (hU.mono  Ah) (g.mono  Ah) (j.mono  Ah) (k.mono  Ah) y) fun a1 au e aj=>A7 1 Z<|AD<|Bu 1 Z<|Aj (IU Z)<|A7 1 Z<|AP h ?_ ?_<;>intro z h
 ·refine Ak<|Ax h fun a2 aa h=>AF e (Da _ _ (Ao e) aa) fun a3 av ab ak=>Aq 1 Z<|Ag 1 Z ab Z fun a4 p al=>Ac<|Ay<|Ar ?_
  cases h
  refine Bv (.tmp Z) (.cell Z Aji Z AG.e (AK (i:=1) p Z)) ⟨p.ext,Z⟩
 refine Aw<|As<|Bu 1 Z<|Aj (AT (fun _=>BM _))<|Aq 1 Z<|Ag 1 Z e Z fun a5 s am=>Ac<|Ay ?_
 cases h
 refine Bv (.tmp Z) (.cell Z Aji Z AG.e (AK (i:=1) s Z)) ⟨s.ext,Z⟩
def FW(a0:Qv):Option ((Int×Int)):=
 Qq4 (Hu a0) (fun a=>some ((a.2.1,a.2.2)))
theorem Ln(hU:Gj H){a0:Qv}{a b c:Value}(j:AH .st H a (a0.f.2.1))(k:AH .byte H b (a0.f.2.2.2.1))(l:AH .B1 H c (a0.f.2.2.2.2.2.2)){r:(Int×Int)}(h:FW a0=some r):
  Qqv 14 [.agg #[No a0.f.1,a,Ab5 a0.f.2.2.1,b,No a0.f.2.2.2.2.1,No a0.f.2.2.2.2.2.1,c]] w (fun v w'=>v=.agg #[No r.1,No r.2]):=by
 refine A1 11 [(0,.agg #[No a0.f.1,a,Ab5 a0.f.2.2.1,b,No a0.f.2.2.2.2.1,No a0.f.2.2.2.2.2.1,c])] func14 Z fun hL=>Ak<|CB (t:=26) Z Z hL fun w1 b1 m s _=>AA AG.e Z m fun w2 b2 d u _=>Ac<|Ak<|Aj (A4 1 Z B8.e d Z)<|Ax h fun x3 o h=>AF d (KZ _ _ (Ao d) (hU.mono  Ah) a0 (j.mono  Ah) (k.mono  Ah) (l.mono  Ah) o) fun w4 ab p x=>Aq 3 Z<|AA AG.e Z p fun w5 b5 q y _=>Aq 1 Z<|Ag 0 Z q Z fun w6 e z=>Ac<|Ak<|Aj (A4 0 Z AG.e e Z)<|Ag 1 Z e Z fun w7 g aa=>Ac<|Ay ?_
 cases h
 refine Dy (.cell Z Aji Z AG.e (AK (i:=1) g Z)) ⟨g.ext,Z⟩
def MI(a0:Qv):Option (Qv×(Int×Int)):=
 Qq4 (FW a0) (fun c=>if c.1=0/\c.2=0 then Qq4 (MH a0 false) (fun a=>Qq4 (FW a) (fun b=>if b.1=0/\b.2=0 then some (a,(0,0)) else none)) else none)
theorem Tp(hU:Gj H){a0:Qv}{l m o:Value}(u:AH .st H l (a0.f.2.1))(x:AH .byte H m (a0.f.2.2.2.1))(y:AH .B1 H o (a0.f.2.2.2.2.2.2)){r:Qv×(Int×Int)}(h:MI a0=some r):
  Qqv 27 [.agg #[No a0.f.1,l,Ab5 a0.f.2.2.1,m,No a0.f.2.2.2.2.1,No a0.f.2.2.2.2.2.1,o]] w (fun v w'=>∃ u0 u1 u2,v=.tuple #[.agg #[No r.1.f.1,u0,Ab5 r.1.f.2.2.1,u1,No r.1.f.2.2.2.2.1,No r.1.f.2.2.2.2.2.1,u2],.agg #[No r.2.1,No r.2.2]]/\AH .st (un H (nw w w')) u0 (r.1.f.2.1)/\AH .byte (un H (nw w w')) u1 (r.1.f.2.2.2.1)/\AH .B1 (un H (nw w w')) u2 (r.1.f.2.2.2.2.2.2)):=by
 refine A1 25 [(0,.agg #[No a0.f.1,l,Ab5 a0.f.2.2.1,m,No a0.f.2.2.2.2.1,No a0.f.2.2.2.2.2.1,o])] func27 Z fun hL=>Ak<|CB (t:=26) Z Z hL fun w1 b1 av a7 _=>AA B8.e Z av fun w2 b2 aw a8 _=>AA AG.e Z aw fun w3 b3 z a9 _=>Ac<|AD<|Ak<|Aj (A4 2 Z B8.e z Z)<|Ax h fun x4 ax h=>AF z (Ln (a0:=a0) _ _ (Ao z) (hU.mono  Ah) (u.mono  Ah) (x.mono  Ah) (y.mono  Ah) ax) fun w5 be ay ba=>AA AG.e Z ay fun w6 b6 az bb _=>Ag 0 Z az Z fun w7 e bc=>Ac<|Ak<|Aj (A4 0 Z AG.e e Z)<|Aj (AT (fun _=>BM _))<|Aj (JO J2 (Nf _ _ _ _))<|Ac<|CP h ?_ ?_<;>intro a1 h
 ·cases h
 refine Aw<|As<|Ak<|Aj (A4 3 Z B8.e e Z)<|Ax h fun a2 ai h=>Bk e (To (a0:=a0) _ _ (Ao e) (u.mono  Ah) (x.mono  Ah) (y.mono  Ah) ai) ?_;rintro _ bf ⟨a3,a4,a5,rfl,aa,ab,ac⟩ p aj a6;have b:=aa.mono (Er e p);have c:=ab.mono (Er e p);have d:=ac.mono (Er e p);refine AA B8.e Z aj fun bg bh ak g _=>Ag 0 Z ak Z (a:=(Br Z (Br b.one (Br Z (Br c.one (Br Z (Br Z (Br d.one K9)))))))) fun bi j k=>Ac<|AD ?_;have a:=j.rG H;refine Ak<|Aj (A4 0 Z B8.e j Z)<|Ax h fun bj al h=>?_;have b:=b.mono (Aa (g.trans k));have c:=c.mono (Aa (g.trans k));have d:=d.mono (Aa (g.trans k));refine AF j (Ln (a0:=a2) _ _ (Ao j) (hU.mono  Ah) (b.mono a) (c.mono a) (d.mono a) al) fun bk bd am ad=>AA AG.e Z am fun bl bm an ae _=>Ag 0 Z an Z fun bn q af=>Ac<|Ak ?_
 refine Aj (A4 0 Z AG.e q Z)<|Aj (AT (fun _=>BM _))<|Aj (JO J2 (Nf _ _ _ _))<|Ac<|CP h ?_ ?_<;>intro ao h
 ·cases h
 refine Aw<|As<|Ak<|Aj (A4 1 Z B8.e q Z)<|Aj (AT (fun _=>BM _)) ?_;have a:=a.trans (Aa (ad.trans (ae.trans af)));refine Ag 4 Z q Z (a:=(Br Z (Br (b.mono a).one (Br Z (Br (c.mono a).one (Br Z (Br Z (Br (d.mono a).one K9)))))))) fun bo ap ag=>Ag 3 Z ap Z fun bp s ah=>Ac<|Ay ?_
 cases h
 refine Bv (.cell Z Ajm Z B8.e (AK (i:=4) s Z)) (.cell Z Aji Z AG.e (AK (i:=3) s Z)) ?_;have a:=a.trans (Aa (ag.trans ah));exact⟨s.ext,_,_,_,Z,((b.mono a).mono  EC),((c.mono a).mono  EC),((d.mono a).mono  EC)⟩
end
end Go.Proofs.YtekmbcbgknmhiaaGreatDoor
end
noncomputable section
namespace Go.L
def iota(n:Nat):List Int:=(Qzv n).map fun i:Nat=>(i:Int)
theorem I6(n:Nat):(iota n).length=n:=by simp [iota]
def PO(n:Nat):List (Fin (n+1)):=(Qzv n).map fun i=>Fin.ofNat (n+1) i
theorem WQ(n:Nat):(PO n).map (fun x=>(x.val:Int))=iota n:=by
 unfold PO iota;rw [Qx0];apply List.map_congr_left;intro i hi;have:=List.mem_range.1 hi
 show((i % (n+1):Nat):Int)=(i:Int)
 rw [Nat.mod_eq_of_lt U]
def K5(a:List UInt8)(x y:Fin (a.length+1)):Int:=Lib.compareBytes (a.drop x.val) (a.drop y.val)
def Aah(a:List UInt8):List (Fin (a.length+1)):=(PO a.length).mergeSort fun x y=>!(Go.Proofs.ltOf (K5 a)) y x
def DH(a:List UInt8):List Int:=(Aah a).map fun x=>(x.val:Int)
theorem Abn{α:Type}(f:α->List UInt8):Go.Sort.SWO (Go.Proofs.ltOf fun x y=>Lib.compareBytes (f x) (f y)):=by
 constructor
 ·intro x;simp [Go.Proofs.ltOf,Vs]
 ·intro x y z a h2;unfold Go.Proofs.ltOf at *;simp only [decide_eq_true_eq] at *;exact N9 _ _ _ a h2
 ·intro x y z a h2;unfold Go.Proofs.ltOf at *;simp only [decide_eq_false_iff_not] at *;intro h3;have s1:=KN (f x) (f y);have b:=KN (f y) (f z)
  rcases Int.lt_trichotomy (Lib.compareBytes (f y) (f x)) 0 with h | h | h
  ·have:=N9 _ _ _ h h3;omega
  ·rw [Q5 _ _ h] at h2;omega
  ·omega
theorem P4(a:List UInt8)(x y:Fin (a.length+1))(b:Go.Proofs.ltOf (K5 a) x y=false)(h2:Go.Proofs.ltOf (K5 a) y x=false):x=y:=by
 unfold Go.Proofs.ltOf at b h2;simp only [decide_eq_false_iff_not] at b h2;have s:=KN (a.drop x.val) (a.drop y.val);unfold K5 at b h2;have:=Q5 _ _ (show Lib.compareBytes (a.drop x.val) (a.drop y.val)=0 by omega);have hl:(a.drop x.val).length=(a.drop y.val).length:=by rw [this]
 simp only [List.length_drop] at hl;have:=x.isLt;have:=y.isLt;exact Fin.ext U
end Go.L
end
noncomputable section
namespace Go.Proofs.YtekmbcbgknmhiaaGreatDoor
open Go Go.E Go.RowKit Go.Sort Go.Shelf
theorem Wp(a b:List UInt8):O0 a b=some (Lib.compareBytes a b):=Z
theorem AiH{O:List BS}{i b:Nat}{cs:List Value}{t:TypeId}(h:EA O i=some (.box b cs t)):BS.box b cs t∈O:=(Fa h).mem_iff.2 (.head _)
theorem Ace{n:Sz}{ops:Array Oper}{Q:Exit->Act->World->Prop}{L:Env}{w f:World}{O:List BS}{rest:List Oper}{d:Nat}{ty:TypeId}{pos:String}{af:Array Edge}{v tv:Value}{H:PH}{i b:Nat}{xs:List Value}{a:List UInt8}{args:List Operand}{at_:Array TypeId}
  (ha:RZ L args=some [v,.func (.func 174) #[] #[.pointer (some ⟨b,0,none⟩)]]) (hn:Nat.blt d n.n=true) (hH:Le H (hp f)) (hL:Bb f O w) (hi:EA O i=some (.row v 3 1 (Go.L.iota a.length).length xs)) (he:AI (.int .i64) (gz H f w O) (Go.L.iota a.length) xs) (htx:AH .byte (gz H f w O) tv a) (hbox:BS.box b [tv] 23∈O) (hl:a.length<4611686018427387904)
  (h:∀ w' xs',Bb f (DB O i (.row v 3 1 (Go.L.DH a).length xs')) w'->Le (fz w O) (fz w' (DB O i (.row v 3 1 (Go.L.DH a).length xs')))->AI (.int .i64) (gz H f w' (DB O i (.row v 3 1 (Go.L.DH a).length xs'))) (Go.L.DH a) xs'->S Tryz.prog n ops Q rest ((d,.tuple #[])::L) w') :
  S Tryz.prog n ops Q (⟨some d,.call ⟨.value (.func 173),args.toArray,at_⟩,ty,pos,af,none⟩::rest) L w:=by
 have hxs:xs=(Go.L.PO a.length).map (fun x:Fin (a.length+1)=>Value.int .i64 (x.val:Int)):=by
  rw [<- Vp he,<- Go.L.WQ,Qx0];rfl
 have hfl:(Go.L.PO a.length).length=a.length:=by simp [Go.L.PO]
 have hll:(Go.L.DH a).length=(Go.L.iota a.length).length:=by
  unfold Go.L.DH Go.L.Aah;rw [Qzk,List.length_mergeSort,hfl,Go.L.I6]
 have hys:(Go.L.DH a).map (Value.int .i64)=(Go.L.Aah a).map (fun x:Fin (a.length+1)=>Value.int .i64 (x.val:Int)):=by
  unfold Go.L.DH;rw [Qx0];rfl
 refine Vo (l':=Go.L.DH a) (enc:=fun x:Fin (a.length+1)=>Value.int .i64 (x.val:Int)) (dd:=(Go.L.Aah a).toArray) (ys:=(Go.L.DH a).map (Value.int .i64)) ⟨Tryz.f173,_,Tryz.func173,Z,Z⟩ ha hn hL hi (by rw [hys]) hll (by rw [hxs];simp [hll,hfl,Go.L.I6]) (fun l=>?_) (fun hv=>?_) (fun g cap hv hcap=>?_) (fun w' p h2=>h w' _ p h2 (S3 _ _))
 ·have p:(Go.L.DH a).length=0:=by rw [hll];exact l
  have h2:xs.length=0:=by rw [hxs,Qzk,hfl];rw [Go.L.I6] at l;exact l
  rw [Qz8 p,Qz8 h2];rfl
 ·subst hv;exact AnyF.slices_SortFunc_none Tryz.Ah1 none 0 _ w
 ·have hown:w.ownsRow 0 3 1 v (Go.L.iota a.length).length xs:=hL.at hi;rw [hv] at hown;obtain⟨hhk,hblk⟩:=Rc (fun x:Fin (a.length+1)=>Value.int .i64 (x.val:Int)) ((Go.L.PO a.length).toArray) hown (by simpa using hxs.symm);have hsz:(Go.L.iota a.length).length=(Go.L.PO a.length).toArray.size:=by rw [Go.L.I6];simp [hfl]
  have hgo:∀ j x,BS.row v 3 1 j x∈O->True:=fun _ _ _=>trivial;subst hv;have hs:=Any.slices_SortFunc_total (P:=Tryz.prog) Tryz.Ais (fun x:Fin (a.length+1)=>Value.int .i64 (x.val:Int)) (fun _=>Z) (Go.L.K5 a) (Go.L.Abn _) 174 #[.pointer (some ⟨b,0,none⟩)] g 0 cap (Go.L.PO a.length).toArray w (enters_of Tryz.func174 Qqb Z) ?_ hhk hblk (by rw [<- hsz,Go.L.I6];exact hl) (Go.L.P4 a)
  ·rw [<- hsz] at hs;exact hs.mono fun e w' ⟨he,m,os,hw⟩=>⟨he,m,os,hw⟩
  ·intro m os dk hs x y;have hx:=x.isLt;have hy:=y.isLt
   have hr:NL (x.val:Int) (y.val:Int) a=some (Go.L.K5 a x y):=by
    unfold NL;rw [Go.L.Ad U,Go.L.Ad U,Qq8,Qq8,Wp]
    rfl
   have hne:∀ c,(∃ cs t,BS.box c cs t∈O)->c≠g:=fun c ⟨cs,t,hc⟩ e=>by
    subst e;have hd:=List.pairwise_cons.1 (hL.perm (Fa hi).symm).dis
    have hm:BS.box c cs t∈NC O i:=by
     rcases List.mem_cons.1 ((Fa hi).mem_iff.1 hc) with h | h
     ·cases h
     ·exact h
    exact hd.1 _ hm c Z Z
   have hkeep:∀ k o,w.heap[k]? = some o->k≠g->(sortWorld (fun x:Fin (a.length+1)=>Value.int .i64 (x.val:Int)) w g 0 m dk os).heap[k]? = some o:=fun k o hk hkg=>by
    rw [NN _ w g m dk os k (lt_of_heap hk),if_neg hkg];exact hk
   have hle:Le (fz w O) (hp (sortWorld (fun x:Fin (a.length+1)=>Value.int .i64 (x.val:Int)) w g 0 m dk os)):=fun c o hc=>by
    refine hkeep c o (AaG w O c o hc) fun e=>?_;subst e;have hown:owned O c=true:=Eh.2 ⟨_,(Fa hi).mem_iff.2 (.head _),Z⟩;unfold fz at hc;rw [if_pos hown] at hc
    cases hc
   have hbx:IT (hp (sortWorld (fun x:Fin (a.length+1)=>Value.int .i64 (x.val:Int)) w g 0 m dk os)) ⟨b,0,none⟩ [tv]:=by
    have hok:w.heap[b]? = some (.cells #[tv] 23 (0,0)):=hL.res _ hbox;have hh:=hkeep b _ hok (hne b ⟨_,_,hbox⟩);refine⟨Z,fun j u hu=>?_⟩;simp only [Addr.add_lit,Nat.zero_add,IJ,hp,hh]
    simpa using hu
   have hk:=@Sw ⟨true⟩ (sortWorld (fun x:Fin (a.length+1)=>Value.int .i64 (x.val:Int)) w g 0 m dk os) (hp _) (Le.refl _) _ _ _ _ _ (htx.mono ((Ade hH hL).trans hle)) hbx _ hr;refine hk.2.mono fun en w' ⟨u,he,hx,hu⟩=>?_;subst he;subst hu;obtain⟨q,os',hw⟩:=@YP ⟨true⟩ _ _ Z hx;exact⟨Z,q,os',hw⟩
end Go.Proofs.YtekmbcbgknmhiaaGreatDoor
end
noncomputable section
namespace Go.Proofs.YtekmbcbgknmhiaaGreatDoor
open Go Go.E Go.RowKit Go.L
set_option maxHeartbeats 1000000
set_option maxRecDepth 10000
open _root_.Go.Proofs.Tryz
def N0(a0 a1:Int):Option ((Int×Int)):=
 some ((a0,a1))
section
variable(w:World)(H:PH)(hH:Le H (hp w)) include hH
theorem Uk{a0 a1:Int}{r:(Int×Int)}(h:N0 a0 a1=some r):
  Qqv 122 [No a0,No a1] w (fun v w'=>v=.agg #[No r.1,No r.2]):=by
 refine A1 8 [(0,No a0),(1,No a1)] func122 Z fun hL=>Ak<|AA AG.e Z hL fun e f b c _=>Ac<|Bu 2 Z<|Aj (AT (fun _=>My _ _ _))<|Ag 0 Z b Z fun g a d=>Ac<|Ay ?_
 cases h
 refine Dy (.cell Z Aji Z AG.e (AK (i:=0) a Z)) ⟨a.ext,Z⟩
def Iu(a0:Ac3)(a:List Int):Option ((List Int)):=
 AO (a=Go.L.iota a0.length/\a0.length<4611686018427387904) (some ((DH a0)))
def Em(a0:Ac3):(List Int)×Int->Option (((List Int)×Int) ⊕ ((List Int))):=fun⟨b,a⟩=>
 if a<((Qzz (a0.length:Int).toNat (0:Int)).length:Int) then AO (0<=a/\a<(b.length:Int)) (AO (Bw (a+1)) (some (Sum.inl ((b.set a.toNat a),(a+1))))) else Qq7 Sum.inr ((Iu a0) b)
def La(a0:Ac3)(s:(List Int)×Int):Option ((List Int)):=Go.L.run (Em a0) s
def Kv(a0:Ac3):Option ((List Int)):=
 AO (0<=(a0.length:Int)/\((8:Nat):Int) * (a0.length:Int)<=281474976710656/\(a0.length:Int)<=9223372036854775807) ((La a0) ((Qzz (a0.length:Int).toNat (0:Int)),0))
theorem Ul{a0:Ac3}{f:Value}(k:AH .byte H f a0){r:(List Int)}(h:Kv a0=some r):
  Qqv 123 [f] w (fun v w'=>∃ u0,v=u0/\Ck 3 (.int .i64) H w w' u0 r):=by
 refine A1 22 [(0,f)] func123 Z fun hL=>Ak<|Qs (t:=23) Z k.one hL fun w1 y ab av _=>A7 1 Z<|Ak<|Aj (Af 0 Z ab Z)<|Aj (Bc k)<|Az h fun ao h=>Xw (r:=(.int .i64)) (z:=0) Ahy (fun _=>Z) hH ab ao fun v2 w2 ap ac aw aq=>A7 1 Z<|Bt ((List Int)×(List Value)) (fun⟨g,e⟩=>[(1,(AaD y)),(3,v2)]) (fun⟨g,e⟩ wr=>Fl w [.row v2 3 1 (g).length e,.box y [f] 23] wr fun Oz=>AI (.int .i64) (gz H w wr Oz) g e/\(Iu a0) g=some r) ?_ ?_
 ·refine Bu 1 Z<|Aj (Qo 0 Z ac Z)<|A7 1 Z<|A3 ?_;obtain⟨q,h⟩:=Ba h;refine B6 ((List Int)×Int×(List Value)×Nat) (fun⟨d,b,c,n⟩=>[(1,(AaD y)),(3,v2),(9,No ((Qzz (a0.length:Int).toNat (0:Int)).length:Int)),(10,No b)]) (fun⟨d,b,c,n⟩ wr=>Fl w [.row v2 3 1 (d).length c,.box y [f] 23] wr fun Oz=>AI (.int .i64) (gz H w wr Oz) d c/\HG (Em a0) n (d,b)=some r) (fun⟨d,b,c,n⟩=>n) ((Qzz (a0.length:Int).toNat (0:Int)),0,ap,q) Z ⟨ac,aq,h⟩ ?_;rintro⟨d,b,c,nn36⟩ ax ⟨l,o,h⟩;obtain⟨q,a1,rfl,h,s⟩:=AY h;refine AJ 1 Z<|AD<|AP h ?_ ?_<;>intro ad h
  ·refine Aw<|As<|AD<|A3<|AJ 2 Z<|Au<|Aq 3 Z<|Az h fun m h=>KA 0 Z Ahy CO.e l Z b.toNat (Gy m) (AW m) fun a2 ae=>KB 0 b.toNat b Z Z hH l Z o ae (AW m) Z fun a3 af ag ar ah=>AL<|A2<|As<|Au<|Az h fun ai h=>Aj (A5 ai)<|Aq 1 Z<|AL ?_;have h:=Cg.again h s;refine AN (_,_,_,_) Z ⟨ag,ah,h⟩
  refine B4<|AE<|A6 ?_;have h:=Cg.out h s;refine Bi<|A8 (_,_) ⟨l,o,h⟩
 rintro⟨g,e⟩ ay ⟨u,p,h⟩;refine Bu 2 Z<|Az h fun aj h=>?_;obtain⟨ak,al⟩:=aj;rw [ak] at u p;refine Ace (i:=0) (a:=a0) Z Z hH u Z p (k.mono  Ah) (AiH (i:=1) Z) al fun a4 az x au am=>Ac<|AJ 2 Z<|Ay ?_
 cases h
 refine Am Z ⟨x.ext,_,Z,(x.Ip hH (i:=0) Z am)⟩
def Kw(a0:Ac3):Option AjQ:=
 if 2048<(a0.length:Int) then Qq4 (N0 (3:Int) (-1:Int)) (fun a=>some ([],(a.1,a.2))) else Qq4 (Kv a0) (fun b=>some (b,(0,0)))
theorem Um{a0:Ac3}{b:Value}(d:AH .byte H b a0){r:(List Int)×(Int×Int)}(h:Kw a0=some r):
  Qqv 74 [b] w (fun v w'=>∃ m,v=.tuple #[m,.agg #[No r.2.1,No r.2.2]]/\Ck 3 (.int .i64) H w w' m (r.1)):=by
 refine A1 11 [(0,b)] func74 Z fun hL=>Bu 1 Z<|AA AG.e Z hL fun w1 b1 a u _=>Ac<|AD<|Bu 1 Z<|Aj (Bc d)<|A7 1 Z<|AP h ?_ ?_<;>intro o h
 ·refine Ak<|Ax h fun x4 p h=>AF a (Uk _ _ (Ao a) p) fun w5 aa q x=>Aq 1 Z<|Ag 0 Z q Z fun w6 j y=>Ac<|Ay<|Ar ?_
  cases h
  refine Bv (.tmp Z) (.cell Z Aji Z AG.e (AK (i:=0) j Z)) ⟨j.ext,_,Z,Ck.nil⟩
 refine Aw<|As<|Bu 1 Z<|Ax h fun x8 s h=>Bk a (Ul _ _ (Ao a) (d.mono  Ah) s) ?_;rintro z w9 ⟨_,rfl,f⟩ t k l;obtain⟨ab,k,l,e⟩:=f.take hH a t;refine Aj (AT (fun _=>BM _))<|Aq 1 Z<|Ag 1 Z k Z fun ac c g=>Ac<|Ay ?_
 cases h
 refine Bv (.tmp Z) (.cell Z Aji Z AG.e (AK (i:=1) c Z)) ?_;have e:=e.mono (Aa g);exact⟨c.ext,_,Z,(c.Ip hH (i:=0) Z e)⟩
end
end Go.Proofs.YtekmbcbgknmhiaaGreatDoor
end
