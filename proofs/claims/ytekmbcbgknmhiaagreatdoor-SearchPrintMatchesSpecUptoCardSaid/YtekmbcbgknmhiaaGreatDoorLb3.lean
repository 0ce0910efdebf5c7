/- Texts of a claim, merged. -/
import Derived.Test.YtekmbcbgknmhiaaGreatDoorLb2
import Derived.KernelRfl
import Derived.Shelf.Sort.Plain
import Derived.Shelf.Slices.In.SortNone
import Derived.Shelf.Slices.CompactI
import Derived.Shelf.Slices.CompactS
import Derived.Shelf.SlSortCmp.NoneTotal
import Derived.Maps.RangeRun
set_option linter.unusedVariables false
set_option linter.unusedSimpArgs false
open _root_.Go.Proofs.Tryz renaming underlying58→AaR,underlying3→AaT,underlying142→AaY,underlying5→Ab9,underlying22→AbE,underlying64→AbG,underlying109→AbR,underlying205→AbS,underlying171→AbT,underlying9→Abb,underlying23→Abe,underlying28→Abs,underlying94→Ac3,underlying203→Ac9,underlying47→AcA,underlying49→AcB,underlying196→AcC,underlying139→AcH,underlying192→AcJ,underlying44→AcK,underlying46→AcM,underlying135→AcQ,underlying131→AcR,underlying62→Acm
noncomputable section
namespace Go.Proofs.YtekmbcbgknmhiaaGreatDoor
open Go Go.E Go.RowKit Go.L
set_option maxHeartbeats 1000000
set_option maxRecDepth 10000
open _root_.Go.Proofs.Tryz
def Jf(a0:AaK):Option (Bool):=
 if a0=([]:AaK) then some (false) else if(32:Int)<(a0.length:Int) then some (false) else AU (0≤(0:Int)∧(0:Int)<(a0.length:Int)) (if((a0.getD (0:Int).toNat default).toNat:Int)<97 then some (false) else AU (0≤(0:Int)∧(0:Int)<(a0.length:Int)) (if 122<((a0.getD (0:Int).toNat default).toNat:Int) then some (false) else Option.bind (RC a0) (fun a=>some (!a))))
theorem O1(w:World)(H:PH)(hH:Le H (hp w)){a0:AaK}{r:Bool}(h:Jf a0=some r):
  Ok Tryz.prog 159 [AaJ a0] w (fun v w'=>Ext w w'∧v=.bool r):=by
 refine A4 (n:=23) [(0,(AaJ a0))] func159 rfl rfl rfl rfl rfl ?_;have hL:=AO.start w;refine A9 1 rfl<|A7<|Bk 1 rfl<|Ae (KN rfl rfl) rfl<|Aq 1 rfl<|AQ (s:=5) rfl (fun a=>?_) (fun a=>?_)
 ·have h:=BO (of_decide_eq_true a) h
  iterate 3 refine Ai rfl rfl a rfl ?_
  refine Ae (A1 rfl a rfl) rfl<|Aq 1 rfl ?_
  iterate 3 refine Ai rfl rfl rfl rfl ?_
  refine Ae (A1 rfl rfl rfl) rfl<|Aq 1 rfl ?_
  iterate 3 refine Ai rfl rfl rfl rfl ?_
  refine Ae (A1 rfl rfl rfl) rfl<|Ac<|Cy rfl<|A9 1 rfl<|Ay<|Av ?_
  cases h
  refine Am rfl rfl ?_;exact⟨hL.ext,rfl⟩
 have h:=BP (of_decide_eq_false a) h;refine Aa rfl rfl a<|Ae (Ad rfl) rfl<|Aa rfl rfl a<|Ae (De rfl Abb) rfl<|Aa rfl rfl a<|Ae (Ad rfl) rfl<|Ae (A3 rfl a rfl) rfl<|Aq 1 rfl<|AQ (s:=10) rfl (fun b=>?_) (fun b=>?_)
 ·have h:=BO (of_decide_eq_true b) h
  iterate 3 refine Ai rfl rfl b rfl ?_
  refine Ae (A1 rfl b rfl) rfl<|Aq 1 rfl ?_
  iterate 3 refine Ai rfl rfl rfl rfl ?_
  refine Ae (A1 rfl rfl rfl) rfl<|Ac<|Cy rfl<|A9 1 rfl<|Ay<|Av ?_
  cases h
  refine Am rfl rfl ?_;exact⟨hL.ext,rfl⟩
 have h:=BP (of_decide_eq_false b) h;refine Aa rfl rfl b<|Ae (Ad rfl) rfl<|Aa rfl rfl b ?_;refine Az h fun i h=>?_;refine Ae (G7 rfl rfl Abb i) rfl<|Aa rfl rfl b<|Ae (Ad rfl) rfl<|Ae (A3 rfl b rfl) rfl<|Aq 1 rfl<|AQ (s:=15) rfl (fun c=>?_) (fun c=>?_)
 ·have h:=BO (of_decide_eq_true c) h
  iterate 3 refine Ai rfl rfl c rfl ?_
  refine Ae (A1 rfl c rfl) rfl<|Ac<|Cy rfl<|A9 1 rfl<|Ay<|Av ?_
  cases h
  refine Am rfl rfl ?_;exact⟨hL.ext,rfl⟩
 have h:=BP (of_decide_eq_false c) h;refine Aa rfl rfl c<|Ae (Ad rfl) rfl<|Aa rfl rfl c ?_;refine Az h fun d h=>?_;refine Ae (G7 rfl rfl Abb d) rfl<|Aa rfl rfl c<|Ae (Ad rfl) rfl<|Ae (A3 rfl c rfl) rfl<|Ac<|AM rfl h (fun e h=>?_) (fun e h=>?_)
 ·refine A9 1 rfl<|Ay<|Av ?_
  cases h
  refine Am rfl rfl ?_;exact⟨hL.ext,rfl⟩
 refine Au<|Ao<|Bk 1 rfl ?_;refine Ax h fun l f h=>?_;refine AF rfl rfl hL (Xd _ _ (As hH hL) f) fun m k g j=>AA 2 rfl<|Ay ?_
 cases h
 refine Am rfl rfl ?_;exact⟨g.ext,rfl⟩
def IN:Option ((Int×Int)):=
 some (((0:Int),(0:Int)))
def CY(c:(List AaK)):Int×Int→Option ((Int×Int) ⊕ ((Int×Int))):=fun⟨b,a⟩=>
 if a<(c.length:Int) then AU (0≤a∧a<(c.length:Int)) (if c.getD a.toNat default=([35]:AaK) then AU (BL (((c.getD a.toNat default).length:Int)+(1:Int))) (AU (BL (b+(((c.getD a.toNat default).length:Int)+(1:Int)))) (AU (BL (a+(1:Int))) (some (Sum.inl ((b+(((c.getD a.toNat default).length:Int)+(1:Int))),(a+(1:Int))))))) else if c.getD a.toNat default=([42]:AaK) then AU (BL (((c.getD a.toNat default).length:Int)+(1:Int))) (AU (BL (b+(((c.getD a.toNat default).length:Int)+(1:Int)))) (AU (BL (a+(1:Int))) (some (Sum.inl ((b+(((c.getD a.toNat default).length:Int)+(1:Int))),(a+(1:Int))))))) else if c.getD a.toNat default=([42,42]:AaK) then AU (BL (((c.getD a.toNat default).length:Int)+(1:Int))) (AU (BL (b+(((c.getD a.toNat default).length:Int)+(1:Int)))) (AU (BL (a+(1:Int))) (some (Sum.inl ((b+(((c.getD a.toNat default).length:Int)+(1:Int))),(a+(1:Int))))))) else Option.bind (Jf (c.getD a.toNat default)) (fun e=>if !e then Option.bind (Im (1:Int) b) (fun d=>Option.map Sum.inr (some ((d.1,d.2)))) else AU (BL (((c.getD a.toNat default).length:Int)+(1:Int))) (AU (BL (b+(((c.getD a.toNat default).length:Int)+(1:Int)))) (AU (BL (a+(1:Int))) (some (Sum.inl ((b+(((c.getD a.toNat default).length:Int)+(1:Int))),(a+(1:Int))))))))) else Option.map Sum.inr (IN)
def Ku(a:(List AaK))(s:Int×Int):Option ((Int×Int)):=Go.L.run (CY a) s
def Ip(a0:AaK):Option ((Int×Int)):=
 if(64:Int)<(a0.length:Int) then Option.bind (Im (3:Int) (-1:Int)) (fun a=>some ((a.1,a.2))) else Option.bind (Io a0) (fun b=>(Ku b) ((0:Int),(0:Int)))
theorem Qz(w:World)(H:PH)(hH:Le H (hp w)){a0:AaK}{r:(Int×Int)}(h:Ip a0=some r):
  Ok Tryz.prog 103 [AaJ a0] w (fun v w'=>Ext w w'∧v=.agg #[No r.1,No r.2]):=by
 refine A4 (n:=41) [(0,(AaJ a0))] func103 rfl rfl rfl rfl rfl ?_;have hL:=AO.start w;refine Ak<|AG AR rfl rfl hL fun w1 b1 o bb _=>Ac<|A7<|Bk 1 rfl<|Ae (De rfl Abb) rfl<|AA 1 rfl<|AM rfl h (fun a1 h=>?_) (fun a1 h=>?_)
 ·refine Ak ?_;refine Ax h fun x4 a2 h=>?_;refine AF rfl rfl o (MN _ _ (As hH o) a2) fun w5 bn a3 bc=>Aj 0 rfl rfl rfl AR a3 rfl rfl (AH rfl (AH rfl Cj)) fun w6 av bd=>Ac<|Ay<|Av ?_
  cases h
  refine BB rfl (.cell rfl Abs rfl AR (AT (i:=0) av rfl)) ?_;exact⟨av.ext,rfl⟩
 refine Au<|Ao<|A9 1 rfl<|Bn (σ:=Unit) (fun(_:Unit)=>[(2,(AaH b1))]) (fun(_:Unit) wr=>AO w [.box b1 [No (0:Int),No (0:Int)] 28] wr∧IN=some r) ?_ ?_
 ·refine Bk 1 rfl ?_;refine Ax h fun l aw h=>?_;refine Bs rfl rfl o (Qx _ _ (As hH o) aw) ?_;rintro q bo ⟨_,rfl,y⟩ ax ay a7;have p:=y.CA hH o ax;refine Ae (Bo rfl AbE p) rfl<|AA 1 rfl<|A2 ?_;obtain⟨k,h⟩:=AY h;refine Bw (σ:=Int×Int×Nat) (fun⟨b,a,n⟩=>[(2,(AaH b1)),(3,No b),(11,q),(12,No (l.length:Int)),(13,No a)]) (fun⟨b,a,n⟩ wr=>DZ w [.box b1 [No (0:Int),No (0:Int)] 28] wr fun Oz=>AI .st (gz H w wr Oz) (q) (l)∧FT (CY l) n (b,a)=some r) (fun⟨b,a,n⟩=>n) ((0:Int),(0:Int),k) (Sub.of rfl) ⟨ay,p,h⟩ ?_;rintro⟨b,a,nn124⟩ a8 ⟨g,c,h⟩;obtain⟨k,be,rfl,h,j⟩:=AX h;refine A9 1 rfl<|A7<|AM rfl h (fun ab h=>?_) (fun ab h=>?_)
  ·refine Au<|Ao<|A7<|A2<|Ak ?_;refine Az h fun t h=>?_;refine Bb rfl rfl AbE Fu c a.toNat (EM t) (AW t) rfl ?_;rintro bf _ rfl ac;refine Ae (Be rfl Abb rfl ac (As hH g)) rfl<|AA 1 rfl<|A7<|Bk 1 rfl<|Ae (ML rfl rfl) rfl<|Aq 1 rfl<|AQ (s:=19) rfl (fun e=>?_) (fun e=>?_)
   ·have h:=BP (CE e) h;refine Aa rfl rfl e<|Ae (Ad rfl) rfl<|Aa rfl rfl e<|Ae (ML rfl rfl) rfl<|Ae (A1 rfl e rfl) rfl<|Aq 1 rfl<|AQ (s:=23) rfl (fun f=>?_) (fun f=>?_)
    ·have h:=BP (CE f) h;refine Aa rfl rfl f<|Ae (Ad rfl) rfl<|Aa rfl rfl f<|Ae (ML rfl rfl) rfl<|Ae (A1 rfl f rfl) rfl<|Aq 1 rfl<|AQ (s:=27) rfl (fun d=>?_) (fun d=>?_)
     ·have h:=BP (CE d) h;refine Aa rfl rfl d<|Ae (Ad rfl) rfl<|Aa rfl rfl d ?_;refine Ax h fun bg ad h=>?_;refine AF rfl rfl g (O1 _ _ (As hH g) ad) fun bh a9 m z=>Aa rfl rfl d<|Ae (Ad rfl) rfl<|Ae (A1 rfl d rfl) rfl<|Ac<|Bl rfl h (fun ae h=>?_) (fun ae h=>?_)
      ·refine Bk 1 rfl ?_;refine Ax h fun bi af h=>?_;refine AF rfl rfl m (MN _ _ (As hH m) af) fun bj ba ag a4=>Aj 0 rfl rfl rfl AR ag rfl rfl (AH rfl (AH rfl Cj)) fun bk u a5=>Ac<|Ay<|Av<|Aw<|Av<|BK ?_;have h:=BV.out h j;refine Aw<|Bt ?_
       cases h
       refine BB rfl (.cell rfl Abs rfl AR (AT (i:=0) u rfl)) ?_;exact⟨u.ext,rfl⟩
      refine Au<|Ao<|Ar<|Aq 2 rfl<|Ae (De rfl Abb) rfl ?_;refine Az h fun ah h=>?_;refine Ae (AK rfl rfl rfl ah) rfl ?_;refine Az h fun ai h=>?_;refine Ae (AK rfl rfl rfl ai) rfl<|Aq 1 rfl<|AL<|A8<|Ao<|Ar ?_;refine Az h fun aj h=>?_;refine Ae (AK rfl rfl rfl aj) rfl<|Aq 1 rfl<|AL ?_;have h:=BV.again h j;have c:=c.mono (Ab hH z);refine AN ((b+(((l.getD a.toNat default).length:Int)+(1:Int))),(a+(1:Int)),k) (Sub.of rfl) ⟨m,c,h⟩ (Nat.lt_succ_self _)
     have h:=BO (CF d) h
     iterate 3 refine Ai rfl rfl d rfl ?_
     refine Ae (A3 rfl d rfl) rfl<|Ac<|Cw rfl<|Au<|Ao<|Ar<|Aq 2 rfl<|Ae (De rfl Abb) rfl ?_;refine Az h fun ak h=>?_;refine Ae (AK rfl rfl rfl ak) rfl ?_;refine Az h fun al h=>?_;refine Ae (AK rfl rfl rfl al) rfl<|Aq 1 rfl<|AL<|A8<|Ao<|Ar ?_;refine Az h fun am h=>?_;refine Ae (AK rfl rfl rfl am) rfl<|Aq 1 rfl<|AL ?_;have h:=BV.again h j;refine AN ((b+(((l.getD a.toNat default).length:Int)+(1:Int))),(a+(1:Int)),k) (Sub.of rfl) ⟨g,c,h⟩ (Nat.lt_succ_self _)
    have h:=BO (CF f) h
    iterate 2 refine Ai rfl rfl f rfl ?_
    refine Ae (A3 rfl f rfl) rfl<|Aq 1 rfl ?_
    iterate 3 refine Ai rfl rfl rfl rfl ?_
    refine Ae (A3 rfl rfl rfl) rfl<|Ac<|Cw rfl<|Au<|Ao<|Ar<|Aq 2 rfl<|Ae (De rfl Abb) rfl ?_;refine Az h fun an h=>?_;refine Ae (AK rfl rfl rfl an) rfl ?_;refine Az h fun ao h=>?_;refine Ae (AK rfl rfl rfl ao) rfl<|Aq 1 rfl<|AL<|A8<|Ao<|Ar ?_;refine Az h fun ap h=>?_;refine Ae (AK rfl rfl rfl ap) rfl<|Aq 1 rfl<|AL ?_;have h:=BV.again h j;refine AN ((b+(((l.getD a.toNat default).length:Int)+(1:Int))),(a+(1:Int)),k) (Sub.of rfl) ⟨g,c,h⟩ (Nat.lt_succ_self _)
   have h:=BO (CF e) h
   iterate 2 refine Ai rfl rfl e rfl ?_
   refine Ae (A3 rfl e rfl) rfl<|Aq 1 rfl ?_
   iterate 2 refine Ai rfl rfl rfl rfl ?_
   refine Ae (A3 rfl rfl rfl) rfl<|Aq 1 rfl ?_
   iterate 3 refine Ai rfl rfl rfl rfl ?_
   refine Ae (A3 rfl rfl rfl) rfl<|Ac<|Cw rfl<|Au<|Ao<|Ar<|Aq 2 rfl<|Ae (De rfl Abb) rfl ?_;refine Az h fun aq h=>?_;refine Ae (AK rfl rfl rfl aq) rfl ?_;refine Az h fun ar h=>?_;refine Ae (AK rfl rfl rfl ar) rfl<|Aq 1 rfl<|AL<|A8<|Ao<|Ar ?_;refine Az h fun au h=>?_;refine Ae (AK rfl rfl rfl au) rfl<|Aq 1 rfl<|AL ?_;have h:=BV.again h j;refine AN ((b+(((l.getD a.toNat default).length:Int)+(1:Int))),(a+(1:Int)),k) (Sub.of rfl) ⟨g,c,h⟩ (Nat.lt_succ_self _)
  refine Br<|AD<|A5 ?_;have h:=BV.out h j;refine Bd<|A6 () (Sub.of rfl) ⟨g,h⟩
 rintro _ bl ⟨az,h⟩;refine Ak<|Ae (AZ rfl (fun _=>BY _)) rfl<|Aj 0 rfl rfl rfl AR az rfl rfl (AH rfl (AH rfl Cj)) fun bm x a6=>Ac<|Ay ?_
 cases h
 refine BB rfl (.cell rfl Abs rfl AR (AT (i:=0) x rfl)) ?_;exact⟨x.ext,rfl⟩
def HH(a0:AaK):Option (Bool):=
 Option.bind (Jf a0) (fun a=>some (!a))
theorem N1(w:World)(H:PH)(hH:Le H (hp w)){a0:AaK}{r:Bool}(h:HH a0=some r):
  Ok Tryz.prog 230 [AaJ a0] w (fun v w'=>Ext w w'∧v=.bool r):=by
 refine A4 (n:=6) [(0,(AaJ a0))] func230 rfl rfl rfl rfl rfl ?_;have hL:=AO.start w;refine A9 1 rfl<|Bk 1 rfl ?_;refine Ax h fun e a h=>?_;refine AF rfl rfl hL (O1 _ _ (As hH hL) a) fun f d b c=>AA 2 rfl<|Ay ?_
 cases h
 refine Am rfl rfl ?_;exact⟨b.ext,rfl⟩
def Gv:Option (Int):=
 some ((-1:Int))
def Gd(a0:List AaK):Int→Option ((Int) ⊕ (Int)):=fun a=>
 if a<(a0.length:Int) then AU (0≤a∧a<(a0.length:Int)) (Option.bind (HH (a0.getD a.toNat default)) (fun b=>if b then Option.map Sum.inr (some (a)) else AU (BL (a+(1:Int))) (some (Sum.inl (a+(1:Int)))))) else Option.map Sum.inr (Gv)
def I9(a0:List AaK)(s:Int):Option (Int):=Go.L.run (Gd a0) s
def Iq(a0:List AaK):Option (Int):=
 (I9 a0) (0:Int)
theorem Oe(w:World)(H:PH)(hH:Le H (hp w)){a0:List AaK}{b:Value}(e:AI .st H b (a0)){r:Int}(h:Iq a0=some r):
  Ok Tryz.prog 284 [b,.func (.func 230) #[] #[]] w (fun v w'=>Ext w w'∧v=No r):=by
 refine A4 (n:=19) [(0,b),(1,.func (.func 230) #[] #[])] func284 rfl rfl rfl rfl rfl ?_;have hL:=AO.start w;refine A9 1 rfl<|Bn (σ:=Unit) (fun(_:Unit)=>[]) (fun(_:Unit) wr=>AO w [] wr∧Gv=some r) ?_ ?_
 ·refine Bk 1 rfl<|Ae (Bo rfl AbE e) rfl<|AA 1 rfl<|A2 ?_;obtain⟨f,h⟩:=AY h;refine Bw (σ:=Int×Nat) (fun⟨a,n⟩=>[(0,b),(1,.func (.func 230) #[] #[]),(7,No (a0.length:Int)),(8,No a)]) (fun⟨a,n⟩ wr=>AO w [] wr∧FT (Gd a0) n a=some r) (fun⟨a,n⟩=>n) ((0:Int),f) (Sub.of rfl) ⟨hL,h⟩ ?_;rintro⟨a,nn42⟩ s ⟨c,h⟩;obtain⟨f,x,rfl,h,d⟩:=AX h;refine A9 1 rfl<|A7<|AM rfl h (fun j h=>?_) (fun j h=>?_)
  ·refine Au<|Ao<|A7<|A2<|A9 2 rfl<|Bk 3 rfl ?_;refine Az h fun g h=>?_;refine Bb rfl rfl AbE Fu e a.toNat (EM g) (AW g) rfl ?_;rintro y _ rfl k;refine Ae (Be rfl Abb rfl k (hH.trans c.arg)) rfl ?_;refine Ax h fun z l h=>?_;refine R1 rfl rfl rfl c (N1 _ _ (As hH c) l) ?_;rintro _ aa rfl t i q;refine Ac<|Bl rfl h (fun m h=>?_) (fun m h=>?_)
   ·refine A9 2 rfl<|Ay<|Aw<|Av<|BK ?_;have h:=BV.out h d;refine Aw<|Bt ?_
    cases h
    refine Am rfl rfl ?_;exact⟨i.ext,rfl⟩
   refine Au<|A8<|Ao<|Ar ?_;refine Az h fun o h=>?_;refine Ae (AK rfl rfl rfl o) rfl<|Aq 1 rfl<|AL ?_;have h:=BV.again h d;refine AN ((a+(1:Int)),f) (Sub.of rfl) ⟨i,h⟩ (Nat.lt_succ_self _)
  refine Br<|AD<|A5 ?_;have h:=BV.out h d;refine Bd<|A6 () (Sub.nil _) ⟨c,h⟩
 rintro _ u ⟨p,h⟩;refine A9 1 rfl<|Ay ?_
 cases h
 refine Am rfl rfl ?_;exact⟨p.ext,rfl⟩
def Ir(a0:List AaK):Option (Bool):=
 Option.bind (Iq a0) (fun a=>some (decide ((0:Int)≤a)))
theorem Of(w:World)(H:PH)(hH:Le H (hp w)){a0:List AaK}{a:Value}(b:AI .st H a (a0)){r:Bool}(h:Ir a0=some r):
  Ok Tryz.prog 229 [a,.func (.func 230) #[] #[]] w (fun v w'=>Ext w w'∧v=.bool r):=by
 refine A4 (n:=9) [(0,a),(1,.func (.func 230) #[] #[])] func229 rfl rfl rfl rfl rfl ?_;have hL:=AO.start w;refine A9 1 rfl<|Bk 2 rfl ?_;refine Ax h fun g c h=>?_;refine AF rfl rfl hL (Oe _ _ (As hH hL) (b.mono (Ah hH)) c) fun i f d e=>AA 2 rfl<|Ay ?_
 cases h
 refine Am rfl rfl ?_;exact⟨d.ext,rfl⟩
def Kn(a0:Int)(a1:Int):Option ((Int×Int)):=
 some ((a0,a1))
theorem N2(w:World)(H:PH)(_hH:Le H (hp w)){a0:Int}{a1:Int}{r:(Int×Int)}(h:Kn a0 a1=some r):
  Ok Tryz.prog 78 [No a0,No a1] w (fun v w'=>Ext w w'∧v=.agg #[No r.1,No r.2]):=by
 refine A4 (n:=8) [(0,No a0),(1,No a1)] func78 rfl rfl rfl rfl rfl ?_;have hL:=AO.start w;refine Ak<|AG AR rfl rfl hL fun e f b c _=>Ac<|Bk 2 rfl<|Ae (AZ rfl (fun _=>NU _ _ _)) rfl<|Aj 0 rfl rfl rfl AR b rfl rfl (AH rfl (AH rfl Cj)) fun g a d=>Ac<|Ay ?_
 cases h
 refine BB rfl (.cell rfl Abs rfl AR (AT (i:=0) a rfl)) ?_;exact⟨a.ext,rfl⟩
def Dz:Option (Int):=
 some ((-1:Int))
def BS(a0:List Int)(a1:Int):Int→Option ((Int) ⊕ (Int)):=fun a=>
 if a<(a0.length:Int) then AU (0≤a∧a<(a0.length:Int)) (if a1=a0.getD a.toNat default then Option.map Sum.inr (some (a)) else AU (BL (a+(1:Int))) (some (Sum.inl (a+(1:Int))))) else Option.map Sum.inr (Dz)
def E3(a0:List Int)(a1:Int)(s:Int):Option (Int):=Go.L.run (BS a0 a1) s
def Ev(a0:List Int)(a1:Int):Option (Int):=
 (E3 a0 a1) (0:Int)
theorem Mg(w:World)(H:PH)(hH:Le H (hp w)){a0:List Int}{a1:Int}{b:Value}(e:AI (.int .i64) H b (a0)){r:Int}(h:Ev a0 a1=some r):
  Ok Tryz.prog 163 [b,No a1] w (fun v w'=>Ext w w'∧v=No r):=by
 refine A4 (n:=19) [(0,b),(1,No a1)] func163 rfl rfl rfl rfl rfl ?_;have hL:=AO.start w;refine A9 1 rfl<|Bn (σ:=Unit) (fun(_:Unit)=>[]) (fun(_:Unit) wr=>AO w [] wr∧Dz=some r) ?_ ?_
 ·refine Bk 1 rfl<|Ae (Bo rfl AaR e) rfl<|AA 1 rfl<|A2 ?_;obtain⟨f,h⟩:=AY h;refine Bw (σ:=Int×Nat) (fun⟨a,n⟩=>[(0,b),(1,No a1),(7,No (a0.length:Int)),(8,No a)]) (fun⟨a,n⟩ wr=>AO w [] wr∧FT (BS a0 a1) n a=some r) (fun⟨a,n⟩=>n) ((0:Int),f) (Sub.of rfl) ⟨hL,h⟩ ?_;rintro⟨a,nn36⟩ o ⟨c,h⟩;obtain⟨f,q,rfl,h,d⟩:=AX h;refine A9 1 rfl<|A7<|AM rfl h (fun i h=>?_) (fun i h=>?_)
  ·refine Au<|Ao<|A7<|A2<|A9 2 rfl<|Bk 3 rfl ?_;refine Az h fun g h=>?_;refine Bb rfl rfl AaR Cc e a.toNat (EM g) (AW g) rfl ?_;rintro s _ rfl j;refine Ae (Be rfl AaT rfl j (hH.trans c.arg)) rfl<|AA 1 rfl<|AM rfl h (fun k h=>?_) (fun k h=>?_)
   ·refine A9 2 rfl<|Ay<|Aw<|Av<|BK ?_;have h:=BV.out h d;refine Aw<|Bt ?_
    cases h
    refine Am rfl rfl ?_;exact⟨c.ext,rfl⟩
   refine Au<|A8<|Ao<|Ar ?_;refine Az h fun l h=>?_;refine Ae (AK rfl rfl rfl l) rfl<|Aq 1 rfl<|AL ?_;have h:=BV.again h d;refine AN ((a+(1:Int)),f) (Sub.of rfl) ⟨c,h⟩ (Nat.lt_succ_self _)
  refine Br<|AD<|A5 ?_;have h:=BV.out h d;refine Bd<|A6 () (Sub.nil _) ⟨c,h⟩
 rintro _ p ⟨m,h⟩;refine A9 1 rfl<|Ay ?_
 cases h
 refine Am rfl rfl ?_;exact⟨m.ext,rfl⟩
def Cs(a0:List Int)(a1:Int):Option (Bool):=
 Option.bind (Ev a0 a1) (fun a=>some (decide ((0:Int)≤a)))
theorem HW(w:World)(H:PH)(hH:Le H (hp w)){a0:List Int}{a1:Int}{a:Value}(b:AI (.int .i64) H a (a0)){r:Bool}(h:Cs a0 a1=some r):
  Ok Tryz.prog 108 [a,No a1] w (fun v w'=>Ext w w'∧v=.bool r):=by
 refine A4 (n:=9) [(0,a),(1,No a1)] func108 rfl rfl rfl rfl rfl ?_;have hL:=AO.start w;refine A9 1 rfl<|Bk 2 rfl ?_;refine Ax h fun g c h=>?_;refine AF rfl rfl hL (Mg _ _ (As hH hL) (b.mono (Ah hH)) c) fun i f d e=>AA 2 rfl<|Ay ?_
 cases h
 refine Am rfl rfl ?_;exact⟨d.ext,rfl⟩
def DI(a0:AaK):Option (AaK):=
 AU (Go.E.JE 1 (([]:AaK).length+a0.length)) (some ((([]:AaK)++a0)))
theorem I7(w:World)(H:PH)(hH:Le H (hp w)){a0:AaK}{a:Value}(b:AI .byte H a (a0)){r:AaK}(h:DI a0=some r):
  Ok Tryz.prog 99 [a] w (fun v w'=>Ext w w'∧∃ d,v=d∧C2 5 .byte H w w' d (r)):=by
 refine A4 (n:=8) [(0,a)] func99 rfl rfl rfl rfl rfl ?_;have hL:=AO.start w;refine A9 1 rfl<|A7<|Bk 1 rfl ?_
 rcases Tu b with ⟨rfl,rfl⟩ | hnn
 ·refine Ae (Tv rfl rfl Abe) rfl<|Ac<|Cy rfl<|A9 1 rfl<|Ay ?_;obtain⟨_,h⟩:=EN h;obtain rfl:=Option.some.inj h;refine Av<|Am rfl rfl ?_;exact⟨hL.ext,_,rfl,Tx _ hL hH⟩
 refine Ae (Tw rfl rfl Abe hnn) rfl<|Ac<|Cw rfl<|Au<|Ao<|Ak<|JK (r:=.byte) (l:=([]:AaK)) rfl (fun _=>Aac _) rfl (show 0≤9223372036854775807 by decide) hH hL .nil fun s t p e k f=>Aq 1 rfl ?_;refine Az h fun g h=>?_;refine Bq (r:=.byte) (l:=([]:AaK)) (m:=a0) 0 rfl rfl Abe Lo rfl (by decide) rfl hH e rfl f (b.mono (Ah hH)) g fun u x q c o j=>AA 1 rfl<|Ay ?_
 cases h
 refine Am rfl rfl ?_;exact⟨c.ext,_,rfl,(c.GQ hH (i:=0) rfl j)⟩
def Dt(a0:List (Int×Int)):Option ((List (Int×Int))):=
 AU (Go.E.JE 16 (([]:List (Int×Int)).length+a0.length)) (some ((([]:List (Int×Int))++a0)))
theorem JF(w:World)(H:PH)(hH:Le H (hp w)){a0:List (Int×Int)}{a:Value}(b:AI (.pair (.int .i64) (.int .i64)) H a (a0)){r:(List (Int×Int))}(h:Dt a0=some r):
  Ok Tryz.prog 193 [a] w (fun v w'=>Ext w w'∧∃ d,v=d∧C2 137 (.pair (.int .i64) (.int .i64)) H w w' d (r)):=by
 refine A4 (n:=8) [(0,a)] func193 rfl rfl rfl rfl rfl ?_;have hL:=AO.start w;refine A9 1 rfl<|A7<|Bk 1 rfl ?_
 rcases Tu b with ⟨rfl,rfl⟩ | hnn
 ·refine Ae (Tv rfl rfl AbR) rfl<|Ac<|Cy rfl<|A9 1 rfl<|Ay ?_;obtain⟨_,h⟩:=EN h;obtain rfl:=Option.some.inj h;refine Av<|Am rfl rfl ?_;exact⟨hL.ext,_,rfl,Tx _ hL hH⟩
 refine Ae (Tw rfl rfl AbR hnn) rfl<|Ac<|Cw rfl<|Au<|Ao<|Ak<|JK (r:=(.pair (.int .i64) (.int .i64))) (l:=([]:List (Int×Int))) rfl (fun _=>Yx _) rfl (show 0≤9223372036854775807 by decide) hH hL .nil fun s t p e k f=>Aq 1 rfl ?_;refine Az h fun g h=>?_;refine Bq (r:=(.pair (.int .i64) (.int .i64))) (l:=([]:List (Int×Int))) (m:=a0) 0 rfl rfl AbR K4 rfl (by decide) rfl hH e rfl f (b.mono (Ah hH)) g fun u x q c o j=>AA 1 rfl<|Ay ?_
 cases h
 refine Am rfl rfl ?_;exact⟨c.ext,_,rfl,(c.GQ hH (i:=0) rfl j)⟩
def Ew(a0:List Int):Option ((List Int)):=
 AU (Go.E.JE 8 (([]:List Int).length+a0.length)) (some ((([]:List Int)++a0)))
theorem Mh(w:World)(H:PH)(hH:Le H (hp w)){a0:List Int}{a:Value}(b:AI (.int .i64) H a (a0)){r:(List Int)}(h:Ew a0=some r):
  Ok Tryz.prog 138 [a] w (fun v w'=>Ext w w'∧∃ d,v=d∧C2 3 (.int .i64) H w w' d (r)):=by
 refine A4 (n:=8) [(0,a)] func138 rfl rfl rfl rfl rfl ?_;have hL:=AO.start w;refine A9 1 rfl<|A7<|Bk 1 rfl ?_
 rcases Tu b with ⟨rfl,rfl⟩ | hnn
 ·refine Ae (Tv rfl rfl AaR) rfl<|Ac<|Cy rfl<|A9 1 rfl<|Ay ?_;obtain⟨_,h⟩:=EN h;obtain rfl:=Option.some.inj h;refine Av<|Am rfl rfl ?_;exact⟨hL.ext,_,rfl,Tx _ hL hH⟩
 refine Ae (Tw rfl rfl AaR hnn) rfl<|Ac<|Cw rfl<|Au<|Ao<|Ak<|JK (r:=(.int .i64)) (l:=([]:List Int)) rfl (fun _=>Aag _) rfl (show 0≤9223372036854775807 by decide) hH hL .nil fun s t p e k f=>Aq 1 rfl ?_;refine Az h fun g h=>?_;refine Bq (r:=(.int .i64)) (l:=([]:List Int)) (m:=a0) 0 rfl rfl AaR Cc rfl (by decide) rfl hH e rfl f (b.mono (Ah hH)) g fun u x q c o j=>AA 1 rfl<|Ay ?_
 cases h
 refine Am rfl rfl ?_;exact⟨c.ext,_,rfl,(c.GQ hH (i:=0) rfl j)⟩
def DJ(a0:List AaK):Option ((List AaK)):=
 AU (Go.E.JE 16 (([]:List AaK).length+a0.length)) (some ((([]:List AaK)++a0)))
theorem Ko(w:World)(H:PH)(hH:Le H (hp w)){a0:List AaK}{a:Value}(b:AI .st H a (a0)){r:(List AaK)}(h:DJ a0=some r):
  Ok Tryz.prog 135 [a] w (fun v w'=>Ext w w'∧∃ d,v=d∧C2 9 .st H w w' d (r)):=by
 refine A4 (n:=8) [(0,a)] func135 rfl rfl rfl rfl rfl ?_;have hL:=AO.start w;refine A9 1 rfl<|A7<|Bk 1 rfl ?_
 rcases Tu b with ⟨rfl,rfl⟩ | hnn
 ·refine Ae (Tv rfl rfl AbE) rfl<|Ac<|Cy rfl<|A9 1 rfl<|Ay ?_;obtain⟨_,h⟩:=EN h;obtain rfl:=Option.some.inj h;refine Av<|Am rfl rfl ?_;exact⟨hL.ext,_,rfl,Tx _ hL hH⟩
 refine Ae (Tw rfl rfl AbE hnn) rfl<|Ac<|Cw rfl<|Au<|Ao<|Ak<|JK (r:=.st) (l:=([]:List AaK)) rfl (fun _=>Aaa _) rfl (show 0≤9223372036854775807 by decide) hH hL .nil fun s t p e k f=>Aq 1 rfl ?_;refine Az h fun g h=>?_;refine Bq (r:=.st) (l:=([]:List AaK)) (m:=a0) 0 rfl rfl AbE Fu rfl (by decide) rfl hH e rfl f (b.mono (Ah hH)) g fun u x q c o j=>AA 1 rfl<|Ay ?_
 cases h
 refine Am rfl rfl ?_;exact⟨c.ext,_,rfl,(c.GQ hH (i:=0) rfl j)⟩
def F2(a:Int)(b:Int):Option (Int):=
 AU (0≤((Go.L.u8 a).toNat:Int)∧((Go.L.u8 a).toNat:Int)<(([0,1,2,2,3,3,3,3,4,4,4,4,4,4,4,4,5,5,5,5,5,5,5,5,5,5,5,5,5,5,5,5,6,6,6,6,6,6,6,6,6,6,6,6,6,6,6,6,6,6,6,6,6,6,6,6,6,6,6,6,6,6,6,6,7,7,7,7,7,7,7,7,7,7,7,7,7,7,7,7,7,7,7,7,7,7,7,7,7,7,7,7,7,7,7,7,7,7,7,7,7,7,7,7,7,7,7,7,7,7,7,7,7,7,7,7,7,7,7,7,7,7,7,7,7,7,7,7,8,8,8,8,8,8,8,8,8,8,8,8,8,8,8,8,8,8,8,8,8,8,8,8,8,8,8,8,8,8,8,8,8,8,8,8,8,8,8,8,8,8,8,8,8,8,8,8,8,8,8,8,8,8,8,8,8,8,8,8,8,8,8,8,8,8,8,8,8,8,8,8,8,8,8,8,8,8,8,8,8,8,8,8,8,8,8,8,8,8,8,8,8,8,8,8,8,8,8,8,8,8,8,8,8,8,8,8,8,8,8,8,8,8,8,8,8,8,8,8,8,8,8,8,8,8,8,8]:AaK).length:Int)) (AU (BL (b+((([0,1,2,2,3,3,3,3,4,4,4,4,4,4,4,4,5,5,5,5,5,5,5,5,5,5,5,5,5,5,5,5,6,6,6,6,6,6,6,6,6,6,6,6,6,6,6,6,6,6,6,6,6,6,6,6,6,6,6,6,6,6,6,6,7,7,7,7,7,7,7,7,7,7,7,7,7,7,7,7,7,7,7,7,7,7,7,7,7,7,7,7,7,7,7,7,7,7,7,7,7,7,7,7,7,7,7,7,7,7,7,7,7,7,7,7,7,7,7,7,7,7,7,7,7,7,7,7,8,8,8,8,8,8,8,8,8,8,8,8,8,8,8,8,8,8,8,8,8,8,8,8,8,8,8,8,8,8,8,8,8,8,8,8,8,8,8,8,8,8,8,8,8,8,8,8,8,8,8,8,8,8,8,8,8,8,8,8,8,8,8,8,8,8,8,8,8,8,8,8,8,8,8,8,8,8,8,8,8,8,8,8,8,8,8,8,8,8,8,8,8,8,8,8,8,8,8,8,8,8,8,8,8,8,8,8,8,8,8,8,8,8,8,8,8,8,8,8,8,8,8,8,8,8,8,8]:AaK).getD ((Go.L.u8 a).toNat:Int).toNat default).toNat:Int))) (some ((b+((([0,1,2,2,3,3,3,3,4,4,4,4,4,4,4,4,5,5,5,5,5,5,5,5,5,5,5,5,5,5,5,5,6,6,6,6,6,6,6,6,6,6,6,6,6,6,6,6,6,6,6,6,6,6,6,6,6,6,6,6,6,6,6,6,7,7,7,7,7,7,7,7,7,7,7,7,7,7,7,7,7,7,7,7,7,7,7,7,7,7,7,7,7,7,7,7,7,7,7,7,7,7,7,7,7,7,7,7,7,7,7,7,7,7,7,7,7,7,7,7,7,7,7,7,7,7,7,7,8,8,8,8,8,8,8,8,8,8,8,8,8,8,8,8,8,8,8,8,8,8,8,8,8,8,8,8,8,8,8,8,8,8,8,8,8,8,8,8,8,8,8,8,8,8,8,8,8,8,8,8,8,8,8,8,8,8,8,8,8,8,8,8,8,8,8,8,8,8,8,8,8,8,8,8,8,8,8,8,8,8,8,8,8,8,8,8,8,8,8,8,8,8,8,8,8,8,8,8,8,8,8,8,8,8,8,8,8,8,8,8,8,8,8,8,8,8,8,8,8,8,8,8,8,8,8,8]:AaK).getD ((Go.L.u8 a).toNat:Int).toNat default).toNat:Int)))))
def F3(a:Int)(b:Int):Option (Int):=
 if(256:Int)≤a then AU (BL (b+(8:Int))) (F2 (a / 256) (b+(8:Int))) else F2 a b
def F4(a:Int)(b:Int):Option (Int):=
 if(65536:Int)≤a then AU (BL (b+(16:Int))) (F3 (a / 65536) (b+(16:Int))) else F3 a b
def IP(a0:Int):Option (Int):=
 if(4294967296:Int)≤a0 then F4 (a0 / 4294967296) (32:Int) else F4 a0 (0:Int)
theorem OC(w:World)(H:PH)(_hH:Le H (hp w)){a0:Int}{r:Int}(h:IP a0=some r):
  Ok Tryz.prog 236 [.int .u64 a0] w (fun v w'=>Ext w w'∧v=No r):=by
 refine A4 (n:=25) [(0,.int .u64 a0)] func236 rfl rfl rfl rfl rfl ?_;have hL:=AO.start w;refine A9 1 rfl<|Bn (σ:=Int×Int) (fun⟨d,e⟩=>[(0,.int .u64 d),(2,No e)]) (fun⟨d,e⟩ wr=>AO w [] wr∧F4 d e=some r) ?_ ?_
 ·refine A9 2 rfl<|AM rfl h (fun u h=>?_) (fun u h=>?_)
  ·refine Bk 1 rfl<|Ae (S8 (c:=32) (m:=4294967296) rfl rfl rfl (by decide)) rfl<|AA 1 rfl<|Ar<|Aq 1 rfl<|AL<|A6 ((a0 / 4294967296),(32:Int)) (Sub.of rfl) ⟨hL,h⟩
  refine Au<|A6 (a0,(0:Int)) (Sub.of rfl) ⟨hL,h⟩
 rintro⟨d,e⟩ z ⟨j,h⟩;refine Bn (σ:=Int×Int) (fun⟨a,b⟩=>[(0,.int .u64 a),(2,No b)]) (fun⟨a,b⟩ wr=>AO w [] wr∧F3 a b=some r) ?_ ?_
 ·refine A9 2 rfl<|AM rfl h (fun k h=>?_) (fun k h=>?_)
  ·refine Bk 1 rfl<|Ae (S8 (c:=16) (m:=65536) rfl rfl rfl (by decide)) rfl<|AA 1 rfl<|Ar<|Aq 1 rfl ?_;refine Az h fun l h=>?_;refine Ae (AK rfl rfl rfl l) rfl<|Aq 1 rfl<|AL<|A6 ((d / 65536),(e+(16:Int))) (Sub.of rfl) ⟨j,h⟩
  refine Au<|A6 (d,e) (Sub.of rfl) ⟨j,h⟩
 rintro⟨a,b⟩ x ⟨i,h⟩;refine Bn (σ:=Int×Int) (fun⟨f,g⟩=>[(0,.int .u64 f),(2,No g)]) (fun⟨f,g⟩ wr=>AO w [] wr∧F2 f g=some r) ?_ ?_
 ·refine A9 2 rfl<|AM rfl h (fun o h=>?_) (fun o h=>?_)
  ·refine Bk 1 rfl<|Ae (S8 (c:=8) (m:=256) rfl rfl rfl (by decide)) rfl<|AA 1 rfl<|Ar<|Aq 1 rfl ?_;refine Az h fun p h=>?_;refine Ae (AK rfl rfl rfl p) rfl<|Aq 1 rfl<|AL<|A6 ((a / 256),(b+(8:Int))) (Sub.of rfl) ⟨i,h⟩
  refine Au<|A6 (a,b) (Sub.of rfl) ⟨i,h⟩
 rintro⟨f,g⟩ y ⟨q,h⟩;refine Bk 2 rfl<|Ae (EV AbS Ab9 rfl (HS _)) rfl ?_;refine Az h fun s h=>?_;refine Ae (G7 rfl rfl Abb s) rfl<|Ae (EV Ab9 AaT rfl (H0 _)) rfl ?_;refine Az h fun t h=>?_;refine Ae (AK rfl rfl rfl t) rfl<|AA 1 rfl<|Ay ?_
 cases h
 refine Am rfl rfl ?_;exact⟨q.ext,rfl⟩
def Kb(a0:Int):Option (Int):=
 Option.bind (IP a0) (fun a=>some (a))
theorem PI(w:World)(H:PH)(hH:Le H (hp w)){a0:Int}{r:Int}(h:Kb a0=some r):
  Ok Tryz.prog 185 [.int .u64 a0] w (fun v w'=>Ext w w'∧v=No r):=by
 refine A4 (n:=8) [(0,.int .u64 a0)] func185 rfl rfl rfl rfl rfl ?_;have hL:=AO.start w;refine A9 1 rfl<|A7<|Cw rfl<|Au<|Ao<|Bk 1 rfl ?_;refine Ax h fun e a h=>?_;refine AF rfl rfl hL (OC _ _ (As hH hL) a) fun f d b c=>AA 1 rfl<|Ay ?_
 cases h
 refine Am rfl rfl ?_;exact⟨b.ext,rfl⟩
def Jw(a0:Int):Option (Int):=
 if a0<(1:Int) then none else Option.bind (Kb (IntKind.u64.wrap a0)) (fun a=>AU (BL ((2:Int) * a)) (AU (BL (((2:Int) * a) - (1:Int))) (some ((((2:Int) * a) - (1:Int))))))
theorem OZ(w:World)(H:PH)(hH:Le H (hp w)){a0:Int}{r:Int}(h:Jw a0=some r):
  Ok Tryz.prog 134 [No a0] w (fun v w'=>Ext w w'∧v=No r):=by
 refine A4 (n:=10) [(0,No a0)] func134 rfl rfl rfl rfl rfl ?_;have hL:=AO.start w;refine A9 1 rfl<|A7<|A9 2 rfl<|AM rfl h (fun a h=>?_) (fun a h=>?_)
 ·cases h
 refine Au<|Ao<|Bk 1 rfl<|Ae (EV AaT AbT rfl rfl) rfl ?_;refine Ax h fun i b h=>?_;refine AF rfl rfl hL (PI _ _ (As hH hL) b) ?_;intro j g c f;refine Az h fun d h=>?_;refine Ae (AK rfl rfl rfl d) rfl ?_;refine Az h fun e h=>?_;refine Ae (AK rfl rfl rfl e) rfl<|AA 1 rfl<|Ay ?_
 cases h
 refine Am rfl rfl ?_;exact⟨c.ext,rfl⟩
def Cx(a0:List Int)(a1:Go.L.Pv):Option (Bool×Go.L.Pv):=
 Option.bind (Cs a0 a1.f.1) (fun a=>some (a,a1))
theorem CN{a w:World}{H:PH}(hH:Le H (hp a)){O:List BG}{a0:List Int}{a1:Go.L.Pv}{va0:Value}{ba1:Nat}{va1_2:Value}{va1_3:Value}{va1_4:Value}(hL:AO a (Ha [.box ba1 [No a1.f.1,No a1.f.2.1,va1_2,va1_3,va1_4] 64] O) w)(l:AI (.int .i64) (gz H a w (Ha [.box ba1 [No a1.f.1,No a1.f.2.1,va1_2,va1_3,va1_4] 64] O)) va0 (a0))(i:AI .byte (gz H a w (Ha [.box ba1 [No a1.f.1,No a1.f.2.1,va1_2,va1_3,va1_4] 64] O)) va1_2 (a1.f.2.2.1))(j:AI .st (gz H a w (Ha [.box ba1 [No a1.f.1,No a1.f.2.1,va1_2,va1_3,va1_4] 64] O)) va1_3 (a1.f.2.2.2.1))(k:AI .tree (gz H a w (Ha [.box ba1 [No a1.f.1,No a1.f.2.1,va1_2,va1_3,va1_4] 64] O)) va1_4 (a1.f.2.2.2.2)){r:Bool×Go.L.Pv}(h:Cx a0 a1=some r):
  Ok Tryz.prog 228 [va0,AaH ba1] w (fun v w'=>∃ (c:Value) (d:Value) (e:Value),v=.bool r.1∧AO a (Ha [.box ba1 [No r.2.f.1,No r.2.f.2.1,c,d,e] 64] O) w'∧Le (fz w (Ha [.box ba1 [No a1.f.1,No a1.f.2.1,va1_2,va1_3,va1_4] 64] O)) (fz w' (Ha [.box ba1 [No r.2.f.1,No r.2.f.2.1,c,d,e] 64] O))∧AI .byte (gz H a w' (Ha [.box ba1 [No r.2.f.1,No r.2.f.2.1,c,d,e] 64] O)) c (r.2.f.2.2.1)∧AI .st (gz H a w' (Ha [.box ba1 [No r.2.f.1,No r.2.f.2.1,c,d,e] 64] O)) d (r.2.f.2.2.2.1)∧AI .tree (gz H a w' (Ha [.box ba1 [No r.2.f.1,No r.2.f.2.1,c,d,e] 64] O)) e (r.2.f.2.2.2.2)):=by
 refine A4 (n:=8) [(0,va0),(1,(AaH ba1))] func228 rfl rfl rfl rfl rfl ?_;have hT:=Le.refl (fz w (Ha [.box ba1 [No a1.f.1,No a1.f.2.1,va1_2,va1_3,va1_4] 64] O));have b:=hL.rG H;refine A9 1 rfl<|Bk 1 rfl<|Ae (Af rfl AbG rfl Cc (by decide)) rfl<|Ae (Ag 0 rfl AaT rfl hL rfl rfl) rfl ?_;refine Ax h fun q m h=>?_;refine AF rfl rfl hL (HW _ _ (As hH hL) (l.mono b) m) fun s p o g=>AA 1 rfl<|Ay ?_
 cases h
 refine Am rfl rfl ?_;have b:=b.trans (Ab hH g);have hT:=hT.trans g;exact⟨va1_2,va1_3,va1_4,rfl,o,hT,(i.mono b),(j.mono b),(k.mono b)⟩
def GZ:Option (Int):=
 some ((0:Int))
def Gw(b:List AaK):Int→Option ((Int) ⊕ (Int)):=fun a=>
 if a<(b.length:Int) then AU (0≤a∧a<(b.length:Int)) (none) else Option.map Sum.inr (GZ)
def Jg(a:List AaK)(s:Int):Option (Int):=Go.L.run (Gw a) s
def BZ(_c83:Int)(_c84:Int)(_c85:AaK)(b:List AaK)(d:List Go.L.Pv)(a:Bool):Option (Int):=
 if a then none else(if(600:Int)<(d.length:Int) then none else Option.bind (Ir b) (fun c=>if c then none else(Jg b) (0:Int)))
def F5(g:Int)(h:Int)(i:AaK)(j:List AaK)(e:List Go.L.Pv)(d:Bool):Option (Int):=
 if d then BZ g h i j e d else(if(0:Int)<(e.length:Int) then Option.bind (Cx ([(3:Int),(4:Int)]) (Go.L.Pv.mk g h i j e)) (fun c=>if !c.1 then BZ c.2.f.1 c.2.f.2.1 c.2.f.2.2.1 c.2.f.2.2.2.1 c.2.f.2.2.2.2 (!c.1) else Option.bind (Cx ([(4:Int)]) c.2) (fun a=>if a.1 then BZ a.2.f.1 a.2.f.2.1 a.2.f.2.2.1 a.2.f.2.2.2.1 a.2.f.2.2.2.2 (!decide ((a.2.f.2.2.2.1.length:Int)=(a.2.f.2.2.2.2.length:Int))) else BZ a.2.f.1 a.2.f.2.1 a.2.f.2.2.1 a.2.f.2.2.2.1 a.2.f.2.2.2.2 false)) else Option.bind (Cx ([(4:Int)]) (Go.L.Pv.mk g h i j e)) (fun b=>if b.1 then BZ b.2.f.1 b.2.f.2.1 b.2.f.2.2.1 b.2.f.2.2.2.1 b.2.f.2.2.2.2 (!decide ((b.2.f.2.2.2.1.length:Int)=(b.2.f.2.2.2.2.length:Int))) else BZ b.2.f.1 b.2.f.2.1 b.2.f.2.2.1 b.2.f.2.2.2.1 b.2.f.2.2.2.2 false))
def F6(d:Int)(e:Int)(g:AaK)(c:List AaK)(h:List Go.L.Pv)(b:Bool):Option (Int):=
 if b then BZ d e g c h b else(if(0:Int)<(c.length:Int) then Option.bind (Cx ([(4:Int)]) (Go.L.Pv.mk d e g c h)) (fun a=>F5 a.2.f.1 a.2.f.2.1 a.2.f.2.2.1 a.2.f.2.2.2.1 a.2.f.2.2.2.2 (!a.1)) else F5 d e g c h false)
def F7(h:Int)(d:Int)(c:AaK)(e:List AaK)(g:List Go.L.Pv)(b:Bool):Option (Int):=
 if b then BZ h d c e g b else(if(0:Int)<(c.length:Int) then Option.bind (Cx ([(2:Int)]) (Go.L.Pv.mk h d c e g)) (fun a=>F6 a.2.f.1 a.2.f.2.1 a.2.f.2.2.1 a.2.f.2.2.2.1 a.2.f.2.2.2.2 (!a.1)) else F6 h d c e g false)
def IQ(a0:Go.L.Pv):Option (Int):=
 Option.bind (Cx ([(1:Int),(2:Int),(3:Int),(4:Int)]) a0) (fun b=>if !b.1 then none else(if b.2.f.2.1=(0:Int) then F7 b.2.f.1 b.2.f.2.1 b.2.f.2.2.1 b.2.f.2.2.2.1 b.2.f.2.2.2.2 false else Option.bind (Cx ([(1:Int)]) b.2) (fun a=>F7 a.2.f.1 a.2.f.2.1 a.2.f.2.2.1 a.2.f.2.2.2.1 a.2.f.2.2.2.2 (!a.1))))
theorem OD(w:World)(H:PH)(hH:Le H (hp w)){a0:Go.L.Pv}{ci:Value}{cj:Value}{ck:Value}(eo:AI .byte H ci (a0.f.2.2.1))(ep:AI .st H cj (a0.f.2.2.2.1))(eq:AI .tree H ck (a0.f.2.2.2.2)){r:Int}(h:IQ a0=some r):
  Ok Tryz.prog 176 [.agg #[No a0.f.1,No a0.f.2.1,ci,cj,ck]] w (fun v w'=>Ext w w'∧v=No r):=by
 refine A4 (n:=88) [(0,.agg #[No a0.f.1,No a0.f.2.1,ci,cj,ck])] func176 rfl rfl rfl rfl rfl ?_;have hL:=AO.start w;refine Ak<|CK (t:=64) rfl rfl rfl hL fun w1 b1 ex fk _=>AA 1 rfl<|A9 2 rfl<|A7<|A2<|Bk 1 rfl<|Bu (r:=(.int .i64)) (l:=[(1:Int),(2:Int),(3:Int),(4:Int)]) rfl (fun _=>Wo _ _ _ _ _) rfl (show 4≤9223372036854775807 by decide) hH ex (.c1 rfl (.c1 rfl (.c1 rfl (.c1 rfl .nil)))) ?_;intro v2 w2 ga ey fl ez;refine Ax h fun x3 e0 h=>?_;refine Eh rfl rfl rfl (CN (a0:=([(1:Int),(2:Int),(3:Int),(4:Int)])) (a1:=a0) (O:=[]) hH ey ez (eo.mono (Ah hH)) (ep.mono (Ah hH)) (eq.mono (Ah hH)) e0) ?_;rintro _ w4 ⟨er,es,et,rfl,cl,fm,cm,cn,co⟩;refine AA 2 rfl<|Bl rfl h (fun e1 h=>?_) (fun e1 h=>?_)
 ·cases h
 refine Bn (σ:=Int×Int×AaK×(List AaK)×(List Go.L.Pv)×Bool×Value×Value×Value) (fun⟨bx,bz,b0,bl,b2,a2,ab,aa,ac⟩=>[(1,(AaH b1)),(12,.bool a2)]) (fun⟨bx,bz,b0,bl,b2,a2,ab,aa,ac⟩ wr=>DZ w [.box b1 [No bx,No bz,ab,aa,ac] 64] wr fun Oz=>AI .byte (gz H w wr Oz) (ab) (b0)∧AI .st (gz H w wr Oz) (aa) (bl)∧AI .tree (gz H w wr Oz) (ac) (b2)∧BZ bx bz b0 bl b2 a2=some r) ?_ ?_
 ·refine Bn (σ:=Int×Int×AaK×(List AaK)×(List Go.L.Pv)×Bool×Value×Value×Value) (fun⟨bp,aj,ak,al,am,x,ad,ae,af⟩=>[(1,(AaH b1)),(3,.func (.func 228) #[] #[AaH b1]),(12,.bool x)]) (fun⟨bp,aj,ak,al,am,x,ad,ae,af⟩ wr=>DZ w [.box b1 [No bp,No aj,ad,ae,af] 64] wr fun Oz=>AI .byte (gz H w wr Oz) (ad) (ak)∧AI .st (gz H w wr Oz) (ae) (al)∧AI .tree (gz H w wr Oz) (af) (am)∧F7 bp aj ak al am x=some r) ?_ ?_
  ·have q:=cl.rG H;refine Ar<|Ae (Af rfl AbG rfl Cc (by decide)) rfl<|Ae (Ag 0 rfl AaT rfl cl rfl rfl) rfl<|Aq 2 rfl<|AQ (s:=16) rfl (fun d=>?_) (fun d=>?_)
   ·have h:=BP (CE d) h;refine Aa rfl rfl d<|Ae (Ad rfl) rfl<|Aa rfl rfl d<|Bu (r:=(.int .i64)) (l:=[(1:Int)]) rfl (fun _=>Il _ _) rfl (show 1≤9223372036854775807 by decide) hH cl (.c1 rfl .nil) fun fn fo e8 dq c5 dr=>Aa rfl rfl d ?_;refine Ax h fun be ds h=>?_;have q:=q.trans (Ab hH c5);refine Eh rfl rfl rfl (CN (a0:=([(1:Int)])) (a1:=x3.2) (O:=[]) hH dq dr (cm.mono q) (cn.mono q) (co.mono q) ds) ?_;rintro _ fp ⟨c6,c7,c8,rfl,dt,e2,ct,cu,cv⟩;refine Aa rfl rfl d<|Ae (Ad rfl) rfl<|Ae (A1 rfl d rfl) rfl<|Aq 1 rfl<|AL<|A6 (be.2.f.1,be.2.f.2.1,be.2.f.2.2.1,be.2.f.2.2.2.1,be.2.f.2.2.2.2,!be.1,c6,c7,c8) (Sub.of rfl) ⟨dt,ct,cu,cv,h⟩
   have h:=BO (CF d) h
   iterate 4 refine Ai rfl rfl d rfl ?_
   refine Ae (A3 rfl d rfl) rfl<|Aq 1 rfl<|AL<|A6 (x3.2.f.1,x3.2.f.2.1,x3.2.f.2.2.1,x3.2.f.2.2.2.1,x3.2.f.2.2.2.2,false,er,es,et) (Sub.of rfl) ⟨cl,(cm.mono q),(cn.mono q),(co.mono q),h⟩
  rintro⟨bp,aj,ak,al,am,x,ad,ae,af⟩ e9 ⟨a3,a4,bq,br,h⟩;refine Bl rfl h (fun du h=>?_) (fun du h=>?_)
  ·refine Au<|A6 (bp,aj,ak,al,am,x,ad,ae,af) (Sub.of rfl) ⟨a3,a4,bq,br,h⟩
  refine Bn (σ:=Int×Int×AaK×(List AaK)×(List Go.L.Pv)×Bool×Value×Value×Value) (fun⟨an,ao,ap,aq,ar,y,ag,ah,ai⟩=>[(1,(AaH b1)),(3,.func (.func 228) #[] #[AaH b1]),(12,.bool y)]) (fun⟨an,ao,ap,aq,ar,y,ag,ah,ai⟩ wr=>DZ w [.box b1 [No an,No ao,ag,ah,ai] 64] wr fun Oz=>AI .byte (gz H w wr Oz) (ag) (ap)∧AI .st (gz H w wr Oz) (ah) (aq)∧AI .tree (gz H w wr Oz) (ai) (ar)∧F6 an ao ap aq ar y=some r) ?_ ?_
  ·have m:=a3.rG H;refine Ar<|Ae (Af rfl AbG rfl Fw (by decide)) rfl<|Ae (Ag 0 rfl Abe rfl a3 rfl rfl) rfl<|Ae (Bo rfl Abe (a4.mono m)) rfl<|Aq 2 rfl<|AQ (s:=26) rfl (fun e=>?_) (fun e=>?_)
   ·have h:=BO (of_decide_eq_true e) h;refine Aa rfl rfl e<|Ae (Ad rfl) rfl<|Aa rfl rfl e<|Bu (r:=(.int .i64)) (l:=[(2:Int)]) rfl (fun _=>Il _ _) rfl (show 1≤9223372036854775807 by decide) hH a3 (.c1 rfl .nil) fun fq fr fa dv c9 dw=>Aa rfl rfl e ?_;refine Ax h fun bf dx h=>?_;have m:=m.trans (Ab hH c9);refine Eh rfl rfl rfl (CN (a0:=([(2:Int)])) (a1:=(Go.L.Pv.mk bp aj ak al am)) (O:=[]) hH dv dw (a4.mono m) (bq.mono m) (br.mono m) dx) ?_;rintro _ fs ⟨da,db,dc,rfl,dy,e3,cw,cx,cy⟩;refine Aa rfl rfl e<|Ae (Ad rfl) rfl<|Ae (A1 rfl e rfl) rfl<|Aq 1 rfl<|AL<|A6 (bf.2.f.1,bf.2.f.2.1,bf.2.f.2.2.1,bf.2.f.2.2.2.1,bf.2.f.2.2.2.2,!bf.1,da,db,dc) (Sub.of rfl) ⟨dy,cw,cx,cy,h⟩
   have h:=BP (of_decide_eq_false e) h
   iterate 4 refine Ai rfl rfl e rfl ?_
   refine Ae (A3 rfl e rfl) rfl<|Aq 1 rfl<|AL<|A6 (bp,aj,ak,al,am,false,ad,ae,af) (Sub.of rfl) ⟨a3,(a4.mono m),(bq.mono m),(br.mono m),h⟩
  rintro⟨an,ao,ap,aq,ar,y,ag,ah,ai⟩ fb ⟨a5,bs,a6,bt,h⟩;refine Bl rfl h (fun dz h=>?_) (fun dz h=>?_)
  ·refine Au<|A6 (an,ao,ap,aq,ar,y,ag,ah,ai) (Sub.of rfl) ⟨a5,bs,a6,bt,h⟩
  refine Bn (σ:=Int×Int×AaK×(List AaK)×(List Go.L.Pv)×Bool×Value×Value×Value) (fun⟨au,av,aw,ax,ay,z,a7,a8,a9⟩=>[(1,(AaH b1)),(3,.func (.func 228) #[] #[AaH b1]),(12,.bool z)]) (fun⟨au,av,aw,ax,ay,z,a7,a8,a9⟩ wr=>DZ w [.box b1 [No au,No av,a7,a8,a9] 64] wr fun Oz=>AI .byte (gz H w wr Oz) (a7) (aw)∧AI .st (gz H w wr Oz) (a8) (ax)∧AI .tree (gz H w wr Oz) (a9) (ay)∧F5 au av aw ax ay z=some r) ?_ ?_
  ·have o:=a5.rG H;refine Ar<|Ae (Af rfl AbG rfl Jm (by decide)) rfl<|Ae (Ag 0 rfl AbE rfl a5 rfl rfl) rfl<|Ae (Bo rfl AbE (a6.mono o)) rfl<|Aq 2 rfl<|AQ (s:=36) rfl (fun g=>?_) (fun g=>?_)
   ·have h:=BO (of_decide_eq_true g) h;refine Aa rfl rfl g<|Ae (Ad rfl) rfl<|Aa rfl rfl g<|Bu (r:=(.int .i64)) (l:=[(4:Int)]) rfl (fun _=>Il _ _) rfl (show 1≤9223372036854775807 by decide) hH a5 (.c1 rfl .nil) fun ft fu fc d0 dd d1=>Aa rfl rfl g ?_;refine Ax h fun bg d2 h=>?_;have o:=o.trans (Ab hH dd);refine Eh rfl rfl rfl (CN (a0:=([(4:Int)])) (a1:=(Go.L.Pv.mk an ao ap aq ar)) (O:=[]) hH d0 d1 (bs.mono o) (a6.mono o) (bt.mono o) d2) ?_;rintro _ fv ⟨de,df,dg,rfl,d3,e4,cz,c0,c2⟩;refine Aa rfl rfl g<|Ae (Ad rfl) rfl<|Ae (A1 rfl g rfl) rfl<|Aq 1 rfl<|AL<|A6 (bg.2.f.1,bg.2.f.2.1,bg.2.f.2.2.1,bg.2.f.2.2.2.1,bg.2.f.2.2.2.2,!bg.1,de,df,dg) (Sub.of rfl) ⟨d3,cz,c0,c2,h⟩
   have h:=BP (of_decide_eq_false g) h
   iterate 4 refine Ai rfl rfl g rfl ?_
   refine Ae (A3 rfl g rfl) rfl<|Aq 1 rfl<|AL<|A6 (an,ao,ap,aq,ar,false,ag,ah,ai) (Sub.of rfl) ⟨a5,(bs.mono o),(a6.mono o),(bt.mono o),h⟩
  rintro⟨au,av,aw,ax,ay,z,a7,a8,a9⟩ fd ⟨ba,bu,bv,bb,h⟩;refine Bl rfl h (fun d4 h=>?_) (fun d4 h=>?_)
  ·refine Au<|A6 (au,av,aw,ax,ay,z,a7,a8,a9) (Sub.of rfl) ⟨ba,bu,bv,bb,h⟩
  have c:=ba.rG H;refine Ak<|Ae (Af rfl AbG rfl WV (by decide)) rfl<|Ae (Ag 0 rfl Acm rfl ba rfl rfl) rfl<|Ae (Bo rfl Acm (bb.mono c)) rfl<|Aq 2 rfl<|AQ (s:=46) rfl (fun i=>?_) (fun i=>?_)
  ·have h:=BO (of_decide_eq_true i) h;refine Aa rfl rfl i<|Ae (Ad rfl) rfl<|Aa rfl rfl i<|Bu (r:=(.int .i64)) (l:=[(3:Int),(4:Int)]) rfl (fun _=>Wn _ _ _) rfl (show 2≤9223372036854775807 by decide) hH ba (.c1 rfl (.c1 rfl .nil)) fun fw fx fe d5 dh d6=>Aa rfl rfl i ?_;refine Ax h fun az d7 h=>?_;have c:=c.trans (Ab hH dh);refine Eh rfl rfl rfl (CN (a0:=([(3:Int),(4:Int)])) (a1:=(Go.L.Pv.mk au av aw ax ay)) (O:=[]) hH d5 d6 (bu.mono c) (bv.mono c) (bb.mono c) d7) ?_;rintro _ fy ⟨di,dj,dk,rfl,b9,e5,b3,b4,b5⟩;refine Aa rfl rfl i<|Ae (Ad rfl) rfl<|Ae (A1 rfl i rfl) rfl<|AA 1 rfl<|Bl rfl h (fun d8 h=>?_) (fun d8 h=>?_)
   ·refine Au<|A6 (az.2.f.1,az.2.f.2.1,az.2.f.2.2.1,az.2.f.2.2.2.1,az.2.f.2.2.2.2,!az.1,di,dj,dk) (Sub.of rfl) ⟨b9,b3,b4,b5,h⟩
   have bc:=b9.rG H;refine Ar<|Aq 1 rfl<|Bu (r:=(.int .i64)) (l:=[(4:Int)]) rfl (fun _=>Il _ _) rfl (show 1≤9223372036854775807 by decide) hH b9 (.c1 rfl .nil) ?_;intro fz f0 ff d9 dl ea;refine Ax h fun j eb h=>?_;have bc:=bc.trans (Ab hH dl);refine Eh rfl rfl rfl (CN (a0:=([(4:Int)])) (a1:=az.2) (O:=[]) hH d9 ea (b3.mono bc) (b4.mono bc) (b5.mono bc) eb) ?_;rintro _ f1 ⟨cc,cd,ce,rfl,bm,e6,b6,bh,bi⟩;refine Aq 1 rfl<|AQ (s:=55) rfl (fun a=>?_) (fun a=>?_)
   ·have h:=G5 a h;refine Aa rfl rfl a<|Ae (Af rfl AbG rfl Jm (by decide)) rfl<|Aa rfl rfl a<|Ae (Ag 0 rfl AbE rfl bm rfl rfl) rfl<|Aa rfl rfl a<|Ae (Bo rfl AbE bh) rfl<|Aa rfl rfl a<|Ae (Af rfl AbG rfl WV (by decide)) rfl<|Aa rfl rfl a<|Ae (Ag 0 rfl Acm rfl bm rfl rfl) rfl<|Aa rfl rfl a<|Ae (Bo rfl Acm bi) rfl ?_;refine Aa rfl rfl a<|Ae (Ad rfl) rfl<|Ae (A1 rfl a rfl) rfl<|Aq 1 rfl<|AL<|A6 (j.2.f.1,j.2.f.2.1,j.2.f.2.2.1,j.2.f.2.2.2.1,j.2.f.2.2.2.2,!decide ((j.2.f.2.2.2.1.length:Int)=(j.2.f.2.2.2.2.length:Int)),cc,cd,ce) (Sub.of rfl) ⟨bm,b6,bh,bi,h⟩
   have h:=G6 a h
   iterate 7 refine Ai rfl rfl a rfl ?_
   refine Ae (A3 rfl a rfl) rfl<|Aq 1 rfl<|AL<|A6 (j.2.f.1,j.2.f.2.1,j.2.f.2.2.1,j.2.f.2.2.2.1,j.2.f.2.2.2.2,false,cc,cd,ce) (Sub.of rfl) ⟨bm,b6,bh,bi,h⟩
  have h:=BP (of_decide_eq_false i) h
  iterate 4 refine Ai rfl rfl i rfl ?_
  refine Ae (A3 rfl i rfl) rfl<|AA 1 rfl<|Cw rfl<|Ar<|Aq 1 rfl<|Bu (r:=(.int .i64)) (l:=[(4:Int)]) rfl (fun _=>Il _ _) rfl (show 1≤9223372036854775807 by decide) hH ba (.c1 rfl .nil) ?_;intro f2 f3 fg ec dm ed;refine Ax h fun k ee h=>?_;have c:=c.trans (Ab hH dm);refine Eh rfl rfl rfl (CN (a0:=([(4:Int)])) (a1:=(Go.L.Pv.mk au av aw ax ay)) (O:=[]) hH ec ed (bu.mono c) (bv.mono c) (bb.mono c) ee) ?_;rintro _ f4 ⟨cf,cg,ch,rfl,bn,e7,b7,bj,bk⟩;refine Aq 1 rfl<|AQ (s:=55) rfl (fun b=>?_) (fun b=>?_)
  ·have h:=G5 b h;refine Aa rfl rfl b<|Ae (Af rfl AbG rfl Jm (by decide)) rfl<|Aa rfl rfl b<|Ae (Ag 0 rfl AbE rfl bn rfl rfl) rfl<|Aa rfl rfl b<|Ae (Bo rfl AbE bj) rfl<|Aa rfl rfl b<|Ae (Af rfl AbG rfl WV (by decide)) rfl<|Aa rfl rfl b<|Ae (Ag 0 rfl Acm rfl bn rfl rfl) rfl<|Aa rfl rfl b<|Ae (Bo rfl Acm bk) rfl ?_;refine Aa rfl rfl b<|Ae (Ad rfl) rfl<|Ae (A1 rfl b rfl) rfl<|Aq 1 rfl<|AL<|A6 (k.2.f.1,k.2.f.2.1,k.2.f.2.2.1,k.2.f.2.2.2.1,k.2.f.2.2.2.2,!decide ((k.2.f.2.2.2.1.length:Int)=(k.2.f.2.2.2.2.length:Int)),cf,cg,ch) (Sub.of rfl) ⟨bn,b7,bj,bk,h⟩
  have h:=G6 b h
  iterate 7 refine Ai rfl rfl b rfl ?_
  refine Ae (A3 rfl b rfl) rfl<|Aq 1 rfl<|AL<|A6 (k.2.f.1,k.2.f.2.1,k.2.f.2.2.1,k.2.f.2.2.2.1,k.2.f.2.2.2.2,false,cf,cg,ch) (Sub.of rfl) ⟨bn,b7,bj,bk,h⟩
 rintro⟨bx,bz,b0,bl,b2,a2,ab,aa,ac⟩ f5 ⟨bw,ef,ca,cp,h⟩;refine Bl rfl h (fun eg h=>?_) (fun eg h=>?_)
 ·cases h
 have u:=bw.rG H;refine Ak<|Ae (Af rfl AbG rfl WV (by decide)) rfl<|Ae (Ag 0 rfl Acm rfl bw rfl rfl) rfl<|Ae (Bo rfl Acm (cp.mono u)) rfl<|AA 2 rfl<|AM rfl h (fun eh h=>?_) (fun eh h=>?_)
 ·cases h
 refine Ak<|Ae (Af rfl AbG rfl Jm (by decide)) rfl<|Ae (Ag 0 rfl AbE rfl bw rfl rfl) rfl ?_;refine Ax h fun f6 ei h=>?_;refine AF rfl rfl bw (Of _ _ (As hH bw) (ca.mono u) ei) fun f7 fh cq dn=>AA 1 rfl<|Bl rfl h (fun ej h=>?_) (fun ej h=>?_)
 ·cases h
 refine Au<|A8<|Ao<|Bn (σ:=Unit) (fun(_:Unit)=>[]) (fun(_:Unit) wr=>DZ w [.box b1 [No bx,No bz,ab,aa,ac] 64] wr fun Oz=>AI .byte (gz H w wr Oz) (ab) (b0)∧AI .st (gz H w wr Oz) (aa) (bl)∧AI .tree (gz H w wr Oz) (ac) (b2)∧GZ=some r) ?_ ?_
 ·refine Ak<|Ae (Af rfl AbG rfl Jm (by decide)) rfl<|Ae (Ag 0 rfl AbE rfl cq rfl rfl) rfl ?_;have u:=u.trans (Ab hH dn);refine Ae (Bo rfl AbE (ca.mono u)) rfl<|AA 1 rfl<|A2 ?_;obtain⟨dp,h⟩:=AY h;refine Bw (σ:=Int×Nat) (fun⟨p,n⟩=>[(74,aa),(75,No (bl.length:Int)),(76,No p)]) (fun⟨p,n⟩ wr=>DZ w [.box b1 [No bx,No bz,ab,aa,ac] 64] wr fun Oz=>AI .st (gz H w wr Oz) (aa) (bl)∧AI .byte (gz H w wr Oz) (ab) (b0)∧AI .tree (gz H w wr Oz) (ac) (b2)∧FT (Gw bl) n p=some r) (fun⟨p,n⟩=>n) ((0:Int),dp) (Sub.of rfl) ⟨cq,(ca.mono u),(ef.mono u),(cp.mono u),h⟩ ?_;rintro⟨p,nn232⟩ fi ⟨cb,b8,c3,c4,h⟩;obtain⟨dp,f8,rfl,h,ek⟩:=AX h;have bo:=cb.rG H;refine A9 1 rfl<|A7<|AM rfl h (fun el h=>?_) (fun el h=>?_)
  ·refine Au<|Ao<|A7<|A2<|Bk 1 rfl ?_;refine Az h fun cr h=>?_;refine Bb rfl rfl AbE Fu (b8.mono bo) p.toNat (EM cr) (AW cr) rfl ?_;rintro f9 _ rfl em;refine Ae (Be rfl Abb rfl em (As hH cb)) rfl<|AA 2 rfl ?_
   cases h
  refine Br<|AD<|A5 ?_;have h:=BV.out h ek;refine Bd<|A6 () (Sub.nil _) ⟨cb,(c3.mono bo),(b8.mono bo),(c4.mono bo),h⟩
 rintro _ fj ⟨en,eu,ev,ew,h⟩;refine A9 1 rfl<|Ay ?_
 cases h
 refine Am rfl rfl ?_;exact⟨en.ext,rfl⟩
def Gx(a1:Int):Option (Int×(Int×Int)):=
 some ((a1+(1:Int)),((0:Int),(0:Int)))
def Ge(a0:Go.L.Pv)(a1:Int):Int→Option ((Int) ⊕ (Int×(Int×Int))):=fun a=>
 if a<(a0.f.2.2.2.2.length:Int) then AU (0≤a∧a<(a0.f.2.2.2.2.length:Int)) (none) else Option.map Sum.inr ((Gx a1))
def IA(a0:Go.L.Pv)(a1:Int)(s:Int):Option (Int×(Int×Int)):=Go.L.run (Ge a0 a1) s
def GC(_self:Go.L.Pv→Int→Int→Option (Int×(Int×Int)))(a0:Go.L.Pv)(a1:Int)(a2:Int):Option (Int×(Int×Int)):=
 if((600:Int)≤a1)∨((10:Int)<a2) then none else Option.bind (IQ a0) (fun a=>if a=(0:Int) then AU (BL (a1+(1:Int))) ((IA a0 a1) (0:Int)) else none)
def H4:Nat→Go.L.Pv→Int→Int→Option (Int×(Int×Int))
 | 0=>fun _ _ _=>none
 | n+1=>GC (H4 n)
def L2:Go.L.Pv→Int→Int→Option (Int×(Int×Int)):=H4 1000
theorem Og(self:Go.L.Pv→Int→Int→Option (Int×(Int×Int)))(_hself:∀ (w:World) (H:PH) (hH:Le H (hp w)) {a0:Go.L.Pv} {a1:Int} {a2:Int} {c:Value} {d:Value} {b:Value} (j:AI .byte H c (a0.f.2.2.1)) (k:AI .st H d (a0.f.2.2.2.1)) (e:AI .tree H b (a0.f.2.2.2.2)) {r:Int×(Int×Int)} (h:self a0 a1 a2=some r),Ok Tryz.prog 125 [.agg #[No a0.f.1,No a0.f.2.1,c,d,b],No a1,No a2] w (fun v w'=>Ext w w'∧v=.tuple #[No r.1,.agg #[No r.2.1,No r.2.2]]))(w:World)(H:PH)(hH:Le H (hp w)){a0:Go.L.Pv}{a1:Int}{a2:Int}{c:Value}{d:Value}{b:Value}(j:AI .byte H c (a0.f.2.2.1))(k:AI .st H d (a0.f.2.2.2.1))(e:AI .tree H b (a0.f.2.2.2.2)){r:Int×(Int×Int)}(h:GC self a0 a1 a2=some r):
  Ok Tryz.prog 125 [.agg #[No a0.f.1,No a0.f.2.1,c,d,b],No a1,No a2] w (fun v w'=>Ext w w'∧v=.tuple #[No r.1,.agg #[No r.2.1,No r.2.2]]):=by
 refine A4 (n:=52) [(0,.agg #[No a0.f.1,No a0.f.2.1,c,d,b]),(1,No a1),(2,No a2)] func125 rfl rfl rfl rfl rfl ?_;have hL:=AO.start w;refine Ak<|CK (t:=64) rfl rfl rfl hL fun w1 b1 ad ak _=>Aq 1 rfl<|AG AR rfl rfl ad fun w2 p l al _=>Ac<|A7<|Bk 3 rfl<|Si 2 2 rfl rfl rfl rfl rfl rfl<|Ac<|AM rfl h (fun ae h=>?_) (fun ae h=>?_)
 ·cases h
 refine Au<|Ao<|A7<|Ak<|Ae (AE 1 rfl AbG rfl GR l rfl) rfl ?_;refine Ax h fun x6 af h=>?_;refine AF rfl rfl l (OD (a0:=a0) _ _ (As hH l) (j.mono (Ah hH)) (k.mono (Ah hH)) (e.mono (Ah hH)) af) fun w7 aq q am=>AA 1 rfl<|A9 2 rfl<|Cl rfl h (fun ag h=>?_) (fun ag h=>?_)
 ·cases h
 refine Au<|Ao<|Bk 1 rfl ?_;refine Az h fun u h=>?_;refine Ae (AK rfl rfl rfl u) rfl<|AA 1 rfl<|Bn (σ:=Unit) (fun(_:Unit)=>[(7,(AaH p)),(9,No (a1+(1:Int)))]) (fun(_:Unit) wr=>AO w [.box p [No (0:Int),No (0:Int)] 28,.box b1 [No a0.f.1,No a0.f.2.1,c,d,b] 64] wr∧(Gx a1)=some r) ?_ ?_
 ·refine Ak<|Ae (Af rfl AbG rfl WV (by decide)) rfl<|Ae (Ag 1 rfl Acm rfl q rfl rfl) rfl<|Ae (Bo rfl Acm e) rfl<|AA 1 rfl<|A2 ?_;obtain⟨s,h⟩:=AY h;refine Bw (σ:=Int×Nat) (fun⟨a,n⟩=>[(7,(AaH p)),(9,No (a1+(1:Int))),(31,b),(32,No (a0.f.2.2.2.2.length:Int)),(33,No a)]) (fun⟨a,n⟩ wr=>AO w [.box p [No (0:Int),No (0:Int)] 28,.box b1 [No a0.f.1,No a0.f.2.1,c,d,b] 64] wr∧FT (Ge a0 a1) n a=some r) (fun⟨a,n⟩=>n) ((0:Int),s) (Sub.of rfl) ⟨q,h⟩ ?_;rintro⟨a,nn41⟩ an ⟨g,h⟩;obtain⟨s,ar,rfl,h,x⟩:=AX h;refine A9 1 rfl<|A7<|AM rfl h (fun y h=>?_) (fun y h=>?_)
  ·refine Au<|Ao<|A7<|A2<|Ak ?_;refine Az h fun m h=>?_;refine Bb rfl rfl Acm GR e a.toNat (EM m) (AW m) rfl ?_;rintro au _ e45t0 z;obtain⟨_,_,rfl,rfl,⟨_,_,rfl,rfl,⟨_,_,rfl,⟨e45v2,rfl,e45h2⟩,⟨_,_,rfl,⟨e45v3,rfl,e45h3⟩,⟨e45v4,rfl,e45h4⟩⟩⟩⟩⟩:=Go.E.Rp.NS e45t0;refine Ae (C1 rfl AbG rfl GR z (hH.trans g.arg)) rfl<|AG GR rfl rfl g fun av aw aa ah _=>Aj 0 rfl rfl rfl GR aa rfl rfl (AH rfl (AH rfl (AH e45h2.one (AH e45h3.one (AH e45h4.one Cj))))) fun ax ao ai=>Ac ?_
   cases h
  refine Br<|AD<|A5 ?_;have h:=BV.out h x;refine Bd<|A6 () (Sub.of rfl) ⟨g,h⟩
 rintro _ ap ⟨ab,h⟩;refine Bk 1 rfl<|Ae (AZ rfl (fun _=>BY _)) rfl<|Aq 1 rfl<|Aj 0 rfl rfl rfl AR ab rfl rfl (AH rfl (AH rfl Cj)) fun ay o aj=>Ac<|Ay ?_
 cases h
 refine C9 rfl (.tmp rfl) (.cell rfl Abs rfl AR (AT (i:=0) o rfl)) ?_;exact⟨o.ext,rfl⟩
theorem PJ(n:Nat):∀ (w:World) (H:PH) (hH:Le H (hp w)) {a0:Go.L.Pv} {a1:Int} {a2:Int} {a:Value} {b:Value} {c:Value} (d:AI .byte H a (a0.f.2.2.1)) (e:AI .st H b (a0.f.2.2.2.1)) (g:AI .tree H c (a0.f.2.2.2.2)) {r:Int×(Int×Int)} (h:H4 n a0 a1 a2=some r),Ok Tryz.prog 125 [.agg #[No a0.f.1,No a0.f.2.1,a,b,c],No a1,No a2] w (fun v w'=>Ext w w'∧v=.tuple #[No r.1,.agg #[No r.2.1,No r.2.2]]):=by
 induction n with
 | zero=>intros;rename_i h;cases h
 | succ n ih=>exact @Og (H4 n) ih
theorem RD(w:World)(H:PH)(hH:Le H (hp w)){a0:Go.L.Pv}{a1:Int}{a2:Int}{a:Value}{b:Value}{c:Value}(d:AI .byte H a (a0.f.2.2.1))(e:AI .st H b (a0.f.2.2.2.1))(g:AI .tree H c (a0.f.2.2.2.2)){r:Int×(Int×Int)}(h:L2 a0 a1 a2=some r):Ok Tryz.prog 125 [.agg #[No a0.f.1,No a0.f.2.1,a,b,c],No a1,No a2] w (fun v w'=>Ext w w'∧v=.tuple #[No r.1,.agg #[No r.2.1,No r.2.2]]):=PJ 1000 w H hH d e g h
def Jx(a0:Int):Option (AaK):=
 AU (Go.E.JE 1 (([]:AaK).length+([(Go.L.u8 (((IntKind.u64.wrap ((IntKind.u64.wrap a0) * 2)).toNat ^^^ (IntKind.u64.wrap (a0 / 9223372036854775808)).toNat:Nat):Int))]).length)) (some ((([]:AaK)++[(Go.L.u8 (((IntKind.u64.wrap ((IntKind.u64.wrap a0) * 2)).toNat ^^^ (IntKind.u64.wrap (a0 / 9223372036854775808)).toNat:Nat):Int))])))
def IS(a0:Int):Unit→Option ((Unit) ⊕ (AaK)):=fun _=>
 if(128:Int)≤(((IntKind.u64.wrap ((IntKind.u64.wrap a0) * 2)).toNat ^^^ (IntKind.u64.wrap (a0 / 9223372036854775808)).toNat:Nat):Int) then none else Option.map Sum.inr ((Jx a0))
def KX(a0:Int)(s:Unit):Option (AaK):=Go.L.run (IS a0) s
def DU(a0:Int):Option (AaK):=
 AU ((0≤(IntKind.u64.wrap ((IntKind.u64.wrap a0) * 2))∧(IntKind.u64.wrap ((IntKind.u64.wrap a0) * 2))<2 ^ 64)∧(0≤(IntKind.u64.wrap (a0 / 9223372036854775808))∧(IntKind.u64.wrap (a0 / 9223372036854775808))<2 ^ 64)) ((KX a0) ())
theorem BM(w:World)(H:PH)(hH:Le H (hp w)){a0:Int}{r:AaK}(h:DU a0=some r):
  Ok Tryz.prog 177 [No a0] w (fun v w'=>Ext w w'∧∃ s,v=s∧C2 5 .byte H w w' s (r)):=by
 refine A4 (n:=27) [(0,No a0)] func177 rfl rfl rfl rfl rfl ?_;have hL:=AO.start w;refine A9 1 rfl<|Bk 1 rfl<|Ae (EV AaT AbS rfl rfl) rfl<|Ae (AaO (c:=1) (m:=2) rfl rfl rfl (by decide) rfl) rfl<|Aq 1 rfl<|Ae (S8 (c:=63) (m:=9223372036854775808) rfl rfl rfl (by decide)) rfl<|Ae (EV AaT AbS rfl rfl) rfl ?_;refine Az h fun t h=>?_;refine Ae (Abz rfl rfl rfl t) rfl<|AA 1 rfl<|Bk 1 rfl ?_;obtain⟨u,z,x⟩:=CB .byte H 5 hL;refine Ac<|Bn (σ:=Unit) (fun(_:Unit)=>[(3,.int .u64 (((IntKind.u64.wrap ((IntKind.u64.wrap a0) * 2)).toNat ^^^ (IntKind.u64.wrap (a0 / 9223372036854775808)).toNat:Nat):Int)),(4,Aat)]) (fun(_:Unit) wr=>DZ w [.row (Aat) 5 1 (([]:AaK)).length ([])] wr fun Oz=>AJ .byte (gz H w wr Oz) (([]:AaK)) ([])∧(Jx a0)=some r) ?_ ?_
 ·refine A2 ?_;obtain⟨d,h⟩:=AY h;refine Bw (σ:=Nat) (fun n=>[(3,.int .u64 (((IntKind.u64.wrap ((IntKind.u64.wrap a0) * 2)).toNat ^^^ (IntKind.u64.wrap (a0 / 9223372036854775808)).toNat:Nat):Int)),(4,Aat)]) (fun n wr=>DZ w [.row (Aat) 5 1 (([]:AaK)).length ([])] wr fun Oz=>AJ .byte (gz H w wr Oz) (([]:AaK)) ([])∧FT (IS a0) n ()=some r) (fun n=>n) d (Sub.of rfl) ⟨u,x,h⟩ ?_;rintro nn18 aa ⟨e,he18_r2,h⟩;obtain⟨d,ae,rfl,h,f⟩:=AX h;refine A7<|A9 2 rfl<|AM rfl h (fun g h=>?_) (fun g h=>?_)
  ·refine Au<|Ao ?_
   cases h
  refine Br<|AD<|A5 ?_;have h:=BV.out h f;refine Bd<|A6 () (Sub.of rfl) ⟨e,he18_r2,h⟩
 rintro _ ab ⟨j,he12_r2,h⟩;refine Bk 2 rfl<|Ae (EV AbS Ab9 rfl (HS _)) rfl<|Bu (r:=.byte) (l:=[(Go.L.u8 (((IntKind.u64.wrap ((IntKind.u64.wrap a0) * 2)).toNat ^^^ (IntKind.u64.wrap (a0 / 9223372036854775808)).toNat:Nat):Int))]) rfl (fun _=>Ik _ _) rfl (show 1≤9223372036854775807 by decide) hH j (.c1 rfl .nil) ?_;intro af ag ac k b o;refine Az h fun p h=>?_;have he12_r2:=he12_r2.mono (Ab hH b);refine Bq (r:=.byte) (l:=([]:AaK)) (m:=[(Go.L.u8 (((IntKind.u64.wrap ((IntKind.u64.wrap a0) * 2)).toNat ^^^ (IntKind.u64.wrap (a0 / 9223372036854775808)).toNat:Nat):Int))]) 0 rfl rfl Abe Lo rfl (by decide) rfl hH k rfl he12_r2 o p fun ah ai ad a y q=>AA 1 rfl<|Ay ?_
 cases h
 refine Am rfl rfl ?_;exact⟨a.ext,_,rfl,(a.GQ hH (i:=0) rfl q)⟩
def KY(a0:AaK):Option (AaK):=
 Option.bind (DU (a0.length:Int)) (fun a=>AU (Go.E.JE 1 (a.length+a0.length)) (some ((a++a0))))
theorem Fv(w:World)(H:PH)(hH:Le H (hp w)){a0:AaK}{a:Value}(b:AI .byte H a (a0)){r:AaK}(h:KY a0=some r):
  Ok Tryz.prog 178 [a] w (fun v w'=>Ext w w'∧∃ g,v=g∧C2 5 .byte H w w' g (r)):=by
 refine A4 (n:=8) [(0,a)] func178 rfl rfl rfl rfl rfl ?_;have hL:=AO.start w;refine A9 1 rfl<|Bk 1 rfl<|Ae (Bo rfl Abe b) rfl ?_;refine Ax h fun s j h=>?_;refine Bs rfl rfl hL (BM _ _ (As hH hL) j) ?_;rintro t z ⟨_,rfl,c⟩ k d f;obtain⟨x,d,f,o⟩:=c.take hH hL k;refine Aq 1 rfl ?_;refine Az h fun p h=>?_;refine Bq (r:=.byte) (l:=s) (m:=a0) 0 rfl rfl Abe Lo rfl (by decide) rfl hH d rfl o (b.mono (Ah hH)) p fun v3 w3 y e u q=>AA 1 rfl<|Ay ?_
 cases h
 refine Am rfl rfl ?_;exact⟨e.ext,_,rfl,(e.GQ hH (i:=0) rfl q)⟩
def Gf(_self:Go.L.Pv→Option (AaK))(a0:Go.L.Pv):Option (AaK):=
 Option.bind (DU a0.f.1) (fun a=>if a0.f.1=(1:Int) then Option.bind (DU a0.f.2.1) (fun b=>AU (Go.E.JE 1 (a.length+b.length)) (some ((a++b)))) else(if a0.f.1=(2:Int) then none else none))
def GD:Nat→Go.L.Pv→Option (AaK)
 | 0=>fun _=>none
 | n+1=>Gf (GD n)
def KA:Go.L.Pv→Option (AaK):=GD 1000
theorem N3(self:Go.L.Pv→Option (AaK))(_hself:∀ (w:World) (H:PH) (hH:Le H (hp w)) {a0:Go.L.Pv} {a:Value} {b:Value} {c:Value} (_h0_0:AI .byte H a (a0.f.2.2.1)) (_h0_1:AI .st H b (a0.f.2.2.2.1)) (_h0_2:AI .tree H c (a0.f.2.2.2.2)) {r:AaK} (h:self a0=some r),Ok Tryz.prog 126 [.agg #[No a0.f.1,No a0.f.2.1,a,b,c]] w (fun v w'=>Ext w w'∧∃ g,v=g∧C2 5 .byte H w w' g (r)))(w:World)(H:PH)(hH:Le H (hp w)){a0:Go.L.Pv}{a:Value}{b:Value}{c:Value}(_h0_0:AI .byte H a (a0.f.2.2.1))(_h0_1:AI .st H b (a0.f.2.2.2.1))(_h0_2:AI .tree H c (a0.f.2.2.2.2)){r:AaK}(h:Gf self a0=some r):
  Ok Tryz.prog 126 [.agg #[No a0.f.1,No a0.f.2.1,a,b,c]] w (fun v w'=>Ext w w'∧∃ g,v=g∧C2 5 .byte H w w' g (r)):=by
 refine A4 (n:=57) [(0,.agg #[No a0.f.1,No a0.f.2.1,a,b,c])] func126 rfl rfl rfl rfl rfl ?_;have hL:=AO.start w;refine Ak<|CK (t:=64) rfl rfl rfl hL fun w1 b1 e ag _=>AA 1 rfl<|Ak<|Ae (Af rfl AbG rfl Cc (by decide)) rfl<|Ae (Ag 0 rfl AaT rfl e rfl rfl) rfl ?_;refine Ax h fun x2 y h=>?_;refine Bs rfl rfl e (BM _ _ (As hH e) y) ?_;rintro ai w3 ⟨_,rfl,k⟩ z d s;obtain⟨am,d,s,j⟩:=k.take hH e z;refine AA 1 rfl<|A7<|Ak<|Ae (Af rfl AbG rfl Cc (by decide)) rfl<|Ae (Ag 1 rfl AaT rfl d rfl rfl) rfl<|Ac<|A2<|A9 2 rfl<|AM rfl h (fun aa h=>?_) (fun aa h=>?_)
 ·refine Bk 1 rfl<|Ae (Af rfl AbG rfl Cc (by decide)) rfl<|Ae (Ag 1 rfl AaT rfl d rfl rfl) rfl ?_;refine Ax h fun x6 ab h=>?_;refine Bs rfl rfl d (BM _ _ (As hH d) ab) ?_;rintro ak w7 ⟨_,rfl,o⟩ ac ad u;have p:=o.CA hH d ac;refine Az h fun ae h=>?_;have j:=j.mono (Ab hH u);refine Bq (r:=.byte) (l:=x2) (m:=x6) 0 rfl rfl Abe Lo rfl (by decide) rfl hH ad rfl j p ae fun v8 w8 an q al af=>AA 1 rfl<|Ay<|Aw<|Av ?_
  cases h
  refine Am rfl rfl ?_;exact⟨q.ext,_,rfl,(q.GQ hH (i:=0) rfl af)⟩
 refine A9 2 rfl<|AM rfl h (fun x h=>?_) (fun x h=>?_)
 ·cases h
 refine Au<|A8<|Ao ?_
 cases h
theorem Pa(n:Nat):∀ (w:World) (H:PH) (hH:Le H (hp w)) {a0:Go.L.Pv} {a:Value} {b:Value} {c:Value} (e:AI .byte H a (a0.f.2.2.1)) (g:AI .st H b (a0.f.2.2.2.1)) (i:AI .tree H c (a0.f.2.2.2.2)) {r:AaK} (h:GD n a0=some r),Ok Tryz.prog 126 [.agg #[No a0.f.1,No a0.f.2.1,a,b,c]] w (fun v w'=>Ext w w'∧∃ d,v=d∧C2 5 .byte H w w' d (r)):=by
 induction n with
 | zero=>intros;rename_i h;cases h
 | succ n ih=>exact @N3 (GD n) ih
theorem Q0(w:World)(H:PH)(hH:Le H (hp w)){a0:Go.L.Pv}{a:Value}{b:Value}{c:Value}(d:AI .byte H a (a0.f.2.2.1))(e:AI .st H b (a0.f.2.2.2.1))(g:AI .tree H c (a0.f.2.2.2.2)){r:AaK}(h:KA a0=some r):Ok Tryz.prog 126 [.agg #[No a0.f.1,No a0.f.2.1,a,b,c]] w (fun v w'=>Ext w w'∧∃ i,v=i∧C2 5 .byte H w w' i (r)):=Pa 1000 w H hH d e g h
def KB(a0:Go.L.Pv):Option (AaK×(Int×Int)):=
 Option.bind (L2 a0 (0:Int) (1:Int)) (fun b=>if b.2.1=(0:Int)∧b.2.2=(0:Int) then Option.bind (KA a0) (fun a=>if(4000:Int)<(a.length:Int) then none else some (a,((0:Int),(0:Int)))) else none)
theorem Q1(w:World)(H:PH)(hH:Le H (hp w)){a0:Go.L.Pv}{b:Value}{c:Value}{d:Value}(k:AI .byte H b (a0.f.2.2.1))(l:AI .st H c (a0.f.2.2.2.1))(m:AI .tree H d (a0.f.2.2.2.2)){r:AaK×(Int×Int)}(h:KB a0=some r):
  Ok Tryz.prog 77 [.agg #[No a0.f.1,No a0.f.2.1,b,c,d]] w (fun v w'=>Ext w w'∧∃ z,v=.tuple #[z,.agg #[No r.2.1,No r.2.2]]∧C2 5 .byte H w w' z (r.1)):=by
 refine A4 (n:=24) [(0,.agg #[No a0.f.1,No a0.f.2.1,b,c,d])] func77 rfl rfl rfl rfl rfl ?_;have hL:=AO.start w;refine Ak<|CK (t:=64) rfl rfl rfl hL fun w1 b1 aa ag _=>Aq 1 rfl<|AG AR rfl rfl aa fun w2 b2 o ah _=>Ac<|A7<|Ak<|Ae (AE 1 rfl AbG rfl GR o rfl) rfl ?_;refine Ax h fun x3 ab h=>?_;refine AF rfl rfl o (RD (a0:=a0) _ _ (As hH o) (k.mono (Ah hH)) (l.mono (Ah hH)) (m.mono (Ah hH)) ab) fun w4 am ac ai=>Aq 3 rfl<|AG AR rfl rfl ac fun w5 b5 ad aj _=>Aq 1 rfl<|Aj 0 rfl rfl rfl AR ad rfl rfl (AH rfl (AH rfl Cj)) fun w6 a ak=>Ac<|Ak<|Ae (AE 0 rfl Abs rfl AR a rfl) rfl<|Ae (AZ rfl (fun _=>BY _)) rfl<|Ae (JG rfl rfl I6 (Lp _ _ _ _)) rfl<|Ac<|Cl rfl h (fun ae h=>?_) (fun ae h=>?_)
 ·cases h
 refine Au<|Ao<|Ak<|Ae (AE 2 rfl AbG rfl GR a rfl) rfl ?_;refine Ax h fun an u h=>?_;refine Bs rfl rfl a (Q0 (a0:=a0) _ _ (As hH a) (k.mono (Ah hH)) (l.mono (Ah hH)) (m.mono (Ah hH)) u) ?_;rintro af ao ⟨_,rfl,p⟩ x e q;obtain⟨al,e,q,g⟩:=p.take hH a x;refine AA 1 rfl<|A7<|Bk 1 rfl<|Ae (P4 (i:=0) rfl Abe e rfl) rfl<|AA 1 rfl<|AM rfl h (fun y h=>?_) (fun y h=>?_)
 ·cases h
 refine Au<|Ao<|Bk 1 rfl<|Ae (AZ rfl (fun _=>BY _)) rfl<|Aq 1 rfl<|Aj 2 rfl rfl rfl AR e rfl rfl (AH rfl (AH rfl Cj)) fun ap j s=>Ac<|Ay ?_
 cases h
 refine C9 rfl (.tmp rfl) (.cell rfl Abs rfl AR (AT (i:=2) j rfl)) ?_;have g:=g.mono (Ab hH s);exact⟨j.ext,_,rfl,(j.GQ hH (i:=0) rfl g)⟩
def HX(a0:Go.L.Pv):Option ((Int×Int)):=
 Option.bind (KB a0) (fun a=>some ((a.2.1,a.2.2)))
theorem L3(w:World)(H:PH)(hH:Le H (hp w)){a0:Go.L.Pv}{a:Value}{b:Value}{c:Value}(j:AI .byte H a (a0.f.2.2.1))(k:AI .st H b (a0.f.2.2.2.1))(l:AI .tree H c (a0.f.2.2.2.2)){r:(Int×Int)}(h:HX a0=some r):
  Ok Tryz.prog 46 [.agg #[No a0.f.1,No a0.f.2.1,a,b,c]] w (fun v w'=>Ext w w'∧v=.agg #[No r.1,No r.2]):=by
 refine A4 (n:=11) [(0,.agg #[No a0.f.1,No a0.f.2.1,a,b,c])] func46 rfl rfl rfl rfl rfl ?_;have hL:=AO.start w;refine Ak<|CK (t:=64) rfl rfl rfl hL fun w1 b1 m u _=>AG AR rfl rfl m fun w2 b2 d x _=>Ac<|Ak<|Ae (AE 1 rfl AbG rfl GR d rfl) rfl ?_;refine Ax h fun x3 o h=>?_;refine Bs rfl rfl d (Q1 (a0:=a0) _ _ (As hH d) (j.mono (Ah hH)) (k.mono (Ah hH)) (l.mono (Ah hH)) o) ?_;rintro _ w4 ⟨y,rfl,s⟩ ad p z;refine Aq 3 rfl<|AG AR rfl rfl p fun w5 b5 q aa _=>Aq 1 rfl<|Aj 0 rfl rfl rfl AR q rfl rfl (AH rfl (AH rfl Cj)) fun w6 e ab=>Ac<|Ak<|Ae (AE 0 rfl Abs rfl AR e rfl) rfl<|Aj 1 rfl rfl rfl AR e rfl rfl (AH rfl (AH rfl Cj)) fun w7 g ac=>Ac<|Ay ?_
 cases h
 refine BB rfl (.cell rfl Abs rfl AR (AT (i:=1) g rfl)) ?_;exact⟨g.ext,rfl⟩
def EY{σ:Type}(a0:Go.L.Pv):Int×σ→Option ((Int×σ) ⊕ (σ)):=fun⟨a,sJ20⟩=>
 if a<(a0.f.2.2.2.2.length:Int) then AU (0≤a∧a<(a0.f.2.2.2.2.length:Int)) (none) else Option.map Sum.inr (some sJ20)
def H9{σ:Type}(a0:Go.L.Pv)(s:Int×σ):Option (σ):=Go.L.run (EY a0) s
def F8{σ:Type}(step:σ→(AaK×Int×Int×AaK)→Option σ)(_self:Go.L.Pv→(List AaK)→σ→Option σ)(a0:Go.L.Pv)(a1:List AaK)(s:σ):Option (σ):=
 Option.bind (Qm a1 ([47]:AaK)) (fun b=>Option.bind (step s (b,a0.f.1,a0.f.2.1,a0.f.2.2.1)) (fun a=>(H9 a0) ((0:Int),a)))
def FU{σ:Type}(step:σ→(AaK×Int×Int×AaK)→Option σ):Nat→Go.L.Pv→(List AaK)→σ→Option σ
 | 0=>fun _ _ _=>none
 | n+1=>F8 step (FU step n)
def IF{σ:Type}(step:σ→(AaK×Int×Int×AaK)→Option σ):Go.L.Pv→(List AaK)→σ→Option σ:=FU step 1000
theorem N4{σ:Type}{a:World}{H:PH}(hH:Le H (hp a)){fc:FuncId}{cap:List Value}{J:σ→List BG→PH→Prop}{step:σ→(AaK×Int×Int×AaK)→Option σ}(hcb:Cb Tryz.prog a H fc cap J step){self:Go.L.Pv→(List AaK)→σ→Option σ}(_hself:∀ {w:World} {O R:List BG} {s:σ} {a0:Go.L.Pv} {a1:List AaK} {va0_2:Value} {va0_3:Value} {va0_4:Value} {va1:Value} (hL:AO a (Ha O R) w) (e:AI .byte (gz H a w (Ha O R)) va0_2 (a0.f.2.2.1)) (p:AI .st (gz H a w (Ha O R)) va0_3 (a0.f.2.2.2.1)) (g:AI .tree (gz H a w (Ha O R)) va0_4 (a0.f.2.2.2.2)) (ad:AI .st (gz H a w (Ha O R)) va1 (a1)) (hJ:J s R (gz H a w (Ha O R))) {r:σ} (h:self a0 a1 s=some r),Ok Tryz.prog 82 [.agg #[No a0.f.1,No a0.f.2.1,va0_2,va0_3,va0_4],va1,.func (.func fc) #[] cap.toArray] w (fun v w'=>v=.tuple #[]∧∃ R':List BG,AO a (Ha O R') w'∧Le (fz w (Ha O R)) (fz w' (Ha O R'))∧J r R' (gz H a w' (Ha O R')))){w:World}{O R:List BG}{s:σ}{a0:Go.L.Pv}{a1:List AaK}{va0_2:Value}{va0_3:Value}{va0_4:Value}{va1:Value}(hL:AO a (Ha O R) w)(e:AI .byte (gz H a w (Ha O R)) va0_2 (a0.f.2.2.1))(p:AI .st (gz H a w (Ha O R)) va0_3 (a0.f.2.2.2.1))(g:AI .tree (gz H a w (Ha O R)) va0_4 (a0.f.2.2.2.2))(ad:AI .st (gz H a w (Ha O R)) va1 (a1))(hJ:J s R (gz H a w (Ha O R))){r:σ}(h:F8 step self a0 a1 s=some r):
  Ok Tryz.prog 82 [.agg #[No a0.f.1,No a0.f.2.1,va0_2,va0_3,va0_4],va1,.func (.func fc) #[] cap.toArray] w (fun v w'=>v=.tuple #[]∧∃ R':List BG,AO a (Ha O R') w'∧Le (fz w (Ha O R)) (fz w' (Ha O R'))∧J r R' (gz H a w' (Ha O R'))):=by
 refine A4 (n:=46) [(0,.agg #[No a0.f.1,No a0.f.2.1,va0_2,va0_3,va0_4]),(1,va1),(2,.func (.func fc) #[] cap.toArray)] func82 rfl rfl rfl rfl rfl ?_;have hT:=Le.refl (fz w (Ha O R));have c:=hL.rG H;refine Ak<|CK (t:=64) rfl rfl rfl hL ?_;intro w2 y ae l _;have hJ:=hcb.mono (Ab hH l) hJ;refine Ac<|EH (.q 0 (.q 1 (.q 2 (.q 3 (.q 4 (.q 5 (.q 6 (.q 7 (.q 8 (.q 9 (.q 10 (.tail 11)))))))))))) mixed (by kernel_rfl) (fun w3 af=>?_);have d:=ae.call af;have m:=AV ae af;have hJ:=hcb.mono (Ab hH m) hJ;refine CD 2 rfl ?_;refine Ax h fun x5 ar h=>?_;have c:=c.trans (Ab hH (l.trans m));refine EI rfl rfl rfl (fun w6 au=>T9 _ _ (Le.refl _) (((ad.mono c).mono (As hH d)).mono au.le) ar)<|BH (Af rfl AbG rfl Cc (by decide)) rfl rfl<|BH (Ag 0 rfl AaT rfl d rfl rfl) rfl rfl<|BH (Af rfl AbG rfl Cc (by decide)) rfl rfl<|BH (Ag 0 rfl AaT rfl d rfl rfl) rfl rfl<|BH (Af rfl AbG rfl Fw (by decide)) rfl rfl<|BH (Ag 0 rfl Abe rfl d rfl rfl) rfl rfl<|BH (MJ rfl Abe Ab9 Abb (e.mono c) (As hH d)) rfl rfl<|BH (AZ rfl (fun _=>R7 _ rfl _ _ _ rfl _)) rfl rfl<|BQ (fun w7 ag=>?_)
 have av:=d.call ag;have o:=AV d ag;have hJ:=hcb.mono (Ab hH o) hJ;refine Ax h fun ah aj h=>?_;refine Eh (cap:=cap) rfl rfl rfl (hcb.ok (O:=(Ha [.box y [No a0.f.1,No a0.f.2.1,va0_2,va0_3,va0_4] 64] O)) (R:=R) (x:=(x5,a0.f.1,a0.f.2.1,a0.f.2.2.1)) av hJ aj) ?_;rintro _ w9 ⟨rfl,R9,u,j,aw⟩;replace u:AO a (Ha [.box y [No a0.f.1,No a0.f.2.1,va0_2,va0_3,va0_4] 64] (Ha O R9)) w9:=u;replace j:Le (fz w7 (Ha [.box y [No a0.f.1,No a0.f.2.1,va0_2,va0_3,va0_4] 64] (Ha O R))) (fz w9 (Ha [.box y [No a0.f.1,No a0.f.2.1,va0_2,va0_3,va0_4] 64] (Ha O R9))):=j;replace hJ:J ah R9 (gz H a w9 (Ha [.box y [No a0.f.1,No a0.f.2.1,va0_2,va0_3,va0_4] 64] (Ha O R9))):=aw;refine Ac<|Ak<|Ae (Af rfl AbG rfl WV (by decide)) rfl<|Ae (Ag 0 rfl Acm rfl u rfl rfl) rfl ?_;have c:=c.trans (Ab hH (o.trans j));refine Ae (Bo rfl Acm (g.mono c)) rfl<|AA 1 rfl<|A2 ?_;obtain⟨ai,h⟩:=AY h;have hT:=hT.trans (l.trans (m.trans (o.trans j)))
 refine Bw (σ:=Int×σ×(List BG)×Nat) (fun⟨b,sJ20,RJ20,n⟩=>[(22,va0_4),(23,No (a0.f.2.2.2.2.length:Int)),(24,No b)]) (fun⟨b,sJ20,RJ20,n⟩ wr=>DZ a (Ha [.box y [No a0.f.1,No a0.f.2.1,va0_2,va0_3,va0_4] 64] (Ha O RJ20)) wr fun Oz=>AI .tree (gz H a wr Oz) (va0_4) (a0.f.2.2.2.2)∧AI .byte (gz H a wr Oz) (va0_2) (a0.f.2.2.1)∧AI .st (gz H a wr Oz) (va0_3) (a0.f.2.2.2.1)∧Le (fz w (Ha O R)) (fz wr Oz)∧J sJ20 RJ20 (gz H a wr Oz)∧FT (EY a0) n (b,sJ20)=some r) (fun⟨b,sJ20,RJ20,n⟩=>n) ((0:Int),ah,R9,ai) (Sub.of rfl) ⟨u,(g.mono c),(e.mono c),(p.mono c),hT,hJ,h⟩ ?_;rintro⟨b,sJ20,RJ20,nn20⟩ a3 ⟨k,z,ax,ay,hT,hJ,h⟩;obtain⟨ai,a5,rfl,h,al⟩:=AX h;have am:=k.rG H;refine A9 1 rfl<|A7<|AM rfl h (fun an h=>?_) (fun an h=>?_)
 ·refine Au<|Ao<|A7<|A2<|Bk 1 rfl ?_;refine Az h fun aa h=>?_;refine Bb rfl rfl Acm GR (z.mono am) b.toNat (EM aa) (AW aa) rfl ?_;rintro a6 _ e25t0 ao;obtain⟨_,_,rfl,rfl,⟨_,_,rfl,rfl,⟨_,_,rfl,⟨e25v2,rfl,e25h2⟩,⟨_,_,rfl,⟨e25v3,rfl,e25h3⟩,⟨e25v4,rfl,e25h4⟩⟩⟩⟩⟩:=Go.E.Rp.NS e25t0;refine Ae (C1 rfl AbG rfl GR ao (As hH k)) rfl<|AG GR rfl rfl k ?_;intro a7 a8 ap ab _;have hJ:=hcb.mono (Ab hH ab) hJ;refine Aq 1 rfl<|Aj 0 rfl rfl rfl GR ap rfl rfl (AH rfl (AH rfl (AH e25h2.one (AH e25h3.one (AH e25h4.one Cj))))) ?_;intro a9 a4 ac;have hJ:=hcb.mono (Ab hH ac) hJ;refine Ac ?_
  cases h
 refine Br<|AD<|A5 ?_;have h:=BV.out h al;refine Bd ?_
 cases h
 refine Ju rfl ?_;have aq:=k.AP (i:=0) rfl;have hJ:=hcb.mono (Ab hH (Al (i:=0) rfl)) hJ;have hT:=hT.trans (Al (i:=0) rfl);exact⟨rfl,RJ20,aq,hT,hJ⟩
theorem Pb{σ:Type}{a:World}{H:PH}(hH:Le H (hp a)){fc:FuncId}{cap:List Value}{J:σ→List BG→PH→Prop}{step:σ→(AaK×Int×Int×AaK)→Option σ}(hcb:Cb Tryz.prog a H fc cap J step)(n:Nat):∀ {w:World} {O R:List BG} {s:σ} {a0:Go.L.Pv} {a1:List AaK} {va0_2:Value} {va0_3:Value} {va0_4:Value} {va1:Value} (hL:AO a (Ha O R) w) (b:AI .byte (gz H a w (Ha O R)) va0_2 (a0.f.2.2.1)) (c:AI .st (gz H a w (Ha O R)) va0_3 (a0.f.2.2.2.1)) (d:AI .tree (gz H a w (Ha O R)) va0_4 (a0.f.2.2.2.2)) (e:AI .st (gz H a w (Ha O R)) va1 (a1)) (hJ:J s R (gz H a w (Ha O R))) {r:σ} (h:FU step n a0 a1 s=some r),Ok Tryz.prog 82 [.agg #[No a0.f.1,No a0.f.2.1,va0_2,va0_3,va0_4],va1,.func (.func fc) #[] cap.toArray] w (fun v w'=>v=.tuple #[]∧∃ R':List BG,AO a (Ha O R') w'∧Le (fz w (Ha O R)) (fz w' (Ha O R'))∧J r R' (gz H a w' (Ha O R'))):=by
 induction n with
 | zero=>intros;rename_i h;cases h
 | succ n ih=>exact fun {_} {_} {_} {_} {_} {_} {_} {_} {_} {_} hL b c d e hJ {_} h=>N4 hH hcb (self:=FU step n) ih hL b c d e hJ h
theorem Q2{σ:Type}{a:World}{H:PH}(hH:Le H (hp a)){fc:FuncId}{cap:List Value}{J:σ→List BG→PH→Prop}{step:σ→(AaK×Int×Int×AaK)→Option σ}(hcb:Cb Tryz.prog a H fc cap J step){w:World}{O R:List BG}{s:σ}{a0:Go.L.Pv}{a1:List AaK}{va0_2:Value}{va0_3:Value}{va0_4:Value}{va1:Value}(hL:AO a (Ha O R) w)(b:AI .byte (gz H a w (Ha O R)) va0_2 (a0.f.2.2.1))(c:AI .st (gz H a w (Ha O R)) va0_3 (a0.f.2.2.2.1))(d:AI .tree (gz H a w (Ha O R)) va0_4 (a0.f.2.2.2.2))(e:AI .st (gz H a w (Ha O R)) va1 (a1))(hJ:J s R (gz H a w (Ha O R))){r:σ}(h:IF step a0 a1 s=some r):Ok Tryz.prog 82 [.agg #[No a0.f.1,No a0.f.2.1,va0_2,va0_3,va0_4],va1,.func (.func fc) #[] cap.toArray] w (fun v w'=>v=.tuple #[]∧∃ R':List BG,AO a (Ha O R') w'∧Le (fz w (Ha O R)) (fz w' (Ha O R'))∧J r R' (gz H a w' (Ha O R'))):=Pb hH hcb 1000 hL b c d e hJ h
end Go.Proofs.YtekmbcbgknmhiaaGreatDoor
end
noncomputable section
namespace Go.E
open Go Go.RowKit Go.Sort Go.Proofs Go.Shelf
theorem UC[Dr]{w w':World}(hd:Dr.on=true)(h:Ext w w'):∃ q os,w'=grow (w.drewN q) os:=by
 refine⟨w'.drawn - w.drawn,w'.heap.extract w.heap.size w'.heap.size,?_⟩;have hd:=h.drawn hd
 have hh:w.heap++w'.heap.extract w.heap.size w'.heap.size=w'.heap:=by
  apply Array.ext_getElem?;intro k
  rcases Nat.lt_or_ge k w.heap.size with hk | hk
  ·rw [Array.getElem?_append_left hk,h.block k hk]
  ·rw [Array.getElem?_append_right hk,Array.getElem?_extract];have:=h.size
   split
   ·congr 1;omega
   ·rw [Array.getElem?_eq_none (by omega)]
 obtain⟨heap,tape,drawn,os,output⟩:=w;obtain⟨heap',tape',drawn',os',output'⟩:=w';have a:=h.os;have h2:=h.tape;have h3:=h.output;simp only at a h2 h3 hd hh;subst a;subst h2;subst h3;simp only [grow,World.drewN,World.mk.injEq,and_true,true_and];exact⟨hh.symm,by omega⟩
section
variable {α:Type} [Inhabited α]
theorem KZ(enc:α→Value)(w:World)(g m:Nat)(d:Array α)(os:Array Obj)(k:Nat)(hk:k<w.heap.size):(sortWorld enc w g 0 m d os).heap[k]? = if k=g then(w.heap[k]?).map (onCells (putCells enc 0 d)) else w.heap[k]?:=by
 unfold sortWorld grow putRow mapBlock Sort.ahead;simp only;rw [Array.getElem?_append_left (by simpa using hk),Array.getElem?_modify]
 by_cases h:g=k
 ·subst h;simp
 ·rw [if_neg h,if_neg (fun e=>h e.symm)]
theorem MO(enc:α→Value)(w:World)(g m:Nat)(d:Array α)(os:Array Obj):w.grownBy (sortWorld enc w g 0 m d os) (some g):=
 ⟨rfl,rfl,rfl,by simp [sortWorld,grow,putRow,mapBlock,Sort.ahead],fun k hk hne=>by rw [KZ enc w g m d os k hk,if_neg (fun e=>hne (by rw [e]))]⟩
theorem Sv(enc:α→Value)(d:Array α)(c:Array Value)(h:d.size≤c.size):(putCells enc 0 d c).toList.take d.size=d.toList.map enc:=by
 apply List.ext_getElem?;intro k;rw [List.getElem?_take]
 by_cases hk:k<d.size
 ·rw [if_pos hk];have hkc:k<c.size:=by omega
  simp [putCells,hk,hkc]
 ·rw [if_neg hk,List.getElem?_eq_none (by simp;omega)]
theorem Wq{enc:α→Value}{w:World}{e:TypeId}{g cap n sz m:Nat}{xs:List Value}{d:Array α}{os:Array Obj}(ho:w.ownsRow 0 e sz (.slice (some ⟨g,0,none⟩) n cap) n xs)(hl:d.size=xs.length):
  (sortWorld enc w g 0 m d os).ownsRow 0 e sz (.slice (some ⟨g,0,none⟩) n cap) n (d.toList.map enc):=by
 obtain⟨a,h2⟩:=ho;refine⟨by simp;omega,?_⟩
 rcases h2 with ⟨hc,_⟩ | ⟨g',cap',cur,hv,hb,hg,hnc,hcm,hcs,htake⟩
 ·cases hc
 ·cases hv
  have hgl:=lt_of_heap hg;have hle:n * sz≤cap * sz:=Nat.mul_le_mul_right _ hnc;refine .inr ⟨g,cap,putCells enc 0 d cur,rfl,hb,?_,hnc,hcm,by simp [putCells,hcs],?_⟩
  ·rw [KZ enc w g m _ os g hgl,if_pos rfl,hg]
   rfl
  ·have:=Sv enc d cur (by omega);rw [show n * sz=d.size by omega];exact this
theorem NY{enc:α→Value}{w:World}{e:TypeId}{g cap n sz:Nat}{xs:List Value}{d:Array α}(ho:w.ownsRow 0 e sz (.slice (some ⟨g,0,none⟩) n cap) n xs)(hd:d.toList.map enc=xs):Holds enc w g 0 d∧g<w.heap.size:=by
 obtain⟨b,h2⟩:=ho;have hsz:d.size=xs.length:=by rw [← hd];simp
 rcases h2 with ⟨hc,_⟩ | ⟨g',cap',cur,hv,hb,hg,hnc,hcm,hcs,htake⟩
 ·cases hc
 ·cases hv
  have hle:n * sz≤cap * sz:=Nat.mul_le_mul_right _ hnc;refine⟨fun j hj=>?_,lt_of_heap hg⟩
  constructor
  ·have a:xs[j]? = some (enc d[j]!):=by rw [← hd];simp [hj]
   have:cur.toList[j]? = some (enc d[j]!):=by
    rw [← htake,List.getElem?_take,if_pos (by omega)] at a;exact a
   simp only [World.cell?,hg,Nat.zero_add]
   simpa using this
  ·simp [World.frozen?,hg]
end
theorem Aai{w:World}{e:TypeId}{g cap n q:Nat}{xs:List Value}(ho:w.ownsRow 0 e 1 (.slice (some ⟨g,0,none⟩) n cap) n xs)(hq:q≤n):w.ownsRow 0 e 1 (.slice (some ⟨g,0,none⟩) q cap) q (xs.take q):=by
 obtain⟨a,h2⟩:=ho
 rcases h2 with ⟨hc,_⟩ | ⟨g',cap',cur,hv,hb,hg,hnc,hcm,hcs,htake⟩
 ·cases hc
 ·cases hv
  refine⟨by rw [List.length_take,a];omega,.inr ⟨g,cap,cur,rfl,hb,hg,by omega,hcm,hcs,?_⟩⟩;rw [← htake,List.take_take,Nat.mul_one,Nat.mul_one,Nat.min_eq_left hq]
section
variable {P:Program} {n:Sz} {ops:Array Oper} {Q:Exit→Act→World→Prop} {L:Env} {w w0:World} {O:List BG} {rest:List Oper} {d:Nat} {ty:TypeId} {pos:String} {af:Array Edge} {v:Value} {e:TypeId} {H:PH} {α β:Type} [Inhabited β] {r:Rp α}
theorem RE[Dr]{f i sz:Nat}{at_:Array TypeId}{args:List Operand}{l l':List α}{xs ys:List Value}{dd:Array β}{enc:β→Value}{fa:List Value}(hc:HR P f)(ha:OL L args=some (v::fa))(hn:Nat.blt d n.n=true)(hL:AO w0 O w)(hi:D8 O i=some (.row v e sz l.length xs))(hd:dd.toList.map enc=ys)(hl:l'.length=l.length)(hy:ys.length=xs.length)(hys:l.length=0→ys=xs)
  (hnil:v=.slice none 0 0→Calls P f (v::fa).toArray w fun e w'=>e=.returned (.tuple #[])∧w'=w)
  (hs:∀ g cap,v=.slice (some ⟨g,0,none⟩) l.length cap→l.length≤cap→Calls P f (v::fa).toArray w fun e w'=>e=.returned (.tuple #[])∧∃ m os,w'=sortWorld enc w g 0 m dd os)
  (h:∀ w',AO w0 (Dc O i (.row v e sz l'.length ys)) w'→Le (fz w O) (fz w' (Dc O i (.row v e sz l'.length ys)))→S P n ops Q rest ((d,.tuple #[])::L) w') :
  S P n ops Q (⟨some d,.call ⟨.value (.func f),args.toArray,at_⟩,ty,pos,af,none⟩::rest) L w:=by
 have hown:w.ownsRow 0 e sz v l.length xs:=hL.at hi;rw [hl] at h
 rcases hown.2 with ⟨hv,c⟩ | ⟨j,cap,cur,hv,k,o,hnc,_⟩
 ·refine P0 rfl fun a fr=>?_;unfold Oper.wp;rw [Jr hc ha _ fr.Qt];refine(hnil hv).mono fun en w' ⟨he,hw⟩=>?_;subst he;subst hw;have hyx:=hys c;subst hyx;exact h w' (hL.LH hi (Nat.le_refl _) (World.grownBy.refl _ _) (hL.at hi) (fun b e=>.inl e)) (Hz (r':=.row v e sz l.length ys) hL hi (World.grownBy.refl _ _) (fun b e=>.inl e)) _ (fr.put hn)
 ·refine P0 rfl fun a fr=>?_;unfold Oper.wp;rw [Jr hc ha _ fr.Qt];refine(hs j cap hv hnc).mono fun en w' ⟨he,m,os,hw⟩=>?_;subst he;have hgr:=MO enc w j m dd os;rw [← hw] at hgr
  have hok:(BG.row v e sz l.length ys).ok w':=by
   rw [hw,hv,← hd];refine Wq (by rw [← hv];exact hown) ?_;have:dd.toList.length=ys.length:=by rw [← hd];simp
   simpa [hy] using this
  have hdr:w.drawn≤w'.drawn:=by rw [hw];exact Nat.le_add_right _ _
  have hgr':w.grownBy w' (BG.row v e sz l.length xs).block:=by rw [hv];exact hgr
  exact h w' (hL.LH hi hdr hgr' hok (fun b e=>.inl e)) (Hz (r':=.row v e sz l.length ys) hL hi hgr' (fun b e=>.inl e)) _ (fr.put hn)
theorem Xe[Dr]{f i:Nat}{at_:Array TypeId}{args:List Operand}{l:List α}{l':List β}{z:β}{xs:List Value}{enc:β→Value}(hc:HR P f)(ha:OL L args=some [v])(hn:Nat.blt d n.n=true)(hL:AO w0 O w)(hi:D8 O i=some (.row v e 1 l.length xs))(hle:l'.length≤l.length)
  (hnil:v=.slice none 0 0→Calls P f #[v] w fun e w'=>e=.returned v∧w'=w)
  (hs:∀ g cap,v=.slice (some ⟨g,0,none⟩) l.length cap→l.length≤cap→Calls P f #[v] w fun e w'=>e=.returned (.slice (some ⟨g,0,none⟩) l'.length cap)∧∃ q,w'=putRow enc (Sort.ahead w q) g 0 (l'++List.replicate (l.length - l'.length) z).toArray)
  (h:∀ v' w',AO w0 (Dc O i (.row v' e 1 l'.length (l'.map enc))) w'→Le (fz w O) (fz w' (Dc O i (.row v' e 1 l'.length (l'.map enc))))→S P n ops Q rest ((d,v')::L) w') :
  S P n ops Q (⟨some d,.call ⟨.value (.func f),args.toArray,at_⟩,ty,pos,af,none⟩::rest) L w:=by
 have hown:w.ownsRow 0 e 1 v l.length xs:=hL.at hi
 rcases hown.2 with ⟨hv,k⟩ | ⟨c,cap,cur,hv,t,u,hnc,_⟩
 ·have o:l'=[]:=List.eq_nil_of_length_eq_zero (by omega);subst o;refine P0 rfl fun a fr=>?_;unfold Oper.wp;rw [Jr hc ha _ fr.Qt];refine(hnil hv).mono fun en w' ⟨he,hw⟩=>?_;subst he;subst hw;have p:xs=[]:=List.eq_nil_of_length_eq_zero (by rw [hown.1,k])
  have hok:(BG.row v e 1 ([]:List β).length (([]:List β).map enc)).ok w':=by
   have:=hL.at hi;rw [k,p] at this;exact this
  exact h v w' (hL.LH hi (Nat.le_refl _) (World.grownBy.refl _ _) hok (fun b e=>.inl e)) (Hz (r':=.row v e 1 ([]:List β).length (([]:List β).map enc)) hL hi (World.grownBy.refl _ _) (fun b e=>.inl e)) _ (fr.put hn)
 ·refine P0 rfl fun a fr=>?_;unfold Oper.wp;rw [Jr hc ha _ fr.Qt];refine(hs c cap hv hnc).mono fun en w' ⟨he,q,hw⟩=>?_;subst he;have j:w'=sortWorld enc w c 0 q (l'++List.replicate (l.length - l'.length) z).toArray #[]:=by rw [hw];unfold sortWorld;rw [grow_empty]
  have hgr:=MO enc w c q (l'++List.replicate (l.length - l'.length) z).toArray #[];rw [← j] at hgr
  have hok:(BG.row (.slice (some ⟨c,0,none⟩) l'.length cap) e 1 l'.length (l'.map enc)).ok w':=by
   have s:w'.ownsRow 0 e 1 (.slice (some ⟨c,0,none⟩) l.length cap) l.length ((l'++List.replicate (l.length - l'.length) z).map enc):=by
    have r:=Wq (enc:=enc) (m:=q) (d:=(l'++List.replicate (l.length - l'.length) z).toArray) (os:=#[]) (by rw [← hv];exact hown) (by have:=hown.1;simp;omega);rw [← j] at r
    simpa using r
   have h2:=Aai s hle
   rwa [List.map_append,List.take_left' (by simp)] at h2
  have hdr:w.drawn≤w'.drawn:=by rw [j];exact Nat.le_add_right _ _
  have hgr':w.grownBy w' (BG.row v e 1 l.length xs).block:=by rw [hv];exact hgr
  have hb:∀ b,(BG.row (.slice (some ⟨c,0,none⟩) l'.length cap) e 1 l'.length (l'.map enc)).block=some b→(BG.row v e 1 l.length xs).block=some b:=fun b e=>by rw [hv];exact e
  exact h _ w' (hL.LH hi hdr hgr' hok (fun b e=>.inl (hb b e))) (Hz (r':=.row (.slice (some ⟨c,0,none⟩) l'.length cap) e 1 l'.length (l'.map enc)) hL hi hgr' (fun b e=>.inl (hb b e))) _ (fr.put hn)
end
theorem RF{H:PH}{l:List Int}{xs:List Value}(h:AJ (.int .i64) H l xs):l.map (Value.int .i64)=xs:=by
 induction h with
 | nil=>rfl
 | cons h _ ih=>cases h;rw [List.map_cons,ih];rfl
theorem Pc(H:PH):∀ l:List Int,AJ (.int .i64) H l (l.map (Value.int .i64))
 | []=>.nil
 | _::l=>.cons (c:=[_]) rfl (Pc H l)
section
variable {P:Program} {n:Sz} {ops:Array Oper} {Q:Exit→Act→World→Prop} {L:Env} {w w0:World} {O:List BG} {rest:List Oper} {d:Nat} {ty:TypeId} {pos:String} {af:Array Edge} {v:Value} {e:TypeId} {H:PH} {ρr:Go.Shelf.Ren} {f i:Nat} {at_:Array TypeId} {args:List Operand} {xs:List Value}
def AcN(l:List (List UInt8)):List (List UInt8):=l.mergeSort fun x y=>decide (x≤y)
def N5(l:List Int):List Int:=l.mergeSort fun x y=>decide (x≤y)
theorem Aaj[Dr]{l:List Int}(Ls:Lays.n189 P ρr)(hf:ρr.f 189=f)(hc:HR P f)(ha:OL L args=some [v])(hn:Nat.blt d n.n=true)(hH:Le H (hp w0))(hL:AO w0 O w)(hi:D8 O i=some (.row v e 1 l.length xs))(he:AJ (.int .i64) (gz H w0 w O) l xs)(hlen:l.length<4611686018427387904)
  (h:∀ w' xs',AO w0 (Dc O i (.row v e 1 (N5 l).length xs')) w'→Le (fz w O) (fz w' (Dc O i (.row v e 1 (N5 l).length xs')))→AJ (.int .i64) (gz H w0 w' (Dc O i (.row v e 1 (N5 l).length xs'))) (N5 l) xs'→S P n ops Q rest ((d,.tuple #[])::L) w') :
  S P n ops Q (⟨some d,.call ⟨.value (.func f),args.toArray,at_⟩,ty,pos,af,none⟩::rest) L w:=by
 have hxs:=RF he;have hll:(N5 l).length=l.length:=List.length_mergeSort _;subst hf;refine RE (l':=N5 l) (enc:=Value.int .i64) (dd:=(N5 l).toArray) (ys:=(N5 l).map (Value.int .i64)) hc ha hn hL hi (by simp) hll (by rw [← hxs];simp [hll]) (fun a=>?_) (fun hv=>?_) (fun g cap hv hcap=>?_) (fun w' b h2=>h w' _ b h2 (Pc _ _))
 ·have:l=[]:=List.eq_nil_of_length_eq_zero a;subst this;rw [← hxs,show N5 []=[] from List.mergeSort_nil]
 ·subst hv;exact Any.slices_Sort_int_none Ls none 0 w
 ·have hown:w.ownsRow 0 e 1 v l.length xs:=hL.at hi;rw [hv] at hown;obtain⟨hH',hblk⟩:=NY (enc:=Value.int .i64) (d:=l.toArray) hown (by simpa using hxs);subst hv;exact Any.slices_Sort_int Ls g 0 cap l w hH' hblk hlen
theorem V1{α:Type}[Inhabited α][DecidableEq α](l:List α):(Lib.compact l).length≤l.length:=by
 unfold Lib.compact Lib.compactUpTo;rw [List.length_map];exact Nat.le_trans (List.length_filter_le _ _) (by simp)
theorem Aak[Dr]{l:List Int}(Ls:Lays2.n20 P ρr)(hf:ρr.f 20=f)(hc:HR P f)(ha:OL L args=some [v])(hn:Nat.blt d n.n=true)(hH:Le H (hp w0))(hL:AO w0 O w)(hi:D8 O i=some (.row v e 1 l.length xs))(he:AJ (.int .i64) (gz H w0 w O) l xs)(hlen:l.length≤9223372036854775807)
  (h:∀ v' w' xs',AO w0 (Dc O i (.row v' e 1 (Lib.compact l).length xs')) w'→Le (fz w O) (fz w' (Dc O i (.row v' e 1 (Lib.compact l).length xs')))→AJ (.int .i64) (gz H w0 w' (Dc O i (.row v' e 1 (Lib.compact l).length xs'))) (Lib.compact l) xs'→S P n ops Q rest ((d,v')::L) w') :
  S P n ops Q (⟨some d,.call ⟨.value (.func f),args.toArray,at_⟩,ty,pos,af,none⟩::rest) L w:=by
 have hxs:=RF he;subst hf;refine Xe (l':=Lib.compact l) (enc:=Value.int .i64) (z:=0) hc ha hn hL hi (V1 l) (fun hv=>?_) (fun g cap hv hcap=>?_) (fun v' w' a h2=>h v' w' _ a h2 (Pc _ _))
 ·subst hv;exact Any.slices_Compact_int_empty Ls none 0 w
 ·have hown:w.ownsRow 0 e 1 v l.length xs:=hL.at hi;rw [hv] at hown;obtain⟨hH',hblk⟩:=NY (enc:=Value.int .i64) (d:=l.toArray) hown (by simpa using hxs);subst hv;exact Any.slices_Compact_int Ls g 0 cap l w hH' hlen hcap
end
end Go.E
end
noncomputable section
namespace Go.L
theorem RG{a b:UInt8}(c : ¬ a<b)(h2 : ¬ b<a):a=b:=UInt8.toNat.inj (by rw [UInt8.lt_iff_toNat_lt] at c h2;omega)
theorem La:∀ l m:List UInt8,Lib.compareBytes l m = - Lib.compareBytes m l
 | [],[]=>rfl
 | [],_::_=>rfl
 | _::_,[]=>rfl
 | a::l,b::m=>by
  have ih:=La l m;unfold Lib.compareBytes
  by_cases c:a<b
  ·have h2 : ¬ b<a:=fun h=>by have:=UInt8.lt_iff_toNat_lt.1 h;have:=UInt8.lt_iff_toNat_lt.1 c;omega
   rw [if_pos c,if_neg h2,if_pos c]
  ·by_cases h2:b<a
   ·rw [if_neg c,if_pos h2,if_pos h2];rfl
   ·rw [if_neg c,if_neg h2,if_neg h2,if_neg c,ih]
theorem N6:∀ l m:List UInt8,Lib.compareBytes l m=0→l=m
 | [],[],_=>rfl
 | [],_::_,h=>by cases h
 | _::_,[],h=>by cases h
 | a::l,b::m,h=>by
  unfold Lib.compareBytes at h
  split at h
  ·cases h
  ·rename_i c
   split at h
   ·cases h
   ·rename_i h2;have e:a=b:=RG c h2;rw [e,N6 l m h]
theorem UD:∀ l:List UInt8,Lib.compareBytes l l=0
 | []=>rfl
 | a::l=>by
  have h : ¬ a<a:=fun h=>by have:=UInt8.lt_iff_toNat_lt.1 h;omega
  unfold Lib.compareBytes;rw [if_neg h,if_neg h,UD l]
theorem Mj:∀ l m k:List UInt8,Lib.compareBytes l m<0→Lib.compareBytes m k<0→Lib.compareBytes l k<0
 | [],[],_,h,_=>by simp [Lib.compareBytes] at h
 | [],_::_,[],_,h=>by simp [Lib.compareBytes] at h
 | [],_::_,_::_,_,_=>by simp [Lib.compareBytes]
 | _::_,[],_,h,_=>by simp [Lib.compareBytes] at h
 | _::_,_::_,[],_,h=>by simp [Lib.compareBytes] at h
 | a::l,b::m,c::k,d,h2=>by
  have ih:=Mj l m k;unfold Lib.compareBytes at d h2 ⊢
  by_cases hab:a<b
  ·by_cases hbc:b<c
   ·rw [if_pos (UInt8.lt_iff_toNat_lt.2 (by have:=UInt8.lt_iff_toNat_lt.1 hab;have:=UInt8.lt_iff_toNat_lt.1 hbc;omega))];decide
   ·rw [if_neg hbc] at h2
    by_cases hcb:c<b
    ·rw [if_pos hcb] at h2;omega
    ·have e:b=c:=RG hbc hcb;subst e;rw [if_pos hab];decide
  ·rw [if_neg hab] at d
   by_cases hba:b<a
   ·rw [if_pos hba] at d;omega
   ·rw [if_neg hba] at d;have e:a=b:=RG hab hba;subst e
    by_cases hac:a<c
    ·rw [if_pos hac];decide
    ·rw [if_neg hac] at h2 ⊢
     by_cases hca:c<a
     ·rw [if_pos hca] at h2;omega
     ·rw [if_neg hca] at h2 ⊢;exact ih d h2
structure Q3 {α:Type} (c:α→α→Int):Prop where
 swap:∀ x y,c x y = - c y x
 zero:∀ x y,c x y=0→x=y
 trans:∀ x y z,c x y<0→c y z<0→c x z<0
theorem Acs:Q3 Go.Lib.compareBytes:=⟨La,N6,Mj⟩
def UE(a b:Int):Int:=if a<b then -1 else if b<a then 1 else 0
theorem Acu:Q3 UE:=by
 constructor
 ·intro x y;unfold UE;rcases Int.lt_trichotomy x y with h | h | h
  ·rw [if_pos h,if_neg (by omega),if_pos h]
  ·subst h;rw [if_neg (Int.lt_irrefl _),if_neg (Int.lt_irrefl _)];rfl
  ·rw [if_neg (by omega),if_pos h,if_pos h];rfl
 ·intro x y h;unfold UE at h;split at h;cases h;split at h;cases h;omega
 ·intro x y z a h2;unfold UE at *
  split at a
  ·split at h2
   ·rw [if_pos (by omega)];decide
   ·split at h2 <;> omega
  ·split at a <;> omega
def UF{α β:Type}(c:α→α→Int)(d:β→β→Int)(x y:α×β):Int:=if c x.1 y.1=0 then d x.2 y.2 else c x.1 y.1
theorem V2{α β:Type}{c:α→α→Int}{d:β→β→Int}(hc:Q3 c)(hd:Q3 d):Q3 (UF c d):=by
 constructor
 ·intro x y;unfold UF;have:=hc.swap x.1 y.1
  by_cases h:c x.1 y.1=0
  ·rw [if_pos h,if_pos (by omega)];exact hd.swap _ _
  ·rw [if_neg h,if_neg (by omega)];exact this
 ·intro x y h;unfold UF at h
  split at h
  ·rename_i a;exact Prod.ext (hc.zero _ _ a) (hd.zero _ _ h)
  ·rename_i a;exact absurd h a
 ·intro x y z a h2;unfold UF at *
  by_cases e:c x.1 y.1=0
  ·rw [if_pos e] at a;have:=hc.zero _ _ e;rw [this]
   by_cases b:c y.1 z.1=0
   ·rw [if_pos b] at h2 ⊢;exact hd.trans _ _ _ a h2
   ·rw [if_neg b] at h2 ⊢;exact h2
  ·rw [if_neg e] at a
   by_cases b:c y.1 z.1=0
   ·have:=hc.zero _ _ b;rw [← this,if_neg e];exact a
   ·rw [if_neg b] at h2;have:=hc.trans _ _ _ a h2;rw [if_neg (by omega)];exact this
theorem Q3.swo{α:Type}{c:α→α→Int}(h:Q3 c):Go.Sort.SWO (Go.Proofs.ltOf c):=by
 have hs:=fun x=>h.swap x x
 constructor
 ·intro x;have:=hs x;simp only [Go.Proofs.ltOf,decide_eq_false_iff_not];omega
 ·intro x y z b h2;simp only [Go.Proofs.ltOf,decide_eq_true_eq] at *;exact h.trans _ _ _ b h2
 ·intro x y z b h2;simp only [Go.Proofs.ltOf,decide_eq_false_iff_not] at *;intro h3;have s1:=h.swap x y;have d:=h.swap y z
  rcases Int.lt_trichotomy (c y x) 0 with a | a | a
  ·have:=h.trans _ _ _ a h3;omega
  ·rw [h.zero _ _ a] at h2;omega
  ·omega
theorem Q3.parts{α:Type}{c:α→α→Int}(h:Q3 c)(x y:α)(a:Go.Proofs.ltOf c x y=false)(h2:Go.Proofs.ltOf c y x=false):x=y:=by
 simp only [Go.Proofs.ltOf,decide_eq_false_iff_not] at a h2;have:=h.swap x y;exact h.zero _ _ (by omega)
abbrev Lf:Type:=List UInt8×Int×Int×List UInt8
def Pd:Lf→Lf→Int:=UF Go.Lib.compareBytes (UF UE (UF UE Go.Lib.compareBytes))
theorem Qo:Q3 Pd:=V2 Acs (V2 Acu (V2 Acu Acs))
def Pe(l:List Lf):List Lf:=l.mergeSort fun x y=>!(Go.Proofs.ltOf Pd) y x
theorem UG(l:List Lf):(Pe l).length=l.length:=List.length_mergeSort _
end Go.L
namespace Go.Proofs.YtekmbcbgknmhiaaGreatDoor
open Go Go.L Go.E
theorem Aal(a b:Int):Hs a b=some (UE a b):=by
 unfold Hs cmp_isNaN_int UE;simp only [Option.bind_some,decide_true,Bool.not_true,Bool.false_eq_true,if_false]
 split
 ·rfl
 ·split <;> rfl
theorem Aam(a b:List UInt8):strings_Compare a b=some (Lib.compareBytes a b):=rfl
theorem Ab8(a b c d:Int):M3 [a,b,c,d]=some (if a=0 then(if b=0 then(if c=0 then d else c) else b) else a):=by
 unfold M3 Ow
 have step:∀ (i:Nat) (x:Int),[a,b,c,d][i]? = some x→x=0→Es [a,b,c,d] (i:Int)=some (.inl ((i+1:Nat):Int)):=fun i x hx e=>by
  have hi:i<4:=(List.getElem?_eq_some_iff.1 hx).1;unfold Es;rw [if_pos (by simp;omega),An (by simp;omega),if_pos (by rw [Int.toNat_natCast,List.getD_eq_getElem?_getD,hx];exact e),An (by unfold BL;omega)]
  rfl
 have stop:∀ (i:Nat) (x:Int),[a,b,c,d][i]? = some x→x≠0→Go.L.run (Es [a,b,c,d]) (i:Int)=some x:=fun i x hx e=>by
  have hi:i<4:=(List.getElem?_eq_some_iff.1 hx).1;refine Bm ?_;unfold Es;have hg:[a,b,c,d].getD (i:Int).toNat default=x:=by rw [Int.toNat_natCast,List.getD_eq_getElem?_getD,hx];rfl
  rw [if_pos (by simp;omega),An (by simp;omega),hg,if_neg e]
 have last:Go.L.run (Es [a,b,c,d]) ((4:Nat):Int)=some 0:=by
  refine Bm ?_;unfold Es;rw [if_neg (by simp)]
  rfl
 show Go.L.run _ ((0:Nat):Int)=_
 by_cases ha:a=0
 ·rw [if_pos ha,BA (step 0 a rfl ha)]
  by_cases hb:b=0
  ·rw [if_pos hb,BA (step 1 b rfl hb)]
   by_cases hc:c=0
   ·rw [if_pos hc,BA (step 2 c rfl hc)]
    by_cases hd:d=0
    ·rw [BA (step 3 d rfl hd)];rw [hd] at last ⊢;exact last
    ·exact stop 3 d rfl hd
   ·rw [if_neg hc];exact stop 2 c rfl hc
  ·rw [if_neg hb];exact stop 1 b rfl hb
 ·rw [if_neg ha];exact stop 0 a rfl ha
theorem V3(x y:Lf):I8 x y=some (Pd x y):=by
 unfold I8 Pd UF;simp only [Aam,Aal,Ab8,Option.bind_some]
end Go.Proofs.YtekmbcbgknmhiaaGreatDoor
end
noncomputable section
namespace Go.E
open Go Go.RowKit
theorem UH{κ:Type}{enc:κ→Value}:∀ (l:List κ) (vs:List Value) (i:Nat),l.length=vs.length→(mE enc i l vs).map (·.born)=List.range' i l.length
 | [],[],_,_=>rfl
 | a::l,u::vs,i,h=>by
  simp only [mE,List.map_cons,List.length_cons,List.range'_succ];rw [UH l vs (i+1) (by simpa using h)]
theorem Y5{κ:Type}{enc:κ→Value}{l:List κ}{vs:List Value}(h:l.length=vs.length){x:MapEntry}(hx:x∈mE enc 0 l vs):∃ a,l[x.born]? = some a∧x=⟨enc a,vs.getD x.born default,x.born⟩:=by
 obtain⟨j,hj⟩:=List.getElem?_of_mem hx;have hjl:j<l.length:=by have:=(List.getElem?_eq_some_iff.1 hj).1;rwa [PD l vs 0 h] at this
 have:=PC (enc:=enc) l vs 0 j l[j] h (List.getElem?_eq_getElem hjl);rw [hj,Nat.zero_add] at this;obtain rfl:=Option.some.inj this;exact⟨l[j],List.getElem?_eq_getElem hjl,rfl⟩
section
variable {P:Program} {n:Sz} {ops:Array Oper} {Q:Exit→Act→World→Prop} {L:Env} {w w0:World} {O:List BG} {rest:List Oper} {d:Nat} {ty t kt et:TypeId} {pos:String} {af:Array Edge} {x:Operand} {κ:Type} {enc:κ→Value} {keys:List κ} {vs:List Value} {m N:Nat}
theorem Y6[Dr](hx:ev L x=some (.map (some m)))(ht:P.underlying t=some (.map kt et))(hm:w.heap[m]? = some (.map (mE enc 0 keys vs).toArray N))(hn:Nat.blt d n.n=true)(hL:AO w0 O w)
  (h:∀ w' b,AO w0 (.obj b (.mapIter (some m) N ([]:List Nat).toArray N)::O) w'→Le (fz w O) (fz w' (.obj b (.mapIter (some m) N ([]:List Nat).toArray N)::O))→S P n ops Q rest ((d,.pointer (some ⟨b,0,none⟩))::L) w'):S P n ops Q (⟨some d,.range t x,ty,pos,af,none⟩::rest) L w:=by
 have hb:∀ b,(BG.obj w.heap.size (.mapIter (some m) N ([]:List Nat).toArray N)).block=some b→w.heap.size≤b:=fun b e=>by cases e;exact Nat.le_refl _
 refine Ds (v:=.pointer (some ⟨w.heap.size,0,none⟩)) (w':=w.alloc (.mapIter (some m) N ([]:List Nat).toArray N)) rfl rfl hn (fun ρ hρ=>?_) (h _ _ (hL.new (C0 w _) (World.alloc_heap_new w _) hb) (O5 hL (C0 w _) hb));have:=run_range_map (P:=P) w t kt et m _ N ht hm;simp [execOp,hρ x _ hx,this]
theorem Aan[Dr](i:Nat){b:Nat}{seen:List Nat}(hx:ev L x=some (.pointer (some ⟨b,0,none⟩)))(hn:Nat.blt d n.n=true)(hL:AO w0 O w)(hi:D8 O i=some (.obj b (.mapIter (some m) N seen.toArray N)))(hm:w.heap[m]? = some (.map (mE enc 0 keys vs).toArray N))(hk:keys.length=vs.length)(hN:keys.length=N)
  (r:∀ j a,keys[j]? = some a→j∉seen→∀ w',AO w0 (Dc O i (.obj b (.mapIter (some m) N (seen++[j]).toArray N))) w'→Le (fz w O) (fz w' (Dc O i (.obj b (.mapIter (some m) N (seen++[j]).toArray N))))→w'.heap[m]? = some (.map (mE enc 0 keys vs).toArray N)→S P n ops Q rest ((d,.tuple #[.bool true,enc a,vs.getD j default])::L) w')
  (h2:(∀ j,j<N→j∈seen)→S P n ops Q rest ((d,.tuple #[.bool false])::L) w):S P n ops Q (⟨some d,.next x false,ty,pos,af,none⟩::rest) L w:=by
 have hb:w.heap[b]? = some (.mapIter (some m) N seen.toArray N):=hL.at hi
 have hold:∀ x∈(mE enc 0 keys vs).toArray.toList,x.born<N:=fun x hx=>by
  obtain⟨a,ha,_⟩:=Y5 hk (by simpa using hx);have:=(List.getElem?_eq_some_iff.1 ha).1;omega
 rcases run_next_at (P:=P) w ty b m N N seen.toArray _ N hb hm hold (Nat.le_refl _) with ⟨s,hr⟩ | ⟨e,he,c,k,hr⟩
 ·refine Ds (v:=.tuple #[.bool false]) (w':=w) rfl rfl hn (fun ρ hρ=>by simp [execOp,hρ x _ hx,hr]) (h2 fun j hj=>?_);have hjk:j<keys.length:=by omega
  have hg:=PC (enc:=enc) keys vs 0 j keys[j] hk (List.getElem?_eq_getElem hjk);rw [Nat.zero_add] at hg;have hemp:leftOf (mE enc 0 keys vs).toArray seen.toArray = #[]:=Array.eq_empty_of_size_eq_zero s;unfold leftOf at hemp;rw [Array.filter_eq_empty_iff] at hemp;have:=hemp _ (by simpa using List.mem_of_getElem? hg)
  simpa using this
 ·have hmem:e∈mE enc 0 keys vs∧e.born∉seen:=by
   unfold leftOf at he
   simpa using he
  obtain⟨a,ha,hee⟩:=Y5 hk hmem.1
  have f:Ext w c:=by
   rcases k with rfl | rfl
   ·exact Ext.refl _
   ·exact Kj
  have l:=hL.call f;have g:=AV hL f;have hput:=l.putAt (.mapIter (some m) N (seen++[e.born]).toArray N) hi;have hne:m≠b:=fun eq=>by rw [eq,hb] at hm;cases hm
  have o:c.heap[m]? = some (.map (mE enc 0 keys vs).toArray N):=by rw [f.block m (lt_of_heap hm)];exact hm
  have p:(c.putObj b (.mapIter (some m) N (seen++[e.born]).toArray N)).heap[m]? = some (.map (mE enc 0 keys vs).toArray N):=by rw [World.putObj_heap_other hne];exact o
  have hval:e.key=enc a∧e.val=vs.getD e.born default:=by rw [hee];exact⟨rfl,rfl⟩
  rw [hval.1,hval.2] at hr
  have q:ChangeMaps.setBlock c b (.mapIter (some m) N (seen.toArray.push e.born) N)=c.putObj b (.mapIter (some m) N (seen++[e.born]).toArray N):=by
   rw [List.push_toArray];rfl
  rw [q] at hr;refine Ds (v:=_) (w':=_) rfl rfl hn (fun ρ hρ=>?_) (r e.born a ha hmem.2 _ hput.1 (g.trans hput.2) p);simp [execOp,hρ x _ hx,hr]
theorem Y7{b:Nat}{seen:List Nat}{j:Nat}{a:κ}(hx:ev L x=some (.pointer (some ⟨b,0,none⟩)))(hn:Nat.blt d n.n=true)(hb:w.heap[b]? = some (.mapIter (some m) N (seen++[j]).toArray N))(hm:w.heap[m]? = some (.map (mE enc 0 keys vs).toArray N))(hk:keys.length=vs.length)(ha:keys[j]? = some a)
  (h:S P n ops Q rest ((d,.tuple #[enc a,vs.getD j default])::L) w):S P n ops Q (⟨some d,.entry x,ty,pos,af,none⟩::rest) L w:=by
 have hg:=PC (enc:=enc) keys vs 0 j a hk ha;rw [Nat.zero_add] at hg;have hr:=run_entry_at (P:=P) w b m N seen.toArray (mE enc 0 keys vs).toArray N ⟨enc a,vs.getD j default,j⟩ (by rw [hb,List.push_toArray]) hm (by simpa using List.mem_of_getElem? hg) (by rw [List.toList_toArray,UH _ _ _ hk];exact List.nodup_range');refine Ds (v:=_) (w':=w) rfl rfl hn (fun ρ hρ=>?_) h;simp [execOp,hρ x _ hx,hr]
end
end Go.E
end
noncomputable section
namespace Go.L
theorem N7{α:Type}{c:α→α→Int}(h:Q3 c):∀ {l m:List α},l.Perm m→l.Pairwise (fun x y=>(!(Go.Proofs.ltOf c) y x)=true)→m.Pairwise (fun x y=>(!(Go.Proofs.ltOf c) y x)=true)→l=m
 | [],m,hp,_,_=>hp.nil_eq
 | a::l,m,hp,hl,hm=>by
  cases m with
  | nil=>exact absurd hp.symm.nil_eq (by simp)
  | cons b m=>
   obtain⟨f,g⟩:=List.pairwise_cons.1 hl;obtain⟨i,j⟩:=List.pairwise_cons.1 hm
   have hab:a=b:=by
    by_cases e:a=b
    ·exact e
    ·have ha:a∈m:=by rcases List.mem_cons.1 (hp.mem_iff.1 (.head _)) with d | d;exact absurd d e;exact d
     have hb:b∈l:=by rcases List.mem_cons.1 (hp.mem_iff.2 (.head _)) with d | d;exact absurd d.symm e;exact d
     exact h.parts a b (by simpa using i a ha) (by simpa using f b hb)
   subst hab;rw [N7 h hp.cons_inv g j]
theorem Wr:∀ (N:Nat) (l:List Nat),l.Nodup→(∀ j∈l,j<N)→l.length≤N
 | 0,l,_,h=>by
  cases l with
  | nil=>exact Nat.le_refl _
  | cons a l=>exact absurd (h a (.head _)) (Nat.not_lt_zero a)
 | N+1,l,hn,h=>by
  have b:=Wr N (l.erase N) (hn.erase N) (fun j hj=>by
   have h2:=(hn.mem_erase_iff).1 hj;have:=h j h2.2;omega)
  by_cases hm:N∈l
  ·rw [List.length_erase_of_mem hm] at b;omega
  ·rw [List.erase_of_not_mem hm] at b;omega
theorem Y8{α:Type}{c:α→α→Int}(h:Q3 c){l m:List α}(hp:l.Perm m):(l.mergeSort fun x y=>!(Go.Proofs.ltOf c) y x)=m.mergeSort fun x y=>!(Go.Proofs.ltOf c) y x:=by
 have htr:∀ a b c':α,(!(Go.Proofs.ltOf c) b a)=true→(!(Go.Proofs.ltOf c) c' b)=true→(!(Go.Proofs.ltOf c) c' a)=true:=by
  intro a b d f h2;simp only [Go.Proofs.ltOf,Bool.not_eq_true',decide_eq_false_iff_not] at *;intro h3;have s1:=h.swap a b;have g:=h.swap b d
  rcases Int.lt_trichotomy (c a b) 0 with e | e | e
  ·exact h2 (h.trans d a b h3 e)
  ·rw [h.zero a b e] at h3;exact h2 h3
  ·omega
 have hto:∀ a b:α,((!(Go.Proofs.ltOf c) b a)||(!(Go.Proofs.ltOf c) a b))=true:=by
  intro a b;have s1:=h.swap a b;simp only [Go.Proofs.ltOf,Bool.or_eq_true,Bool.not_eq_true',decide_eq_false_iff_not];omega
 refine N7 h (((List.mergeSort_perm l _).trans hp).trans (List.mergeSort_perm m _).symm) ?_ ?_
 ·exact List.pairwise_mergeSort htr hto l
 ·exact List.pairwise_mergeSort htr hto m
end Go.L
namespace Go.Proofs.YtekmbcbgknmhiaaGreatDoor
open Go Go.E Go.RowKit Go.Shelf Go.L Go.Sort
abbrev MV(x:Lf):List Value:=[.string ⟨x.1.toArray⟩,.int .i64 x.2.1,.int .i64 x.2.2.1,.string ⟨x.2.2.2.toArray⟩]
abbrev Q4:Rp Lf:=.pair .st (.pair (.int .i64) (.pair (.int .i64) .st))
theorem V4(G:PH)(x:Lf)(c:List Value):Q4.rel G x c↔c=MV x:=by
 constructor
 ·rintro⟨_,_,rfl,rfl,_,_,rfl,rfl,_,_,rfl,rfl,rfl⟩
  rfl
 ·rintro rfl;exact⟨[_],[_,_,_],rfl,rfl,[_],[_,_],rfl,rfl,[_],[_],rfl,rfl,rfl⟩
theorem Y9{G:PH}{l:List Lf}{xs:List Value}(h:AJ Q4 G l xs):l.flatMap MV=xs:=by
 induction h with
 | nil=>rfl
 | cons h _ ih=>rw [List.flatMap_cons,ih,(V4 _ _ _).1 h]
theorem UI(G:PH):∀ l:List Lf,AJ Q4 G l (l.flatMap MV)
 | []=>.nil
 | x::l=>by rw [List.flatMap_cons];exact .cons ((V4 _ _ _).2 rfl) (UI G l)
theorem YA(l:List Lf):∀ t,t<l.length * 4→(l.flatMap MV)[t]? = some ((MV (l.getD (t / 4) default)).toArray[t % 4]!):=by
 induction l with
 | nil=>intro t h;simp at h
 | cons a l ih=>
  intro t h;rw [List.flatMap_cons]
  by_cases b:t<4
  ·rw [List.getElem?_append_left b,Nat.div_eq_of_lt b,Nat.mod_eq_of_lt b];have:t=0∨t=1∨t=2∨t=3:=by omega
   rcases this with rfl | rfl | rfl | rfl <;> rfl
  ·rw [List.getElem?_append_right (by simpa using b)];have:=ih (t - 4) (by simp only [List.length_cons] at h;omega);rw [show(MV a).length=4 from rfl,this];obtain⟨s,rfl⟩:∃ s,t=s+4:=⟨t - 4,by omega⟩;rw [Nat.add_sub_cancel,Nat.add_div_right _ (by decide),Nat.add_mod_right]
   rfl
theorem SO(l:List Lf):(flatK MV 4 l.toArray).toList=l.flatMap MV:=by
 have hlen:(l.flatMap MV).length=l.length * 4:=by
  induction l with
  | nil=>rfl
  | cons a l ih=>rw [List.flatMap_cons,List.length_append,ih];show 4+l.length * 4=(l.length+1) * 4;omega
 apply List.ext_getElem?;intro t
 by_cases h:t<l.length * 4
 ·rw [YA l t h];have hs:t<(flatK MV 4 l.toArray).size:=by simpa using h
  have h2:=get_flatK MV 4 l.toArray t (by simpa using h);rw [getElem!_pos _ t hs] at h2;rw [Array.getElem?_toList,Array.getElem?_eq_getElem hs,h2];have hd:t / 4<l.length:=by omega
  have b:l.toArray[t / 4]! = l.getD (t / 4) default:=by simp [hd]
  rw [b];simp
 ·rw [List.getElem?_eq_none (by simpa using h),List.getElem?_eq_none (by omega)]
theorem Aao{n:Sz}{ops:Array Oper}{Q:Exit→Act→World→Prop}{L:Env}{w b:World}{O:List BG}{rest:List Oper}{d:Nat}{ty:TypeId}{pos:String}{af:Array Edge}{v:Value}{H:PH}{i:Nat}{at_:Array TypeId}{args:List Operand}{xs:List Value}{l:List Lf}
  (ha:OL L args=some [v,.func (.func 137) #[] #[]]) (hn:Nat.blt d n.n=true) (_hH:Le H (hp b)) (hL:AO b O w) (hi:D8 O i=some (.row v 142 4 l.length xs)) (he:AJ Q4 (gz H b w O) l xs) (hlen:l.length<4611686018427387904)
  (h:∀ w' xs',AO b (Dc O i (.row v 142 4 (Pe l).length xs')) w'→Le (fz w O) (fz w' (Dc O i (.row v 142 4 (Pe l).length xs')))→AJ Q4 (gz H b w' (Dc O i (.row v 142 4 (Pe l).length xs'))) (Pe l) xs'→S Tryz.prog n ops Q rest ((d,.tuple #[])::L) w') :
  S Tryz.prog n ops Q (⟨some d,.call ⟨.value (.func 186),args.toArray,at_⟩,ty,pos,af,none⟩::rest) L w:=by
 have hxs:=Y9 he;have hll:(Pe l).length=l.length:=UG l
 have hfl:∀ l:List Lf,(l.flatMap MV).length=l.length * 4:=fun l=>by
  induction l with
  | nil=>rfl
  | cons a l ih=>rw [List.flatMap_cons,List.length_append,ih];show 4+l.length * 4=(l.length+1) * 4;omega
 refine RE (l':=Pe l) (enc:=(id:Value→Value)) (dd:=flatK MV 4 (Pe l).toArray) (ys:=(Pe l).flatMap MV) ⟨Tryz.f186,_,Tryz.func186,rfl,rfl⟩ ha hn hL hi (by rw [List.map_id];exact SO _) hll (by rw [← hxs,hfl,hfl,hll]) (fun c=>?_) (fun hv=>?_) (fun g cap hv hcap=>?_) (fun w' e h2=>h w' _ e h2 (UI _ _))
 ·have:l=[]:=List.eq_nil_of_length_eq_zero c;subst this;rw [← hxs,show Pe []=[] from List.mergeSort_nil]
 ·subst hv;exact AnyF.slices_SortFunc_none Tryz.AaF none 0 _ w
 ·have hown:w.ownsRow 0 142 4 v l.length xs:=hL.at hi;rw [hv] at hown;have hhk:HoldsK MV 4 w g 0 l.toArray∧g<w.heap.size:=NY (enc:=(id:Value→Value)) (d:=flatK MV 4 l.toArray) hown (by rw [List.map_id,SO];exact hxs);subst hv;refine AnyQ.slices_SortFunc_total Tryz.AaF 4 (fun w=>by kernel_rfl) (fun w=>by kernel_rfl) MV (fun _=>rfl) (fun x v hv=>?_) Pd Qo.swo 137 #[] g 0 cap l.toArray w (enters_of Tryz.func137 (by kernel_rfl) rfl) ?_ hhk.1 hhk.2 (by simpa using hlen) Qo.parts
  ·simp only [List.mem_cons,List.mem_nil_iff,or_false] at hv
   rcases hv with rfl | rfl | rfl | rfl <;> rfl
  ·intro m os dk hs x y;have hk:=@M4 ⟨true⟩ (sortWorldK MV 4 w g 0 m dk os) (hp _) (Le.refl _) x y _ (V3 x y);refine hk.2.mono fun en w' ⟨u,he,hx,hu⟩=>?_;subst he;subst hu;obtain⟨q,os',hw⟩:=@UC ⟨true⟩ _ _ rfl hx;exact⟨rfl,q,os',hw⟩
def Pf(l:List (Lf×List Int)):Option (List Lf):=Go.L.AU (Go.E.JE 48 l.length) (some (Pe (l.map Prod.fst)))
set_option maxRecDepth 10000 in
theorem V5(w:World)(H:PH)(hH:Le H (hp w)){v0:Value}{a0:List (Lf×List Int)}(h0:Sm Ji (.vec (.int .i64)) H v0 a0){r:List Lf}(h:Pf a0=some r):
  Ok Tryz.prog 136 [v0,.func (.func 137) #[] #[]] w (fun v w'=>Ext w w'∧∃ u0,v=u0∧C2 142 Q4 H w w' u0 r):=by
 obtain⟨b,h⟩:=Go.L.EN h;have hcap:∀ j,j≤a0.length→Go.E.JE 48 j:=fun j hj=>⟨Nat.le_trans (Nat.mul_le_mul_right _ hj) b.1,Nat.le_trans hj b.2⟩;clear b;obtain rfl:=Option.some.inj h;obtain⟨m,vs,rfl,hm,hl,_⟩:=h0;have hkl:(a0.map Prod.fst).length=vs.length:=by rw [List.length_map];exact hl
 have hkN:(a0.map Prod.fst).length=a0.length:=List.length_map _;generalize hK:a0.map Prod.fst=K at *;generalize hNN:a0.length=N at *;have hNlt:N<4611686018427387904:=by have:=hcap N (Nat.le_refl _);unfold Go.E.JE at this;omega
 refine A4 (n:=21) [(0,.map (some m)),(1,.func (.func 137) #[] #[])] Tryz.func136 rfl rfl rfl rfl rfl ?_;have hL:=AO.start w;refine A9 1 rfl<|A9 1 rfl ?_;obtain⟨af,ar,ag⟩:=CB Q4 H 142 hL;refine Bn (σ:=Value×List Value×List Lf) (fun⟨v,_,_⟩=>[(1,.func (.func 137) #[] #[]),(5,v)]) (fun⟨v,xs,l⟩ wr=>AO w [.row v 142 4 l.length xs] wr∧AJ Q4 (gz H w wr [.row v 142 4 l.length xs]) l xs∧l.Perm K) ?_ ?_
 ·refine Bk 1 rfl<|Y6 (enc:=Ji) (keys:=K) (vs:=vs) (N:=N) rfl Tryz.underlying139 (hH _ _ hm) rfl af fun w2 g ah t=>Ac<|A2 ?_
  refine Bw (σ:=List Nat×Value×List Value) (fun⟨_,v,_⟩=>[(1,.func (.func 137) #[] #[]),(5,v),(8,.pointer (some ⟨g,0,none⟩))])
   (fun⟨seen,v,xs⟩ wr=>AO w [.obj g (.mapIter (some m) N seen.toArray N),.row v 142 4 (seen.map fun j=>K.getD j default).length xs] wr∧AJ Q4 (gz H w wr [.obj g (.mapIter (some m) N seen.toArray N),.row v 142 4 (seen.map fun j=>K.getD j default).length xs]) (seen.map fun j=>K.getD j default) xs∧seen.Nodup∧∀ j∈seen,j<N)
   (fun⟨seen,_,_⟩=>N - seen.length) ([],.slice none 0 0,[]) (.cons rfl (.cons rfl (.cons rfl (Sub.nil _)))) ⟨ah,ag.mono (Ab hH t),List.nodup_nil,fun j hj=>by cases hj⟩ ?_
  rintro⟨seen,v,xs⟩ wr ⟨hLr,her,hnd,hlt⟩
  have hseen:seen.length≤N:=by
   exact Wr N seen hnd hlt
  refine Ak<|Aan (enc:=Ji) (keys:=K) (vs:=vs) (m:=m) (N:=N) 0 rfl rfl hLr rfl ((hH.trans hLr.arg) _ _ hm) hkl hkN ?_ ?_
  ·intro j a ha hj w3 p u ai;have hjN:j<N:=by have:=(List.getElem?_eq_some_iff.1 ha).1;omega
   refine AA 1 rfl<|A7<|Cy rfl<|Au<|Ao<|A2<|Ak<|Y7 (enc:=Ji) rfl rfl (p.at (i:=0) rfl) ai hkl ha<|Aq 1 rfl<|AG KS rfl rfl p fun w4 b4 aj z _=>Aj 0 rfl rfl rfl KS aj rfl rfl (AH rfl (AH rfl (AH rfl (AH rfl Cj)))) fun w5 s aa=>Ac ?_;refine Ar<|Aq 1 rfl<|Ae (AE 0 rfl Tryz.underlying142 rfl KS s rfl) rfl<|Bu (r:=Q4) (l:=[a]) rfl (fun _=>Y0 _ _ _ _ _) rfl (show 1≤9223372036854775807 by decide) hH s (.c4 ((V4 _ _ _).2 rfl) .nil) ?_;intro v6 w6 aw ak ab al;have am:=(((her.mono (Ab hH u)).mono (Ab hH z)).mono (Ab hH aa)).mono (Ab hH ab);refine Bq (r:=Q4) (l:=seen.map fun j=>K.getD j default) (m:=[a]) 2 rfl rfl Tryz.underlying196 KS rfl (by decide) rfl hH ak rfl am al (hcap _ ?_) ?_
   ·have k:=Wr N (seen++[j]) (List.nodup_append.2 ⟨hnd,List.pairwise_singleton _ j,fun x hx y hy=>by rw [List.mem_singleton] at hy;subst hy;exact fun e=>hj (e ▸ hx)⟩) (fun q hq=>by rcases List.mem_append.1 hq with h2 | h2;exact hlt q h2;rw [List.mem_singleton] at h2;subst h2;exact hjN)
    simpa using k
   intro v7 w7 d ao au ap;refine Aq 1 rfl<|AL<|A8 ?_
   have hmap:(seen++[j]).map (fun j=>K.getD j default)=(seen.map fun j=>K.getD j default)++[a]:=by
    rw [List.map_append,List.map_singleton];have:K.getD j default=a:=by rw [List.getD_eq_getElem?_getD,ha];rfl
    rw [this]
   have o:(seen++[j]).Nodup:=List.nodup_append.2 ⟨hnd,List.pairwise_singleton _ j,fun x hx y hy=>by rw [List.mem_singleton] at hy;subst hy;exact fun e=>hj (e ▸ hx)⟩;have c:=ao.AP (i:=0) rfl;have f:=ap.mono (Ab hH (Al (i:=0) rfl));refine AN (seen++[j],v7,d) (.cons rfl (.cons rfl (.cons rfl (Sub.nil _)))) ?_ ?_
   ·show AO w [.obj g (.mapIter (some m) N (seen++[j]).toArray N),.row v7 142 4 ((seen++[j]).map fun j=>K.getD j default).length d] w7∧AJ Q4 (gz H w w7 [.obj g (.mapIter (some m) N (seen++[j]).toArray N),.row v7 142 4 ((seen++[j]).map fun j=>K.getD j default).length d]) ((seen++[j]).map fun j=>K.getD j default) d∧_
    rw [hmap];refine⟨c,f,o,fun q hq=>?_⟩
    rcases List.mem_append.1 hq with h2 | h2
    ·exact hlt q h2
    ·rw [List.mem_singleton] at h2;subst h2;exact hjN
   ·show N - (seen++[j]).length<N - seen.length
    have k:=Wr N (seen++[j]) o (fun q hq=>by rcases List.mem_append.1 hq with h2 | h2;exact hlt q h2;rw [List.mem_singleton] at h2;subst h2;exact hjN);rw [List.length_append,List.length_singleton] at k;rw [List.length_append,List.length_singleton];omega
  ·intro hall;refine AA 1 rfl<|A7<|Cw rfl<|Br<|AD<|A5<|Bd ?_
   have hp:(seen.map fun j=>K.getD j default).Perm K:=by
    have k:seen.Perm (List.range N):=(List.perm_ext_iff_of_nodup hnd List.nodup_range).2 fun q=>⟨fun hq=>List.mem_range.2 (hlt q hq),fun hq=>hall q (List.mem_range.1 hq)⟩;have h2:=k.map (fun j=>K.getD j default)
    have h3:(List.range N).map (fun j=>K.getD j default)=K:=by
     apply List.ext_getElem?;intro q;rw [List.getElem?_map]
     by_cases hq:q<N
     ·rw [List.getElem?_range hq,List.getElem?_eq_getElem (by omega:q<K.length)];simp [List.getD_eq_getElem?_getD,List.getElem?_eq_getElem (by omega:q<K.length)]
     ·rw [List.getElem?_eq_none (by simpa using hq),List.getElem?_eq_none (by omega)];rfl
    rwa [h3] at h2
   exact A6 (v,xs,seen.map fun j=>K.getD j default) (.cons rfl (.cons rfl (Sub.nil _))) ⟨hLr.AP (i:=0) rfl,her.mono (Ab hH (Al (i:=0) rfl)),hp⟩
 ·rintro⟨v,xs,l⟩ wr ⟨hLr,her,hp⟩;have hlN:l.length=N:=by rw [hp.length_eq];omega
  refine Bk 2 rfl<|Aao (i:=0) rfl rfl hH hLr rfl her (by omega) fun w8 ax c av f=>Ac<|A9 2 rfl<|Ay<|Am rfl rfl ?_;have e:Pe l=Pe K:=Y8 Qo hp;rw [e] at c f;exact⟨c.ext,_,rfl,c.GQ hH (i:=0) rfl f⟩
end Go.Proofs.YtekmbcbgknmhiaaGreatDoor
end
noncomputable section
namespace Go.Proofs.YtekmbcbgknmhiaaGreatDoor
open Go Go.E Go.RowKit Go.L
abbrev GF(bm bi b:Nat)(i:Int)(l:List (Lf×List Int))(vs:List Value):List BG:=[.box bm [.map (some b)] 139,.box bi [.int .i64 i] 3,Ot Ji b l vs]
abbrev HY(l:List (Lf×List Int))(vs:List Value):List BG:=mT cwI 3 1 l vs
def JBu(bm bi b:Nat)(i:Int)(l:List (Lf×List Int))(R:List BG)(_:PH):Prop:=∃ vs:List Value,l.length=vs.length∧R=HAppend.hAppend (GF bm bi b i l vs) (HY l vs)
def KI(i:Int)(l:List (Lf×List Int))(x:Lf):Option (List (Lf×List Int)):=Go.L.AU (Go.E.JE 8 ((HP [] x l).length+1)) (some (Hq x (HP [] x l++[i]) l))
set_option maxRecDepth 10000 in
theorem Xf{f w:World}{H:PH}(hH:Le H (hp f)){O:List BG}{bm bi b:Nat}{i:Int}{l:List (Lf×List Int)}{vs:List Value}{x:Lf}(hL:AO f (HAppend.hAppend (HAppend.hAppend (GF bm bi b i l vs) O) (HY l vs)) w)(hn:l.length=vs.length){r:List (Lf×List Int)}(h:KI i l x=some r):
  Ok Tryz.prog 83 [Ji x,.pointer (some ⟨bm,0,none⟩),.pointer (some ⟨bi,0,none⟩)] w (fun u w'=>u=.tuple #[]∧∃ vs':List Value,r.length=vs'.length∧AO f (HAppend.hAppend (HAppend.hAppend (GF bm bi b i r vs') O) (HY r vs')) w'∧Le (fz w (HAppend.hAppend (HAppend.hAppend (GF bm bi b i l vs) O) (HY l vs))) (fz w' (HAppend.hAppend (HAppend.hAppend (GF bm bi b i r vs') O) (HY r vs')))):=by
 obtain⟨hcap,h⟩:=Go.L.EN h;obtain rfl:=Option.some.inj h;refine A4 (n:=12) [(0,Ji x),(1,.pointer (some ⟨bm,0,none⟩)),(2,.pointer (some ⟨bi,0,none⟩))] Tryz.func83 rfl rfl rfl rfl rfl<|Ak<|CK (t:=142) rfl rfl rfl hL fun w1 g a j _=>Ac<|Ar<|Ae (Ag 1 rfl Tryz.underlying139 rfl a rfl rfl) rfl<|Ae (AE 0 rfl Tryz.underlying142 rfl KS a rfl) rfl<|Ae (Ag 2 rfl Tryz.underlying3 rfl a rfl rfl) rfl<|Bu (r:=.int .i64) (l:=[i]) rfl (fun _=>Il _ _) rfl (show 1≤9223372036854775807 by decide) hH a (.c1 rfl .nil) fun v2 w2 af q m s=>Vt (A:=.box g [.string ⟨x.1.toArray⟩,.int .i64 x.2.1,.int .i64 x.2.2.1,.string ⟨x.2.2.2.toArray⟩] 142::HAppend.hAppend (GF bm bi b i l vs) O) (l:=l) (vs:=vs) (k:=x) (enc:=Ji) 3 rfl rfl Tryz.underlying139 Y1 Tryz.zeroValue58 rfl q rfl hn fun c w3 v y d=>Aq 1 rfl ?_;have aa:=s.mono (Ab hH d);refine Yf (A:=.box g [.string ⟨x.1.toArray⟩,.int .i64 x.2.1,.int .i64 x.2.2.1,.string ⟨x.2.2.2.toArray⟩] 142::HAppend.hAppend (GF bm bi b i (Dx x l) c) O) (l:=Dx x l) (vs:=c) (k:=x) (z:=i) (r:=.int .i64) (H:=H) AaU rfl rfl rfl Tryz.underlying58 Cc rfl (by decide) rfl hH y v aa (by rw [R4];exact hcap) ?_;intro v4 w4 T4 e ab o;rw [R4] at e
 refine Aq 1 rfl<|Ab0 (A:=.box g [.string ⟨x.1.toArray⟩,.int .i64 x.2.1,.int .i64 x.2.2.1,.string ⟨x.2.2.2.toArray⟩] 142::HAppend.hAppend (GF bm bi b i (Dx x l) c) O) (T:=T4) (k:=x) (l:=l) (vs:=c) 3 e rfl rfl rfl ab rfl fun ac w5 ad ae p=>AL<|Ju rfl ?_;refine⟨rfl,ac,ad,ae.AP (i:=0) rfl,((((j.trans m).trans d).trans o).trans p).trans (Al (i:=0) rfl)⟩
theorem Hb(bm bi b:Nat)(i:Int)(l:List (Lf×List Int))(vs:List Value)(O:List BG):(HAppend.hAppend (HAppend.hAppend (GF bm bi b i l vs) O) (HY l vs)).Perm (HAppend.hAppend O (HAppend.hAppend (GF bm bi b i l vs) (HY l vs))):=by
 rw [← List.append_assoc O];exact List.perm_append_comm.append_right _
theorem YB{a:World}{H:PH}(hH:Le H (hp a))(bm bi b:Nat)(i:Int):Cb Tryz.prog a H 83 [.pointer (some ⟨bm,0,none⟩),.pointer (some ⟨bi,0,none⟩)] (JBu bm bi b i) (KI i):=by
 constructor
 ·exact fun _ h=>h
 ·rintro w O R l l' x hL ⟨vs,hn,rfl⟩ h;have hc:=Xf hH (O:=O) (hL.perm (Hb bm bi b i l vs O)) hn h;refine⟨hc.1,hc.2.mono fun e w' ⟨u,hu,c,vs',h2,h3,d⟩=>⟨u,hu,c,_,h3.perm (Hb bm bi b i l' vs' O).symm,?_,vs',h2,rfl⟩⟩;rw [← Ig (Hb bm bi b i l vs O),← Ig (Hb bm bi b i l' vs' O)];exact d
theorem TD{a w:World}{H:PH}(hH:Le H (hp a)){O:List BG}{bm bi b:Nat}{i:Int}{l:List (Lf×List Int)}{vs:List Value}{a0:Go.L.Pv}{a1:List (List UInt8)}{va0_2 va0_3 va0_4 va1:Value}
  (hL:AO a (HAppend.hAppend (HAppend.hAppend (GF bm bi b i l vs) O) (HY l vs)) w) (c:AI .byte (gz H a w (HAppend.hAppend (HAppend.hAppend (GF bm bi b i l vs) O) (HY l vs))) va0_2 a0.f.2.2.1) (d:AI .st (gz H a w (HAppend.hAppend (HAppend.hAppend (GF bm bi b i l vs) O) (HY l vs))) va0_3 a0.f.2.2.2.1) (g:AI .tree (gz H a w (HAppend.hAppend (HAppend.hAppend (GF bm bi b i l vs) O) (HY l vs))) va0_4 a0.f.2.2.2.2) (j:AI .st (gz H a w (HAppend.hAppend (HAppend.hAppend (GF bm bi b i l vs) O) (HY l vs))) va1 a1)
  (hn:l.length=vs.length) {r:List (Lf×List Int)} (h:IF (KI i) a0 a1 l=some r) :
  Ok Tryz.prog 82 [.agg #[.int .i64 a0.f.1,.int .i64 a0.f.2.1,va0_2,va0_3,va0_4],va1,.func (.func 83) #[] #[.pointer (some ⟨bm,0,none⟩),.pointer (some ⟨bi,0,none⟩)]] w (fun u w'=>u=.tuple #[]∧∃ vs':List Value,r.length=vs'.length∧AO a (HAppend.hAppend (HAppend.hAppend (GF bm bi b i r vs') O) (HY r vs')) w'∧Le (fz w (HAppend.hAppend (HAppend.hAppend (GF bm bi b i l vs) O) (HY l vs))) (fz w' (HAppend.hAppend (HAppend.hAppend (GF bm bi b i r vs') O) (HY r vs')))):=by
 have hz:Le (gz H a w (HAppend.hAppend (HAppend.hAppend (GF bm bi b i l vs) O) (HY l vs))) (gz H a w (HAppend.hAppend O (HAppend.hAppend (GF bm bi b i l vs) (HY l vs)))):=Ab hH (by rw [Ig (Hb bm bi b i l vs O)];exact Le.refl _);have hc:=Q2 hH (YB hH bm bi b i) (O:=O) (hL.perm (Hb bm bi b i l vs O).symm) (c.mono hz) (d.mono hz) (g.mono hz) (j.mono hz) (s:=l) ⟨vs,hn,rfl⟩ h;refine⟨hc.1,hc.2.mono fun e w' ⟨u,hu,k,R',h2,h3,vs',m,n⟩=>?_⟩;subst n;refine⟨u,hu,k,vs',m,h2.perm (Hb bm bi b i r vs' O),?_⟩;rw [Ig (Hb bm bi b i l vs O),Ig (Hb bm bi b i r vs' O)];exact h3
end Go.Proofs.YtekmbcbgknmhiaaGreatDoor
end
noncomputable section
namespace Go.Proofs.YtekmbcbgknmhiaaGreatDoor
open Go Go.E Go.RowKit Go.L
set_option maxHeartbeats 1000000
set_option maxRecDepth 10000
open _root_.Go.Proofs.Tryz
def Ei(a1:Int):Option (AaK):=
 AU (BL ((0:Int) - (0:Int))) (AU (BL (a1 - ((0:Int) - (0:Int)))) (if(0:Int)<(a1 - ((0:Int) - (0:Int))) then AU (0<(a1 - ((0:Int) - (0:Int)))∧(a1 - ((0:Int) - (0:Int))) * 1≤281474976710656) (some (([]:AaK))) else some ([])))
def FI(_a0:AaK)(a1:Int):Option (AaK):=
 if a1<(0:Int) then none else(Ei a1)
theorem LK(w:World)(H:PH)(hH:Le H (hp w)){a0:AaK}{a1:Int}(_:AI .byte H (Aat) a0){r:AaK}(h:FI a0 a1=some r):
  Ok Tryz.prog 310 [Aat,No a1] w (fun v w'=>Ext w w'∧∃ x,v=x∧C2 5 .byte H w w' x (r)):=by
 refine A4 (n:=27) [(0,Aat),(1,No a1)] func310 rfl rfl rfl rfl rfl ?_;have hL:=AO.start w;refine A9 1 rfl<|Bn (σ:=Unit) (fun(_:Unit)=>[(0,Aat),(1,No a1)]) (fun(_:Unit) wr=>AO w [] wr∧(Ei a1)=some r) ?_ ?_
 ·refine A9 2 rfl<|AM rfl h (fun y h=>?_) (fun y h=>?_)
  ·refine Ar ?_
   cases h
  refine Au<|A6 () (Sub.of rfl) ⟨hL,h⟩
 rintro _ ac ⟨d,h⟩;refine A7<|Bk 2 rfl<|Ae (VU rfl Abe) rfl<|Aq 1 rfl<|Ae (Rc rfl Abe) rfl ?_;refine Az h fun g h=>?_;refine Ae (AK rfl rfl rfl g) rfl ?_;refine Az h fun j h=>?_;refine Ae (AK rfl rfl rfl j) rfl<|AA 1 rfl<|A9 2 rfl<|AM rfl h (fun l h=>?_) (fun l h=>?_)
 ·refine Ar<|Aq 2 rfl<|Ae (VU rfl Abe) rfl<|Ae (Rm rfl rfl Abe Lo) rfl<|Aq 1 rfl ?_;refine Az h fun ab h=>?_;obtain⟨z,o⟩:=Int.eq_ofNat_of_zero_le (show 0≤(a1 - ((0:Int) - (0:Int))) by omega);refine VV (k:=.i64) (m:=z) rfl (by rw [← o];rfl) Abe AaT Lo rfl rfl (by omega) (by omega) (by omega) fun f a c ad p q s t u=>Aq 1 rfl<|Ae (Rc rfl Abe) rfl<|Ae (XP rfl rfl Abe Lo) rfl ?_;obtain⟨b,aa⟩:=K7 (v:=.slice (some ⟨f,0,none⟩) 0 a) (e:=5) (sz:=1) (m:=0) (xs:=[]) d p ⟨rfl,.inr ⟨f,a,c,rfl,q,s,Nat.zero_le _,t,by rw [u,Nat.mul_one],rfl⟩⟩;refine Aq 1 rfl<|AL<|Ao<|A9 2 rfl<|Ay ?_
  cases h
  refine Am rfl rfl ?_;exact⟨b.ext,_,rfl,(b.GQ hH (i:=0) rfl .nil)⟩
 refine Au<|Ao<|A9 2 rfl<|Ay ?_
 cases h
 refine Am rfl rfl ?_;exact⟨d.ext,_,rfl,C2.nil⟩
def DK(a:AaK):Option (AaK):=
 some (a)
def D6(a0:List AaK):AaK×Int→Option ((AaK×Int) ⊕ (AaK)):=fun⟨b,a⟩=>
 if a<(a0.length:Int) then AU (0≤a∧a<(a0.length:Int)) (AU (Go.E.JE 1 (b.length+(a0.getD a.toNat default).length)) (AU (BL (a+(1:Int))) (some (Sum.inl ((b++a0.getD a.toNat default),(a+(1:Int))))))) else Option.map Sum.inr (DK b)
def F9(a0:List AaK)(s:AaK×Int):Option (AaK):=Go.L.run (D6 a0) s
def DL(a0:List AaK)(a:Int):Option (AaK):=
 Option.bind (FI ([]) a) (fun b=>(F9 a0) (b,(0:Int)))
def D7(a0:List AaK):Int×Int→Option ((Int×Int) ⊕ (AaK)):=fun⟨b,a⟩=>
 if a<(a0.length:Int) then AU (0≤a∧a<(a0.length:Int)) (AU (BL (b+((a0.getD a.toNat default).length:Int))) (if(b+((a0.getD a.toNat default).length:Int))<(0:Int) then none else AU (BL (a+(1:Int))) (some (Sum.inl ((b+((a0.getD a.toNat default).length:Int)),(a+(1:Int))))))) else Option.map Sum.inr ((DL a0) b)
def FA(a0:List AaK)(s:Int×Int):Option (AaK):=Go.L.run (D7 a0) s
def E4(a0:List AaK):Option (AaK):=
 (FA a0) ((0:Int),(0:Int))
theorem CO(w:World)(H:PH)(hH:Le H (hp w)){a0:List AaK}{e:Value}(o:AI (.vec .byte) H e (a0)){r:AaK}(h:E4 a0=some r):
  Ok Tryz.prog 249 [e] w (fun v w'=>Ext w w'∧∃ u0,v=u0∧C2 5 .byte H w w' u0 (r)):=by
 refine A4 (n:=36) [(0,e)] func249 rfl rfl rfl rfl rfl ?_;have hL:=AO.start w;refine A9 1 rfl<|A9 1 rfl<|Bn (σ:=Int) (fun j=>[(0,e),(3,No j)]) (fun j wr=>AO w [] wr∧(DL a0) j=some r) ?_ ?_
 ·refine Bk 1 rfl<|Ae (Bo rfl Ac3 o) rfl<|AA 1 rfl<|A2 ?_;obtain⟨y,h⟩:=AY h;refine Bw (σ:=Int×Int×Nat) (fun⟨c,b,n⟩=>[(0,e),(3,No c),(9,e),(10,No (a0.length:Int)),(11,No b)]) (fun⟨c,b,n⟩ wr=>AO w [] wr∧FT (D7 a0) n (c,b)=some r) (fun⟨c,b,n⟩=>n) ((0:Int),(0:Int),y) (Sub.of rfl) ⟨hL,h⟩ ?_;rintro⟨c,b,nn42⟩ a7 ⟨s,h⟩;obtain⟨y,bb,rfl,h,z⟩:=AX h;refine A9 1 rfl<|A7<|AM rfl h (fun al h=>?_) (fun al h=>?_)
  ·refine Au<|Ao<|A7<|A2<|Ak ?_;refine Az h fun aa h=>?_;refine Bb rfl rfl Ac3 Fw o b.toNat (EM aa) (AW aa) rfl ?_;rintro bc _ ⟨e46v0,rfl,e46h0⟩ am;refine Ae (Be rfl Abe rfl am (hH.trans s.arg)) rfl<|AA 1 rfl<|Bk 2 rfl<|Ae (Bo rfl Abe e46h0) rfl ?_;refine Az h fun an h=>?_;refine Ae (AK rfl rfl rfl an) rfl<|AA 1 rfl<|A9 2 rfl<|AM rfl h (fun ao h=>?_) (fun ao h=>?_)
   ·refine Ar ?_
    cases h
   refine Au<|A8<|Ao<|Ar ?_;refine Az h fun ap h=>?_;refine Ae (AK rfl rfl rfl ap) rfl<|Aq 1 rfl<|AL ?_;have h:=BV.again h z;refine AN ((c+((a0.getD b.toNat default).length:Int)),(b+(1:Int)),y) (Sub.of rfl) ⟨s,h⟩ (Nat.lt_succ_self _)
  refine Br<|AD<|A5 ?_;have h:=BV.out h z;refine Bd<|A6 c (Sub.of rfl) ⟨s,h⟩
 rintro j a8 ⟨t,h⟩;refine Bk 1 rfl ?_;refine Ax h fun a4 aq h=>?_;refine Bs rfl rfl t (LK _ _ (As hH t) (AI.nil _ _) aq) ?_;rintro ah bd ⟨_,rfl,ab⟩ ar ac ai;obtain⟨au,ac,ai,av⟩:=ab.take hH t ar;refine AA 1 rfl<|Bn (σ:=AaK×Value×(List Value)) (fun⟨q,p,k⟩=>[(6,p)]) (fun⟨q,p,k⟩ wr=>DZ w [.row (p) 5 1 (q).length (k)] wr fun Oz=>AJ .byte (gz H w wr Oz) (q) (k)∧DK q=some r) ?_ ?_
 ·refine Bk 1 rfl<|Ae (Bo rfl Ac3 o) rfl<|AA 1 rfl<|A2 ?_;obtain⟨ad,h⟩:=AY h;refine Bw (σ:=AaK×Int×Value×(List Value)×Nat) (fun⟨f,a,g,d,n⟩=>[(6,g),(25,e),(26,No (a0.length:Int)),(27,No a)]) (fun⟨f,a,g,d,n⟩ wr=>DZ w [.row (g) 5 1 (f).length (d)] wr fun Oz=>AJ .byte (gz H w wr Oz) (f) (d)∧FT (D6 a0) n (f,a)=some r) (fun⟨f,a,g,d,n⟩=>n) (a4,(0:Int),ah,au,ad) (Sub.of rfl) ⟨ac,av,h⟩ ?_;rintro⟨f,a,g,d,nn92⟩ a9 ⟨u,x,h⟩;obtain⟨ad,be,rfl,h,ae⟩:=AX h;refine A9 1 rfl<|A7<|AM rfl h (fun aw h=>?_) (fun aw h=>?_)
  ·refine Au<|Ao<|A7<|A2<|Ak ?_;refine Az h fun af h=>?_;refine Bb rfl rfl Ac3 Fw o a.toNat (EM af) (AW af) rfl ?_;rintro bf _ ⟨e96v0,rfl,e96h0⟩ ax;refine Ae (Be rfl Abe rfl ax (hH.trans u.arg)) rfl<|AA 1 rfl<|Ar<|Aq 2 rfl ?_;refine Az h fun ay h=>?_;refine Bq (r:=.byte) (l:=f) (m:=a0.getD a.toNat default) 0 rfl rfl Abe Lo rfl (by decide) rfl hH u rfl x (e96h0.mono (Ah hH)) ay fun a5 bg az a1 a6 a2=>Aq 1 rfl<|AL<|A8<|Ao<|Ar ?_;refine Az h fun aj h=>?_;refine Ae (AK rfl rfl rfl aj) rfl<|Aq 1 rfl<|AL ?_;have h:=BV.again h ae;refine AN ((f++a0.getD a.toNat default),(a+(1:Int)),a5,az,ad) (Sub.of rfl) ⟨a1,a2,h⟩ (Nat.lt_succ_self _)
  refine Br<|AD<|A5 ?_;have h:=BV.out h ae;refine Bd<|A6 (f,g,d) (Sub.of rfl) ⟨u,x,h⟩
 rintro⟨q,p,k⟩ ba ⟨ag,ak,h⟩;refine A9 2 rfl<|Ay ?_
 cases h
 refine Am rfl rfl ?_;exact⟨ag.ext,_,rfl,(ag.GQ hH (i:=0) rfl ak)⟩
def Is(a:AaK):Option (AaK):=
 some (a)
def HI(a0:List Int):AaK×Int→Option ((AaK×Int) ⊕ (AaK)):=fun⟨b,a⟩=>
 if a<(a0.length:Int) then AU (0≤a∧a<(a0.length:Int)) (Option.bind (DU (a0.getD a.toNat default)) (fun c=>AU (Go.E.JE 1 (b.length+c.length)) (AU (BL (a+(1:Int))) (some (Sum.inl ((b++c),(a+(1:Int)))))))) else Option.map Sum.inr (Is b)
def JO(a0:List Int)(s:AaK×Int):Option (AaK):=Go.L.run (HI a0) s
def Kc(a0:List Int):Option (AaK):=
 Option.bind (DU (a0.length:Int)) (fun a=>(JO a0) (a,(0:Int)))
theorem GG(w:World)(H:PH)(hH:Le H (hp w)){a0:List Int}{j:Value}(p:AI (.int .i64) H j (a0)){r:AaK}(h:Kc a0=some r):
  Ok Tryz.prog 250 [j,.func (.func 177) #[] #[]] w (fun v w'=>Ext w w'∧∃ u0,v=u0∧C2 5 .byte H w w' u0 (r)):=by
 refine A4 (n:=24) [(0,j),(1,.func (.func 177) #[] #[])] func250 rfl rfl rfl rfl rfl ?_;have hL:=AO.start w;refine A9 1 rfl<|Bk 1 rfl<|Ae (Bo rfl AaR p) rfl ?_;refine Ax h fun x1 ar h=>?_;refine Bs rfl rfl hL (BM _ _ (As hH hL) ar) ?_;rintro ae w2 ⟨_,rfl,z⟩ au ac af;obtain⟨av,ac,af,aw⟩:=z.take hH hL au;refine AA 1 rfl<|Bn (σ:=AaK×Value×(List Value)) (fun⟨o,k,e⟩=>[(5,k)]) (fun⟨o,k,e⟩ wr=>DZ w [.row (k) 5 1 (o).length (e)] wr fun Oz=>AJ .byte (gz H w wr Oz) (o) (e)∧Is o=some r) ?_ ?_
 ·refine Bk 1 rfl<|Ae (Bo rfl AaR p) rfl<|AA 1 rfl<|A2 ?_;obtain⟨q,h⟩:=AY h;refine Bw (σ:=AaK×Int×Value×(List Value)×Nat) (fun⟨c,a,d,b,n⟩=>[(1,.func (.func 177) #[] #[]),(5,d),(11,j),(12,No (a0.length:Int)),(13,No a)]) (fun⟨c,a,d,b,n⟩ wr=>DZ w [.row (d) 5 1 (c).length (b)] wr fun Oz=>AJ .byte (gz H w wr Oz) (c) (b)∧FT (HI a0) n (c,a)=some r) (fun⟨c,a,d,b,n⟩=>n) (x1,(0:Int),ae,av,q) (Sub.of rfl) ⟨ac,aw,h⟩ ?_;rintro⟨c,a,d,b,nn44⟩ a2 ⟨g,f,h⟩;obtain⟨q,a4,rfl,h,s⟩:=AX h;refine A9 1 rfl<|A7<|AM rfl h (fun ag h=>?_) (fun ag h=>?_)
  ·refine Au<|Ao<|A7<|A2<|Ak ?_;refine Az h fun t h=>?_;refine Bb rfl rfl AaR Cc p a.toNat (EM t) (AW t) rfl ?_;rintro a5 _ rfl ah;refine Ae (Be rfl AaT rfl ah (hH.trans g.arg)) rfl<|AA 1 rfl<|Ar<|Aq 3 rfl ?_;refine Ax h fun ad ai h=>?_;refine R1 rfl rfl rfl g (BM _ _ (As hH g) ai) ?_;rintro ay a6 ⟨_,rfl,u⟩ aj ak aa;have x:=u.CA hH g aj;refine Az h fun al h=>?_;have f:=f.mono (Ab hH aa);refine Bq (r:=.byte) (l:=c) (m:=ad) 0 rfl rfl Abe Lo rfl (by decide) rfl hH ak rfl f x al fun ax a7 am an az ao=>Aq 1 rfl<|AL<|A8<|Ao<|Ar ?_;refine Az h fun ap h=>?_;refine Ae (AK rfl rfl rfl ap) rfl<|Aq 1 rfl<|AL ?_;have h:=BV.again h s;refine AN ((c++ad),(a+(1:Int)),ax,am,q) (Sub.of rfl) ⟨an,ao,h⟩ (Nat.lt_succ_self _)
  refine Br<|AD<|A5 ?_;have h:=BV.out h s;refine Bd<|A6 (c,d,b) (Sub.of rfl) ⟨g,f,h⟩
 rintro⟨o,k,e⟩ a3 ⟨y,ab,h⟩;refine A9 2 rfl<|Ay ?_
 cases h
 refine Am rfl rfl ?_;exact⟨y.ext,_,rfl,(y.GQ hH (i:=0) rfl ab)⟩
def Jy(a:AaK):Option (AaK):=
 some (a)
def L4(a0:(AaK×Int×Int×AaK)×(List Int)):Option (AaK):=
 AU (a0.1.1.length≤9223372036854775807) (Option.bind (KY a0.1.1) (fun a=>Option.bind (DU a0.1.2.1) (fun b=>Option.bind (DU a0.1.2.2.1) (fun c=>AU (a0.1.2.2.2.length≤9223372036854775807) (Option.bind (KY a0.1.2.2.2) (fun d=>Option.bind (Kc a0.2) (fun e=>Option.bind (E4 ([a,b,c,d,e])) (fun f=>Jy f))))))))
theorem RH(w:World)(H:PH)(hH:Le H (hp w)){a0:(AaK×Int×Int×AaK)×(List Int)}{cx:Value}(b7:AI (.int .i64) H cx (a0.2)){r:AaK}(h:L4 a0=some r):
  Ok Tryz.prog 192 [.agg #[AaJ a0.1.1,No a0.1.2.1,No a0.1.2.2.1,AaJ a0.1.2.2.2,cx]] w (fun v w'=>Ext w w'∧∃ u0,v=u0∧C2 5 .byte H w w' u0 (r)):=by
 refine A4 (n:=26) [(0,.agg #[AaJ a0.1.1,No a0.1.2.1,No a0.1.2.2.1,AaJ a0.1.2.2.2,cx])] func192 rfl rfl rfl rfl rfl ?_;have hL:=AO.start w;refine Ak<|CK (t:=203) rfl rfl rfl hL fun w1 b1 iw j4 _=>AA 1 rfl<|Bn (σ:=AaK×Value×(List Value)) (fun⟨b8,a9,an⟩=>[(2,a9)]) (fun⟨b8,a9,an⟩ wr=>DZ w [.row (a9) 5 1 (b8).length (an),.box b1 [AaJ a0.1.1,No a0.1.2.1,No a0.1.2.2.1,AaJ a0.1.2.2.2,cx] 203] wr fun Oz=>AJ .byte (gz H w wr Oz) (b8) (an)∧Jy b8=some r) ?_ ?_
 ·refine Nl (.q 0 (.q 1 (.q 2 (.q 5 (.q 6 (.q 7 (.q 9 (.q 10 (.q 11 (.q 13 (.q 14 (.q 15 (.q 18 (.q 19 (.h2 3 (.h2 4 (.h2 8 (.h2 12 (.h 16 (.h 17 (.h 20 (.h 21 (.h 22 (.q 23 (.tail 24))))))) 16 (.h 12 (.h 17 (.h 20 (.h 21 (.h 22 (.q 23 (.tail 24)))))))) 16 (.h 8 (.h 12 (.h 17 (.h 20 (.h 21 (.h 22 (.q 23 (.tail 24))))))))) 16 (.h 4 (.h 8 (.h 12 (.h 17 (.h 20 (.h 21 (.h 22 (.q 23 (.tail 24)))))))))) 16 (.h 3 (.h 4 (.h 8 (.h 12 (.h 17 (.h 20 (.h 21 (.h 22 (.q 23 (.tail 24))))))))))))))))))))))))) mixed (by kernel_rfl) (fun j5 ha=>?_);have j:=iw.call ha;refine BH (Af rfl Ac9 rfl KS (by decide)) rfl rfl<|BH (Af rfl AaY rfl Fu (by decide)) rfl rfl<|BH (Ag 0 rfl Abb rfl j rfl rfl) rfl rfl<|BH (Af rfl Ac9 rfl KS (by decide)) rfl rfl<|BH (Af rfl AaY rfl Cc (by decide)) rfl rfl<|BH (Ag 0 rfl AaT rfl j rfl rfl) rfl rfl<|BH (Af rfl Ac9 rfl KS (by decide)) rfl rfl<|BH (Af rfl AaY rfl Cc (by decide)) rfl rfl<|BH (Ag 0 rfl AaT rfl j rfl rfl) rfl rfl<|BH (Af rfl Ac9 rfl KS (by decide)) rfl rfl<|BH (Af rfl AaY rfl Fu (by decide)) rfl rfl<|BH (Ag 0 rfl Abb rfl j rfl rfl) rfl rfl ?_;refine BH (Af rfl Ac9 rfl Sn (by decide)) rfl rfl ?_
  refine BH (Ag 0 rfl AaR rfl j rfl rfl) rfl rfl<|Uq ?_ ?_
  ·refine Az h fun cy h=>?_;refine R0 (H:=H) rfl rfl Abb Abe Ab9 rfl j cy fun j6 j7 jq ba ix bb=>Uq ?_ ?_
   ·refine Ax h fun am ao h=>?_;refine Ck rfl rfl rfl (fun h0 bc=>Fv _ _ (As hH (ba.call bc)) (bb.mono (Ab hH (AV ba bc))) ao) ?_;rintro h0 iy j8 bc fn ⟨_,rfl,fv⟩;have fo:=ba.call bc;have bd:=fo.call fn;have a:=fv.CA hH fo fn;refine Uq ?_ ?_
    ·refine Ax h fun u k h=>?_;refine Ck rfl rfl rfl (fun h1 be=>BM _ _ (As hH (bd.call be)) k) ?_;rintro h1 iz j9 be cz ⟨_,rfl,fw⟩;have c0:=bd.call be;have fc:=AV bd be;have bf:=c0.call cz;have fd:=AV c0 cz;have b:=fw.CA hH c0 cz;refine Uq ?_ ?_
     ·refine Ax h fun m c h=>?_;refine Ck rfl rfl rfl (fun h3 bg=>BM _ _ (As hH (bf.call bg)) c) ?_;rintro h3 i0 ka bg c2 ⟨_,rfl,fx⟩;have c3:=bf.call bg;have fe:=AV bf bg;have hb:=c3.call c2;have ff:=AV c3 c2;have x:=fx.CA hH c3 c2;refine Az h fun d h=>?_;refine R0 (H:=H) rfl rfl Abb Abe Ab9 rfl hb d ?_;intro kb kc jr bh b9 hc;refine Ax h fun o e h=>?_;refine Ck rfl rfl rfl (fun h4 ap=>Fv _ _ (As hH (bh.call ap)) (hc.mono (Ab hH (AV bh ap))) e) ?_;rintro h4 i1 kd ap c4 ⟨_,rfl,fy⟩;have c5:=bh.call ap;have ca:=AV bh ap;have c6:=c5.call c4;have cb:=AV c5 c4;have y:=fy.CA hH c5 c4;refine Ax h fun p f h=>?_;refine Ck rfl rfl rfl (fun h5 bi=>GG _ _ (As hH (c6.call bi)) (b7.mono (Ah hH)) f) ?_;rintro h5 i2 ke bi c7 ⟨_,rfl,fz⟩;have c8:=c6.call bi;have aq:=AV c6 bi;have hd:=c8.call c7;have ar:=AV c8 c7;have cs:=fz.CA hH c8 c7
      have a:=a.mono (Ab hH (fc.trans (fd.trans (fe.trans (ff.trans (b9.trans (ca.trans (cb.trans (aq.trans ar)))))))));have b:=b.mono (Ab hH (fe.trans (ff.trans (b9.trans (ca.trans (cb.trans (aq.trans ar)))))));have x:=x.mono (Ab hH (b9.trans (ca.trans (cb.trans (aq.trans ar)))));have y:=y.mono (Ab hH (aq.trans ar));refine Nr (r:=(.vec .byte)) (l:=[am,u,m,o,p]) rfl rfl (fun _=>OV _ a.one _ b.one _ x.one _ y.one _ cs.one _) rfl (show 5≤9223372036854775807 by decide) hH hd (.c1 ⟨_,rfl,a⟩ (.c1 ⟨_,rfl,b⟩ (.c1 ⟨_,rfl,x⟩ (.c1 ⟨_,rfl,y⟩ (.c1 ⟨_,rfl,cs⟩ .nil))))) ?_;intro kf kg js c9 i3 he;refine Ax h fun s g h=>?_;refine Ck rfl rfl rfl (fun h6 bj=>CO _ _ (As hH (c9.call bj)) (he.mono (Ab hH (AV c9 bj))) g) ?_;rintro h6 gm kh bj da ⟨_,rfl,f0⟩;have db:=c9.call bj;have dc:=db.call da;have gn:=AV db da;obtain⟨hf,dc,gn,dd⟩:=f0.take hH db da;refine CD 1 rfl<|BQ (fun ki fp=>?_);have hg:=dc.call fp;have go:=AV dc fp;refine AL ?_
      have dd:=dd.mono (Ab hH go);refine A6 (s,gm,hf) (Sub.of rfl) ⟨hg,dd,h⟩
     refine Ax h fun m c h=>?_;refine Az h fun d h=>?_;refine Ax h fun o e h=>?_;refine Ax h fun p f h=>?_;refine Ax h fun s g h=>?_;refine R0 (H:=H) rfl rfl Abb Abe Ab9 rfl bf d fun kj kk jt de fg df=>Ck rfl rfl rfl (fun h7 bk=>BM _ _ (As hH (de.call bk)) c) ?_;rintro h7 i4 kl bk dg ⟨_,rfl,f1⟩;have dh:=de.call bk;have cc:=AV de bk;have bl:=dh.call dg;have cd:=AV dh dg;have z:=f1.CA hH dh dg;have df:=df.mono (Ab hH (cc.trans cd));refine Ck rfl rfl rfl (fun h8 au=>Fv _ _ (As hH (bl.call au)) (df.mono (Ab hH (AV bl au))) e) ?_;rintro h8 i5 km au di ⟨_,rfl,f2⟩;have dj:=bl.call au;have ce:=AV bl au;have dk:=dj.call di;have cf:=AV dj di;have aa:=f2.CA hH dj di;refine Ck rfl rfl rfl (fun h9 bm=>GG _ _ (As hH (dk.call bm)) (b7.mono (Ah hH)) f) ?_;rintro h9 i6 kn bm dl ⟨_,rfl,f3⟩;have dm:=dk.call bm;have av:=AV dk bm;have hh:=dm.call dl;have aw:=AV dm dl;have ct:=f3.CA hH dm dl
     have a:=a.mono (Ab hH (fc.trans (fd.trans (fg.trans (cc.trans (cd.trans (ce.trans (cf.trans (av.trans aw)))))))));have b:=b.mono (Ab hH (fg.trans (cc.trans (cd.trans (ce.trans (cf.trans (av.trans aw)))))));have z:=z.mono (Ab hH (ce.trans (cf.trans (av.trans aw))));have aa:=aa.mono (Ab hH (av.trans aw));refine Nr (r:=(.vec .byte)) (l:=[am,u,m,o,p]) rfl rfl (fun _=>OV _ a.one _ b.one _ z.one _ aa.one _ ct.one _) rfl (show 5≤9223372036854775807 by decide) hH hh (.c1 ⟨_,rfl,a⟩ (.c1 ⟨_,rfl,b⟩ (.c1 ⟨_,rfl,z⟩ (.c1 ⟨_,rfl,aa⟩ (.c1 ⟨_,rfl,ct⟩ .nil))))) fun ko kp ju dn i7 hi=>Ck rfl rfl rfl (fun ia bn=>CO _ _ (As hH (dn.call bn)) (hi.mono (Ab hH (AV dn bn))) g) ?_;rintro ia gp kq bn dp ⟨_,rfl,f4⟩;have dq:=dn.call bn;have dr:=dq.call dp;have gq:=AV dq dp;obtain⟨hj,dr,gq,ds⟩:=f4.take hH dq dp;refine CD 1 rfl<|BQ (fun kr fq=>?_);have hk:=dr.call fq;have gr:=AV dr fq;refine AL ?_;have ds:=ds.mono (Ab hH gr)
     refine A6 (s,gp,hj) (Sub.of rfl) ⟨hk,ds,h⟩
    refine Ax h fun u k h=>?_;refine Ax h fun m c h=>?_;refine Az h fun d h=>?_;refine Ax h fun o e h=>?_;refine Ax h fun p f h=>?_;refine Ax h fun s g h=>?_;refine R0 (H:=H) rfl rfl Abb Abe Ab9 rfl bd d fun ks kt jv dt gs du=>Ck rfl rfl rfl (fun ib bo=>BM _ _ (As hH (dt.call bo)) k) ?_;rintro ib i8 ku bo dv ⟨_,rfl,f5⟩;have dw:=dt.call bo;have fh:=AV dt bo;have dx:=dw.call dv;have fi:=AV dw dv;have ab:=f5.CA hH dw dv;refine Ck rfl rfl rfl (fun ic bp=>BM _ _ (As hH (dx.call bp)) c) ?_;rintro ic i9 kv bp dy ⟨_,rfl,f6⟩;have dz:=dx.call bp;have cg:=AV dx bp;have bq:=dz.call dy;have ch:=AV dz dy;have ac:=f6.CA hH dz dy;have du:=du.mono (Ab hH (fh.trans (fi.trans (cg.trans ch))));refine Ck rfl rfl rfl (fun ie ax=>Fv _ _ (As hH (bq.call ax)) (du.mono (Ab hH (AV bq ax))) e) ?_;rintro ie ja kw ax d0 ⟨_,rfl,f7⟩;have d1:=bq.call ax;have ci:=AV bq ax;have d2:=d1.call d0;have cj:=AV d1 d0
    have ad:=f7.CA hH d1 d0;refine Ck rfl rfl rfl (fun ig br=>GG _ _ (As hH (d2.call br)) (b7.mono (Ah hH)) f) ?_;rintro ig jb kx br d3 ⟨_,rfl,f8⟩;have d4:=d2.call br;have ay:=AV d2 br;have hl:=d4.call d3;have az:=AV d4 d3;have cu:=f8.CA hH d4 d3;have a:=a.mono (Ab hH (gs.trans (fh.trans (fi.trans (cg.trans (ch.trans (ci.trans (cj.trans (ay.trans az)))))))));have ab:=ab.mono (Ab hH (cg.trans (ch.trans (ci.trans (cj.trans (ay.trans az))))));have ac:=ac.mono (Ab hH (ci.trans (cj.trans (ay.trans az))));have ad:=ad.mono (Ab hH (ay.trans az));refine Nr (r:=(.vec .byte)) (l:=[am,u,m,o,p]) rfl rfl (fun _=>OV _ a.one _ ab.one _ ac.one _ ad.one _ cu.one _) rfl (show 5≤9223372036854775807 by decide) hH hl (.c1 ⟨_,rfl,a⟩ (.c1 ⟨_,rfl,ab⟩ (.c1 ⟨_,rfl,ac⟩ (.c1 ⟨_,rfl,ad⟩ (.c1 ⟨_,rfl,cu⟩ .nil))))) fun ky kz jw d5 jc hm=>Ck rfl rfl rfl (fun ih bs=>CO _ _ (As hH (d5.call bs)) (hm.mono (Ab hH (AV d5 bs))) g) ?_;rintro ih gt k0 bs d6 ⟨_,rfl,f9⟩
    have d7:=d5.call bs;have d8:=d7.call d6;have gu:=AV d7 d6;obtain⟨hn,d8,gu,d9⟩:=f9.take hH d7 d6;refine CD 1 rfl<|BQ (fun k1 fr=>?_);have ho:=d8.call fr;have gv:=AV d8 fr;refine AL ?_;have d9:=d9.mono (Ab hH gv);refine A6 (s,gt,hn) (Sub.of rfl) ⟨ho,d9,h⟩
   refine Ax h fun am ao h=>?_;refine Ax h fun u k h=>?_;refine Ax h fun m c h=>?_;refine Az h fun d h=>?_;refine Ax h fun o e h=>?_;refine Ax h fun p f h=>?_;refine Ax h fun s g h=>?_;refine R0 (H:=H) rfl rfl Abb Abe Ab9 rfl ba d ?_;intro k2 k3 jx bt gw ea;have bb:=bb.mono (Ab hH gw);refine Ck rfl rfl rfl (fun ii a1=>Fv _ _ (As hH (bt.call a1)) (bb.mono (Ab hH (AV bt a1))) ao) ?_;rintro ii jd k4 a1 eb ⟨_,rfl,ga⟩;have ec:=bt.call a1;have gx:=AV bt a1;have ed:=ec.call eb;have gy:=AV ec eb;have ae:=ga.CA hH ec eb;refine Ck rfl rfl rfl (fun ij bu=>BM _ _ (As hH (ed.call bu)) k) ?_;rintro ij je k5 bu ee ⟨_,rfl,gb⟩;have ef:=ed.call bu;have fj:=AV ed bu;have eg:=ef.call ee;have fk:=AV ef ee;have af:=gb.CA hH ef ee;refine Ck rfl rfl rfl (fun ik bv=>BM _ _ (As hH (eg.call bv)) c) ?_;rintro ik jf k6 bv eh ⟨_,rfl,gc⟩;have ei:=eg.call bv;have ck:=AV eg bv;have bw:=ei.call eh;have cl:=AV ei eh
   have ag:=gc.CA hH ei eh;have ea:=ea.mono (Ab hH (gx.trans (gy.trans (fj.trans (fk.trans (ck.trans cl))))));refine Ck rfl rfl rfl (fun il a2=>Fv _ _ (As hH (bw.call a2)) (ea.mono (Ab hH (AV bw a2))) e) ?_;rintro il jg k7 a2 ej ⟨_,rfl,gd⟩;have ek:=bw.call a2;have cm:=AV bw a2;have el:=ek.call ej;have cn:=AV ek ej;have ah:=gd.CA hH ek ej;refine Ck rfl rfl rfl (fun im bx=>GG _ _ (As hH (el.call bx)) (b7.mono (Ah hH)) f) ?_;rintro im jh k8 bx em ⟨_,rfl,ge⟩;have en:=el.call bx;have a3:=AV el bx;have hq:=en.call em;have a4:=AV en em;have cv:=ge.CA hH en em;have ae:=ae.mono (Ab hH (fj.trans (fk.trans (ck.trans (cl.trans (cm.trans (cn.trans (a3.trans a4))))))));have af:=af.mono (Ab hH (ck.trans (cl.trans (cm.trans (cn.trans (a3.trans a4))))));have ag:=ag.mono (Ab hH (cm.trans (cn.trans (a3.trans a4))));have ah:=ah.mono (Ab hH (a3.trans a4))
   refine Nr (r:=(.vec .byte)) (l:=[am,u,m,o,p]) rfl rfl (fun _=>OV _ ae.one _ af.one _ ag.one _ ah.one _ cv.one _) rfl (show 5≤9223372036854775807 by decide) hH hq (.c1 ⟨_,rfl,ae⟩ (.c1 ⟨_,rfl,af⟩ (.c1 ⟨_,rfl,ag⟩ (.c1 ⟨_,rfl,ah⟩ (.c1 ⟨_,rfl,cv⟩ .nil))))) fun k9 la jy eo ji hr=>Ck rfl rfl rfl (fun io bz=>CO _ _ (As hH (eo.call bz)) (hr.mono (Ab hH (AV eo bz))) g) ?_;rintro io g0 lb bz ep ⟨_,rfl,gf⟩;have eq:=eo.call bz;have er:=eq.call ep;have g1:=AV eq ep;obtain⟨hs,er,g1,es⟩:=gf.take hH eq ep;refine CD 1 rfl<|BQ (fun lc fs=>?_);have ht:=er.call fs;have g2:=AV er fs;refine AL ?_;have es:=es.mono (Ab hH g2);refine A6 (s,g0,hs) (Sub.of rfl) ⟨ht,es,h⟩
  refine Az h fun cy h=>?_;refine Ax h fun am ao h=>?_;refine Ax h fun u k h=>?_;refine Ax h fun m c h=>?_;refine Az h fun d h=>?_;refine Ax h fun o e h=>?_;refine Ax h fun p f h=>?_;refine Ax h fun s g h=>?_;refine R0 (H:=H) rfl rfl Abb Abe Ab9 rfl j d fun ld le jz hu jj et=>R0 (H:=H) rfl rfl Abb Abe Ab9 rfl hu cy fun lf lg j0 b0 g3 hv=>Ck rfl rfl rfl (fun ip a5=>Fv _ _ (As hH (b0.call a5)) (hv.mono (Ab hH (AV b0 a5))) ao) ?_;rintro ip jk lh a5 eu ⟨_,rfl,gg⟩;have ev:=b0.call a5;have g4:=AV b0 a5;have ew:=ev.call eu;have g5:=AV ev eu;have ai:=gg.CA hH ev eu;refine Ck rfl rfl rfl (fun iq b2=>BM _ _ (As hH (ew.call b2)) k) ?_;rintro iq jl li b2 ex ⟨_,rfl,gh⟩;have ey:=ew.call b2;have fl:=AV ew b2;have ez:=ey.call ex;have fm:=AV ey ex;have aj:=gh.CA hH ey ex;refine Ck rfl rfl rfl (fun ir b3=>BM _ _ (As hH (ez.call b3)) c) ?_;rintro ir jm lj b3 e0 ⟨_,rfl,gi⟩;have e1:=ez.call b3
  have co:=AV ez b3;have b4:=e1.call e0;have cp:=AV e1 e0;have ak:=gi.CA hH e1 e0;have et:=et.mono (Ab hH (g3.trans (g4.trans (g5.trans (fl.trans (fm.trans (co.trans cp)))))));refine Ck rfl rfl rfl (fun is a6=>Fv _ _ (As hH (b4.call a6)) (et.mono (Ab hH (AV b4 a6))) e) ?_;rintro is jn lk a6 e2 ⟨_,rfl,gj⟩;have e3:=b4.call a6;have cq:=AV b4 a6;have e4:=e3.call e2;have cr:=AV e3 e2;have al:=gj.CA hH e3 e2;refine Ck rfl rfl rfl (fun it b5=>GG _ _ (As hH (e4.call b5)) (b7.mono (Ah hH)) f) ?_;rintro it jo ll b5 e5 ⟨_,rfl,gk⟩;have e6:=e4.call b5;have a7:=AV e4 b5;have hw:=e6.call e5;have a8:=AV e6 e5;have cw:=gk.CA hH e6 e5;have ai:=ai.mono (Ab hH (fl.trans (fm.trans (co.trans (cp.trans (cq.trans (cr.trans (a7.trans a8))))))));have aj:=aj.mono (Ab hH (co.trans (cp.trans (cq.trans (cr.trans (a7.trans a8))))));have ak:=ak.mono (Ab hH (cq.trans (cr.trans (a7.trans a8))));have al:=al.mono (Ab hH (a7.trans a8))
  refine Nr (r:=(.vec .byte)) (l:=[am,u,m,o,p]) rfl rfl (fun _=>OV _ ai.one _ aj.one _ ak.one _ al.one _ cw.one _) rfl (show 5≤9223372036854775807 by decide) hH hw (.c1 ⟨_,rfl,ai⟩ (.c1 ⟨_,rfl,aj⟩ (.c1 ⟨_,rfl,ak⟩ (.c1 ⟨_,rfl,al⟩ (.c1 ⟨_,rfl,cw⟩ .nil))))) fun lm ln j1 e7 jp hx=>Ck rfl rfl rfl (fun iu b6=>CO _ _ (As hH (e7.call b6)) (hx.mono (Ab hH (AV e7 b6))) g) ?_;rintro iu g6 lo b6 e8 ⟨_,rfl,gl⟩;have e9:=e7.call b6;have fa:=e9.call e8;have g7:=AV e9 e8;obtain⟨hy,fa,g7,fb⟩:=gl.take hH e9 e8;refine CD 1 rfl<|BQ (fun lp ft=>?_);have hz:=fa.call ft;have g8:=AV fa ft;refine AL ?_;have fb:=fb.mono (Ab hH g8);refine A6 (s,g6,hy) (Sub.of rfl) ⟨hz,fb,h⟩
 rintro⟨b8,a9,an⟩ j2 ⟨fu,g9,h⟩;refine Ay ?_
 cases h
 refine Am rfl rfl ?_;exact⟨fu.ext,_,rfl,(fu.GQ hH (i:=0) rfl g9)⟩
def Jz(a:AaK):Option (AaK):=
 some (a)
def IT(a0:List ((AaK×Int×Int×AaK)×(List Int))):AaK×Int→Option ((AaK×Int) ⊕ (AaK)):=fun⟨b,a⟩=>
 if a<(a0.length:Int) then AU (0≤a∧a<(a0.length:Int)) (Option.bind (L4 ((((a0.getD a.toNat default).1).1,((a0.getD a.toNat default).1).2.1,((a0.getD a.toNat default).1).2.2.1,((a0.getD a.toNat default).1).2.2.2),(a0.getD a.toNat default).2)) (fun c=>AU (Go.E.JE 1 (b.length+c.length)) (AU (BL (a+(1:Int))) (some (Sum.inl ((b++c),(a+(1:Int)))))))) else Option.map Sum.inr (Jz b)
def Lb(a0:List ((AaK×Int×Int×AaK)×(List Int)))(s:AaK×Int):Option (AaK):=Go.L.run (IT a0) s
def L5(a0:List ((AaK×Int×Int×AaK)×(List Int))):Option (AaK):=
 Option.bind (DU (a0.length:Int)) (fun a=>(Lb a0) (a,(0:Int)))
theorem RI(w:World)(H:PH)(hH:Le H (hp w)){a0:List ((AaK×Int×Int×AaK)×(List Int))}{g:Value}(p:AI (.pair (.pair .st (.pair (.int .i64) (.pair (.int .i64) .st))) (.vec (.int .i64))) H g (a0)){r:AaK}(h:L5 a0=some r):
  Ok Tryz.prog 191 [g,.func (.func 192) #[] #[]] w (fun v w'=>Ext w w'∧∃ u0,v=u0∧C2 5 .byte H w w' u0 (r)):=by
 refine A4 (n:=24) [(0,g),(1,.func (.func 192) #[] #[])] func191 rfl rfl rfl rfl rfl ?_;have hL:=AO.start w;refine A9 1 rfl<|Bk 1 rfl<|Ae (Bo rfl AcA p) rfl ?_;refine Ax h fun x1 ay h=>?_;refine Bs rfl rfl hL (BM _ _ (As hH hL) ay) ?_;rintro ai w2 ⟨_,rfl,ab⟩ az ag aj;obtain⟨a1,ag,aj,a2⟩:=ab.take hH hL az;refine AA 1 rfl<|Bn (σ:=AaK×Value×(List Value)) (fun⟨o,j,e⟩=>[(5,j)]) (fun⟨o,j,e⟩ wr=>DZ w [.row (j) 5 1 (o).length (e)] wr fun Oz=>AJ .byte (gz H w wr Oz) (o) (e)∧Jz o=some r) ?_ ?_
 ·refine Bk 1 rfl<|Ae (Bo rfl AcA p) rfl<|AA 1 rfl<|A2 ?_;obtain⟨t,h⟩:=AY h;refine Bw (σ:=AaK×Int×Value×(List Value)×Nat) (fun⟨c,a,d,b,n⟩=>[(1,.func (.func 192) #[] #[]),(5,d),(11,g),(12,No (a0.length:Int)),(13,No a)]) (fun⟨c,a,d,b,n⟩ wr=>DZ w [.row (d) 5 1 (c).length (b)] wr fun Oz=>AJ .byte (gz H w wr Oz) (c) (b)∧FT (IT a0) n (c,a)=some r) (fun⟨c,a,d,b,n⟩=>n) (x1,(0:Int),ai,a1,t) (Sub.of rfl) ⟨ag,a2,h⟩ ?_;rintro⟨c,a,d,b,nn50⟩ a7 ⟨q,f,h⟩;obtain⟨t,a9,rfl,h,u⟩:=AX h;refine A9 1 rfl<|A7<|AM rfl h (fun ak h=>?_) (fun ak h=>?_)
  ·refine Au<|Ao<|A7<|A2<|Ak ?_;refine Az h fun x h=>?_;refine Bb rfl rfl AcA SK p a.toNat (EM x) (AW x) rfl ?_;rintro ba _ ⟨_,_,rfl,⟨_,_,rfl,rfl,⟨_,_,rfl,rfl,⟨_,_,rfl,rfl,rfl⟩⟩⟩,⟨e54v4,rfl,e54h4⟩⟩ al;refine Ae (C1 rfl Ac9 rfl SK al (hH.trans q.arg)) rfl<|AG SK rfl rfl q fun bb bc am ac _=>Aj 0 rfl rfl rfl SK am rfl rfl (AH rfl (AH rfl (AH rfl (AH rfl (AH e54h4.one Cj))))) fun bd k ad=>Ac<|Ar<|Aq 2 rfl<|Ae (AE 0 rfl Ac9 rfl SK k rfl) rfl ?_;refine Ax h fun ah an h=>?_;refine R1 rfl rfl rfl k (RH (a0:=((((a0.getD a.toNat default).1).1,((a0.getD a.toNat default).1).2.1,((a0.getD a.toNat default).1).2.2.1,((a0.getD a.toNat default).1).2.2.2),(a0.getD a.toNat default).2)) _ _ (As hH k) (e54h4.mono (Ah hH)) an) ?_;rintro a4 be ⟨_,rfl,y⟩ ao ap ae;have z:=y.CA hH k ao;refine Az h fun aq h=>?_;have f:=f.mono (Ab hH (ac.trans (ad.trans ae)));refine Bq (r:=.byte) (l:=c) (m:=ah) 1 rfl rfl Abe Lo rfl (by decide) rfl hH ap rfl f z aq fun a3 bf ar au a5 s=>Aq 1 rfl<|AL ?_
   refine A8<|Ao<|Ar ?_;refine Az h fun av h=>?_;refine Ae (AK rfl rfl rfl av) rfl<|Aq 1 rfl<|AL ?_;have aw:=au.AP (i:=0) rfl;have h:=BV.again h u;have s:=s.mono (Ab hH (Al (i:=0) rfl));refine AN ((c++ah),(a+(1:Int)),a3,ar,t) (Sub.of rfl) ⟨aw,s,h⟩ (Nat.lt_succ_self _)
  refine Br<|AD<|A5 ?_;have h:=BV.out h u;refine Bd<|A6 (c,d,b) (Sub.of rfl) ⟨q,f,h⟩
 rintro⟨o,j,e⟩ a8 ⟨aa,af,h⟩;refine A9 2 rfl<|Ay ?_
 cases h
 refine Am rfl rfl ?_;exact⟨aa.ext,_,rfl,(aa.GQ hH (i:=0) rfl af)⟩
def Hc(a0:Int×(List ((AaK×Int×Int×AaK)×(List Int)))):Option (AaK):=
 Option.bind (DU a0.1) (fun a=>Option.bind (L5 a0.2) (fun b=>AU (Go.E.JE 1 (a.length+b.length)) (some ((a++b)))))
theorem MW(w:World)(H:PH)(hH:Le H (hp w)){a0:Int×(List ((AaK×Int×Int×AaK)×(List Int)))}{c:Value}(ac:AI (.pair (.pair .st (.pair (.int .i64) (.pair (.int .i64) .st))) (.vec (.int .i64))) H c (a0.2)){r:AaK}(h:Hc a0=some r):
  Ok Tryz.prog 141 [.agg #[No a0.1,c]] w (fun v w'=>Ext w w'∧∃ u0,v=u0∧C2 5 .byte H w w' u0 (r)):=by
 refine A4 (n:=10) [(0,.agg #[No a0.1,c])] func141 rfl rfl rfl rfl rfl ?_;have hL:=AO.start w;refine Ak<|CK (t:=49) rfl rfl rfl hL fun w1 b1 aj ap _=>AA 1 rfl<|EH (.q 0 (.q 1 (.q 3 (.q 4 (.h 2 (.h 5 (.tail 6))))))) mixed (by kernel_rfl) (fun w2 ak=>?_);have e:=aj.call ak;refine BH (Af rfl AcB rfl Cc (by decide)) rfl rfl<|BH (Ag 0 rfl AaT rfl e rfl rfl) rfl rfl<|BH (Af rfl AcB rfl ZS (by decide)) rfl rfl<|BH (Ag 0 rfl AcA rfl e rfl rfl) rfl rfl ?_;refine Ax h fun x4 al h=>?_;refine Ck rfl rfl rfl (fun w6 j=>BM _ _ (As hH (e.call j)) al) ?_;rintro w6 au w5 j k ⟨_,rfl,y⟩;have o:=e.call j;have f:=o.call k;have ad:=AV o k;obtain⟨ay,f,ad,p⟩:=y.take hH o k;refine Ax h fun x8 am h=>?_;refine Ck rfl rfl rfl (fun an a=>RI _ _ (As hH (f.call a)) (ac.mono (Ah hH)) am) ?_;rintro an aw w9 a s ⟨_,rfl,z⟩;have d:=f.call a;have aa:=AV f a;have ab:=d.call s;have ae:=AV d s;have b:=z.CA hH d s;refine BQ (fun az u=>?_);have af:=ab.call u;have g:=AV ab u;refine Az h fun ag h=>?_;have p:=p.mono (Ab hH (aa.trans (ae.trans g)))
 have b:=b.mono (Ab hH g);refine Bq (r:=.byte) (l:=x4) (m:=x8) 0 rfl rfl Abe Lo rfl (by decide) rfl hH af rfl p b ag fun a1 a2 ax x ao ah=>AA 1 rfl<|Ay ?_
 cases h
 refine Am rfl rfl ?_;exact⟨x.ext,_,rfl,(x.GQ hH (i:=0) rfl ah)⟩
def Ht(a0:Int)(a:List ((AaK×Int×Int×AaK)×(List Int))):Option ((Int×(List ((AaK×Int×Int×AaK)×(List Int))))×(Int×Int)):=
 Option.bind (Hc (a0,a)) (fun b=>if(16384:Int)<(b.length:Int) then none else some ((a0,a),((0:Int),(0:Int))))
def GH(a0:Int)(a1:List ((AaK×Int×Int×AaK)×(List Int)))(b:(List (AaK×Int×Int×AaK))):(List ((AaK×Int×Int×AaK)×(List Int)))×Int→Option (((List ((AaK×Int×Int×AaK)×(List Int)))×Int) ⊕ ((Int×(List ((AaK×Int×Int×AaK)×(List Int))))×(Int×Int))):=fun⟨d,a⟩=>
 if a<(b.length:Int) then AU (0≤a∧a<(b.length:Int)) (Option.bind (Ew (HP [] ((b.getD a.toNat default).1,(b.getD a.toNat default).2.1,(b.getD a.toNat default).2.2.1,(b.getD a.toNat default).2.2.2) a1)) (fun c=>AU (c.length<4611686018427387904) (AU ((N5 c).length≤9223372036854775807) (AU (Go.E.JE 72 (d.length+([(((b.getD a.toNat default).1,(b.getD a.toNat default).2.1,(b.getD a.toNat default).2.2.1,(b.getD a.toNat default).2.2.2),(Lib.compact (N5 c)))]).length)) (AU (BL (a+(1:Int))) (some (Sum.inl ((d++[(((b.getD a.toNat default).1,(b.getD a.toNat default).2.1,(b.getD a.toNat default).2.2.1,(b.getD a.toNat default).2.2.2),(Lib.compact (N5 c)))]),(a+(1:Int)))))))))) else Option.map Sum.inr ((Ht a0) d)
def Kv(a0:Int)(a1:List ((AaK×Int×Int×AaK)×(List Int)))(a:(List (AaK×Int×Int×AaK)))(s:(List ((AaK×Int×Int×AaK)×(List Int)))×Int):Option ((Int×(List ((AaK×Int×Int×AaK)×(List Int))))×(Int×Int)):=Go.L.run (GH a0 a1 a) s
def KC(a0:Int)(a1:List ((AaK×Int×Int×AaK)×(List Int))):Option ((Int×(List ((AaK×Int×Int×AaK)×(List Int))))×(Int×Int)):=
 Option.bind (Pf a1) (fun a=>(Kv a0 a1 a) (([]:List ((AaK×Int×Int×AaK)×(List Int))),(0:Int)))
theorem Q5(w:World)(H:PH)(hH:Le H (hp w)){a0:Int}{a1:List ((AaK×Int×Int×AaK)×(List Int))}{af:Value}(a8:Sm Ji (.vec (.int .i64)) H (af) (a1)){r:(Int×(List ((AaK×Int×Int×AaK)×(List Int))))×(Int×Int)}(h:KC a0 a1=some r):
  Ok Tryz.prog 84 [No a0,af] w (fun v w'=>Ext w w'∧∃ u0,v=.tuple #[.agg #[No r.1.1,u0],.agg #[No r.2.1,No r.2.2]]∧C2 203 (.pair (.pair .st (.pair (.int .i64) (.pair (.int .i64) .st))) (.vec (.int .i64))) H w w' u0 (r.1.2)):=by
 refine A4 (n:=43) [(0,No a0),(1,af)] func84 rfl rfl rfl rfl rfl ?_;have hL:=AO.start w;refine Ak<|AG Qw rfl rfl hL fun w1 b1 cj cs _=>AG AR rfl rfl cj fun w2 b2 ck ct _=>Ac<|Bk 1 rfl<|Ae (AZ rfl (fun _=>ZX _ _)) rfl<|AG Qw rfl rfl ck fun w3 b3 cl cu _=>Aj 0 rfl rfl rfl Qw cl rfl rfl (AH rfl (AH rfl Cj)) fun w4 a9 cv=>Ac<|Bn (σ:=(List ((AaK×Int×Int×AaK)×(List Int)))×Value×(List Value)) (fun⟨ae,ag,aa⟩=>[(4,(AaH b1)),(5,(AaH b2)),(6,(AaH b3))]) (fun⟨ae,ag,aa⟩ wr=>DZ w [.row (ag) 203 5 (ae).length (aa),.box b3 [No a0,ag] 49,.box b2 [No (0:Int),No (0:Int)] 28,.box b1 [No (0:Int),Aat] 49] wr fun Oz=>AJ (.pair (.pair .st (.pair (.int .i64) (.pair (.int .i64) .st))) (.vec (.int .i64))) (gz H w wr Oz) (ae) (aa)∧(Ht a0) ae=some r) ?_ ?_
 ·refine Bk 1 rfl ?_;refine Ax h fun b ce h=>?_;refine Bs rfl rfl a9 (V5 _ _ (As hH a9) (a8.mono (Ah hH)) ce) ?_;rintro av dh ⟨_,rfl,ba⟩ cf cg cn;have t:=ba.CA hH a9 cf;refine Ae (Bo rfl AcC t) rfl<|AA 1 rfl<|A2 ?_;obtain⟨bl,bb,bm⟩:=CB (.pair (.pair .st (.pair (.int .i64) (.pair (.int .i64) .st))) (.vec (.int .i64))) H 203 cg;obtain⟨au,h⟩:=AY h;have t:=t.mono (Ab hH bb)
  refine Bw (σ:=(List ((AaK×Int×Int×AaK)×(List Int)))×Int×Value×(List Value)×Nat) (fun⟨g,a,d,e,n⟩=>[(1,af),(4,(AaH b1)),(5,(AaH b2)),(6,(AaH b3)),(13,av),(14,No (b.length:Int)),(15,No a)]) (fun⟨g,a,d,e,n⟩ wr=>DZ w [.row (d) 203 5 (g).length (e),.box b3 [No a0,d] 49,.box b2 [No (0:Int),No (0:Int)] 28,.box b1 [No (0:Int),Aat] 49] wr fun Oz=>AI (.pair .st (.pair (.int .i64) (.pair (.int .i64) .st))) (gz H w wr Oz) (av) (b)∧AJ (.pair (.pair .st (.pair (.int .i64) (.pair (.int .i64) .st))) (.vec (.int .i64))) (gz H w wr Oz) (g) (e)∧FT (GH a0 a1 b) n (g,a)=some r) (fun⟨g,a,d,e,n⟩=>n) (([]:List ((AaK×Int×Int×AaK)×(List Int))),(0:Int),Aat,[],au) (Sub.of rfl) ⟨bl,t,bm,h⟩ ?_;rintro⟨g,a,d,e,nn107⟩ co ⟨ah,p,u,h⟩;obtain⟨au,cw,rfl,h,aw⟩:=AX h;refine A9 1 rfl<|A7<|AM rfl h (fun bn h=>?_) (fun bn h=>?_)
  ·refine Au<|Ao<|A7<|A2<|Ak ?_;refine Az h fun ax h=>?_;refine Bb rfl rfl AcC KS p a.toNat (EM ax) (AW ax) rfl ?_;rintro cx _ ⟨_,_,rfl,rfl,⟨_,_,rfl,rfl,⟨_,_,rfl,rfl,rfl⟩⟩⟩ bo;refine Ae (C1 rfl AaY rfl KS bo (As hH ah)) rfl<|AG KS rfl rfl ah fun cy bc bp ao _=>Aj 0 rfl rfl rfl KS bp rfl rfl (AH rfl (AH rfl (AH rfl (AH rfl Cj)))) fun cz x ap=>Ac<|Bk 1 rfl<|Ae (AE 0 rfl AaY rfl KS x rfl) rfl<|We (k:=((b.getD a.toNat default).1,(b.getD a.toNat default).2.1,(b.getD a.toNat default).2.2.1,(b.getD a.toNat default).2.2.2)) rfl rfl AcH Y1 zeroValue58 a8 (hH.trans x.arg) rfl ?_;intro c0 bq;refine Ax h fun ai br h=>?_;refine Bs rfl rfl x (Mh _ _ (As hH x) (bq.mono (Ah hH)) br) ?_;rintro bd c1 ⟨_,rfl,a5⟩ bs aj ad;obtain⟨cp,aj,ad,bt⟩:=a5.take hH x bs;refine AA 1 rfl ?_;have y:=aj.rG H;refine Bk 1 rfl ?_;refine Az h fun bu h=>?_;refine Aaj (i:=0) Tryz.AbW rfl ⟨Tryz.f139,_,func139,rfl,rfl⟩ rfl rfl hH aj rfl (bt.mono y) bu ?_;intro c2 bv ay be ak
   refine Ac<|JM (IB (Vl (QI (IB (Mv Mu))))) (fun z0 z=>Le (gz H w z0 [.row (bd) 3 1 ((N5 ai)).length (bv),.box bc [.string ⟨((b.getD a.toNat default).1).toArray⟩,No ((b.getD a.toNat default).2.1),No ((b.getD a.toNat default).2.2.1),.string ⟨((b.getD a.toNat default).2.2.2).toArray⟩] 142,.row (d) 203 5 (g).length (e),.box b3 [No a0,d] 49,.box b2 [No (0:Int),No (0:Int)] 28,.box b1 [No (0:Int),Aat] 49]) (hp z)∧z.heap[bc]? = some (.cells [.string ⟨((b.getD a.toNat default).1).toArray⟩,No ((b.getD a.toNat default).2.1),No ((b.getD a.toNat default).2.2.1),.string ⟨((b.getD a.toNat default).2.2.2).toArray⟩].toArray 142 (0,0))∧z.heap[b3]? = some (.cells [No a0,d].toArray 49 (0,0))∧z.heap[b2]? = some (.cells [No (0:Int),No (0:Int)].toArray 28 (0,0))∧z.heap[b1]? = some (.cells [No (0:Int),Aat].toArray 49 (0,0))) mixed rfl (fun q c4 az=>?_);have j:=ay.call az;have aq:=AV ay az;have c:=j.rG H;refine M1 ⟨c.trans (As hH j),j.at (i:=1) rfl,j.at (i:=3) rfl,j.at (i:=4) rfl,j.at (i:=5) rfl⟩ fun kI125=>?_
   refine AB 0 q kI125 (by kernel_rfl) rfl (fun _ _=>Af rfl AcB rfl ZS (by decide)) rfl<|AB 1 q kI125 (by kernel_rfl) rfl (fun _ hI=>ID rfl AcA rfl hI.2.2.1 rfl) rfl<|AB 2 q kI125 (by kernel_rfl) rfl (fun _ hI=>LZ rfl AaY rfl KS hI.2.1) rfl<|AB 3 q kI125 (by kernel_rfl) rfl (fun _ _=>Ad rfl) rfl<|Ep (i:=4) (by kernel_rfl) rfl ?_;refine Az h fun bw h=>?_;have ak:=ak.mono (Ab hH aq);refine Aak (i:=0) Tryz.AbX rfl ⟨Tryz.f140,_,func140,rfl,rfl⟩ rfl rfl hH j rfl (ak.mono c) bw ?_;intro c6 c7 cq f bf bx;have c:=c.trans (Ab hH bf);refine Ba ⟨c.trans (As hH f),f.at (i:=1) rfl,f.at (i:=3) rfl,f.at (i:=4) rfl,f.at (i:=5) rfl⟩ fun kI128=>?_;refine AB 5 q kI128 (by kernel_rfl) rfl (fun _ _=>AZ rfl (fun _=>Vy _ _ _ _ _ (row_one (f.at (i:=0) rfl)) _)) rfl<|Ep (i:=6) (by kernel_rfl) rfl ?_;have bz:=f.CA hH (i:=0) rfl bx;have b0:=f.AP (i:=0) rfl
   refine Bu (r:=(.pair (.pair .st (.pair (.int .i64) (.pair (.int .i64) .st))) (.vec (.int .i64)))) (l:=[(((b.getD a.toNat default).1,(b.getD a.toNat default).2.1,(b.getD a.toNat default).2.2.1,(b.getD a.toNat default).2.2.2),(Lib.compact (N5 ai)))]) rfl (fun _=>Aaf _ _ _ _ _ _) rfl (show 1≤9223372036854775807 by decide) hH b0 (.c5 ⟨_,_,rfl,⟨_,_,rfl,rfl,⟨_,_,rfl,rfl,⟨_,_,rfl,rfl,rfl⟩⟩⟩,⟨_,rfl,bz⟩⟩ .nil) ?_;intro c8 c9 cr s bg b4;have c:=c.trans (Ab hH ((Al (i:=0) rfl).trans bg));refine Ba ⟨c.trans (As hH s),s.at (i:=0) rfl,s.at (i:=2) rfl,s.at (i:=3) rfl,s.at (i:=4) rfl⟩ fun kI131=>?_;refine Ep (i:=7) (by kernel_rfl) rfl ?_;refine Az h fun b5 h=>?_;have u:=u.mono (Ab hH (ao.trans (ap.trans ad)));have y:=y.trans (Ab hH (be.trans aq));refine Bq (r:=(.pair (.pair .st (.pair (.int .i64) (.pair (.int .i64) .st))) (.vec (.int .i64)))) (l:=g) (m:=[(((b.getD a.toNat default).1,(b.getD a.toNat default).2.1,(b.getD a.toNat default).2.2.1,(b.getD a.toNat default).2.2.2),(Lib.compact (N5 ai)))]) 1 rfl rfl AcA SK rfl (by decide) rfl hH s rfl ((u.mono y).mono c) b4 b5 ?_;intro ch da b6 o bh al;have c:=c.trans (Ab hH bh)
   refine Ba ⟨c.trans (As hH o),o.at (i:=0) rfl,o.at (i:=2) rfl,o.at (i:=3) rfl,o.at (i:=4) rfl⟩ fun kI134=>?_;refine AB 8 q kI134 (by kernel_rfl) rfl (fun _ _=>Af rfl AcB rfl ZS (by decide)) rfl<|Ep (i:=9) (by kernel_rfl) rfl<|Bi 2 rfl rfl (row_one (o.at (i:=1) rfl)) ZS o rfl rfl fun db b7 ar=>EX (by kernel_rfl)<|DV (by kernel_rfl)<|A8<|Ao<|Ar ?_;refine Az h fun b8 h=>?_;refine Ae (AK rfl rfl rfl b8) rfl<|Aq 1 rfl<|AL ?_;have b9:=b7.AP (i:=0) rfl;have h:=BV.again h aw;have p:=p.mono (Ab hH (ao.trans (ap.trans ad)));have al:=al.mono (Ab hH (ar.trans (Al (i:=0) rfl)));have c:=c.trans (Ab hH (ar.trans (Al (i:=0) rfl)));refine AN ((g++[(((b.getD a.toNat default).1,(b.getD a.toNat default).2.1,(b.getD a.toNat default).2.2.1,(b.getD a.toNat default).2.2.2),(Lib.compact (N5 ai)))]),(a+(1:Int)),ch,b6,au) (Sub.of rfl) ⟨b9,((p.mono y).mono c),al,h⟩ (Nat.lt_succ_self _)
  refine Br<|AD<|A5 ?_;have h:=BV.out h aw;refine Bd<|A6 (g,d,e) (Sub.of rfl) ⟨ah,u,h⟩
 rintro⟨ae,ag,aa⟩ dc ⟨am,ab,h⟩;refine A7<|Ak<|Ae (AE 1 rfl AcB rfl Qw am rfl) rfl ?_;refine Ax h fun dd ca h=>?_;refine Bs rfl rfl am (MW (a0:=(a0,ae)) _ _ (Le.refl _) (am.Tp hH (i:=0) rfl ab) ca) ?_;rintro cm de ⟨_,rfl,a6⟩ cb an bi;have a7:=(a6.Ts Vk).CA hH am cb;refine Ae (Bo rfl Abe a7) rfl<|AA 1 rfl<|AM rfl h (fun cc h=>?_) (fun cc h=>?_)
 ·cases h
 refine Au<|Ao<|Ak<|Ae (AE 1 rfl AcB rfl Qw an rfl) rfl<|Ae (AZ rfl (fun _=>BY _)) rfl<|Aj 3 rfl rfl rfl Qw an rfl rfl (AH rfl (AH (row_one (an.at (i:=0) rfl)) Cj)) fun df cd bj=>Aj 2 rfl rfl rfl AR cd rfl rfl (AH rfl (AH rfl Cj)) fun dg ac bk=>Ac<|Ay ?_
 cases h
 refine C9 rfl (.cell rfl AcB rfl Qw (AT (i:=3) ac rfl)) (.cell rfl Abs rfl AR (AT (i:=2) ac rfl)) ?_;have ab:=ab.mono (Ab hH (bi.trans (bj.trans bk)));exact⟨ac.ext,_,rfl,(ac.GQ hH (i:=0) rfl ab)⟩
def IU(a0:List Go.L.Pv)(b:List ((AaK×Int×Int×AaK)×(List Int))):Option ((Int×(List ((AaK×Int×Int×AaK)×(List Int))))×(Int×Int)):=
 Option.bind (KC (a0.length:Int) b) (fun a=>some ((a.1.1,a.1.2),(a.2.1,a.2.2)))
def It(a0:List Go.L.Pv):(List ((AaK×Int×Int×AaK)×(List Int)))×Int→Option (((List ((AaK×Int×Int×AaK)×(List Int)))×Int) ⊕ ((Int×(List ((AaK×Int×Int×AaK)×(List Int))))×(Int×Int))):=fun⟨b,a⟩=>
 if a<(a0.length:Int) then AU (0≤a∧a<(a0.length:Int)) (Option.bind (HX (a0.getD a.toNat default)) (fun c=>if c.1=(0:Int)∧c.2=(0:Int) then Option.bind (IF (KI a) (a0.getD a.toNat default) ([]:List AaK) b) (fun d=>AU (BL (a+(1:Int))) (some (Sum.inl (d,(a+(1:Int)))))) else none)) else Option.map Sum.inr ((IU a0) b)
def Kw(a0:List Go.L.Pv)(s:(List ((AaK×Int×Int×AaK)×(List Int)))×Int):Option ((Int×(List ((AaK×Int×Int×AaK)×(List Int))))×(Int×Int)):=Go.L.run (It a0) s
def KD(a0:List Go.L.Pv):Option ((Int×(List ((AaK×Int×Int×AaK)×(List Int))))×(Int×Int)):=
 if(64:Int)<(a0.length:Int) then none else(Kw a0) (([]:List ((AaK×Int×Int×AaK)×(List Int))),(0:Int))
theorem Q6(w:World)(H:PH)(hH:Le H (hp w)){a0:List Go.L.Pv}{d:Value}(m:AI .tree H d (a0)){r:(Int×(List ((AaK×Int×Int×AaK)×(List Int))))×(Int×Int)}(h:KD a0=some r):
  Ok Tryz.prog 48 [d] w (fun v w'=>Ext w w'∧∃ u0,v=.tuple #[.agg #[No r.1.1,u0],.agg #[No r.2.1,No r.2.2]]∧AI (.pair (.pair .st (.pair (.int .i64) (.pair (.int .i64) .st))) (.vec (.int .i64))) (un H (nw w w')) u0 (r.1.2)):=by
 refine A4 (n:=41) [(0,d)] func48 rfl rfl rfl rfl rfl ?_;have hL:=AO.start w;refine Ak<|AG Qw rfl rfl hL fun w1 q bg bx _=>AG AR rfl rfl bg fun w2 s bh bz _=>Ac<|A7<|Bk 1 rfl<|Ae (Bo rfl Acm m) rfl<|AA 1 rfl<|AM rfl h (fun bi h=>?_) (fun bi h=>?_)
 ·cases h
 refine Au<|Ao<|Ak<|SE Ji (List Int) rfl bh fun w6 j bj b0=>AG AaV rfl rfl bj fun w7 t bk b3 _=>Bi 0 rfl rfl rfl AaV bk rfl rfl fun w8 bl b4=>Ac<|Bn (σ:=(List ((AaK×Int×Int×AaK)×(List Int)))×(List Value)) (fun⟨g,vsl56⟩=>[(0,d),(2,(AaH q)),(3,(AaH s)),(4,(AaH t))]) (fun⟨g,vsl56⟩ wr=>DZ w (Ha [.box t [.map (some j)] 139,Ot Ji j (g) (vsl56),.box s [No (0:Int),No (0:Int)] 28,.box q [No (0:Int),Aat] 49] (mT cwI 3 1 (g) (vsl56))) wr fun Oz=>(g).length=(vsl56).length∧(IU a0) g=some r) ?_ ?_
 ·refine Bk 1 rfl<|Ae (Bo rfl Acm m) rfl<|AA 1 rfl<|A2 ?_;obtain⟨ab,h⟩:=AY h;refine Bw (σ:=(List ((AaK×Int×Int×AaK)×(List Int)))×Int×(List Value)×Nat) (fun⟨b,a,vsl81,n⟩=>[(0,d),(2,(AaH q)),(3,(AaH s)),(4,(AaH t)),(14,d),(15,No (a0.length:Int)),(16,No a)]) (fun⟨b,a,vsl81,n⟩ wr=>DZ w (Ha [.box t [.map (some j)] 139,Ot Ji j (b) (vsl81),.box s [No (0:Int),No (0:Int)] 28,.box q [No (0:Int),Aat] 49] (mT cwI 3 1 (b) (vsl81))) wr fun Oz=>(b).length=(vsl81).length∧FT (It a0) n (b,a)=some r) (fun⟨b,a,vsl81,n⟩=>n) (([]:List ((AaK×Int×Int×AaK)×(List Int))),(0:Int),([]:List Value),ab) (Sub.of rfl) ⟨bl,rfl,h⟩ ?_;rintro⟨b,a,vsl81,nn83⟩ b5 ⟨u,z,h⟩;obtain⟨ab,cf,rfl,h,ac⟩:=AX h;refine A9 1 rfl<|A7<|AM rfl h (fun a5 h=>?_) (fun a5 h=>?_)
  ·refine Au<|Ao<|A7<|A2<|Bk 1 rfl ?_;refine Az h fun ad h=>?_;refine Bb rfl rfl Acm GR m a.toNat (EM ad) (AW ad) rfl ?_;rintro cg _ e87t0 a6;obtain⟨_,_,rfl,rfl,⟨_,_,rfl,rfl,⟨_,_,rfl,⟨e87v2,rfl,e87h2⟩,⟨_,_,rfl,⟨e87v3,rfl,e87h3⟩,⟨e87v4,rfl,e87h4⟩⟩⟩⟩⟩:=Go.E.Rp.NS e87t0;refine Ae (C1 rfl AbG rfl GR a6 (hH.trans u.arg)) rfl<|AG Cc rfl rfl u fun ch a3 a7 bq _=>AG GR rfl rfl a7 fun ci ae a8 br _=>Bi 1 rfl rfl rfl Cc a8 rfl rfl fun cj a9 bs=>Aj 0 rfl rfl rfl GR a9 rfl rfl (AH rfl (AH rfl (AH e87h2.one (AH e87h3.one (AH e87h4.one Cj))))) fun ck x bt=>Ac<|A7<|Ak<|Ae (AE 0 rfl AbG rfl GR x rfl) rfl ?_;refine Ax h fun k ba h=>?_;refine AF rfl rfl x (L3 (a0:=(a0.getD a.toNat default)) _ _ (As hH x) (e87h2.mono (Ah hH)) (e87h3.mono (Ah hH)) (e87h4.mono (Ah hH)) ba) fun cl b8 bb bu=>AG AR rfl rfl bb fun cm af bc bv _=>Aj 0 rfl rfl rfl AR bc rfl rfl (AH rfl (AH rfl Cj)) fun a4 y bw=>Ac<|Ak<|Ae (AE 0 rfl Abs rfl AR y rfl) rfl ?_
   refine Ae (AZ rfl (fun _=>BY _)) rfl<|Ae (JG rfl rfl I6 (Lp _ _ _ _)) rfl<|Ac<|Cl rfl h (fun bd h=>?_) (fun bd h=>?_)
   ·cases h
   refine Au<|Ao<|Ar<|Ae (AE 1 rfl AbG rfl GR y rfl) rfl<|Aq 1 rfl ?_;have aj:AO w (Ha [.box a3 [No a] 3,Ot Ji j (b) (vsl81),.box af [No k.1,No k.2] 28,.box ae [No ((a0.getD a.toNat default).f.1),No ((a0.getD a.toNat default).f.2.1),e87v2,e87v3,e87v4] 64,.box t [.map (some j)] 139,.box s [No (0:Int),No (0:Int)] 28,.box q [No (0:Int),Aat] 49] (mT cwI 3 1 (b) (vsl81))) a4:=y.C5 [4,3] rfl;have ak:AO w (Ha [.box t [.map (some j)] 139,.box a3 [No a] 3,Ot Ji j (b) (vsl81),.box af [No k.1,No k.2] 28,.box ae [No ((a0.getD a.toNat default).f.1),No ((a0.getD a.toNat default).f.2.1),e87v2,e87v3,e87v4] 64,.box s [No (0:Int),No (0:Int)] 28,.box q [No (0:Int),Aat] 49] (mT cwI 3 1 (b) (vsl81))) a4:=aj.C5 [4] rfl;refine Ax h fun be al h=>?_
   refine DA rfl rfl (TD hH (O:=[.box af [No k.1,No k.2] 28,.box ae [No ((a0.getD a.toNat default).f.1),No ((a0.getD a.toNat default).f.2.1),e87v2,e87v3,e87v4] 64,.box s [No (0:Int),No (0:Int)] 28,.box q [No (0:Int),Aat] 49]) (i:=a) (l:=b) (vs:=vsl81) (a0:=(a0.getD a.toNat default)) (a1:=([]:List AaK)) ak (e87h2.mono (Ah hH)) (e87h3.mono (Ah hH)) (e87h4.mono (Ah hH)) (AI.nil _ _) z al) ?_;rintro _ b9 ⟨rfl,am,an,ao,bm⟩;refine AL<|A8<|Ao<|Ar ?_;refine Az h fun ap h=>?_;refine Ae (AK rfl rfl rfl ap) rfl<|Aq 1 rfl<|AL ?_;have aq:=ao.AP (i:=1) rfl;have ar:=aq.AP (i:=2) rfl;have au:=ar.AP (i:=2) rfl;have h:=BV.again h ac;refine AN (be,(a+(1:Int)),am,ab) (Sub.of rfl) ⟨au,an,h⟩ (Nat.lt_succ_self _)
  refine Br<|AD<|A5 ?_;have h:=BV.out h ac;refine Bd<|A6 (b,vsl81) (Sub.of rfl) ⟨u,z,h⟩
 rintro⟨g,vsl56⟩ ca ⟨ag,av,h⟩;refine Bk 1 rfl<|Ae (Bo rfl Acm m) rfl<|Ae (Ag 0 rfl AcH rfl ag rfl rfl) rfl ?_;obtain⟨o,bn,aw⟩:=Wd (A:=[.box t [.map (some j)] 139,Ot Ji j (g) (vsl56),.box s [No (0:Int),No (0:Int)] 28,.box q [No (0:Int),Aat] 49]) (l:=g) (vs:=vsl56) (e:=3) (r:=(.int .i64)) 1 rfl AaU hH av ag rfl;refine Ax h fun cb ax h=>?_;refine Bs rfl rfl o (Q5 _ _ (As hH o) aw ax) ?_;rintro _ cc ⟨bo,rfl,aa⟩ ay az bp;have c:=aa.CA hH o ay;refine Aq 2 rfl<|Aj 2 rfl rfl rfl Qw az rfl rfl (AH rfl (AH c.one Cj)) fun cd a2 ah=>Aj 1 rfl rfl rfl AR a2 rfl rfl (AH rfl (AH rfl Cj)) fun ce p ai=>Ac<|Ay ?_
 cases h
 refine C9 rfl (.cell rfl AcB rfl Qw (AT (i:=2) p rfl)) (.cell rfl Abs rfl AR (AT (i:=1) p rfl)) ?_;have c:=c.mono (Ab hH (ah.trans ai));exact⟨p.ext,_,rfl,(c.mono (Dm hH))⟩
def FB(a0:AaK×(List (Int×Int)))(a1:AaK):Option (Int):=
 Option.bind (strings_Compare a0.1 a1) (fun a=>some (a))
theorem JH{b w:World}{H:PH}(hH:Le H (hp b)){O:List BG}{a0:AaK×(List (Int×Int))}{a1:AaK}{va0_1:Value}(hL:AO b (Ha [] O) w)(j:AI (.pair (.int .i64) (.int .i64)) (gz H b w (Ha [] O)) va0_1 (a0.2)){r:Int}(h:FB a0 a1=some r):
  Ok Tryz.prog 252 [.agg #[AaJ a0.1,va0_1],AaJ a1] w (fun v w'=>v=No r∧AO b (Ha [] O) w'∧Le (fz w (Ha [] O)) (fz w' (Ha [] O))):=by
 refine A4 (n:=9) [(0,.agg #[AaJ a0.1,va0_1]),(1,(AaJ a1))] func252 rfl rfl rfl rfl rfl ?_;have hT:=Le.refl (fz w (Ha [] O));refine Ak<|CK (t:=192) rfl rfl rfl hL fun l m a c _=>AA 1 rfl<|Ak<|Ae (Af rfl AcJ rfl Fu (by decide)) rfl<|Ae (Ag 0 rfl Abb rfl a rfl rfl) rfl<|Aq 1 rfl ?_;refine Ax h fun o e h=>?_;refine AF rfl rfl a (Jd _ _ (As hH a) e) fun p k f d=>AA 1 rfl<|Ay ?_
 cases h
 refine Am rfl rfl ?_;have g:=f.AP (i:=0) rfl;have hT:=hT.trans (c.trans (d.trans (Al (i:=0) rfl)));exact⟨rfl,g,hT⟩
def By(a0:List (AaK×(List (Int×Int))))(a1:AaK)(a:Int):Option (Int×Bool):=
 if a<(a0.length:Int) then AU (0≤a∧a<(a0.length:Int)) (Option.bind (FB ((a0.getD a.toNat default).1,(a0.getD a.toNat default).2) a1) (fun b=>some (a,decide (b=(0:Int))))) else some (a,false)
def Bx(a0:List (AaK×(List (Int×Int))))(a1:AaK):Int×Int→Option ((Int×Int) ⊕ (Int×Bool)):=fun⟨b,a⟩=>
 if b<a then AU (BL (b+a)) (AU (0≤(IntKind.i64.wrap ((IntKind.u64.wrap (b+a)) / 2))∧(IntKind.i64.wrap ((IntKind.u64.wrap (b+a)) / 2))<(a0.length:Int)) (Option.bind (FB ((a0.getD ((IntKind.i64.wrap ((IntKind.u64.wrap (b+a)) / 2)).toNat) default).1,(a0.getD ((IntKind.i64.wrap ((IntKind.u64.wrap (b+a)) / 2)).toNat) default).2) a1) (fun c=>if c<(0:Int) then AU (BL ((IntKind.i64.wrap ((IntKind.u64.wrap (b+a)) / 2))+(1:Int))) (some (Sum.inl (((IntKind.i64.wrap ((IntKind.u64.wrap (b+a)) / 2))+(1:Int)),a))) else some (Sum.inl (b,(IntKind.i64.wrap ((IntKind.u64.wrap (b+a)) / 2))))))) else Option.map Sum.inr ((By a0 a1) b)
def BF(a0:List (AaK×(List (Int×Int))))(a1:AaK)(s:Int×Int):Option (Int×Bool):=Go.L.run (Bx a0 a1) s
def B5(a0:List (AaK×(List (Int×Int))))(a1:AaK):Option (Int×Bool):=
 (BF a0 a1) ((0:Int),(a0.length:Int))
theorem Ej{i w:World}{H:PH}(hH:Le H (hp i)){O:List BG}{a0:List (AaK×(List (Int×Int)))}{a1:AaK}{va0:Value}(hL:AO i (Ha [] O) w)(y:AI (.pair .st (.vec (.pair (.int .i64) (.int .i64)))) (gz H i w (Ha [] O)) va0 (a0)){r:Int×Bool}(h:B5 a0 a1=some r):
  Ok Tryz.prog 251 [va0,AaJ a1,.func (.func 252) #[] #[]] w (fun v w'=>v=.tuple #[No r.1,.bool r.2]∧AO i (Ha [] O) w'∧Le (fz w (Ha [] O)) (fz w' (Ha [] O))):=by
 refine A4 (n:=49) [(0,va0),(1,(AaJ a1)),(2,.func (.func 252) #[] #[])] func251 rfl rfl rfl rfl rfl ?_;have hT:=Le.refl (fz w (Ha [] O));refine A9 2 rfl<|Bk 1 rfl<|Ae (Bo rfl AcK y) rfl<|AA 1 rfl<|A9 3 rfl<|Bn (σ:=Int) (fun f=>[(0,va0),(1,(AaJ a1)),(2,.func (.func 252) #[] #[]),(8,No (a0.length:Int)),(9,No f)]) (fun f wr=>DZ i (Ha [] O) wr fun Oz=>AI (.pair .st (.vec (.pair (.int .i64) (.int .i64)))) (gz H i wr Oz) (va0) (a0)∧Le (fz w (Ha [] O)) (fz wr Oz)∧(By a0 a1) f=some r) ?_ ?_
 ·refine A2 ?_;obtain⟨o,h⟩:=AY h;refine Bw (σ:=Int×Int×Nat) (fun⟨b,a,n⟩=>[(0,va0),(1,(AaJ a1)),(2,.func (.func 252) #[] #[]),(8,No (a0.length:Int)),(9,No b),(10,No a)]) (fun⟨b,a,n⟩ wr=>DZ i (Ha [] O) wr fun Oz=>AI (.pair .st (.vec (.pair (.int .i64) (.int .i64)))) (gz H i wr Oz) (va0) (a0)∧Le (fz w (Ha [] O)) (fz wr Oz)∧FT (Bx a0 a1) n (b,a)=some r) (fun⟨b,a,n⟩=>n) ((0:Int),(a0.length:Int),o) (Sub.of rfl) ⟨hL,y,hT,h⟩ ?_;rintro⟨b,a,nn48⟩ ai ⟨j,e,hT,h⟩;obtain⟨o,ak,rfl,h,k⟩:=AX h;refine A7<|A9 3 rfl<|AM rfl h (fun z h=>?_) (fun z h=>?_)
  ·refine Au<|Ao<|A2<|Bk 2 rfl ?_;refine Az h fun aa h=>?_;refine Ae (AK rfl rfl rfl aa) rfl<|Ae (EV AaT AbT rfl rfl) rfl<|Ae (S8 (c:=1) (m:=2) rfl rfl rfl (by decide)) rfl<|Ae (EV AbT AaT rfl rfl) rfl<|AA 1 rfl<|Bk 3 rfl ?_;refine Az h fun p h=>?_;refine Bb rfl rfl AcK Ou e ((IntKind.i64.wrap ((IntKind.u64.wrap (b+a)) / 2)).toNat) (EM p) (AW p) rfl ?_;rintro al _ ⟨_,_,rfl,rfl,⟨e53v1,rfl,e53h1⟩⟩ ab;refine Ae (C1 rfl AcJ rfl Ou ab (As hH j)) rfl<|Aq 1 rfl ?_;refine Ax h fun am ac h=>?_;refine Eh rfl rfl rfl (JH (a0:=((a0.getD ((IntKind.i64.wrap ((IntKind.u64.wrap (b+a)) / 2)).toNat) default).1,(a0.getD ((IntKind.i64.wrap ((IntKind.u64.wrap (b+a)) / 2)).toNat) default).2)) (a1:=a1) (O:=(Ha [] O)) hH j e53h1 ac) ?_;rintro _ an ⟨rfl,q,g⟩;refine AA 1 rfl<|AM rfl h (fun ad h=>?_) (fun ad h=>?_)
   ·refine Ar<|Aq 1 rfl ?_;refine Az h fun ae h=>?_;refine Ae (AK rfl rfl rfl ae) rfl<|Aq 1 rfl<|AL<|A8 ?_;have h:=BV.again h k;have e:=e.mono (Ab hH g);have hT:=hT.trans g;refine AN (((IntKind.i64.wrap ((IntKind.u64.wrap (b+a)) / 2))+(1:Int)),a,o) (Sub.of rfl) ⟨q,e,hT,h⟩ (Nat.lt_succ_self _)
   refine Ar<|Aq 2 rfl<|AL<|A8 ?_;have h:=BV.again h k;have e:=e.mono (Ab hH g);have hT:=hT.trans g;refine AN (b,(IntKind.i64.wrap ((IntKind.u64.wrap (b+a)) / 2)),o) (Sub.of rfl) ⟨q,e,hT,h⟩ (Nat.lt_succ_self _)
  refine Br<|AD<|A5 ?_;have h:=BV.out h k;refine Bd<|A6 b (Sub.of rfl) ⟨j,e,hT,h⟩
 rintro f aj ⟨l,t,hT,h⟩;refine Bk 5 rfl<|AQ (s:=39) rfl (fun d=>?_) (fun d=>?_)
 ·have h:=BO (of_decide_eq_true d) h;refine Aa rfl rfl d<|Ae (Ad rfl) rfl<|Aa rfl rfl d<|Ae (Ad rfl) rfl<|Aa rfl rfl d<|Ae (Ad rfl) rfl<|Aa rfl rfl d ?_;refine Az h fun u h=>?_;refine Bb rfl rfl AcK Ou t f.toNat (EM u) (AW u) rfl ?_;rintro ao _ ⟨_,_,rfl,rfl,⟨e65v1,rfl,e65h1⟩⟩ af;refine Aa rfl rfl d<|Ae (C1 rfl AcJ rfl Ou af (As hH l)) rfl<|Aa rfl rfl d<|Ae (Ad rfl) rfl<|Aa rfl rfl d ?_;refine Ax h fun ap ag h=>?_;refine Eh rfl rfl rfl (JH (a0:=((a0.getD f.toNat default).1,(a0.getD f.toNat default).2)) (a1:=a1) (O:=(Ha [] O)) hH l e65h1 ag) ?_;rintro _ aq ⟨rfl,ah,x⟩;refine Aa rfl rfl d<|Ae (Ad rfl) rfl<|Ae (A1 rfl d rfl) rfl<|AA 2 rfl<|Ay ?_
  cases h
  refine Am rfl rfl ?_;have hT:=hT.trans x;exact⟨rfl,ah,hT⟩
 have h:=BP (of_decide_eq_false d) h
 iterate 8 refine Ai rfl rfl d rfl ?_
 refine Ae (A3 rfl d rfl) rfl<|AA 2 rfl<|Ay ?_
 cases h
 refine Am rfl rfl ?_;exact⟨rfl,l,hT⟩
def Iu(a0:Int×(List (AaK×(List (Int×Int)))))(a1:AaK):Option ((List (Int×Int))):=
 Option.bind (B5 a0.2 a1) (fun a=>if !a.2 then none else AU (0≤a.1∧a.1<(a0.2.length:Int)) (some ((a0.2.getD a.1.toNat default).2)))
theorem Oh(w:World)(H:PH)(hH:Le H (hp w)){a0:Int×(List (AaK×(List (Int×Int))))}{a1:AaK}{a:Value}(b:AI (.pair .st (.vec (.pair (.int .i64) (.int .i64)))) H a (a0.2)){r:(List (Int×Int))}(h:Iu a0 a1=some r):
  Ok Tryz.prog 194 [.agg #[No a0.1,a],AaJ a1] w (fun v w'=>Ext w w'∧∃ f,v=f∧AI (.pair (.int .i64) (.int .i64)) (un H (nw w w')) f (r)):=by
 refine A4 (n:=22) [(0,.agg #[No a0.1,a]),(1,(AaJ a1))] func194 rfl rfl rfl rfl rfl ?_;have hL:=AO.start w;refine Ak<|CK (t:=46) rfl rfl rfl hL fun q l d m _=>AA 1 rfl<|Ak<|Ae (Af rfl AcM rfl Vv (by decide)) rfl<|Ae (Ag 0 rfl AcK rfl d rfl rfl) rfl<|Aq 1 rfl ?_;refine Ax h fun o g h=>?_;refine DA rfl rfl (Ej (a0:=a0.2) (a1:=a1) (O:=[.box l [No a0.1,a] 46]) hH d (b.mono (Ah hH)) g) ?_;rintro _ s ⟨rfl,c,p⟩;refine AA 5 rfl<|A7<|A9 2 rfl<|Bl rfl h (fun i h=>?_) (fun i h=>?_)
 ·cases h
 refine Au<|Ao<|Ak<|Ae (Af rfl AcM rfl Vv (by decide)) rfl<|Ae (Ag 0 rfl AcK rfl c rfl rfl) rfl<|Aq 1 rfl ?_;refine Az h fun e h=>?_;refine Bb rfl rfl AcK Ou b o.1.toNat (EM e) (AW e) rfl ?_;rintro u _ ⟨_,_,rfl,rfl,⟨e7v1,rfl,e7h1⟩⟩ j;refine Ae (Af rfl AcJ rfl Yu (by decide)) rfl ?_;have k:=j.add 1;refine Ae (Be rfl AbR rfl k (hH.trans c.arg)) rfl<|AA 1 rfl<|Ay ?_
 cases h
 refine Am rfl rfl ?_;exact⟨c.ext,_,rfl,(e7h1.mono (JJ hH))⟩
def Iv(a0:AaK):Option (AaK×Int):=
 AU (0≤(0:Int)∧(0:Int)<(a0.length:Int)) (if(48≤((a0.getD ((0:Int).toNat) default).toNat:Int))∧(((a0.getD ((0:Int).toNat) default).toNat:Int)≤57) then AU ((a0.getD ((0:Int).toNat) default).toNat<128) (some ([a0.getD ((0:Int).toNat) default],(1:Int))) else if 97≤((a0.getD ((0:Int).toNat) default).toNat:Int) then if((a0.getD ((0:Int).toNat) default).toNat:Int)≤122 then AU ((a0.getD ((0:Int).toNat) default).toNat<128) (some ([a0.getD ((0:Int).toNat) default],(1:Int))) else(if(65≤((a0.getD ((0:Int).toNat) default).toNat:Int))∧(((a0.getD ((0:Int).toNat) default).toNat:Int)≤90) then AU (((a0.getD ((0:Int).toNat) default - (65:UInt8))+(97:UInt8)).toNat<128) (some ([((a0.getD ((0:Int).toNat) default - (65:UInt8))+(97:UInt8))],(1:Int))) else(if((a0.getD ((0:Int).toNat) default).toNat:Int)<128 then some (([]:AaK),(1:Int)) else Option.bind (Xa a0) (fun a=>if(a.1=(65533:Int))∧(a.2=(1:Int)) then some (([]:AaK),(1:Int)) else AU (0≤a.2∧a.2≤(a0.length:Int)) (some ((a0.take a.2.toNat),a.2))))) else if(65≤((a0.getD ((0:Int).toNat) default).toNat:Int))∧(((a0.getD ((0:Int).toNat) default).toNat:Int)≤90) then AU (((a0.getD ((0:Int).toNat) default - (65:UInt8))+(97:UInt8)).toNat<128) (some ([((a0.getD ((0:Int).toNat) default - (65:UInt8))+(97:UInt8))],(1:Int))) else(if((a0.getD ((0:Int).toNat) default).toNat:Int)<128 then some (([]:AaK),(1:Int)) else Option.bind (Xa a0) (fun b=>if(b.1=(65533:Int))∧(b.2=(1:Int)) then some (([]:AaK),(1:Int)) else AU (0≤b.2∧b.2≤(a0.length:Int)) (some ((a0.take b.2.toNat),b.2)))))
theorem Q7(w:World)(H:PH)(hH:Le H (hp w))(hU:D9 H){a0:AaK}{e:Value}(d:AI .byte H e (a0)){r:AaK×Int}(h:Iv a0=some r):
  Ok Tryz.prog 181 [e] w (fun v w'=>Ext w w'∧v=.tuple #[AaJ r.1,No r.2]):=by
 refine A4 (n:=57) [(0,e)] func181 rfl rfl rfl rfl rfl ?_;have hL:=AO.start w;refine A9 2 rfl<|A7<|Bk 1 rfl ?_;refine Az h fun i h=>?_;refine Bb rfl rfl Abe Lo d ((0:Int).toNat) (EM i) (AW i) rfl ?_;rintro p1 _ rfl ad;refine Ae (Be rfl Ab9 rfl ad (hH.trans hL.arg)) rfl<|AA 1 rfl<|A2<|Bk 3 rfl<|Nh 2 2 rfl rfl rfl rfl rfl rfl<|Aq 1 rfl<|AQ (s:=17) rfl (fun a=>?_) (fun a=>?_)
 ·have h:=BO (of_decide_eq_true a) h
  iterate 3 refine Ai rfl rfl a rfl ?_
  iterate 2 refine Ce rfl rfl rfl ?_
  refine Ai rfl rfl a rfl<|Ae (A1 rfl a rfl) rfl<|AA 1 rfl<|Cy rfl<|Bk 1 rfl ?_;refine Az h fun ae h=>?_;refine Ae (VW rfl Ab9 Abb ae) rfl<|AA 2 rfl<|Ay<|Aw<|Av ?_
  cases h
  refine Am rfl rfl ?_;exact⟨hL.ext,rfl⟩
 have h:=BP (of_decide_eq_false a) h;refine Aa rfl rfl a<|Ae (Ad rfl) rfl<|Aa rfl rfl a<|Ae (Ad rfl) rfl<|Aa rfl rfl a<|Ae (Ad rfl) rfl<|AQ (s:=20) rfl (fun c=>?_) (fun c=>?_)
 ·have h:=BO (of_decide_eq_true c) h;refine Aa rfl rfl c<|Ae (Ad rfl) rfl<|Aa rfl rfl c<|Ae (Ad rfl) rfl<|Aa rfl rfl a<|Ae (A1 rfl c rfl) rfl<|Ae (A3 rfl a rfl) rfl<|AA 1 rfl<|AM rfl h (fun af h=>?_) (fun af h=>?_)
  ·refine Bk 1 rfl ?_;refine Az h fun j h=>?_;refine Ae (VW rfl Ab9 Abb j) rfl<|AA 2 rfl<|Ay<|Aw<|Av ?_
   cases h
   refine Am rfl rfl ?_;exact⟨hL.ext,rfl⟩
  refine Bk 3 rfl<|Nh 2 2 rfl rfl rfl rfl rfl rfl<|AA 1 rfl<|AM rfl h (fun k h=>?_) (fun k h=>?_)
  ·refine Bk 1 rfl<|Ae (Uv (b:=65) rfl rfl rfl) rfl<|Ae (Uv (b:=97) rfl rfl rfl) rfl ?_;refine Az h fun l h=>?_;refine Ae (VW rfl Ab9 Abb l) rfl<|AA 2 rfl<|Ay<|Aw<|Av ?_
   cases h
   refine Am rfl rfl ?_;exact⟨hL.ext,rfl⟩
  refine A9 3 rfl<|AM rfl h (fun m h=>?_) (fun m h=>?_)
  ·refine A9 2 rfl<|Ay<|Aw<|Av ?_
   cases h
   refine Am rfl rfl ?_;exact⟨hL.ext,rfl⟩
  refine Au<|A8<|Ao<|Bk 1 rfl ?_;refine Ax h fun ak o h=>?_;refine AF rfl rfl hL (AaW _ _ (As hH hL) (hU.mono (Ah hH)) (d.mono (Ah hH)) o) fun al ai f ag=>AA 5 rfl<|A7<|Bk 3 rfl<|Nh 2 2 rfl rfl rfl rfl rfl rfl<|Ac<|AM rfl h (fun p h=>?_) (fun p h=>?_)
  ·refine A9 2 rfl<|Ay<|Av ?_
   cases h
   refine Am rfl rfl ?_;exact⟨f.ext,rfl⟩
  refine Au<|Ao<|Bk 2 rfl ?_;refine Az h fun q h=>?_;refine Ux rfl rfl Abe Lo d q rfl fun am t=>Ae (MJ rfl Abe Ab9 Abb t (hH.trans f.arg)) rfl<|AA 3 rfl<|Ay ?_
  cases h
  refine Am rfl rfl ?_;exact⟨f.ext,rfl⟩
 have h:=BP (of_decide_eq_false c) h
 iterate 2 refine Ai rfl rfl c rfl ?_
 refine Aa rfl rfl a<|Ae (A3 rfl c rfl) rfl<|Ae (A3 rfl a rfl) rfl<|AA 1 rfl<|Cw rfl<|Bk 3 rfl<|Nh 2 2 rfl rfl rfl rfl rfl rfl<|AA 1 rfl<|AM rfl h (fun u h=>?_) (fun u h=>?_)
 ·refine Bk 1 rfl<|Ae (Uv (b:=65) rfl rfl rfl) rfl<|Ae (Uv (b:=97) rfl rfl rfl) rfl ?_;refine Az h fun x h=>?_;refine Ae (VW rfl Ab9 Abb x) rfl<|AA 2 rfl<|Ay<|Aw<|Av ?_
  cases h
  refine Am rfl rfl ?_;exact⟨hL.ext,rfl⟩
 refine A9 3 rfl<|AM rfl h (fun y h=>?_) (fun y h=>?_)
 ·refine A9 2 rfl<|Ay<|Aw<|Av ?_
  cases h
  refine Am rfl rfl ?_;exact⟨hL.ext,rfl⟩
 refine Au<|A8<|Ao<|Bk 1 rfl ?_;refine Ax h fun an z h=>?_;refine AF rfl rfl hL (AaW _ _ (As hH hL) (hU.mono (Ah hH)) (d.mono (Ah hH)) z) fun ao aj g ah=>AA 5 rfl<|A7<|Bk 3 rfl<|Nh 2 2 rfl rfl rfl rfl rfl rfl<|Ac<|AM rfl h (fun aa h=>?_) (fun aa h=>?_)
 ·refine A9 2 rfl<|Ay<|Av ?_
  cases h
  refine Am rfl rfl ?_;exact⟨g.ext,rfl⟩
 refine Au<|Ao<|Bk 2 rfl ?_;refine Az h fun ab h=>?_;refine Ux rfl rfl Abe Lo d ab rfl fun ap ac=>Ae (MJ rfl Abe Ab9 Abb ac (hH.trans g.arg)) rfl<|AA 3 rfl<|Ay ?_
 cases h
 refine Am rfl rfl ?_;exact⟨g.ext,rfl⟩
def Fx(c:Int)(d:AaK)(a:List (AaK×Int×Int))(b:Int):Option (((List (AaK×Int×Int))×Int) ⊕ ((List (AaK×Int×Int)))):=
 AU (Go.E.JE 32 (a.length+1)) (Option.map Sum.inr (some ((a++[(d,c,b)]))))
def Cm(a1:AaK)(d:List (AaK×Int×Int))(e:Int):AaK×Int→Option ((AaK×Int) ⊕ (((List (AaK×Int×Int))×Int) ⊕ ((List (AaK×Int×Int))))):=fun⟨c,a⟩=>
 if a<(a1.length:Int) then AU (0≤a∧a≤(a1.length:Int)) (Option.bind (Iv (a1.drop a.toNat)) (fun b=>if b.1=([]:AaK) then AU (BL (a+b.2)) (if c=([]:AaK) then Option.map Sum.inr (some (Sum.inl (d,(a+b.2)))) else AU (Go.E.JE 32 (d.length+1)) (Option.map Sum.inr (some (Sum.inl ((d++[(c,e,a)]),(a+b.2)))))) else AU (c.length+b.1.length≤9223372036854775807) (AU (BL (a+b.2)) (some (Sum.inl ((c++b.1),(a+b.2))))))) else Option.map Sum.inr ((Fx e) c d a)
def JP(a1:AaK)(b:List (AaK×Int×Int))(a:Int)(s:AaK×Int):Option (((List (AaK×Int×Int))×Int) ⊕ ((List (AaK×Int×Int)))):=Go.L.run (Cm a1 b a) s
def Cn(a1:AaK):(List (AaK×Int×Int))×Int→Option (((List (AaK×Int×Int))×Int) ⊕ ((List (AaK×Int×Int)))):=fun⟨b,a⟩=>
 if a<(a1.length:Int) then(JP a1 b a) (([]:AaK),a) else Option.map Sum.inr (some (b))
def JQ(a1:AaK)(s:(List (AaK×Int×Int))×Int):Option ((List (AaK×Int×Int))):=Go.L.run (Cn a1) s
def IG(a0:List (AaK×Int×Int))(a1:AaK):Option ((List (AaK×Int×Int))):=
 (JQ a1) (a0,(0:Int))
theorem PK{l w:World}{H:PH}(hH:Le H (hp l))(hU:D9 H){O:List BG}{a0:List (AaK×Int×Int)}{a1:AaK}{la0 Da0 ba0:Nat}{ca0:Loop}{va0:Value}{xsa0:List Value}{va1_0:Value}{pa1:Addr}(bb:XY Tryz.prog (.pair .st (.pair (.int .i64) (.int .i64))) 3 32 la0 Da0 ba0 ca0 131 135)(hL:AO l (Ha [.obj la0 (.loop ca0),.obj Da0 (.deferred (some [])),.box ba0 [va0] 131,.row (va0) 135 3 (a0).length (xsa0)] O) w)(b2:AJ (.pair .st (.pair (.int .i64) (.int .i64))) (gz H l w (Ha [.obj la0 (.loop ca0),.obj Da0 (.deferred (some [])),.box ba0 [va0] 131,.row (va0) 135 3 (a0).length (xsa0)] O)) (a0) xsa0)(be:AI .byte (gz H l w (Ha [.obj la0 (.loop ca0),.obj Da0 (.deferred (some [])),.box ba0 [va0] 131,.row (va0) 135 3 (a0).length (xsa0)] O)) va1_0 (a1))(b3:GS (gz H l w (Ha [.obj la0 (.loop ca0),.obj Da0 (.deferred (some [])),.box ba0 [va0] 131,.row (va0) 135 3 (a0).length (xsa0)] O)) pa1 [va1_0]){r:(List (AaK×Int×Int))}(h:IG a0 a1=some r):
  Ok Tryz.prog 180 [.func (.yield la0) #[] #[],.pointer (some pa1)] w (fun v w'=>∃ (u0:Value) (y0:List Value),v=.tuple #[]∧AO l (Ha [.obj la0 (.loop ca0),.obj Da0 (.deferred (some [])),.box ba0 [u0] 131,.row u0 135 3 (r).length y0] O) w'∧Le (fz w (Ha [.obj la0 (.loop ca0),.obj Da0 (.deferred (some [])),.box ba0 [va0] 131,.row (va0) 135 3 (a0).length (xsa0)] O)) (fz w' (Ha [.obj la0 (.loop ca0),.obj Da0 (.deferred (some [])),.box ba0 [u0] 131,.row u0 135 3 (r).length y0] O))∧AJ (.pair .st (.pair (.int .i64) (.int .i64))) (gz H l w' (Ha [.obj la0 (.loop ca0),.obj Da0 (.deferred (some [])),.box ba0 [u0] 131,.row u0 135 3 (r).length y0] O)) (r) y0):=by
 refine A4 (n:=53) [(0,.func (.yield la0) #[] #[]),(1,.pointer (some pa1))] func180 rfl rfl rfl rfl rfl ?_;have hT:=Le.refl (fz w (Ha [.obj la0 (.loop ca0),.obj Da0 (.deferred (some [])),.box ba0 [va0] 131,.row (va0) 135 3 (a0).length (xsa0)] O));refine Tz ?_;have bc:=hL.rG H;refine A9 1 rfl<|A7<|ZK<|Ao<|A2 ?_;obtain⟨a6,h⟩:=AY h;refine Bw (σ:=(List (AaK×Int×Int))×Int×Value×(List Value)×Nat) (fun⟨m,a,g,d,n⟩=>[(0,.func (.yield la0) #[] #[]),(1,.pointer (some pa1)),(3,No a)]) (fun⟨m,a,g,d,n⟩ wr=>DZ l (Ha [.obj la0 (.loop ca0),.obj Da0 (.deferred (some [])),.box ba0 [g] 131,.row (g) 135 3 (m).length (d)] O) wr fun Oz=>GS (gz H l wr Oz) pa1 [va1_0]∧AI .byte (gz H l wr Oz) (va1_0) (a1)∧AJ (.pair .st (.pair (.int .i64) (.int .i64))) (gz H l wr Oz) (m) (d)∧Le (fz w (Ha [.obj la0 (.loop ca0),.obj Da0 (.deferred (some [])),.box ba0 [va0] 131,.row (va0) 135 3 (a0).length (xsa0)] O)) (fz wr Oz)∧FT (Cn a1) n (m,a)=some r) (fun⟨m,a,g,d,n⟩=>n) (a0,(0:Int),va0,xsa0,a6) (Sub.of rfl) ⟨hL,(b3.mono bc),(be.mono bc),(b2.mono bc),hT,h⟩ ?_;rintro⟨m,a,g,d,nn68⟩ cc ⟨af,aq,ar,a7,hT,h⟩;obtain⟨a6,b1,rfl,h,ag⟩:=AX h;refine A7 ?_;have x:=af.rG H
 refine Bk 1 rfl<|Ae (Be rfl Abe rfl (aq.mono x) (As hH af)) rfl<|Ae (Bo rfl Abe (ar.mono x)) rfl<|AA 1 rfl<|AM rfl h (fun b4 h=>?_) (fun b4 h=>?_)
 ·refine Au<|Ao<|A2<|Bk 1 rfl<|Ae (AZ rfl (fun _=>Yv _ _)) rfl<|AG KR rfl rfl af fun cj aa b5 ah _=>Aj 0 rfl rfl rfl KR b5 rfl rfl (AH rfl (AH rfl (AH rfl Cj))) fun ck b6 ai=>Ac<|Bn (σ:=AaK×(List (AaK×Int×Int))×Int×Value×(List Value)) (fun⟨p,y,f,k,o⟩=>[(0,.func (.yield la0) #[] #[]),(3,No f),(4,(AaH aa))]) (fun⟨p,y,f,k,o⟩ wr=>DZ l (Ha [.box aa [AaJ p,No a,No (0:Int)] 135,.obj la0 (.loop ca0),.obj Da0 (.deferred (some [])),.box ba0 [k] 131,.row (k) 135 3 (y).length (o)] O) wr fun Oz=>AJ (.pair .st (.pair (.int .i64) (.int .i64))) (gz H l wr Oz) (y) (o)∧Le (fz w (Ha [.obj la0 (.loop ca0),.obj Da0 (.deferred (some [])),.box ba0 [va0] 131,.row (va0) 135 3 (a0).length (xsa0)] O)) (fz wr Oz)∧(Fx a) p y f=some b1) ?_ ?_
  ·refine A2 ?_;obtain⟨a3,h⟩:=AY h;have x:=x.trans (Ab hH (ah.trans ai));have hT:=hT.trans (ah.trans ai);refine Bw (σ:=AaK×Int×Nat) (fun⟨j,c,n⟩=>[(0,.func (.yield la0) #[] #[]),(1,.pointer (some pa1)),(3,No c),(4,(AaH aa))]) (fun⟨j,c,n⟩ wr=>DZ l (Ha [.box aa [AaJ j,No a,No (0:Int)] 135,.obj la0 (.loop ca0),.obj Da0 (.deferred (some [])),.box ba0 [g] 131,.row (g) 135 3 (m).length (d)] O) wr fun Oz=>GS (gz H l wr Oz) pa1 [va1_0]∧AI .byte (gz H l wr Oz) (va1_0) (a1)∧AJ (.pair .st (.pair (.int .i64) (.int .i64))) (gz H l wr Oz) (m) (d)∧Le (fz w (Ha [.obj la0 (.loop ca0),.obj Da0 (.deferred (some [])),.box ba0 [va0] 131,.row (va0) 135 3 (a0).length (xsa0)] O)) (fz wr Oz)∧FT (Cm a1 m a) n (j,c)=some b1) (fun⟨j,c,n⟩=>n) (([]:AaK),a,a3) (Sub.of rfl) ⟨b6,(aq.mono x),(ar.mono x),(a7.mono x),hT,h⟩ ?_;rintro⟨j,c,nn155⟩ b9 ⟨z,q,t,he155_Ra0,hT,h⟩;obtain⟨a3,cd,rfl,h,ad⟩:=AX h;refine A7 ?_;have b:=z.rG H;refine Bk 1 rfl<|Ae (Be rfl Abe rfl (q.mono b) (As hH z)) rfl<|Ae (Bo rfl Abe (t.mono b)) rfl<|AA 1 rfl ?_
   refine AM rfl h (fun bf h=>?_) (fun bf h=>?_)
   ·refine Au<|Ao<|A2<|Ak<|Ae (Be rfl Abe rfl (q.mono b) (As hH z)) rfl<|Aq 1 rfl ?_;refine Az h fun bg h=>?_;refine Uw rfl rfl Abe Lo (t.mono b) bg rfl ?_;intro ce bh;refine Ax h fun aj bi h=>?_;refine AF rfl rfl z (Q7 _ _ (As hH z) (hU.mono (Ah hH)) bh bi) fun cf ca ak u=>AA 5 rfl<|A7<|Bk 1 rfl<|Ae (KN rfl rfl) rfl<|Ac<|AM rfl h (fun bj h=>?_) (fun bj h=>?_)
    ·refine Bk 1 rfl<|Ae (Af rfl AcQ rfl Cc (by decide)) rfl<|Bi 0 rfl rfl rfl Cc ak rfl rfl fun a4 ab ac=>Ac<|Bk 2 rfl ?_;refine Az h fun bk h=>?_;refine Ae (AK rfl rfl rfl bk) rfl<|AA 1 rfl<|A7<|XW<|KP (Cr (Cr (Cr (Bj (CJ (Bj (JL (Bj (CJ (Bj (F0 GW))))))))))) rfl<|Ae (Af rfl AcQ rfl Fu (by decide)) rfl<|GX<|KP (Cr (Cr (Cr (Bj (CJ (Bj (JL (Bj (CJ (Bj (F0 GW))))))))))) rfl<|Ae (Ag 0 rfl Abb rfl ab rfl rfl) rfl<|GX<|KP (Cr (Cr (Cr (Bj (CJ (Bj (JL (Bj (CJ (Bj (F0 GW))))))))))) rfl<|Ae (ML rfl rfl) rfl ?_;refine GX<|KP (Cr (Cr (Cr (Bj (CJ (Bj (JL (Bj (CJ (Bj (F0 GW))))))))))) rfl<|Aq 1 rfl<|GX<|XX (s:=34) rfl (fun e=>?_) (fun e=>?_)
     ·have h:=BP (CE e) h;refine Mw rfl rfl e<|KP (Cr (Cr (Cr (Bj (CJ (Bj (JL (Bj (CJ (Bj (F0 GW))))))))))) rfl<|Aq 1 rfl<|GX<|Mw rfl rfl e<|KP (Cr (Cr (Cr (Bj (CJ (Bj (JL (Bj (CJ (Bj (F0 GW))))))))))) rfl<|Ae (AE 0 rfl AcQ rfl KR ab rfl) rfl<|GX<|Mw rfl rfl e ?_;have al:AO l (Ha [.box ba0 [g] 131,.row (g) 135 3 (m).length (d),.box aa [AaJ j,No a,No c] 135,.obj la0 (.loop ca0),.obj Da0 (.deferred (some []))] O) a4:=ab.C5 [4,4] rfl;have au:=B6 [4,4] ab al rfl;have a8:AO l (Ha [.obj la0 (.loop ca0),.obj Da0 (.deferred (some [])),.box ba0 [g] 131,.row (g) 135 3 (m).length (d),.box aa [AaJ j,No a,No c] 135] O) a4:=al.C5 [4,4] rfl;have av:=B6 [4,4] al a8 rfl;refine Az h fun bl h=>?_;have b:=b.trans (Ab hH (u.trans (ac.trans (au.trans av))))
      have bm:=@bb l a4 H ((Ha [.box aa [AaJ j,No a,No c] 135] O)) (g) (.agg #[AaJ j,No a,No c]) (d) [AaJ j,No a,No c] (m) (j,a,c) hH a8 (he155_Ra0.mono b) rfl ⟨_,_,rfl,rfl,⟨_,_,rfl,rfl,rfl⟩⟩ bl;refine Uz rfl rfl rfl bm ?_;rintro cg ⟨b7,bn,bo,aw,am⟩;refine Mw rfl rfl e<|KP (Cr (Cr (Cr (Bj (CJ (Bj (JL (Bj (CJ (Bj (F0 GW))))))))))) rfl<|Aq 1 rfl<|GX<|KP (Cr (Cr (Cr (Bj (CJ (Bj (JL (Bj (CJ (Bj (F0 GW))))))))))) rfl<|Ae (A1 rfl e rfl) rfl<|GX<|PB<|Cw rfl<|Au<|Ao<|Br ?_;refine AD<|Mq rfl<|A5 ?_;have h:=BV.out h ad;refine Mq rfl<|Qh<|Bd ?_;have bp:=bo.AP (i:=4) rfl;have h:=BV.again h ag;have hT:=hT.trans (u.trans (ac.trans (au.trans (av.trans (aw.trans (Al (i:=4) rfl))))));have b:=b.trans (Ab hH (aw.trans (Al (i:=4) rfl)));have am:=am.mono (Ab hH (Al (i:=4) rfl))
      refine AN ((m++[(j,a,c)]),(c+aj.2),b7,bn,a6) (Sub.of rfl) ⟨bp,(q.mono b),(t.mono b),am,hT,h⟩ (Nat.lt_succ_self _)
     have h:=BO (CF e) h;refine KP (Cr (Cr (Cr (Bj (CJ (Bj (JL (Bj (CJ (Bj (F0 GW))))))))))) rfl<|Ai rfl rfl e rfl<|GX<|KP (Cr (Cr (Cr (Bj (CJ (Bj (JL (Bj (CJ (Bj (F0 GW))))))))))) rfl<|Ai rfl rfl e rfl<|GX<|KP (Cr (Cr (Cr (Bj (CJ (Bj (JL (Bj (CJ (Bj (F0 GW))))))))))) rfl<|Ai rfl rfl e rfl<|GX<|KP (Cr (Cr (Cr (Bj (CJ (Bj (JL (Bj (CJ (Bj (F0 GW))))))))))) rfl<|Ai rfl rfl e rfl<|GX ?_;refine KP (Cr (Cr (Cr (Bj (CJ (Bj (JL (Bj (CJ (Bj (F0 GW))))))))))) rfl<|Ae (A3 rfl e rfl) rfl<|GX<|PB<|Cw rfl<|Au<|Ao<|Br<|AD<|Mq rfl<|A5 ?_;have h:=BV.out h ad;refine Mq rfl<|Qh<|Bd ?_;have bq:=ab.AP (i:=0) rfl;have h:=BV.again h ag;have b:=b.trans (Ab hH (u.trans (ac.trans (Al (i:=0) rfl))))
     have hT:=hT.trans (u.trans (ac.trans (Al (i:=0) rfl)));refine AN (m,(c+aj.2),g,d,a6) (Sub.of rfl) ⟨bq,(q.mono b),(t.mono b),(he155_Ra0.mono b),hT,h⟩ (Nat.lt_succ_self _)
    refine Au<|Ao<|Ak<|Ae (Af rfl AcQ rfl Fu (by decide)) rfl<|Ae (Ag 0 rfl Abb rfl ak rfl rfl) rfl<|Aq 1 rfl ?_;refine Az h fun br h=>?_;refine Ae (Dw rfl rfl br) rfl<|Ae (Af rfl AcQ rfl Fu (by decide)) rfl<|Bi 0 rfl rfl rfl Fu ak rfl rfl fun ch bs ax=>Ac<|Ar<|Aq 2 rfl ?_;refine Az h fun bt h=>?_;refine Ae (AK rfl rfl rfl bt) rfl<|Aq 1 rfl<|AL<|A8 ?_;have h:=BV.again h ad;have b:=b.trans (Ab hH (u.trans ax));have hT:=hT.trans (u.trans ax);refine AN ((j++aj.1),(c+aj.2),a3) (Sub.of rfl) ⟨bs,(q.mono b),(t.mono b),(he155_Ra0.mono b),hT,h⟩ (Nat.lt_succ_self _)
   refine Br<|AD<|A5 ?_;have h:=BV.out h ad;refine Bd<|A6 (j,m,c,g,d) (Sub.of rfl) ⟨z,(he155_Ra0.mono b),hT,h⟩
  have hT:=hT.trans (ah.trans ai);rintro⟨p,y,f,k,o⟩ cb ⟨bu,ae,hT,h⟩;refine Bk 1 rfl<|Ae (Af rfl AcQ rfl Cc (by decide)) rfl<|Bi 0 rfl rfl rfl Cc bu rfl rfl fun a5 an ay=>Ac<|XW<|KP (Cr (Bj (CJ (Bj (F0 GW))))) rfl<|Aq 1 rfl<|GX<|KP (Cr (Bj (CJ (Bj (F0 GW))))) rfl<|Ae (AE 0 rfl AcQ rfl KR an rfl) rfl<|GX ?_;have ao:AO l (Ha [.box ba0 [k] 131,.row (k) 135 3 (y).length (o),.box aa [AaJ p,No a,No f] 135,.obj la0 (.loop ca0),.obj Da0 (.deferred (some []))] O) a5:=an.C5 [4,4] rfl;have az:=B6 [4,4] an ao rfl;have a9:AO l (Ha [.obj la0 (.loop ca0),.obj Da0 (.deferred (some [])),.box ba0 [k] 131,.row (k) 135 3 (y).length (o),.box aa [AaJ p,No a,No f] 135] O) a5:=ao.C5 [4,4] rfl;have a2:=B6 [4,4] ao a9 rfl;refine Az h fun bv h=>?_;have ae:=ae.mono (Ab hH (ay.trans (az.trans a2)))
  have bw:=@bb l a5 H ((Ha [.box aa [AaJ p,No a,No f] 135] O)) (k) (.agg #[AaJ p,No a,No f]) (o) [AaJ p,No a,No f] (y) (p,a,f) hH a9 ae rfl ⟨_,_,rfl,rfl,⟨_,_,rfl,rfl,rfl⟩⟩ bv;refine Uz rfl rfl rfl bw ?_;rintro ci ⟨b8,bx,bz,bd,ap⟩;refine PB<|Ay<|Aw<|BK ?_;have h:=BV.out h ag;refine Aw<|Ii ?_
  cases h
  refine ZD rfl ?_;have b0:=bz.AP (i:=4) rfl;have hT:=hT.trans (ay.trans (az.trans (a2.trans (bd.trans (Al (i:=4) rfl)))));have ap:=ap.mono (Ab hH (Al (i:=4) rfl));exact⟨b8,bx,rfl,b0,hT,ap⟩
 refine Br<|AD<|A5 ?_;have h:=BV.out h ag;refine Bd<|XU ?_
 cases h
 refine Ju rfl ?_;exact⟨g,d,rfl,af,hT,(a7.mono x)⟩
end Go.Proofs.YtekmbcbgknmhiaaGreatDoor
end
noncomputable section
namespace Go.Proofs.YtekmbcbgknmhiaaGreatDoor
open Go Go.E Go.RowKit
def Iter(H:PH)(v:Value)(l:List UInt8):Prop:=∃ p u,v=.func (.func 180) #[] #[.pointer (some p)]∧GS H p [u]∧AI .byte H u l
theorem Iter.mono{H H':PH}{v:Value}{l:List UInt8}(h:Iter H v l)(hs:Le H H'):Iter H' v l:=by
 obtain⟨p,u,a,h2,h3⟩:=h;exact⟨p,u,a,h2.mono hs,h3.mono hs⟩
abbrev rpW:Rp (List UInt8×Int×Int):=.pair .st (.pair (.int .i64) (.int .i64))
def Mk(l:List UInt8):Option (List (List UInt8×Int×Int)):=IG [] l
theorem UJ(w:World)(H:PH)(hH:Le H (hp w)){a0:List UInt8}{b:Value}(e:AI .byte H b a0):
  Ok Tryz.prog 129 [b] w (fun v w'=>Ext w w'∧Iter (un H (nw w w')) v a0):=by
 refine A4 (n:=4) [(0,b)] Tryz.func129 rfl rfl rfl rfl rfl ?_;have hL:=AO.start w;refine Ak<|Tt (t:=23) rfl e.one rfl hL fun c a d l _=>Aq 1 rfl<|Ac<|Ak<|Aq 2 rfl<|Ac<|Ay<|Am rfl rfl ?_;have f:GS (hp c) ⟨a,0,none⟩ [b]:=AT (i:=0) d rfl;have hn:a≥w.heap.size:=d.own _ (.head _) a rfl;refine⟨d.ext,⟨a,0,none⟩,b,rfl,⟨rfl,fun j u hj=>?_⟩,e.mono (JJ hH)⟩;have g:=f.2 j u hj
 have h2:un H (nw w c) a=hp c a:=by
  have h3:nw w c a=hp c a:=by unfold nw;rw [if_pos hn];rfl
  cases h:hp c a with
  | none=>
   have:=d.at (i:=0) rfl;have k:c.heap[a]? = none:=h;rw [show c.heap[a]? = _ from this] at k
   cases k
  | some o=>exact FX a o (h3.trans h)
 simp only [Addr.add_lit,Gu] at g ⊢;rw [h2];exact g
set_option maxRecDepth 10000 in
theorem TE(w:World)(H:PH)(hH:Le H (hp w))(hU:D9 H){p:Addr}{u:Value}{l0:List UInt8}(hpt:GS H p [u])(hv:AI .byte H u l0){r:List (List UInt8×Int×Int)}(h:IG [] l0=some r):
  Ok Tryz.prog 179 [.slice none 0 0,.func (.func 180) #[] #[.pointer (some p)]] w (fun v w'=>Ext w w'∧C2 135 rpW H w w' v r):=by
 refine WN (k:=13) [(0,.slice none 0 0),(1,.func (.func 180) #[] #[.pointer (some p)])] Tryz.func179 rfl rfl rfl rfl rfl ?_;have hL:=AO.start w;refine Ak<|Tt (t:=131) rfl rfl rfl hL fun w1 d af ax _=>Aq 1 rfl<|Ac<|A7<|Ak<|Aq 1 rfl<|Ac<|A2<|ZM (cap:=[.pointer (some p)]) rfl ⟨Tryz.f180,_,Tryz.func180,rfl,rfl⟩ af ?_;intro a fr fn l D w2 rec hrec ag ay
 have hY:XY Tryz.prog rpW 3 32 l D d rec 131 135:=by
  subst hrec;refine Yc (p:=7) (k:=13) rfl rfl rfl ⟨fr.size,rfl,fr.get⟩ rfl ?_;intro x0 x1 G P v y xs c m x hG hM he hy hx hc;obtain⟨xa,xb,xc⟩:=x;obtain⟨_,_,rfl,rfl,_,_,rfl,rfl,rfl⟩:=hx;refine SB rfl ZL<|AG KR rfl rfl hM fun w3 bx ah f _=>Aj 0 rfl rfl hy KR ah rfl rfl (AH rfl (AH rfl (AH rfl Cj))) fun w4 ai g=>AL<|Yb (i:=1) rfl ai rfl fun w5 b j=>XZ<|SB rfl (Bj Ya)<|Ae (Ag 3 rfl Tryz.underlying131 rfl b rfl rfl) rfl<|Ae (AE 0 rfl Tryz.underlying135 rfl KR b rfl) rfl<|Bu (r:=rpW) (l:=[(xa,xb,xc)]) rfl (fun _=>U9 _ _ _ _) rfl (show 1≤9223372036854775807 by decide) hG b (.c3 ⟨_,_,rfl,rfl,_,_,rfl,rfl,rfl⟩ .nil) fun v6 w6 a6 aj n ak=>Bq (r:=rpW) (l:=m) (m:=[(xa,xb,xc)]) 4 rfl rfl Tryz.underlying131 KR rfl (by decide) rfl hG aj rfl (((he.mono (Ab hG f)).mono (Ab hG g)).mono (Ab hG j) |>.mono (Ab hG n)) ak hc fun v7 w7 al o am an=>Bi 3 rfl rfl (row_one (o.at (i:=4) rfl)) Acq o rfl rfl ?_;intro w8 ao q;refine AL<|A8<|T0 (i:=1) ao rfl ?_;intro w9 ap s;refine⟨rfl,v7,al,ap.AP (i:=0) rfl,((((((f.trans g).trans j).trans n).trans am).trans q).trans s).trans (Al (i:=0) rfl),?_⟩
  exact((an.mono (Ab hG q)).mono (Ab hG s)).mono (Ab hG (Al (i:=0) rfl))
 obtain⟨aq,a3,a7⟩:=CB rpW H 135 ag
 have ar:(yR l D d rec 131 135 3 (.slice none 0 0) ([]:List (List UInt8×Int×Int)).length []++[]).Perm (.row (.slice none 0 0) 135 rpW.sz ([]:List (List UInt8×Int×Int)).length []::[.obj l (.loop rec),.obj D (.deferred (some [])),.box d [.slice none 0 0] 131]):=
  List.perm_append_comm (l₁:=([.obj l (.loop rec),.obj D (.deferred (some [])),.box d [.slice none 0 0] 131]:List BG)) (l₂:=([.row (.slice none 0 0) 135 3 0 []]:List BG))
 have au:=aq.perm ar;have hc:=PK hH hU (O:=[]) hY au .nil (hv.mono (Ah hH)) (hpt.mono (Ah hH)) h;refine hc.2.mono fun e w5 ⟨v5,av,hR⟩=>⟨⟨v5,av⟩,?_⟩;obtain⟨u0,y0,_,aw,a5,ab⟩:=hR;refine⟨_,aw,fun w6 z ac=>?_⟩;refine A8<|Ao<|Ak<|Ae (Ag 2 rfl Tryz.underlying131 rfl z rfl rfl) rfl<|Aq 1 rfl<|Ac<|Ay<|ZN (i:=1) (l:=[.tmp 4]) rfl rfl z rfl ?_;intro w7 aa ad;exact⟨aa.ext,aa.GQ hH (i:=3) rfl ((ab.mono (Ab hH ac)).mono (Ab hH ad))⟩
theorem RJ(w:World)(H:PH)(hH:Le H (hp w))(hU:D9 H){a:Value}{a0:List UInt8}(b:Iter H a a0){r:List (List UInt8×Int×Int)}(h:Mk a0=some r):
  Ok Tryz.prog 128 [a] w (fun v w'=>Ext w w'∧∃ c,v=c∧C2 135 rpW H w w' c r):=by
 obtain⟨p,u,rfl,h2,h3⟩:=b;refine A4 (n:=5) [(0,.func (.func 180) #[] #[.pointer (some p)])] Tryz.func128 rfl rfl rfl rfl rfl<|Ak<|Aq 1 rfl<|Ac<|Ak<|Aq 1 rfl<|DA rfl rfl (TE w H hH hU h2 h3 h) ?_;intro v w' ⟨hx,ho⟩;refine Aq 1 rfl<|Ac<|Ay<|Am rfl rfl ⟨hx,_,rfl,ho⟩
end Go.Proofs.YtekmbcbgknmhiaaGreatDoor
end
noncomputable section
namespace Go.Proofs.YtekmbcbgknmhiaaGreatDoor
open Go Go.E Go.RowKit Go.L
set_option maxHeartbeats 1000000
set_option maxRecDepth 10000
open _root_.Go.Proofs.Tryz
def L6(a0:AaK):Option ((List (AaK×Int×Int))×(Int×Int)):=
 if(2048:Int)<(a0.length:Int) then none else Option.bind (Mk a0) (fun a=>some (a,((0:Int),(0:Int))))
theorem RL(w:World)(H:PH)(hH:Le H (hp w))(hU:D9 H){a0:AaK}{a:Value}(b:AI .byte H a (a0)){r:(List (AaK×Int×Int))×(Int×Int)}(h:L6 a0=some r):
  Ok Tryz.prog 79 [a] w (fun v w'=>Ext w w'∧∃ m,v=.tuple #[m,.agg #[No r.2.1,No r.2.2]]∧C2 135 (.pair .st (.pair (.int .i64) (.int .i64))) H w w' m (r.1)):=by
 refine A4 (n:=12) [(0,a)] func79 rfl rfl rfl rfl rfl ?_;have hL:=AO.start w;refine Bk 1 rfl<|AG AR rfl rfl hL fun w1 b1 c x _=>Ac<|A7<|Bk 1 rfl<|Ae (Bo rfl Abe b) rfl<|AA 1 rfl<|AM rfl h (fun o h=>?_) (fun o h=>?_)
 ·cases h
 refine Au<|Ao<|Bk 1 rfl<|Bs rfl rfl c (UJ _ _ (As hH c) (b.mono (Ah hH))) ?_;intro u5 w5 p q d y;have s:=p.mono (Dv hH c q);refine Ax h fun x6 t h=>?_;refine Bs rfl rfl d (RJ _ _ (As hH d) (hU.mono (Ah hH)) s t) ?_;rintro z w7 ⟨_,rfl,g⟩ u j k;obtain⟨aa,j,k,e⟩:=g.take hH d u;refine Ae (AZ rfl (fun _=>BY _)) rfl<|Aq 1 rfl<|Aj 1 rfl rfl rfl AR j rfl rfl (AH rfl (AH rfl Cj)) fun w8 f l=>Ac<|Ay ?_
 cases h
 refine C9 rfl (.tmp rfl) (.cell rfl Abs rfl AR (AT (i:=1) f rfl)) ?_;have e:=e.mono (Ab hH l);exact⟨f.ext,_,rfl,(f.GQ hH (i:=0) rfl e)⟩
def Iw(a0:AaK):Option (Bool):=
 AU (a0.length≤9223372036854775807) (Option.bind (Mk a0) (fun a=>if(a.length:Int)=(1:Int) then AU (0≤(0:Int)∧(0:Int)<(a.length:Int)) (some (decide ((a.getD ((0:Int).toNat) default).1=a0))) else some (false)))
theorem Q9(w:World)(H:PH)(hH:Le H (hp w))(hU:D9 H){a0:AaK}{r:Bool}(h:Iw a0=some r):
  Ok Tryz.prog 157 [AaJ a0] w (fun v w'=>Ext w w'∧v=.bool r):=by
 refine A4 (n:=19) [(0,(AaJ a0))] func157 rfl rfl rfl rfl rfl ?_;have hL:=AO.start w;refine A9 1 rfl<|Bk 1 rfl ?_;refine Az h fun j h=>?_;refine XQ (H:=H) rfl Abb Abe Ab9 rfl hL j fun v1 w1 aa c u k=>Bs rfl rfl c (UJ _ _ (As hH c) k) ?_;intro u3 w3 l m d x;have o:=l.mono (Dv hH c m);refine Ax h fun x4 p h=>?_;refine Bs rfl rfl d (RJ _ _ (As hH d) (hU.mono (Ah hH)) o p) ?_;rintro y w5 ⟨_,rfl,f⟩ q e z;have b:=f.CA hH d q;refine AA 1 rfl<|Bk 1 rfl<|Ae (Bo rfl AcR b) rfl<|Aq 2 rfl<|AQ (s:=11) rfl (fun a=>?_) (fun a=>?_)
 ·have h:=BO (of_decide_eq_true a) h;refine Aa rfl rfl a<|Ae (Ad rfl) rfl<|Aa rfl rfl a ?_;refine Az h fun g h=>?_;refine Bb rfl rfl AcR KR b ((0:Int).toNat) (EM g) (AW g) rfl ?_;rintro p8 _ ⟨_,_,rfl,rfl,⟨_,_,rfl,rfl,rfl⟩⟩ t;refine Aa rfl rfl a<|Ae (Af rfl AcQ rfl Fu (by decide)) rfl ?_;have i:=t.add 0;refine Aa rfl rfl a<|Ae (Be rfl Abb rfl i (As hH e)) rfl<|Aa rfl rfl a<|Ae (Ad rfl) rfl<|Aa rfl rfl a<|Ae (KN rfl rfl) rfl<|Ae (A1 rfl a rfl) rfl<|AA 1 rfl<|Ay ?_
  cases h
  refine Am rfl rfl ?_;exact⟨e.ext,rfl⟩
 have h:=BP (of_decide_eq_false a) h
 iterate 6 refine Ai rfl rfl a rfl ?_
 refine Ae (A3 rfl a rfl) rfl<|AA 1 rfl<|Ay ?_
 cases h
 refine Am rfl rfl ?_;exact⟨e.ext,rfl⟩
def HZ(a0:AaK):Option ((Int×Int)):=
 if(64:Int)<(a0.length:Int) then Option.bind (Kn (3:Int) (-1:Int)) (fun b=>some ((b.1,b.2))) else Option.bind (Iw a0) (fun c=>if !c then Option.bind (Kn (6:Int) (-1:Int)) (fun a=>some ((a.1,a.2))) else some (((0:Int),(0:Int))))
theorem N8(w:World)(H:PH)(hH:Le H (hp w))(hU:D9 H){a0:AaK}{r:(Int×Int)}(h:HZ a0=some r):
  Ok Tryz.prog 102 [AaJ a0] w (fun v w'=>Ext w w'∧v=.agg #[No r.1,No r.2]):=by
 refine A4 (n:=12) [(0,(AaJ a0))] func102 rfl rfl rfl rfl rfl ?_;have hL:=AO.start w;refine Ak<|AG AR rfl rfl hL fun w1 b1 a t _=>Ac<|A7<|Bk 1 rfl<|Ae (De rfl Abb) rfl<|AA 1 rfl<|AM rfl h (fun k h=>?_) (fun k h=>?_)
 ·refine Ak ?_;refine Ax h fun x4 l h=>?_;refine AF rfl rfl a (N2 _ _ (As hH a) l) fun w5 aa m u=>Aj 0 rfl rfl rfl AR m rfl rfl (AH rfl (AH rfl Cj)) fun w6 e x=>Ac<|Ay<|Av ?_
  cases h
  refine BB rfl (.cell rfl Abs rfl AR (AT (i:=0) e rfl)) ?_;exact⟨e.ext,rfl⟩
 refine Au<|Ao<|A7<|Bk 1 rfl ?_;refine Ax h fun x8 o h=>?_;refine AF rfl rfl a (Q9 _ _ (As hH a) (hU.mono (Ah hH)) o) fun w9 ab b y=>AA 1 rfl<|Bl rfl h (fun f h=>?_) (fun f h=>?_)
 ·refine Ak ?_;refine Ax h fun ac g h=>?_;refine AF rfl rfl b (N2 _ _ (As hH b) g) fun ad z j p=>Aj 0 rfl rfl rfl AR j rfl rfl (AH rfl (AH rfl Cj)) fun ae c q=>Ac<|Ay<|Av ?_
  cases h
  refine BB rfl (.cell rfl Abs rfl AR (AT (i:=0) c rfl)) ?_;exact⟨c.ext,rfl⟩
 refine Au<|Ao<|Ak<|Ae (AZ rfl (fun _=>BY _)) rfl<|Aj 0 rfl rfl rfl AR b rfl rfl (AH rfl (AH rfl Cj)) fun af d s=>Ac<|Ay ?_
 cases h
 refine BB rfl (.cell rfl Abs rfl AR (AT (i:=0) d rfl)) ?_;exact⟨d.ext,rfl⟩
end Go.Proofs.YtekmbcbgknmhiaaGreatDoor
end
noncomputable section
namespace Go.Proofs.YtekmbcbgknmhiaaGreatDoor
open Go Go.E Go.RowKit Go.Shelf Go.Maps Go.Sort Go.WideElems Go.MapKept
abbrev rpH:Rp (Int×Int):=.pair (.int .i64) (.int .i64)
abbrev Acv(H:PH)(v:Value)(l:List (List UInt8×List (Int×Int))):Prop:=Sm encS (.vec rpH) H v l
def UK(H:PH)(v:Value)(l:List (List UInt8×List (Int×Int))):Prop:=∃ b u,v=.func (.func 184) #[] #[.pointer (some ⟨b,0,none⟩)]∧H b=some (.cells #[u] 130 (0,0))∧Acv H u l
theorem UK.mono{H H':PH}{v:Value}{l:List (List UInt8×List (Int×Int))}(h:UK H v l)(hs:Le H H'):UK H' v l:=by
 obtain⟨b,u,a,h2,h3⟩:=h;exact⟨b,u,a,hs _ _ h2,h3.mono hs⟩
theorem Aap(w:World)(H:PH)(hH:Le H (hp w)){v:Value}{l:List (List UInt8×List (Int×Int))}(hm:Acv H v l):Ok Tryz.prog 131 [v] w (fun v' w'=>Ext w w'∧UK (un H (nw w w')) v' l):=by
 obtain⟨b,vs,rfl,h⟩:=id hm;have hc:CallsIn Fence.wide 5 Tryz.prog 131 #[.map (some b)] w fun e w'=>e=.returned (.func (.func 184) #[] #[.pointer (some ⟨w.heap.size,0,none⟩)])∧w'=w.alloc (.cells #[.map (some b)] 130):=AnyZ.keys_in Tryz.AaG Fence.wide 5 trivial rfl (some b) w;refine⟨⟨Tryz.f131,_,Tryz.func131,rfl,rfl⟩,(callsIn_wide.1 hc).mono fun e w' he=>?_⟩;obtain⟨rfl,rfl⟩:=he;refine⟨_,rfl,C0 w _,w.heap.size,.map (some b),rfl,?_,hm.mono (JJ hH)⟩;refine FX _ _ ?_;unfold nw;rw [if_pos (Nat.le_refl _)];exact World.alloc_heap_new w _
theorem NT{κ:Type}{enc:κ→Value}:∀ (l:List κ) (vs:List Value) (i:Nat),l.length=vs.length→(mE enc i l vs).map (·.born)=List.range' i l.length
 | [],[],_,_=>rfl
 | a::l,u::vs,i,h=>by
  simp only [mE,List.map_cons,List.length_cons,List.range'_succ];rw [NT l vs (i+1) (by simpa using h)]
theorem TF{κ:Type}{enc:κ→Value}:∀ (l:List κ) (vs:List Value) (i:Nat),l.length=vs.length→(mE enc i l vs).map (·.key)=l.map enc
 | [],[],_,_=>rfl
 | a::l,u::vs,i,h=>by
  simp only [mE,List.map_cons];rw [TF l vs (i+1) (by simpa using h)]
def YC:Value→Option (DataW Unit×List MemPlace):=fun _=>some (.nil,[])
theorem UL{P:Program}{k:TypeId}(hk:P.underlying k=some .string){s:List UInt8}(h:s.length≤maxLen):keyOf P k (encS s)=some (.string s):=by
 have:(ByteArray.mk s.toArray).size≤maxLen:=h;simp [keyOf,hk,mapKey,encS,this]
theorem AaX{P:Program}{k:TypeId}(hk:P.underlying k=some .string):∀ (l:List (List UInt8)) (vs:List Value) (i:Nat),l.length=vs.length→(∀ x∈l,x.length≤maxLen)→
  (mE encS i l vs).map (rg P k YC)=l.map fun s=>(Lit.string s,(DataW.nil:DataW Unit))
 | [],[],_,_,_=>rfl
 | a::l,u::vs,i,h,hb=>by
  simp only [mE,List.map_cons];rw [AaX hk l vs (i+1) (by simpa using h) (fun x hx=>hb x (.tail _ hx))]
  congr 1
  simp [WideElems.rg,WideElems.rd,UL hk (hb a (.head _)),YC]
def QP{β:Type}(l:List (List UInt8×β)):Prop:=(l.map Prod.fst).Nodup∧(∀ x∈l.map Prod.fst,x.length≤maxLen)∧l.length * 16≤140737488355328
noncomputable instance {β:Type} (l:List (List UInt8×β)):Decidable (QP l):=Classical.propDecidable _
def Lc{β:Type}(l:List (List UInt8×β)):Option (List (List UInt8)):=Go.L.AU (QP l) (some ((l.map Prod.fst).mergeSort leB))
theorem Acw(m:Nat):AnyZ.SortsIn Tryz.prog Tryz.Qg Fence.wide m:=
 ⟨fun blk off cap ss W hH hblk hsz=>callsIn_wide.2 (Any.slices_Sort_string Tryz.AaE blk off cap ss W hH hblk hsz),
  fun p cap W=>callsIn_wide.2 (Any.slices_Sort_string_none Tryz.AaE p cap W)⟩
theorem SP(G:PH):∀ l:List (List UInt8),AJ Rp.st G l (l.map Go.Proofs.encStr)
 | []=>.nil
 | _::l=>.cons (c:=[_]) rfl (SP G l)
theorem Xg(w:World)(H:PH)(hH:Le H (hp w)){v:Value}{l:List (List UInt8×List (Int×Int))}(hi:UK H v l){r:List (List UInt8)}(h:Lc l=some r):
  Ok Tryz.prog 130 [v] w (fun v' w'=>Ext w w'∧∃ f,v'=f∧C2 9 .st H w w' f r):=by
 obtain⟨⟨hnd,hlen,hby⟩,h⟩:=Go.L.EN h;obtain rfl:=Option.some.inj h;obtain⟨bx,u,rfl,hbx,b,vs,rfl,hb,hl,_⟩:=hi;have hbx':w.heap[bx]? = _:=hH _ _ hbx;have hb':w.heap[b]? = _:=hH _ _ hb;have hlk:(l.map Prod.fst).length=vs.length:=by rw [List.length_map];exact hl
 have hml:(mE encS 0 (l.map Prod.fst) vs).length=l.length:=by rw [PD _ _ _ hlk,List.length_map]
 have hrg:=AaX (P:=Tryz.prog) Tryz.underlying9 (l.map Prod.fst) vs 0 hlk hlen
 have hown:w.ownsMap Tryz.prog 9 YC b l.length (.map (((mE encS 0 (l.map Prod.fst) vs).map (rg Tryz.prog 9 YC)).foldr DataW.insert [])):=by
  refine⟨_,_,hb',⟨?_,⟨?_,?_,?_⟩,?_⟩,?_,rfl⟩
  ·rw [List.size_toArray,hml];unfold maxLen;omega
  ·intro x hx;have c:x.born∈(mE encS 0 (l.map Prod.fst) vs).map (·.born):=List.mem_map_of_mem (by simpa using hx);rw [NT _ _ _ hlk,List.mem_range'_1,List.length_map] at c;omega
  ·rw [List.toList_toArray,NT _ _ _ hlk];exact List.nodup_range'
  ·rw [List.toList_toArray,TF _ _ _ hlk];exact List.pairwise_map.2 (hnd.imp fun {a b} hab he=>hab (by simpa [encS] using he))
  ·intro x hx;have hx':x∈mE encS 0 (l.map Prod.fst) vs:=by simpa using hx
   have c:x.key∈(mE encS 0 (l.map Prod.fst) vs).map (·.key):=List.mem_map_of_mem hx';rw [TF _ _ _ hlk] at c;obtain⟨s,hs,he⟩:=List.mem_map.1 c;exact⟨(.string s,.nil),by simp [WideElems.rd,← he,UL Tryz.underlying9 (hlen s hs),YC]⟩
  ·rw [List.size_toArray,hml];exact Nat.le_refl _
 rw [hrg] at hown
 have hq:∀ ks:List (List UInt8),(strKeys (.map ((ks.map fun s=>(Lit.string s,(DataW.nil:DataW Unit))).foldr DataW.insert []))).Perm ks:=fun ks=>by
  have c:=(WideShapes.sorted_perm (ks.map fun s=>(Lit.string s,(DataW.nil:DataW Unit)))).map (fun p=>strOf p.1);rw [List.map_map] at c;have h2:((fun p:Lit×DataW Unit=>strOf p.1)∘fun s=>(Lit.string s,(DataW.nil:DataW Unit)))=id:=by funext s;rfl
  rw [h2,List.map_id] at c;exact c
 have hperm:=hq (l.map Prod.fst)
 have hsz:Go.Maps.size (.map (((l.map Prod.fst).map fun s=>(Lit.string s,(DataW.nil:DataW Unit))).foldr DataW.insert []))=l.length:=by
  have c:=(WideShapes.sorted_perm ((l.map Prod.fst).map fun s=>(Lit.string s,(DataW.nil:DataW Unit)))).length_eq;rw [List.length_map,List.length_map] at c;exact c
 have hseq:SeqGives Fence.wide 2 Tryz.prog 184 #[.pointer (some ⟨bx,0,none⟩)] Go.Proofs.encStr (fun ss=>ss.Perm (strKeys (.map (((l.map Prod.fst).map fun s=>(Lit.string s,(DataW.nil:DataW Unit))).foldr DataW.insert [])))) (Go.Maps.size (.map (((l.map Prod.fst).map fun s=>(Lit.string s,(DataW.nil:DataW Unit))).foldr DataW.insert []))) w:=
  AnyZ.keys_gives (ρ:=Tryz.S4) {Tryz.AaG with} Fence.wide _ trivial rfl (by omega) bx b l.length _ _ (lt_of_heap hbx') (by simp [World.cell?,hbx']) hown
 have cS:=AnyZ.sorted_in Tryz.Zz Fence.wide 5 trivial trivial trivial trivial rfl (by omega) (Acw _) (enters_of Tryz.func183 (by kernel_rfl) rfl) 184 #[.pointer (some ⟨bx,0,none⟩)] trivial (enters_of Tryz.func184 (by kernel_rfl) rfl) _ _ (by rw [hsz];unfold maxLen;omega) (by rw [hsz];exact hby) _ hseq
 change CallsIn _ _ Tryz.prog 130 _ _ _ at cS
 refine⟨⟨Tryz.f130,_,Tryz.func130,rfl,rfl⟩,(callsIn_wide.1 cS).mono fun e w' he=>?_⟩;obtain⟨v',ss,rfl,hS,hrow,_,hbel⟩:=he;refine⟨_,rfl,Ext.off hbel,v',rfl,_,?_,SP _ _⟩;have d:ss.mergeSort leB=(l.map Prod.fst).mergeSort leB:=mergeSort_of_perm (hS.trans hperm);have g:ss.length=((l.map Prod.fst).mergeSort leB).length:=by rw [← d];simp
 rw [g] at hrow;rw [← d];rw [← d] at hrow;exact hrow
end Go.Proofs.YtekmbcbgknmhiaaGreatDoor
end
