/- Texts of a claim, merged. -/
import Derived.Test.YtekmbcbgknmhiaaGreatDoorLc3
import Derived.KernelRfl
import Derived.Shelf.Strings.FuncGrows
import Derived.Maps.RangeRun
set_option linter.unusedVariables false
set_option linter.unusedSimpArgs false
open _root_.Go.Proofs.Tryz renaming underlying9->Ab1,underlying23->AbF,underlying58->Abm,underlying3->Abn,underlying142->Abw,underlying5->Ac5,underlying22->Ac7,underlying64->Ac8,underlying131->AcH,underlying135->AcP,underlying28->Ack,underlying171->Ad4,underlying21->Adm,underlying205->Ae9,underlying196->AeR,underlying130->AeV,underlying94->Af0,underlying203->Af1,underlying47->Af2,underlying49->Af3,underlying139->Af4,underlying192->Af5,underlying44->Af6,underlying46->Af7,underlying137->Af8,underlying109->Aft,underlying62->Afz
noncomputable section
namespace Go.Proofs.YtekmbcbgknmhiaaGreatDoor
open Go Go.E Go.RowKit Go.L
set_option maxHeartbeats 1000000
set_option maxRecDepth 10000
open _root_.Go.Proofs.Tryz
def IF(a0 a1:Int):Option ((Int×Int)):=
 some ((a0,a1))
theorem NR(w:World)(H:PH)(_hH:Le H (hp w)){a0 a1:Int}{r:(Int×Int)}(h:IF a0 a1=some r):
  Ok prog 81 [No a0,No a1] w (fun v w'=>Ext w w'/\v=.agg #[No r.1,No r.2]):=by
 refine A3 (n:=8) [(0,No a0),(1,No a1)] func81 rfl fun hL=>Am<|AH AW rfl rfl hL fun e f b c _=>Ac<|Bi 2 rfl<|Ag (AR rfl (fun _=>OX _ _ _)) rfl<|Ah 0 rfl AW b rfl (Bc rfl) fun g a d=>Ac<|Ax ?_
 cases h
 refine BH rfl (.cell rfl Ack rfl AW (AL (i:=0) a rfl)) ⟨a.ext,rfl⟩
def strings_Split(a0:Abk)(a1:Abk):Option ((List Abk)):=
 Option.bind (Nj a0 a1 (0:Int) (-1:Int)) (fun a=>some a)
theorem Nk(w:World)(H:PH)(hH:Le H (hp w)){a0 a1:Abk}{r:(List Abk)}(h:strings_Split a0 a1=some r):
  Ok prog 113 [Abj a0,Abj a1] w (fun v w'=>Ext w w'/\∃ d,v=d/\BN 9 .st H w w' d r):=by
 refine A3 (n:=8) [(0,(Abj a0)),(1,(Abj a1))] func113 rfl fun hL=>AD 1 rfl<|Bi 2 rfl<|Ay h fun l e h=>Bn rfl rfl hL (Wl _ _ (Ar hH hL) e) ?_;rintro j m ⟨_,rfl,b⟩ f a c;obtain⟨k,a,c,g⟩:=b.take hH hL f;refine A4 1 rfl<|Ax ?_
 cases h
 refine Ak rfl ⟨a.ext,_,rfl,(a.Ge hH (i:=0) rfl g)⟩
def IG(a0:Abk):Option ((List Abk)):=
 if a0=([]:Abk) then some ([]) else Option.bind (strings_Split a0 ([47]:Abk)) (fun a=>some a)
theorem RJ(w:World)(H:PH)(hH:Le H (hp w)){a0:Abk}{r:(List Abk)}(h:IG a0=some r):
  Ok prog 158 [Abj a0] w (fun v w'=>Ext w w'/\∃ d,v=d/\BN 9 .st H w w' d r):=by
 refine A3 (n:=7) [(0,(Abj a0))] func158 rfl fun hL=>AD 1 rfl<|A7<|Bi 1 rfl<|Ag (Mm rfl rfl) rfl<|Ac<|AM rfl h (fun e h=>?_) (fun e h=>?_)
 ·refine AD 1 rfl<|Ax<|An ?_
  cases h
  refine Ak rfl ⟨hL.ext,_,rfl,BN.nil⟩
 refine Av<|Ao<|Bi 1 rfl<|Ay h fun m f h=>Bn rfl rfl hL (Nk _ _ (Ar hH hL) f) ?_;rintro k o ⟨_,rfl,b⟩ g a c;obtain⟨l,a,c,j⟩:=b.take hH hL g;refine A4 1 rfl<|Ax ?_
 cases h
 refine Ak rfl ⟨a.ext,_,rfl,(a.Ge hH (i:=0) rfl j)⟩
def BA(a0:Int):Option Bool:=
 if(0<=a0)/\(a0<55296) then some true else(if(57343<a0)/\(a0<=1114111) then some true else some false)
theorem Mf(w:World)(H:PH)(_hH:Le H (hp w)){a0:Int}{r:Bool}(h:BA a0=some r):
  Ok prog 267 [.int .i32 a0] w (fun v w'=>Ext w w'/\v=.bool r):=by
 refine A3 (n:=17) [(0,.int .i32 a0)] func267 rfl fun hL=>AD 1 rfl<|A7<|A5<|Bi 3 rfl<|MS 2 2 rfl rfl rfl rfl rfl rfl<|A4 1 rfl<|AM rfl h (fun a h=>?_) (fun a h=>?_)
 ·refine AD 1 rfl<|Ax<|Aq<|An ?_
  cases h
  refine Ak rfl ⟨hL.ext,rfl⟩
 refine Bi 3 rfl<|MS 2 2 rfl rfl rfl rfl rfl rfl<|A4 1 rfl<|AM rfl h (fun b h=>?_) (fun b h=>?_)
 ·refine AD 1 rfl<|Ax<|Aq<|An ?_
  cases h
  refine Ak rfl ⟨hL.ext,rfl⟩
 refine Av<|AF<|Ao<|AD 1 rfl<|Ax ?_
 cases h
 refine Ak rfl ⟨hL.ext,rfl⟩
def Gs:Option Int:=
 some ((-1))
def B8(a0:Abk):Nat->Option ((Nat) ⊕ (Int)):=fun a=>
 if a<a0.length then(if((Md a0 a).1:Int)=65533 then Option.map Sum.inr (some ((a:Int))) else some (Sum.inl (a+(Md a0 a).2))) else Option.map Sum.inr Gs
def C7(a0:Abk)(s:Nat):Option Int:=Go.L.run (B8 a0) s
def Gt(a1 a:Int):Option ((Int) ⊕ (Int)):=
 AS (B0 (a - (((E0 a1).length:Int) - 1))) (Option.map Sum.inr (some ((a - (((E0 a1).length:Int) - 1)))))
def FW(a0:Abk)(a1 b:Int):Int->Option ((Int) ⊕ ((Int) ⊕ (Int))):=fun a=>
 if a<((E0 a1).length:Int) then AS (B0 (b - a)) (AS (0<=(b - a)/\(b - a)<(a0.length:Int)) (AS (B0 ((((E0 a1).length:Int) - 1) - a)) (AS (0<=((((E0 a1).length:Int) - 1) - a)/\((((E0 a1).length:Int) - 1) - a)<((E0 a1).length:Int)) (if((a0.getD (b - a).toNat default).toNat:Int)=(((E0 a1).getD ((((E0 a1).length:Int) - 1) - a).toNat default).toNat:Int) then AS (B0 (a+1)) (some (Sum.inl (a+1))) else none)))) else Option.map Sum.inr ((Gt a1 b))
def It(a0:Abk)(a1 a s:Int):Option ((Int) ⊕ (Int)):=Go.L.run (FW a0 a1 a) s
def E7(a0:Abk)(a1 a:Int):Option ((Int) ⊕ (Int)):=
 (It a0 a1 a) (1:Int)
def Gu:Option Int:=
 some ((-1))
def Dn(a0:Abk)(a1:Int):Int->Option ((Int) ⊕ (Int)):=fun a=>
 if a<(a0.length:Int) then AS (0<=a/\a<(a0.length:Int)) (AS (0<=(((E0 a1).length:Int) - 1)/\(((E0 a1).length:Int) - 1)<((E0 a1).length:Int)) (if((a0.getD a.toNat default).toNat:Int)=(((E0 a1).getD (((E0 a1).length:Int) - 1).toNat default).toNat:Int) then(E7 a0 a1) a else AS (B0 (a+1)) (AS (0<=(a+1)/\(a+1)<=(a0.length:Int)) (AS (0<=(((E0 a1).length:Int) - 1)/\(((E0 a1).length:Int) - 1)<((E0 a1).length:Int)) (Option.bind (OA (a0.drop (a+1).toNat) ((E0 a1).getD (((E0 a1).length:Int) - 1).toNat default)) (fun b=>if b<0 then Option.map Sum.inr (some ((-1))) else AS (B0 (b+1)) (AS (B0 (a+(b+1))) ((E7 a0 a1) (a+(b+1)))))))))) else Option.map Sum.inr Gu
def Iu(a0:Abk)(a1 s:Int):Option Int:=Go.L.run (Dn a0 a1) s
def BT(a0:Abk)(a1:Int):Option Int:=
 if(0<=a1)/\(a1<128) then Option.bind (OA a0 (Go.L.u8 a1)) (fun b=>some b) else(if a1=65533 then(C7 a0) (0:Nat) else Option.bind (BA a1) (fun a=>if !a then some ((-1)) else AS (B0 (((E0 a1).length:Int) - 1)) ((Iu a0 a1) (((E0 a1).length:Int) - 1))))
theorem Iv(w:World)(H:PH)(hH:Le H (hp w)){a0:Abk}{a1 r:Int}(h:BT a0 a1=some r):
  Ok prog 219 [Abj a0,.int .i32 a1] w (fun v w'=>Ext w w'/\v=No r):=by
 refine A3 (n:=187) [(0,(Abj a0)),(1,.int .i32 a1)] func219 rfl fun hL=>AD 1 rfl<|A5<|Bi 3 rfl<|MS 2 2 rfl rfl rfl rfl rfl rfl<|A4 1 rfl<|AM rfl h (fun bl h=>?_) (fun bl h=>?_)
 ·refine Bi 2 rfl<|Ag (DE Adm Ac5 rfl (Hm _)) rfl<|Ay h fun x3 bm h=>AA rfl rfl hL (Sk _ _ (Ar hH hL) bm) fun w4 cb bn bz=>A4 1 rfl<|Ax<|Aq ?_
  cases h
  refine Ak rfl ⟨bn.ext,rfl⟩
 refine AD 3 rfl<|AM rfl h (fun bo h=>?_) (fun bo h=>?_)
 ·refine Bo (σ:=Unit) (fun(_:Unit)=>[]) (fun(_:Unit) wr=>Bd w [] wr/\Gs=some r) ?_ ?_
  ·refine Bi 1 rfl<|VZ rfl Ab1 rfl hL fun cc bc bd bp=>Ac<|A5 ?_;obtain⟨x,h⟩:=AZ h;refine Bx (σ:=Nat×Nat) (fun⟨d,n⟩=>[(175,(Abi bc))]) (fun⟨d,n⟩ wr=>Bd w [.obj bc (.stringIter ⟨(a0).toArray⟩ d)] wr/\F6 (B8 a0) n d=some r) (fun⟨d,n⟩=>n) ((0:Nat),x) (Sub.of rfl) ⟨bd,h⟩ ?_;rintro⟨d,nn36⟩ b0 ⟨y,h⟩;obtain⟨x,cd,rfl,h,f⟩:=AY h;refine Am<|XQ (l:=a0) (p:=d) 0 rfl rfl y rfl (fun g=>?_) (fun g=>?_)
   ·have h:=BI g h;intro ce z bq;refine A4 1 rfl<|A7<|Cg rfl<|Av<|Ao<|A5<|AD 4 rfl<|AD 2 rfl<|AM rfl h (fun be h=>?_) (fun be h=>?_)
    ·refine AD 2 rfl<|Ax<|Aq<|By ?_;have h:=BP.out h f;refine Aq<|Bs<|Aq ?_
     cases h
     refine Ak rfl ⟨z.ext,rfl⟩
    refine Av<|AF ?_;have h:=BP.again h f;refine AN ((d+(Md a0 d).2),x) (Sub.of rfl) ⟨z,h⟩ (Nat.lt_succ_self _)
   have h:=BJ g h;refine A4 1 rfl<|A7<|Cr rfl<|Br<|AG<|A6 ?_;have h:=BP.out h f;refine Be ?_;have bf:=y.AQ (i:=0) rfl;refine A8 () (Sub.nil _) ⟨bf,h⟩
  rintro _ b1 ⟨bg,h⟩;refine AD 1 rfl<|Ax<|Aq ?_
  cases h
  refine Ak rfl ⟨bg.ext,rfl⟩
 refine Bi 1 rfl<|Ay h fun cf bh h=>AA rfl rfl hL (Mf _ _ (Ar hH hL) bh) fun cg b2 aa br=>A4 2 rfl<|Bb rfl h (fun bi h=>?_) (fun bi h=>?_)
 ·refine AD 1 rfl<|Ax<|Aq ?_
  cases h
  refine Ak rfl ⟨aa.ext,rfl⟩
 refine UM<|Bi 1 rfl<|Ag (Aeo rfl Adm Ab1) rfl<|A4 1 rfl<|Bi 1 rfl<|Ag (Cv rfl Ab1) rfl<|Az h fun bj h=>Ag (A1 rfl bj) rfl<|A4 1 rfl<|AD 2 rfl<|AD 1 rfl<|Bo (σ:=Unit) (fun(_:Unit)=>[]) (fun(_:Unit) wr=>Bd w [] wr/\Gu=some r) ?_ ?_
 ·refine A5 ?_;obtain⟨ab,h⟩:=AZ h;refine Bx (σ:=Int×Nat) (fun⟨c,n⟩=>[(0,(Abj a0)),(7,.string ⟨((E0 a1)).toArray⟩),(8,No (((E0 a1).length:Int) - 1)),(9,No c)]) (fun⟨c,n⟩ wr=>Bd w [] wr/\F6 (Dn a0 a1) n c=some r) (fun⟨c,n⟩=>n) ((((E0 a1).length:Int) - 1),ab) (Sub.of rfl) ⟨aa,h⟩ ?_;rintro⟨c,nn253⟩ bs ⟨m,h⟩;obtain⟨ab,j,rfl,h,e⟩:=AY h;refine A7<|Bi 2 rfl<|Ag (Cv rfl Ab1) rfl<|A4 1 rfl<|AM rfl h (fun ac h=>?_) (fun ac h=>?_)
  ·refine Av<|Ao<|A5<|UM<|Bo (σ:=Int) (fun a=>[(0,(Abj a0)),(7,.string ⟨((E0 a1)).toArray⟩),(8,No (((E0 a1).length:Int) - 1)),(9,No a)]) (fun a wr=>Bd w [] wr/\(E7 a0 a1) a=some j) ?_ ?_
   ·refine DD (.q 0 (.q 1 (.q 2 (.q 3 (.q 4 (.q 5 (.q 6 (.tail 7)))))))) mixed (by kernel_rfl) (fun b3 ad=>?_);have ae:=m.call ad;refine Df 2 rfl<|Az h fun af h=>BQ (Dz rfl rfl Ab1 af) rfl rfl<|Df 2 rfl<|Az h fun ag h=>BQ (Dz rfl rfl Ab1 ag) rfl rfl<|Df 1 rfl<|Cd (fun b4 ah=>?_);have o:=ae.call ah;refine Ac<|BV rfl h (fun ai h=>?_) (fun ai h=>?_)
    ·refine DD (.q 0 (.q 1 (.q 2 (.q 3 (.q 4 (.q 5 (.q 6 (.q 7 (.q 8 (.tail 9)))))))))) mixed (by kernel_rfl) (fun b5 aj=>?_);have ak:=o.call aj;refine Df 2 rfl<|Az h fun al h=>BQ (A1 rfl al) rfl rfl<|Az h fun am h=>BQ (QU rfl rfl Ab1 am) rfl rfl<|Df 2 rfl<|Az h fun an h=>BQ (Dz rfl rfl Ab1 an) rfl rfl<|Ay h fun bk ao h=>Ec rfl rfl rfl (fun b6 bt=>Sk _ _ (Le.refl _) ao)<|Df 1 rfl<|Cd (fun b7 ap=>?_);have s:=ak.call ap;refine Ac<|A7<|AD 2 rfl<|AM rfl h (fun aq h=>?_) (fun aq h=>?_)
     ·refine AD 1 rfl<|Ax<|An<|Bs<|I5<|Aq<|By ?_;have h:=BP.out h e;refine Aq<|Bs<|I5<|Aq ?_
      cases h
      refine Ak rfl ⟨s.ext,rfl⟩
     refine Av<|Ao<|Aw<|As 2 rfl<|Az h fun ar h=>Ag (A1 rfl ar) rfl<|Az h fun au h=>Ag (A1 rfl au) rfl<|As 1 rfl<|AK<|A8 (c+(bk+1)) (Sub.of rfl) ⟨s,h⟩
    refine Av<|A8 c (Sub.of rfl) ⟨o,h⟩
   rintro a bu ⟨av,h⟩;refine Bo (σ:=Unit) (fun(_:Unit)=>[(8,No (((E0 a1).length:Int) - 1)),(9,No a)]) (fun(_:Unit) wr=>Bd w [] wr/\(Gt a1 a)=some j) ?_ ?_
   ·refine AD 1 rfl<|A5 ?_;obtain⟨k,h⟩:=AZ h;refine Bx (σ:=Int×Nat) (fun⟨b,n⟩=>[(0,(Abj a0)),(7,.string ⟨((E0 a1)).toArray⟩),(8,No (((E0 a1).length:Int) - 1)),(9,No a),(12,No b)]) (fun⟨b,n⟩ wr=>Bd w [] wr/\F6 (FW a0 a1 a) n b=some j) (fun⟨b,n⟩=>n) (1,k) (Sub.of rfl) ⟨av,h⟩ ?_;rintro⟨b,nn363⟩ bv ⟨t,h⟩;obtain⟨k,b8,rfl,h,u⟩:=AY h;refine A7<|Bi 2 rfl<|Ag (Cv rfl Ab1) rfl<|A4 1 rfl<|AM rfl h (fun aw h=>?_) (fun aw h=>?_)
    ·refine Av<|Ao<|A7<|A5<|DD (.q 0 (.q 1 (.q 2 (.q 3 (.q 4 (.q 5 (.q 6 (.q 7 (.q 8 (.q 9 (.q 10 (.tail 11)))))))))))) mixed (by kernel_rfl) (fun b9 ax=>?_);have ay:=t.call ax;refine Df 3 rfl<|Az h fun az h=>BQ (A1 rfl az) rfl rfl<|Az h fun a2 h=>BQ (Dz rfl rfl Ab1 a2) rfl rfl<|Df 3 rfl<|Az h fun a3 h=>BQ (A1 rfl a3) rfl rfl<|Az h fun a4 h=>BQ (Dz rfl rfl Ab1 a4) rfl rfl<|Df 1 rfl<|Cd (fun ca a5=>?_);have a6:=ay.call a5;refine Ac<|BV rfl h (fun a7 h=>?_) (fun a7 h=>?_)
     ·cases h
     refine Av<|AF<|Ao<|Aw<|As 1 rfl<|Az h fun a8 h=>Ag (A1 rfl a8) rfl<|As 1 rfl<|AK ?_;have h:=BP.again h u;refine AN ((b+1),k) (Sub.of rfl) ⟨a6,h⟩ (Nat.lt_succ_self _)
    refine Br<|AG<|A6 ?_;have h:=BP.out h u;refine Be<|A8 () (Sub.of rfl) ⟨t,h⟩
   rintro _ bw ⟨a9,h⟩;refine A7<|Bi 2 rfl<|Az h fun ba h=>Ag (A1 rfl ba) rfl<|A4 1 rfl<|Ax<|An<|I5<|Aq<|By ?_;have h:=BP.out h e;refine Aq<|Bs<|I5<|Aq ?_
   cases h
   refine Ak rfl ⟨a9.ext,rfl⟩
  refine Br<|AG<|A6 ?_;have h:=BP.out h e;refine Be<|A8 () (Sub.nil _) ⟨m,h⟩
 rintro _ bx ⟨bb,h⟩;refine A7<|AD 1 rfl<|Ax<|An<|I5<|Aq ?_
 cases h
 refine Ak rfl ⟨bb.ext,rfl⟩
def E8(a0:Abk)(a1:Int):Option Bool:=
 Option.bind (BT a0 a1) (fun a=>some (decide (0<=a)))
theorem JH(w:World)(H:PH)(hH:Le H (hp w)){a0:Abk}{a1:Int}{r:Bool}(h:E8 a0 a1=some r):
  Ok prog 207 [Abj a0,.int .i32 a1] w (fun v w'=>Ext w w'/\v=.bool r):=by
 refine A3 (n:=9) [(0,(Abj a0)),(1,.int .i32 a1)] func207 rfl fun hL=>AD 1 rfl<|Bi 2 rfl<|Ay h fun e a h=>AA rfl rfl hL (Iv _ _ (Ar hH hL) a) fun f d b c=>A4 2 rfl<|Ax ?_
 cases h
 refine Ak rfl ⟨b.ext,rfl⟩
def NG(a0:Int):Option Bool:=
 if(a0<97)\/(122<a0) then if a0<48 then Option.bind (E8 ([45,95,46]:Abk) a0) (fun b=>some (!b)) else if 57<a0 then Option.bind (E8 ([45,95,46]:Abk) a0) (fun a=>some (!a)) else some false else some false
theorem RL(w:World)(H:PH)(hH:Le H (hp w)){a0:Int}{r:Bool}(h:NG a0=some r):
  Ok prog 206 [.int .i32 a0] w (fun v w'=>Ext w w'/\v=.bool r):=by
 refine A3 (n:=22) [(0,.int .i32 a0)] func206 rfl fun hL=>AD 1 rfl<|Bi 3 rfl<|MT 2 2 rfl rfl rfl rfl rfl rfl<|As 1 rfl<|AP (s:=9) rfl (fun a=>?_) (fun a=>?_)
 ·have h:=BI (of_decide_eq_true a) h;refine Aa rfl a<|Ag (Ad rfl) rfl<|Aa rfl a<|Ag (Ad rfl) rfl<|Aa rfl a<|Ag (Ad rfl) rfl<|AP (s:=12) rfl (fun c=>?_) (fun c=>?_)
  ·have h:=BI (of_decide_eq_true c) h
   iterate 2 refine Ai rfl c rfl ?_
   refine Aa rfl a<|Ag (A2 rfl c rfl) rfl<|Ag (A2 rfl a rfl) rfl<|As 1 rfl<|Aa rfl rfl<|Ag (Ad rfl) rfl<|Aa rfl rfl<|Ay h fun p f h=>AA rfl rfl hL (JH _ _ (Ar hH hL) f) fun q l g j=>Aa rfl rfl<|Ag (Ad rfl) rfl<|Ag (A2 rfl rfl rfl) rfl<|A4 1 rfl<|Ax ?_
   cases h
   refine Ak rfl ⟨g.ext,rfl⟩
  have h:=BJ (of_decide_eq_false c) h;refine Aa rfl c<|Ag (Ad rfl) rfl<|Aa rfl c<|Ag (Ad rfl) rfl<|Aa rfl a<|Ag (A9 rfl c rfl) rfl<|Ag (A2 rfl a rfl) rfl<|As 1 rfl<|AP (s:=17) rfl (fun b=>?_) (fun b=>?_)
  ·have h:=BI (of_decide_eq_true b) h;refine Aa rfl b<|Ag (Ad rfl) rfl<|Aa rfl b<|Ay h fun m d h=>AA rfl rfl hL (JH _ _ (Ar hH hL) d) fun o k e i=>Aa rfl b<|Ag (Ad rfl) rfl<|Ag (A2 rfl b rfl) rfl<|A4 1 rfl<|Ax ?_
   cases h
   refine Ak rfl ⟨e.ext,rfl⟩
  have h:=BJ (of_decide_eq_false b) h
  iterate 3 refine Ai rfl b rfl ?_
  refine Ag (A9 rfl b rfl) rfl<|A4 1 rfl<|Ax ?_
  cases h
  refine Ak rfl ⟨hL.ext,rfl⟩
 have h:=BJ (of_decide_eq_false a) h
 iterate 3 refine Ai rfl a rfl ?_
 iterate 2 refine Cl rfl rfl rfl ?_
 refine Ai rfl a rfl<|Ag (A9 rfl a rfl) rfl<|As 1 rfl ?_
 iterate 3 refine Ai rfl rfl rfl ?_
 refine Ag (A9 rfl rfl rfl) rfl<|A4 1 rfl<|Ax ?_
 cases h
 refine Ak rfl ⟨hL.ext,rfl⟩
def Fa(a0:Abk)(a:Int):Option Int:=
 Option.bind (BT a0 a) (fun b=>some b)
def Fb:Option Int:=
 some ((-1))
def BZ(a0:Abk)(a1:Abk):Nat->Option ((Nat) ⊕ (Int)):=fun a=>
 if a<a0.length then Option.bind (BT a1 ((Md a0 a).1:Int)) (fun b=>if 0<=b then Option.map Sum.inr (some ((a:Int))) else some (Sum.inl (a+(Md a0 a).2))) else Option.map Sum.inr Fb
def Fc(a0:Abk)(a1:Abk)(s:Nat):Option Int:=Go.L.run (BZ a0 a1) s
def Fe(a0:Abk)(a1:Abk):Option Int:=
 (Fc a0 a1) (0:Nat)
def strings_IndexAny(a0:Abk)(a1:Abk):Option Int:=
 if a1=([]:Abk) then some ((-1)) else(if(a1.length:Int)=1 then AS (0<=(0:Int)/\(0:Int)<(a1.length:Int)) (if 128<=(IntKind.i32.wrap ((a1.getD (0:Int).toNat default).toNat:Int)) then(Fa a0) (65533:Int) else(Fa a0) (IntKind.i32.wrap ((a1.getD (0:Int).toNat default).toNat:Int))) else(if 8<(a0.length:Int) then none else(Fe a0 a1)))
theorem Po(w:World)(H:PH)(hH:Le H (hp w)){a0 a1:Abk}{r:Int}(h:strings_IndexAny a0 a1=some r):
  Ok prog 167 [Abj a0,Abj a1] w (fun v w'=>Ext w w'/\v=No r):=by
 refine A3 (n:=55) [(0,(Abj a0)),(1,(Abj a1))] func167 rfl fun hL=>AD 1 rfl<|A7<|Bi 1 rfl<|Ag (Mm rfl rfl) rfl<|Ac<|AM rfl h (fun ad h=>?_) (fun ad h=>?_)
 ·refine AD 1 rfl<|Ax<|An ?_
  cases h
  refine Ak rfl ⟨hL.ext,rfl⟩
 refine Av<|Ao<|A7<|Bi 1 rfl<|Ag (Cv rfl Ab1) rfl<|A4 1 rfl<|AM rfl h (fun ae h=>?_) (fun ae h=>?_)
 ·refine Bi 1 rfl<|Az h fun af h=>Ag (Dz rfl rfl Ab1 af) rfl<|Ag (DE Ac5 Adm rfl rfl) rfl<|A4 1 rfl<|Bo (σ:=Int) (fun b=>[(0,(Abj a0)),(5,.int .i32 b)]) (fun b wr=>Bd w [] wr/\(Fa a0) b=some r) ?_ ?_
  ·refine AD 2 rfl<|AM rfl h (fun o h=>?_) (fun o h=>?_)
   ·refine Aw<|As 1 rfl<|AK<|A8 (65533:Int) (Sub.of rfl) ⟨hL,h⟩
   refine Av<|A8 (IntKind.i32.wrap ((a1.getD (0:Int).toNat default).toNat:Int)) (Sub.of rfl) ⟨hL,h⟩
  rintro b al ⟨e,h⟩;refine Bi 2 rfl<|Ay h fun au q h=>AA rfl rfl e (Iv _ _ (Ar hH e) q) fun av am s ag=>A4 1 rfl<|Ax<|An ?_
  cases h
  refine Ak rfl ⟨s.ext,rfl⟩
 refine Av<|Ao<|Bo (σ:=Unit) (fun(_:Unit)=>[(0,(Abj a0)),(1,(Abj a1))]) (fun(_:Unit) wr=>Bd w [] wr/\(Fe a0 a1)=some r) ?_ ?_
 ·refine Bi 1 rfl<|Ag (Cv rfl Ab1) rfl<|AA rfl rfl hL (Aab _ _ (Ar hH hL)) fun aw an t ah=>Ac<|AM rfl h (fun u h=>?_) (fun u h=>?_)
  ·refine Am ?_
   cases h
  refine Av<|A8 () (Sub.of rfl) ⟨t,h⟩
 rintro _ ao ⟨x,h⟩;refine Bo (σ:=Unit) (fun(_:Unit)=>[]) (fun(_:Unit) wr=>Bd w [] wr/\Fb=some r) ?_ ?_
 ·refine Bi 1 rfl<|VZ rfl Ab1 rfl x fun ax m y ai=>Ac<|A5 ?_;obtain⟨f,h⟩:=AZ h;refine Bx (σ:=Nat×Nat) (fun⟨a,n⟩=>[(1,(Abj a1)),(45,(Abi m))]) (fun⟨a,n⟩ wr=>Bd w [.obj m (.stringIter ⟨(a0).toArray⟩ a)] wr/\F6 (BZ a0 a1) n a=some r) (fun⟨a,n⟩=>n) ((0:Nat),f) (Sub.of rfl) ⟨y,h⟩ ?_;rintro⟨a,nn67⟩ ap ⟨g,h⟩;obtain⟨f,ay,rfl,h,c⟩:=AY h;refine Am<|XQ (l:=a0) (p:=a) 0 rfl rfl g rfl (fun d=>?_) (fun d=>?_)
  ·have h:=BI d h;intro az j aj;refine A4 1 rfl<|A7<|Cg rfl<|Av<|Ao<|A5<|AD 4 rfl<|Bi 2 rfl<|Ay h fun a2 z h=>AA rfl rfl j (Iv _ _ (Ar hH j) z) fun a3 aq k ak=>A4 1 rfl<|AM rfl h (fun aa h=>?_) (fun aa h=>?_)
   ·refine AD 2 rfl<|Ax<|Aq<|By ?_;have h:=BP.out h c;refine Aq<|Bs ?_
    cases h
    refine Ak rfl ⟨k.ext,rfl⟩
   refine Av<|AF ?_;have h:=BP.again h c;refine AN ((a+(Md a0 a).2),f) (Sub.of rfl) ⟨k,h⟩ (Nat.lt_succ_self _)
  have h:=BJ d h;refine A4 1 rfl<|A7<|Cr rfl<|Br<|AG<|A6 ?_;have h:=BP.out h c;refine Be ?_;have ab:=g.AQ (i:=0) rfl;refine A8 () (Sub.nil _) ⟨ab,h⟩
 rintro _ ar ⟨ac,h⟩;refine AD 1 rfl<|Ax ?_
 cases h
 refine Ak rfl ⟨ac.ext,rfl⟩
def BL(a0:Abk)(a1:Abk):Option Bool:=
 if(a1.length:Int)<=(a0.length:Int) then AS (0<=(a1.length:Int)/\(a1.length:Int)<=(a0.length:Int)) (some (decide ((a0.take (a1.length:Int).toNat)=a1))) else some false
theorem JL(w:World)(H:PH)(_hH:Le H (hp w)){a0 a1:Abk}{r:Bool}(h:BL a0 a1=some r):
  Ok prog 262 [Abj a0,Abj a1] w (fun v w'=>Ext w w'/\v=.bool r):=by
 refine A3 (n:=18) [(0,(Abj a0)),(1,(Abj a1))] func262 rfl fun hL=>AD 1 rfl<|Bi 1 rfl<|Ag (Cv rfl Ab1) rfl<|As 1 rfl<|Ag (Cv rfl Ab1) rfl<|As 2 rfl<|AP (s:=10) rfl (fun a=>?_) (fun a=>?_)
 ·have h:=BI (of_decide_eq_true a) h;refine Aa rfl a<|Ag (Ad rfl) rfl<|Aa rfl a<|Ag (Ad rfl) rfl<|Aa rfl a<|Ag (Cv rfl Ab1) rfl<|Aa rfl a<|Az h fun b h=>Ag (WV rfl rfl Ab1 b) rfl<|Aa rfl a<|Ag (Ad rfl) rfl<|Aa rfl a<|Ag (Mm rfl rfl) rfl<|Ag (A2 rfl a rfl) rfl<|A4 1 rfl<|Ax ?_
  cases h
  refine Ak rfl ⟨hL.ext,rfl⟩
 have h:=BJ (of_decide_eq_false a) h
 iterate 6 refine Ai rfl a rfl ?_
 refine Ag (A9 rfl a rfl) rfl<|A4 1 rfl<|Ax ?_
 cases h
 refine Ak rfl ⟨hL.ext,rfl⟩
def BM(a0:Abk)(a1:Abk):Option (Abk×Bool):=
 Option.bind (BL a0 a1) (fun a=>if !a then some (a0,false) else AS (0<=(a1.length:Int)/\(a1.length:Int)<=(a0.length:Int)) (some ((a0.drop (a1.length:Int).toNat),true)))
theorem JM(w:World)(H:PH)(hH:Le H (hp w)){a0 a1:Abk}{r:Abk×Bool}(h:BM a0 a1=some r):
  Ok prog 215 [Abj a0,Abj a1] w (fun v w'=>Ext w w'/\v=.tuple #[Abj r.1,.bool r.2]):=by
 refine A3 (n:=15) [(0,(Abj a0)),(1,(Abj a1))] func215 rfl fun hL=>AD 2 rfl<|A7<|Bi 2 rfl<|Ay h fun g b h=>AA rfl rfl hL (JL _ _ (Ar hH hL) b) fun i f a e=>A4 1 rfl<|Bb rfl h (fun c h=>?_) (fun c h=>?_)
 ·refine AD 3 rfl<|Ax<|An ?_
  cases h
  refine Ak rfl ⟨a.ext,rfl⟩
 refine Av<|Ao<|Bi 2 rfl<|Ag (Cv rfl Ab1) rfl<|Az h fun d h=>Ag (QU rfl rfl Ab1 d) rfl<|A4 2 rfl<|Ax ?_
 cases h
 refine Ak rfl ⟨a.ext,rfl⟩
def DQ(a0:Abk)(a1:Abk):Option (Abk×Bool):=
 Option.bind (BM a0 a1) (fun a=>some (a.1,a.2))
theorem OB(w:World)(H:PH)(hH:Le H (hp w)){a0 a1:Abk}{r:Abk×Bool}(h:DQ a0 a1=some r):
  Ok prog 165 [Abj a0,Abj a1] w (fun v w'=>Ext w w'/\v=.tuple #[Abj r.1,.bool r.2]):=by
 refine A3 (n:=11) [(0,(Abj a0)),(1,(Abj a1))] func165 rfl fun hL=>AD 2 rfl<|Bi 2 rfl<|Ay h fun e a h=>AA rfl rfl hL (JM _ _ (Ar hH hL) a) fun f d b c=>A4 4 rfl<|Ax ?_
 cases h
 refine Ak rfl ⟨b.ext,rfl⟩
end Go.Proofs.YtekmbcbgknmhiaaGreatDoor
end
noncomputable section
namespace Go.Proofs.YtekmbcbgknmhiaaGreatDoor
open Go Go.E Go.RowKit Go.Shelf
def NH(s c:List UInt8):Option Int:=if 8<s.length\/c.length=1 then Go.L.AS (s.length<4294967281/\1<=c.length/\c.length<4294967281/\∀ b∈c,b.toNat<128) (some (Lib.indexAny s c)) else strings_IndexAny s c
theorem YE(w:World)(H:PH)(hH:Le H (hp w)){a0 a1:List UInt8}{r:Int}(h:NH a0 a1=some r):Ok Tryz.prog 167 [.string ⟨a0.toArray⟩,.string ⟨a1.toArray⟩] w (fun v w'=>Ext w w'/\v=.int .i64 r):=by
 unfold NH at h;have hs:(ByteArray.mk a0.toArray).size=a0.length:=by simp [ByteArray.size]
 have hc:(ByteArray.mk a1.toArray).size=a1.length:=by simp [ByteArray.size]
 split at h
 ·rename_i hor;obtain⟨⟨c,k,d,f⟩,h⟩:=Go.L.EY h;obtain rfl:=Option.some.inj h
  have hac:∀ (j:Nat) b,(ByteArray.mk a1.toArray).data.toList[j]? = some b->b.toNat<128:=fun j b hj=>f b (by
   have:=List.mem_of_getElem? hj
   simpa using this)
  refine⟨⟨Tryz.f167,_,Tryz.func167,rfl,rfl⟩,?_⟩
  by_cases g:a1.length=1
  ·refine(Any.strings_IndexAny_one (P:=Tryz.prog) Tryz.Aaa ⟨a0.toArray⟩ ⟨a1.toArray⟩ w (by rw [hc];exact g) hac).mono fun e w' he=>?_;obtain⟨rfl,rfl⟩:=he;exact⟨_,rfl,Ext.refl _,by simp⟩
  ·have a:(Tryz.prog.info? (Tryz.QW.t 116)).map (fun i=>(i.zero,i.size))=some (some (.agg (Array.replicate 256 (.bool false))),256):=by kernel_rfl
   refine(Any.strings_IndexAny_long (P:=Tryz.prog) Tryz.Aaa (zero_of_info a).1 (zero_of_info a).2 ⟨a0.toArray⟩ ⟨a1.toArray⟩ w (by rw [hc];omega) (by rw [hs];omega) (by rw [hs];exact c) (by rw [hc];exact d) hac).mono fun e w' he=>?_;obtain⟨rfl,rfl⟩:=he;exact⟨_,rfl,(C8 _ _).trans (C8 _ _),by simp⟩
 ·exact Po w H hH h
end Go.Proofs.YtekmbcbgknmhiaaGreatDoor
end
noncomputable section
namespace Go.L
set_option maxRecDepth 20000 in
theorem Ur{x:Int}(h:128<=x)(hx:x<=1114111)(hv:Go.Utf8.valid x=true):∃ k:Nat,(E0 x).length=k/\2<=k/\k<=4/\128<=((E0 x).getD (k - 1) default).toNat:=by
 obtain⟨c,rfl⟩:=Int.eq_ofNat_of_zero_le (show 0<=x by omega);have hm:∀ j:Nat,(128+j % 64) % 256=128+j % 64:=fun j=>Nat.mod_eq_of_lt (by omega);unfold E0 Go.Utf8.encode;simp only [hv,if_true,Int.toNat_natCast];rw [if_neg (by omega)];have e:∀ j:Nat,128<=(UInt8.ofNat (128+j % 64)).toNat:=fun j=>by rw [UInt8.toNat_ofNat',hm];omega
 have f:∀ a b:UInt8,((ByteArray.mk #[a,b]).data.toList.length=2)/\(ByteArray.mk #[a,b]).data.toList.getD (2 - 1) default=b:=fun _ _=>⟨rfl,rfl⟩;have g:∀ a b c:UInt8,((ByteArray.mk #[a,b,c]).data.toList.length=3)/\(ByteArray.mk #[a,b,c]).data.toList.getD (3 - 1) default=c:=fun _ _ _=>⟨rfl,rfl⟩;have i:∀ a b c d:UInt8,((ByteArray.mk #[a,b,c,d]).data.toList.length=4)/\(ByteArray.mk #[a,b,c,d]).data.toList.getD (4 - 1) default=d:=fun _ _ _ _=>⟨rfl,rfl⟩
 by_cases l:c<2048
 ·rw [if_pos l];refine⟨2,(f _ _).1,by omega,by omega,?_⟩;rw [(f _ _).2];exact e _
 ·rw [if_neg l]
  by_cases h2:c<65536
  ·rw [if_pos h2];refine⟨3,(g _ _ _).1,by omega,by omega,?_⟩;rw [(g _ _ _).2];exact e _
  ·rw [if_neg h2];refine⟨4,(i _ _ _ _).1,by omega,by omega,?_⟩;rw [(i _ _ _ _).2];exact e _
end Go.L
namespace Go.Proofs.YtekmbcbgknmhiaaGreatDoor
open Go Go.L
theorem Xh:∀ n:Fin 128,(0<=Lib.indexByte [45,95,46] (u8 (n.val:Int))↔(n.val=45\/n.val=95\/n.val=46)):=by decide
theorem Aac:C7 [45,95,46] 0=some (-1):=by
 unfold C7;have r0:B8 [45,95,46] 0=some (.inl 1):=by rfl
 have r1:B8 [45,95,46] 1=some (.inl 2):=by rfl
 have r2:B8 [45,95,46] 2=some (.inl 3):=by rfl
 have r3:B8 [45,95,46] 3=some (.inr (-1)):=by rfl
 rw [B2 r0,B2 r1,B2 r2];exact Bh (m:=some (-1)) r3
theorem YF{x:Int}(a:0<=x)(hx:x<=1114111):∃ i,BT [45,95,46] x=some i/\(0<=i↔(x=45\/x=95\/x=46)):=by
 unfold BT
 by_cases f:x<128
 ·rw [if_pos ⟨a,f⟩];have:=Xh ⟨x.toNat,by omega⟩;simp only [Int.toNat_of_nonneg a] at this;exact⟨_,rfl,by rw [this];omega⟩
 ·rw [if_neg (by omega)];have hn : ¬ (x=45\/x=95\/x=46):=by omega
  by_cases h2:x=65533
  ·rw [if_pos h2,Aac];exact⟨_,rfl,by omega⟩
  ·rw [if_neg h2]
   by_cases hv:Go.Utf8.valid x=true
   ·have e:BA x=some true:=by
     unfold BA;simp only [Go.Utf8.valid,Bool.or_eq_true,Bool.and_eq_true,decide_eq_true_eq] at hv
     by_cases h3:0<=x/\x<55296
     ·rw [if_pos h3]
     ·rw [if_neg h3,if_pos (by omega)]
    rw [e];obtain⟨k,hk,h,j,hl⟩:=Ur (by omega) hx hv;simp only [Option.bind_some,Bool.not_true,Bool.false_eq_true,if_false,hk];rw [Al (by unfold B0;omega)];refine⟨-1,Bh ?_,by omega⟩;unfold Dn;have g:((k:Int) - 1).toNat=k - 1:=by omega
    have key:∀ (l:List UInt8) (c:UInt8),(∀ b∈l,b.toNat<128)->128<=c.toNat->Lib.indexByte l c = -1:=by
     intro l c hl hc
     induction l with
     | nil=>rfl
     | cons b l ih=>
      have hb:=hl b (.head _)
      have hne:(b==c)=false:=by
       cases hh:b==c with
       | false=>rfl
       | true=>have:=beq_iff_eq.1 hh;subst this;omega
      unfold Lib.indexByte;rw [ih (fun b hb=>hl b (.tail _ hb)),hne]
      rfl
    have d:k=2\/k=3\/k=4:=by omega
    simp only [hk,g]
    rcases d with rfl | rfl | rfl
    ·rw [if_pos (by decide),Al (by decide),Al (by decide),if_neg (by intro hh;have:(([45,95,46]:List UInt8).getD 1 default).toNat=95:=rfl;simp only [Nat.reduceSub] at hl hh;omega),Al (by unfold B0;decide),Al (by decide),Al (by decide)];unfold OA;rw [Option.bind_some,key _ _ (by decide) hl,if_pos (by decide)]
    ·rw [if_pos (by decide),Al (by decide),Al (by decide),if_neg (by intro hh;have:(([45,95,46]:List UInt8).getD 2 default).toNat=46:=rfl;simp only [Nat.reduceSub] at hl hh;omega),Al (by unfold B0;decide),Al (by decide),Al (by decide)];unfold OA;rw [Option.bind_some,key _ _ (by decide) hl,if_pos (by decide)]
    ·rw [if_neg (by decide)]
     rfl
   ·have e:BA x=some false:=by
     unfold BA;simp only [Go.Utf8.valid,Bool.or_eq_true,Bool.and_eq_true,decide_eq_true_eq] at hv;rw [if_neg (by omega),if_neg (by omega)]
    rw [e];exact⟨-1,rfl,by omega⟩
def Vd(n:Nat):Bool:=!((decide (97<=n/\n<=122))||(decide (48<=n/\n<=57))||(decide (n=45\/n=95\/n=46)))
theorem Aad{n:Nat}(hx:n<=1114111):NG (n:Int)=some (Vd n):=by
 obtain⟨i,hi,hd⟩:=YF (x:=(n:Int)) (by omega) (by omega);have hc:E8 [45,95,46] (n:Int)=some (decide (0<=i)):=by unfold E8;rw [hi];rfl
 have hd':decide (0<=i)=decide (n=45\/n=95\/n=46):=by
  rw [Bool.eq_iff_iff,decide_eq_true_eq,decide_eq_true_eq,hd];omega
 unfold NG Vd;rw [hc,hd'];simp only [Option.bind_some]
 by_cases c:(n:Int)<97\/(122:Int)<n
 ·rw [if_pos c];have a:decide (97<=n/\n<=122)=false:=decide_eq_false (by omega)
  by_cases h2:(n:Int)<48
  ·rw [if_pos h2];have b:decide (48<=n/\n<=57)=false:=decide_eq_false (by omega);rw [a,b];rfl
  ·rw [if_neg h2]
   by_cases h3:(57:Int)<n
   ·rw [if_pos h3];have b:decide (48<=n/\n<=57)=false:=decide_eq_false (by omega);rw [a,b];rfl
   ·rw [if_neg h3];have b:decide (48<=n/\n<=57)=true:=decide_eq_true (by omega);rw [a,b];rfl
 ·rw [if_neg c];have a:decide (97<=n/\n<=122)=true:=decide_eq_true (by omega);rw [a];rfl
end Go.Proofs.YtekmbcbgknmhiaaGreatDoor
end
noncomputable section
namespace Go.Proofs.YtekmbcbgknmhiaaGreatDoor
open Go Go.E Go.RowKit Go.Shelf
def Tc(a:List UInt8):Option Bool:=some (decide (0<=Lib.idxFunc Vd true ⟨a.toArray⟩))
theorem YG(w:World)(H:PH)(_hH:Le H (hp w)){a0:List UInt8}{r:Bool}(h:Tc a0=some r):
  Ok Tryz.prog 205 [.string ⟨a0.toArray⟩,.func (.func 206) #[] #[]] w (fun v w'=>Ext w w'/\v=.bool r):=by
 obtain rfl:=Option.some.inj h;refine⟨⟨Tryz.f205,_,Tryz.func205,rfl,rfl⟩,(Any.strings_ContainsFunc_grows Tryz.Aes 206 #[] (enters_of Tryz.func206 (by kernel_rfl) rfl) Vd ⟨a0.toArray⟩ w ?_).mono fun e w' he=>?_⟩
 ·intro W x hx _;refine(RL W (hp W) (Le.refl _) (Aad hx)).2.mono fun e w' he=>?_;obtain⟨v,rfl,hx,rfl⟩:=he;exact⟨rfl,hx.toBelow⟩
 ·obtain⟨rfl,hb⟩:=he;exact⟨_,rfl,Ext.off hb,rfl⟩
end Go.Proofs.YtekmbcbgknmhiaaGreatDoor
end
noncomputable section
namespace Go.Proofs.YtekmbcbgknmhiaaGreatDoor
open Go Go.E Go.RowKit Go.L
set_option maxHeartbeats 1000000
set_option maxRecDepth 10000
open _root_.Go.Proofs.Tryz
def J7(a0:Abk):Option Bool:=
 if a0=([]:Abk) then some false else if 32<(a0.length:Int) then some false else AS (0<=(0:Int)/\(0:Int)<(a0.length:Int)) (if((a0.getD (0:Int).toNat default).toNat:Int)<97 then some false else AS (0<=(0:Int)/\(0:Int)<(a0.length:Int)) (if 122<((a0.getD (0:Int).toNat default).toNat:Int) then some false else Option.bind (Tc a0) (fun a=>some (!a))))
theorem PC(w:World)(H:PH)(hH:Le H (hp w)){a0:Abk}{r:Bool}(h:J7 a0=some r):
  Ok prog 159 [Abj a0] w (fun v w'=>Ext w w'/\v=.bool r):=by
 refine A3 (n:=23) [(0,(Abj a0))] func159 rfl fun hL=>AD 1 rfl<|A7<|Bi 1 rfl<|Ag (Mm rfl rfl) rfl<|As 1 rfl<|AP (s:=5) rfl (fun a=>?_) (fun a=>?_)
 ·have h:=BI (of_decide_eq_true a) h
  iterate 3 refine Ai rfl a rfl ?_
  refine Ag (A2 rfl a rfl) rfl<|As 1 rfl ?_
  iterate 3 refine Ai rfl rfl rfl ?_
  refine Ag (A2 rfl rfl rfl) rfl<|As 1 rfl ?_
  iterate 3 refine Ai rfl rfl rfl ?_
  refine Ag (A2 rfl rfl rfl) rfl<|Ac<|Cg rfl<|AD 1 rfl<|Ax<|An ?_
  cases h
  refine Ak rfl ⟨hL.ext,rfl⟩
 have h:=BJ (of_decide_eq_false a) h;refine Aa rfl a<|Ag (Ad rfl) rfl<|Aa rfl a<|Ag (Cv rfl Ab1) rfl<|Aa rfl a<|Ag (Ad rfl) rfl<|Ag (A9 rfl a rfl) rfl<|As 1 rfl<|AP (s:=10) rfl (fun b=>?_) (fun b=>?_)
 ·have h:=BI (of_decide_eq_true b) h
  iterate 3 refine Ai rfl b rfl ?_
  refine Ag (A2 rfl b rfl) rfl<|As 1 rfl ?_
  iterate 3 refine Ai rfl rfl rfl ?_
  refine Ag (A2 rfl rfl rfl) rfl<|Ac<|Cg rfl<|AD 1 rfl<|Ax<|An ?_
  cases h
  refine Ak rfl ⟨hL.ext,rfl⟩
 have h:=BJ (of_decide_eq_false b) h;refine Aa rfl b<|Ag (Ad rfl) rfl<|Aa rfl b<|Az h fun i h=>Ag (Dz rfl rfl Ab1 i) rfl<|Aa rfl b<|Ag (Ad rfl) rfl<|Ag (A9 rfl b rfl) rfl<|As 1 rfl<|AP (s:=15) rfl (fun c=>?_) (fun c=>?_)
 ·have h:=BI (of_decide_eq_true c) h
  iterate 3 refine Ai rfl c rfl ?_
  refine Ag (A2 rfl c rfl) rfl<|Ac<|Cg rfl<|AD 1 rfl<|Ax<|An ?_
  cases h
  refine Ak rfl ⟨hL.ext,rfl⟩
 have h:=BJ (of_decide_eq_false c) h;refine Aa rfl c<|Ag (Ad rfl) rfl<|Aa rfl c<|Az h fun d h=>Ag (Dz rfl rfl Ab1 d) rfl<|Aa rfl c<|Ag (Ad rfl) rfl<|Ag (A9 rfl c rfl) rfl<|Ac<|AM rfl h (fun e h=>?_) (fun e h=>?_)
 ·refine AD 1 rfl<|Ax<|An ?_
  cases h
  refine Ak rfl ⟨hL.ext,rfl⟩
 refine Av<|Ao<|Bi 1 rfl<|Ay h fun l f h=>AA rfl rfl hL (YG _ _ (Ar hH hL) f) fun m k g j=>A4 2 rfl<|Ax ?_
 cases h
 refine Ak rfl ⟨g.ext,rfl⟩
def Jr:Option ((Int×Int)):=
 some ((0,0))
def Db(c:(List Abk)):Int×Int->Option ((Int×Int) ⊕ ((Int×Int))):=fun⟨b,a⟩=>
 if a<(c.length:Int) then AS (0<=a/\a<(c.length:Int)) (if c.getD a.toNat default=([35]:Abk) then AS (B0 (((c.getD a.toNat default).length:Int)+1)) (AS (B0 (b+(((c.getD a.toNat default).length:Int)+1))) (AS (B0 (a+1)) (some (Sum.inl ((b+(((c.getD a.toNat default).length:Int)+1)),(a+1)))))) else if c.getD a.toNat default=([42]:Abk) then AS (B0 (((c.getD a.toNat default).length:Int)+1)) (AS (B0 (b+(((c.getD a.toNat default).length:Int)+1))) (AS (B0 (a+1)) (some (Sum.inl ((b+(((c.getD a.toNat default).length:Int)+1)),(a+1)))))) else if c.getD a.toNat default=([42,42]:Abk) then AS (B0 (((c.getD a.toNat default).length:Int)+1)) (AS (B0 (b+(((c.getD a.toNat default).length:Int)+1))) (AS (B0 (a+1)) (some (Sum.inl ((b+(((c.getD a.toNat default).length:Int)+1)),(a+1)))))) else Option.bind (J7 (c.getD a.toNat default)) (fun e=>if !e then Option.bind (IF (1:Int) b) (fun d=>Option.map Sum.inr (some ((d.1,d.2)))) else AS (B0 (((c.getD a.toNat default).length:Int)+1)) (AS (B0 (b+(((c.getD a.toNat default).length:Int)+1))) (AS (B0 (a+1)) (some (Sum.inl ((b+(((c.getD a.toNat default).length:Int)+1)),(a+1)))))))) else Option.map Sum.inr Jr
def KZ(a:(List Abk))(s:Int×Int):Option ((Int×Int)):=Go.L.run (Db a) s
def IH(a0:Abk):Option ((Int×Int)):=
 if 64<(a0.length:Int) then Option.bind (IF (3:Int) (-1:Int)) (fun a=>some ((a.1,a.2))) else Option.bind (IG a0) (fun b=>(KZ b) (0,0))
theorem RM(w:World)(H:PH)(hH:Le H (hp w)){a0:Abk}{r:(Int×Int)}(h:IH a0=some r):
  Ok prog 103 [Abj a0] w (fun v w'=>Ext w w'/\v=.agg #[No r.1,No r.2]):=by
 refine A3 (n:=41) [(0,(Abj a0))] func103 rfl fun hL=>Am<|AH AW rfl rfl hL fun w1 b1 o bb _=>Ac<|A7<|Bi 1 rfl<|Ag (Cv rfl Ab1) rfl<|A4 1 rfl<|AM rfl h (fun a1 h=>?_) (fun a1 h=>?_)
 ·refine Am<|Ay h fun x4 a2 h=>AA rfl rfl o (NR _ _ (Ar hH o) a2) fun w5 bn a3 bc=>Ah 0 rfl AW a3 rfl (Bc rfl) fun w6 av bd=>Ac<|Ax<|An ?_
  cases h
  refine BH rfl (.cell rfl Ack rfl AW (AL (i:=0) av rfl)) ⟨av.ext,rfl⟩
 refine Av<|Ao<|AD 1 rfl<|Bo (σ:=Unit) (fun(_:Unit)=>[(2,(Abi b1))]) (fun(_:Unit) wr=>Bd w [.box b1 [No 0,No 0] 28] wr/\Jr=some r) ?_ ?_
 ·refine Bi 1 rfl<|Ay h fun l aw h=>Bn rfl rfl o (RJ _ _ (Ar hH o) aw) ?_;rintro q bo ⟨_,rfl,y⟩ ax ay a7;have p:=y.Cz hH o ax;refine Ag (Bu rfl Ac7 p) rfl<|A4 1 rfl<|A5 ?_;obtain⟨k,h⟩:=AZ h;refine Bx (σ:=Int×Int×Nat) (fun⟨b,a,n⟩=>[(2,(Abi b1)),(3,No b),(11,q),(12,No (l.length:Int)),(13,No a)]) (fun⟨b,a,n⟩ wr=>DF w [.box b1 [No 0,No 0] 28] wr fun Oz=>AI .st (gz H w wr Oz) q l/\F6 (Db l) n (b,a)=some r) (fun⟨b,a,n⟩=>n) (0,0,k) (Sub.of rfl) ⟨ay,p,h⟩ ?_;rintro⟨b,a,nn124⟩ a8 ⟨g,c,h⟩;obtain⟨k,be,rfl,h,j⟩:=AY h;refine AD 1 rfl<|A7<|AM rfl h (fun ab h=>?_) (fun ab h=>?_)
  ·refine Av<|Ao<|A7<|A5<|Am<|Az h fun t h=>Bf rfl rfl Ac7 EZ c a.toNat (EX t) (Ba t) rfl ?_;rintro bf _ rfl ac;refine Ag (Bj rfl Ab1 rfl ac (Ar hH g)) rfl<|A4 1 rfl<|A7<|Bi 1 rfl<|Ag (Mn rfl rfl) rfl<|As 1 rfl<|AP (s:=19) rfl (fun e=>?_) (fun e=>?_)
   ·have h:=BJ (CG e) h;refine Aa rfl e<|Ag (Ad rfl) rfl<|Aa rfl e<|Ag (Mn rfl rfl) rfl<|Ag (A2 rfl e rfl) rfl<|As 1 rfl<|AP (s:=23) rfl (fun f=>?_) (fun f=>?_)
    ·have h:=BJ (CG f) h;refine Aa rfl f<|Ag (Ad rfl) rfl<|Aa rfl f<|Ag (Mn rfl rfl) rfl<|Ag (A2 rfl f rfl) rfl<|As 1 rfl<|AP (s:=27) rfl (fun d=>?_) (fun d=>?_)
     ·have h:=BJ (CG d) h;refine Aa rfl d<|Ag (Ad rfl) rfl<|Aa rfl d<|Ay h fun bg ad h=>AA rfl rfl g (PC _ _ (Ar hH g) ad) fun bh a9 m z=>Aa rfl d<|Ag (Ad rfl) rfl<|Ag (A2 rfl d rfl) rfl<|Ac<|Bb rfl h (fun ae h=>?_) (fun ae h=>?_)
      ·refine Bi 1 rfl<|Ay h fun bi af h=>AA rfl rfl m (NR _ _ (Ar hH m) af) fun bj ba ag a4=>Ah 0 rfl AW ag rfl (Bc rfl) fun bk u a5=>Ac<|Ax<|An<|Aq<|An<|By ?_;have h:=BP.out h j;refine Aq<|Bs ?_
       cases h
       refine BH rfl (.cell rfl Ack rfl AW (AL (i:=0) u rfl)) ⟨u.ext,rfl⟩
      refine Av<|Ao<|Aw<|As 2 rfl<|Ag (Cv rfl Ab1) rfl<|Az h fun ah h=>Ag (A1 rfl ah) rfl<|Az h fun ai h=>Ag (A1 rfl ai) rfl<|As 1 rfl<|AK<|AF<|Ao<|Aw<|Az h fun aj h=>Ag (A1 rfl aj) rfl<|As 1 rfl<|AK ?_;have h:=BP.again h j;have c:=c.mono (Ab hH z);refine AN ((b+(((l.getD a.toNat default).length:Int)+1)),(a+1),k) (Sub.of rfl) ⟨m,c,h⟩ (Nat.lt_succ_self _)
     have h:=BI (CH d) h
     iterate 3 refine Ai rfl d rfl ?_
     refine Ag (A9 rfl d rfl) rfl<|Ac<|Cr rfl<|Av<|Ao<|Aw<|As 2 rfl<|Ag (Cv rfl Ab1) rfl<|Az h fun ak h=>Ag (A1 rfl ak) rfl<|Az h fun al h=>Ag (A1 rfl al) rfl<|As 1 rfl<|AK<|AF<|Ao<|Aw<|Az h fun am h=>Ag (A1 rfl am) rfl<|As 1 rfl<|AK ?_;have h:=BP.again h j;refine AN ((b+(((l.getD a.toNat default).length:Int)+1)),(a+1),k) (Sub.of rfl) ⟨g,c,h⟩ (Nat.lt_succ_self _)
    have h:=BI (CH f) h
    iterate 2 refine Ai rfl f rfl ?_
    refine Ag (A9 rfl f rfl) rfl<|As 1 rfl ?_
    iterate 3 refine Ai rfl rfl rfl ?_
    refine Ag (A9 rfl rfl rfl) rfl<|Ac<|Cr rfl<|Av<|Ao<|Aw<|As 2 rfl<|Ag (Cv rfl Ab1) rfl<|Az h fun an h=>Ag (A1 rfl an) rfl<|Az h fun ao h=>Ag (A1 rfl ao) rfl<|As 1 rfl<|AK<|AF<|Ao<|Aw<|Az h fun ap h=>Ag (A1 rfl ap) rfl<|As 1 rfl<|AK ?_;have h:=BP.again h j;refine AN ((b+(((l.getD a.toNat default).length:Int)+1)),(a+1),k) (Sub.of rfl) ⟨g,c,h⟩ (Nat.lt_succ_self _)
   have h:=BI (CH e) h
   iterate 2 refine Ai rfl e rfl ?_
   refine Ag (A9 rfl e rfl) rfl<|As 1 rfl ?_
   iterate 2 refine Ai rfl rfl rfl ?_
   refine Ag (A9 rfl rfl rfl) rfl<|As 1 rfl ?_
   iterate 3 refine Ai rfl rfl rfl ?_
   refine Ag (A9 rfl rfl rfl) rfl<|Ac<|Cr rfl<|Av<|Ao<|Aw<|As 2 rfl<|Ag (Cv rfl Ab1) rfl<|Az h fun aq h=>Ag (A1 rfl aq) rfl<|Az h fun ar h=>Ag (A1 rfl ar) rfl<|As 1 rfl<|AK<|AF<|Ao<|Aw<|Az h fun au h=>Ag (A1 rfl au) rfl<|As 1 rfl<|AK ?_;have h:=BP.again h j;refine AN ((b+(((l.getD a.toNat default).length:Int)+1)),(a+1),k) (Sub.of rfl) ⟨g,c,h⟩ (Nat.lt_succ_self _)
  refine Br<|AG<|A6 ?_;have h:=BP.out h j;refine Be<|A8 () (Sub.of rfl) ⟨g,h⟩
 rintro _ bl ⟨az,h⟩;refine Am<|Ag (AR rfl (fun _=>Cf _)) rfl<|Ah 0 rfl AW az rfl (Bc rfl) fun bm x a6=>Ac<|Ax ?_
 cases h
 refine BH rfl (.cell rfl Ack rfl AW (AL (i:=0) x rfl)) ⟨x.ext,rfl⟩
def Ii(a0:Abk):Option Bool:=
 Option.bind (J7 a0) (fun a=>some (!a))
theorem OC(w:World)(H:PH)(hH:Le H (hp w)){a0:Abk}{r:Bool}(h:Ii a0=some r):
  Ok prog 230 [Abj a0] w (fun v w'=>Ext w w'/\v=.bool r):=by
 refine A3 (n:=6) [(0,(Abj a0))] func230 rfl fun hL=>AD 1 rfl<|Bi 1 rfl<|Ay h fun e a h=>AA rfl rfl hL (PC _ _ (Ar hH hL) a) fun f d b c=>A4 2 rfl<|Ax ?_
 cases h
 refine Ak rfl ⟨b.ext,rfl⟩
def GG:Option Int:=
 some ((-1))
def Gv(a0:List Abk):Int->Option ((Int) ⊕ (Int)):=fun a=>
 if a<(a0.length:Int) then AS (0<=a/\a<(a0.length:Int)) (Option.bind (Ii (a0.getD a.toNat default)) (fun b=>if b then Option.map Sum.inr (some a) else AS (B0 (a+1)) (some (Sum.inl (a+1))))) else Option.map Sum.inr GG
def IZ(a0:List Abk)(s:Int):Option Int:=Go.L.run (Gv a0) s
def II(a0:List Abk):Option Int:=
 (IZ a0) (0:Int)
theorem Pp(w:World)(H:PH)(hH:Le H (hp w)){a0:List Abk}{b:Value}(e:AI .st H b a0){r:Int}(h:II a0=some r):
  Ok prog 284 [b,.func (.func 230) #[] #[]] w (fun v w'=>Ext w w'/\v=No r):=by
 refine A3 (n:=19) [(0,b),(1,.func (.func 230) #[] #[])] func284 rfl fun hL=>AD 1 rfl<|Bo (σ:=Unit) (fun(_:Unit)=>[]) (fun(_:Unit) wr=>Bd w [] wr/\GG=some r) ?_ ?_
 ·refine Bi 1 rfl<|Ag (Bu rfl Ac7 e) rfl<|A4 1 rfl<|A5 ?_;obtain⟨f,h⟩:=AZ h;refine Bx (σ:=Int×Nat) (fun⟨a,n⟩=>[(0,b),(1,.func (.func 230) #[] #[]),(7,No (a0.length:Int)),(8,No a)]) (fun⟨a,n⟩ wr=>Bd w [] wr/\F6 (Gv a0) n a=some r) (fun⟨a,n⟩=>n) (0,f) (Sub.of rfl) ⟨hL,h⟩ ?_;rintro⟨a,nn42⟩ s ⟨c,h⟩;obtain⟨f,x,rfl,h,d⟩:=AY h;refine AD 1 rfl<|A7<|AM rfl h (fun j h=>?_) (fun j h=>?_)
  ·refine Av<|Ao<|A7<|A5<|AD 2 rfl<|Bi 3 rfl<|Az h fun g h=>Bf rfl rfl Ac7 EZ e a.toNat (EX g) (Ba g) rfl ?_;rintro y _ rfl k;refine Ag (Bj rfl Ab1 rfl k (hH.trans c.arg)) rfl<|Ay h fun z l h=>SM rfl rfl rfl c (OC _ _ (Ar hH c) l) ?_;rintro _ aa rfl t i q;refine Ac<|Bb rfl h (fun m h=>?_) (fun m h=>?_)
   ·refine AD 2 rfl<|Ax<|Aq<|An<|By ?_;have h:=BP.out h d;refine Aq<|Bs ?_
    cases h
    refine Ak rfl ⟨i.ext,rfl⟩
   refine Av<|AF<|Ao<|Aw<|Az h fun o h=>Ag (A1 rfl o) rfl<|As 1 rfl<|AK ?_;have h:=BP.again h d;refine AN ((a+1),f) (Sub.of rfl) ⟨i,h⟩ (Nat.lt_succ_self _)
  refine Br<|AG<|A6 ?_;have h:=BP.out h d;refine Be<|A8 () (Sub.nil _) ⟨c,h⟩
 rintro _ u ⟨p,h⟩;refine AD 1 rfl<|Ax ?_
 cases h
 refine Ak rfl ⟨p.ext,rfl⟩
def IJ(a0:List Abk):Option Bool:=
 Option.bind (II a0) (fun a=>some (decide (0<=a)))
theorem Pq(w:World)(H:PH)(hH:Le H (hp w)){a0:List Abk}{a:Value}(b:AI .st H a a0){r:Bool}(h:IJ a0=some r):
  Ok prog 229 [a,.func (.func 230) #[] #[]] w (fun v w'=>Ext w w'/\v=.bool r):=by
 refine A3 (n:=9) [(0,a),(1,.func (.func 230) #[] #[])] func229 rfl fun hL=>AD 1 rfl<|Bi 2 rfl<|Ay h fun g c h=>AA rfl rfl hL (Pp _ _ (Ar hH hL) (b.mono (Aj hH)) c) fun i f d e=>A4 2 rfl<|Ax ?_
 cases h
 refine Ak rfl ⟨d.ext,rfl⟩
def C6(a0:List Int)(a1:Go.L.Pv):Option (Bool×Go.L.Pv):=
 Option.bind (C2 a0 a1.f.1) (fun a=>some (a,a1))
theorem CQ{a w:World}{H:PH}(hH:Le H (hp a)){O:List BS}{a0:List Int}{a1:Go.L.Pv}{va0:Value}{ba1:Nat}{va1_2 va1_3 va1_4:Value}(hL:Bd a (Ha [.box ba1 [No a1.f.1,No a1.f.2.1,va1_2,va1_3,va1_4] 64] O) w)(l:AI (.int .i64) (gz H a w (Ha [.box ba1 [No a1.f.1,No a1.f.2.1,va1_2,va1_3,va1_4] 64] O)) va0 a0)(i:AI .byte (gz H a w (Ha [.box ba1 [No a1.f.1,No a1.f.2.1,va1_2,va1_3,va1_4] 64] O)) va1_2 (a1.f.2.2.1))(j:AI .st (gz H a w (Ha [.box ba1 [No a1.f.1,No a1.f.2.1,va1_2,va1_3,va1_4] 64] O)) va1_3 (a1.f.2.2.2.1))(k:AI .tree (gz H a w (Ha [.box ba1 [No a1.f.1,No a1.f.2.1,va1_2,va1_3,va1_4] 64] O)) va1_4 (a1.f.2.2.2.2)){r:Bool×Go.L.Pv}(h:C6 a0 a1=some r):
  Ok prog 228 [va0,Abi ba1] w (fun v w'=>∃ (c:Value) (d:Value) (e:Value),v=.bool r.1/\Bd a (Ha [.box ba1 [No r.2.f.1,No r.2.f.2.1,c,d,e] 64] O) w'/\Le (fz w (Ha [.box ba1 [No a1.f.1,No a1.f.2.1,va1_2,va1_3,va1_4] 64] O)) (fz w' (Ha [.box ba1 [No r.2.f.1,No r.2.f.2.1,c,d,e] 64] O))/\AI .byte (gz H a w' (Ha [.box ba1 [No r.2.f.1,No r.2.f.2.1,c,d,e] 64] O)) c (r.2.f.2.2.1)/\AI .st (gz H a w' (Ha [.box ba1 [No r.2.f.1,No r.2.f.2.1,c,d,e] 64] O)) d (r.2.f.2.2.2.1)/\AI .tree (gz H a w' (Ha [.box ba1 [No r.2.f.1,No r.2.f.2.1,c,d,e] 64] O)) e (r.2.f.2.2.2.2)):=by
 refine Ez (n:=8) [(0,va0),(1,(Abi ba1))] func228 rfl rfl rfl rfl rfl ?_;have hT:=Le.refl (fz w (Ha [.box ba1 [No a1.f.1,No a1.f.2.1,va1_2,va1_3,va1_4] 64] O));have b:=hL.rG H;refine AD 1 rfl<|Bi 1 rfl<|Ag (Ae rfl Ac8 rfl Cj) rfl<|Ag (Af 0 rfl Abn rfl hL rfl) rfl<|Ay h fun q m h=>AA rfl rfl hL (Ir _ _ (Ar hH hL) (l.mono b) m) fun s p o g=>A4 1 rfl<|Ax ?_
 cases h
 refine Ak rfl ?_;have b:=b.trans (Ab hH g);have hT:=hT.trans g;exact⟨va1_2,va1_3,va1_4,rfl,o,hT,(i.mono b),(j.mono b),(k.mono b)⟩
def H0:Option Int:=
 some (0)
def GH(b:List Abk):Int->Option ((Int) ⊕ (Int)):=fun a=>
 if a<(b.length:Int) then AS (0<=a/\a<(b.length:Int)) none else Option.map Sum.inr H0
def JA(a:List Abk)(s:Int):Option Int:=Go.L.run (GH a) s
def Ch(_c83 _c84:Int)(_c85:Abk)(b:List Abk)(d:List Go.L.Pv)(a:Bool):Option Int:=
 if a then none else(if 600<(d.length:Int) then none else Option.bind (IJ b) (fun c=>if c then none else(JA b) (0:Int)))
def FI(g h:Int)(i:Abk)(j:List Abk)(e:List Go.L.Pv)(d:Bool):Option Int:=
 if d then Ch g h i j e d else(if 0<(e.length:Int) then Option.bind (C6 ([3,4]) (Go.L.Pv.mk g h i j e)) (fun c=>if !c.1 then Ch c.2.f.1 c.2.f.2.1 c.2.f.2.2.1 c.2.f.2.2.2.1 c.2.f.2.2.2.2 (!c.1) else Option.bind (C6 ([4]) c.2) (fun a=>if a.1 then Ch a.2.f.1 a.2.f.2.1 a.2.f.2.2.1 a.2.f.2.2.2.1 a.2.f.2.2.2.2 (!decide ((a.2.f.2.2.2.1.length:Int)=(a.2.f.2.2.2.2.length:Int))) else Ch a.2.f.1 a.2.f.2.1 a.2.f.2.2.1 a.2.f.2.2.2.1 a.2.f.2.2.2.2 false)) else Option.bind (C6 ([4]) (Go.L.Pv.mk g h i j e)) (fun b=>if b.1 then Ch b.2.f.1 b.2.f.2.1 b.2.f.2.2.1 b.2.f.2.2.2.1 b.2.f.2.2.2.2 (!decide ((b.2.f.2.2.2.1.length:Int)=(b.2.f.2.2.2.2.length:Int))) else Ch b.2.f.1 b.2.f.2.1 b.2.f.2.2.1 b.2.f.2.2.2.1 b.2.f.2.2.2.2 false))
def FJ(d e:Int)(g:Abk)(c:List Abk)(h:List Go.L.Pv)(b:Bool):Option Int:=
 if b then Ch d e g c h b else(if 0<(c.length:Int) then Option.bind (C6 ([4]) (Go.L.Pv.mk d e g c h)) (fun a=>FI a.2.f.1 a.2.f.2.1 a.2.f.2.2.1 a.2.f.2.2.2.1 a.2.f.2.2.2.2 (!a.1)) else FI d e g c h false)
def FK(h d:Int)(c:Abk)(e:List Abk)(g:List Go.L.Pv)(b:Bool):Option Int:=
 if b then Ch h d c e g b else(if 0<(c.length:Int) then Option.bind (C6 ([2]) (Go.L.Pv.mk h d c e g)) (fun a=>FJ a.2.f.1 a.2.f.2.1 a.2.f.2.2.1 a.2.f.2.2.2.1 a.2.f.2.2.2.2 (!a.1)) else FJ h d c e g false)
def Js(a0:Go.L.Pv):Option Int:=
 Option.bind (C6 ([1,2,3,4]) a0) (fun b=>if !b.1 then none else(if b.2.f.2.1=0 then FK b.2.f.1 b.2.f.2.1 b.2.f.2.2.1 b.2.f.2.2.2.1 b.2.f.2.2.2.2 false else Option.bind (C6 ([1]) b.2) (fun a=>FK a.2.f.1 a.2.f.2.1 a.2.f.2.2.1 a.2.f.2.2.2.1 a.2.f.2.2.2.2 (!a.1))))
theorem PU(w:World)(H:PH)(hH:Le H (hp w)){a0:Go.L.Pv}{ci cj ck:Value}(eo:AI .byte H ci (a0.f.2.2.1))(ep:AI .st H cj (a0.f.2.2.2.1))(eq:AI .tree H ck (a0.f.2.2.2.2)){r:Int}(h:Js a0=some r):
  Ok prog 176 [.agg #[No a0.f.1,No a0.f.2.1,ci,cj,ck]] w (fun v w'=>Ext w w'/\v=No r):=by
 refine A3 (n:=88) [(0,.agg #[No a0.f.1,No a0.f.2.1,ci,cj,ck])] func176 rfl fun hL=>Am<|CY (t:=64) rfl rfl rfl hL fun w1 b1 ex fk _=>A4 1 rfl<|AD 2 rfl<|A7<|A5<|Bi 1 rfl<|Bp (r:=(.int .i64)) (l:=[1,2,3,4]) rfl (fun _=>XP _ _ _ _ _) rfl (leMax 4) hH ex (.c1 rfl (.c1 rfl (.c1 rfl (.c1 rfl .nil)))) fun v2 w2 ga ey fl ez=>Ay h fun x3 e0 h=>Ep rfl rfl rfl (CQ (a0:=([1,2,3,4])) (a1:=a0) (O:=[]) hH ey ez (eo.mono (Aj hH)) (ep.mono (Aj hH)) (eq.mono (Aj hH)) e0) ?_;rintro _ w4 ⟨er,es,et,rfl,cl,fm,cm,cn,co⟩;refine A4 2 rfl<|Bb rfl h (fun e1 h=>?_) (fun e1 h=>?_)
 ·cases h
 refine Bo (σ:=Int×Int×Abk×(List Abk)×(List Go.L.Pv)×Bool×Value×Value×Value) (fun⟨bx,bz,b0,bl,b2,a2,ab,aa,ac⟩=>[(1,(Abi b1)),(12,.bool a2)]) (fun⟨bx,bz,b0,bl,b2,a2,ab,aa,ac⟩ wr=>DF w [.box b1 [No bx,No bz,ab,aa,ac] 64] wr fun Oz=>AI .byte (gz H w wr Oz) ab b0/\AI .st (gz H w wr Oz) aa bl/\AI .tree (gz H w wr Oz) ac b2/\Ch bx bz b0 bl b2 a2=some r) ?_ ?_
 ·refine Bo (σ:=Int×Int×Abk×(List Abk)×(List Go.L.Pv)×Bool×Value×Value×Value) (fun⟨bp,aj,ak,al,am,x,ad,ae,af⟩=>[(1,(Abi b1)),(3,.func (.func 228) #[] #[Abi b1]),(12,.bool x)]) (fun⟨bp,aj,ak,al,am,x,ad,ae,af⟩ wr=>DF w [.box b1 [No bp,No aj,ad,ae,af] 64] wr fun Oz=>AI .byte (gz H w wr Oz) ad ak/\AI .st (gz H w wr Oz) ae al/\AI .tree (gz H w wr Oz) af am/\FK bp aj ak al am x=some r) ?_ ?_
  ·have q:=cl.rG H;refine Aw<|Ag (Ae rfl Ac8 rfl Cj) rfl<|Ag (Af 0 rfl Abn rfl cl rfl) rfl<|As 2 rfl<|AP (s:=16) rfl (fun d=>?_) (fun d=>?_)
   ·have h:=BJ (CG d) h;refine Aa rfl d<|Ag (Ad rfl) rfl<|Aa rfl d<|Bp (r:=(.int .i64)) (l:=[1]) rfl (fun _=>I7 _ _) rfl (leMax 1) hH cl (.c1 rfl .nil) fun fn fo e8 dq c5 dr=>Aa rfl d<|Ay h fun be ds h=>?_;have q:=q.trans (Ab hH c5);refine Ep rfl rfl rfl (CQ (a0:=([1])) (a1:=x3.2) (O:=[]) hH dq dr (cm.mono q) (cn.mono q) (co.mono q) ds) ?_;rintro _ fp ⟨c6,c7,c8,rfl,dt,e2,ct,cu,cv⟩;refine Aa rfl d<|Ag (Ad rfl) rfl<|Ag (A2 rfl d rfl) rfl<|As 1 rfl<|AK<|A8 (be.2.f.1,be.2.f.2.1,be.2.f.2.2.1,be.2.f.2.2.2.1,be.2.f.2.2.2.2,!be.1,c6,c7,c8) (Sub.of rfl) ⟨dt,ct,cu,cv,h⟩
   have h:=BI (CH d) h
   iterate 4 refine Ai rfl d rfl ?_
   refine Ag (A9 rfl d rfl) rfl<|As 1 rfl<|AK<|A8 (x3.2.f.1,x3.2.f.2.1,x3.2.f.2.2.1,x3.2.f.2.2.2.1,x3.2.f.2.2.2.2,false,er,es,et) (Sub.of rfl) ⟨cl,(cm.mono q),(cn.mono q),(co.mono q),h⟩
  rintro⟨bp,aj,ak,al,am,x,ad,ae,af⟩ e9 ⟨a3,a4,bq,br,h⟩;refine Bb rfl h (fun du h=>?_) (fun du h=>?_)
  ·refine Av<|A8 (bp,aj,ak,al,am,x,ad,ae,af) (Sub.of rfl) ⟨a3,a4,bq,br,h⟩
  refine Bo (σ:=Int×Int×Abk×(List Abk)×(List Go.L.Pv)×Bool×Value×Value×Value) (fun⟨an,ao,ap,aq,ar,y,ag,ah,ai⟩=>[(1,(Abi b1)),(3,.func (.func 228) #[] #[Abi b1]),(12,.bool y)]) (fun⟨an,ao,ap,aq,ar,y,ag,ah,ai⟩ wr=>DF w [.box b1 [No an,No ao,ag,ah,ai] 64] wr fun Oz=>AI .byte (gz H w wr Oz) ag ap/\AI .st (gz H w wr Oz) ah aq/\AI .tree (gz H w wr Oz) ai ar/\FJ an ao ap aq ar y=some r) ?_ ?_
  ·have m:=a3.rG H;refine Aw<|Ag (Ae rfl Ac8 rfl F7) rfl<|Ag (Af 0 rfl AbF rfl a3 rfl) rfl<|Ag (Bu rfl AbF (a4.mono m)) rfl<|As 2 rfl<|AP (s:=26) rfl (fun e=>?_) (fun e=>?_)
   ·have h:=BI (of_decide_eq_true e) h;refine Aa rfl e<|Ag (Ad rfl) rfl<|Aa rfl e<|Bp (r:=(.int .i64)) (l:=[2]) rfl (fun _=>I7 _ _) rfl (leMax 1) hH a3 (.c1 rfl .nil) fun fq fr fa dv c9 dw=>Aa rfl e<|Ay h fun bf dx h=>?_;have m:=m.trans (Ab hH c9);refine Ep rfl rfl rfl (CQ (a0:=([2])) (a1:=(Go.L.Pv.mk bp aj ak al am)) (O:=[]) hH dv dw (a4.mono m) (bq.mono m) (br.mono m) dx) ?_;rintro _ fs ⟨da,db,dc,rfl,dy,e3,cw,cx,cy⟩;refine Aa rfl e<|Ag (Ad rfl) rfl<|Ag (A2 rfl e rfl) rfl<|As 1 rfl<|AK<|A8 (bf.2.f.1,bf.2.f.2.1,bf.2.f.2.2.1,bf.2.f.2.2.2.1,bf.2.f.2.2.2.2,!bf.1,da,db,dc) (Sub.of rfl) ⟨dy,cw,cx,cy,h⟩
   have h:=BJ (of_decide_eq_false e) h
   iterate 4 refine Ai rfl e rfl ?_
   refine Ag (A9 rfl e rfl) rfl<|As 1 rfl<|AK<|A8 (bp,aj,ak,al,am,false,ad,ae,af) (Sub.of rfl) ⟨a3,(a4.mono m),(bq.mono m),(br.mono m),h⟩
  rintro⟨an,ao,ap,aq,ar,y,ag,ah,ai⟩ fb ⟨a5,bs,a6,bt,h⟩;refine Bb rfl h (fun dz h=>?_) (fun dz h=>?_)
  ·refine Av<|A8 (an,ao,ap,aq,ar,y,ag,ah,ai) (Sub.of rfl) ⟨a5,bs,a6,bt,h⟩
  refine Bo (σ:=Int×Int×Abk×(List Abk)×(List Go.L.Pv)×Bool×Value×Value×Value) (fun⟨au,av,aw,ax,ay,z,a7,a8,a9⟩=>[(1,(Abi b1)),(3,.func (.func 228) #[] #[Abi b1]),(12,.bool z)]) (fun⟨au,av,aw,ax,ay,z,a7,a8,a9⟩ wr=>DF w [.box b1 [No au,No av,a7,a8,a9] 64] wr fun Oz=>AI .byte (gz H w wr Oz) a7 aw/\AI .st (gz H w wr Oz) a8 ax/\AI .tree (gz H w wr Oz) a9 ay/\FI au av aw ax ay z=some r) ?_ ?_
  ·have o:=a5.rG H;refine Aw<|Ag (Ae rfl Ac8 rfl IW) rfl<|Ag (Af 0 rfl Ac7 rfl a5 rfl) rfl<|Ag (Bu rfl Ac7 (a6.mono o)) rfl<|As 2 rfl<|AP (s:=36) rfl (fun g=>?_) (fun g=>?_)
   ·have h:=BI (of_decide_eq_true g) h;refine Aa rfl g<|Ag (Ad rfl) rfl<|Aa rfl g<|Bp (r:=(.int .i64)) (l:=[4]) rfl (fun _=>I7 _ _) rfl (leMax 1) hH a5 (.c1 rfl .nil) fun ft fu fc d0 dd d1=>Aa rfl g<|Ay h fun bg d2 h=>?_;have o:=o.trans (Ab hH dd);refine Ep rfl rfl rfl (CQ (a0:=([4])) (a1:=(Go.L.Pv.mk an ao ap aq ar)) (O:=[]) hH d0 d1 (bs.mono o) (a6.mono o) (bt.mono o) d2) ?_;rintro _ fv ⟨de,df,dg,rfl,d3,e4,cz,c0,c2⟩;refine Aa rfl g<|Ag (Ad rfl) rfl<|Ag (A2 rfl g rfl) rfl<|As 1 rfl<|AK<|A8 (bg.2.f.1,bg.2.f.2.1,bg.2.f.2.2.1,bg.2.f.2.2.2.1,bg.2.f.2.2.2.2,!bg.1,de,df,dg) (Sub.of rfl) ⟨d3,cz,c0,c2,h⟩
   have h:=BJ (of_decide_eq_false g) h
   iterate 4 refine Ai rfl g rfl ?_
   refine Ag (A9 rfl g rfl) rfl<|As 1 rfl<|AK<|A8 (an,ao,ap,aq,ar,false,ag,ah,ai) (Sub.of rfl) ⟨a5,(bs.mono o),(a6.mono o),(bt.mono o),h⟩
  rintro⟨au,av,aw,ax,ay,z,a7,a8,a9⟩ fd ⟨ba,bu,bv,bb,h⟩;refine Bb rfl h (fun d4 h=>?_) (fun d4 h=>?_)
  ·refine Av<|A8 (au,av,aw,ax,ay,z,a7,a8,a9) (Sub.of rfl) ⟨ba,bu,bv,bb,h⟩
  have c:=ba.rG H;refine Am<|Ag (Ae rfl Ac8 rfl Yz) rfl<|Ag (Af 0 rfl Afz rfl ba rfl) rfl<|Ag (Bu rfl Afz (bb.mono c)) rfl<|As 2 rfl<|AP (s:=46) rfl (fun i=>?_) (fun i=>?_)
  ·have h:=BI (of_decide_eq_true i) h;refine Aa rfl i<|Ag (Ad rfl) rfl<|Aa rfl i<|Bp (r:=(.int .i64)) (l:=[3,4]) rfl (fun _=>XO _ _ _) rfl (leMax 2) hH ba (.c1 rfl (.c1 rfl .nil)) fun fw fx fe d5 dh d6=>Aa rfl i<|Ay h fun az d7 h=>?_;have c:=c.trans (Ab hH dh);refine Ep rfl rfl rfl (CQ (a0:=([3,4])) (a1:=(Go.L.Pv.mk au av aw ax ay)) (O:=[]) hH d5 d6 (bu.mono c) (bv.mono c) (bb.mono c) d7) ?_;rintro _ fy ⟨di,dj,dk,rfl,b9,e5,b3,b4,b5⟩;refine Aa rfl i<|Ag (Ad rfl) rfl<|Ag (A2 rfl i rfl) rfl<|A4 1 rfl<|Bb rfl h (fun d8 h=>?_) (fun d8 h=>?_)
   ·refine Av<|A8 (az.2.f.1,az.2.f.2.1,az.2.f.2.2.1,az.2.f.2.2.2.1,az.2.f.2.2.2.2,!az.1,di,dj,dk) (Sub.of rfl) ⟨b9,b3,b4,b5,h⟩
   have bc:=b9.rG H;refine Aw<|As 1 rfl<|Bp (r:=(.int .i64)) (l:=[4]) rfl (fun _=>I7 _ _) rfl (leMax 1) hH b9 (.c1 rfl .nil) fun fz f0 ff d9 dl ea=>Ay h fun j eb h=>?_;have bc:=bc.trans (Ab hH dl);refine Ep rfl rfl rfl (CQ (a0:=([4])) (a1:=az.2) (O:=[]) hH d9 ea (b3.mono bc) (b4.mono bc) (b5.mono bc) eb) ?_;rintro _ f1 ⟨cc,cd,ce,rfl,bm,e6,b6,bh,bi⟩;refine As 1 rfl<|AP (s:=55) rfl (fun a=>?_) (fun a=>?_)
   ·have h:=HA a h;refine Aa rfl a<|Ag (Ae rfl Ac8 rfl IW) rfl<|Aa rfl a<|Ag (Af 0 rfl Ac7 rfl bm rfl) rfl<|Aa rfl a<|Ag (Bu rfl Ac7 bh) rfl<|Aa rfl a<|Ag (Ae rfl Ac8 rfl Yz) rfl<|Aa rfl a<|Ag (Af 0 rfl Afz rfl bm rfl) rfl<|Aa rfl a<|Ag (Bu rfl Afz bi) rfl<|Aa rfl a<|Ag (Ad rfl) rfl<|Ag (A2 rfl a rfl) rfl<|As 1 rfl<|AK<|A8 (j.2.f.1,j.2.f.2.1,j.2.f.2.2.1,j.2.f.2.2.2.1,j.2.f.2.2.2.2,!decide ((j.2.f.2.2.2.1.length:Int)=(j.2.f.2.2.2.2.length:Int)),cc,cd,ce) (Sub.of rfl) ⟨bm,b6,bh,bi,h⟩
   have h:=HB a h
   iterate 7 refine Ai rfl a rfl ?_
   refine Ag (A9 rfl a rfl) rfl<|As 1 rfl<|AK<|A8 (j.2.f.1,j.2.f.2.1,j.2.f.2.2.1,j.2.f.2.2.2.1,j.2.f.2.2.2.2,false,cc,cd,ce) (Sub.of rfl) ⟨bm,b6,bh,bi,h⟩
  have h:=BJ (of_decide_eq_false i) h
  iterate 4 refine Ai rfl i rfl ?_
  refine Ag (A9 rfl i rfl) rfl<|A4 1 rfl<|Cr rfl<|Aw<|As 1 rfl<|Bp (r:=(.int .i64)) (l:=[4]) rfl (fun _=>I7 _ _) rfl (leMax 1) hH ba (.c1 rfl .nil) fun f2 f3 fg ec dm ed=>Ay h fun k ee h=>?_;have c:=c.trans (Ab hH dm);refine Ep rfl rfl rfl (CQ (a0:=([4])) (a1:=(Go.L.Pv.mk au av aw ax ay)) (O:=[]) hH ec ed (bu.mono c) (bv.mono c) (bb.mono c) ee) ?_;rintro _ f4 ⟨cf,cg,ch,rfl,bn,e7,b7,bj,bk⟩;refine As 1 rfl<|AP (s:=55) rfl (fun b=>?_) (fun b=>?_)
  ·have h:=HA b h;refine Aa rfl b<|Ag (Ae rfl Ac8 rfl IW) rfl<|Aa rfl b<|Ag (Af 0 rfl Ac7 rfl bn rfl) rfl<|Aa rfl b<|Ag (Bu rfl Ac7 bj) rfl<|Aa rfl b<|Ag (Ae rfl Ac8 rfl Yz) rfl<|Aa rfl b<|Ag (Af 0 rfl Afz rfl bn rfl) rfl<|Aa rfl b<|Ag (Bu rfl Afz bk) rfl<|Aa rfl b<|Ag (Ad rfl) rfl<|Ag (A2 rfl b rfl) rfl<|As 1 rfl<|AK<|A8 (k.2.f.1,k.2.f.2.1,k.2.f.2.2.1,k.2.f.2.2.2.1,k.2.f.2.2.2.2,!decide ((k.2.f.2.2.2.1.length:Int)=(k.2.f.2.2.2.2.length:Int)),cf,cg,ch) (Sub.of rfl) ⟨bn,b7,bj,bk,h⟩
  have h:=HB b h
  iterate 7 refine Ai rfl b rfl ?_
  refine Ag (A9 rfl b rfl) rfl<|As 1 rfl<|AK<|A8 (k.2.f.1,k.2.f.2.1,k.2.f.2.2.1,k.2.f.2.2.2.1,k.2.f.2.2.2.2,false,cf,cg,ch) (Sub.of rfl) ⟨bn,b7,bj,bk,h⟩
 rintro⟨bx,bz,b0,bl,b2,a2,ab,aa,ac⟩ f5 ⟨bw,ef,ca,cp,h⟩;refine Bb rfl h (fun eg h=>?_) (fun eg h=>?_)
 ·cases h
 have u:=bw.rG H;refine Am<|Ag (Ae rfl Ac8 rfl Yz) rfl<|Ag (Af 0 rfl Afz rfl bw rfl) rfl<|Ag (Bu rfl Afz (cp.mono u)) rfl<|A4 2 rfl<|AM rfl h (fun eh h=>?_) (fun eh h=>?_)
 ·cases h
 refine Am<|Ag (Ae rfl Ac8 rfl IW) rfl<|Ag (Af 0 rfl Ac7 rfl bw rfl) rfl<|Ay h fun f6 ei h=>AA rfl rfl bw (Pq _ _ (Ar hH bw) (ca.mono u) ei) fun f7 fh cq dn=>A4 1 rfl<|Bb rfl h (fun ej h=>?_) (fun ej h=>?_)
 ·cases h
 refine Av<|AF<|Ao<|Bo (σ:=Unit) (fun(_:Unit)=>[]) (fun(_:Unit) wr=>DF w [.box b1 [No bx,No bz,ab,aa,ac] 64] wr fun Oz=>AI .byte (gz H w wr Oz) ab b0/\AI .st (gz H w wr Oz) aa bl/\AI .tree (gz H w wr Oz) ac b2/\H0=some r) ?_ ?_
 ·refine Am<|Ag (Ae rfl Ac8 rfl IW) rfl<|Ag (Af 0 rfl Ac7 rfl cq rfl) rfl ?_;have u:=u.trans (Ab hH dn);refine Ag (Bu rfl Ac7 (ca.mono u)) rfl<|A4 1 rfl<|A5 ?_;obtain⟨dp,h⟩:=AZ h;refine Bx (σ:=Int×Nat) (fun⟨p,n⟩=>[(74,aa),(75,No (bl.length:Int)),(76,No p)]) (fun⟨p,n⟩ wr=>DF w [.box b1 [No bx,No bz,ab,aa,ac] 64] wr fun Oz=>AI .st (gz H w wr Oz) aa bl/\AI .byte (gz H w wr Oz) ab b0/\AI .tree (gz H w wr Oz) ac b2/\F6 (GH bl) n p=some r) (fun⟨p,n⟩=>n) (0,dp) (Sub.of rfl) ⟨cq,(ca.mono u),(ef.mono u),(cp.mono u),h⟩ ?_;rintro⟨p,nn232⟩ fi ⟨cb,b8,c3,c4,h⟩;obtain⟨dp,f8,rfl,h,ek⟩:=AY h;have bo:=cb.rG H;refine AD 1 rfl<|A7<|AM rfl h (fun el h=>?_) (fun el h=>?_)
  ·refine Av<|Ao<|A7<|A5<|Bi 1 rfl<|Az h fun cr h=>Bf rfl rfl Ac7 EZ (b8.mono bo) p.toNat (EX cr) (Ba cr) rfl ?_;rintro f9 _ rfl em;refine Ag (Bj rfl Ab1 rfl em (Ar hH cb)) rfl<|A4 2 rfl ?_
   cases h
  refine Br<|AG<|A6 ?_;have h:=BP.out h ek;refine Be<|A8 () (Sub.nil _) ⟨cb,(c3.mono bo),(b8.mono bo),(c4.mono bo),h⟩
 rintro _ fj ⟨en,eu,ev,ew,h⟩;refine AD 1 rfl<|Ax ?_
 cases h
 refine Ak rfl ⟨en.ext,rfl⟩
def GI(a1:Int):Option AfM:=
 some ((a1+1),(0,0))
def Gw(a0:Go.L.Pv)(a1:Int):Int->Option ((Int) ⊕ AfM):=fun a=>
 if a<(a0.f.2.2.2.2.length:Int) then AS (0<=a/\a<(a0.f.2.2.2.2.length:Int)) none else Option.map Sum.inr ((GI a1))
def Ja(a0:Go.L.Pv)(a1 s:Int):Option AfM:=Go.L.run (Gw a0 a1) s
def GX(_self:Go.L.Pv->Int->Int->Option AfM)(a0:Go.L.Pv)(a1 a2:Int):Option AfM:=
 if(600<=a1)\/(10<a2) then none else Option.bind (Js a0) (fun a=>if a=0 then AS (B0 (a1+1)) ((Ja a0 a1) (0:Int)) else none)
def KA(self:Go.L.Pv->Int->Int->Option AfM):Prop:=∀ (w:World) (H:PH) (hH:Le H (hp w)) {a0:Go.L.Pv} {a1:Int} {a2:Int} {a:Value} {b:Value} {c:Value} (d:AI .byte H a (a0.f.2.2.1)) (e:AI .st H b (a0.f.2.2.2.1)) (g:AI .tree H c (a0.f.2.2.2.2)) {r:Int×(Int×Int)} (h:self a0 a1 a2=some r),Ok prog 125 [.agg #[No a0.f.1,No a0.f.2.1,a,b,c],No a1,No a2] w (fun v w'=>Ext w w'/\v=.tuple #[No r.1,.agg #[No r.2.1,No r.2.2]])
def HO:Nat->Go.L.Pv->Int->Int->Option AfM
 | 0=>fun _ _ _=>none
 | n+1=>GX (HO n)
def My:Go.L.Pv->Int->Int->Option AfM:=HO 1000
theorem Pr(self:Go.L.Pv->Int->Int->Option AfM)(_hself:KA self):KA (GX self):=by
 intro w H hH a0 a1 a2 c d b q s e r h;refine A3 (n:=52) [(0,.agg #[No a0.f.1,No a0.f.2.1,c,d,b]),(1,No a1),(2,No a2)] func125 rfl fun hL=>Am<|CY (t:=64) rfl rfl rfl hL fun w1 b1 ac aj _=>As 1 rfl<|AH AW rfl rfl ac fun w2 m j ak _=>Ac<|A7<|Bi 3 rfl<|MT 2 2 rfl rfl rfl rfl rfl rfl<|Ac<|AM rfl h (fun ad h=>?_) (fun ad h=>?_)
 ·cases h
 refine Av<|Ao<|A7<|Am<|Ag (AE 1 rfl Ac8 rfl Hh j rfl) rfl<|Ay h fun x6 ae h=>AA rfl rfl j (PU (a0:=a0) _ _ (Ar hH j) (q.mono (Aj hH)) (s.mono (Aj hH)) (e.mono (Aj hH)) ae) fun w7 ap o al=>A4 1 rfl<|AD 2 rfl<|BV rfl h (fun af h=>?_) (fun af h=>?_)
 ·cases h
 refine Av<|Ao<|Bi 1 rfl<|Az h fun u h=>Ag (A1 rfl u) rfl<|A4 1 rfl<|Bo (σ:=Unit) (fun(_:Unit)=>[(7,(Abi m)),(9,No (a1+1))]) (fun(_:Unit) wr=>Bd w [.box m [No 0,No 0] 28,.box b1 [No a0.f.1,No a0.f.2.1,c,d,b] 64] wr/\(GI a1)=some r) ?_ ?_
 ·refine Am<|Ag (Ae rfl Ac8 rfl Yz) rfl<|Ag (Af 1 rfl Afz rfl o rfl) rfl<|Ag (Bu rfl Afz e) rfl<|A4 1 rfl<|A5 ?_;obtain⟨p,h⟩:=AZ h;refine Bx (σ:=Int×Nat) (fun⟨a,n⟩=>[(7,(Abi m)),(9,No (a1+1)),(31,b),(32,No (a0.f.2.2.2.2.length:Int)),(33,No a)]) (fun⟨a,n⟩ wr=>Bd w [.box m [No 0,No 0] 28,.box b1 [No a0.f.1,No a0.f.2.1,c,d,b] 64] wr/\F6 (Gw a0 a1) n a=some r) (fun⟨a,n⟩=>n) (0,p) (Sub.of rfl) ⟨o,h⟩ ?_;rintro⟨a,nn41⟩ am ⟨g,h⟩;obtain⟨p,aq,rfl,h,v⟩:=AY h;refine AD 1 rfl<|A7<|AM rfl h (fun x h=>?_) (fun x h=>?_)
  ·refine Av<|Ao<|A7<|A5<|Am<|Az h fun k h=>Bf rfl rfl Afz Hh e a.toNat (EX k) (Ba k) rfl ?_;rintro ar _ e45t0 y;obtain⟨_,_,rfl,rfl,⟨_,_,rfl,rfl,⟨_,_,rfl,⟨e45v2,rfl,e45h2⟩,⟨_,_,rfl,⟨e45v3,rfl,e45h3⟩,⟨e45v4,rfl,e45h4⟩⟩⟩⟩⟩:=Go.E.Rp.OV e45t0;refine Ag (C9 rfl Ac8 rfl Hh y (hH.trans g.arg)) rfl<|AH Hh rfl rfl g fun au av z ag _=>Ah 0 rfl Hh z rfl (AU rfl (AU rfl (AU e45h2.one (AU e45h3.one (AU e45h4.one Hj))))) fun aw an ah=>Ac ?_
   cases h
  refine Br<|AG<|A6 ?_;have h:=BP.out h v;refine Be<|A8 () (Sub.of rfl) ⟨g,h⟩
 rintro _ ao ⟨aa,h⟩;refine Bi 1 rfl<|Ag (AR rfl (fun _=>Cf _)) rfl<|As 1 rfl<|Ah 0 rfl AW aa rfl (Bc rfl) fun ax l ai=>Ac<|Ax ?_
 cases h
 refine Bz rfl (.tmp rfl) (.cell rfl Ack rfl AW (AL (i:=0) l rfl)) ⟨l.ext,rfl⟩
theorem Ra(n:Nat):KA (HO n):=by
 induction n with
 | zero=>unfold KA;intros;rename_i h;cases h
 | succ n ih=>exact Pr (HO n) ih
theorem Td(w:World)(H:PH)(hH:Le H (hp w)){a0:Go.L.Pv}{a1 a2:Int}{a b c:Value}(d:AI .byte H a (a0.f.2.2.1))(e:AI .st H b (a0.f.2.2.2.1))(g:AI .tree H c (a0.f.2.2.2.2)){r:Int×(Int×Int)}(h:My a0 a1 a2=some r):Ok prog 125 [.agg #[No a0.f.1,No a0.f.2.1,a,b,c],No a1,No a2] w (fun v w'=>Ext w w'/\v=.tuple #[No r.1,.agg #[No r.2.1,No r.2.2]]):=Ra 1000 w H hH d e g h
def Kc(a0:Int):Option Abk:=
 AS (Go.E.J3 1 (([]:Abk).length+([(Go.L.u8 (((IntKind.u64.wrap ((IntKind.u64.wrap a0) * 2)).toNat ^^^ (IntKind.u64.wrap (a0 / 9223372036854775808)).toNat:Nat):Int))]).length)) (some ((([]:Abk)++[(Go.L.u8 (((IntKind.u64.wrap ((IntKind.u64.wrap a0) * 2)).toNat ^^^ (IntKind.u64.wrap (a0 / 9223372036854775808)).toNat:Nat):Int))])))
def Jt(a0:Int):Unit->Option ((Unit) ⊕ (Abk)):=fun _=>
 if 128<=(((IntKind.u64.wrap ((IntKind.u64.wrap a0) * 2)).toNat ^^^ (IntKind.u64.wrap (a0 / 9223372036854775808)).toNat:Nat):Int) then none else Option.map Sum.inr ((Kc a0))
def LV(a0:Int)(s:Unit):Option Abk:=Go.L.run (Jt a0) s
def Eb(a0:Int):Option Abk:=
 AS ((0<=(IntKind.u64.wrap ((IntKind.u64.wrap a0) * 2))/\(IntKind.u64.wrap ((IntKind.u64.wrap a0) * 2))<2 ^ 64)/\(0<=(IntKind.u64.wrap (a0 / 9223372036854775808))/\(IntKind.u64.wrap (a0 / 9223372036854775808))<2 ^ 64)) ((LV a0) ())
theorem BW(w:World)(H:PH)(hH:Le H (hp w)){a0:Int}{r:Abk}(h:Eb a0=some r):
  Ok prog 177 [No a0] w (fun v w'=>Ext w w'/\∃ s,v=s/\BN 5 .byte H w w' s r):=by
 refine A3 (n:=27) [(0,No a0)] func177 rfl fun hL=>AD 1 rfl<|Bi 1 rfl<|Ag (DE Abn Ae9 rfl rfl) rfl<|Ag (AcC (c:=1) (m:=2) rfl rfl rfl (by decide) rfl) rfl<|As 1 rfl<|Ag (TZ (c:=63) (m:=9223372036854775808) rfl rfl rfl (by decide)) rfl<|Ag (DE Abn Ae9 rfl rfl) rfl<|Az h fun t h=>Ag (Adt rfl rfl rfl t) rfl<|A4 1 rfl<|Bi 1 rfl ?_;obtain⟨u,z,x⟩:=C0 .byte H 5 hL;refine Ac<|Bo (σ:=Unit) (fun(_:Unit)=>[(3,.int .u64 (((IntKind.u64.wrap ((IntKind.u64.wrap a0) * 2)).toNat ^^^ (IntKind.u64.wrap (a0 / 9223372036854775808)).toNat:Nat):Int)),(4,Aa8)]) (fun(_:Unit) wr=>DF w [.row Aa8 5 1 (([]:Abk)).length ([])] wr fun Oz=>AJ .byte (gz H w wr Oz) (([]:Abk)) ([])/\(Kc a0)=some r) ?_ ?_
 ·refine A5 ?_;obtain⟨d,h⟩:=AZ h;refine Bx (σ:=Nat) (fun n=>[(3,.int .u64 (((IntKind.u64.wrap ((IntKind.u64.wrap a0) * 2)).toNat ^^^ (IntKind.u64.wrap (a0 / 9223372036854775808)).toNat:Nat):Int)),(4,Aa8)]) (fun n wr=>DF w [.row Aa8 5 1 (([]:Abk)).length ([])] wr fun Oz=>AJ .byte (gz H w wr Oz) (([]:Abk)) ([])/\F6 (Jt a0) n ()=some r) (fun n=>n) d (Sub.of rfl) ⟨u,x,h⟩ ?_;rintro nn18 aa ⟨e,he18_r2,h⟩;obtain⟨d,ae,rfl,h,f⟩:=AY h;refine A7<|AD 2 rfl<|AM rfl h (fun g h=>?_) (fun g h=>?_)
  ·refine Av<|Ao ?_
   cases h
  refine Br<|AG<|A6 ?_;have h:=BP.out h f;refine Be<|A8 () (Sub.of rfl) ⟨e,he18_r2,h⟩
 rintro _ ab ⟨j,he12_r2,h⟩;refine Bi 2 rfl<|Ag (DE Ae9 Ac5 rfl (Hm _)) rfl<|Bp (r:=.byte) (l:=[(Go.L.u8 (((IntKind.u64.wrap ((IntKind.u64.wrap a0) * 2)).toNat ^^^ (IntKind.u64.wrap (a0 / 9223372036854775808)).toNat:Nat):Int))]) rfl (fun _=>EC _ _) rfl (leMax 1) hH j (.c1 rfl .nil) fun af ag ac k b o=>Az h fun p h=>?_;have he12_r2:=he12_r2.mono (Ab hH b);refine Bt (r:=.byte) (l:=([]:Abk)) (m:=[(Go.L.u8 (((IntKind.u64.wrap ((IntKind.u64.wrap a0) * 2)).toNat ^^^ (IntKind.u64.wrap (a0 / 9223372036854775808)).toNat:Nat):Int))]) 0 rfl rfl AbF LH rfl (by decide) rfl hH k rfl he12_r2 o p fun ah ai ad a y q=>A4 1 rfl<|Ax ?_
 cases h
 refine Ak rfl ⟨a.ext,_,rfl,(a.Ge hH (i:=0) rfl q)⟩
def LW(a0:Abk):Option Abk:=
 Option.bind (Eb (a0.length:Int)) (fun a=>AS (Go.E.J3 1 (a.length+a0.length)) (some ((a++a0))))
theorem F5(w:World)(H:PH)(hH:Le H (hp w)){a0:Abk}{a:Value}(b:AI .byte H a a0){r:Abk}(h:LW a0=some r):
  Ok prog 178 [a] w (fun v w'=>Ext w w'/\∃ g,v=g/\BN 5 .byte H w w' g r):=by
 refine A3 (n:=8) [(0,a)] func178 rfl fun hL=>AD 1 rfl<|Bi 1 rfl<|Ag (Bu rfl AbF b) rfl<|Ay h fun s j h=>Bn rfl rfl hL (BW _ _ (Ar hH hL) j) ?_;rintro t z ⟨_,rfl,c⟩ k d f;obtain⟨x,d,f,o⟩:=c.take hH hL k;refine As 1 rfl<|Az h fun p h=>Bt (r:=.byte) (l:=s) (m:=a0) 0 rfl rfl AbF LH rfl (by decide) rfl hH d rfl o (b.mono (Aj hH)) p fun v3 w3 y e u q=>A4 1 rfl<|Ax ?_
 cases h
 refine Ak rfl ⟨e.ext,_,rfl,(e.Ge hH (i:=0) rfl q)⟩
def Gx(_self:Go.L.Pv->Option Abk)(a0:Go.L.Pv):Option Abk:=
 Option.bind (Eb a0.f.1) (fun a=>if a0.f.1=1 then Option.bind (Eb a0.f.2.1) (fun b=>AS (Go.E.J3 1 (a.length+b.length)) (some ((a++b)))) else(if a0.f.1=2 then none else none))
def Kd(self:Go.L.Pv->Option Abk):Prop:=∀ (w:World) (H:PH) (hH:Le H (hp w)) {a0:Go.L.Pv} {a:Value} {b:Value} {c:Value} (e:AI .byte H a (a0.f.2.2.1)) (g:AI .st H b (a0.f.2.2.2.1)) (i:AI .tree H c (a0.f.2.2.2.2)) {r:Abk} (h:self a0=some r),Ok prog 126 [.agg #[No a0.f.1,No a0.f.2.1,a,b,c]] w (fun v w'=>Ext w w'/\∃ d,v=d/\BN 5 .byte H w w' d r)
def GY:Nat->Go.L.Pv->Option Abk
 | 0=>fun _=>none
 | n+1=>Gx (GY n)
def Ly:Go.L.Pv->Option Abk:=GY 1000
theorem OD(self:Go.L.Pv->Option Abk)(_hself:Kd self):Kd (Gx self):=by
 intro w H hH a0 k o p af ag ah r h;refine A3 (n:=57) [(0,.agg #[No a0.f.1,No a0.f.2.1,k,o,p])] func126 rfl fun hL=>Am<|CY (t:=64) rfl rfl rfl hL fun w1 b1 c ai _=>A4 1 rfl<|Am<|Ag (Ae rfl Ac8 rfl Cj) rfl<|Ag (Af 0 rfl Abn rfl c rfl) rfl<|Ay h fun x2 x h=>Bn rfl rfl c (BW _ _ (Ar hH c) x) ?_;rintro ak w3 ⟨_,rfl,e⟩ y a q;obtain⟨an,a,q,d⟩:=e.take hH c y;refine A4 1 rfl<|A7<|Am<|Ag (Ae rfl Ac8 rfl Cj) rfl<|Ag (Af 1 rfl Abn rfl a rfl) rfl<|Ac<|A5<|AD 2 rfl<|AM rfl h (fun z h=>?_) (fun z h=>?_)
 ·refine Bi 1 rfl<|Ag (Ae rfl Ac8 rfl Cj) rfl<|Ag (Af 1 rfl Abn rfl a rfl) rfl<|Ay h fun x6 aa h=>Bn rfl rfl a (BW _ _ (Ar hH a) aa) ?_;rintro am w7 ⟨_,rfl,g⟩ ab ac s;have b:=g.Cz hH a ab;have d:=d.mono (Ab hH s);refine Az h fun ad h=>Bt (r:=.byte) (l:=x2) (m:=x6) 0 rfl rfl AbF LH rfl (by decide) rfl hH ac rfl d b ad ?_;intro v8 w8 ao j u ae;have b:=b.mono (Ab hH u);refine A4 1 rfl<|Ax<|Aq<|An ?_
  cases h
  refine Ak rfl ⟨j.ext,_,rfl,(j.Ge hH (i:=0) rfl ae)⟩
 refine AD 2 rfl<|AM rfl h (fun v h=>?_) (fun v h=>?_)
 ·cases h
 refine Av<|AF<|Ao ?_
 cases h
theorem Q1(n:Nat):Kd (GY n):=by
 induction n with
 | zero=>unfold Kd;intros;rename_i h;cases h
 | succ n ih=>exact OD (GY n) ih
theorem RN(w:World)(H:PH)(hH:Le H (hp w)){a0:Go.L.Pv}{a b c:Value}(d:AI .byte H a (a0.f.2.2.1))(e:AI .st H b (a0.f.2.2.2.1))(g:AI .tree H c (a0.f.2.2.2.2)){r:Abk}(h:Ly a0=some r):Ok prog 126 [.agg #[No a0.f.1,No a0.f.2.1,a,b,c]] w (fun v w'=>Ext w w'/\∃ i,v=i/\BN 5 .byte H w w' i r):=Q1 1000 w H hH d e g h
def Lz(a0:Go.L.Pv):Option (Abk×(Int×Int)):=
 Option.bind (My a0 (0:Int) (1:Int)) (fun b=>if b.2.1=0/\b.2.2=0 then Option.bind (Ly a0) (fun a=>if 4000<(a.length:Int) then none else some (a,(0,0))) else none)
theorem RO(w:World)(H:PH)(hH:Le H (hp w)){a0:Go.L.Pv}{b c d:Value}(k:AI .byte H b (a0.f.2.2.1))(l:AI .st H c (a0.f.2.2.2.1))(m:AI .tree H d (a0.f.2.2.2.2)){r:Abk×(Int×Int)}(h:Lz a0=some r):
  Ok prog 77 [.agg #[No a0.f.1,No a0.f.2.1,b,c,d]] w (fun v w'=>Ext w w'/\∃ z,v=.tuple #[z,.agg #[No r.2.1,No r.2.2]]/\BN 5 .byte H w w' z (r.1)):=by
 refine A3 (n:=24) [(0,.agg #[No a0.f.1,No a0.f.2.1,b,c,d])] func77 rfl fun hL=>Am<|CY (t:=64) rfl rfl rfl hL fun w1 b1 aa ag _=>As 1 rfl<|AH AW rfl rfl aa fun w2 b2 o ah _=>Ac<|A7<|Am<|Ag (AE 1 rfl Ac8 rfl Hh o rfl) rfl<|Ay h fun x3 ab h=>AA rfl rfl o (Td (a0:=a0) _ _ (Ar hH o) (k.mono (Aj hH)) (l.mono (Aj hH)) (m.mono (Aj hH)) ab) fun w4 am ac ai=>As 3 rfl<|AH AW rfl rfl ac fun w5 b5 ad aj _=>As 1 rfl<|Ah 0 rfl AW ad rfl (Bc rfl) fun w6 a ak=>Ac<|Am<|Ag (AE 0 rfl Ack rfl AW a rfl) rfl<|Ag (AR rfl (fun _=>Cf _)) rfl<|Ag (Lh rfl rfl JF (MY _ _ _ _)) rfl<|Ac<|BV rfl h (fun ae h=>?_) (fun ae h=>?_)
 ·cases h
 refine Av<|Ao<|Am<|Ag (AE 2 rfl Ac8 rfl Hh a rfl) rfl<|Ay h fun an u h=>Bn rfl rfl a (RN (a0:=a0) _ _ (Ar hH a) (k.mono (Aj hH)) (l.mono (Aj hH)) (m.mono (Aj hH)) u) ?_;rintro af ao ⟨_,rfl,p⟩ x e q;obtain⟨al,e,q,g⟩:=p.take hH a x;refine A4 1 rfl<|A7<|Bi 1 rfl<|Ag (Om (i:=0) rfl AbF e rfl) rfl<|A4 1 rfl<|AM rfl h (fun y h=>?_) (fun y h=>?_)
 ·cases h
 refine Av<|Ao<|Bi 1 rfl<|Ag (AR rfl (fun _=>Cf _)) rfl<|As 1 rfl<|Ah 2 rfl AW e rfl (Bc rfl) fun ap j s=>Ac<|Ax ?_
 cases h
 refine Bz rfl (.tmp rfl) (.cell rfl Ack rfl AW (AL (i:=2) j rfl)) ?_;have g:=g.mono (Ab hH s);exact⟨j.ext,_,rfl,(j.Ge hH (i:=0) rfl g)⟩
def Iw(a0:Go.L.Pv):Option ((Int×Int)):=
 Option.bind (Lz a0) (fun a=>some ((a.2.1,a.2.2)))
theorem M0(w:World)(H:PH)(hH:Le H (hp w)){a0:Go.L.Pv}{a b c:Value}(j:AI .byte H a (a0.f.2.2.1))(k:AI .st H b (a0.f.2.2.2.1))(l:AI .tree H c (a0.f.2.2.2.2)){r:(Int×Int)}(h:Iw a0=some r):
  Ok prog 46 [.agg #[No a0.f.1,No a0.f.2.1,a,b,c]] w (fun v w'=>Ext w w'/\v=.agg #[No r.1,No r.2]):=by
 refine A3 (n:=11) [(0,.agg #[No a0.f.1,No a0.f.2.1,a,b,c])] func46 rfl fun hL=>Am<|CY (t:=64) rfl rfl rfl hL fun w1 b1 m u _=>AH AW rfl rfl m fun w2 b2 d x _=>Ac<|Am<|Ag (AE 1 rfl Ac8 rfl Hh d rfl) rfl<|Ay h fun x3 o h=>Bn rfl rfl d (RO (a0:=a0) _ _ (Ar hH d) (j.mono (Aj hH)) (k.mono (Aj hH)) (l.mono (Aj hH)) o) ?_;rintro _ w4 ⟨y,rfl,s⟩ ad p z;refine As 3 rfl<|AH AW rfl rfl p fun w5 b5 q aa _=>As 1 rfl<|Ah 0 rfl AW q rfl (Bc rfl) fun w6 e ab=>Ac<|Am<|Ag (AE 0 rfl Ack rfl AW e rfl) rfl<|Ah 1 rfl AW e rfl (Bc rfl) fun w7 g ac=>Ac<|Ax ?_
 cases h
 refine BH rfl (.cell rfl Ack rfl AW (AL (i:=1) g rfl)) ⟨g.ext,rfl⟩
end Go.Proofs.YtekmbcbgknmhiaaGreatDoor
end
noncomputable section
namespace Go
abbrev AfQ:=Abk×Int×Int×Abk
end Go
namespace Go.Proofs.YtekmbcbgknmhiaaGreatDoor
open Go Go.E Go.RowKit Go.L
set_option maxHeartbeats 1000000
set_option maxRecDepth 10000
open _root_.Go.Proofs.Tryz
def Fu{σ:Type}(a0:Go.L.Pv):Int×σ->Option ((Int×σ) ⊕ (σ)):=fun⟨a,sJ20⟩=>
 if a<(a0.f.2.2.2.2.length:Int) then AS (0<=a/\a<(a0.f.2.2.2.2.length:Int)) none else Option.map Sum.inr (some sJ20)
def HT{σ:Type}(a0:Go.L.Pv)(s:Int×σ):Option (σ):=Go.L.run (Fu a0) s
def FL{σ:Type}(step:σ->AfQ->Option σ)(_self:Go.L.Pv->(List Abk)->σ->Option σ)(a0:Go.L.Pv)(a1:List Abk)(s:σ):Option (σ):=
 Option.bind (R6 a1 ([47]:Abk)) (fun b=>Option.bind (step s (b,a0.f.1,a0.f.2.1,a0.f.2.2.1)) (fun a=>(HT a0) (0,a)))
def Gh{σ:Type}(step:σ->AfQ->Option σ):Nat->Go.L.Pv->(List Abk)->σ->Option σ
 | 0=>fun _ _ _=>none
 | n+1=>FL step (Gh step n)
def Jh{σ:Type}(step:σ->AfQ->Option σ):Go.L.Pv->(List Abk)->σ->Option σ:=Gh step 1000
theorem OE{σ:Type}{a:World}{H:PH}(hH:Le H (hp a)){fc:FuncId}{cap:List Value}{J:σ->List BS->PH->Prop}{step:σ->AfQ->Option σ}(hcb:Cb prog a H fc cap J step){self:Go.L.Pv->(List Abk)->σ->Option σ}(_hself:∀ {w:World} {O R:List BS} {s:σ} {a0:Go.L.Pv} {a1:List Abk} {va0_2:Value} {va0_3:Value} {va0_4:Value} {va1:Value} (hL:Bd a (Ha O R) w) (e:AI .byte (gz H a w (Ha O R)) va0_2 (a0.f.2.2.1)) (p:AI .st (gz H a w (Ha O R)) va0_3 (a0.f.2.2.2.1)) (g:AI .tree (gz H a w (Ha O R)) va0_4 (a0.f.2.2.2.2)) (ad:AI .st (gz H a w (Ha O R)) va1 a1) (hJ:J s R (gz H a w (Ha O R))) {r:σ} (h:self a0 a1 s=some r),Ok prog 82 [.agg #[No a0.f.1,No a0.f.2.1,va0_2,va0_3,va0_4],va1,.func (.func fc) #[] cap.toArray] w (fun v w'=>v=.tuple #[]/\∃ R':List BS,Bd a (Ha O R') w'/\Le (fz w (Ha O R)) (fz w' (Ha O R'))/\J r R' (gz H a w' (Ha O R')))){w:World}{O R:List BS}{s:σ}{a0:Go.L.Pv}{a1:List Abk}{va0_2 va0_3 va0_4 va1:Value}(hL:Bd a (Ha O R) w)(e:AI .byte (gz H a w (Ha O R)) va0_2 (a0.f.2.2.1))(p:AI .st (gz H a w (Ha O R)) va0_3 (a0.f.2.2.2.1))(g:AI .tree (gz H a w (Ha O R)) va0_4 (a0.f.2.2.2.2))(ad:AI .st (gz H a w (Ha O R)) va1 a1)(hJ:J s R (gz H a w (Ha O R))){r:σ}(h:FL step self a0 a1 s=some r):
  Ok prog 82 [.agg #[No a0.f.1,No a0.f.2.1,va0_2,va0_3,va0_4],va1,.func (.func fc) #[] cap.toArray] w (fun v w'=>v=.tuple #[]/\∃ R':List BS,Bd a (Ha O R') w'/\Le (fz w (Ha O R)) (fz w' (Ha O R'))/\J r R' (gz H a w' (Ha O R'))):=by
 refine Ez (n:=46) [(0,.agg #[No a0.f.1,No a0.f.2.1,va0_2,va0_3,va0_4]),(1,va1),(2,.func (.func fc) #[] cap.toArray)] func82 rfl rfl rfl rfl rfl ?_;have hT:=Le.refl (fz w (Ha O R));have c:=hL.rG H;refine Am<|CY (t:=64) rfl rfl rfl hL ?_;intro w2 y ae l _;have hJ:=hcb.mono (Ab hH l) hJ;refine Ac<|DD (.q 0 (.q 1 (.q 2 (.q 3 (.q 4 (.q 5 (.q 6 (.q 7 (.q 8 (.q 9 (.q 10 (.tail 11)))))))))))) mixed (by kernel_rfl) (fun w3 af=>?_);have d:=ae.call af;have m:=AT ae af;have hJ:=hcb.mono (Ab hH m) hJ;refine Df 2 rfl<|Ay h fun x5 ar h=>?_;have c:=c.trans (Ab hH (l.trans m));refine Ec rfl rfl rfl (fun w6 au=>Vc _ _ (Le.refl _) (((ad.mono c).mono (Ar hH d)).mono au.le) ar)<|BQ (Ae rfl Ac8 rfl Cj) rfl rfl<|BQ (Af 0 rfl Abn rfl d rfl) rfl rfl<|BQ (Ae rfl Ac8 rfl Cj) rfl rfl<|BQ (Af 0 rfl Abn rfl d rfl) rfl rfl<|BQ (Ae rfl Ac8 rfl F7) rfl rfl<|BQ (Af 0 rfl AbF rfl d rfl) rfl rfl<|BQ (KJ rfl AbF Ac5 Ab1 (e.mono c) (Ar hH d)) rfl rfl<|BQ (AR rfl (fun _=>SP _ rfl _ _ _ rfl _)) rfl rfl<|Cd (fun w7 ag=>?_);have av:=d.call ag;have o:=AT d ag
 have hJ:=hcb.mono (Ab hH o) hJ;refine Ay h fun ah aj h=>Ep (cap:=cap) rfl rfl rfl (hcb.ok (O:=(Ha [.box y [No a0.f.1,No a0.f.2.1,va0_2,va0_3,va0_4] 64] O)) (R:=R) (x:=(x5,a0.f.1,a0.f.2.1,a0.f.2.2.1)) av hJ aj) ?_;rintro _ w9 ⟨rfl,R9,u,j,aw⟩;replace u:Bd a (Ha [.box y [No a0.f.1,No a0.f.2.1,va0_2,va0_3,va0_4] 64] (Ha O R9)) w9:=u;replace j:Le (fz w7 (Ha [.box y [No a0.f.1,No a0.f.2.1,va0_2,va0_3,va0_4] 64] (Ha O R))) (fz w9 (Ha [.box y [No a0.f.1,No a0.f.2.1,va0_2,va0_3,va0_4] 64] (Ha O R9))):=j;replace hJ:J ah R9 (gz H a w9 (Ha [.box y [No a0.f.1,No a0.f.2.1,va0_2,va0_3,va0_4] 64] (Ha O R9))):=aw;refine Ac<|Am<|Ag (Ae rfl Ac8 rfl Yz) rfl<|Ag (Af 0 rfl Afz rfl u rfl) rfl ?_;have c:=c.trans (Ab hH (o.trans j));refine Ag (Bu rfl Afz (g.mono c)) rfl<|A4 1 rfl<|A5 ?_;obtain⟨ai,h⟩:=AZ h;have hT:=hT.trans (l.trans (m.trans (o.trans j)))
 refine Bx (σ:=Int×σ×(List BS)×Nat) (fun⟨b,sJ20,RJ20,n⟩=>[(22,va0_4),(23,No (a0.f.2.2.2.2.length:Int)),(24,No b)]) (fun⟨b,sJ20,RJ20,n⟩ wr=>DF a (Ha [.box y [No a0.f.1,No a0.f.2.1,va0_2,va0_3,va0_4] 64] (Ha O RJ20)) wr fun Oz=>AI .tree (gz H a wr Oz) va0_4 (a0.f.2.2.2.2)/\AI .byte (gz H a wr Oz) va0_2 (a0.f.2.2.1)/\AI .st (gz H a wr Oz) va0_3 (a0.f.2.2.2.1)/\Le (fz w (Ha O R)) (fz wr Oz)/\J sJ20 RJ20 (gz H a wr Oz)/\F6 (Fu a0) n (b,sJ20)=some r) (fun⟨b,sJ20,RJ20,n⟩=>n) (0,ah,R9,ai) (Sub.of rfl) ⟨u,(g.mono c),(e.mono c),(p.mono c),hT,hJ,h⟩ ?_;rintro⟨b,sJ20,RJ20,nn20⟩ a3 ⟨k,z,ax,ay,hT,hJ,h⟩;obtain⟨ai,a5,rfl,h,al⟩:=AY h;have am:=k.rG H;refine AD 1 rfl<|A7<|AM rfl h (fun an h=>?_) (fun an h=>?_)
 ·refine Av<|Ao<|A7<|A5<|Bi 1 rfl<|Az h fun aa h=>Bf rfl rfl Afz Hh (z.mono am) b.toNat (EX aa) (Ba aa) rfl ?_;rintro a6 _ e25t0 ao;obtain⟨_,_,rfl,rfl,⟨_,_,rfl,rfl,⟨_,_,rfl,⟨e25v2,rfl,e25h2⟩,⟨_,_,rfl,⟨e25v3,rfl,e25h3⟩,⟨e25v4,rfl,e25h4⟩⟩⟩⟩⟩:=Go.E.Rp.OV e25t0;refine Ag (C9 rfl Ac8 rfl Hh ao (Ar hH k)) rfl<|AH Hh rfl rfl k ?_;intro a7 a8 ap ab _;have hJ:=hcb.mono (Ab hH ab) hJ;refine As 1 rfl<|Ah 0 rfl Hh ap rfl (AU rfl (AU rfl (AU e25h2.one (AU e25h3.one (AU e25h4.one Hj))))) ?_;intro a9 a4 ac;have hJ:=hcb.mono (Ab hH ac) hJ;refine Ac ?_
  cases h
 refine Br<|AG<|A6 ?_;have h:=BP.out h al;refine Be ?_
 cases h
 refine JO rfl ?_;have aq:=k.AQ (i:=0) rfl;have hJ:=hcb.mono (Ab hH (Au (i:=0) rfl)) hJ;have hT:=hT.trans (Au (i:=0) rfl);exact⟨rfl,RJ20,aq,hT,hJ⟩
theorem Q2{σ:Type}{a:World}{H:PH}(hH:Le H (hp a)){fc:FuncId}{cap:List Value}{J:σ->List BS->PH->Prop}{step:σ->AfQ->Option σ}(hcb:Cb prog a H fc cap J step)(n:Nat):∀ {w:World} {O R:List BS} {s:σ} {a0:Go.L.Pv} {a1:List Abk} {va0_2:Value} {va0_3:Value} {va0_4:Value} {va1:Value} (hL:Bd a (Ha O R) w) (b:AI .byte (gz H a w (Ha O R)) va0_2 (a0.f.2.2.1)) (c:AI .st (gz H a w (Ha O R)) va0_3 (a0.f.2.2.2.1)) (d:AI .tree (gz H a w (Ha O R)) va0_4 (a0.f.2.2.2.2)) (e:AI .st (gz H a w (Ha O R)) va1 a1) (hJ:J s R (gz H a w (Ha O R))) {r:σ} (h:Gh step n a0 a1 s=some r),Ok prog 82 [.agg #[No a0.f.1,No a0.f.2.1,va0_2,va0_3,va0_4],va1,.func (.func fc) #[] cap.toArray] w (fun v w'=>v=.tuple #[]/\∃ R':List BS,Bd a (Ha O R') w'/\Le (fz w (Ha O R)) (fz w' (Ha O R'))/\J r R' (gz H a w' (Ha O R'))):=by
 induction n with
 | zero=>intros;rename_i h;cases h
 | succ n ih=>exact fun {_} {_} {_} {_} {_} {_} {_} {_} {_} {_} hL b c d e hJ {_} h=>OE hH hcb (self:=Gh step n) ih hL b c d e hJ h
theorem RP{σ:Type}{a:World}{H:PH}(hH:Le H (hp a)){fc:FuncId}{cap:List Value}{J:σ->List BS->PH->Prop}{step:σ->AfQ->Option σ}(hcb:Cb prog a H fc cap J step){w:World}{O R:List BS}{s:σ}{a0:Go.L.Pv}{a1:List Abk}{va0_2 va0_3 va0_4 va1:Value}(hL:Bd a (Ha O R) w)(b:AI .byte (gz H a w (Ha O R)) va0_2 (a0.f.2.2.1))(c:AI .st (gz H a w (Ha O R)) va0_3 (a0.f.2.2.2.1))(d:AI .tree (gz H a w (Ha O R)) va0_4 (a0.f.2.2.2.2))(e:AI .st (gz H a w (Ha O R)) va1 a1)(hJ:J s R (gz H a w (Ha O R))){r:σ}(h:Jh step a0 a1 s=some r):Ok prog 82 [.agg #[No a0.f.1,No a0.f.2.1,va0_2,va0_3,va0_4],va1,.func (.func fc) #[] cap.toArray] w (fun v w'=>v=.tuple #[]/\∃ R':List BS,Bd a (Ha O R') w'/\Le (fz w (Ha O R)) (fz w' (Ha O R'))/\J r R' (gz H a w' (Ha O R'))):=Q2 hH hcb 1000 hL b c d e hJ h
end Go.Proofs.YtekmbcbgknmhiaaGreatDoor
end
noncomputable section
namespace Go.E
open Go Go.RowKit
theorem Wm{κ:Type}{enc:κ->Value}:∀ (l:List κ) (vs:List Value) (i:Nat),l.length=vs.length->(mE enc i l vs).map (·.born)=List.range' i l.length
 | [],[],_,_=>rfl
 | a::l,u::vs,i,h=>by
  simp only [mE,List.map_cons,List.length_cons,List.range'_succ];rw [Wm l vs (i+1) (by simpa using h)]
theorem Aae{κ:Type}{enc:κ->Value}{l:List κ}{vs:List Value}(h:l.length=vs.length){x:MapEntry}(hx:x∈mE enc 0 l vs):∃ a,l[x.born]? = some a/\x=⟨enc a,vs.getD x.born default,x.born⟩:=by
 obtain⟨j,hj⟩:=List.getElem?_of_mem hx;have hjl:j<l.length:=by have:=(List.getElem?_eq_some_iff.1 hj).1;rwa [QT l vs 0 h] at this
 have:=QS (enc:=enc) l vs 0 j l[j] h (List.getElem?_eq_getElem hjl);rw [hj,Nat.zero_add] at this;obtain rfl:=Option.some.inj this;exact⟨l[j],List.getElem?_eq_getElem hjl,rfl⟩
section
variable {P:Program} {n:Sz} {ops:Array Oper} {Q:Exit->Act->World->Prop} {L:Env} {w w0:World} {O:List BS} {rest:List Oper} {d:Nat} {ty t kt et:TypeId} {pos:String} {af:Array Edge} {x:Operand} {κ:Type} {enc:κ->Value} {keys:List κ} {vs:List Value} {m N:Nat}
theorem Aaf[Dr](hx:ev L x=some (.map (some m)))(ht:P.underlying t=some (.map kt et))(hm:w.heap[m]? = some (.map (mE enc 0 keys vs).toArray N))(hn:Nat.blt d n.n=true)(hL:Bd w0 O w)
  (h:∀ w' b,Bd w0 (.obj b (.mapIter (some m) N ([]:List Nat).toArray N)::O) w'->Le (fz w O) (fz w' (.obj b (.mapIter (some m) N ([]:List Nat).toArray N)::O))->S P n ops Q rest ((d,.pointer (some ⟨b,0,none⟩))::L) w'):S P n ops Q (⟨some d,.range t x,ty,pos,af,none⟩::rest) L w:=by
 have hb:∀ b,(BS.obj w.heap.size (.mapIter (some m) N ([]:List Nat).toArray N)).block=some b->w.heap.size<=b:=fun b e=>by cases e;exact Nat.le_refl _
 refine Du (v:=.pointer (some ⟨w.heap.size,0,none⟩)) (w':=w.alloc (.mapIter (some m) N ([]:List Nat).toArray N)) rfl rfl hn (fun ρ hρ=>?_) (h _ _ (hL.new (C8 w _) (World.alloc_heap_new w _) hb) (PF hL (C8 w _) hb));have:=run_range_map (P:=P) w t kt et m _ N ht hm;simp [execOp,hρ x _ hx,this]
theorem Ace[Dr](i:Nat){b:Nat}{seen:List Nat}(hx:ev L x=some (.pointer (some ⟨b,0,none⟩)))(hn:Nat.blt d n.n=true)(hL:Bd w0 O w)(hi:Dy O i=some (.obj b (.mapIter (some m) N seen.toArray N)))(hm:w.heap[m]? = some (.map (mE enc 0 keys vs).toArray N))(hk:keys.length=vs.length)(hN:keys.length=N)
  (r:∀ j a,keys[j]? = some a->j∉seen->∀ w',Bd w0 (CX O i (.obj b (.mapIter (some m) N (seen++[j]).toArray N))) w'->Le (fz w O) (fz w' (CX O i (.obj b (.mapIter (some m) N (seen++[j]).toArray N))))->w'.heap[m]? = some (.map (mE enc 0 keys vs).toArray N)->S P n ops Q rest ((d,.tuple #[.bool true,enc a,vs.getD j default])::L) w')
  (h2:(∀ j,j<N->j∈seen)->S P n ops Q rest ((d,.tuple #[.bool false])::L) w):S P n ops Q (⟨some d,.next x false,ty,pos,af,none⟩::rest) L w:=by
 have hb:w.heap[b]? = some (.mapIter (some m) N seen.toArray N):=hL.at hi
 have hold:∀ x∈(mE enc 0 keys vs).toArray.toList,x.born<N:=fun x hx=>by
  obtain⟨a,ha,_⟩:=Aae hk (by simpa using hx);have:=(List.getElem?_eq_some_iff.1 ha).1;omega
 rcases run_next_at (P:=P) w ty b m N N seen.toArray _ N hb hm hold (Nat.le_refl _) with ⟨s,hr⟩ | ⟨e,he,c,k,hr⟩
 ·refine Du (v:=.tuple #[.bool false]) (w':=w) rfl rfl hn (fun ρ hρ=>by simp [execOp,hρ x _ hx,hr]) (h2 fun j hj=>?_);have hjk:j<keys.length:=by omega
  have hg:=QS (enc:=enc) keys vs 0 j keys[j] hk (List.getElem?_eq_getElem hjk);rw [Nat.zero_add] at hg;have hemp:leftOf (mE enc 0 keys vs).toArray seen.toArray = #[]:=Array.eq_empty_of_size_eq_zero s;unfold leftOf at hemp;rw [Array.filter_eq_empty_iff] at hemp;have:=hemp _ (by simpa using List.mem_of_getElem? hg)
  simpa using this
 ·have hmem:e∈mE enc 0 keys vs/\e.born∉seen:=by
   unfold leftOf at he
   simpa using he
  obtain⟨a,ha,hee⟩:=Aae hk hmem.1
  have f:Ext w c:=by
   rcases k with rfl | rfl
   ·exact Ext.refl _
   ·exact KI
  have l:=hL.call f;have g:=AT hL f;have hput:=l.putAt (.mapIter (some m) N (seen++[e.born]).toArray N) hi;have hne:m≠b:=fun eq=>by rw [eq,hb] at hm;cases hm
  have o:c.heap[m]? = some (.map (mE enc 0 keys vs).toArray N):=by rw [f.block m (lt_of_heap hm)];exact hm
  have p:(c.putObj b (.mapIter (some m) N (seen++[e.born]).toArray N)).heap[m]? = some (.map (mE enc 0 keys vs).toArray N):=by rw [World.putObj_heap_other hne];exact o
  have hval:e.key=enc a/\e.val=vs.getD e.born default:=by rw [hee];exact⟨rfl,rfl⟩
  rw [hval.1,hval.2] at hr
  have q:ChangeMaps.setBlock c b (.mapIter (some m) N (seen.toArray.push e.born) N)=c.putObj b (.mapIter (some m) N (seen++[e.born]).toArray N):=by
   rw [List.push_toArray];rfl
  rw [q] at hr;refine Du (v:=_) (w':=_) rfl rfl hn (fun ρ hρ=>?_) (r e.born a ha hmem.2 _ hput.1 (g.trans hput.2) p);simp [execOp,hρ x _ hx,hr]
theorem Aag{b:Nat}{seen:List Nat}{j:Nat}{a:κ}(hx:ev L x=some (.pointer (some ⟨b,0,none⟩)))(hn:Nat.blt d n.n=true)(hb:w.heap[b]? = some (.mapIter (some m) N (seen++[j]).toArray N))(hm:w.heap[m]? = some (.map (mE enc 0 keys vs).toArray N))(hk:keys.length=vs.length)(ha:keys[j]? = some a)
  (h:S P n ops Q rest ((d,.tuple #[enc a,vs.getD j default])::L) w):S P n ops Q (⟨some d,.entry x,ty,pos,af,none⟩::rest) L w:=by
 have hg:=QS (enc:=enc) keys vs 0 j a hk ha;rw [Nat.zero_add] at hg;have hr:=run_entry_at (P:=P) w b m N seen.toArray (mE enc 0 keys vs).toArray N ⟨enc a,vs.getD j default,j⟩ (by rw [hb,List.push_toArray]) hm (by simpa using List.mem_of_getElem? hg) (by rw [List.toList_toArray,Wm _ _ _ hk];exact List.nodup_range');refine Du (v:=_) (w':=w) rfl rfl hn (fun ρ hρ=>?_) h;simp [execOp,hρ x _ hx,hr]
end
end Go.E
end
noncomputable section
namespace Go.L
theorem OF{α:Type}{c:α->α->Int}(h:RF c):∀ {l m:List α},l.Perm m->l.Pairwise (fun x y=>(!(Go.Proofs.ltOf c) y x)=true)->m.Pairwise (fun x y=>(!(Go.Proofs.ltOf c) y x)=true)->l=m
 | [],m,hp,_,_=>hp.nil_eq
 | a::l,m,hp,hl,hm=>by
  cases m with
  | nil=>exact absurd hp.symm.nil_eq (by simp)
  | cons b m=>
   obtain⟨f,g⟩:=List.pairwise_cons.1 hl;obtain⟨i,j⟩:=List.pairwise_cons.1 hm
   have hab:a=b:=by
    by_cases e:a=b
    ·exact e
    ·have ha:a∈m:=by rcases List.mem_cons.1 (hp.mem_iff.1 (.head _)) with d | d;exact absurd d e;exact d
     have hb:b∈l:=by rcases List.mem_cons.1 (hp.mem_iff.2 (.head _)) with d | d;exact absurd d.symm e;exact d
     exact h.parts a b (by simpa using i a ha) (by simpa using f b hb)
   subst hab;rw [OF h hp.cons_inv g j]
theorem XX:∀ (N:Nat) (l:List Nat),l.Nodup->(∀ j∈l,j<N)->l.length<=N
 | 0,l,_,h=>by
  cases l with
  | nil=>exact Nat.le_refl _
  | cons a l=>exact absurd (h a (.head _)) (Nat.not_lt_zero a)
 | N+1,l,hn,h=>by
  have b:=XX N (l.erase N) (hn.erase N) (fun j hj=>by
   have h2:=(hn.mem_erase_iff).1 hj;have:=h j h2.2;omega)
  by_cases hm:N∈l
  ·rw [List.length_erase_of_mem hm] at b;omega
  ·rw [List.erase_of_not_mem hm] at b;omega
theorem Aah{α:Type}{c:α->α->Int}(h:RF c){l m:List α}(hp:l.Perm m):(l.mergeSort fun x y=>!(Go.Proofs.ltOf c) y x)=m.mergeSort fun x y=>!(Go.Proofs.ltOf c) y x:=by
 have htr:∀ a b c':α,(!(Go.Proofs.ltOf c) b a)=true->(!(Go.Proofs.ltOf c) c' b)=true->(!(Go.Proofs.ltOf c) c' a)=true:=by
  intro a b d f h2;simp only [Go.Proofs.ltOf,Bool.not_eq_true',decide_eq_false_iff_not] at *;intro h3;have s1:=h.swap a b;have g:=h.swap b d
  rcases Int.lt_trichotomy (c a b) 0 with e | e | e
  ·exact h2 (h.trans d a b h3 e)
  ·rw [h.zero a b e] at h3;exact h2 h3
  ·omega
 have hto:∀ a b:α,((!(Go.Proofs.ltOf c) b a)||(!(Go.Proofs.ltOf c) a b))=true:=by
  intro a b;have s1:=h.swap a b;simp only [Go.Proofs.ltOf,Bool.or_eq_true,Bool.not_eq_true',decide_eq_false_iff_not];omega
 refine OF h (((List.mergeSort_perm l _).trans hp).trans (List.mergeSort_perm m _).symm) ?_ ?_
 ·exact List.pairwise_mergeSort htr hto l
 ·exact List.pairwise_mergeSort htr hto m
end Go.L
namespace Go.Proofs.YtekmbcbgknmhiaaGreatDoor
open Go Go.E Go.RowKit Go.Shelf Go.L Go.Sort
abbrev NZ(x:Lf):List Value:=[.string ⟨x.1.toArray⟩,.int .i64 x.2.1,.int .i64 x.2.2.1,.string ⟨x.2.2.2.toArray⟩]
abbrev RQ:Rp Lf:=.pair .st (.pair (.int .i64) (.pair (.int .i64) .st))
theorem Xi(G:PH)(x:Lf)(c:List Value):RQ.rel G x c↔c=NZ x:=by
 constructor
 ·rintro⟨_,_,rfl,rfl,_,_,rfl,rfl,_,_,rfl,rfl,rfl⟩
  rfl
 ·rintro rfl;exact⟨[_],[_,_,_],rfl,rfl,[_],[_,_],rfl,rfl,[_],[_],rfl,rfl,rfl⟩
theorem Aai{G:PH}{l:List Lf}{xs:List Value}(h:AJ RQ G l xs):l.flatMap NZ=xs:=by
 induction h with
 | nil=>rfl
 | cons h _ ih=>rw [List.flatMap_cons,ih,(Xi _ _ _).1 h]
theorem Wn(G:PH):∀ l:List Lf,AJ RQ G l (l.flatMap NZ)
 | []=>.nil
 | x::l=>by rw [List.flatMap_cons];exact .cons ((Xi _ _ _).2 rfl) (Wn G l)
theorem Aaj(l:List Lf):∀ t,t<l.length * 4->(l.flatMap NZ)[t]? = some ((NZ (l.getD (t / 4) default)).toArray[t % 4]!):=by
 induction l with
 | nil=>intro t h;simp at h
 | cons a l ih=>
  intro t h;rw [List.flatMap_cons]
  by_cases b:t<4
  ·rw [List.getElem?_append_left b,Nat.div_eq_of_lt b,Nat.mod_eq_of_lt b];have:t=0\/t=1\/t=2\/t=3:=by omega
   rcases this with rfl | rfl | rfl | rfl <;> rfl
  ·rw [List.getElem?_append_right (by simpa using b)];have:=ih (t - 4) (by simp only [List.length_cons] at h;omega);rw [show(NZ a).length=4 from rfl,this];obtain⟨s,rfl⟩:∃ s,t=s+4:=⟨t - 4,by omega⟩;rw [Nat.add_sub_cancel,Nat.add_div_right _ (by decide),Nat.add_mod_right]
   rfl
theorem Us(l:List Lf):(flatK NZ 4 l.toArray).toList=l.flatMap NZ:=by
 have hlen:(l.flatMap NZ).length=l.length * 4:=by
  induction l with
  | nil=>rfl
  | cons a l ih=>rw [List.flatMap_cons,List.length_append,ih];show 4+l.length * 4=(l.length+1) * 4;omega
 apply List.ext_getElem?;intro t
 by_cases h:t<l.length * 4
 ·rw [Aaj l t h];have hs:t<(flatK NZ 4 l.toArray).size:=by simpa using h
  have h2:=get_flatK NZ 4 l.toArray t (by simpa using h);rw [getElem!_pos _ t hs] at h2;rw [Array.getElem?_toList,Array.getElem?_eq_getElem hs,h2];have hd:t / 4<l.length:=by omega
  have b:l.toArray[t / 4]! = l.getD (t / 4) default:=by simp [hd]
  rw [b];simp
 ·rw [List.getElem?_eq_none (by simpa using h),List.getElem?_eq_none (by omega)]
theorem Acf{n:Sz}{ops:Array Oper}{Q:Exit->Act->World->Prop}{L:Env}{w b:World}{O:List BS}{rest:List Oper}{d:Nat}{ty:TypeId}{pos:String}{af:Array Edge}{v:Value}{H:PH}{i:Nat}{at_:Array TypeId}{args:List Operand}{xs:List Value}{l:List Lf}
  (ha:Qb L args=some [v,.func (.func 137) #[] #[]]) (hn:Nat.blt d n.n=true) (_hH:Le H (hp b)) (hL:Bd b O w) (hi:Dy O i=some (.row v 142 4 l.length xs)) (he:AJ RQ (gz H b w O) l xs) (hlen:l.length<4611686018427387904)
  (h:∀ w' xs',Bd b (CX O i (.row v 142 4 (Qq l).length xs')) w'->Le (fz w O) (fz w' (CX O i (.row v 142 4 (Qq l).length xs')))->AJ RQ (gz H b w' (CX O i (.row v 142 4 (Qq l).length xs'))) (Qq l) xs'->S Tryz.prog n ops Q rest ((d,.tuple #[])::L) w') :
  S Tryz.prog n ops Q (⟨some d,.call ⟨.value (.func 186),args.toArray,at_⟩,ty,pos,af,none⟩::rest) L w:=by
 have hxs:=Aai he;have hll:(Qq l).length=l.length:=Wi l
 have hfl:∀ l:List Lf,(l.flatMap NZ).length=l.length * 4:=fun l=>by
  induction l with
  | nil=>rfl
  | cons a l ih=>rw [List.flatMap_cons,List.length_append,ih];show 4+l.length * 4=(l.length+1) * 4;omega
 refine SX (l':=Qq l) (enc:=(id:Value->Value)) (dd:=flatK NZ 4 (Qq l).toArray) (ys:=(Qq l).flatMap NZ) ⟨Tryz.f186,_,Tryz.func186,rfl,rfl⟩ ha hn hL hi (by rw [List.map_id];exact Us _) hll (by rw [<- hxs,hfl,hfl,hll]) (fun c=>?_) (fun hv=>?_) (fun g cap hv hcap=>?_) (fun w' e h2=>h w' _ e h2 (Wn _ _))
 ·have:l=[]:=List.eq_nil_of_length_eq_zero c;subst this;rw [<- hxs,show Qq []=[] from List.mergeSort_nil]
 ·subst hv;exact AnyF.slices_SortFunc_none Tryz.AcL none 0 _ w
 ·have hown:w.ownsRow 0 142 4 v l.length xs:=hL.at hi;rw [hv] at hown;have hhk:HoldsK NZ 4 w g 0 l.toArray/\g<w.heap.size:=Pd (enc:=(id:Value->Value)) (d:=flatK NZ 4 l.toArray) hown (by rw [List.map_id,Us];exact hxs);subst hv;refine AnyQ.slices_SortFunc_total Tryz.AcL 4 (fun w=>by kernel_rfl) (fun w=>by kernel_rfl) NZ (fun _=>rfl) (fun x v hv=>?_) Qp R2.swo 137 #[] g 0 cap l.toArray w (enters_of Tryz.func137 (by kernel_rfl) rfl) ?_ hhk.1 hhk.2 (by simpa using hlen) R2.parts
  ·simp only [List.mem_cons,List.mem_nil_iff,or_false] at hv
   rcases hv with rfl | rfl | rfl | rfl <;> rfl
  ·intro m os dk hs x y;have hk:=@N5 ⟨true⟩ (sortWorldK NZ 4 w g 0 m dk os) (hp _) (Le.refl _) x y _ (Xe x y);refine hk.2.mono fun en w' ⟨u,he,hx,hu⟩=>?_;subst he;subst hu;obtain⟨q,os',hw⟩:=@We ⟨true⟩ _ _ rfl hx;exact⟨rfl,q,os',hw⟩
def Q3(l:List (Lf×List Int)):Option (List Lf):=Go.L.AS (Go.E.J3 48 l.length) (some (Qq (l.map Prod.fst)))
set_option maxRecDepth 10000 in
theorem Xj(w:World)(H:PH)(hH:Le H (hp w)){v0:Value}{a0:List (Lf×List Int)}(h0:TD JD (.vec (.int .i64)) H v0 a0){r:List Lf}(h:Q3 a0=some r):
  Ok Tryz.prog 136 [v0,.func (.func 137) #[] #[]] w (fun v w'=>Ext w w'/\∃ u0,v=u0/\BN 142 RQ H w w' u0 r):=by
 obtain⟨b,h⟩:=Go.L.EY h;have hcap:∀ j,j<=a0.length->Go.E.J3 48 j:=fun j hj=>⟨Nat.le_trans (Nat.mul_le_mul_right _ hj) b.1,Nat.le_trans hj b.2⟩;clear b;obtain rfl:=Option.some.inj h;obtain⟨m,vs,rfl,hm,hl,_⟩:=h0;have hkl:(a0.map Prod.fst).length=vs.length:=by rw [List.length_map];exact hl
 have hkN:(a0.map Prod.fst).length=a0.length:=List.length_map _;generalize hK:a0.map Prod.fst=K at *;generalize hNN:a0.length=N at *;have hNlt:N<4611686018427387904:=by have:=hcap N (Nat.le_refl _);unfold Go.E.J3 at this;omega
 refine Ez (n:=21) [(0,.map (some m)),(1,.func (.func 137) #[] #[])] Tryz.func136 rfl rfl rfl rfl rfl ?_;have hL:=Bd.start w;refine AD 1 rfl<|AD 1 rfl ?_;obtain⟨af,ar,ag⟩:=C0 RQ H 142 hL;refine Bo (σ:=Value×List Value×List Lf) (fun⟨v,_,_⟩=>[(1,.func (.func 137) #[] #[]),(5,v)]) (fun⟨v,xs,l⟩ wr=>Bd w [.row v 142 4 l.length xs] wr/\AJ RQ (gz H w wr [.row v 142 4 l.length xs]) l xs/\l.Perm K) ?_ ?_
 ·refine Bi 1 rfl<|Aaf (enc:=JD) (keys:=K) (vs:=vs) (N:=N) rfl Tryz.underlying139 (hH _ _ hm) rfl af fun w2 g ah t=>Ac<|A5 ?_
  refine Bx (σ:=List Nat×Value×List Value) (fun⟨_,v,_⟩=>[(1,.func (.func 137) #[] #[]),(5,v),(8,.pointer (some ⟨g,0,none⟩))])
   (fun⟨seen,v,xs⟩ wr=>Bd w [.obj g (.mapIter (some m) N seen.toArray N),.row v 142 4 (seen.map fun j=>K.getD j default).length xs] wr/\AJ RQ (gz H w wr [.obj g (.mapIter (some m) N seen.toArray N),.row v 142 4 (seen.map fun j=>K.getD j default).length xs]) (seen.map fun j=>K.getD j default) xs/\seen.Nodup/\∀ j∈seen,j<N)
   (fun⟨seen,_,_⟩=>N - seen.length) ([],.slice none 0 0,[]) (.cons rfl (.cons rfl (.cons rfl (Sub.nil _)))) ⟨ah,ag.mono (Ab hH t),List.nodup_nil,fun j hj=>by cases hj⟩ ?_
  rintro⟨seen,v,xs⟩ wr ⟨hLr,her,hnd,hlt⟩
  have hseen:seen.length<=N:=by
   exact XX N seen hnd hlt
  refine Am<|Ace (enc:=JD) (keys:=K) (vs:=vs) (m:=m) (N:=N) 0 rfl rfl hLr rfl ((hH.trans hLr.arg) _ _ hm) hkl hkN ?_ ?_
  ·intro j a ha hj w3 p u ai;have hjN:j<N:=by have:=(List.getElem?_eq_some_iff.1 ha).1;omega
   refine A4 1 rfl<|A7<|Cg rfl<|Av<|Ao<|A5<|Am<|Aag (enc:=JD) rfl rfl (p.at (i:=0) rfl) ai hkl ha<|As 1 rfl<|AH LJ rfl rfl p fun w4 b4 aj z _=>QL 0 rfl rfl rfl LJ aj rfl rfl (AU rfl (AU rfl (AU rfl (AU rfl Hj)))) fun w5 s aa=>Ac<|Aw<|As 1 rfl<|Ag (AE 0 rfl Tryz.underlying142 rfl LJ s rfl) rfl<|Bp (r:=RQ) (l:=[a]) rfl (fun _=>ZR _ _ _ _ _) rfl (show 1<=9223372036854775807 by decide) hH s (.c4 ((Xi _ _ _).2 rfl) .nil) ?_;intro v6 w6 aw ak ab al;have am:=(((her.mono (Ab hH u)).mono (Ab hH z)).mono (Ab hH aa)).mono (Ab hH ab);refine Bt (r:=RQ) (l:=seen.map fun j=>K.getD j default) (m:=[a]) 2 rfl rfl Tryz.underlying196 LJ rfl (by decide) rfl hH ak rfl am al (hcap _ ?_) ?_
   ·have k:=XX N (seen++[j]) (List.nodup_append.2 ⟨hnd,List.pairwise_singleton _ j,fun x hx y hy=>by rw [List.mem_singleton] at hy;subst hy;exact fun e=>hj (e ▸ hx)⟩) (fun q hq=>by rcases List.mem_append.1 hq with h2 | h2;exact hlt q h2;rw [List.mem_singleton] at h2;subst h2;exact hjN)
    simpa using k
   intro v7 w7 d ao au ap;refine As 1 rfl<|AK<|AF ?_
   have hmap:(seen++[j]).map (fun j=>K.getD j default)=(seen.map fun j=>K.getD j default)++[a]:=by
    rw [List.map_append,List.map_singleton];have:K.getD j default=a:=by rw [List.getD_eq_getElem?_getD,ha];rfl
    rw [this]
   have o:(seen++[j]).Nodup:=List.nodup_append.2 ⟨hnd,List.pairwise_singleton _ j,fun x hx y hy=>by rw [List.mem_singleton] at hy;subst hy;exact fun e=>hj (e ▸ hx)⟩;have c:=ao.AQ (i:=0) rfl;have f:=ap.mono (Ab hH (Au (i:=0) rfl));refine AN (seen++[j],v7,d) (.cons rfl (.cons rfl (.cons rfl (Sub.nil _)))) ?_ ?_
   ·show Bd w [.obj g (.mapIter (some m) N (seen++[j]).toArray N),.row v7 142 4 ((seen++[j]).map fun j=>K.getD j default).length d] w7/\AJ RQ (gz H w w7 [.obj g (.mapIter (some m) N (seen++[j]).toArray N),.row v7 142 4 ((seen++[j]).map fun j=>K.getD j default).length d]) ((seen++[j]).map fun j=>K.getD j default) d/\_
    rw [hmap];refine⟨c,f,o,fun q hq=>?_⟩
    rcases List.mem_append.1 hq with h2 | h2
    ·exact hlt q h2
    ·rw [List.mem_singleton] at h2;subst h2;exact hjN
   ·show N - (seen++[j]).length<N - seen.length
    have k:=XX N (seen++[j]) o (fun q hq=>by rcases List.mem_append.1 hq with h2 | h2;exact hlt q h2;rw [List.mem_singleton] at h2;subst h2;exact hjN);rw [List.length_append,List.length_singleton] at k;rw [List.length_append,List.length_singleton];omega
  ·intro hall;refine A4 1 rfl<|A7<|Cr rfl<|Br<|AG<|A6<|Be ?_
   have hp:(seen.map fun j=>K.getD j default).Perm K:=by
    have k:seen.Perm (List.range N):=(List.perm_ext_iff_of_nodup hnd List.nodup_range).2 fun q=>⟨fun hq=>List.mem_range.2 (hlt q hq),fun hq=>hall q (List.mem_range.1 hq)⟩;have h2:=k.map (fun j=>K.getD j default)
    have h3:(List.range N).map (fun j=>K.getD j default)=K:=by
     apply List.ext_getElem?;intro q;rw [List.getElem?_map]
     by_cases hq:q<N
     ·rw [List.getElem?_range hq,List.getElem?_eq_getElem (by omega:q<K.length)];simp [List.getD_eq_getElem?_getD,List.getElem?_eq_getElem (by omega:q<K.length)]
     ·rw [List.getElem?_eq_none (by simpa using hq),List.getElem?_eq_none (by omega)];rfl
    rwa [h3] at h2
   exact A8 (v,xs,seen.map fun j=>K.getD j default) (.cons rfl (.cons rfl (Sub.nil _))) ⟨hLr.AQ (i:=0) rfl,her.mono (Ab hH (Au (i:=0) rfl)),hp⟩
 ·rintro⟨v,xs,l⟩ wr ⟨hLr,her,hp⟩;have hlN:l.length=N:=by rw [hp.length_eq];omega
  refine Bi 2 rfl<|Acf (i:=0) rfl rfl hH hLr rfl her (by omega) fun w8 ax c av f=>Ac<|AD 2 rfl<|Ax<|Sb rfl rfl ?_;have e:Qq l=Qq K:=Aah R2 hp;rw [e] at c f;exact⟨c.ext,_,rfl,c.Ge hH (i:=0) rfl f⟩
end Go.Proofs.YtekmbcbgknmhiaaGreatDoor
end
noncomputable section
namespace Go.Proofs.YtekmbcbgknmhiaaGreatDoor
open Go Go.E Go.RowKit Go.L
abbrev GZ(bm bi b:Nat)(i:Int)(l:List (Lf×List Int))(vs:List Value):List BS:=[.box bm [.map (some b)] 139,.box bi [.int .i64 i] 3,P4 JD b l vs]
abbrev Ix(l:List (Lf×List Int))(vs:List Value):List BS:=mT cwI 3 1 l vs
def JBu(bm bi b:Nat)(i:Int)(l:List (Lf×List Int))(R:List BS)(_:PH):Prop:=∃ vs:List Value,l.length=vs.length/\R=HAppend.hAppend (GZ bm bi b i l vs) (Ix l vs)
def L6(i:Int)(l:List (Lf×List Int))(x:Lf):Option (List (Lf×List Int)):=Go.L.AS (Go.E.J3 8 ((Im [] x l).length+1)) (some (HC x (Im [] x l++[i]) l))
set_option maxRecDepth 10000 in
theorem YH{f w:World}{H:PH}(hH:Le H (hp f)){O:List BS}{bm bi b:Nat}{i:Int}{l:List (Lf×List Int)}{vs:List Value}{x:Lf}(hL:Bd f (HAppend.hAppend (HAppend.hAppend (GZ bm bi b i l vs) O) (Ix l vs)) w)(hn:l.length=vs.length){r:List (Lf×List Int)}(h:L6 i l x=some r):
  Ok Tryz.prog 83 [JD x,.pointer (some ⟨bm,0,none⟩),.pointer (some ⟨bi,0,none⟩)] w (fun u w'=>u=.tuple #[]/\∃ vs':List Value,r.length=vs'.length/\Bd f (HAppend.hAppend (HAppend.hAppend (GZ bm bi b i r vs') O) (Ix r vs')) w'/\Le (fz w (HAppend.hAppend (HAppend.hAppend (GZ bm bi b i l vs) O) (Ix l vs))) (fz w' (HAppend.hAppend (HAppend.hAppend (GZ bm bi b i r vs') O) (Ix r vs')))):=by
 obtain⟨hcap,h⟩:=Go.L.EY h;obtain rfl:=Option.some.inj h;refine Ez (n:=12) [(0,JD x),(1,.pointer (some ⟨bm,0,none⟩)),(2,.pointer (some ⟨bi,0,none⟩))] Tryz.func83 rfl rfl rfl rfl rfl<|Am<|CY (t:=142) rfl rfl rfl hL fun w1 g a j _=>Ac<|Aw<|Ag (Oo 1 rfl Tryz.underlying139 rfl a rfl rfl) rfl<|Ag (AE 0 rfl Tryz.underlying142 rfl LJ a rfl) rfl<|Ag (Oo 2 rfl Tryz.underlying3 rfl a rfl rfl) rfl<|Bp (r:=.int .i64) (l:=[i]) rfl (fun _=>I7 _ _) rfl (show 1<=9223372036854775807 by decide) hH a (.c1 rfl .nil) fun v2 w2 af q m s=>Xa (A:=.box g [.string ⟨x.1.toArray⟩,.int .i64 x.2.1,.int .i64 x.2.2.1,.string ⟨x.2.2.2.toArray⟩] 142::HAppend.hAppend (GZ bm bi b i l vs) O) (l:=l) (vs:=vs) (k:=x) (enc:=JD) 3 rfl rfl Tryz.underlying139 ZS Tryz.zeroValue58 rfl q rfl hn fun c w3 v y d=>As 1 rfl ?_;have aa:=s.mono (Ab hH d);refine ZD (A:=.box g [.string ⟨x.1.toArray⟩,.int .i64 x.2.1,.int .i64 x.2.2.1,.string ⟨x.2.2.2.toArray⟩] 142::HAppend.hAppend (GZ bm bi b i (D0 x l) c) O) (l:=D0 x l) (vs:=c) (k:=x) (z:=i) (r:=.int .i64) (H:=H) AcI rfl rfl rfl Tryz.underlying58 Cj rfl (by decide) rfl hH y v aa (by rw [SQ];exact hcap) ?_;intro v4 w4 T4 e ab o;rw [SQ] at e
 refine As 1 rfl<|Adw (A:=.box g [.string ⟨x.1.toArray⟩,.int .i64 x.2.1,.int .i64 x.2.2.1,.string ⟨x.2.2.2.toArray⟩] 142::HAppend.hAppend (GZ bm bi b i (D0 x l) c) O) (T:=T4) (k:=x) (l:=l) (vs:=c) 3 e rfl rfl rfl ab rfl fun ac w5 ad ae p=>AK<|JO rfl ?_;refine⟨rfl,ac,ad,ae.AQ (i:=0) rfl,((((j.trans m).trans d).trans o).trans p).trans (Au (i:=0) rfl)⟩
theorem H3(bm bi b:Nat)(i:Int)(l:List (Lf×List Int))(vs:List Value)(O:List BS):(HAppend.hAppend (HAppend.hAppend (GZ bm bi b i l vs) O) (Ix l vs)).Perm (HAppend.hAppend O (HAppend.hAppend (GZ bm bi b i l vs) (Ix l vs))):=by
 rw [<- List.append_assoc O];exact List.perm_append_comm.append_right _
theorem Aak{a:World}{H:PH}(hH:Le H (hp a))(bm bi b:Nat)(i:Int):Cb Tryz.prog a H 83 [.pointer (some ⟨bm,0,none⟩),.pointer (some ⟨bi,0,none⟩)] (JBu bm bi b i) (L6 i):=by
 constructor
 ·exact fun _ h=>h
 ·rintro w O R l l' x hL ⟨vs,hn,rfl⟩ h;have hc:=YH hH (O:=O) (hL.perm (H3 bm bi b i l vs O)) hn h;refine⟨hc.1,hc.2.mono fun e w' ⟨u,hu,c,vs',h2,h3,d⟩=>⟨u,hu,c,_,h3.perm (H3 bm bi b i l' vs' O).symm,?_,vs',h2,rfl⟩⟩;rw [<- I3 (H3 bm bi b i l vs O),<- I3 (H3 bm bi b i l' vs' O)];exact d
theorem Ve{a w:World}{H:PH}(hH:Le H (hp a)){O:List BS}{bm bi b:Nat}{i:Int}{l:List (Lf×List Int)}{vs:List Value}{a0:Go.L.Pv}{a1:List (List UInt8)}{va0_2 va0_3 va0_4 va1:Value}
  (hL:Bd a (HAppend.hAppend (HAppend.hAppend (GZ bm bi b i l vs) O) (Ix l vs)) w) (c:AI .byte (gz H a w (HAppend.hAppend (HAppend.hAppend (GZ bm bi b i l vs) O) (Ix l vs))) va0_2 a0.f.2.2.1) (d:AI .st (gz H a w (HAppend.hAppend (HAppend.hAppend (GZ bm bi b i l vs) O) (Ix l vs))) va0_3 a0.f.2.2.2.1) (g:AI .tree (gz H a w (HAppend.hAppend (HAppend.hAppend (GZ bm bi b i l vs) O) (Ix l vs))) va0_4 a0.f.2.2.2.2) (j:AI .st (gz H a w (HAppend.hAppend (HAppend.hAppend (GZ bm bi b i l vs) O) (Ix l vs))) va1 a1)
  (hn:l.length=vs.length) {r:List (Lf×List Int)} (h:Jh (L6 i) a0 a1 l=some r) :
  Ok Tryz.prog 82 [.agg #[.int .i64 a0.f.1,.int .i64 a0.f.2.1,va0_2,va0_3,va0_4],va1,.func (.func 83) #[] #[.pointer (some ⟨bm,0,none⟩),.pointer (some ⟨bi,0,none⟩)]] w (fun u w'=>u=.tuple #[]/\∃ vs':List Value,r.length=vs'.length/\Bd a (HAppend.hAppend (HAppend.hAppend (GZ bm bi b i r vs') O) (Ix r vs')) w'/\Le (fz w (HAppend.hAppend (HAppend.hAppend (GZ bm bi b i l vs) O) (Ix l vs))) (fz w' (HAppend.hAppend (HAppend.hAppend (GZ bm bi b i r vs') O) (Ix r vs')))):=by
 have hz:Le (gz H a w (HAppend.hAppend (HAppend.hAppend (GZ bm bi b i l vs) O) (Ix l vs))) (gz H a w (HAppend.hAppend O (HAppend.hAppend (GZ bm bi b i l vs) (Ix l vs)))):=Ab hH (by rw [I3 (H3 bm bi b i l vs O)];exact Le.refl _);have hc:=RP hH (Aak hH bm bi b i) (O:=O) (hL.perm (H3 bm bi b i l vs O).symm) (c.mono hz) (d.mono hz) (g.mono hz) (j.mono hz) (s:=l) ⟨vs,hn,rfl⟩ h;refine⟨hc.1,hc.2.mono fun e w' ⟨u,hu,k,R',h2,h3,vs',m,n⟩=>?_⟩;subst n;refine⟨u,hu,k,vs',m,h2.perm (H3 bm bi b i r vs' O),?_⟩;rw [I3 (H3 bm bi b i l vs O),I3 (H3 bm bi b i r vs' O)];exact h3
end Go.Proofs.YtekmbcbgknmhiaaGreatDoor
end
noncomputable section
namespace Go.Proofs.YtekmbcbgknmhiaaGreatDoor
open Go Go.E Go.RowKit Go.L
set_option maxHeartbeats 1000000
set_option maxRecDepth 10000
open _root_.Go.Proofs.Tryz
def Et(a1:Int):Option Abk:=
 AS (B0 (0 - 0)) (AS (B0 (a1 - (0 - 0))) (if 0<(a1 - (0 - 0)) then AS (0<(a1 - (0 - 0))/\(a1 - (0 - 0)) * 1<=281474976710656) (some (([]:Abk))) else some ([])))
def FX(_a0:Abk)(a1:Int):Option Abk:=
 if a1<0 then none else(Et a1)
theorem MM(w:World)(H:PH)(hH:Le H (hp w)){a0:Abk}{a1:Int}(_:AI .byte H Aa8 a0){r:Abk}(h:FX a0 a1=some r):
  Ok prog 310 [Aa8,No a1] w (fun v w'=>Ext w w'/\∃ x,v=x/\BN 5 .byte H w w' x r):=by
 refine A3 (n:=27) [(0,Aa8),(1,No a1)] func310 rfl fun hL=>AD 1 rfl<|Bo (σ:=Unit) (fun(_:Unit)=>[(0,Aa8),(1,No a1)]) (fun(_:Unit) wr=>Bd w [] wr/\(Et a1)=some r) ?_ ?_
 ·refine AD 2 rfl<|AM rfl h (fun y h=>?_) (fun y h=>?_)
  ·refine Aw ?_
   cases h
  refine Av<|A8 () (Sub.of rfl) ⟨hL,h⟩
 rintro _ ac ⟨d,h⟩;refine A7<|Bi 2 rfl<|Ag (X9 rfl AbF) rfl<|As 1 rfl<|Ag (S1 rfl AbF) rfl<|Az h fun g h=>Ag (A1 rfl g) rfl<|Az h fun j h=>Ag (A1 rfl j) rfl<|A4 1 rfl<|AD 2 rfl<|AM rfl h (fun l h=>?_) (fun l h=>?_)
 ·refine Aw<|As 2 rfl<|Ag (X9 rfl AbF) rfl<|Ag (S9 rfl rfl AbF LH) rfl<|As 1 rfl<|Az h fun ab h=>?_;obtain⟨z,o⟩:=Int.eq_ofNat_of_zero_le (show 0<=(a1 - (0 - 0)) by omega);refine XA (k:=.i64) (m:=z) rfl (by rw [<- o];rfl) AbF Abn LH rfl rfl (by omega) (by omega) (by omega) fun f a c ad p q s t u=>As 1 rfl<|Ag (S1 rfl AbF) rfl<|Ag (Zx rfl rfl AbF LH) rfl ?_;obtain⟨b,aa⟩:=Lm (v:=.slice (some ⟨f,0,none⟩) 0 a) (e:=5) (sz:=1) (m:=0) (xs:=[]) d p ⟨rfl,.inr ⟨f,a,c,rfl,q,s,Nat.zero_le _,t,by rw [u,Nat.mul_one],rfl⟩⟩;refine As 1 rfl<|AK<|Ao<|AD 2 rfl<|Ax ?_
  cases h
  refine Ak rfl ⟨b.ext,_,rfl,(b.Ge hH (i:=0) rfl .nil)⟩
 refine Av<|Ao<|AD 2 rfl<|Ax ?_
 cases h
 refine Ak rfl ⟨d.ext,_,rfl,BN.nil⟩
def DR(a:Abk):Option Abk:=
 some a
def D9(a0:List Abk):Abk×Int->Option ((Abk×Int) ⊕ (Abk)):=fun⟨b,a⟩=>
 if a<(a0.length:Int) then AS (0<=a/\a<(a0.length:Int)) (AS (Go.E.J3 1 (b.length+(a0.getD a.toNat default).length)) (AS (B0 (a+1)) (some (Sum.inl ((b++a0.getD a.toNat default),(a+1)))))) else Option.map Sum.inr (DR b)
def FM(a0:List Abk)(s:Abk×Int):Option Abk:=Go.L.run (D9 a0) s
def DS(a0:List Abk)(a:Int):Option Abk:=
 Option.bind (FX ([]) a) (fun b=>(FM a0) (b,0))
def DA(a0:List Abk):Int×Int->Option ((Int×Int) ⊕ (Abk)):=fun⟨b,a⟩=>
 if a<(a0.length:Int) then AS (0<=a/\a<(a0.length:Int)) (AS (B0 (b+((a0.getD a.toNat default).length:Int))) (if(b+((a0.getD a.toNat default).length:Int))<0 then none else AS (B0 (a+1)) (some (Sum.inl ((b+((a0.getD a.toNat default).length:Int)),(a+1)))))) else Option.map Sum.inr ((DS a0) b)
def FN(a0:List Abk)(s:Int×Int):Option Abk:=Go.L.run (DA a0) s
def EL(a0:List Abk):Option Abk:=
 (FN a0) (0,0)
theorem CR(w:World)(H:PH)(hH:Le H (hp w)){a0:List Abk}{e:Value}(o:AI (.vec .byte) H e a0){r:Abk}(h:EL a0=some r):
  Ok prog 249 [e] w (fun v w'=>Ext w w'/\∃ u0,v=u0/\BN 5 .byte H w w' u0 r):=by
 refine A3 (n:=36) [(0,e)] func249 rfl fun hL=>AD 1 rfl<|AD 1 rfl<|Bo (σ:=Int) (fun j=>[(0,e),(3,No j)]) (fun j wr=>Bd w [] wr/\(DS a0) j=some r) ?_ ?_
 ·refine Bi 1 rfl<|Ag (Bu rfl Af0 o) rfl<|A4 1 rfl<|A5 ?_;obtain⟨y,h⟩:=AZ h;refine Bx (σ:=Int×Int×Nat) (fun⟨c,b,n⟩=>[(0,e),(3,No c),(9,e),(10,No (a0.length:Int)),(11,No b)]) (fun⟨c,b,n⟩ wr=>Bd w [] wr/\F6 (DA a0) n (c,b)=some r) (fun⟨c,b,n⟩=>n) (0,0,y) (Sub.of rfl) ⟨hL,h⟩ ?_;rintro⟨c,b,nn42⟩ a7 ⟨s,h⟩;obtain⟨y,bb,rfl,h,z⟩:=AY h;refine AD 1 rfl<|A7<|AM rfl h (fun al h=>?_) (fun al h=>?_)
  ·refine Av<|Ao<|A7<|A5<|Am<|Az h fun aa h=>Bf rfl rfl Af0 F7 o b.toNat (EX aa) (Ba aa) rfl ?_;rintro bc _ ⟨e46v0,rfl,e46h0⟩ am;refine Ag (Bj rfl AbF rfl am (hH.trans s.arg)) rfl<|A4 1 rfl<|Bi 2 rfl<|Ag (Bu rfl AbF e46h0) rfl<|Az h fun an h=>Ag (A1 rfl an) rfl<|A4 1 rfl<|AD 2 rfl<|AM rfl h (fun ao h=>?_) (fun ao h=>?_)
   ·refine Aw ?_
    cases h
   refine Av<|AF<|Ao<|Aw<|Az h fun ap h=>Ag (A1 rfl ap) rfl<|As 1 rfl<|AK ?_;have h:=BP.again h z;refine AN ((c+((a0.getD b.toNat default).length:Int)),(b+1),y) (Sub.of rfl) ⟨s,h⟩ (Nat.lt_succ_self _)
  refine Br<|AG<|A6 ?_;have h:=BP.out h z;refine Be<|A8 c (Sub.of rfl) ⟨s,h⟩
 rintro j a8 ⟨t,h⟩;refine Bi 1 rfl<|Ay h fun a4 aq h=>Bn rfl rfl t (MM _ _ (Ar hH t) (AI.nil _ _) aq) ?_;rintro ah bd ⟨_,rfl,ab⟩ ar ac ai;obtain⟨au,ac,ai,av⟩:=ab.take hH t ar;refine A4 1 rfl<|Bo (σ:=Abk×Value×(List Value)) (fun⟨q,p,k⟩=>[(6,p)]) (fun⟨q,p,k⟩ wr=>DF w [.row p 5 1 (q).length k] wr fun Oz=>AJ .byte (gz H w wr Oz) q k/\DR q=some r) ?_ ?_
 ·refine Bi 1 rfl<|Ag (Bu rfl Af0 o) rfl<|A4 1 rfl<|A5 ?_;obtain⟨ad,h⟩:=AZ h;refine Bx (σ:=Abk×Int×Value×(List Value)×Nat) (fun⟨f,a,g,d,n⟩=>[(6,g),(25,e),(26,No (a0.length:Int)),(27,No a)]) (fun⟨f,a,g,d,n⟩ wr=>DF w [.row g 5 1 (f).length d] wr fun Oz=>AJ .byte (gz H w wr Oz) f d/\F6 (D9 a0) n (f,a)=some r) (fun⟨f,a,g,d,n⟩=>n) (a4,0,ah,au,ad) (Sub.of rfl) ⟨ac,av,h⟩ ?_;rintro⟨f,a,g,d,nn92⟩ a9 ⟨u,x,h⟩;obtain⟨ad,be,rfl,h,ae⟩:=AY h;refine AD 1 rfl<|A7<|AM rfl h (fun aw h=>?_) (fun aw h=>?_)
  ·refine Av<|Ao<|A7<|A5<|Am<|Az h fun af h=>Bf rfl rfl Af0 F7 o a.toNat (EX af) (Ba af) rfl ?_;rintro bf _ ⟨e96v0,rfl,e96h0⟩ ax;refine Ag (Bj rfl AbF rfl ax (hH.trans u.arg)) rfl<|A4 1 rfl<|Aw<|As 2 rfl<|Az h fun ay h=>Bt (r:=.byte) (l:=f) (m:=a0.getD a.toNat default) 0 rfl rfl AbF LH rfl (by decide) rfl hH u rfl x (e96h0.mono (Aj hH)) ay fun a5 bg az a1 a6 a2=>As 1 rfl<|AK<|AF<|Ao<|Aw<|Az h fun aj h=>Ag (A1 rfl aj) rfl<|As 1 rfl<|AK ?_;have h:=BP.again h ae;refine AN ((f++a0.getD a.toNat default),(a+1),a5,az,ad) (Sub.of rfl) ⟨a1,a2,h⟩ (Nat.lt_succ_self _)
  refine Br<|AG<|A6 ?_;have h:=BP.out h ae;refine Be<|A8 (f,g,d) (Sub.of rfl) ⟨u,x,h⟩
 rintro⟨q,p,k⟩ ba ⟨ag,ak,h⟩;refine AD 2 rfl<|Ax ?_
 cases h
 refine Ak rfl ⟨ag.ext,_,rfl,(ag.Ge hH (i:=0) rfl ak)⟩
def IK(a:Abk):Option Abk:=
 some a
def Ij(a0:List Int):Abk×Int->Option ((Abk×Int) ⊕ (Abk)):=fun⟨b,a⟩=>
 if a<(a0.length:Int) then AS (0<=a/\a<(a0.length:Int)) (Option.bind (Eb (a0.getD a.toNat default)) (fun c=>AS (Go.E.J3 1 (b.length+c.length)) (AS (B0 (a+1)) (some (Sum.inl ((b++c),(a+1))))))) else Option.map Sum.inr (IK b)
def Kx(a0:List Int)(s:Abk×Int):Option Abk:=Go.L.run (Ij a0) s
def KB(a0:List Int):Option Abk:=
 Option.bind (Eb (a0.length:Int)) (fun a=>(Kx a0) (a,0))
theorem Hb(w:World)(H:PH)(hH:Le H (hp w)){a0:List Int}{j:Value}(p:AI (.int .i64) H j a0){r:Abk}(h:KB a0=some r):
  Ok prog 250 [j,.func (.func 177) #[] #[]] w (fun v w'=>Ext w w'/\∃ u0,v=u0/\BN 5 .byte H w w' u0 r):=by
 refine A3 (n:=24) [(0,j),(1,.func (.func 177) #[] #[])] func250 rfl fun hL=>AD 1 rfl<|Bi 1 rfl<|Ag (Bu rfl Abm p) rfl<|Ay h fun x1 ar h=>Bn rfl rfl hL (BW _ _ (Ar hH hL) ar) ?_;rintro ae w2 ⟨_,rfl,z⟩ au ac af;obtain⟨av,ac,af,aw⟩:=z.take hH hL au;refine A4 1 rfl<|Bo (σ:=Abk×Value×(List Value)) (fun⟨o,k,e⟩=>[(5,k)]) (fun⟨o,k,e⟩ wr=>DF w [.row k 5 1 (o).length e] wr fun Oz=>AJ .byte (gz H w wr Oz) o e/\IK o=some r) ?_ ?_
 ·refine Bi 1 rfl<|Ag (Bu rfl Abm p) rfl<|A4 1 rfl<|A5 ?_;obtain⟨q,h⟩:=AZ h;refine Bx (σ:=Abk×Int×Value×(List Value)×Nat) (fun⟨c,a,d,b,n⟩=>[(1,.func (.func 177) #[] #[]),(5,d),(11,j),(12,No (a0.length:Int)),(13,No a)]) (fun⟨c,a,d,b,n⟩ wr=>DF w [.row d 5 1 (c).length b] wr fun Oz=>AJ .byte (gz H w wr Oz) c b/\F6 (Ij a0) n (c,a)=some r) (fun⟨c,a,d,b,n⟩=>n) (x1,0,ae,av,q) (Sub.of rfl) ⟨ac,aw,h⟩ ?_;rintro⟨c,a,d,b,nn44⟩ a2 ⟨g,f,h⟩;obtain⟨q,a4,rfl,h,s⟩:=AY h;refine AD 1 rfl<|A7<|AM rfl h (fun ag h=>?_) (fun ag h=>?_)
  ·refine Av<|Ao<|A7<|A5<|Am<|Az h fun t h=>Bf rfl rfl Abm Cj p a.toNat (EX t) (Ba t) rfl ?_;rintro a5 _ rfl ah;refine Ag (Bj rfl Abn rfl ah (hH.trans g.arg)) rfl<|A4 1 rfl<|Aw<|As 3 rfl<|Ay h fun ad ai h=>SM rfl rfl rfl g (BW _ _ (Ar hH g) ai) ?_;rintro ay a6 ⟨_,rfl,u⟩ aj ak aa;have x:=u.Cz hH g aj;refine Az h fun al h=>?_;have f:=f.mono (Ab hH aa);refine Bt (r:=.byte) (l:=c) (m:=ad) 0 rfl rfl AbF LH rfl (by decide) rfl hH ak rfl f x al fun ax a7 am an az ao=>As 1 rfl<|AK<|AF<|Ao<|Aw<|Az h fun ap h=>Ag (A1 rfl ap) rfl<|As 1 rfl<|AK ?_;have h:=BP.again h s;refine AN ((c++ad),(a+1),ax,am,q) (Sub.of rfl) ⟨an,ao,h⟩ (Nat.lt_succ_self _)
  refine Br<|AG<|A6 ?_;have h:=BP.out h s;refine Be<|A8 (c,d,b) (Sub.of rfl) ⟨g,f,h⟩
 rintro⟨o,k,e⟩ a3 ⟨y,ab,h⟩;refine AD 2 rfl<|Ax ?_
 cases h
 refine Ak rfl ⟨y.ext,_,rfl,(y.Ge hH (i:=0) rfl ab)⟩
end Go.Proofs.YtekmbcbgknmhiaaGreatDoor
end
noncomputable section
namespace Go
abbrev AfT:=Go.E.Rp.pair (Go.E.Rp.pair Go.E.Rp.st (Go.E.Rp.pair (Go.E.Rp.int .i64) (Go.E.Rp.pair (Go.E.Rp.int .i64) Go.E.Rp.st))) (Go.E.Rp.vec (Go.E.Rp.int .i64))
end Go
namespace Go
abbrev AfI:=AfQ×(List Int)
end Go
namespace Go.Proofs.YtekmbcbgknmhiaaGreatDoor
open Go Go.E Go.RowKit Go.L
set_option maxHeartbeats 1000000
set_option maxRecDepth 10000
open _root_.Go.Proofs.Tryz
def Ke(a:Abk):Option Abk:=
 some a
def M1(a0:AfQ×(List Int)):Option Abk:=
 AS (a0.1.1.length<=9223372036854775807) (Option.bind (LW a0.1.1) (fun a=>Option.bind (Eb a0.1.2.1) (fun b=>Option.bind (Eb a0.1.2.2.1) (fun c=>AS (a0.1.2.2.2.length<=9223372036854775807) (Option.bind (LW a0.1.2.2.2) (fun d=>Option.bind (KB a0.2) (fun e=>Option.bind (EL ([a,b,c,d,e])) (fun f=>Ke f))))))))
theorem Te(w:World)(H:PH)(hH:Le H (hp w)){a0:AfQ×(List Int)}{cx:Value}(b7:AI (.int .i64) H cx (a0.2)){r:Abk}(h:M1 a0=some r):
  Ok prog 192 [.agg #[Abj a0.1.1,No a0.1.2.1,No a0.1.2.2.1,Abj a0.1.2.2.2,cx]] w (fun v w'=>Ext w w'/\∃ u0,v=u0/\BN 5 .byte H w w' u0 r):=by
 refine A3 (n:=26) [(0,.agg #[Abj a0.1.1,No a0.1.2.1,No a0.1.2.2.1,Abj a0.1.2.2.2,cx])] func192 rfl fun hL=>Am<|CY (t:=203) rfl rfl rfl hL fun w1 b1 iw j4 _=>A4 1 rfl<|Bo (σ:=Abk×Value×(List Value)) (fun⟨b8,a9,an⟩=>[(2,a9)]) (fun⟨b8,a9,an⟩ wr=>DF w [.row a9 5 1 (b8).length an,.box b1 [Abj a0.1.1,No a0.1.2.1,No a0.1.2.2.1,Abj a0.1.2.2.2,cx] 203] wr fun Oz=>AJ .byte (gz H w wr Oz) b8 an/\Ke b8=some r) ?_ ?_
 ·refine PI (.q 0 (.q 1 (.q 2 (.q 5 (.q 6 (.q 7 (.q 9 (.q 10 (.q 11 (.q 13 (.q 14 (.q 15 (.q 18 (.q 19 (.h2 3 (.h2 4 (.h2 8 (.h2 12 (.h 16 (.h 17 (.h 20 (.h 21 (.h 22 (.q 23 (.tail 24))))))) 16 (.h 12 (.h 17 (.h 20 (.h 21 (.h 22 (.q 23 (.tail 24)))))))) 16 (.h 8 (.h 12 (.h 17 (.h 20 (.h 21 (.h 22 (.q 23 (.tail 24))))))))) 16 (.h 4 (.h 8 (.h 12 (.h 17 (.h 20 (.h 21 (.h 22 (.q 23 (.tail 24)))))))))) 16 (.h 3 (.h 4 (.h 8 (.h 12 (.h 17 (.h 20 (.h 21 (.h 22 (.q 23 (.tail 24))))))))))))))))))))))))) mixed (by kernel_rfl) (fun j5 ha=>?_);have j:=iw.call ha;refine BQ (Ae rfl Af1 rfl LJ) rfl rfl<|BQ (Ae rfl Abw rfl EZ) rfl rfl<|BQ (Af 0 rfl Ab1 rfl j rfl) rfl rfl<|BQ (Ae rfl Af1 rfl LJ) rfl rfl<|BQ (Ae rfl Abw rfl Cj) rfl rfl<|BQ (Af 0 rfl Abn rfl j rfl) rfl rfl<|BQ (Ae rfl Af1 rfl LJ) rfl rfl<|BQ (Ae rfl Abw rfl Cj) rfl rfl<|BQ (Af 0 rfl Abn rfl j rfl) rfl rfl<|BQ (Ae rfl Af1 rfl LJ) rfl rfl<|BQ (Ae rfl Abw rfl EZ) rfl rfl<|BQ (Af 0 rfl Ab1 rfl j rfl) rfl rfl<|BQ (Ae rfl Af1 rfl TE) rfl rfl<|BQ (Af 0 rfl Abm rfl j rfl) rfl rfl<|VI ?_ ?_
  ·refine Az h fun cy h=>SL (H:=H) rfl rfl Ab1 AbF Ac5 rfl j cy fun j6 j7 jq ba ix bb=>VI ?_ ?_
   ·refine Ay h fun am ao h=>Cs rfl rfl rfl (fun h0 bc=>F5 _ _ (Ar hH (ba.call bc)) (bb.mono (Ab hH (AT ba bc))) ao) ?_;rintro h0 iy j8 bc fn ⟨_,rfl,fv⟩;have fo:=ba.call bc;have bd:=fo.call fn;have a:=fv.Cz hH fo fn;refine VI ?_ ?_
    ·refine Ay h fun u k h=>Cs rfl rfl rfl (fun h1 be=>BW _ _ (Ar hH (bd.call be)) k) ?_;rintro h1 iz j9 be cz ⟨_,rfl,fw⟩;have c0:=bd.call be;have fc:=AT bd be;have bf:=c0.call cz;have fd:=AT c0 cz;have b:=fw.Cz hH c0 cz;refine VI ?_ ?_
     ·refine Ay h fun m c h=>Cs rfl rfl rfl (fun h3 bg=>BW _ _ (Ar hH (bf.call bg)) c) ?_;rintro h3 i0 ka bg c2 ⟨_,rfl,fx⟩;have c3:=bf.call bg;have fe:=AT bf bg;have hb:=c3.call c2;have ff:=AT c3 c2;have x:=fx.Cz hH c3 c2;refine Az h fun d h=>SL (H:=H) rfl rfl Ab1 AbF Ac5 rfl hb d fun kb kc jr bh b9 hc=>Ay h fun o e h=>Cs rfl rfl rfl (fun h4 ap=>F5 _ _ (Ar hH (bh.call ap)) (hc.mono (Ab hH (AT bh ap))) e) ?_;rintro h4 i1 kd ap c4 ⟨_,rfl,fy⟩;have c5:=bh.call ap;have ca:=AT bh ap;have c6:=c5.call c4;have cb:=AT c5 c4;have y:=fy.Cz hH c5 c4;refine Ay h fun p f h=>Cs rfl rfl rfl (fun h5 bi=>Hb _ _ (Ar hH (c6.call bi)) (b7.mono (Aj hH)) f) ?_;rintro h5 i2 ke bi c7 ⟨_,rfl,fz⟩;have c8:=c6.call bi;have aq:=AT c6 bi;have hd:=c8.call c7;have ar:=AT c8 c7;have cs:=fz.Cz hH c8 c7
      have a:=a.mono (Ab hH (fc.trans (fd.trans (fe.trans (ff.trans (b9.trans (ca.trans (cb.trans (aq.trans ar)))))))));have b:=b.mono (Ab hH (fe.trans (ff.trans (b9.trans (ca.trans (cb.trans (aq.trans ar)))))));have x:=x.mono (Ab hH (b9.trans (ca.trans (cb.trans (aq.trans ar)))));have y:=y.mono (Ab hH (aq.trans ar));refine MD (r:=(.vec .byte)) (l:=[am,u,m,o,p]) rfl rfl (fun _=>Qj _ a.one _ b.one _ x.one _ y.one _ cs.one _) rfl (leMax 5) hH hd (.c1 ⟨_,rfl,a⟩ (.c1 ⟨_,rfl,b⟩ (.c1 ⟨_,rfl,x⟩ (.c1 ⟨_,rfl,y⟩ (.c1 ⟨_,rfl,cs⟩ .nil))))) fun kf kg js c9 i3 he=>Ay h fun s g h=>Cs rfl rfl rfl (fun h6 bj=>CR _ _ (Ar hH (c9.call bj)) (he.mono (Ab hH (AT c9 bj))) g) ?_;rintro h6 gm kh bj da ⟨_,rfl,f0⟩;have db:=c9.call bj;have dc:=db.call da;have gn:=AT db da;obtain⟨hf,dc,gn,dd⟩:=f0.take hH db da;refine Df 1 rfl<|Cd (fun ki fp=>?_);have hg:=dc.call fp;have go:=AT dc fp;refine AK ?_;have dd:=dd.mono (Ab hH go)
      refine A8 (s,gm,hf) (Sub.of rfl) ⟨hg,dd,h⟩
     refine Ay h fun m c h=>Az h fun d h=>Ay h fun o e h=>Ay h fun p f h=>Ay h fun s g h=>SL (H:=H) rfl rfl Ab1 AbF Ac5 rfl bf d fun kj kk jt de fg df=>Cs rfl rfl rfl (fun h7 bk=>BW _ _ (Ar hH (de.call bk)) c) ?_;rintro h7 i4 kl bk dg ⟨_,rfl,f1⟩;have dh:=de.call bk;have cc:=AT de bk;have bl:=dh.call dg;have cd:=AT dh dg;have z:=f1.Cz hH dh dg;have df:=df.mono (Ab hH (cc.trans cd));refine Cs rfl rfl rfl (fun h8 au=>F5 _ _ (Ar hH (bl.call au)) (df.mono (Ab hH (AT bl au))) e) ?_;rintro h8 i5 km au di ⟨_,rfl,f2⟩;have dj:=bl.call au;have ce:=AT bl au;have dk:=dj.call di;have cf:=AT dj di;have aa:=f2.Cz hH dj di;refine Cs rfl rfl rfl (fun h9 bm=>Hb _ _ (Ar hH (dk.call bm)) (b7.mono (Aj hH)) f) ?_;rintro h9 i6 kn bm dl ⟨_,rfl,f3⟩;have dm:=dk.call bm;have av:=AT dk bm;have hh:=dm.call dl;have aw:=AT dm dl;have ct:=f3.Cz hH dm dl
     have a:=a.mono (Ab hH (fc.trans (fd.trans (fg.trans (cc.trans (cd.trans (ce.trans (cf.trans (av.trans aw)))))))));have b:=b.mono (Ab hH (fg.trans (cc.trans (cd.trans (ce.trans (cf.trans (av.trans aw)))))));have z:=z.mono (Ab hH (ce.trans (cf.trans (av.trans aw))));have aa:=aa.mono (Ab hH (av.trans aw));refine MD (r:=(.vec .byte)) (l:=[am,u,m,o,p]) rfl rfl (fun _=>Qj _ a.one _ b.one _ z.one _ aa.one _ ct.one _) rfl (leMax 5) hH hh (.c1 ⟨_,rfl,a⟩ (.c1 ⟨_,rfl,b⟩ (.c1 ⟨_,rfl,z⟩ (.c1 ⟨_,rfl,aa⟩ (.c1 ⟨_,rfl,ct⟩ .nil))))) fun ko kp ju dn i7 hi=>Cs rfl rfl rfl (fun ia bn=>CR _ _ (Ar hH (dn.call bn)) (hi.mono (Ab hH (AT dn bn))) g) ?_;rintro ia gp kq bn dp ⟨_,rfl,f4⟩;have dq:=dn.call bn;have dr:=dq.call dp;have gq:=AT dq dp;obtain⟨hj,dr,gq,ds⟩:=f4.take hH dq dp;refine Df 1 rfl<|Cd (fun kr fq=>?_);have hk:=dr.call fq;have gr:=AT dr fq;refine AK ?_;have ds:=ds.mono (Ab hH gr);refine A8 (s,gp,hj) (Sub.of rfl) ⟨hk,ds,h⟩
    refine Ay h fun u k h=>Ay h fun m c h=>Az h fun d h=>Ay h fun o e h=>Ay h fun p f h=>Ay h fun s g h=>SL (H:=H) rfl rfl Ab1 AbF Ac5 rfl bd d fun ks kt jv dt gs du=>Cs rfl rfl rfl (fun ib bo=>BW _ _ (Ar hH (dt.call bo)) k) ?_;rintro ib i8 ku bo dv ⟨_,rfl,f5⟩;have dw:=dt.call bo;have fh:=AT dt bo;have dx:=dw.call dv;have fi:=AT dw dv;have ab:=f5.Cz hH dw dv;refine Cs rfl rfl rfl (fun ic bp=>BW _ _ (Ar hH (dx.call bp)) c) ?_;rintro ic i9 kv bp dy ⟨_,rfl,f6⟩;have dz:=dx.call bp;have cg:=AT dx bp;have bq:=dz.call dy;have ch:=AT dz dy;have ac:=f6.Cz hH dz dy;have du:=du.mono (Ab hH (fh.trans (fi.trans (cg.trans ch))));refine Cs rfl rfl rfl (fun ie ax=>F5 _ _ (Ar hH (bq.call ax)) (du.mono (Ab hH (AT bq ax))) e) ?_;rintro ie ja kw ax d0 ⟨_,rfl,f7⟩;have d1:=bq.call ax;have ci:=AT bq ax;have d2:=d1.call d0;have cj:=AT d1 d0
    have ad:=f7.Cz hH d1 d0;refine Cs rfl rfl rfl (fun ig br=>Hb _ _ (Ar hH (d2.call br)) (b7.mono (Aj hH)) f) ?_;rintro ig jb kx br d3 ⟨_,rfl,f8⟩;have d4:=d2.call br;have ay:=AT d2 br;have hl:=d4.call d3;have az:=AT d4 d3;have cu:=f8.Cz hH d4 d3;have a:=a.mono (Ab hH (gs.trans (fh.trans (fi.trans (cg.trans (ch.trans (ci.trans (cj.trans (ay.trans az)))))))));have ab:=ab.mono (Ab hH (cg.trans (ch.trans (ci.trans (cj.trans (ay.trans az))))));have ac:=ac.mono (Ab hH (ci.trans (cj.trans (ay.trans az))));have ad:=ad.mono (Ab hH (ay.trans az));refine MD (r:=(.vec .byte)) (l:=[am,u,m,o,p]) rfl rfl (fun _=>Qj _ a.one _ ab.one _ ac.one _ ad.one _ cu.one _) rfl (leMax 5) hH hl (.c1 ⟨_,rfl,a⟩ (.c1 ⟨_,rfl,ab⟩ (.c1 ⟨_,rfl,ac⟩ (.c1 ⟨_,rfl,ad⟩ (.c1 ⟨_,rfl,cu⟩ .nil))))) fun ky kz jw d5 jc hm=>Cs rfl rfl rfl (fun ih bs=>CR _ _ (Ar hH (d5.call bs)) (hm.mono (Ab hH (AT d5 bs))) g) ?_;rintro ih gt k0 bs d6 ⟨_,rfl,f9⟩;have d7:=d5.call bs
    have d8:=d7.call d6;have gu:=AT d7 d6;obtain⟨hn,d8,gu,d9⟩:=f9.take hH d7 d6;refine Df 1 rfl<|Cd (fun k1 fr=>?_);have ho:=d8.call fr;have gv:=AT d8 fr;refine AK ?_;have d9:=d9.mono (Ab hH gv);refine A8 (s,gt,hn) (Sub.of rfl) ⟨ho,d9,h⟩
   refine Ay h fun am ao h=>Ay h fun u k h=>Ay h fun m c h=>Az h fun d h=>Ay h fun o e h=>Ay h fun p f h=>Ay h fun s g h=>SL (H:=H) rfl rfl Ab1 AbF Ac5 rfl ba d ?_;intro k2 k3 jx bt gw ea;have bb:=bb.mono (Ab hH gw);refine Cs rfl rfl rfl (fun ii a1=>F5 _ _ (Ar hH (bt.call a1)) (bb.mono (Ab hH (AT bt a1))) ao) ?_;rintro ii jd k4 a1 eb ⟨_,rfl,ga⟩;have ec:=bt.call a1;have gx:=AT bt a1;have ed:=ec.call eb;have gy:=AT ec eb;have ae:=ga.Cz hH ec eb;refine Cs rfl rfl rfl (fun ij bu=>BW _ _ (Ar hH (ed.call bu)) k) ?_;rintro ij je k5 bu ee ⟨_,rfl,gb⟩;have ef:=ed.call bu;have fj:=AT ed bu;have eg:=ef.call ee;have fk:=AT ef ee;have af:=gb.Cz hH ef ee;refine Cs rfl rfl rfl (fun ik bv=>BW _ _ (Ar hH (eg.call bv)) c) ?_;rintro ik jf k6 bv eh ⟨_,rfl,gc⟩;have ei:=eg.call bv;have ck:=AT eg bv;have bw:=ei.call eh;have cl:=AT ei eh
   have ag:=gc.Cz hH ei eh;have ea:=ea.mono (Ab hH (gx.trans (gy.trans (fj.trans (fk.trans (ck.trans cl))))));refine Cs rfl rfl rfl (fun il a2=>F5 _ _ (Ar hH (bw.call a2)) (ea.mono (Ab hH (AT bw a2))) e) ?_;rintro il jg k7 a2 ej ⟨_,rfl,gd⟩;have ek:=bw.call a2;have cm:=AT bw a2;have el:=ek.call ej;have cn:=AT ek ej;have ah:=gd.Cz hH ek ej;refine Cs rfl rfl rfl (fun im bx=>Hb _ _ (Ar hH (el.call bx)) (b7.mono (Aj hH)) f) ?_;rintro im jh k8 bx em ⟨_,rfl,ge⟩;have en:=el.call bx;have a3:=AT el bx;have hq:=en.call em;have a4:=AT en em;have cv:=ge.Cz hH en em;have ae:=ae.mono (Ab hH (fj.trans (fk.trans (ck.trans (cl.trans (cm.trans (cn.trans (a3.trans a4))))))));have af:=af.mono (Ab hH (ck.trans (cl.trans (cm.trans (cn.trans (a3.trans a4))))));have ag:=ag.mono (Ab hH (cm.trans (cn.trans (a3.trans a4))));have ah:=ah.mono (Ab hH (a3.trans a4))
   refine MD (r:=(.vec .byte)) (l:=[am,u,m,o,p]) rfl rfl (fun _=>Qj _ ae.one _ af.one _ ag.one _ ah.one _ cv.one _) rfl (leMax 5) hH hq (.c1 ⟨_,rfl,ae⟩ (.c1 ⟨_,rfl,af⟩ (.c1 ⟨_,rfl,ag⟩ (.c1 ⟨_,rfl,ah⟩ (.c1 ⟨_,rfl,cv⟩ .nil))))) fun k9 la jy eo ji hr=>Cs rfl rfl rfl (fun io bz=>CR _ _ (Ar hH (eo.call bz)) (hr.mono (Ab hH (AT eo bz))) g) ?_;rintro io g0 lb bz ep ⟨_,rfl,gf⟩;have eq:=eo.call bz;have er:=eq.call ep;have g1:=AT eq ep;obtain⟨hs,er,g1,es⟩:=gf.take hH eq ep;refine Df 1 rfl<|Cd (fun lc fs=>?_);have ht:=er.call fs;have g2:=AT er fs;refine AK ?_;have es:=es.mono (Ab hH g2);refine A8 (s,g0,hs) (Sub.of rfl) ⟨ht,es,h⟩
  refine Az h fun cy h=>Ay h fun am ao h=>Ay h fun u k h=>Ay h fun m c h=>Az h fun d h=>Ay h fun o e h=>Ay h fun p f h=>Ay h fun s g h=>SL (H:=H) rfl rfl Ab1 AbF Ac5 rfl j d fun ld le jz hu jj et=>SL (H:=H) rfl rfl Ab1 AbF Ac5 rfl hu cy fun lf lg j0 b0 g3 hv=>Cs rfl rfl rfl (fun ip a5=>F5 _ _ (Ar hH (b0.call a5)) (hv.mono (Ab hH (AT b0 a5))) ao) ?_;rintro ip jk lh a5 eu ⟨_,rfl,gg⟩;have ev:=b0.call a5;have g4:=AT b0 a5;have ew:=ev.call eu;have g5:=AT ev eu;have ai:=gg.Cz hH ev eu;refine Cs rfl rfl rfl (fun iq b2=>BW _ _ (Ar hH (ew.call b2)) k) ?_;rintro iq jl li b2 ex ⟨_,rfl,gh⟩;have ey:=ew.call b2;have fl:=AT ew b2;have ez:=ey.call ex;have fm:=AT ey ex;have aj:=gh.Cz hH ey ex;refine Cs rfl rfl rfl (fun ir b3=>BW _ _ (Ar hH (ez.call b3)) c) ?_;rintro ir jm lj b3 e0 ⟨_,rfl,gi⟩;have e1:=ez.call b3
  have co:=AT ez b3;have b4:=e1.call e0;have cp:=AT e1 e0;have ak:=gi.Cz hH e1 e0;have et:=et.mono (Ab hH (g3.trans (g4.trans (g5.trans (fl.trans (fm.trans (co.trans cp)))))));refine Cs rfl rfl rfl (fun is a6=>F5 _ _ (Ar hH (b4.call a6)) (et.mono (Ab hH (AT b4 a6))) e) ?_;rintro is jn lk a6 e2 ⟨_,rfl,gj⟩;have e3:=b4.call a6;have cq:=AT b4 a6;have e4:=e3.call e2;have cr:=AT e3 e2;have al:=gj.Cz hH e3 e2;refine Cs rfl rfl rfl (fun it b5=>Hb _ _ (Ar hH (e4.call b5)) (b7.mono (Aj hH)) f) ?_;rintro it jo ll b5 e5 ⟨_,rfl,gk⟩;have e6:=e4.call b5;have a7:=AT e4 b5;have hw:=e6.call e5;have a8:=AT e6 e5;have cw:=gk.Cz hH e6 e5;have ai:=ai.mono (Ab hH (fl.trans (fm.trans (co.trans (cp.trans (cq.trans (cr.trans (a7.trans a8))))))));have aj:=aj.mono (Ab hH (co.trans (cp.trans (cq.trans (cr.trans (a7.trans a8))))));have ak:=ak.mono (Ab hH (cq.trans (cr.trans (a7.trans a8))));have al:=al.mono (Ab hH (a7.trans a8))
  refine MD (r:=(.vec .byte)) (l:=[am,u,m,o,p]) rfl rfl (fun _=>Qj _ ai.one _ aj.one _ ak.one _ al.one _ cw.one _) rfl (leMax 5) hH hw (.c1 ⟨_,rfl,ai⟩ (.c1 ⟨_,rfl,aj⟩ (.c1 ⟨_,rfl,ak⟩ (.c1 ⟨_,rfl,al⟩ (.c1 ⟨_,rfl,cw⟩ .nil))))) fun lm ln j1 e7 jp hx=>Cs rfl rfl rfl (fun iu b6=>CR _ _ (Ar hH (e7.call b6)) (hx.mono (Ab hH (AT e7 b6))) g) ?_;rintro iu g6 lo b6 e8 ⟨_,rfl,gl⟩;have e9:=e7.call b6;have fa:=e9.call e8;have g7:=AT e9 e8;obtain⟨hy,fa,g7,fb⟩:=gl.take hH e9 e8;refine Df 1 rfl<|Cd (fun lp ft=>?_);have hz:=fa.call ft;have g8:=AT fa ft;refine AK ?_;have fb:=fb.mono (Ab hH g8);refine A8 (s,g6,hy) (Sub.of rfl) ⟨hz,fb,h⟩
 rintro⟨b8,a9,an⟩ j2 ⟨fu,g9,h⟩;refine Ax ?_
 cases h
 refine Ak rfl ⟨fu.ext,_,rfl,(fu.Ge hH (i:=0) rfl g9)⟩
def Kf(a:Abk):Option Abk:=
 some a
def Ju(a0:List AfI):Abk×Int->Option ((Abk×Int) ⊕ (Abk)):=fun⟨b,a⟩=>
 if a<(a0.length:Int) then AS (0<=a/\a<(a0.length:Int)) (Option.bind (M1 ((((a0.getD a.toNat default).1).1,((a0.getD a.toNat default).1).2.1,((a0.getD a.toNat default).1).2.2.1,((a0.getD a.toNat default).1).2.2.2),(a0.getD a.toNat default).2)) (fun c=>AS (Go.E.J3 1 (b.length+c.length)) (AS (B0 (a+1)) (some (Sum.inl ((b++c),(a+1))))))) else Option.map Sum.inr (Kf b)
def LX(a0:List AfI)(s:Abk×Int):Option Abk:=Go.L.run (Ju a0) s
def M3(a0:List AfI):Option Abk:=
 Option.bind (Eb (a0.length:Int)) (fun a=>(LX a0) (a,0))
theorem Tf(w:World)(H:PH)(hH:Le H (hp w)){a0:List AfI}{g:Value}(p:AI AfT H g a0){r:Abk}(h:M3 a0=some r):
  Ok prog 191 [g,.func (.func 192) #[] #[]] w (fun v w'=>Ext w w'/\∃ u0,v=u0/\BN 5 .byte H w w' u0 r):=by
 refine A3 (n:=24) [(0,g),(1,.func (.func 192) #[] #[])] func191 rfl fun hL=>AD 1 rfl<|Bi 1 rfl<|Ag (Bu rfl Af2 p) rfl<|Ay h fun x1 ay h=>Bn rfl rfl hL (BW _ _ (Ar hH hL) ay) ?_;rintro ai w2 ⟨_,rfl,ab⟩ az ag aj;obtain⟨a1,ag,aj,a2⟩:=ab.take hH hL az;refine A4 1 rfl<|Bo (σ:=Abk×Value×(List Value)) (fun⟨o,j,e⟩=>[(5,j)]) (fun⟨o,j,e⟩ wr=>DF w [.row j 5 1 (o).length e] wr fun Oz=>AJ .byte (gz H w wr Oz) o e/\Kf o=some r) ?_ ?_
 ·refine Bi 1 rfl<|Ag (Bu rfl Af2 p) rfl<|A4 1 rfl<|A5 ?_;obtain⟨t,h⟩:=AZ h;refine Bx (σ:=Abk×Int×Value×(List Value)×Nat) (fun⟨c,a,d,b,n⟩=>[(1,.func (.func 192) #[] #[]),(5,d),(11,g),(12,No (a0.length:Int)),(13,No a)]) (fun⟨c,a,d,b,n⟩ wr=>DF w [.row d 5 1 (c).length b] wr fun Oz=>AJ .byte (gz H w wr Oz) c b/\F6 (Ju a0) n (c,a)=some r) (fun⟨c,a,d,b,n⟩=>n) (x1,0,ai,a1,t) (Sub.of rfl) ⟨ag,a2,h⟩ ?_;rintro⟨c,a,d,b,nn50⟩ a7 ⟨q,f,h⟩;obtain⟨t,a9,rfl,h,u⟩:=AY h;refine AD 1 rfl<|A7<|AM rfl h (fun ak h=>?_) (fun ak h=>?_)
  ·refine Av<|Ao<|A7<|A5<|Am<|Az h fun x h=>Bf rfl rfl Af2 Uj p a.toNat (EX x) (Ba x) rfl ?_;rintro ba _ ⟨_,_,rfl,⟨_,_,rfl,rfl,⟨_,_,rfl,rfl,⟨_,_,rfl,rfl,rfl⟩⟩⟩,⟨e54v4,rfl,e54h4⟩⟩ al;refine Ag (C9 rfl Af1 rfl Uj al (hH.trans q.arg)) rfl<|AH Uj rfl rfl q fun bb bc am ac _=>Ah 0 rfl Uj am rfl (AU rfl (AU rfl (AU rfl (AU rfl (AU e54h4.one Hj))))) fun bd k ad=>Ac<|Aw<|As 2 rfl<|Ag (AE 0 rfl Af1 rfl Uj k rfl) rfl<|Ay h fun ah an h=>SM rfl rfl rfl k (Te (a0:=((((a0.getD a.toNat default).1).1,((a0.getD a.toNat default).1).2.1,((a0.getD a.toNat default).1).2.2.1,((a0.getD a.toNat default).1).2.2.2),(a0.getD a.toNat default).2)) _ _ (Ar hH k) (e54h4.mono (Aj hH)) an) ?_;rintro a4 be ⟨_,rfl,y⟩ ao ap ae;have z:=y.Cz hH k ao;refine Az h fun aq h=>?_;have f:=f.mono (Ab hH (ac.trans (ad.trans ae)));refine Bt (r:=.byte) (l:=c) (m:=ah) 1 rfl rfl AbF LH rfl (by decide) rfl hH ap rfl f z aq fun a3 bf ar au a5 s=>As 1 rfl<|AK<|AF ?_
   refine Ao<|Aw<|Az h fun av h=>Ag (A1 rfl av) rfl<|As 1 rfl<|AK ?_;have aw:=au.AQ (i:=0) rfl;have h:=BP.again h u;have s:=s.mono (Ab hH (Au (i:=0) rfl));refine AN ((c++ah),(a+1),a3,ar,t) (Sub.of rfl) ⟨aw,s,h⟩ (Nat.lt_succ_self _)
  refine Br<|AG<|A6 ?_;have h:=BP.out h u;refine Be<|A8 (c,d,b) (Sub.of rfl) ⟨q,f,h⟩
 rintro⟨o,j,e⟩ a8 ⟨aa,af,h⟩;refine AD 2 rfl<|Ax ?_
 cases h
 refine Ak rfl ⟨aa.ext,_,rfl,(aa.Ge hH (i:=0) rfl af)⟩
end Go.Proofs.YtekmbcbgknmhiaaGreatDoor
end
noncomputable section
namespace Go
abbrev AfL:=Int×(List AfI)
end Go
namespace Go.Proofs.YtekmbcbgknmhiaaGreatDoor
open Go Go.E Go.RowKit Go.L
set_option maxHeartbeats 1000000
set_option maxRecDepth 10000
open _root_.Go.Proofs.Tryz
def H4(a0:Int×(List AfI)):Option Abk:=
 Option.bind (Eb a0.1) (fun a=>Option.bind (M3 a0.2) (fun b=>AS (Go.E.J3 1 (a.length+b.length)) (some ((a++b)))))
theorem Oa(w:World)(H:PH)(hH:Le H (hp w)){a0:Int×(List AfI)}{c:Value}(ac:AI AfT H c (a0.2)){r:Abk}(h:H4 a0=some r):
  Ok prog 141 [.agg #[No a0.1,c]] w (fun v w'=>Ext w w'/\∃ u0,v=u0/\BN 5 .byte H w w' u0 r):=by
 refine A3 (n:=10) [(0,.agg #[No a0.1,c])] func141 rfl fun hL=>Am<|CY (t:=49) rfl rfl rfl hL fun w1 b1 aj ap _=>A4 1 rfl<|DD (.q 0 (.q 1 (.q 3 (.q 4 (.h 2 (.h 5 (.tail 6))))))) mixed (by kernel_rfl) (fun w2 ak=>?_);have e:=aj.call ak;refine BQ (Ae rfl Af3 rfl Cj) rfl rfl<|BQ (Af 0 rfl Abn rfl e rfl) rfl rfl<|BQ (Ae rfl Af3 rfl AbG) rfl rfl<|BQ (Af 0 rfl Af2 rfl e rfl) rfl rfl<|Ay h fun x4 al h=>Cs rfl rfl rfl (fun w6 j=>BW _ _ (Ar hH (e.call j)) al) ?_;rintro w6 au w5 j k ⟨_,rfl,y⟩;have o:=e.call j;have f:=o.call k;have ad:=AT o k;obtain⟨ay,f,ad,p⟩:=y.take hH o k;refine Ay h fun x8 am h=>Cs rfl rfl rfl (fun an a=>Tf _ _ (Ar hH (f.call a)) (ac.mono (Aj hH)) am) ?_;rintro an aw w9 a s ⟨_,rfl,z⟩;have d:=f.call a;have aa:=AT f a;have ab:=d.call s;have ae:=AT d s;have b:=z.Cz hH d s;refine Cd (fun az u=>?_);have af:=ab.call u;have g:=AT ab u;refine Az h fun ag h=>?_;have p:=p.mono (Ab hH (aa.trans (ae.trans g)));have b:=b.mono (Ab hH g)
 refine Bt (r:=.byte) (l:=x4) (m:=x8) 0 rfl rfl AbF LH rfl (by decide) rfl hH af rfl p b ag fun a1 a2 ax x ao ah=>A4 1 rfl<|Ax ?_
 cases h
 refine Ak rfl ⟨x.ext,_,rfl,(x.Ge hH (i:=0) rfl ah)⟩
def HG(a0:Int)(a:List AfI):Option (AfL×(Int×Int)):=
 Option.bind (H4 (a0,a)) (fun b=>if 16384<(b.length:Int) then none else some ((a0,a),(0,0)))
def Hc(a0:Int)(a1:List AfI)(b:(List AfQ)):(List AfI)×Int->Option (((List AfI)×Int) ⊕ (AfL×(Int×Int))):=fun⟨d,a⟩=>
 if a<(b.length:Int) then AS (0<=a/\a<(b.length:Int)) (Option.bind (E4 (Im [] ((b.getD a.toNat default).1,(b.getD a.toNat default).2.1,(b.getD a.toNat default).2.2.1,(b.getD a.toNat default).2.2.2) a1)) (fun c=>AS (c.length<4611686018427387904) (AS ((O2 c).length<=9223372036854775807) (AS (Go.E.J3 72 (d.length+([(((b.getD a.toNat default).1,(b.getD a.toNat default).2.1,(b.getD a.toNat default).2.2.1,(b.getD a.toNat default).2.2.2),(Lib.compact (O2 c)))]).length)) (AS (B0 (a+1)) (some (Sum.inl ((d++[(((b.getD a.toNat default).1,(b.getD a.toNat default).2.1,(b.getD a.toNat default).2.2.1,(b.getD a.toNat default).2.2.2),(Lib.compact (O2 c)))]),(a+1))))))))) else Option.map Sum.inr ((HG a0) d)
def La(a0:Int)(a1:List AfI)(a:(List AfQ))(s:(List AfI)×Int):Option (AfL×(Int×Int)):=Go.L.run (Hc a0 a1 a) s
def L2(a0:Int)(a1:List AfI):Option (AfL×(Int×Int)):=
 Option.bind (Q3 a1) (fun a=>(La a0 a1 a) (([]:List AfI),0))
theorem RR(w:World)(H:PH)(hH:Le H (hp w)){a0:Int}{a1:List AfI}{af:Value}(a8:TD JD (.vec (.int .i64)) H af a1){r:AfL×(Int×Int)}(h:L2 a0 a1=some r):
  Ok prog 84 [No a0,af] w (fun v w'=>Ext w w'/\∃ u0,v=.tuple #[.agg #[No r.1.1,u0],.agg #[No r.2.1,No r.2.2]]/\BN 203 AfT H w w' u0 (r.1.2)):=by
 refine A3 (n:=43) [(0,No a0),(1,af)] func84 rfl fun hL=>Am<|AH RE rfl rfl hL fun w1 b1 cj cs _=>AH AW rfl rfl cj fun w2 b2 ck ct _=>Ac<|Bi 1 rfl<|Ag (AR rfl (fun _=>AbK _ _)) rfl<|AH RE rfl rfl ck fun w3 b3 cl cu _=>Ah 0 rfl RE cl rfl (Bc rfl) fun w4 a9 cv=>Ac<|Bo (σ:=(List AfI)×Value×(List Value)) (fun⟨ae,ag,aa⟩=>[(4,(Abi b1)),(5,(Abi b2)),(6,(Abi b3))]) (fun⟨ae,ag,aa⟩ wr=>DF w [.row ag 203 5 (ae).length aa,.box b3 [No a0,ag] 49,.box b2 [No 0,No 0] 28,.box b1 [No 0,Aa8] 49] wr fun Oz=>AJ AfT (gz H w wr Oz) ae aa/\(HG a0) ae=some r) ?_ ?_
 ·refine Bi 1 rfl<|Ay h fun b ce h=>Bn rfl rfl a9 (Xj _ _ (Ar hH a9) (a8.mono (Aj hH)) ce) ?_;rintro av dh ⟨_,rfl,ba⟩ cf cg cn;have t:=ba.Cz hH a9 cf;refine Ag (Bu rfl AeR t) rfl<|A4 1 rfl<|A5 ?_;obtain⟨bl,bb,bm⟩:=C0 AfT H 203 cg;obtain⟨au,h⟩:=AZ h;have t:=t.mono (Ab hH bb)
  refine Bx (σ:=(List AfI)×Int×Value×(List Value)×Nat) (fun⟨g,a,d,e,n⟩=>[(1,af),(4,(Abi b1)),(5,(Abi b2)),(6,(Abi b3)),(13,av),(14,No (b.length:Int)),(15,No a)]) (fun⟨g,a,d,e,n⟩ wr=>DF w [.row d 203 5 (g).length e,.box b3 [No a0,d] 49,.box b2 [No 0,No 0] 28,.box b1 [No 0,Aa8] 49] wr fun Oz=>AI (.pair .st (.pair (.int .i64) (.pair (.int .i64) .st))) (gz H w wr Oz) av b/\AJ AfT (gz H w wr Oz) g e/\F6 (Hc a0 a1 b) n (g,a)=some r) (fun⟨g,a,d,e,n⟩=>n) (([]:List AfI),0,Aa8,[],au) (Sub.of rfl) ⟨bl,t,bm,h⟩ ?_;rintro⟨g,a,d,e,nn107⟩ co ⟨ah,p,u,h⟩;obtain⟨au,cw,rfl,h,aw⟩:=AY h;refine AD 1 rfl<|A7<|AM rfl h (fun bn h=>?_) (fun bn h=>?_)
  ·refine Av<|Ao<|A7<|A5<|Am<|Az h fun ax h=>Bf rfl rfl AeR LJ p a.toNat (EX ax) (Ba ax) rfl ?_;rintro cx _ ⟨_,_,rfl,rfl,⟨_,_,rfl,rfl,⟨_,_,rfl,rfl,rfl⟩⟩⟩ bo;refine Ag (C9 rfl Abw rfl LJ bo (Ar hH ah)) rfl<|AH LJ rfl rfl ah fun cy bc bp ao _=>Ah 0 rfl LJ bp rfl (Bc rfl) fun cz x ap=>Ac<|Bi 1 rfl<|Ag (AE 0 rfl Abw rfl LJ x rfl) rfl<|XJ (k:=((b.getD a.toNat default).1,(b.getD a.toNat default).2.1,(b.getD a.toNat default).2.2.1,(b.getD a.toNat default).2.2.2)) rfl rfl Af4 ZS zeroValue58 a8 (hH.trans x.arg) rfl fun c0 bq=>Ay h fun ai br h=>Bn rfl rfl x (Ng _ _ (Ar hH x) (bq.mono (Aj hH)) br) ?_;rintro bd c1 ⟨_,rfl,a5⟩ bs aj ad;obtain⟨cp,aj,ad,bt⟩:=a5.take hH x bs;refine A4 1 rfl ?_;have y:=aj.rG H;refine Bi 1 rfl<|Az h fun bu h=>AbV (i:=0) Tryz.Aeu rfl ⟨Tryz.f139,_,func139,rfl,rfl⟩ rfl rfl hH aj rfl (bt.mono y) bu fun c2 bv ay be ak=>Ac ?_
   refine JG (Jb (WM (Se (Jb (ME Mo))))) (fun z0 z=>Le (gz H w z0 [.row bd 3 1 ((O2 ai)).length bv,.box bc [.string ⟨((b.getD a.toNat default).1).toArray⟩,No ((b.getD a.toNat default).2.1),No ((b.getD a.toNat default).2.2.1),.string ⟨((b.getD a.toNat default).2.2.2).toArray⟩] 142,.row d 203 5 (g).length e,.box b3 [No a0,d] 49,.box b2 [No 0,No 0] 28,.box b1 [No 0,Aa8] 49]) (hp z)/\z.heap[bc]? = some (.cells [.string ⟨((b.getD a.toNat default).1).toArray⟩,No ((b.getD a.toNat default).2.1),No ((b.getD a.toNat default).2.2.1),.string ⟨((b.getD a.toNat default).2.2.2).toArray⟩].toArray 142 (0,0))/\z.heap[b3]? = some (.cells [No a0,d].toArray 49 (0,0))/\z.heap[b2]? = some (.cells [No 0,No 0].toArray 28 (0,0))/\z.heap[b1]? = some (.cells [No 0,Aa8].toArray 49 (0,0))) mixed rfl (fun q c4 az=>?_);have j:=ay.call az;have aq:=AT ay az;have c:=j.rG H;refine Mp ⟨c.trans (Ar hH j),j.at (i:=1) rfl,j.at (i:=3) rfl,j.at (i:=4) rfl,j.at (i:=5) rfl⟩ fun kI125=>AB 0 q kI125 (by kernel_rfl) rfl (fun _ _=>Ae rfl Af3 rfl AbG) rfl ?_
   refine AB 1 q kI125 (by kernel_rfl) rfl (fun _ hI=>Jd rfl Af2 rfl hI.2.2.1 rfl) rfl<|AB 2 q kI125 (by kernel_rfl) rfl (fun _ hI=>MX rfl Abw rfl LJ hI.2.1) rfl<|AB 3 q kI125 (by kernel_rfl) rfl (fun _ _=>Ad rfl) rfl<|Ef (i:=4) (by kernel_rfl) rfl<|Az h fun bw h=>?_;have ak:=ak.mono (Ab hH aq);refine AbW (i:=0) Tryz.Aev rfl ⟨Tryz.f140,_,func140,rfl,rfl⟩ rfl rfl hH j rfl (ak.mono c) bw ?_;intro c6 c7 cq f bf bx;have c:=c.trans (Ab hH bf);refine AX ⟨c.trans (Ar hH f),f.at (i:=1) rfl,f.at (i:=3) rfl,f.at (i:=4) rfl,f.at (i:=5) rfl⟩ fun kI128=>AB 5 q kI128 (by kernel_rfl) rfl (fun _ _=>AR rfl (fun _=>WZ _ _ _ _ _ (row_one (f.at (i:=0) rfl)) _)) rfl<|Ef (i:=6) (by kernel_rfl) rfl ?_;have bz:=f.Cz hH (i:=0) rfl bx;have b0:=f.AQ (i:=0) rfl
   refine Bp (r:=AfT) (l:=[(((b.getD a.toNat default).1,(b.getD a.toNat default).2.1,(b.getD a.toNat default).2.2.1,(b.getD a.toNat default).2.2.2),(Lib.compact (O2 ai)))]) rfl (fun _=>AbR _ _ _ _ _ _) rfl (leMax 1) hH b0 (.c5 ⟨_,_,rfl,⟨_,_,rfl,rfl,⟨_,_,rfl,rfl,⟨_,_,rfl,rfl,rfl⟩⟩⟩,⟨_,rfl,bz⟩⟩ .nil) ?_;intro c8 c9 cr s bg b4;have c:=c.trans (Ab hH ((Au (i:=0) rfl).trans bg));refine AX ⟨c.trans (Ar hH s),s.at (i:=0) rfl,s.at (i:=2) rfl,s.at (i:=3) rfl,s.at (i:=4) rfl⟩ fun kI131=>Ef (i:=7) (by kernel_rfl) rfl<|Az h fun b5 h=>?_;have u:=u.mono (Ab hH (ao.trans (ap.trans ad)));have y:=y.trans (Ab hH (be.trans aq));refine Bt (r:=AfT) (l:=g) (m:=[(((b.getD a.toNat default).1,(b.getD a.toNat default).2.1,(b.getD a.toNat default).2.2.1,(b.getD a.toNat default).2.2.2),(Lib.compact (O2 ai)))]) 1 rfl rfl Af2 Uj rfl (by decide) rfl hH s rfl ((u.mono y).mono c) b4 b5 ?_;intro ch da b6 o bh al;have c:=c.trans (Ab hH bh)
   refine AX ⟨c.trans (Ar hH o),o.at (i:=0) rfl,o.at (i:=2) rfl,o.at (i:=3) rfl,o.at (i:=4) rfl⟩ fun kI134=>AB 8 q kI134 (by kernel_rfl) rfl (fun _ _=>Ae rfl Af3 rfl AbG) rfl<|Ef (i:=9) (by kernel_rfl) rfl<|Bm 2 rfl rfl (row_one (o.at (i:=1) rfl)) AbG o rfl rfl fun db b7 ar=>Fi (by kernel_rfl)<|DB (by kernel_rfl)<|AF<|Ao<|Aw<|Az h fun b8 h=>Ag (A1 rfl b8) rfl<|As 1 rfl<|AK ?_;have b9:=b7.AQ (i:=0) rfl;have h:=BP.again h aw;have p:=p.mono (Ab hH (ao.trans (ap.trans ad)));have al:=al.mono (Ab hH (ar.trans (Au (i:=0) rfl)));have c:=c.trans (Ab hH (ar.trans (Au (i:=0) rfl)));refine AN ((g++[(((b.getD a.toNat default).1,(b.getD a.toNat default).2.1,(b.getD a.toNat default).2.2.1,(b.getD a.toNat default).2.2.2),(Lib.compact (O2 ai)))]),(a+1),ch,b6,au) (Sub.of rfl) ⟨b9,((p.mono y).mono c),al,h⟩ (Nat.lt_succ_self _)
  refine Br<|AG<|A6 ?_;have h:=BP.out h aw;refine Be<|A8 (g,d,e) (Sub.of rfl) ⟨ah,u,h⟩
 rintro⟨ae,ag,aa⟩ dc ⟨am,ab,h⟩;refine A7<|Am<|Ag (AE 1 rfl Af3 rfl RE am rfl) rfl<|Ay h fun dd ca h=>Bn rfl rfl am (Oa (a0:=(a0,ae)) _ _ (Le.refl _) (am.UD hH (i:=0) rfl ab) ca) ?_;rintro cm de ⟨_,rfl,a6⟩ cb an bi;have a7:=(a6.UF WL).Cz hH am cb;refine Ag (Bu rfl AbF a7) rfl<|A4 1 rfl<|AM rfl h (fun cc h=>?_) (fun cc h=>?_)
 ·cases h
 refine Av<|Ao<|Am<|Ag (AE 1 rfl Af3 rfl RE an rfl) rfl<|Ag (AR rfl (fun _=>Cf _)) rfl<|Ah 3 rfl RE an rfl (AU rfl (AU (row_one (an.at (i:=0) rfl)) Hj)) fun df cd bj=>Ah 2 rfl AW cd rfl (Bc rfl) fun dg ac bk=>Ac<|Ax ?_
 cases h
 refine Bz rfl (.cell rfl Af3 rfl RE (AL (i:=3) ac rfl)) (.cell rfl Ack rfl AW (AL (i:=2) ac rfl)) ?_;have ab:=ab.mono (Ab hH (bi.trans (bj.trans bk)));exact⟨ac.ext,_,rfl,(ac.Ge hH (i:=0) rfl ab)⟩
def Jv(a0:List Go.L.Pv)(b:List AfI):Option (AfL×(Int×Int)):=
 Option.bind (L2 (a0.length:Int) b) (fun a=>some ((a.1.1,a.1.2),(a.2.1,a.2.2)))
def IL(a0:List Go.L.Pv):(List AfI)×Int->Option (((List AfI)×Int) ⊕ (AfL×(Int×Int))):=fun⟨b,a⟩=>
 if a<(a0.length:Int) then AS (0<=a/\a<(a0.length:Int)) (Option.bind (Iw (a0.getD a.toNat default)) (fun c=>if c.1=0/\c.2=0 then Option.bind (Jh (L6 a) (a0.getD a.toNat default) ([]:List Abk) b) (fun d=>AS (B0 (a+1)) (some (Sum.inl (d,(a+1))))) else none)) else Option.map Sum.inr ((Jv a0) b)
def Lb(a0:List Go.L.Pv)(s:(List AfI)×Int):Option (AfL×(Int×Int)):=Go.L.run (IL a0) s
def L3(a0:List Go.L.Pv):Option (AfL×(Int×Int)):=
 if 64<(a0.length:Int) then none else(Lb a0) (([]:List AfI),0)
theorem RS(w:World)(H:PH)(hH:Le H (hp w)){a0:List Go.L.Pv}{d:Value}(m:AI .tree H d a0){r:AfL×(Int×Int)}(h:L3 a0=some r):
  Ok prog 48 [d] w (fun v w'=>Ext w w'/\∃ u0,v=.tuple #[.agg #[No r.1.1,u0],.agg #[No r.2.1,No r.2.2]]/\AI AfT (un H (nw w w')) u0 (r.1.2)):=by
 refine A3 (n:=41) [(0,d)] func48 rfl fun hL=>Am<|AH RE rfl rfl hL fun w1 q bg bx _=>AH AW rfl rfl bg fun w2 s bh bz _=>Ac<|A7<|Bi 1 rfl<|Ag (Bu rfl Afz m) rfl<|A4 1 rfl<|AM rfl h (fun bi h=>?_) (fun bi h=>?_)
 ·cases h
 refine Av<|Ao<|Am<|Uf JD (List Int) rfl bh fun w6 j bj b0=>AH AcJ rfl rfl bj fun w7 t bk b3 _=>Bm 0 rfl rfl rfl AcJ bk rfl rfl fun w8 bl b4=>Ac<|Bo (σ:=(List AfI)×(List Value)) (fun⟨g,vsl56⟩=>[(0,d),(2,(Abi q)),(3,(Abi s)),(4,(Abi t))]) (fun⟨g,vsl56⟩ wr=>DF w (Ha [.box t [.map (some j)] 139,P4 JD j g vsl56,.box s [No 0,No 0] 28,.box q [No 0,Aa8] 49] (mT cwI 3 1 g vsl56)) wr fun Oz=>(g).length=(vsl56).length/\(Jv a0) g=some r) ?_ ?_
 ·refine Bi 1 rfl<|Ag (Bu rfl Afz m) rfl<|A4 1 rfl<|A5 ?_;obtain⟨ab,h⟩:=AZ h;refine Bx (σ:=(List AfI)×Int×(List Value)×Nat) (fun⟨b,a,vsl81,n⟩=>[(0,d),(2,(Abi q)),(3,(Abi s)),(4,(Abi t)),(14,d),(15,No (a0.length:Int)),(16,No a)]) (fun⟨b,a,vsl81,n⟩ wr=>DF w (Ha [.box t [.map (some j)] 139,P4 JD j b vsl81,.box s [No 0,No 0] 28,.box q [No 0,Aa8] 49] (mT cwI 3 1 b vsl81)) wr fun Oz=>(b).length=(vsl81).length/\F6 (IL a0) n (b,a)=some r) (fun⟨b,a,vsl81,n⟩=>n) (([]:List AfI),0,([]:List Value),ab) (Sub.of rfl) ⟨bl,rfl,h⟩ ?_;rintro⟨b,a,vsl81,nn83⟩ b5 ⟨u,z,h⟩;obtain⟨ab,cf,rfl,h,ac⟩:=AY h;refine AD 1 rfl<|A7<|AM rfl h (fun a5 h=>?_) (fun a5 h=>?_)
  ·refine Av<|Ao<|A7<|A5<|Bi 1 rfl<|Az h fun ad h=>Bf rfl rfl Afz Hh m a.toNat (EX ad) (Ba ad) rfl ?_;rintro cg _ e87t0 a6;obtain⟨_,_,rfl,rfl,⟨_,_,rfl,rfl,⟨_,_,rfl,⟨e87v2,rfl,e87h2⟩,⟨_,_,rfl,⟨e87v3,rfl,e87h3⟩,⟨e87v4,rfl,e87h4⟩⟩⟩⟩⟩:=Go.E.Rp.OV e87t0;refine Ag (C9 rfl Ac8 rfl Hh a6 (hH.trans u.arg)) rfl<|AH Cj rfl rfl u fun ch a3 a7 bq _=>AH Hh rfl rfl a7 fun ci ae a8 br _=>Bm 1 rfl rfl rfl Cj a8 rfl rfl fun cj a9 bs=>Ah 0 rfl Hh a9 rfl (AU rfl (AU rfl (AU e87h2.one (AU e87h3.one (AU e87h4.one Hj))))) fun ck x bt=>Ac<|A7<|Am<|Ag (AE 0 rfl Ac8 rfl Hh x rfl) rfl<|Ay h fun k ba h=>AA rfl rfl x (M0 (a0:=(a0.getD a.toNat default)) _ _ (Ar hH x) (e87h2.mono (Aj hH)) (e87h3.mono (Aj hH)) (e87h4.mono (Aj hH)) ba) fun cl b8 bb bu=>AH AW rfl rfl bb fun cm af bc bv _=>Ah 0 rfl AW bc rfl (Bc rfl) fun a4 y bw=>Ac<|Am<|Ag (AE 0 rfl Ack rfl AW y rfl) rfl<|Ag (AR rfl (fun _=>Cf _)) rfl ?_
   refine Ag (Lh rfl rfl JF (MY _ _ _ _)) rfl<|Ac<|BV rfl h (fun bd h=>?_) (fun bd h=>?_)
   ·cases h
   refine Av<|Ao<|Aw<|Ag (AE 1 rfl Ac8 rfl Hh y rfl) rfl<|As 1 rfl ?_;have aj:Bd w (Ha [.box a3 [No a] 3,P4 JD j b vsl81,.box af [No k.1,No k.2] 28,.box ae [No ((a0.getD a.toNat default).f.1),No ((a0.getD a.toNat default).f.2.1),e87v2,e87v3,e87v4] 64,.box t [.map (some j)] 139,.box s [No 0,No 0] 28,.box q [No 0,Aa8] 49] (mT cwI 3 1 b vsl81)) a4:=y.CC [4,3] rfl;have ak:Bd w (Ha [.box t [.map (some j)] 139,.box a3 [No a] 3,P4 JD j b vsl81,.box af [No k.1,No k.2] 28,.box ae [No ((a0.getD a.toNat default).f.1),No ((a0.getD a.toNat default).f.2.1),e87v2,e87v3,e87v4] 64,.box s [No 0,No 0] 28,.box q [No 0,Aa8] 49] (mT cwI 3 1 b vsl81)) a4:=aj.CC [4] rfl;refine Ay h fun be al h=>?_
   refine DC rfl rfl (Ve hH (O:=[.box af [No k.1,No k.2] 28,.box ae [No ((a0.getD a.toNat default).f.1),No ((a0.getD a.toNat default).f.2.1),e87v2,e87v3,e87v4] 64,.box s [No 0,No 0] 28,.box q [No 0,Aa8] 49]) (i:=a) (l:=b) (vs:=vsl81) (a0:=(a0.getD a.toNat default)) (a1:=([]:List Abk)) ak (e87h2.mono (Aj hH)) (e87h3.mono (Aj hH)) (e87h4.mono (Aj hH)) (AI.nil _ _) z al) ?_;rintro _ b9 ⟨rfl,am,an,ao,bm⟩;refine AK<|AF<|Ao<|Aw<|Az h fun ap h=>Ag (A1 rfl ap) rfl<|As 1 rfl<|AK ?_;have aq:=ao.AQ (i:=1) rfl;have ar:=aq.AQ (i:=2) rfl;have au:=ar.AQ (i:=2) rfl;have h:=BP.again h ac;refine AN (be,(a+1),am,ab) (Sub.of rfl) ⟨au,an,h⟩ (Nat.lt_succ_self _)
  refine Br<|AG<|A6 ?_;have h:=BP.out h ac;refine Be<|A8 (b,vsl81) (Sub.of rfl) ⟨u,z,h⟩
 rintro⟨g,vsl56⟩ ca ⟨ag,av,h⟩;refine Bi 1 rfl<|Ag (Bu rfl Afz m) rfl<|Ag (Af 0 rfl Af4 rfl ag rfl) rfl ?_;obtain⟨o,bn,aw⟩:=XI (A:=[.box t [.map (some j)] 139,P4 JD j g vsl56,.box s [No 0,No 0] 28,.box q [No 0,Aa8] 49]) (l:=g) (vs:=vsl56) (e:=3) (r:=(.int .i64)) 1 rfl AcI hH av ag rfl;refine Ay h fun cb ax h=>Bn rfl rfl o (RR _ _ (Ar hH o) aw ax) ?_;rintro _ cc ⟨bo,rfl,aa⟩ ay az bp;have c:=aa.Cz hH o ay;refine As 2 rfl<|Ah 2 rfl RE az rfl (AU rfl (AU c.one Hj)) fun cd a2 ah=>Ah 1 rfl AW a2 rfl (Bc rfl) fun ce p ai=>Ac<|Ax ?_
 cases h
 refine Bz rfl (.cell rfl Af3 rfl RE (AL (i:=2) p rfl)) (.cell rfl Ack rfl AW (AL (i:=1) p rfl)) ?_;have c:=c.mono (Ab hH (ah.trans ai));exact⟨p.ext,_,rfl,(c.mono (B5 hH))⟩
end Go.Proofs.YtekmbcbgknmhiaaGreatDoor
end
noncomputable section
namespace Go
abbrev AfH:=List (Abk×AfN)
end Go
namespace Go.Proofs.YtekmbcbgknmhiaaGreatDoor
open Go Go.E Go.RowKit Go.L
set_option maxHeartbeats 1000000
set_option maxRecDepth 10000
open _root_.Go.Proofs.Tryz
def FO(a0:Abk×AfN)(a1:Abk):Option Int:=
 Option.bind (strings_Compare a0.1 a1) (fun a=>some a)
theorem Kp{b w:World}{H:PH}(hH:Le H (hp b)){O:List BS}{a0:Abk×AfN}{a1:Abk}{va0_1:Value}(hL:Bd b (Ha [] O) w)(j:AI AfS (gz H b w (Ha [] O)) va0_1 (a0.2)){r:Int}(h:FO a0 a1=some r):
  Ok prog 252 [.agg #[Abj a0.1,va0_1],Abj a1] w (fun v w'=>v=No r/\Bd b (Ha [] O) w'/\Le (fz w (Ha [] O)) (fz w' (Ha [] O))):=by
 refine Ez (n:=9) [(0,.agg #[Abj a0.1,va0_1]),(1,(Abj a1))] func252 rfl rfl rfl rfl rfl ?_;have hT:=Le.refl (fz w (Ha [] O));refine Am<|CY (t:=192) rfl rfl rfl hL fun l m a c _=>A4 1 rfl<|Am<|Ag (Ae rfl Af5 rfl EZ) rfl<|Ag (Af 0 rfl Ab1 rfl a rfl) rfl<|As 1 rfl<|Ay h fun o e h=>AA rfl rfl a (J5 _ _ (Ar hH a) e) fun p k f d=>A4 1 rfl<|Ax ?_
 cases h
 refine Ak rfl ?_;have g:=f.AQ (i:=0) rfl;have hT:=hT.trans (c.trans (d.trans (Au (i:=0) rfl)));exact⟨rfl,g,hT⟩
def B3(a0:List (Abk×AfN))(a1:Abk)(a:Int):Option (Int×Bool):=
 if a<(a0.length:Int) then AS (0<=a/\a<(a0.length:Int)) (Option.bind (FO ((a0.getD a.toNat default).1,(a0.getD a.toNat default).2) a1) (fun b=>some (a,decide (b=0)))) else some (a,false)
def B1(a0:List (Abk×AfN))(a1:Abk):Int×Int->Option ((Int×Int) ⊕ (Int×Bool)):=fun⟨b,a⟩=>
 if b<a then AS (B0 (b+a)) (AS (0<=(IntKind.i64.wrap ((IntKind.u64.wrap (b+a)) / 2))/\(IntKind.i64.wrap ((IntKind.u64.wrap (b+a)) / 2))<(a0.length:Int)) (Option.bind (FO ((a0.getD ((IntKind.i64.wrap ((IntKind.u64.wrap (b+a)) / 2)).toNat) default).1,(a0.getD ((IntKind.i64.wrap ((IntKind.u64.wrap (b+a)) / 2)).toNat) default).2) a1) (fun c=>if c<0 then AS (B0 ((IntKind.i64.wrap ((IntKind.u64.wrap (b+a)) / 2))+1)) (some (Sum.inl (((IntKind.i64.wrap ((IntKind.u64.wrap (b+a)) / 2))+1),a))) else some (Sum.inl (b,(IntKind.i64.wrap ((IntKind.u64.wrap (b+a)) / 2))))))) else Option.map Sum.inr ((B3 a0 a1) b)
def BO(a0:List (Abk×AfN))(a1:Abk)(s:Int×Int):Option (Int×Bool):=Go.L.run (B1 a0 a1) s
def BB(a0:List (Abk×AfN))(a1:Abk):Option (Int×Bool):=
 (BO a0 a1) (0,(a0.length:Int))
theorem Eu{i w:World}{H:PH}(hH:Le H (hp i)){O:List BS}{a0:List (Abk×AfN)}{a1:Abk}{va0:Value}(hL:Bd i (Ha [] O) w)(y:AI (.pair .st (.vec AfS)) (gz H i w (Ha [] O)) va0 a0){r:Int×Bool}(h:BB a0 a1=some r):
  Ok prog 251 [va0,Abj a1,.func (.func 252) #[] #[]] w (fun v w'=>v=.tuple #[No r.1,.bool r.2]/\Bd i (Ha [] O) w'/\Le (fz w (Ha [] O)) (fz w' (Ha [] O))):=by
 refine Ez (n:=49) [(0,va0),(1,(Abj a1)),(2,.func (.func 252) #[] #[])] func251 rfl rfl rfl rfl rfl ?_;have hT:=Le.refl (fz w (Ha [] O));refine AD 2 rfl<|Bi 1 rfl<|Ag (Bu rfl Af6 y) rfl<|A4 1 rfl<|AD 3 rfl<|Bo (σ:=Int) (fun f=>[(0,va0),(1,(Abj a1)),(2,.func (.func 252) #[] #[]),(8,No (a0.length:Int)),(9,No f)]) (fun f wr=>DF i (Ha [] O) wr fun Oz=>AI (.pair .st (.vec AfS)) (gz H i wr Oz) va0 a0/\Le (fz w (Ha [] O)) (fz wr Oz)/\(B3 a0 a1) f=some r) ?_ ?_
 ·refine A5 ?_;obtain⟨o,h⟩:=AZ h;refine Bx (σ:=Int×Int×Nat) (fun⟨b,a,n⟩=>[(0,va0),(1,(Abj a1)),(2,.func (.func 252) #[] #[]),(8,No (a0.length:Int)),(9,No b),(10,No a)]) (fun⟨b,a,n⟩ wr=>DF i (Ha [] O) wr fun Oz=>AI (.pair .st (.vec AfS)) (gz H i wr Oz) va0 a0/\Le (fz w (Ha [] O)) (fz wr Oz)/\F6 (B1 a0 a1) n (b,a)=some r) (fun⟨b,a,n⟩=>n) (0,(a0.length:Int),o) (Sub.of rfl) ⟨hL,y,hT,h⟩ ?_;rintro⟨b,a,nn48⟩ ai ⟨j,e,hT,h⟩;obtain⟨o,ak,rfl,h,k⟩:=AY h;refine A7<|AD 3 rfl<|AM rfl h (fun z h=>?_) (fun z h=>?_)
  ·refine Av<|Ao<|A5<|Bi 2 rfl<|Az h fun aa h=>Ag (A1 rfl aa) rfl<|Ag (DE Abn Ad4 rfl rfl) rfl<|Ag (TZ (c:=1) (m:=2) rfl rfl rfl (by decide)) rfl<|Ag (DE Ad4 Abn rfl rfl) rfl<|A4 1 rfl<|Bi 3 rfl<|Az h fun p h=>Bf rfl rfl Af6 P5 e ((IntKind.i64.wrap ((IntKind.u64.wrap (b+a)) / 2)).toNat) (EX p) (Ba p) rfl ?_;rintro al _ ⟨_,_,rfl,rfl,⟨e53v1,rfl,e53h1⟩⟩ ab;refine Ag (C9 rfl Af5 rfl P5 ab (Ar hH j)) rfl<|As 1 rfl<|Ay h fun am ac h=>Ep rfl rfl rfl (Kp (a0:=((a0.getD ((IntKind.i64.wrap ((IntKind.u64.wrap (b+a)) / 2)).toNat) default).1,(a0.getD ((IntKind.i64.wrap ((IntKind.u64.wrap (b+a)) / 2)).toNat) default).2)) (a1:=a1) (O:=(Ha [] O)) hH j e53h1 ac) ?_;rintro _ an ⟨rfl,q,g⟩;refine A4 1 rfl<|AM rfl h (fun ad h=>?_) (fun ad h=>?_)
   ·refine Aw<|As 1 rfl<|Az h fun ae h=>Ag (A1 rfl ae) rfl<|As 1 rfl<|AK<|AF ?_;have h:=BP.again h k;have e:=e.mono (Ab hH g);have hT:=hT.trans g;refine AN (((IntKind.i64.wrap ((IntKind.u64.wrap (b+a)) / 2))+1),a,o) (Sub.of rfl) ⟨q,e,hT,h⟩ (Nat.lt_succ_self _)
   refine Aw<|As 2 rfl<|AK<|AF ?_;have h:=BP.again h k;have e:=e.mono (Ab hH g);have hT:=hT.trans g;refine AN (b,(IntKind.i64.wrap ((IntKind.u64.wrap (b+a)) / 2)),o) (Sub.of rfl) ⟨q,e,hT,h⟩ (Nat.lt_succ_self _)
  refine Br<|AG<|A6 ?_;have h:=BP.out h k;refine Be<|A8 b (Sub.of rfl) ⟨j,e,hT,h⟩
 rintro f aj ⟨l,t,hT,h⟩;refine Bi 5 rfl<|AP (s:=39) rfl (fun d=>?_) (fun d=>?_)
 ·have h:=BI (of_decide_eq_true d) h;refine Aa rfl d<|Ag (Ad rfl) rfl<|Aa rfl d<|Ag (Ad rfl) rfl<|Aa rfl d<|Ag (Ad rfl) rfl<|Aa rfl d<|Az h fun u h=>Bf rfl rfl Af6 P5 t f.toNat (EX u) (Ba u) rfl ?_;rintro ao _ ⟨_,_,rfl,rfl,⟨e65v1,rfl,e65h1⟩⟩ af;refine Aa rfl d<|Ag (C9 rfl Af5 rfl P5 af (Ar hH l)) rfl<|Aa rfl d<|Ag (Ad rfl) rfl<|Aa rfl d<|Ay h fun ap ag h=>Ep rfl rfl rfl (Kp (a0:=((a0.getD f.toNat default).1,(a0.getD f.toNat default).2)) (a1:=a1) (O:=(Ha [] O)) hH l e65h1 ag) ?_;rintro _ aq ⟨rfl,ah,x⟩;refine Aa rfl d<|Ag (Ad rfl) rfl<|Ag (A2 rfl d rfl) rfl<|A4 2 rfl<|Ax ?_
  cases h
  refine Ak rfl ?_;have hT:=hT.trans x;exact⟨rfl,ah,hT⟩
 have h:=BJ (of_decide_eq_false d) h
 iterate 8 refine Ai rfl d rfl ?_
 refine Ag (A9 rfl d rfl) rfl<|A4 2 rfl<|Ax ?_
 cases h
 refine Ak rfl ⟨rfl,l,hT⟩
def IM(a0:Int×AfH)(a1:Abk):Option (AfN):=
 Option.bind (BB a0.2 a1) (fun a=>if !a.2 then none else AS (0<=a.1/\a.1<(a0.2.length:Int)) (some ((a0.2.getD a.1.toNat default).2)))
theorem Pt(w:World)(H:PH)(hH:Le H (hp w)){a0:Int×AfH}{a1:Abk}{a:Value}(b:AI (.pair .st (.vec AfS)) H a (a0.2)){r:AfN}(h:IM a0 a1=some r):
  Ok prog 194 [.agg #[No a0.1,a],Abj a1] w (fun v w'=>Ext w w'/\∃ f,v=f/\AI AfS (un H (nw w w')) f r):=by
 refine A3 (n:=22) [(0,.agg #[No a0.1,a]),(1,(Abj a1))] func194 rfl fun hL=>Am<|CY (t:=46) rfl rfl rfl hL fun q l d m _=>A4 1 rfl<|Am<|Ag (Ae rfl Af7 rfl WW) rfl<|Ag (Af 0 rfl Af6 rfl d rfl) rfl<|As 1 rfl<|Ay h fun o g h=>DC rfl rfl (Eu (a0:=a0.2) (a1:=a1) (O:=[.box l [No a0.1,a] 46]) hH d (b.mono (Aj hH)) g) ?_;rintro _ s ⟨rfl,c,p⟩;refine A4 5 rfl<|A7<|AD 2 rfl<|Bb rfl h (fun i h=>?_) (fun i h=>?_)
 ·cases h
 refine Av<|Ao<|Am<|Ag (Ae rfl Af7 rfl WW) rfl<|Ag (Af 0 rfl Af6 rfl c rfl) rfl<|As 1 rfl<|Az h fun e h=>Bf rfl rfl Af6 P5 b o.1.toNat (EX e) (Ba e) rfl ?_;rintro u _ ⟨_,_,rfl,rfl,⟨e7v1,rfl,e7h1⟩⟩ j;refine Ag (Ae rfl Af5 rfl ZL) rfl ?_;have k:=j.add 1;refine Ag (Bj rfl Aft rfl k (hH.trans c.arg)) rfl<|A4 1 rfl<|Ax ?_
 cases h
 refine Ak rfl ⟨c.ext,_,rfl,(e7h1.mono (Ks hH))⟩
def IN(a0:Abk):Option (Abk×Int):=
 AS (0<=(0:Int)/\(0:Int)<(a0.length:Int)) (if(48<=((a0.getD ((0:Int).toNat) default).toNat:Int))/\(((a0.getD ((0:Int).toNat) default).toNat:Int)<=57) then AS ((a0.getD ((0:Int).toNat) default).toNat<128) (some ([a0.getD ((0:Int).toNat) default],1)) else if 97<=((a0.getD ((0:Int).toNat) default).toNat:Int) then if((a0.getD ((0:Int).toNat) default).toNat:Int)<=122 then AS ((a0.getD ((0:Int).toNat) default).toNat<128) (some ([a0.getD ((0:Int).toNat) default],1)) else(if(65<=((a0.getD ((0:Int).toNat) default).toNat:Int))/\(((a0.getD ((0:Int).toNat) default).toNat:Int)<=90) then AS (((a0.getD ((0:Int).toNat) default - (65:UInt8))+(97:UInt8)).toNat<128) (some ([((a0.getD ((0:Int).toNat) default - (65:UInt8))+(97:UInt8))],1)) else(if((a0.getD ((0:Int).toNat) default).toNat:Int)<128 then some (([]:Abk),1) else Option.bind (YD a0) (fun a=>if(a.1=65533)/\(a.2=1) then some (([]:Abk),1) else AS (0<=a.2/\a.2<=(a0.length:Int)) (some ((a0.take a.2.toNat),a.2))))) else if(65<=((a0.getD ((0:Int).toNat) default).toNat:Int))/\(((a0.getD ((0:Int).toNat) default).toNat:Int)<=90) then AS (((a0.getD ((0:Int).toNat) default - (65:UInt8))+(97:UInt8)).toNat<128) (some ([((a0.getD ((0:Int).toNat) default - (65:UInt8))+(97:UInt8))],1)) else(if((a0.getD ((0:Int).toNat) default).toNat:Int)<128 then some (([]:Abk),1) else Option.bind (YD a0) (fun b=>if(b.1=65533)/\(b.2=1) then some (([]:Abk),1) else AS (0<=b.2/\b.2<=(a0.length:Int)) (some ((a0.take b.2.toNat),b.2)))))
theorem RT(w:World)(H:PH)(hH:Le H (hp w))(hU:Eg H){a0:Abk}{e:Value}(d:AI .byte H e a0){r:Abk×Int}(h:IN a0=some r):
  Ok prog 181 [e] w (fun v w'=>Ext w w'/\v=.tuple #[Abj r.1,No r.2]):=by
 refine A3 (n:=57) [(0,e)] func181 rfl fun hL=>AD 2 rfl<|A7<|Bi 1 rfl<|Az h fun i h=>Bf rfl rfl AbF LH d ((0:Int).toNat) (EX i) (Ba i) rfl ?_;rintro p1 _ rfl ad;refine Ag (Bj rfl Ac5 rfl ad (hH.trans hL.arg)) rfl<|A4 1 rfl<|A5<|Bi 3 rfl<|MS 2 2 rfl rfl rfl rfl rfl rfl<|As 1 rfl<|AP (s:=17) rfl (fun a=>?_) (fun a=>?_)
 ·have h:=BI (of_decide_eq_true a) h
  iterate 3 refine Ai rfl a rfl ?_
  iterate 2 refine Cl rfl rfl rfl ?_
  refine Ai rfl a rfl<|Ag (A2 rfl a rfl) rfl<|A4 1 rfl<|Cg rfl<|Bi 1 rfl<|Az h fun ae h=>Ag (XB rfl Ac5 Ab1 ae) rfl<|A4 2 rfl<|Ax<|Aq<|An ?_
  cases h
  refine Ak rfl ⟨hL.ext,rfl⟩
 have h:=BJ (of_decide_eq_false a) h;refine Aa rfl a<|Ag (Ad rfl) rfl<|Aa rfl a<|Ag (Ad rfl) rfl<|Aa rfl a<|Ag (Ad rfl) rfl<|AP (s:=20) rfl (fun c=>?_) (fun c=>?_)
 ·have h:=BI (of_decide_eq_true c) h;refine Aa rfl c<|Ag (Ad rfl) rfl<|Aa rfl c<|Ag (Ad rfl) rfl<|Aa rfl a<|Ag (A2 rfl c rfl) rfl<|Ag (A9 rfl a rfl) rfl<|A4 1 rfl<|AM rfl h (fun af h=>?_) (fun af h=>?_)
  ·refine Bi 1 rfl<|Az h fun j h=>Ag (XB rfl Ac5 Ab1 j) rfl<|A4 2 rfl<|Ax<|Aq<|An ?_
   cases h
   refine Ak rfl ⟨hL.ext,rfl⟩
  refine Bi 3 rfl<|MS 2 2 rfl rfl rfl rfl rfl rfl<|A4 1 rfl<|AM rfl h (fun k h=>?_) (fun k h=>?_)
  ·refine Bi 1 rfl<|Ag (Rx (b:=65) rfl rfl rfl) rfl<|Ag (Rx (b:=97) rfl rfl rfl) rfl<|Az h fun l h=>Ag (XB rfl Ac5 Ab1 l) rfl<|A4 2 rfl<|Ax<|Aq<|An ?_
   cases h
   refine Ak rfl ⟨hL.ext,rfl⟩
  refine AD 3 rfl<|AM rfl h (fun m h=>?_) (fun m h=>?_)
  ·refine AD 2 rfl<|Ax<|Aq<|An ?_
   cases h
   refine Ak rfl ⟨hL.ext,rfl⟩
  refine Av<|AF<|Ao<|Bi 1 rfl<|Ay h fun ak o h=>AA rfl rfl hL (AcN _ _ (Ar hH hL) (hU.mono (Aj hH)) (d.mono (Aj hH)) o) fun al ai f ag=>A4 5 rfl<|A7<|Bi 3 rfl<|MS 2 2 rfl rfl rfl rfl rfl rfl<|Ac<|AM rfl h (fun p h=>?_) (fun p h=>?_)
  ·refine AD 2 rfl<|Ax<|An ?_
   cases h
   refine Ak rfl ⟨f.ext,rfl⟩
  refine Av<|Ao<|Bi 2 rfl<|Az h fun q h=>VP rfl rfl AbF LH d q rfl fun am t=>Ag (KJ rfl AbF Ac5 Ab1 t (hH.trans f.arg)) rfl<|A4 3 rfl<|Ax ?_
  cases h
  refine Ak rfl ⟨f.ext,rfl⟩
 have h:=BJ (of_decide_eq_false c) h
 iterate 2 refine Ai rfl c rfl ?_
 refine Aa rfl a<|Ag (A9 rfl c rfl) rfl<|Ag (A9 rfl a rfl) rfl<|A4 1 rfl<|Cr rfl<|Bi 3 rfl<|MS 2 2 rfl rfl rfl rfl rfl rfl<|A4 1 rfl<|AM rfl h (fun u h=>?_) (fun u h=>?_)
 ·refine Bi 1 rfl<|Ag (Rx (b:=65) rfl rfl rfl) rfl<|Ag (Rx (b:=97) rfl rfl rfl) rfl<|Az h fun x h=>Ag (XB rfl Ac5 Ab1 x) rfl<|A4 2 rfl<|Ax<|Aq<|An ?_
  cases h
  refine Ak rfl ⟨hL.ext,rfl⟩
 refine AD 3 rfl<|AM rfl h (fun y h=>?_) (fun y h=>?_)
 ·refine AD 2 rfl<|Ax<|Aq<|An ?_
  cases h
  refine Ak rfl ⟨hL.ext,rfl⟩
 refine Av<|AF<|Ao<|Bi 1 rfl<|Ay h fun an z h=>AA rfl rfl hL (AcN _ _ (Ar hH hL) (hU.mono (Aj hH)) (d.mono (Aj hH)) z) fun ao aj g ah=>A4 5 rfl<|A7<|Bi 3 rfl<|MS 2 2 rfl rfl rfl rfl rfl rfl<|Ac<|AM rfl h (fun aa h=>?_) (fun aa h=>?_)
 ·refine AD 2 rfl<|Ax<|An ?_
  cases h
  refine Ak rfl ⟨g.ext,rfl⟩
 refine Av<|Ao<|Bi 2 rfl<|Az h fun ab h=>VP rfl rfl AbF LH d ab rfl fun ap ac=>Ag (KJ rfl AbF Ac5 Ab1 ac (hH.trans g.arg)) rfl<|A4 3 rfl<|Ax ?_
 cases h
 refine Ak rfl ⟨g.ext,rfl⟩
end Go.Proofs.YtekmbcbgknmhiaaGreatDoor
end
noncomputable section
namespace Go.Proofs.YtekmbcbgknmhiaaGreatDoor
open Go Go.E Go.RowKit Go.L
set_option maxHeartbeats 1000000
set_option maxRecDepth 10000
open _root_.Go.Proofs.Tryz
def F8(c:Int)(d:Abk)(a:List (Abk×Int×Int))(b:Int):Option ((AfK×Int) ⊕ (AfK)):=
 AS (Go.E.J3 32 (a.length+1)) (Option.map Sum.inr (some ((a++[(d,c,b)]))))
def Ct(a1:Abk)(d:List (Abk×Int×Int))(e:Int):Abk×Int->Option ((Abk×Int) ⊕ ((AfK×Int) ⊕ (AfK))):=fun⟨c,a⟩=>
 if a<(a1.length:Int) then AS (0<=a/\a<=(a1.length:Int)) (Option.bind (IN (a1.drop a.toNat)) (fun b=>if b.1=([]:Abk) then AS (B0 (a+b.2)) (if c=([]:Abk) then Option.map Sum.inr (some (Sum.inl (d,(a+b.2)))) else AS (Go.E.J3 32 (d.length+1)) (Option.map Sum.inr (some (Sum.inl ((d++[(c,e,a)]),(a+b.2)))))) else AS (c.length+b.1.length<=9223372036854775807) (AS (B0 (a+b.2)) (some (Sum.inl ((c++b.1),(a+b.2))))))) else Option.map Sum.inr ((F8 e) c d a)
def Ky(a1:Abk)(b:List (Abk×Int×Int))(a:Int)(s:Abk×Int):Option ((AfK×Int) ⊕ (AfK)):=Go.L.run (Ct a1 b a) s
def Cu(a1:Abk):AfK×Int->Option ((AfK×Int) ⊕ (AfK)):=fun⟨b,a⟩=>
 if a<(a1.length:Int) then(Ky a1 b a) (([]:Abk),a) else Option.map Sum.inr (some b)
def Kz(a1:Abk)(s:AfK×Int):Option (AfK):=Go.L.run (Cu a1) s
def Ji(a0:List (Abk×Int×Int))(a1:Abk):Option (AfK):=
 (Kz a1) (a0,0)
theorem Rb{l w:World}{H:PH}(hH:Le H (hp l))(hU:Eg H){O:List BS}{a0:List (Abk×Int×Int)}{a1:Abk}{la0 Da0 ba0:Nat}{ca0:Loop}{va0:Value}{xsa0:List Value}{va1_0:Value}{pa1:Addr}(bb:Z6 prog (.pair .st AfS) 3 32 la0 Da0 ba0 ca0 131 135)(hL:Bd l (Ha [.obj la0 (.loop ca0),.obj Da0 (.deferred (some [])),.box ba0 [va0] 131,.row va0 135 3 (a0).length xsa0] O) w)(b2:AJ (.pair .st AfS) (gz H l w (Ha [.obj la0 (.loop ca0),.obj Da0 (.deferred (some [])),.box ba0 [va0] 131,.row va0 135 3 (a0).length xsa0] O)) a0 xsa0)(be:AI .byte (gz H l w (Ha [.obj la0 (.loop ca0),.obj Da0 (.deferred (some [])),.box ba0 [va0] 131,.row va0 135 3 (a0).length xsa0] O)) va1_0 a1)(b3:Hi (gz H l w (Ha [.obj la0 (.loop ca0),.obj Da0 (.deferred (some [])),.box ba0 [va0] 131,.row va0 135 3 (a0).length xsa0] O)) pa1 [va1_0]){r:AfK}(h:Ji a0 a1=some r):
  Ok prog 180 [.func (.yield la0) #[] #[],.pointer (some pa1)] w (fun v w'=>∃ (u0:Value) (y0:List Value),v=.tuple #[]/\Bd l (Ha [.obj la0 (.loop ca0),.obj Da0 (.deferred (some [])),.box ba0 [u0] 131,.row u0 135 3 (r).length y0] O) w'/\Le (fz w (Ha [.obj la0 (.loop ca0),.obj Da0 (.deferred (some [])),.box ba0 [va0] 131,.row va0 135 3 (a0).length xsa0] O)) (fz w' (Ha [.obj la0 (.loop ca0),.obj Da0 (.deferred (some [])),.box ba0 [u0] 131,.row u0 135 3 (r).length y0] O))/\AJ (.pair .st AfS) (gz H l w' (Ha [.obj la0 (.loop ca0),.obj Da0 (.deferred (some [])),.box ba0 [u0] 131,.row u0 135 3 (r).length y0] O)) r y0):=by
 refine Ez (n:=53) [(0,.func (.yield la0) #[] #[]),(1,.pointer (some pa1))] func180 rfl rfl rfl rfl rfl ?_;have hT:=Le.refl (fz w (Ha [.obj la0 (.loop ca0),.obj Da0 (.deferred (some [])),.box ba0 [va0] 131,.row va0 135 3 (a0).length xsa0] O));refine UM ?_;have bc:=hL.rG H;refine AD 1 rfl<|A7<|Ab9<|Ao<|A5 ?_;obtain⟨a6,h⟩:=AZ h;refine Bx (σ:=AfK×Int×Value×(List Value)×Nat) (fun⟨m,a,g,d,n⟩=>[(0,.func (.yield la0) #[] #[]),(1,.pointer (some pa1)),(3,No a)]) (fun⟨m,a,g,d,n⟩ wr=>DF l (Ha [.obj la0 (.loop ca0),.obj Da0 (.deferred (some [])),.box ba0 [g] 131,.row g 135 3 (m).length d] O) wr fun Oz=>Hi (gz H l wr Oz) pa1 [va1_0]/\AI .byte (gz H l wr Oz) va1_0 a1/\AJ (.pair .st AfS) (gz H l wr Oz) m d/\Le (fz w (Ha [.obj la0 (.loop ca0),.obj Da0 (.deferred (some [])),.box ba0 [va0] 131,.row va0 135 3 (a0).length xsa0] O)) (fz wr Oz)/\F6 (Cu a1) n (m,a)=some r) (fun⟨m,a,g,d,n⟩=>n) (a0,0,va0,xsa0,a6) (Sub.of rfl) ⟨hL,(b3.mono bc),(be.mono bc),(b2.mono bc),hT,h⟩ ?_;rintro⟨m,a,g,d,nn68⟩ cc ⟨af,aq,ar,a7,hT,h⟩;obtain⟨a6,b1,rfl,h,ag⟩:=AY h;refine A7 ?_;have x:=af.rG H
 refine Bi 1 rfl<|Ag (Bj rfl AbF rfl (aq.mono x) (Ar hH af)) rfl<|Ag (Bu rfl AbF (ar.mono x)) rfl<|A4 1 rfl<|AM rfl h (fun b4 h=>?_) (fun b4 h=>?_)
 ·refine Av<|Ao<|A5<|Bi 1 rfl<|Ag (AR rfl (fun _=>ZM _ _)) rfl<|AH LI rfl rfl af fun cj aa b5 ah _=>Ah 0 rfl LI b5 rfl (Bc rfl) fun ck b6 ai=>Ac<|Bo (σ:=Abk×AfK×Int×Value×(List Value)) (fun⟨p,y,f,k,o⟩=>[(0,.func (.yield la0) #[] #[]),(3,No f),(4,(Abi aa))]) (fun⟨p,y,f,k,o⟩ wr=>DF l (Ha [.box aa [Abj p,No a,No 0] 135,.obj la0 (.loop ca0),.obj Da0 (.deferred (some [])),.box ba0 [k] 131,.row k 135 3 (y).length o] O) wr fun Oz=>AJ (.pair .st AfS) (gz H l wr Oz) y o/\Le (fz w (Ha [.obj la0 (.loop ca0),.obj Da0 (.deferred (some [])),.box ba0 [va0] 131,.row va0 135 3 (a0).length xsa0] O)) (fz wr Oz)/\(F8 a) p y f=some b1) ?_ ?_
  ·refine A5 ?_;obtain⟨a3,h⟩:=AZ h;have x:=x.trans (Ab hH (ah.trans ai));have hT:=hT.trans (ah.trans ai);refine Bx (σ:=Abk×Int×Nat) (fun⟨j,c,n⟩=>[(0,.func (.yield la0) #[] #[]),(1,.pointer (some pa1)),(3,No c),(4,(Abi aa))]) (fun⟨j,c,n⟩ wr=>DF l (Ha [.box aa [Abj j,No a,No 0] 135,.obj la0 (.loop ca0),.obj Da0 (.deferred (some [])),.box ba0 [g] 131,.row g 135 3 (m).length d] O) wr fun Oz=>Hi (gz H l wr Oz) pa1 [va1_0]/\AI .byte (gz H l wr Oz) va1_0 a1/\AJ (.pair .st AfS) (gz H l wr Oz) m d/\Le (fz w (Ha [.obj la0 (.loop ca0),.obj Da0 (.deferred (some [])),.box ba0 [va0] 131,.row va0 135 3 (a0).length xsa0] O)) (fz wr Oz)/\F6 (Ct a1 m a) n (j,c)=some b1) (fun⟨j,c,n⟩=>n) (([]:Abk),a,a3) (Sub.of rfl) ⟨b6,(aq.mono x),(ar.mono x),(a7.mono x),hT,h⟩ ?_;rintro⟨j,c,nn155⟩ b9 ⟨z,q,t,he155_Ra0,hT,h⟩;obtain⟨a3,cd,rfl,h,ad⟩:=AY h;refine A7 ?_;have b:=z.rG H;refine Bi 1 rfl<|Ag (Bj rfl AbF rfl (q.mono b) (Ar hH z)) rfl<|Ag (Bu rfl AbF (t.mono b)) rfl<|A4 1 rfl ?_
   refine AM rfl h (fun bf h=>?_) (fun bf h=>?_)
   ·refine Av<|Ao<|A5<|Am<|Ag (Bj rfl AbF rfl (q.mono b) (Ar hH z)) rfl<|As 1 rfl<|Az h fun bg h=>VO rfl rfl AbF LH (t.mono b) bg rfl fun ce bh=>Ay h fun aj bi h=>AA rfl rfl z (RT _ _ (Ar hH z) (hU.mono (Aj hH)) bh bi) fun cf ca ak u=>A4 5 rfl<|A7<|Bi 1 rfl<|Ag (Mm rfl rfl) rfl<|Ac<|AM rfl h (fun bj h=>?_) (fun bj h=>?_)
    ·refine Bi 1 rfl<|Ag (Ae rfl AcP rfl Cj) rfl<|Bm 0 rfl rfl rfl Cj ak rfl rfl fun a4 ab ac=>Ac<|Bi 2 rfl<|Az h fun bk h=>Ag (A1 rfl bk) rfl<|A4 1 rfl<|A7<|Z4<|LD (C1 (C1 (C1 (Bq (CL (Bq (Ku (Bq (CL (Bq (FB Hn))))))))))) rfl<|Ag (Ae rfl AcP rfl EZ) rfl<|Ho<|LD (C1 (C1 (C1 (Bq (CL (Bq (Ku (Bq (CL (Bq (FB Hn))))))))))) rfl<|Ag (Af 0 rfl Ab1 rfl ab rfl) rfl<|Ho<|LD (C1 (C1 (C1 (Bq (CL (Bq (Ku (Bq (CL (Bq (FB Hn))))))))))) rfl<|Ag (Mn rfl rfl) rfl<|Ho<|LD (C1 (C1 (C1 (Bq (CL (Bq (Ku (Bq (CL (Bq (FB Hn))))))))))) rfl<|As 1 rfl<|Ho<|Z5 (s:=34) rfl (fun e=>?_) (fun e=>?_)
     ·have h:=BJ (CG e) h;refine Nz rfl rfl e<|LD (C1 (C1 (C1 (Bq (CL (Bq (Ku (Bq (CL (Bq (FB Hn))))))))))) rfl<|As 1 rfl<|Ho<|Nz rfl rfl e<|LD (C1 (C1 (C1 (Bq (CL (Bq (Ku (Bq (CL (Bq (FB Hn))))))))))) rfl<|Ag (AE 0 rfl AcP rfl LI ab rfl) rfl<|Ho<|Nz rfl rfl e ?_;have al:Bd l (Ha [.box ba0 [g] 131,.row g 135 3 (m).length d,.box aa [Abj j,No a,No c] 135,.obj la0 (.loop ca0),.obj Da0 (.deferred (some []))] O) a4:=ab.CC [4,4] rfl;have au:=BC [4,4] ab al rfl;have a8:Bd l (Ha [.obj la0 (.loop ca0),.obj Da0 (.deferred (some [])),.box ba0 [g] 131,.row g 135 3 (m).length d,.box aa [Abj j,No a,No c] 135] O) a4:=al.CC [4,4] rfl;have av:=BC [4,4] al a8 rfl;refine Az h fun bl h=>?_;have b:=b.trans (Ab hH (u.trans (ac.trans (au.trans av))))
      have bm:=@bb l a4 H ((Ha [.box aa [Abj j,No a,No c] 135] O)) g (.agg #[Abj j,No a,No c]) d [Abj j,No a,No c] m (j,a,c) hH a8 (he155_Ra0.mono b) rfl ⟨_,_,rfl,rfl,⟨_,_,rfl,rfl,rfl⟩⟩ bl;refine VR rfl rfl rfl bm ?_;rintro cg ⟨b7,bn,bo,aw,am⟩;refine Nz rfl rfl e<|LD (C1 (C1 (C1 (Bq (CL (Bq (Ku (Bq (CL (Bq (FB Hn))))))))))) rfl<|As 1 rfl<|Ho<|LD (C1 (C1 (C1 (Bq (CL (Bq (Ku (Bq (CL (Bq (FB Hn))))))))))) rfl<|Ag (A2 rfl e rfl) rfl<|Ho<|QR<|Cr rfl<|Av<|Ao<|Br<|AG<|Nu rfl<|A6 ?_;have h:=BP.out h ad;refine Nu rfl<|Mj<|Be ?_;have bp:=bo.AQ (i:=4) rfl;have h:=BP.again h ag;have hT:=hT.trans (u.trans (ac.trans (au.trans (av.trans (aw.trans (Au (i:=4) rfl))))));have b:=b.trans (Ab hH (aw.trans (Au (i:=4) rfl)));have am:=am.mono (Ab hH (Au (i:=4) rfl))
      refine AN ((m++[(j,a,c)]),(c+aj.2),b7,bn,a6) (Sub.of rfl) ⟨bp,(q.mono b),(t.mono b),am,hT,h⟩ (Nat.lt_succ_self _)
     have h:=BI (CH e) h;refine LD (C1 (C1 (C1 (Bq (CL (Bq (Ku (Bq (CL (Bq (FB Hn))))))))))) rfl<|Ai rfl e rfl<|Ho<|LD (C1 (C1 (C1 (Bq (CL (Bq (Ku (Bq (CL (Bq (FB Hn))))))))))) rfl<|Ai rfl e rfl<|Ho<|LD (C1 (C1 (C1 (Bq (CL (Bq (Ku (Bq (CL (Bq (FB Hn))))))))))) rfl<|Ai rfl e rfl<|Ho<|LD (C1 (C1 (C1 (Bq (CL (Bq (Ku (Bq (CL (Bq (FB Hn))))))))))) rfl<|Ai rfl e rfl<|Ho<|LD (C1 (C1 (C1 (Bq (CL (Bq (Ku (Bq (CL (Bq (FB Hn))))))))))) rfl<|Ag (A9 rfl e rfl) rfl<|Ho<|QR<|Cr rfl<|Av<|Ao<|Br<|AG<|Nu rfl<|A6 ?_;have h:=BP.out h ad;refine Nu rfl<|Mj<|Be ?_;have bq:=ab.AQ (i:=0) rfl;have h:=BP.again h ag;have b:=b.trans (Ab hH (u.trans (ac.trans (Au (i:=0) rfl))))
     have hT:=hT.trans (u.trans (ac.trans (Au (i:=0) rfl)));refine AN (m,(c+aj.2),g,d,a6) (Sub.of rfl) ⟨bq,(q.mono b),(t.mono b),(he155_Ra0.mono b),hT,h⟩ (Nat.lt_succ_self _)
    refine Av<|Ao<|Am<|Ag (Ae rfl AcP rfl EZ) rfl<|Ag (Af 0 rfl Ab1 rfl ak rfl) rfl<|As 1 rfl<|Az h fun br h=>Ag (Dx rfl rfl br) rfl<|Ag (Ae rfl AcP rfl EZ) rfl<|Bm 0 rfl rfl rfl EZ ak rfl rfl fun ch bs ax=>Ac<|Aw<|As 2 rfl<|Az h fun bt h=>Ag (A1 rfl bt) rfl<|As 1 rfl<|AK<|AF ?_;have h:=BP.again h ad;have b:=b.trans (Ab hH (u.trans ax));have hT:=hT.trans (u.trans ax);refine AN ((j++aj.1),(c+aj.2),a3) (Sub.of rfl) ⟨bs,(q.mono b),(t.mono b),(he155_Ra0.mono b),hT,h⟩ (Nat.lt_succ_self _)
   refine Br<|AG<|A6 ?_;have h:=BP.out h ad;refine Be<|A8 (j,m,c,g,d) (Sub.of rfl) ⟨z,(he155_Ra0.mono b),hT,h⟩
  have hT:=hT.trans (ah.trans ai);rintro⟨p,y,f,k,o⟩ cb ⟨bu,ae,hT,h⟩;refine Bi 1 rfl<|Ag (Ae rfl AcP rfl Cj) rfl<|Bm 0 rfl rfl rfl Cj bu rfl rfl fun a5 an ay=>Ac<|Z4<|LD (C1 (Bq (CL (Bq (FB Hn))))) rfl<|As 1 rfl<|Ho<|LD (C1 (Bq (CL (Bq (FB Hn))))) rfl<|Ag (AE 0 rfl AcP rfl LI an rfl) rfl<|Ho ?_;have ao:Bd l (Ha [.box ba0 [k] 131,.row k 135 3 (y).length o,.box aa [Abj p,No a,No f] 135,.obj la0 (.loop ca0),.obj Da0 (.deferred (some []))] O) a5:=an.CC [4,4] rfl;have az:=BC [4,4] an ao rfl;have a9:Bd l (Ha [.obj la0 (.loop ca0),.obj Da0 (.deferred (some [])),.box ba0 [k] 131,.row k 135 3 (y).length o,.box aa [Abj p,No a,No f] 135] O) a5:=ao.CC [4,4] rfl;have a2:=BC [4,4] ao a9 rfl;refine Az h fun bv h=>?_;have ae:=ae.mono (Ab hH (ay.trans (az.trans a2)))
  have bw:=@bb l a5 H ((Ha [.box aa [Abj p,No a,No f] 135] O)) k (.agg #[Abj p,No a,No f]) o [Abj p,No a,No f] y (p,a,f) hH a9 ae rfl ⟨_,_,rfl,rfl,⟨_,_,rfl,rfl,rfl⟩⟩ bv;refine VR rfl rfl rfl bw ?_;rintro ci ⟨b8,bx,bz,bd,ap⟩;refine QR<|Ax<|Aq<|By ?_;have h:=BP.out h ag;refine Aq<|I5 ?_
  cases h
  refine Ab2 rfl ?_;have b0:=bz.AQ (i:=4) rfl;have hT:=hT.trans (ay.trans (az.trans (a2.trans (bd.trans (Au (i:=4) rfl)))));have ap:=ap.mono (Ab hH (Au (i:=4) rfl));exact⟨b8,bx,rfl,b0,hT,ap⟩
 refine Br<|AG<|A6 ?_;have h:=BP.out h ag;refine Be<|Z2 ?_
 cases h
 refine JO rfl ⟨g,d,rfl,af,hT,(a7.mono x)⟩
end Go.Proofs.YtekmbcbgknmhiaaGreatDoor
end
noncomputable section
namespace Go.Proofs.YtekmbcbgknmhiaaGreatDoor
open Go Go.E Go.RowKit
def Iter(H:PH)(v:Value)(l:List UInt8):Prop:=∃ p u,v=.func (.func 180) #[] #[.pointer (some p)]/\Hi H p [u]/\AI .byte H u l
theorem Iter.mono{H H':PH}{v:Value}{l:List UInt8}(h:Iter H v l)(hs:Le H H'):Iter H' v l:=by
 obtain⟨p,u,a,h2,h3⟩:=h;exact⟨p,u,a,h2.mono hs,h3.mono hs⟩
abbrev rpW:Rp (List UInt8×Int×Int):=.pair .st (.pair (.int .i64) (.int .i64))
def Nl(l:List UInt8):Option (List (List UInt8×Int×Int)):=Ji [] l
theorem Wo(w:World)(H:PH)(hH:Le H (hp w)){a0:List UInt8}{b:Value}(e:AI .byte H b a0):
  Ok Tryz.prog 129 [b] w (fun v w'=>Ext w w'/\Iter (un H (nw w w')) v a0):=by
 refine Ez (n:=4) [(0,b)] Tryz.func129 rfl rfl rfl rfl rfl ?_;have hL:=Bd.start w;refine Am<|UG (t:=23) rfl e.one rfl hL fun c a d l _=>As 1 rfl<|Ac<|Am<|As 2 rfl<|Ac<|Ax<|Sb rfl rfl ?_;have f:Hi (hp c) ⟨a,0,none⟩ [b]:=AL (i:=0) d rfl;have hn:a>=w.heap.size:=d.own _ (.head _) a rfl;refine⟨d.ext,⟨a,0,none⟩,b,rfl,⟨rfl,fun j u hj=>?_⟩,e.mono (Ks hH)⟩;have g:=f.2 j u hj
 have h2:un H (nw w c) a=hp c a:=by
  have h3:nw w c a=hp c a:=by unfold nw;rw [if_pos hn];rfl
  cases h:hp c a with
  | none=>
   have:=d.at (i:=0) rfl;have k:c.heap[a]? = none:=h;rw [show c.heap[a]? = _ from this] at k
   cases k
  | some o=>exact Gl a o (h3.trans h)
 simp only [Addr.add_lit,G9] at g ⊢;rw [h2];exact g
set_option maxRecDepth 10000 in
theorem Vf(w:World)(H:PH)(hH:Le H (hp w))(hU:Eg H){p:Addr}{u:Value}{l0:List UInt8}(hpt:Hi H p [u])(hv:AI .byte H u l0){r:List (List UInt8×Int×Int)}(h:Ji [] l0=some r):
  Ok Tryz.prog 179 [.slice none 0 0,.func (.func 180) #[] #[.pointer (some p)]] w (fun v w'=>Ext w w'/\BN 135 rpW H w w' v r):=by
 refine Yv (k:=13) [(0,.slice none 0 0),(1,.func (.func 180) #[] #[.pointer (some p)])] Tryz.func179 rfl rfl rfl rfl rfl ?_;have hL:=Bd.start w;refine Am<|UG (t:=131) rfl rfl rfl hL fun w1 d af ax _=>As 1 rfl<|Ac<|A7<|Am<|As 1 rfl<|Ac<|A5<|AbB (cap:=[.pointer (some p)]) rfl ⟨Tryz.f180,_,Tryz.func180,rfl,rfl⟩ af ?_;intro a fr fn l D w2 rec hrec ag ay
 have hY:Z6 Tryz.prog rpW 3 32 l D d rec 131 135:=by
  subst hrec;refine ZA (p:=7) (k:=13) rfl rfl rfl ⟨fr.size,rfl,fr.get⟩ rfl ?_;intro x0 x1 G P v y xs c m x hG hM he hy hx hc;obtain⟨xa,xb,xc⟩:=x;obtain⟨_,_,rfl,rfl,_,_,rfl,rfl,rfl⟩:=hx;refine Uc rfl AbA<|AH LI rfl rfl hM fun w3 bx ah f _=>QL 0 rfl rfl hy LI ah rfl rfl (AU rfl (AU rfl (AU rfl Hj))) fun w4 ai g=>AK<|Z9 (i:=1) rfl ai rfl fun w5 b j=>Z7<|Uc rfl (Bq Z8)<|Ag (Oo 3 rfl Tryz.underlying131 rfl b rfl rfl) rfl<|Ag (AE 0 rfl Tryz.underlying135 rfl LI b rfl) rfl<|Bp (r:=rpW) (l:=[(xa,xb,xc)]) rfl (fun _=>VY _ _ _ _) rfl (show 1<=9223372036854775807 by decide) hG b (.c3 ⟨_,_,rfl,rfl,_,_,rfl,rfl,rfl⟩ .nil) fun v6 w6 a6 aj n ak=>Bt (r:=rpW) (l:=m) (m:=[(xa,xb,xc)]) 4 rfl rfl Tryz.underlying131 LI rfl (by decide) rfl hG aj rfl (((he.mono (Ab hG f)).mono (Ab hG g)).mono (Ab hG j) |>.mono (Ab hG n)) ak hc fun v7 w7 al o am an=>Bm 3 rfl rfl (row_one (o.at (i:=4) rfl)) Aem o rfl rfl fun w8 ao q=>AK<|AF<|UN (i:=1) ao rfl ?_;intro w9 ap s;refine⟨rfl,v7,al,ap.AQ (i:=0) rfl,((((((f.trans g).trans j).trans n).trans am).trans q).trans s).trans (Au (i:=0) rfl),?_⟩
  exact((an.mono (Ab hG q)).mono (Ab hG s)).mono (Ab hG (Au (i:=0) rfl))
 obtain⟨aq,a3,a7⟩:=C0 rpW H 135 ag
 have ar:(yR l D d rec 131 135 3 (.slice none 0 0) ([]:List (List UInt8×Int×Int)).length []++[]).Perm (.row (.slice none 0 0) 135 rpW.sz ([]:List (List UInt8×Int×Int)).length []::[.obj l (.loop rec),.obj D (.deferred (some [])),.box d [.slice none 0 0] 131]):=
  List.perm_append_comm (l₁:=([.obj l (.loop rec),.obj D (.deferred (some [])),.box d [.slice none 0 0] 131]:List BS)) (l₂:=([.row (.slice none 0 0) 135 3 0 []]:List BS))
 have au:=aq.perm ar;have hc:=Rb hH hU (O:=[]) hY au .nil (hv.mono (Aj hH)) (hpt.mono (Aj hH)) h;refine hc.2.mono fun e w5 ⟨v5,av,hR⟩=>⟨⟨v5,av⟩,?_⟩;obtain⟨u0,y0,_,aw,a5,ab⟩:=hR;refine⟨_,aw,fun w6 z ac=>?_⟩;refine AF<|Ao<|Am<|Ag (Oo 2 rfl Tryz.underlying131 rfl z rfl rfl) rfl<|As 1 rfl<|Ac<|Ax<|AbC (i:=1) (l:=[.tmp 4]) rfl rfl z rfl ?_;intro w7 aa ad;exact⟨aa.ext,aa.Ge hH (i:=3) rfl ((ab.mono (Ab hH ac)).mono (Ab hH ad))⟩
theorem Tg(w:World)(H:PH)(hH:Le H (hp w))(hU:Eg H){a:Value}{a0:List UInt8}(b:Iter H a a0){r:List (List UInt8×Int×Int)}(h:Nl a0=some r):
  Ok Tryz.prog 128 [a] w (fun v w'=>Ext w w'/\∃ c,v=c/\BN 135 rpW H w w' c r):=by
 obtain⟨p,u,rfl,h2,h3⟩:=b;refine Ez (n:=5) [(0,.func (.func 180) #[] #[.pointer (some p)])] Tryz.func128 rfl rfl rfl rfl rfl<|Am<|As 1 rfl<|Ac<|Am<|As 1 rfl<|DC rfl rfl (Vf w H hH hU h2 h3 h) ?_;intro v w' ⟨hx,ho⟩;refine As 1 rfl<|Ac<|Ax<|Sb rfl rfl ⟨hx,_,rfl,ho⟩
end Go.Proofs.YtekmbcbgknmhiaaGreatDoor
end
noncomputable section
namespace Go.Proofs.YtekmbcbgknmhiaaGreatDoor
open Go Go.E Go.RowKit Go.L
set_option maxHeartbeats 1000000
set_option maxRecDepth 10000
open _root_.Go.Proofs.Tryz
def M4(a0:Abk):Option (AfK×(Int×Int)):=
 if 2048<(a0.length:Int) then none else Option.bind (Nl a0) (fun a=>some (a,(0,0)))
theorem Th(w:World)(H:PH)(hH:Le H (hp w))(hU:Eg H){a0:Abk}{a:Value}(b:AI .byte H a a0){r:AfK×(Int×Int)}(h:M4 a0=some r):
  Ok prog 79 [a] w (fun v w'=>Ext w w'/\∃ m,v=.tuple #[m,.agg #[No r.2.1,No r.2.2]]/\BN 135 (.pair .st AfS) H w w' m (r.1)):=by
 refine A3 (n:=12) [(0,a)] func79 rfl fun hL=>Bi 1 rfl<|AH AW rfl rfl hL fun w1 b1 c x _=>Ac<|A7<|Bi 1 rfl<|Ag (Bu rfl AbF b) rfl<|A4 1 rfl<|AM rfl h (fun o h=>?_) (fun o h=>?_)
 ·cases h
 refine Av<|Ao<|Bi 1 rfl<|Bn rfl rfl c (Wo _ _ (Ar hH c) (b.mono (Aj hH))) ?_;intro u5 w5 p q d y;have s:=p.mono (Cm hH c q);refine Ay h fun x6 t h=>Bn rfl rfl d (Tg _ _ (Ar hH d) (hU.mono (Aj hH)) s t) ?_;rintro z w7 ⟨_,rfl,g⟩ u j k;obtain⟨aa,j,k,e⟩:=g.take hH d u;refine Ag (AR rfl (fun _=>Cf _)) rfl<|As 1 rfl<|Ah 1 rfl AW j rfl (Bc rfl) fun w8 f l=>Ac<|Ax ?_
 cases h
 refine Bz rfl (.tmp rfl) (.cell rfl Ack rfl AW (AL (i:=1) f rfl)) ?_;have e:=e.mono (Ab hH l);exact⟨f.ext,_,rfl,(f.Ge hH (i:=0) rfl e)⟩
def IP(a0:Abk):Option Bool:=
 AS (a0.length<=9223372036854775807) (Option.bind (Nl a0) (fun a=>if(a.length:Int)=1 then AS (0<=(0:Int)/\(0:Int)<(a.length:Int)) (some (decide ((a.getD ((0:Int).toNat) default).1=a0))) else some false))
theorem RU(w:World)(H:PH)(hH:Le H (hp w))(hU:Eg H){a0:Abk}{r:Bool}(h:IP a0=some r):
  Ok prog 157 [Abj a0] w (fun v w'=>Ext w w'/\v=.bool r):=by
 refine A3 (n:=19) [(0,(Abj a0))] func157 rfl fun hL=>AD 1 rfl<|Bi 1 rfl<|Az h fun j h=>Zy (H:=H) rfl Ab1 AbF Ac5 rfl hL j fun v1 w1 aa c u k=>Bn rfl rfl c (Wo _ _ (Ar hH c) k) ?_;intro u3 w3 l m d x;have o:=l.mono (Cm hH c m);refine Ay h fun x4 p h=>Bn rfl rfl d (Tg _ _ (Ar hH d) (hU.mono (Aj hH)) o p) ?_;rintro y w5 ⟨_,rfl,f⟩ q e z;have b:=f.Cz hH d q;refine A4 1 rfl<|Bi 1 rfl<|Ag (Bu rfl AcH b) rfl<|As 2 rfl<|AP (s:=11) rfl (fun a=>?_) (fun a=>?_)
 ·have h:=BI (of_decide_eq_true a) h;refine Aa rfl a<|Ag (Ad rfl) rfl<|Aa rfl a<|Az h fun g h=>Bf rfl rfl AcH LI b ((0:Int).toNat) (EX g) (Ba g) rfl ?_;rintro p8 _ ⟨_,_,rfl,rfl,⟨_,_,rfl,rfl,rfl⟩⟩ t;refine Aa rfl a<|Ag (Ae rfl AcP rfl EZ) rfl ?_;have i:=t.add 0;refine Aa rfl a<|Ag (Bj rfl Ab1 rfl i (Ar hH e)) rfl<|Aa rfl a<|Ag (Ad rfl) rfl<|Aa rfl a<|Ag (Mm rfl rfl) rfl<|Ag (A2 rfl a rfl) rfl<|A4 1 rfl<|Ax ?_
  cases h
  refine Ak rfl ⟨e.ext,rfl⟩
 have h:=BJ (of_decide_eq_false a) h
 iterate 6 refine Ai rfl a rfl ?_
 refine Ag (A9 rfl a rfl) rfl<|A4 1 rfl<|Ax ?_
 cases h
 refine Ak rfl ⟨e.ext,rfl⟩
def Iy(a0:Abk):Option ((Int×Int)):=
 if 64<(a0.length:Int) then Option.bind (KP (3:Int) (-1:Int)) (fun b=>some ((b.1,b.2))) else Option.bind (IP a0) (fun c=>if !c then Option.bind (KP (6:Int) (-1:Int)) (fun a=>some ((a.1,a.2))) else some ((0,0)))
theorem OG(w:World)(H:PH)(hH:Le H (hp w))(hU:Eg H){a0:Abk}{r:(Int×Int)}(h:Iy a0=some r):
  Ok prog 102 [Abj a0] w (fun v w'=>Ext w w'/\v=.agg #[No r.1,No r.2]):=by
 refine A3 (n:=12) [(0,(Abj a0))] func102 rfl fun hL=>Am<|AH AW rfl rfl hL fun w1 b1 a t _=>Ac<|A7<|Bi 1 rfl<|Ag (Cv rfl Ab1) rfl<|A4 1 rfl<|AM rfl h (fun k h=>?_) (fun k h=>?_)
 ·refine Am<|Ay h fun x4 l h=>AA rfl rfl a (O5 _ _ (Ar hH a) l) fun w5 aa m u=>Ah 0 rfl AW m rfl (Bc rfl) fun w6 e x=>Ac<|Ax<|An ?_
  cases h
  refine BH rfl (.cell rfl Ack rfl AW (AL (i:=0) e rfl)) ⟨e.ext,rfl⟩
 refine Av<|Ao<|A7<|Bi 1 rfl<|Ay h fun x8 o h=>AA rfl rfl a (RU _ _ (Ar hH a) (hU.mono (Aj hH)) o) fun w9 ab b y=>A4 1 rfl<|Bb rfl h (fun f h=>?_) (fun f h=>?_)
 ·refine Am<|Ay h fun ac g h=>AA rfl rfl b (O5 _ _ (Ar hH b) g) fun ad z j p=>Ah 0 rfl AW j rfl (Bc rfl) fun ae c q=>Ac<|Ax<|An ?_
  cases h
  refine BH rfl (.cell rfl Ack rfl AW (AL (i:=0) c rfl)) ⟨c.ext,rfl⟩
 refine Av<|Ao<|Am<|Ag (AR rfl (fun _=>Cf _)) rfl<|Ah 0 rfl AW b rfl (Bc rfl) fun af d s=>Ac<|Ax ?_
 cases h
 refine BH rfl (.cell rfl Ack rfl AW (AL (i:=0) d rfl)) ⟨d.ext,rfl⟩
end Go.Proofs.YtekmbcbgknmhiaaGreatDoor
end
noncomputable section
namespace Go.Proofs.YtekmbcbgknmhiaaGreatDoor
open Go Go.E Go.RowKit Go.Shelf Go.Maps Go.Sort Go.WideElems Go.MapKept
abbrev rpH:Rp (Int×Int):=.pair (.int .i64) (.int .i64)
abbrev Aey(H:PH)(v:Value)(l:List (List UInt8×List (Int×Int))):Prop:=TD encS (.vec rpH) H v l
def Wp(H:PH)(v:Value)(l:List (List UInt8×List (Int×Int))):Prop:=∃ b u,v=.func (.func 184) #[] #[.pointer (some ⟨b,0,none⟩)]/\H b=some (.cells #[u] 130 (0,0))/\Aey H u l
theorem Wp.mono{H H':PH}{v:Value}{l:List (List UInt8×List (Int×Int))}(h:Wp H v l)(hs:Le H H'):Wp H' v l:=by
 obtain⟨b,u,a,h2,h3⟩:=h;exact⟨b,u,a,hs _ _ h2,h3.mono hs⟩
theorem Acg(w:World)(H:PH)(hH:Le H (hp w)){v:Value}{l:List (List UInt8×List (Int×Int))}(hm:Aey H v l):Ok Tryz.prog 131 [v] w (fun v' w'=>Ext w w'/\Wp (un H (nw w w')) v' l):=by
 obtain⟨b,vs,rfl,h⟩:=id hm;have hc:CallsIn Fence.wide 5 Tryz.prog 131 #[.map (some b)] w fun e w'=>e=.returned (.func (.func 184) #[] #[.pointer (some ⟨w.heap.size,0,none⟩)])/\w'=w.alloc (.cells #[.map (some b)] 130):=AnyZ.keys_in Tryz.AcM Fence.wide 5 trivial rfl (some b) w;refine⟨⟨Tryz.f131,_,Tryz.func131,rfl,rfl⟩,(callsIn_wide.1 hc).mono fun e w' he=>?_⟩;obtain⟨rfl,rfl⟩:=he;refine⟨_,rfl,C8 w _,w.heap.size,.map (some b),rfl,?_,hm.mono (Ks hH)⟩;refine Gl _ _ ?_;unfold nw;rw [if_pos (Nat.le_refl _)];exact World.alloc_heap_new w _
theorem OZ{κ:Type}{enc:κ->Value}:∀ (l:List κ) (vs:List Value) (i:Nat),l.length=vs.length->(mE enc i l vs).map (·.born)=List.range' i l.length
 | [],[],_,_=>rfl
 | a::l,u::vs,i,h=>by
  simp only [mE,List.map_cons,List.length_cons,List.range'_succ];rw [OZ l vs (i+1) (by simpa using h)]
theorem Vg{κ:Type}{enc:κ->Value}:∀ (l:List κ) (vs:List Value) (i:Nat),l.length=vs.length->(mE enc i l vs).map (·.key)=l.map enc
 | [],[],_,_=>rfl
 | a::l,u::vs,i,h=>by
  simp only [mE,List.map_cons];rw [Vg l vs (i+1) (by simpa using h)]
def Aal:Value->Option (DataW Unit×List MemPlace):=fun _=>some (.nil,[])
theorem Wq{P:Program}{k:TypeId}(hk:P.underlying k=some .string){s:List UInt8}(h:s.length<=maxLen):keyOf P k (encS s)=some (.string s):=by
 have:(ByteArray.mk s.toArray).size<=maxLen:=h;simp [keyOf,hk,mapKey,encS,this]
theorem AcO{P:Program}{k:TypeId}(hk:P.underlying k=some .string):∀ (l:List (List UInt8)) (vs:List Value) (i:Nat),l.length=vs.length->(∀ x∈l,x.length<=maxLen)->
  (mE encS i l vs).map (rg P k Aal)=l.map fun s=>(Lit.string s,(DataW.nil:DataW Unit))
 | [],[],_,_,_=>rfl
 | a::l,u::vs,i,h,hb=>by
  simp only [mE,List.map_cons];rw [AcO hk l vs (i+1) (by simpa using h) (fun x hx=>hb x (.tail _ hx))]
  congr 1
  simp [WideElems.rg,WideElems.rd,Wq hk (hb a (.head _)),Aal]
def Sl{β:Type}(l:List (List UInt8×β)):Prop:=(l.map Prod.fst).Nodup/\(∀ x∈l.map Prod.fst,x.length<=maxLen)/\l.length * 16<=140737488355328
noncomputable instance {β:Type} (l:List (List UInt8×β)):Decidable (Sl l):=Classical.propDecidable _
def LY{β:Type}(l:List (List UInt8×β)):Option (List (List UInt8)):=Go.L.AS (Sl l) (some ((l.map Prod.fst).mergeSort leB))
theorem Aez(m:Nat):AnyZ.SortsIn Tryz.prog Tryz.R4 Fence.wide m:=
 ⟨fun blk off cap ss W hH hblk hsz=>callsIn_wide.2 (Any.slices_Sort_string Tryz.AcK blk off cap ss W hH hblk hsz),
  fun p cap W=>callsIn_wide.2 (Any.slices_Sort_string_none Tryz.AcK p cap W)⟩
theorem Ut(G:PH):∀ l:List (List UInt8),AJ Rp.st G l (l.map Go.Proofs.encStr)
 | []=>.nil
 | _::l=>.cons (c:=[_]) rfl (Ut G l)
theorem YI(w:World)(H:PH)(hH:Le H (hp w)){v:Value}{l:List (List UInt8×List (Int×Int))}(hi:Wp H v l){r:List (List UInt8)}(h:LY l=some r):
  Ok Tryz.prog 130 [v] w (fun v' w'=>Ext w w'/\∃ f,v'=f/\BN 9 .st H w w' f r):=by
 obtain⟨⟨hnd,hlen,hby⟩,h⟩:=Go.L.EY h;obtain rfl:=Option.some.inj h;obtain⟨bx,u,rfl,hbx,b,vs,rfl,hb,hl,_⟩:=hi;have hbx':w.heap[bx]? = _:=hH _ _ hbx;have hb':w.heap[b]? = _:=hH _ _ hb;have hlk:(l.map Prod.fst).length=vs.length:=by rw [List.length_map];exact hl
 have hml:(mE encS 0 (l.map Prod.fst) vs).length=l.length:=by rw [QT _ _ _ hlk,List.length_map]
 have hrg:=AcO (P:=Tryz.prog) Tryz.underlying9 (l.map Prod.fst) vs 0 hlk hlen
 have hown:w.ownsMap Tryz.prog 9 Aal b l.length (.map (((mE encS 0 (l.map Prod.fst) vs).map (rg Tryz.prog 9 Aal)).foldr DataW.insert [])):=by
  refine⟨_,_,hb',⟨?_,⟨?_,?_,?_⟩,?_⟩,?_,rfl⟩
  ·rw [List.size_toArray,hml];unfold maxLen;omega
  ·intro x hx;have c:x.born∈(mE encS 0 (l.map Prod.fst) vs).map (·.born):=List.mem_map_of_mem (by simpa using hx);rw [OZ _ _ _ hlk,List.mem_range'_1,List.length_map] at c;omega
  ·rw [List.toList_toArray,OZ _ _ _ hlk];exact List.nodup_range'
  ·rw [List.toList_toArray,Vg _ _ _ hlk];exact List.pairwise_map.2 (hnd.imp fun {a b} hab he=>hab (by simpa [encS] using he))
  ·intro x hx;have hx':x∈mE encS 0 (l.map Prod.fst) vs:=by simpa using hx
   have c:x.key∈(mE encS 0 (l.map Prod.fst) vs).map (·.key):=List.mem_map_of_mem hx';rw [Vg _ _ _ hlk] at c;obtain⟨s,hs,he⟩:=List.mem_map.1 c;exact⟨(.string s,.nil),by simp [WideElems.rd,<- he,Wq Tryz.underlying9 (hlen s hs),Aal]⟩
  ·rw [List.size_toArray,hml];exact Nat.le_refl _
 rw [hrg] at hown
 have hq:∀ ks:List (List UInt8),(strKeys (.map ((ks.map fun s=>(Lit.string s,(DataW.nil:DataW Unit))).foldr DataW.insert []))).Perm ks:=fun ks=>by
  have c:=(WideShapes.sorted_perm (ks.map fun s=>(Lit.string s,(DataW.nil:DataW Unit)))).map (fun p=>strOf p.1);rw [List.map_map] at c;have h2:((fun p:Lit×DataW Unit=>strOf p.1)∘fun s=>(Lit.string s,(DataW.nil:DataW Unit)))=id:=by funext s;rfl
  rw [h2,List.map_id] at c;exact c
 have hperm:=hq (l.map Prod.fst)
 have hsz:Go.Maps.size (.map (((l.map Prod.fst).map fun s=>(Lit.string s,(DataW.nil:DataW Unit))).foldr DataW.insert []))=l.length:=by
  have c:=(WideShapes.sorted_perm ((l.map Prod.fst).map fun s=>(Lit.string s,(DataW.nil:DataW Unit)))).length_eq;rw [List.length_map,List.length_map] at c;exact c
 have hseq:SeqGives Fence.wide 2 Tryz.prog 184 #[.pointer (some ⟨bx,0,none⟩)] Go.Proofs.encStr (fun ss=>ss.Perm (strKeys (.map (((l.map Prod.fst).map fun s=>(Lit.string s,(DataW.nil:DataW Unit))).foldr DataW.insert [])))) (Go.Maps.size (.map (((l.map Prod.fst).map fun s=>(Lit.string s,(DataW.nil:DataW Unit))).foldr DataW.insert []))) w:=
  AnyZ.keys_gives (ρ:=Tryz.Uq) {Tryz.AcM with} Fence.wide _ trivial rfl (by omega) bx b l.length _ _ (lt_of_heap hbx') (by simp [World.cell?,hbx']) hown
 have cS:=AnyZ.sorted_in Tryz.Aca Fence.wide 5 trivial trivial trivial trivial rfl (by omega) (Aez _) (enters_of Tryz.func183 (by kernel_rfl) rfl) 184 #[.pointer (some ⟨bx,0,none⟩)] trivial (enters_of Tryz.func184 (by kernel_rfl) rfl) _ _ (by rw [hsz];unfold maxLen;omega) (by rw [hsz];exact hby) _ hseq
 change CallsIn _ _ Tryz.prog 130 _ _ _ at cS
 refine⟨⟨Tryz.f130,_,Tryz.func130,rfl,rfl⟩,(callsIn_wide.1 cS).mono fun e w' he=>?_⟩;obtain⟨v',ss,rfl,hS,hrow,_,hbel⟩:=he;refine⟨_,rfl,Ext.off hbel,v',rfl,_,?_,Ut _ _⟩;have d:ss.mergeSort leB=(l.map Prod.fst).mergeSort leB:=mergeSort_of_perm (hS.trans hperm);have g:ss.length=((l.map Prod.fst).mergeSort leB).length:=by rw [<- d];simp
 rw [g] at hrow;rw [<- d];rw [<- d] at hrow;exact hrow
end Go.Proofs.YtekmbcbgknmhiaaGreatDoor
end
noncomputable section
namespace Go
abbrev AfP:=(Int×AfH)×(Int×Int)
end Go
namespace Go.Proofs.YtekmbcbgknmhiaaGreatDoor
open Go Go.E Go.RowKit Go.L
set_option maxHeartbeats 1000000
set_option maxRecDepth 10000
open _root_.Go.Proofs.Tryz
def CW(a0 a1:Int):Option Int:=
 Option.bind (JT a0) (fun a=>AS (B0 (a1+a)) (some ((a1+a))))
theorem Dc{d w:World}{H:PH}(_hH:Le H (hp d)){O:List BS}{a0 a1:Int}{ba1:Nat}(hL:Bd d (Ha [.box ba1 [No a1] 3] O) w){r:Int}(h:CW a0 a1=some r):
  Ok prog 133 [No a0,Abi ba1] w (fun v w'=>v=.tuple #[]/\Bd d (Ha [.box ba1 [No r] 3] O) w'/\Le (fz w (Ha [.box ba1 [No a1] 3] O)) (fz w' (Ha [.box ba1 [No r] 3] O))):=by
 refine Ez (n:=7) [(0,No a0),(1,(Abi ba1))] func133 rfl rfl rfl rfl rfl ?_;have hT:=Le.refl (fz w (Ha [.box ba1 [No a1] 3] O));refine PI (.q 0 (.q 1 (.q 2 (.q 3 (.tail 4))))) mixed (by kernel_rfl) (fun o b=>?_);have a:=hL.call b;have e:=AT hL b;refine BQ (Af 0 rfl Abn rfl a rfl) rfl rfl<|Df 1 rfl<|Ay h fun p i h=>Ec rfl rfl rfl (fun s m=>Qs _ _ (Le.refl _) i)<|Az h fun j h=>BQ (A1 rfl j) rfl rfl<|Cd (fun t c=>?_);have k:=a.call c;have f:=AT a c;refine Bm 0 rfl rfl rfl Cj k rfl rfl fun u l g=>AK ?_
 cases h
 refine JO rfl ?_;have hT:=hT.trans (e.trans (f.trans g));exact⟨rfl,l,hT⟩
def Fv(a b:Int):Option ((Int×Int) ⊕ (Int)):=
 AS (B0 (a+1)) (some (Sum.inl (b,(a+1))))
def EM(a0:Int×AfH)(b:Int):Int×Int×Int×Int->Option ((Int×Int×Int×Int) ⊕ ((Int×Int) ⊕ (Int))):=fun⟨c,e,d,a⟩=>
 if a<(((a0.2.getD b.toNat default).2).length:Int) then AS (0<=a/\a<(((a0.2.getD b.toNat default).2).length:Int)) (if(((a0.2.getD b.toNat default).2).getD a.toNat default).1=c then Option.bind (CW (1:Int) d) (fun f=>AS (B0 ((((a0.2.getD b.toNat default).2).getD a.toNat default).2 - e)) (Option.bind (CW ((((a0.2.getD b.toNat default).2).getD a.toNat default).2 - e) f) (fun g=>AS (B0 (a+1)) (some (Sum.inl ((((a0.2.getD b.toNat default).2).getD a.toNat default).1,(((a0.2.getD b.toNat default).2).getD a.toNat default).2,g,(a+1))))))) else AS (B0 (1+(((a0.2.getD b.toNat default).2).getD a.toNat default).1)) (AS (B0 ((1+(((a0.2.getD b.toNat default).2).getD a.toNat default).1) - c)) (Option.bind (CW ((1+(((a0.2.getD b.toNat default).2).getD a.toNat default).1) - c) d) (fun h=>AS (B0 ((((a0.2.getD b.toNat default).2).getD a.toNat default).2+1)) (Option.bind (CW ((((a0.2.getD b.toNat default).2).getD a.toNat default).2+1) h) (fun i=>AS (B0 (a+1)) (some (Sum.inl ((((a0.2.getD b.toNat default).2).getD a.toNat default).1,(((a0.2.getD b.toNat default).2).getD a.toNat default).2,i,(a+1)))))))))) else Option.map Sum.inr ((Fv b) d)
def H5(a0:Int×AfH)(a:Int)(s:Int×Int×Int×Int):Option ((Int×Int) ⊕ (Int)):=Go.L.run (EM a0 a) s
def Fw(a0:Int×AfH)(a b:Int):Option ((Int×Int) ⊕ (Int)):=
 Option.bind (CW (((a0.2.getD a.toNat default).2).length:Int) b) (fun c=>(H5 a0 a) (0,(-1),c,0))
def EN(a0:Int×AfH)(b:Int):Int×Int->Option ((Int×Int) ⊕ ((Int×Int) ⊕ (Int))):=fun⟨c,a⟩=>
 if a<(((a0.2.getD b.toNat default).1).length:Int) then AS (0<=a/\a<(((a0.2.getD b.toNat default).1).length:Int)) (AS (B0 (((((a0.2.getD b.toNat default).1).getD a.toNat default).toNat:Int)+1)) (Option.bind (CW (((((a0.2.getD b.toNat default).1).getD a.toNat default).toNat:Int)+1) c) (fun d=>AS (B0 (a+1)) (some (Sum.inl (d,(a+1))))))) else Option.map Sum.inr ((Fw a0 b) c)
def H6(a0:Int×AfH)(a:Int)(s:Int×Int):Option ((Int×Int) ⊕ (Int)):=Go.L.run (EN a0 a) s
def EO(a0:Int×AfH):Int×Int->Option ((Int×Int) ⊕ (Int)):=fun⟨b,a⟩=>
 if a<(a0.2.length:Int) then AS (0<=a/\a<(a0.2.length:Int)) (Option.bind (CW (((a0.2.getD a.toNat default).1).length:Int) b) (fun c=>AS (((a0.2.getD a.toNat default).1).length<=9223372036854775807) ((H6 a0 a) (c,0)))) else Option.map Sum.inr (some b)
def H7(a0:Int×AfH)(s:Int×Int):Option Int:=Go.L.run (EO a0) s
def GJ(a0:Int×AfH)(a1_c0:Int):Option Int:=
 AS (B0 (a0.1+1)) (Option.bind (CW (a0.1+1) a1_c0) (fun a=>AS (B0 ((a0.2.length:Int)+1)) (Option.bind (CW ((a0.2.length:Int)+1) a) (fun b=>(H7 a0) (b,0)))))
theorem NI{k w:World}{H:PH}(hH:Le H (hp k)){O:List BS}{a0:Int×AfH}{a1_c0:Int}{va0_1:Value}{ba1_c0:Nat}(hL:Bd k (Ha [.box ba1_c0 [No a1_c0] 3] O) w)(y:AI (.pair .st (.vec AfS)) (gz H k w (Ha [.box ba1_c0 [No a1_c0] 3] O)) va0_1 (a0.2)){r:Int}(h:GJ a0 a1_c0=some r):
  Ok prog 132 [.agg #[No a0.1,va0_1],.func (.func 133) #[] #[Abi ba1_c0]] w (fun v w'=>v=.tuple #[]/\Bd k (Ha [.box ba1_c0 [No r] 3] O) w'/\Le (fz w (Ha [.box ba1_c0 [No a1_c0] 3] O)) (fz w' (Ha [.box ba1_c0 [No r] 3] O))):=by
 refine Ez (n:=91) [(0,.agg #[No a0.1,va0_1]),(1,.func (.func 133) #[] #[Abi ba1_c0])] func132 rfl rfl rfl rfl rfl ?_;have hT:=Le.refl (fz w (Ha [.box ba1_c0 [No a1_c0] 3] O));refine Am<|CY (t:=46) rfl rfl rfl hL fun w1 q b2 b3 _=>Ac<|Bi 1 rfl<|Ag (Ae rfl Af7 rfl Cj) rfl<|Ag (Af 0 rfl Abn rfl b2 rfl) rfl<|Az h fun dm h=>Ag (A1 rfl dm) rfl ?_;have db:Bd k (Ha [.box ba1_c0 [No a1_c0] 3,.box q [No a0.1,va0_1] 46] O) w1:=b2.CC [1] rfl;have b4:=BC [1] b2 db rfl;refine Ay h fun x4 dn h=>Ep rfl rfl rfl (Dc (a0:=(a0.1+1)) (a1:=a1_c0) (O:=(Ha [.box q [No a0.1,va0_1] 46] O)) hH db dn) ?_;rintro _ w5 ⟨rfl,dc,b5⟩;refine Ac<|Bi 1 rfl<|Ag (Ae rfl Af7 rfl WW) rfl<|Ag (Af 1 rfl Af6 rfl dc rfl) rfl ?_;have y:=y.mono (Ab hH (b3.trans (b4.trans b5)));refine Ag (Bu rfl Af6 y) rfl<|Az h fun dp h=>Ag (A1 rfl dp) rfl<|Ay h fun x7 dq h=>Ep rfl rfl rfl (Dc (a0:=((a0.2.length:Int)+1)) (a1:=x4) (O:=(Ha [.box q [No a0.1,va0_1] 46] O)) hH dc dq) ?_;rintro _ w8 ⟨rfl,dd,b6⟩
 refine Ac<|Am<|Ag (Ae rfl Af7 rfl WW) rfl<|Ag (Af 1 rfl Af6 rfl dd rfl) rfl ?_;have y:=y.mono (Ab hH b6);refine Ag (Bu rfl Af6 y) rfl<|A4 1 rfl<|A5 ?_;obtain⟨be,h⟩:=AZ h;have hT:=hT.trans (b3.trans (b4.trans (b5.trans b6)));refine Bx (σ:=Int×Int×Nat) (fun⟨aa,a,n⟩=>[(1,.func (.func 133) #[] #[Abi ba1_c0]),(23,va0_1),(24,No (a0.2.length:Int)),(25,No a)]) (fun⟨aa,a,n⟩ wr=>DF k (Ha [.box ba1_c0 [No aa] 3,.box q [No a0.1,va0_1] 46] O) wr fun Oz=>AI (.pair .st (.vec AfS)) (gz H k wr Oz) va0_1 (a0.2)/\Le (fz w (Ha [.box ba1_c0 [No a1_c0] 3] O)) (fz wr Oz)/\F6 (EO a0) n (aa,a)=some r) (fun⟨aa,a,n⟩=>n) (x7,0,be) (Sub.of rfl) ⟨dd,y,hT,h⟩ ?_;rintro⟨aa,a,nn119⟩ dr ⟨a6,z,hT,h⟩;obtain⟨be,a7,rfl,h,bg⟩:=AY h;refine AD 1 rfl<|A7<|AM rfl h (fun cb h=>?_) (fun cb h=>?_)
 ·refine Av<|Ao<|Bo (σ:=Int) (fun aj=>[(1,.func (.func 133) #[] #[Abi ba1_c0]),(23,va0_1),(24,No (a0.2.length:Int)),(25,No a)]) (fun aj wr=>DF k (Ha [.box ba1_c0 [No aj] 3,.box q [No a0.1,va0_1] 46] O) wr fun Oz=>AI (.pair .st (.vec AfS)) (gz H k wr Oz) va0_1 (a0.2)/\Le (fz w (Ha [.box ba1_c0 [No a1_c0] 3] O)) (fz wr Oz)/\(Fv a) aj=some a7) ?_ ?_
  ·refine A5<|Am<|Az h fun bh h=>Bf rfl rfl Af6 P5 z a.toNat (EX bh) (Ba bh) rfl ?_;rintro d0 _ ⟨_,_,rfl,rfl,⟨e228v1,rfl,e228h1⟩⟩ cc;refine Ag (C9 rfl Af5 rfl P5 cc (Ar hH a6)) rfl<|AH P5 rfl rfl a6 fun d1 c cd ac _=>Ah 0 rfl P5 cd rfl (AU rfl (AU e228h1.one Hj)) fun de a8 ad=>Ac<|Bi 1 rfl<|Ag (Ae rfl Af5 rfl EZ) rfl<|Ag (Af 0 rfl Ab1 rfl a8 rfl) rfl<|Ag (Cv rfl Ab1) rfl ?_;have bi:Bd k (Ha [.box ba1_c0 [No aa] 3,.box c [.string ⟨((a0.2.getD a.toNat default).1).toArray⟩,e228v1] 192,.box q [No a0.1,va0_1] 46] O) de:=a8.CC [1] rfl;have ae:=BC [1] a8 bi rfl;refine Ay h fun df ce h=>Ep rfl rfl rfl (Dc (a0:=(((a0.2.getD a.toNat default).1).length:Int)) (a1:=aa) (O:=(Ha [.box c [.string ⟨((a0.2.getD a.toNat default).1).toArray⟩,e228v1] 192,.box q [No a0.1,va0_1] 46] O)) hH bi ce) ?_;rintro _ d2 ⟨rfl,bj,af⟩;refine Ac ?_
   refine Bo (σ:=Int) (fun ak=>[(1,.func (.func 133) #[] #[Abi ba1_c0]),(5,(Abi c)),(23,va0_1),(24,No (a0.2.length:Int)),(25,No a)]) (fun ak wr=>DF k (Ha [.box ba1_c0 [No ak] 3,.box c [.string ⟨((a0.2.getD a.toNat default).1).toArray⟩,e228v1] 192,.box q [No a0.1,va0_1] 46] O) wr fun Oz=>AI (.pair .st (.vec AfS)) (gz H k wr Oz) va0_1 (a0.2)/\AI AfS (gz H k wr Oz) e228v1 ((a0.2.getD a.toNat default).2)/\Le (fz w (Ha [.box ba1_c0 [No a1_c0] 3] O)) (fz wr Oz)/\(Fw a0 a) ak=some a7) ?_ ?_
   ·refine Am<|Ag (Ae rfl Af5 rfl EZ) rfl<|Ag (Af 1 rfl Ab1 rfl bj rfl) rfl<|Az h fun cf h=>Zy (H:=H) rfl Ab1 AbF Ac5 rfl bj cf fun b7 d3 ds cg al bk=>Ag (Bu rfl AbF bk) rfl<|A4 1 rfl<|A5 ?_;obtain⟨bf,h⟩:=AZ h;have z:=z.mono (Ab hH (ac.trans (ad.trans (ae.trans (af.trans al)))));have e228h1:=e228h1.mono (Ab hH (ac.trans (ad.trans (ae.trans (af.trans al)))));have hT:=hT.trans (ac.trans (ad.trans (ae.trans (af.trans al))))
    refine Bx (σ:=Int×Int×Nat) (fun⟨ab,e,n⟩=>[(1,.func (.func 133) #[] #[Abi ba1_c0]),(5,(Abi c)),(23,va0_1),(24,No (a0.2.length:Int)),(25,No a),(36,b7),(37,No (((a0.2.getD a.toNat default).1).length:Int)),(38,No e)]) (fun⟨ab,e,n⟩ wr=>DF k (Ha [.box ba1_c0 [No ab] 3,.box c [.string ⟨((a0.2.getD a.toNat default).1).toArray⟩,e228v1] 192,.box q [No a0.1,va0_1] 46] O) wr fun Oz=>AI (.pair .st (.vec AfS)) (gz H k wr Oz) va0_1 (a0.2)/\AI .byte (gz H k wr Oz) b7 ((a0.2.getD a.toNat default).1)/\AI AfS (gz H k wr Oz) e228v1 ((a0.2.getD a.toNat default).2)/\Le (fz w (Ha [.box ba1_c0 [No a1_c0] 3] O)) (fz wr Oz)/\F6 (EN a0 a) n (ab,e)=some a7) (fun⟨ab,e,n⟩=>n) (df,0,bf) (Sub.of rfl) ⟨cg,z,bk,e228h1,hT,h⟩ ?_;rintro⟨ab,e,nn280⟩ dt ⟨ai,a3,a4,a5,hT,h⟩;obtain⟨bf,d4,rfl,h,bl⟩:=AY h;have l:=ai.rG H;refine AD 1 rfl<|A7<|AM rfl h (fun ch h=>?_) (fun ch h=>?_)
    ·refine Av<|Ao<|A7<|A5<|Am<|Az h fun bm h=>Bf rfl rfl AbF LH (a4.mono l) e.toNat (EX bm) (Ba bm) rfl ?_;rintro d5 _ rfl ci;refine Ag (Bj rfl Ac5 rfl ci (Ar hH ai)) rfl<|A4 1 rfl<|Aw<|As 2 rfl<|Ag (DE Ac5 Abn rfl (EB _)) rfl<|Az h fun cj h=>Ag (A1 rfl cj) rfl<|Ay h fun dg ck h=>Ep rfl rfl rfl (Dc (a0:=(((((a0.2.getD a.toNat default).1).getD e.toNat default).toNat:Int)+1)) (a1:=ab) (O:=(Ha [.box c [.string ⟨((a0.2.getD a.toNat default).1).toArray⟩,e228v1] 192,.box q [No a0.1,va0_1] 46] O)) hH ai ck) ?_;rintro _ d6 ⟨rfl,cl,bd⟩;refine AK<|AF<|Ao<|Aw<|Az h fun cm h=>Ag (A1 rfl cm) rfl<|As 1 rfl<|AK ?_;have h:=BP.again h bl;have l:=l.trans (Ab hH bd);have hT:=hT.trans bd;refine AN (dg,(e+1),bf) (Sub.of rfl) ⟨cl,(a3.mono l),(a4.mono l),(a5.mono l),hT,h⟩ (Nat.lt_succ_self _)
    refine Br<|AG<|A6 ?_;have h:=BP.out h bl;refine Be<|A8 ab (Sub.of rfl) ⟨ai,(a3.mono l),(a5.mono l),hT,h⟩
   have hT:=hT.trans (ac.trans (ad.trans (ae.trans af)));rintro ak du ⟨bn,ag,s,hT,h⟩;refine Bi 1 rfl<|Ag (Ae rfl Af5 rfl ZL) rfl<|Ag (Af 1 rfl Aft rfl bn rfl) rfl<|Ag (Bu rfl Aft s) rfl<|Ay h fun dh cn h=>Ep rfl rfl rfl (Dc (a0:=(((a0.2.getD a.toNat default).2).length:Int)) (a1:=ak) (O:=(Ha [.box c [.string ⟨((a0.2.getD a.toNat default).1).toArray⟩,e228v1] 192,.box q [No a0.1,va0_1] 46] O)) hH bn cn) ?_;rintro _ d7 ⟨rfl,co,am⟩;refine Ac<|Am<|Ag (AR rfl (fun _=>ZN _ _)) rfl<|AH Lj rfl rfl co fun d8 o cp an _=>Ah 0 rfl Lj cp rfl (Bc rfl) fun d9 bo ao=>Ac<|Am<|Ag (Ae rfl Af5 rfl ZL) rfl<|Ag (Af 2 rfl Aft rfl bo rfl) rfl ?_;have s:=s.mono (Ab hH (am.trans (an.trans ao)));refine Ag (Bu rfl Aft s) rfl<|A4 1 rfl<|A5 ?_;obtain⟨a9,h⟩:=AZ h;have ag:=ag.mono (Ab hH (am.trans (an.trans ao)));have hT:=hT.trans (am.trans (an.trans ao))
   refine Bx (σ:=Int×Int×Int×Int×Nat) (fun⟨g,j,p,b,n⟩=>[(1,.func (.func 133) #[] #[Abi ba1_c0]),(8,(Abi o)),(23,va0_1),(24,No (a0.2.length:Int)),(25,No a),(55,e228v1),(56,No (((a0.2.getD a.toNat default).2).length:Int)),(57,No b)]) (fun⟨g,j,p,b,n⟩ wr=>DF k (Ha [.box o [No g,No j] 137,.box ba1_c0 [No p] 3,.box c [.string ⟨((a0.2.getD a.toNat default).1).toArray⟩,e228v1] 192,.box q [No a0.1,va0_1] 46] O) wr fun Oz=>AI (.pair .st (.vec AfS)) (gz H k wr Oz) va0_1 (a0.2)/\AI AfS (gz H k wr Oz) e228v1 ((a0.2.getD a.toNat default).2)/\Le (fz w (Ha [.box ba1_c0 [No a1_c0] 3] O)) (fz wr Oz)/\F6 (EM a0 a) n (g,j,p,b)=some a7) (fun⟨g,j,p,b,n⟩=>n) (0,(-1),dh,0,a9) (Sub.of rfl) ⟨bo,ag,s,hT,h⟩ ?_;rintro⟨g,j,p,b,nn330⟩ dv ⟨ba,d,f,hT,h⟩;obtain⟨a9,ea,rfl,h,bb⟩:=AY h;refine AD 1 rfl<|A7<|AM rfl h (fun cq h=>?_) (fun cq h=>?_)
   ·refine Av<|Ao<|A7<|A5<|Am<|Az h fun bp h=>Bf rfl rfl Aft Lj f b.toNat (EX bp) (Ba bp) rfl ?_;rintro eb _ ⟨_,_,rfl,rfl,rfl⟩ cr;refine Ag (C9 rfl Af8 rfl Lj cr (Ar hH ba)) rfl<|AH Lj rfl rfl ba fun ec ah cs u _=>Ah 0 rfl Lj cs rfl (Bc rfl) fun b8 m x=>Ac<|A7<|Am<|Ag (Ae rfl Af8 rfl Cj) rfl<|Ag (Af 0 rfl Abn rfl m rfl) rfl<|Ag (Ae rfl Af8 rfl Cj) rfl<|Ag (Af 1 rfl Abn rfl m rfl) rfl<|A4 1 rfl<|BV rfl h (fun ct h=>?_) (fun ct h=>?_)
    ·refine Bi 1 rfl<|Ag (Ae rfl Af8 rfl Cj) rfl<|Ag (Af 0 rfl Abn rfl m rfl) rfl<|Az h fun cu h=>Ag (A1 rfl cu) rfl<|Ag (Ae rfl Af8 rfl Cj) rfl<|Ag (Af 1 rfl Abn rfl m rfl) rfl<|Az h fun cv h=>Ag (A1 rfl cv) rfl ?_;have bq:Bd k (Ha [.box ba1_c0 [No p] 3,.box ah [No ((((a0.2.getD a.toNat default).2).getD b.toNat default).1),No ((((a0.2.getD a.toNat default).2).getD b.toNat default).2)] 137,.box o [No g,No j] 137,.box c [.string ⟨((a0.2.getD a.toNat default).1).toArray⟩,e228v1] 192,.box q [No a0.1,va0_1] 46] O) b8:=m.CC [2] rfl;have ap:=BC [2] m bq rfl;refine Ay h fun di cw h=>Ep rfl rfl rfl (Dc (a0:=((1+(((a0.2.getD a.toNat default).2).getD b.toNat default).1) - g)) (a1:=p) (O:=(Ha [.box ah [No ((((a0.2.getD a.toNat default).2).getD b.toNat default).1),No ((((a0.2.getD a.toNat default).2).getD b.toNat default).2)] 137,.box o [No g,No j] 137,.box c [.string ⟨((a0.2.getD a.toNat default).1).toArray⟩,e228v1] 192,.box q [No a0.1,va0_1] 46] O)) hH bq cw) ?_
     rintro _ ed ⟨rfl,br,aq⟩;refine Ac<|Aw<|As 1 rfl<|Ag (Ae rfl Af8 rfl Cj) rfl<|Ag (Af 1 rfl Abn rfl br rfl) rfl<|Az h fun cx h=>Ag (A1 rfl cx) rfl<|Ay h fun b9 cy h=>Ep rfl rfl rfl (Dc (a0:=((((a0.2.getD a.toNat default).2).getD b.toNat default).2+1)) (a1:=di) (O:=(Ha [.box ah [No ((((a0.2.getD a.toNat default).2).getD b.toNat default).1),No ((((a0.2.getD a.toNat default).2).getD b.toNat default).2)] 137,.box o [No g,No j] 137,.box c [.string ⟨((a0.2.getD a.toNat default).1).toArray⟩,e228v1] 192,.box q [No a0.1,va0_1] 46] O)) hH br cy) ?_;rintro _ ee ⟨rfl,bs,ar⟩;refine AK<|Ao<|Aw<|Ag (AE 1 rfl Af8 rfl Lj bs rfl) rfl<|Ah 2 rfl Lj bs rfl (Bc rfl) fun dj cz au=>AK<|AF<|Ao<|Aw<|Az h fun c0 h=>Ag (A1 rfl c0) rfl<|As 1 rfl<|AK ?_;have bt:=cz.AQ (i:=1) rfl
     have bu:Bd k (Ha [.box o [No ((((a0.2.getD a.toNat default).2).getD b.toNat default).1),No ((((a0.2.getD a.toNat default).2).getD b.toNat default).2)] 137,.box ba1_c0 [No b9] 3,.box c [.string ⟨((a0.2.getD a.toNat default).1).toArray⟩,e228v1] 192,.box q [No a0.1,va0_1] 46] O) dj:=bt.CC [1] rfl;have av:=BC [1] bt bu rfl;have h:=BP.again h bb;have d:=d.mono (Ab hH (u.trans (x.trans (ap.trans (aq.trans (ar.trans (au.trans ((Au (i:=1) rfl).trans av))))))));have f:=f.mono (Ab hH (u.trans (x.trans (ap.trans (aq.trans (ar.trans (au.trans ((Au (i:=1) rfl).trans av))))))));have hT:=hT.trans (u.trans (x.trans (ap.trans (aq.trans (ar.trans (au.trans ((Au (i:=1) rfl).trans av)))))));refine AN ((((a0.2.getD a.toNat default).2).getD b.toNat default).1,(((a0.2.getD a.toNat default).2).getD b.toNat default).2,b9,(b+1),a9) (Sub.of rfl) ⟨bu,d,f,hT,h⟩ (Nat.lt_succ_self _)
    refine Bi 1 rfl ?_;have bv:Bd k (Ha [.box ba1_c0 [No p] 3,.box ah [No ((((a0.2.getD a.toNat default).2).getD b.toNat default).1),No ((((a0.2.getD a.toNat default).2).getD b.toNat default).2)] 137,.box o [No g,No j] 137,.box c [.string ⟨((a0.2.getD a.toNat default).1).toArray⟩,e228v1] 192,.box q [No a0.1,va0_1] 46] O) b8:=m.CC [2] rfl;have aw:=BC [2] m bv rfl;refine Ay h fun dk c1 h=>Ep rfl rfl rfl (Dc (a0:=1) (a1:=p) (O:=(Ha [.box ah [No ((((a0.2.getD a.toNat default).2).getD b.toNat default).1),No ((((a0.2.getD a.toNat default).2).getD b.toNat default).2)] 137,.box o [No g,No j] 137,.box c [.string ⟨((a0.2.getD a.toNat default).1).toArray⟩,e228v1] 192,.box q [No a0.1,va0_1] 46] O)) hH bv c1) ?_;rintro _ ef ⟨rfl,bc,ax⟩;refine Ac<|Aw<|As 1 rfl<|Ag (Ae rfl Af8 rfl Cj) rfl<|Ag (Af 1 rfl Abn rfl bc rfl) rfl<|Ag (Ae rfl Af8 rfl Cj) rfl<|Ag (Af 2 rfl Abn rfl bc rfl) rfl<|Az h fun c2 h=>Ag (A1 rfl c2) rfl<|Ay h fun ca c3 h=>?_
    refine Ep rfl rfl rfl (Dc (a0:=((((a0.2.getD a.toNat default).2).getD b.toNat default).2 - j)) (a1:=dk) (O:=(Ha [.box ah [No ((((a0.2.getD a.toNat default).2).getD b.toNat default).1),No ((((a0.2.getD a.toNat default).2).getD b.toNat default).2)] 137,.box o [No g,No j] 137,.box c [.string ⟨((a0.2.getD a.toNat default).1).toArray⟩,e228v1] 192,.box q [No a0.1,va0_1] 46] O)) hH bc c3) ?_;rintro _ eg ⟨rfl,bw,ay⟩;refine AK<|Ao<|Aw<|Ag (AE 1 rfl Af8 rfl Lj bw rfl) rfl<|Ah 2 rfl Lj bw rfl (Bc rfl) fun dl c4 az=>AK<|AF<|Ao<|Aw<|Az h fun c5 h=>Ag (A1 rfl c5) rfl<|As 1 rfl<|AK ?_;have bx:=c4.AQ (i:=1) rfl;have bz:Bd k (Ha [.box o [No ((((a0.2.getD a.toNat default).2).getD b.toNat default).1),No ((((a0.2.getD a.toNat default).2).getD b.toNat default).2)] 137,.box ba1_c0 [No ca] 3,.box c [.string ⟨((a0.2.getD a.toNat default).1).toArray⟩,e228v1] 192,.box q [No a0.1,va0_1] 46] O) dl:=bx.CC [1] rfl;have a2:=BC [1] bx bz rfl;have h:=BP.again h bb
    have d:=d.mono (Ab hH (u.trans (x.trans (aw.trans (ax.trans (ay.trans (az.trans ((Au (i:=1) rfl).trans a2))))))));have f:=f.mono (Ab hH (u.trans (x.trans (aw.trans (ax.trans (ay.trans (az.trans ((Au (i:=1) rfl).trans a2))))))));have hT:=hT.trans (u.trans (x.trans (aw.trans (ax.trans (ay.trans (az.trans ((Au (i:=1) rfl).trans a2)))))));refine AN ((((a0.2.getD a.toNat default).2).getD b.toNat default).1,(((a0.2.getD a.toNat default).2).getD b.toNat default).2,ca,(b+1),a9) (Sub.of rfl) ⟨bz,d,f,hT,h⟩ (Nat.lt_succ_self _)
   refine Br<|AG<|A6 ?_;have h:=BP.out h bb;refine Be<|AF ?_;have c6:=ba.AQ (i:=0) rfl;have c7:=c6.AQ (i:=1) rfl;have d:=d.mono (Ab hH ((Au (i:=0) rfl).trans (Au (i:=1) rfl)));have hT:=hT.trans ((Au (i:=0) rfl).trans (Au (i:=1) rfl));refine A8 p (Sub.of rfl) ⟨c7,d,hT,h⟩
  rintro aj dw ⟨c8,b0,hT,h⟩;refine Aw<|Az h fun c9 h=>Ag (A1 rfl c9) rfl<|As 1 rfl<|AK ?_;have h:=BP.again h bg;refine AN (aj,(a+1),be) (Sub.of rfl) ⟨c8,b0,hT,h⟩ (Nat.lt_succ_self _)
 refine Br<|AG<|A6 ?_;have h:=BP.out h bg;refine Be ?_
 cases h
 refine JO rfl ?_;have da:=a6.AQ (i:=1) rfl;have hT:=hT.trans (Au (i:=1) rfl);exact⟨rfl,da,hT⟩
def Kg(a0:Int)(a:List (Abk×AfN)):Option AfP:=
 Option.bind (GJ (a0,a) (0:Int)) (fun b=>if 131072<b then none else some ((a0,a),(0,0)))
def Jw(a0:Int)(a1:List (Abk×AfN))(b:(List Abk)):AfH×Int->Option ((AfH×Int) ⊕ AfP):=fun⟨c,a⟩=>
 if a<(b.length:Int) then AS (0<=a/\a<(b.length:Int)) (AS (Go.E.J3 40 (c.length+([(b.getD a.toNat default,(Im [] (b.getD a.toNat default) a1))]).length)) (AS (B0 (a+1)) (some (Sum.inl ((c++[(b.getD a.toNat default,(Im [] (b.getD a.toNat default) a1))]),(a+1)))))) else Option.map Sum.inr ((Kg a0) c)
def LZ(a0:Int)(a1:List (Abk×AfN))(a:(List Abk))(s:AfH×Int):Option AfP:=Go.L.run (Jw a0 a1 a) s
def M5(a0:Int)(a1:List (Abk×AfN)):Option AfP:=
 Option.bind (LY a1) (fun a=>(LZ a0 a1 a) (([]:List (Abk×AfN)),0))
theorem Ti(w:World)(H:PH)(hH:Le H (hp w)){a0:Int}{a1:List (Abk×AfN)}{u:Value}(ag:TD encS (.vec AfS) H u a1){r:(Int×AfH)×(Int×Int)}(h:M5 a0 a1=some r):
  Ok prog 80 [No a0,u] w (fun v w'=>Ext w w'/\∃ u0,v=.tuple #[.agg #[No r.1.1,u0],.agg #[No r.2.1,No r.2.2]]/\AI (.pair .st (.vec AfS)) (un H (nw w w')) u0 (r.1.2)):=by
 refine A3 (n:=40) [(0,No a0),(1,u)] func80 rfl fun hL=>Am<|AH PM rfl rfl hL fun w1 b1 bp bv _=>AH AW rfl rfl bp fun w2 b2 bq bw _=>Ac<|Bi 1 rfl<|Ag (AR rfl (fun _=>AbJ _ _)) rfl<|AH PM rfl rfl bq fun w3 b3 br bx _=>Ah 0 rfl PM br rfl (Bc rfl) fun w4 ak bz=>Ac<|Bo (σ:=AfH×Value×(List Value)) (fun⟨t,p,j⟩=>[(4,(Abi b1)),(5,(Abi b2)),(6,(Abi b3))]) (fun⟨t,p,j⟩ wr=>DF w [.row p 192 2 (t).length j,.box b3 [No a0,p] 46,.box b2 [No 0,No 0] 28,.box b1 [No 0,Aa8] 46] wr fun Oz=>AJ (.pair .st (.vec AfS)) (gz H w wr Oz) t j/\(Kg a0) t=some r) ?_ ?_
 ·refine Bi 1 rfl<|Bn rfl rfl ak (Acg _ _ (Ar hH ak) (ag.mono (Aj hH))) ?_;intro b6 b7 a2 a3 y bt;have a4:=a2.mono (Cm hH ak a3);refine Ay h fun c a5 h=>Bn rfl rfl y (YI _ _ (Ar hH y) a4 a5) ?_;rintro ad b8 ⟨_,rfl,al⟩ a6 a7 bu;have d:=al.Cz hH y a6;refine Ag (Bu rfl Ac7 d) rfl<|A4 1 rfl<|A5 ?_;obtain⟨a8,ar,a9⟩:=C0 (.pair .st (.vec AfS)) H 192 a7;obtain⟨am,h⟩:=AZ h;have d:=d.mono (Ab hH ar)
  refine Bx (σ:=AfH×Int×Value×(List Value)×Nat) (fun⟨e,a,g,b,n⟩=>[(1,u),(4,(Abi b1)),(5,(Abi b2)),(6,(Abi b3)),(14,ad),(15,No (c.length:Int)),(16,No a)]) (fun⟨e,a,g,b,n⟩ wr=>DF w [.row g 192 2 (e).length b,.box b3 [No a0,g] 46,.box b2 [No 0,No 0] 28,.box b1 [No 0,Aa8] 46] wr fun Oz=>AI .st (gz H w wr Oz) ad c/\AJ (.pair .st (.vec AfS)) (gz H w wr Oz) e b/\F6 (Jw a0 a1 c) n (e,a)=some r) (fun⟨e,a,g,b,n⟩=>n) (([]:List (Abk×AfN)),0,Aa8,[],am) (Sub.of rfl) ⟨a8,d,a9,h⟩ ?_;rintro⟨e,a,g,b,nn60⟩ b0 ⟨q,f,o,h⟩;obtain⟨am,b9,rfl,h,an⟩:=AY h;refine AD 1 rfl<|A7<|AM rfl h (fun ba h=>?_) (fun ba h=>?_)
  ·refine Av<|Ao<|A7<|A5<|Am<|Az h fun ao h=>Bf rfl rfl Ac7 EZ f a.toNat (EX ao) (Ba ao) rfl ?_;rintro ca _ rfl bb;refine Ag (Bj rfl Ab1 rfl bb (Ar hH q)) rfl<|A4 1 rfl<|Aw<|Ag (Ae rfl Af7 rfl WW) rfl<|Ag (Af 1 rfl Af6 rfl q rfl) rfl<|As 3 rfl<|XJ (k:=c.getD a.toNat default) rfl rfl AeV Adv zeroValue109 ag (hH.trans q.arg) rfl fun cb ap=>Ag (AR rfl (fun _=>WY _ rfl _ ap.one _)) rfl<|Bp (r:=(.pair .st (.vec AfS))) (l:=[(c.getD a.toNat default,(Im [] (c.getD a.toNat default) a1))]) rfl (fun _=>AbQ _ _ _) rfl (leMax 1) hH q (.c2 ⟨_,_,rfl,rfl,⟨_,rfl,(ap.mono (Aj hH))⟩⟩ .nil) fun cc cd b4 bc ae bd=>Az h fun be h=>?_;have o:=o.mono (Ab hH ae);refine Bt (r:=(.pair .st (.vec AfS))) (l:=e) (m:=[(c.getD a.toNat default,(Im [] (c.getD a.toNat default) a1))]) 0 rfl rfl Af6 P5 rfl (by decide) rfl hH bc rfl o bd be fun bs ce bf aq au z=>Ag (Ae rfl Af7 rfl WW) rfl ?_
   refine Bm 1 rfl rfl (row_one (aq.at (i:=0) rfl)) WW aq rfl rfl fun cf bg af=>AK<|AF<|Ao<|Aw<|Az h fun bh h=>Ag (A1 rfl bh) rfl<|As 1 rfl<|AK ?_;have h:=BP.again h an;have f:=f.mono (Ab hH (ae.trans (au.trans af)));have z:=z.mono (Ab hH af);refine AN ((e++[(c.getD a.toNat default,(Im [] (c.getD a.toNat default) a1))]),(a+1),bs,bf,am) (Sub.of rfl) ⟨bg,f,z,h⟩ (Nat.lt_succ_self _)
  refine Br<|AG<|A6 ?_;have h:=BP.out h an;refine Be<|A8 (e,g,b) (Sub.of rfl) ⟨q,o,h⟩
 rintro⟨t,p,j⟩ b5 ⟨bi,x,h⟩;refine Am<|AH Cj rfl rfl bi fun cg ch bj av _=>Bm 0 rfl rfl rfl Cj bj rfl rfl fun ci aa aw=>Ac<|Am<|Ag (AE 2 rfl Af7 rfl PM aa rfl) rfl<|As 1 rfl ?_;have x:=x.mono (Ab hH (av.trans aw));have s:=aa.Cz hH (i:=1) rfl x;have bk:=aa.AQ (i:=1) rfl;refine Ay h fun cj bl h=>DC rfl rfl (NI (a0:=(a0,t)) (a1_c0:=0) (O:=[.box b3 [No a0,p] 46,.box b2 [No 0,No 0] 28,.box b1 [No 0,Aa8] 46]) hH bk s bl) ?_;rintro _ ck ⟨rfl,ab,ax⟩;refine Ac<|A7<|Am<|Ag (Af 0 rfl Abn rfl ab rfl) rfl<|A4 1 rfl<|AM rfl h (fun bm h=>?_) (fun bm h=>?_)
 ·cases h
 refine Av<|Ao<|Am<|Ag (AE 1 rfl Af7 rfl PM ab rfl) rfl<|Ag (AR rfl (fun _=>Cf _)) rfl<|Ah 3 rfl PM ab rfl (AU rfl (AU s.one Hj)) fun cl bn ay=>Ah 2 rfl AW bn rfl (Bc rfl) fun cm ac az=>Ac<|Ax ?_
 cases h
 refine Bz rfl (.cell rfl Af7 rfl PM (AL (i:=3) ac rfl)) (.cell rfl Ack rfl AW (AL (i:=2) ac rfl)) ?_;have s:=s.mono (Ab hH (ax.trans (ay.trans az)));exact⟨ac.ext,_,rfl,(s.mono (B5 hH))⟩
def Kh(a:Int)(b:List (Abk×AfN)):Option ((AfH×Int) ⊕ AfP):=
 AS (B0 (a+1)) (some (Sum.inl (b,(a+1))))
def Jx(c:Int)(b:AfK×(Int×Int)):AfH×Int->Option ((AfH×Int) ⊕ ((AfH×Int) ⊕ AfP)):=fun⟨d,a⟩=>
 if a<(b.1.length:Int) then AS (0<=a/\a<(b.1.length:Int)) (AS (Go.E.J3 16 ((Im [] ((b.1.getD a.toNat default).1) d).length+1)) (AS (B0 (a+1)) (some (Sum.inl ((HC ((b.1.getD a.toNat default).1) ((Im [] ((b.1.getD a.toNat default).1) d)++[(c,a)]) d),(a+1)))))) else Option.map Sum.inr ((Kh c) d)
def Ma(a:Int)(b:AfK×(Int×Int))(s:AfH×Int):Option ((AfH×Int) ⊕ AfP):=Go.L.run (Jx a b) s
def Ki(a0:List Abk)(b:List (Abk×AfN)):Option AfP:=
 Option.bind (M5 (a0.length:Int) b) (fun a=>some ((a.1.1,a.1.2),(a.2.1,a.2.2)))
def Jy(a0:List Abk):AfH×Int->Option ((AfH×Int) ⊕ AfP):=fun⟨c,a⟩=>
 if a<(a0.length:Int) then AS (0<=a/\a<(a0.length:Int)) (Option.bind (M4 (a0.getD a.toNat default)) (fun b=>if b.2.1=0/\b.2.2=0 then(Ma a b) (c,0) else none)) else Option.map Sum.inr ((Ki a0) c)
def Mb(a0:List Abk)(s:AfH×Int):Option AfP:=Go.L.run (Jy a0) s
def M6(a0:List Abk):Option AfP:=
 if 64<(a0.length:Int) then none else(Mb a0) (([]:List (Abk×AfN)),0)
theorem Tj(w:World)(H:PH)(hH:Le H (hp w))(hU:Eg H){a0:List Abk}{m:Value}(ag:AI (.vec .byte) H m a0){r:(Int×AfH)×(Int×Int)}(h:M6 a0=some r):
  Ok prog 47 [m] w (fun v w'=>Ext w w'/\∃ u0,v=.tuple #[.agg #[No r.1.1,u0],.agg #[No r.2.1,No r.2.2]]/\AI (.pair .st (.vec AfS)) (un H (nw w w')) u0 (r.1.2)):=by
 refine A3 (n:=64) [(0,m)] func47 rfl fun hL=>Am<|AH PM rfl rfl hL fun w1 b1 ca cn _=>AH AW rfl rfl ca fun w2 b2 cb co _=>Ac<|A7<|Bi 1 rfl<|Ag (Bu rfl Af0 ag) rfl<|A4 1 rfl<|AM rfl h (fun cc h=>?_) (fun cc h=>?_)
 ·cases h
 refine Av<|Ao<|Am<|Uf encS AfN rfl cb fun w6 b6 cd cp=>A4 1 rfl<|Bo (σ:=AfH×(List Value)) (fun⟨s,vsl130⟩=>[(0,m),(2,(Abi b1)),(3,(Abi b2)),(4,.map (some b6))]) (fun⟨s,vsl130⟩ wr=>DF w (Ha [P4 encS b6 s vsl130,.box b2 [No 0,No 0] 28,.box b1 [No 0,Aa8] 46] (mT Yx 137 2 s vsl130)) wr fun Oz=>(s).length=(vsl130).length/\(Ki a0) s=some r) ?_ ?_
 ·refine Bi 1 rfl<|Ag (Bu rfl Af0 ag) rfl<|A4 1 rfl<|A5 ?_;obtain⟨an,h⟩:=AZ h;refine Bx (σ:=AfH×Int×(List Value)×Nat) (fun⟨o,c,vsl193,n⟩=>[(0,m),(2,(Abi b1)),(3,(Abi b2)),(4,.map (some b6)),(17,m),(18,No (a0.length:Int)),(19,No c)]) (fun⟨o,c,vsl193,n⟩ wr=>DF w (Ha [P4 encS b6 o vsl193,.box b2 [No 0,No 0] 28,.box b1 [No 0,Aa8] 46] (mT Yx 137 2 o vsl193)) wr fun Oz=>(o).length=(vsl193).length/\F6 (Jy a0) n (o,c)=some r) (fun⟨o,c,vsl193,n⟩=>n) (([]:List (Abk×AfN)),0,([]:List Value),an) (Sub.of rfl) ⟨cd,rfl,h⟩ ?_;rintro⟨o,c,vsl193,nn195⟩ ci ⟨aa,al,h⟩;obtain⟨an,a1,rfl,h,ap⟩:=AY h;refine AD 1 rfl<|A7<|AM rfl h (fun bf h=>?_) (fun bf h=>?_)
  ·refine Av<|Ao<|Bo (σ:=AfH×(List Value)) (fun⟨y,vsl253⟩=>[(0,m),(2,(Abi b1)),(3,(Abi b2)),(4,.map (some b6)),(17,m),(18,No (a0.length:Int)),(19,No c)]) (fun⟨y,vsl253⟩ wr=>DF w (Ha [P4 encS b6 y vsl253,.box b2 [No 0,No 0] 28,.box b1 [No 0,Aa8] 46] (mT Yx 137 2 y vsl253)) wr fun Oz=>(y).length=(vsl253).length/\(Kh c) y=some a1) ?_ ?_
   ·refine A5<|Bi 1 rfl<|Az h fun aq h=>Bf rfl rfl Af0 F7 ag c.toNat (EX aq) (Ba aq) rfl ?_;rintro cq _ ⟨e256v0,rfl,e256h0⟩ bg;refine Ag (Bj rfl AbF rfl bg (hH.trans aa.arg)) rfl<|A4 2 rfl<|Bi 1 rfl<|Ay h fun b bh h=>Bn rfl rfl aa (Th _ _ (Ar hH aa) (hU.mono (Aj hH)) (e256h0.mono (Aj hH)) bh) ?_;rintro _ cr ⟨am,rfl,ay⟩ bi bj ce;have t:=ay.Cz hH aa bi;refine As 3 rfl<|AH AW rfl rfl bj fun cs ae bk a2 _=>As 1 rfl<|Ah 0 rfl AW bk rfl (Bc rfl) fun ct ar a3=>Ac<|A7<|Am<|Ag (AE 0 rfl Ack rfl AW ar rfl) rfl<|Ag (AR rfl (fun _=>Cf _)) rfl<|Ag (Lh rfl rfl JF (MY _ _ _ _)) rfl<|Ac<|BV rfl h (fun bl h=>?_) (fun bl h=>?_)
    ·cases h
    refine Av<|Ao<|Bi 1 rfl ?_;have t:=t.mono (Ab hH (a2.trans a3));refine Ag (Bu rfl AcH t) rfl<|A4 1 rfl<|A5 ?_;obtain⟨ao,h⟩:=AZ h;refine Bx (σ:=AfH×Int×(List Value)×Nat) (fun⟨d,a,vsl286,n⟩=>[(0,m),(2,(Abi b1)),(3,(Abi b2)),(4,.map (some b6)),(5,No c),(17,m),(18,No (a0.length:Int)),(19,No c),(37,am),(38,No (b.1.length:Int)),(39,No a)]) (fun⟨d,a,vsl286,n⟩ wr=>DF w (Ha [.box ae [No b.2.1,No b.2.2] 28,P4 encS b6 d vsl286,.box b2 [No 0,No 0] 28,.box b1 [No 0,Aa8] 46] (mT Yx 137 2 d vsl286)) wr fun Oz=>AI (.pair .st AfS) (gz H w wr Oz) am (b.1)/\(d).length=(vsl286).length/\F6 (Jx c b) n (d,a)=some a1) (fun⟨d,a,vsl286,n⟩=>n) (o,0,vsl193,ao) (Sub.of rfl) ⟨ar,t,al,h⟩ ?_;rintro⟨d,a,vsl286,nn288⟩ cj ⟨ah,u,af,h⟩;obtain⟨ao,cu,rfl,h,au⟩:=AY h;refine AD 1 rfl<|A7<|AM rfl h (fun bm h=>?_) (fun bm h=>?_)
    ·refine Av<|Ao<|A7<|A5<|Bi 1 rfl<|Az h fun av h=>Bf rfl rfl AcH LI u a.toNat (EX av) (Ba av) rfl ?_;rintro cv _ ⟨_,_,rfl,rfl,⟨_,_,rfl,rfl,rfl⟩⟩ bn;refine Ag (C9 rfl AcP rfl LI bn (Ar hH ah)) rfl<|AH LI rfl rfl ah fun cw ai bo a4 _=>As 1 rfl<|Ah 0 rfl LI bo rfl (Bc rfl) fun cx aw a5=>Ac ?_
     refine JG (Jb (WM (Se (Jb (Jb (ME (Se (Jb (ME Mo))))))))) (fun z0 z=>Le (gz H w z0 (Ha [.box ai [.string ⟨((b.1.getD a.toNat default).1).toArray⟩,No ((b.1.getD a.toNat default).2.1),No ((b.1.getD a.toNat default).2.2)] 135,.box ae [No b.2.1,No b.2.2] 28,P4 encS b6 d vsl286,.box b2 [No 0,No 0] 28,.box b1 [No 0,Aa8] 46] (mT Yx 137 2 d vsl286))) (hp z)/\z.heap[ai]? = some (.cells [.string ⟨((b.1.getD a.toNat default).1).toArray⟩,No ((b.1.getD a.toNat default).2.1),No ((b.1.getD a.toNat default).2.2)].toArray 135 (0,0))/\z.heap[ae]? = some (.cells [No b.2.1,No b.2.2].toArray 28 (0,0))/\z.heap[b2]? = some (.cells [No 0,No 0].toArray 28 (0,0))/\z.heap[b1]? = some (.cells [No 0,Aa8].toArray 46 (0,0))/\z.heap[b6]? = some (.map (mE encS 0 ((d).map Prod.fst) vsl286).toArray (d).length)) mixed rfl (fun f cz ax=>?_);have j:=aw.call ax;have a6:=AT aw ax;have g:=j.rG H;refine Mp ⟨g.trans (Ar hH j),j.at (i:=0) rfl,j.at (i:=1) rfl,j.at (i:=3) rfl,j.at (i:=4) rfl,j.at (i:=2) rfl⟩ fun kI299=>?_
     refine AB 0 f kI299 (by kernel_rfl) rfl (fun _ _=>Ad rfl) rfl<|AB 1 f kI299 (by kernel_rfl) rfl (fun _ _=>Ae rfl AcP rfl EZ) rfl<|AB 2 f kI299 (by kernel_rfl) rfl (fun _ hI=>Jd rfl Ab1 rfl hI.2.1 rfl) rfl<|AB 3 f kI299 (by kernel_rfl) rfl (fun _ _=>Ad rfl) rfl<|AB 4 f kI299 (by kernel_rfl) rfl (fun _ _=>Ae rfl AcP rfl EZ) rfl<|AB 5 f kI299 (by kernel_rfl) rfl (fun _ hI=>Jd rfl Ab1 rfl hI.2.1 rfl) rfl<|AB 6 f kI299 (by kernel_rfl) rfl (fun _ hI=>AbE (k:=(b.1.getD a.toNat default).1) (enc:=encS) rfl rfl AeV Adv zeroValue109 hI.2.2.2.2.2 (by rw [List.length_map];exact af)) rfl<|AB 7 f kI299 (by kernel_rfl) rfl (fun _ _=>Ad rfl) rfl<|AB 8 f kI299 (by kernel_rfl) rfl (fun _ _=>Ad rfl) rfl<|AB 9 f kI299 (by kernel_rfl) rfl (fun _ _=>AR rfl (fun _=>WX _ _ _)) rfl<|Ef (i:=10) (by kernel_rfl) rfl<|Bp (r:=AfS) (l:=[(c,a)]) rfl (fun _=>ZP _ _ _) rfl (leMax 1) hH j (.c2 ⟨_,_,rfl,rfl,rfl⟩ .nil) ?_;intro c0 c1 ck p a7 bp;have g:=g.trans (Ab hH a7)
     refine AX ⟨g.trans (Ar hH p),p.at (i:=0) rfl,p.at (i:=1) rfl,p.at (i:=3) rfl,p.at (i:=4) rfl,p.at (i:=2) rfl⟩ fun kI301=>Ef (i:=11) (by kernel_rfl) rfl<|Az h fun bq h=>ZD (A:=[.box ai [.string ⟨((b.1.getD a.toNat default).1).toArray⟩,No ((b.1.getD a.toNat default).2.1),No ((b.1.getD a.toNat default).2.2)] 135,.box ae [No b.2.1,No b.2.2] 28,P4 encS b6 d vsl286,.box b2 [No 0,No 0] 28,.box b1 [No 0,Aa8] 46]) (l:=d) (vs:=vsl286) (k:=(b.1.getD a.toNat default).1) (z:=(c,a)) (r:=AfS) (H:=H) ZE rfl rfl rfl Aft Lj rfl (by decide) rfl hH p af bp bq ?_;intro c3 c4 T303 a8 q a9;have g:=g.trans (Ab hH a9);refine AX ⟨g.trans (Ar hH q),q.at (i:=0) rfl,q.at (i:=1) rfl,q.at (i:=3) rfl,q.at (i:=4) rfl,q.at (i:=2) rfl⟩ fun kI305=>Ef (i:=12) (by kernel_rfl) rfl ?_
     refine Adr (A:=[.box ai [.string ⟨((b.1.getD a.toNat default).1).toArray⟩,No ((b.1.getD a.toNat default).2.1),No ((b.1.getD a.toNat default).2.2)] 135,.box ae [No b.2.1,No b.2.2] 28,P4 encS b6 d vsl286,.box b2 [No 0,No 0] 28,.box b1 [No 0,Aa8] 46]) (T:=T303) 2 a8 rfl rfl rfl AeV Adv q rfl fun br c5 bs bt ba=>Fi (by kernel_rfl)<|DB (by kernel_rfl)<|AF<|Ao<|Aw<|Az h fun bu h=>Ag (A1 rfl bu) rfl<|As 1 rfl<|AK ?_;have bv:=bt.AQ (i:=0) rfl;have h:=BP.again h au;have u:=u.mono (Ab hH (a4.trans (a5.trans a6)));have g:=g.trans (Ab hH (ba.trans (Au (i:=0) rfl)));refine AN ((HC ((b.1.getD a.toNat default).1) ((Im [] ((b.1.getD a.toNat default).1) d)++[(c,a)]) d),(a+1),br,ao) (Sub.of rfl) ⟨bv,(u.mono g),bs,h⟩ (Nat.lt_succ_self _)
    refine Br<|AG<|A6 ?_;have h:=BP.out h au;refine Be<|AF ?_;have bw:=ah.AQ (i:=0) rfl;refine A8 (d,vsl286) (Sub.of rfl) ⟨bw,af,h⟩
   rintro⟨y,vsl253⟩ cl ⟨bx,bb,h⟩;refine Aw<|Az h fun bz h=>Ag (A1 rfl bz) rfl<|As 1 rfl<|AK ?_;have h:=BP.again h ap;refine AN (y,(c+1),vsl253,an) (Sub.of rfl) ⟨bx,bb,h⟩ (Nat.lt_succ_self _)
  refine Br<|AG<|A6 ?_;have h:=BP.out h ap;refine Be<|A8 (o,vsl193) (Sub.of rfl) ⟨aa,al,h⟩
 rintro⟨s,vsl130⟩ cm ⟨b0,bc,h⟩;refine Bi 1 rfl<|Ag (Bu rfl Af0 ag) rfl<|As 1 rfl ?_;obtain⟨aj,cf,b3⟩:=XI (A:=[P4 encS b6 s vsl130,.box b2 [No 0,No 0] 28,.box b1 [No 0,Aa8] 46]) (l:=s) (vs:=vsl130) (e:=137) (r:=AfS) 0 rfl ZE hH bc b0 rfl;refine Ay h fun c6 b4 h=>Bn rfl rfl aj (Ti _ _ (Ar hH aj) b3 b4) ?_;rintro _ c7 ⟨cg,rfl,az⟩ b5 b7 ch;have x:=az.mono (Cm hH aj b5);refine As 2 rfl<|Ah 1 rfl PM b7 rfl (AU rfl (AU x.one Hj)) fun c8 b8 bd=>Ah 0 rfl AW b8 rfl (Bc rfl) fun c9 ak be=>Ac<|Ax ?_
 cases h
 refine Bz rfl (.cell rfl Af7 rfl PM (AL (i:=1) ak rfl)) (.cell rfl Ack rfl AW (AL (i:=0) ak rfl)) ?_;have x:=x.mono (Ab hH (bd.trans be));exact⟨ak.ext,_,rfl,(x.mono (B5 hH))⟩
end Go.Proofs.YtekmbcbgknmhiaaGreatDoor
end
noncomputable section
namespace Go.Proofs.YtekmbcbgknmhiaaGreatDoor
open Go Go.E Go.RowKit Go.L
set_option maxHeartbeats 1000000
set_option maxRecDepth 10000
open _root_.Go.Proofs.Tryz
def IQ(a0:Int×AfH)(a1:Abk):Option (AfN×(Int×Int)):=
 Option.bind (Iy a1) (fun a=>if a.1=0/\a.2=0 then Option.bind (IM (a0.1,a0.2) a1) (fun b=>Option.bind (Dv b) (fun c=>some (c,(0,0)))) else none)
theorem Lk(w:World)(H:PH)(hH:Le H (hp w))(hU:Eg H){a0:Int×AfH}{a1:Abk}{b:Value}(p:AI (.pair .st (.vec AfS)) H b (a0.2)){r:AfN×(Int×Int)}(h:IQ a0 a1=some r):
  Ok prog 144 [.agg #[No a0.1,b],Abj a1] w (fun v w'=>Ext w w'/\∃ y,v=.tuple #[y,.agg #[No r.2.1,No r.2.2]]/\BN 137 AfS H w w' y (r.1)):=by
 refine A3 (n:=18) [(0,.agg #[No a0.1,b]),(1,(Abj a1))] func144 rfl fun hL=>Am<|CY (t:=46) rfl rfl rfl hL fun w1 b1 z ah _=>As 1 rfl<|AH AW rfl rfl z fun w2 b2 o ai _=>Ac<|A7<|Bi 1 rfl<|Ay h fun x3 aa h=>AA rfl rfl o (OG _ _ (Ar hH o) (hU.mono (Aj hH)) aa) fun w4 an ab aj=>AH AW rfl rfl ab fun w5 b5 ac ak _=>Ah 0 rfl AW ac rfl (Bc rfl) fun w6 a al=>Ac<|Am<|Ag (AE 0 rfl Ack rfl AW a rfl) rfl<|Ag (AR rfl (fun _=>Cf _)) rfl<|Ag (Lh rfl rfl JF (MY _ _ _ _)) rfl<|Ac<|BV rfl h (fun ad h=>?_) (fun ad h=>?_)
 ·cases h
 refine Av<|Ao<|Am<|Ag (AE 2 rfl Af7 rfl PM a rfl) rfl<|As 1 rfl<|Ay h fun ao q h=>Bn rfl rfl a (Pt (a0:=(a0.1,a0.2)) _ _ (Ar hH a) (p.mono (Aj hH)) q) ?_;rintro ae ap ⟨_,rfl,f⟩ s c af;have g:=f.mono (Cm hH a s);refine Ay h fun aq u h=>Bn rfl rfl c (Ko _ _ (Ar hH c) g u) ?_;rintro ag ar ⟨_,rfl,j⟩ x k l;obtain⟨am,k,l,d⟩:=j.take hH c x;refine Ag (AR rfl (fun _=>Cf _)) rfl<|As 1 rfl<|Ah 2 rfl AW k rfl (Bc rfl) fun au e m=>Ac<|Ax ?_
 cases h
 refine Bz rfl (.tmp rfl) (.cell rfl Ack rfl AW (AL (i:=2) e rfl)) ?_;have d:=d.mono (Ab hH m);exact⟨e.ext,_,rfl,(e.Ge hH (i:=0) rfl d)⟩
end Go.Proofs.YtekmbcbgknmhiaaGreatDoor
end
