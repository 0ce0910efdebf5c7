/- Texts of a claim, merged. -/
import Derived.Test.YtekmbcbgknmhiaaGreatDoorLc2
import Derived.KernelRfl
set_option linter.unusedVariables false
set_option linter.unusedSimpArgs false
open _root_.Go.Proofs.Tryz renaming underlying9->Ab1,underlying23->AbF,underlying58->Abm,underlying3->Abn,underlying5->Ac5,underlying22->Ac7,underlying26->AcF,underlying28->Ack,underlying171->Ad4,underlying205->Ae9,underlying109->Aft,underlying96->Afu,underlying98->Afv,underlying180->Afw,underlying173->Afx,underlying24->Afy
noncomputable section
namespace Go.Proofs.YtekmbcbgknmhiaaGreatDoor
open Go Go.E Go.RowKit Go.L
set_option maxHeartbeats 1000000
set_option maxRecDepth 10000
open _root_.Go.Proofs.Tryz
def HE(a0:Abk)(a:List Int):Option ((List Int)):=
 AS (a=Go.L.iota a0.length/\a0.length<4611686018427387904) (some ((JS a0)))
def IB(a0:Abk):(List Int)×Int->Option (((List Int)×Int) ⊕ ((List Int))):=fun⟨b,a⟩=>
 if a<((List.replicate (a0.length:Int).toNat (0:Int)).length:Int) then AS (0<=a/\a<(b.length:Int)) (AS (B0 (a+1)) (some (Sum.inl ((b.set a.toNat a),(a+1))))) else Option.map Sum.inr ((HE a0) b)
def KV(a0:Abk)(s:(List Int)×Int):Option ((List Int)):=Go.L.run (IB a0) s
def Lu(a0:Abk):Option ((List Int)):=
 AS (0<=(a0.length:Int)/\((8:Nat):Int) * (a0.length:Int)<=281474976710656/\(a0.length:Int)<=9223372036854775807) ((KV a0) ((List.replicate (a0.length:Int).toNat (0:Int)),0))
theorem RG(w:World)(H:PH)(hH:Le H (hp w)){a0:Abk}{f:Value}(k:AI .byte H f a0){r:(List Int)}(h:Lu a0=some r):
  Ok prog 123 [f] w (fun v w'=>Ext w w'/\∃ u0,v=u0/\BN 3 (.int .i64) H w w' u0 r):=by
 refine A3 (n:=22) [(0,f)] func123 rfl fun hL=>Am<|UG (t:=23) rfl k.one rfl hL fun w1 y ab av _=>A4 1 rfl<|Am<|Ag (Af 0 rfl AbF rfl ab rfl) rfl<|Ag (Bu rfl AbF k) rfl<|Az h fun ao h=>UE (r:=(.int .i64)) (z:=0) rfl rfl rfl Abm Cj rfl (fun _=>rfl) rfl hH ab ao fun v2 w2 ap ac aw aq=>A4 1 rfl<|Bo (σ:=(List Int)×(List Value)) (fun⟨g,e⟩=>[(1,(Abi y)),(3,v2)]) (fun⟨g,e⟩ wr=>DF w [.row v2 3 1 (g).length e,.box y [f] 23] wr fun Oz=>AJ (.int .i64) (gz H w wr Oz) g e/\(HE a0) g=some r) ?_ ?_
 ·refine Bi 1 rfl<|Ag (Om (i:=0) rfl Abm ac rfl) rfl<|A4 1 rfl<|A5 ?_;obtain⟨q,h⟩:=AZ h;refine Bx (σ:=(List Int)×Int×(List Value)×Nat) (fun⟨d,b,c,n⟩=>[(1,(Abi y)),(3,v2),(9,No ((List.replicate (a0.length:Int).toNat (0:Int)).length:Int)),(10,No b)]) (fun⟨d,b,c,n⟩ wr=>DF w [.row v2 3 1 (d).length c,.box y [f] 23] wr fun Oz=>AJ (.int .i64) (gz H w wr Oz) d c/\F6 (IB a0) n (d,b)=some r) (fun⟨d,b,c,n⟩=>n) ((List.replicate (a0.length:Int).toNat (0:Int)),0,ap,q) (Sub.of rfl) ⟨ac,aq,h⟩ ?_;rintro⟨d,b,c,nn36⟩ ax ⟨l,o,h⟩;obtain⟨q,a1,rfl,h,s⟩:=AY h;refine AD 1 rfl<|A7<|AM rfl h (fun ad h=>?_) (fun ad h=>?_)
  ·refine Av<|Ao<|A7<|A5<|AD 2 rfl<|Aw<|As 3 rfl<|Az h fun m h=>LB 0 rfl rfl Abm Cj l rfl b.toNat (EX m) (Ba m) rfl fun a2 ae=>LC (z:=b) (j:=b.toNat) 0 rfl rfl rfl Cj hH l rfl o ae rfl (Ba m) rfl fun a3 af ag ar ah=>AK<|AF<|Ao<|Aw<|Az h fun ai h=>Ag (A1 rfl ai) rfl<|As 1 rfl<|AK ?_;have h:=BP.again h s;refine AN ((d.set b.toNat b),(b+1),af,q) (Sub.of rfl) ⟨ag,ah,h⟩ (Nat.lt_succ_self _)
  refine Br<|AG<|A6 ?_;have h:=BP.out h s;refine Be<|A8 (d,c) (Sub.of rfl) ⟨l,o,h⟩
 rintro⟨g,e⟩ ay ⟨u,p,h⟩;refine Bi 2 rfl<|Az h fun aj h=>?_;obtain⟨ak,al⟩:=aj;rw [ak] at u p;refine YC (i:=0) (a:=a0) rfl rfl hH u rfl p (k.mono (Aj hH)) (Aex (i:=1) rfl) al fun a4 az x au am=>Ac<|AD 2 rfl<|Ax ?_
 cases h
 refine Ak rfl ⟨x.ext,_,rfl,(x.Ge hH (i:=0) rfl am)⟩
def Lv(a0:Abk):Option ((List Int)×(Int×Int)):=
 if 2048<(a0.length:Int) then none else Option.bind (Lu a0) (fun a=>some (a,(0,0)))
theorem RH(w:World)(H:PH)(hH:Le H (hp w)){a0:Abk}{a:Value}(b:AI .byte H a a0){r:(List Int)×(Int×Int)}(h:Lv a0=some r):
  Ok prog 74 [a] w (fun v w'=>Ext w w'/\∃ l,v=.tuple #[l,.agg #[No r.2.1,No r.2.2]]/\BN 3 (.int .i64) H w w' l (r.1)):=by
 refine A3 (n:=11) [(0,a)] func74 rfl fun hL=>Bi 1 rfl<|AH AW rfl rfl hL fun u x c q _=>Ac<|A7<|Bi 1 rfl<|Ag (Bu rfl AbF b) rfl<|A4 1 rfl<|AM rfl h (fun m h=>?_) (fun m h=>?_)
 ·cases h
 refine Av<|Ao<|Bi 1 rfl<|Ay h fun y o h=>Bn rfl rfl c (RG _ _ (Ar hH c) (b.mono (Aj hH)) o) ?_;rintro s z ⟨_,rfl,f⟩ p g j;obtain⟨t,g,j,d⟩:=f.take hH c p;refine Ag (AR rfl (fun _=>Cf _)) rfl<|As 1 rfl<|Ah 1 rfl AW g rfl (Bc rfl) fun w7 e k=>Ac<|Ax ?_
 cases h
 refine Bz rfl (.tmp rfl) (.cell rfl Ack rfl AW (AL (i:=1) e rfl)) ?_;have d:=d.mono (Ab hH k);exact⟨e.ext,_,rfl,(e.Ge hH (i:=0) rfl d)⟩
end Go.Proofs.YtekmbcbgknmhiaaGreatDoor
end
noncomputable section
namespace Go
abbrev AfN:=List (Int×Int)
end Go
namespace Go.Proofs.YtekmbcbgknmhiaaGreatDoor
open Go Go.E Go.RowKit Go.L
set_option maxHeartbeats 1000000
set_option maxRecDepth 10000
open _root_.Go.Proofs.Tryz
def KP(a0 a1:Int):Option ((Int×Int)):=
 some ((a0,a1))
theorem O5(w:World)(H:PH)(_hH:Le H (hp w)){a0 a1:Int}{r:(Int×Int)}(h:KP a0 a1=some r):
  Ok prog 78 [No a0,No a1] w (fun v w'=>Ext w w'/\v=.agg #[No r.1,No r.2]):=by
 refine A3 (n:=8) [(0,No a0),(1,No a1)] func78 rfl fun hL=>Am<|AH AW rfl rfl hL fun e f b c _=>Ac<|Bi 2 rfl<|Ag (AR rfl (fun _=>OX _ _ _)) rfl<|Ah 0 rfl AW b rfl (Bc rfl) fun g a d=>Ac<|Ax ?_
 cases h
 refine BH rfl (.cell rfl Ack rfl AW (AL (i:=0) a rfl)) ⟨a.ext,rfl⟩
def D2:Option Int:=
 some ((-1))
def BY(a0:List Int)(a1:Int):Int->Option ((Int) ⊕ (Int)):=fun a=>
 if a<(a0.length:Int) then AS (0<=a/\a<(a0.length:Int)) (if a1=a0.getD a.toNat default then Option.map Sum.inr (some a) else AS (B0 (a+1)) (some (Sum.inl (a+1)))) else Option.map Sum.inr D2
def EE(a0:List Int)(a1 s:Int):Option Int:=Go.L.run (BY a0 a1) s
def E3(a0:List Int)(a1:Int):Option Int:=
 (EE a0 a1) (0:Int)
theorem Nf(w:World)(H:PH)(hH:Le H (hp w)){a0:List Int}{a1:Int}{b:Value}(e:AI (.int .i64) H b a0){r:Int}(h:E3 a0 a1=some r):
  Ok prog 163 [b,No a1] w (fun v w'=>Ext w w'/\v=No r):=by
 refine A3 (n:=19) [(0,b),(1,No a1)] func163 rfl fun hL=>AD 1 rfl<|Bo (σ:=Unit) (fun(_:Unit)=>[]) (fun(_:Unit) wr=>Bd w [] wr/\D2=some r) ?_ ?_
 ·refine Bi 1 rfl<|Ag (Bu rfl Abm e) rfl<|A4 1 rfl<|A5 ?_;obtain⟨f,h⟩:=AZ h;refine Bx (σ:=Int×Nat) (fun⟨a,n⟩=>[(0,b),(1,No a1),(7,No (a0.length:Int)),(8,No a)]) (fun⟨a,n⟩ wr=>Bd w [] wr/\F6 (BY a0 a1) n a=some r) (fun⟨a,n⟩=>n) (0,f) (Sub.of rfl) ⟨hL,h⟩ ?_;rintro⟨a,nn36⟩ o ⟨c,h⟩;obtain⟨f,q,rfl,h,d⟩:=AY h;refine AD 1 rfl<|A7<|AM rfl h (fun i h=>?_) (fun i h=>?_)
  ·refine Av<|Ao<|A7<|A5<|AD 2 rfl<|Bi 3 rfl<|Az h fun g h=>Bf rfl rfl Abm Cj e a.toNat (EX g) (Ba g) rfl ?_;rintro s _ rfl j;refine Ag (Bj rfl Abn rfl j (hH.trans c.arg)) rfl<|A4 1 rfl<|AM rfl h (fun k h=>?_) (fun k h=>?_)
   ·refine AD 2 rfl<|Ax<|Aq<|An<|By ?_;have h:=BP.out h d;refine Aq<|Bs ?_
    cases h
    refine Ak rfl ⟨c.ext,rfl⟩
   refine Av<|AF<|Ao<|Aw<|Az h fun l h=>Ag (A1 rfl l) rfl<|As 1 rfl<|AK ?_;have h:=BP.again h d;refine AN ((a+1),f) (Sub.of rfl) ⟨c,h⟩ (Nat.lt_succ_self _)
  refine Br<|AG<|A6 ?_;have h:=BP.out h d;refine Be<|A8 () (Sub.nil _) ⟨c,h⟩
 rintro _ p ⟨m,h⟩;refine AD 1 rfl<|Ax ?_
 cases h
 refine Ak rfl ⟨m.ext,rfl⟩
def C2(a0:List Int)(a1:Int):Option Bool:=
 Option.bind (E3 a0 a1) (fun a=>some (decide (0<=a)))
theorem Ir(w:World)(H:PH)(hH:Le H (hp w)){a0:List Int}{a1:Int}{a:Value}(b:AI (.int .i64) H a a0){r:Bool}(h:C2 a0 a1=some r):
  Ok prog 108 [a,No a1] w (fun v w'=>Ext w w'/\v=.bool r):=by
 refine A3 (n:=9) [(0,a),(1,No a1)] func108 rfl fun hL=>AD 1 rfl<|Bi 2 rfl<|Ay h fun g c h=>AA rfl rfl hL (Nf _ _ (Ar hH hL) (b.mono (Aj hH)) c) fun i f d e=>A4 2 rfl<|Ax ?_
 cases h
 refine Ak rfl ⟨d.ext,rfl⟩
def DM(a0:Abk):Option Abk:=
 AS (Go.E.J3 1 (([]:Abk).length+a0.length)) (some ((([]:Abk)++a0)))
theorem IV(w:World)(H:PH)(hH:Le H (hp w)){a0:Abk}{a:Value}(b:AI .byte H a a0){r:Abk}(h:DM a0=some r):
  Ok prog 99 [a] w (fun v w'=>Ext w w'/\∃ d,v=d/\BN 5 .byte H w w' d r):=by
 refine A3 (n:=8) [(0,a)] func99 rfl fun hL=>AD 1 rfl<|A7<|Bi 1 rfl ?_
 rcases UH b with ⟨rfl,rfl⟩ | hnn
 ·refine Ag (UI rfl rfl AbF) rfl<|Ac<|Cg rfl<|AD 1 rfl<|Ax ?_;obtain⟨_,h⟩:=EY h;obtain rfl:=Option.some.inj h;refine An<|Ak rfl ⟨hL.ext,_,rfl,UK _ hL hH⟩
 refine Ag (UJ rfl rfl AbF hnn) rfl<|Ac<|Cr rfl<|Av<|Ao<|Am<|Kt (r:=.byte) (l:=([]:Abk)) rfl (fun _=>AbO _) rfl (leMax 0) hH hL .nil fun s t p e k f=>As 1 rfl<|Az h fun g h=>Bt (r:=.byte) (l:=([]:Abk)) (m:=a0) 0 rfl rfl AbF LH rfl (by decide) rfl hH e rfl f (b.mono (Aj hH)) g fun u x q c o j=>A4 1 rfl<|Ax ?_
 cases h
 refine Ak rfl ⟨c.ext,_,rfl,(c.Ge hH (i:=0) rfl j)⟩
def Dv(a0:List (Int×Int)):Option (AfN):=
 AS (Go.E.J3 16 (([]:List (Int×Int)).length+a0.length)) (some ((([]:List (Int×Int))++a0)))
theorem Ko(w:World)(H:PH)(hH:Le H (hp w)){a0:List (Int×Int)}{a:Value}(b:AI AfS H a a0){r:AfN}(h:Dv a0=some r):
  Ok prog 193 [a] w (fun v w'=>Ext w w'/\∃ d,v=d/\BN 137 AfS H w w' d r):=by
 refine A3 (n:=8) [(0,a)] func193 rfl fun hL=>AD 1 rfl<|A7<|Bi 1 rfl ?_
 rcases UH b with ⟨rfl,rfl⟩ | hnn
 ·refine Ag (UI rfl rfl Aft) rfl<|Ac<|Cg rfl<|AD 1 rfl<|Ax ?_;obtain⟨_,h⟩:=EY h;obtain rfl:=Option.some.inj h;refine An<|Ak rfl ⟨hL.ext,_,rfl,UK _ hL hH⟩
 refine Ag (UJ rfl rfl Aft hnn) rfl<|Ac<|Cr rfl<|Av<|Ao<|Am<|Kt (r:=AfS) (l:=([]:List (Int×Int))) rfl (fun _=>ZO _) rfl (leMax 0) hH hL .nil fun s t p e k f=>As 1 rfl<|Az h fun g h=>Bt (r:=AfS) (l:=([]:List (Int×Int))) (m:=a0) 0 rfl rfl Aft Lj rfl (by decide) rfl hH e rfl f (b.mono (Aj hH)) g fun u x q c o j=>A4 1 rfl<|Ax ?_
 cases h
 refine Ak rfl ⟨c.ext,_,rfl,(c.Ge hH (i:=0) rfl j)⟩
def E4(a0:List Int):Option ((List Int)):=
 AS (Go.E.J3 8 (([]:List Int).length+a0.length)) (some ((([]:List Int)++a0)))
theorem Ng(w:World)(H:PH)(hH:Le H (hp w)){a0:List Int}{a:Value}(b:AI (.int .i64) H a a0){r:(List Int)}(h:E4 a0=some r):
  Ok prog 138 [a] w (fun v w'=>Ext w w'/\∃ d,v=d/\BN 3 (.int .i64) H w w' d r):=by
 refine A3 (n:=8) [(0,a)] func138 rfl fun hL=>AD 1 rfl<|A7<|Bi 1 rfl ?_
 rcases UH b with ⟨rfl,rfl⟩ | hnn
 ·refine Ag (UI rfl rfl Abm) rfl<|Ac<|Cg rfl<|AD 1 rfl<|Ax ?_;obtain⟨_,h⟩:=EY h;obtain rfl:=Option.some.inj h;refine An<|Ak rfl ⟨hL.ext,_,rfl,UK _ hL hH⟩
 refine Ag (UJ rfl rfl Abm hnn) rfl<|Ac<|Cr rfl<|Av<|Ao<|Am<|Kt (r:=(.int .i64)) (l:=([]:List Int)) rfl (fun _=>AbS _) rfl (leMax 0) hH hL .nil fun s t p e k f=>As 1 rfl<|Az h fun g h=>Bt (r:=(.int .i64)) (l:=([]:List Int)) (m:=a0) 0 rfl rfl Abm Cj rfl (by decide) rfl hH e rfl f (b.mono (Aj hH)) g fun u x q c o j=>A4 1 rfl<|Ax ?_
 cases h
 refine Ak rfl ⟨c.ext,_,rfl,(c.Ge hH (i:=0) rfl j)⟩
def DN(a0:List Abk):Option ((List Abk)):=
 AS (Go.E.J3 16 (([]:List Abk).length+a0.length)) (some ((([]:List Abk)++a0)))
theorem KQ(w:World)(H:PH)(hH:Le H (hp w)){a0:List Abk}{a:Value}(b:AI .st H a a0){r:(List Abk)}(h:DN a0=some r):
  Ok prog 135 [a] w (fun v w'=>Ext w w'/\∃ d,v=d/\BN 9 .st H w w' d r):=by
 refine A3 (n:=8) [(0,a)] func135 rfl fun hL=>AD 1 rfl<|A7<|Bi 1 rfl ?_
 rcases UH b with ⟨rfl,rfl⟩ | hnn
 ·refine Ag (UI rfl rfl Ac7) rfl<|Ac<|Cg rfl<|AD 1 rfl<|Ax ?_;obtain⟨_,h⟩:=EY h;obtain rfl:=Option.some.inj h;refine An<|Ak rfl ⟨hL.ext,_,rfl,UK _ hL hH⟩
 refine Ag (UJ rfl rfl Ac7 hnn) rfl<|Ac<|Cr rfl<|Av<|Ao<|Am<|Kt (r:=.st) (l:=([]:List Abk)) rfl (fun _=>AbN _) rfl (leMax 0) hH hL .nil fun s t p e k f=>As 1 rfl<|Az h fun g h=>Bt (r:=.st) (l:=([]:List Abk)) (m:=a0) 0 rfl rfl Ac7 EZ rfl (by decide) rfl hH e rfl f (b.mono (Aj hH)) g fun u x q c o j=>A4 1 rfl<|Ax ?_
 cases h
 refine Ak rfl ⟨c.ext,_,rfl,(c.Ge hH (i:=0) rfl j)⟩
def FE(a b:Int):Option Int:=
 AS (0<=((Go.L.u8 a).toNat:Int)/\((Go.L.u8 a).toNat:Int)<(([0,1,2,2,3,3,3,3,4,4,4,4,4,4,4,4,5,5,5,5,5,5,5,5,5,5,5,5,5,5,5,5,6,6,6,6,6,6,6,6,6,6,6,6,6,6,6,6,6,6,6,6,6,6,6,6,6,6,6,6,6,6,6,6,7,7,7,7,7,7,7,7,7,7,7,7,7,7,7,7,7,7,7,7,7,7,7,7,7,7,7,7,7,7,7,7,7,7,7,7,7,7,7,7,7,7,7,7,7,7,7,7,7,7,7,7,7,7,7,7,7,7,7,7,7,7,7,7,8,8,8,8,8,8,8,8,8,8,8,8,8,8,8,8,8,8,8,8,8,8,8,8,8,8,8,8,8,8,8,8,8,8,8,8,8,8,8,8,8,8,8,8,8,8,8,8,8,8,8,8,8,8,8,8,8,8,8,8,8,8,8,8,8,8,8,8,8,8,8,8,8,8,8,8,8,8,8,8,8,8,8,8,8,8,8,8,8,8,8,8,8,8,8,8,8,8,8,8,8,8,8,8,8,8,8,8,8,8,8,8,8,8,8,8,8,8,8,8,8,8,8,8,8,8,8,8]:Abk).length:Int)) (AS (B0 (b+((([0,1,2,2,3,3,3,3,4,4,4,4,4,4,4,4,5,5,5,5,5,5,5,5,5,5,5,5,5,5,5,5,6,6,6,6,6,6,6,6,6,6,6,6,6,6,6,6,6,6,6,6,6,6,6,6,6,6,6,6,6,6,6,6,7,7,7,7,7,7,7,7,7,7,7,7,7,7,7,7,7,7,7,7,7,7,7,7,7,7,7,7,7,7,7,7,7,7,7,7,7,7,7,7,7,7,7,7,7,7,7,7,7,7,7,7,7,7,7,7,7,7,7,7,7,7,7,7,8,8,8,8,8,8,8,8,8,8,8,8,8,8,8,8,8,8,8,8,8,8,8,8,8,8,8,8,8,8,8,8,8,8,8,8,8,8,8,8,8,8,8,8,8,8,8,8,8,8,8,8,8,8,8,8,8,8,8,8,8,8,8,8,8,8,8,8,8,8,8,8,8,8,8,8,8,8,8,8,8,8,8,8,8,8,8,8,8,8,8,8,8,8,8,8,8,8,8,8,8,8,8,8,8,8,8,8,8,8,8,8,8,8,8,8,8,8,8,8,8,8,8,8,8,8,8,8]:Abk).getD ((Go.L.u8 a).toNat:Int).toNat default).toNat:Int))) (some ((b+((([0,1,2,2,3,3,3,3,4,4,4,4,4,4,4,4,5,5,5,5,5,5,5,5,5,5,5,5,5,5,5,5,6,6,6,6,6,6,6,6,6,6,6,6,6,6,6,6,6,6,6,6,6,6,6,6,6,6,6,6,6,6,6,6,7,7,7,7,7,7,7,7,7,7,7,7,7,7,7,7,7,7,7,7,7,7,7,7,7,7,7,7,7,7,7,7,7,7,7,7,7,7,7,7,7,7,7,7,7,7,7,7,7,7,7,7,7,7,7,7,7,7,7,7,7,7,7,7,8,8,8,8,8,8,8,8,8,8,8,8,8,8,8,8,8,8,8,8,8,8,8,8,8,8,8,8,8,8,8,8,8,8,8,8,8,8,8,8,8,8,8,8,8,8,8,8,8,8,8,8,8,8,8,8,8,8,8,8,8,8,8,8,8,8,8,8,8,8,8,8,8,8,8,8,8,8,8,8,8,8,8,8,8,8,8,8,8,8,8,8,8,8,8,8,8,8,8,8,8,8,8,8,8,8,8,8,8,8,8,8,8,8,8,8,8,8,8,8,8,8,8,8,8,8,8,8]:Abk).getD ((Go.L.u8 a).toNat:Int).toNat default).toNat:Int)))))
def FF(a b:Int):Option Int:=
 if 256<=a then AS (B0 (b+8)) (FE (a / 256) (b+8)) else FE a b
def FG(a b:Int):Option Int:=
 if 65536<=a then AS (B0 (b+16)) (FF (a / 65536) (b+16)) else FF a b
def Jn(a0:Int):Option Int:=
 if 4294967296<=a0 then FG (a0 / 4294967296) (32:Int) else FG a0 (0:Int)
theorem PR(w:World)(H:PH)(_hH:Le H (hp w)){a0 r:Int}(h:Jn a0=some r):
  Ok prog 236 [.int .u64 a0] w (fun v w'=>Ext w w'/\v=No r):=by
 refine A3 (n:=25) [(0,.int .u64 a0)] func236 rfl fun hL=>AD 1 rfl<|Bo (σ:=Int×Int) (fun⟨d,e⟩=>[(0,.int .u64 d),(2,No e)]) (fun⟨d,e⟩ wr=>Bd w [] wr/\FG d e=some r) ?_ ?_
 ·refine AD 2 rfl<|AM rfl h (fun u h=>?_) (fun u h=>?_)
  ·refine Bi 1 rfl<|Ag (TZ (c:=32) (m:=4294967296) rfl rfl rfl (by decide)) rfl<|A4 1 rfl<|Aw<|As 1 rfl<|AK<|A8 ((a0 / 4294967296),32) (Sub.of rfl) ⟨hL,h⟩
  refine Av<|A8 (a0,0) (Sub.of rfl) ⟨hL,h⟩
 rintro⟨d,e⟩ z ⟨j,h⟩;refine Bo (σ:=Int×Int) (fun⟨a,b⟩=>[(0,.int .u64 a),(2,No b)]) (fun⟨a,b⟩ wr=>Bd w [] wr/\FF a b=some r) ?_ ?_
 ·refine AD 2 rfl<|AM rfl h (fun k h=>?_) (fun k h=>?_)
  ·refine Bi 1 rfl<|Ag (TZ (c:=16) (m:=65536) rfl rfl rfl (by decide)) rfl<|A4 1 rfl<|Aw<|As 1 rfl<|Az h fun l h=>Ag (A1 rfl l) rfl<|As 1 rfl<|AK<|A8 ((d / 65536),(e+16)) (Sub.of rfl) ⟨j,h⟩
  refine Av<|A8 (d,e) (Sub.of rfl) ⟨j,h⟩
 rintro⟨a,b⟩ x ⟨i,h⟩;refine Bo (σ:=Int×Int) (fun⟨f,g⟩=>[(0,.int .u64 f),(2,No g)]) (fun⟨f,g⟩ wr=>Bd w [] wr/\FE f g=some r) ?_ ?_
 ·refine AD 2 rfl<|AM rfl h (fun o h=>?_) (fun o h=>?_)
  ·refine Bi 1 rfl<|Ag (TZ (c:=8) (m:=256) rfl rfl rfl (by decide)) rfl<|A4 1 rfl<|Aw<|As 1 rfl<|Az h fun p h=>Ag (A1 rfl p) rfl<|As 1 rfl<|AK<|A8 ((a / 256),(b+8)) (Sub.of rfl) ⟨i,h⟩
  refine Av<|A8 (a,b) (Sub.of rfl) ⟨i,h⟩
 rintro⟨f,g⟩ y ⟨q,h⟩;refine Bi 2 rfl<|Ag (DE Ae9 Ac5 rfl (Hm _)) rfl<|Az h fun s h=>Ag (Dz rfl rfl Ab1 s) rfl<|Ag (DE Ac5 Abn rfl (EB _)) rfl<|Az h fun t h=>Ag (A1 rfl t) rfl<|A4 1 rfl<|Ax ?_
 cases h
 refine Ak rfl ⟨q.ext,rfl⟩
def K8(a0:Int):Option Int:=
 Option.bind (Jn a0) (fun a=>some a)
theorem QX(w:World)(H:PH)(hH:Le H (hp w)){a0 r:Int}(h:K8 a0=some r):
  Ok prog 185 [.int .u64 a0] w (fun v w'=>Ext w w'/\v=No r):=by
 refine A3 (n:=8) [(0,.int .u64 a0)] func185 rfl fun hL=>AD 1 rfl<|A7<|Cr rfl<|Av<|Ao<|Bi 1 rfl<|Ay h fun e a h=>AA rfl rfl hL (PR _ _ (Ar hH hL) a) fun f d b c=>A4 1 rfl<|Ax ?_
 cases h
 refine Ak rfl ⟨b.ext,rfl⟩
def JT(a0:Int):Option Int:=
 if a0<1 then none else Option.bind (K8 (IntKind.u64.wrap a0)) (fun a=>AS (B0 (2 * a)) (AS (B0 ((2 * a) - 1)) (some (((2 * a) - 1)))))
theorem Qs(w:World)(H:PH)(hH:Le H (hp w)){a0 r:Int}(h:JT a0=some r):
  Ok prog 134 [No a0] w (fun v w'=>Ext w w'/\v=No r):=by
 refine A3 (n:=10) [(0,No a0)] func134 rfl fun hL=>AD 1 rfl<|A7<|AD 2 rfl<|AM rfl h (fun a h=>?_) (fun a h=>?_)
 ·cases h
 refine Av<|Ao<|Bi 1 rfl<|Ag (DE Abn Ad4 rfl rfl) rfl<|Ay h fun i b h=>AA rfl rfl hL (QX _ _ (Ar hH hL) b) fun j g c f=>Az h fun d h=>Ag (A1 rfl d) rfl<|Az h fun e h=>Ag (A1 rfl e) rfl<|A4 1 rfl<|Ax ?_
 cases h
 refine Ak rfl ⟨c.ext,rfl⟩
end Go.Proofs.YtekmbcbgknmhiaaGreatDoor
end
noncomputable section
namespace Go
abbrev AfJ:=((List Int))×(List Int)×(List Int)
end Go
namespace Go.Proofs.YtekmbcbgknmhiaaGreatDoor
open Go Go.E Go.RowKit Go.L
set_option maxHeartbeats 1000000
set_option maxRecDepth 10000
open _root_.Go.Proofs.Tryz
def Fj(a0:(List Int)):Option Int:=
 some ((max (a0.length:Int) (1:Int)))
theorem Me(w:World)(H:PH)(_hH:Le H (hp w)){a0:(List Int)}{a:Value}(c:AI (.int .i64) H a a0){r:Int}(h:Fj a0=some r):
  Ok prog 97 [.agg #[a]] w (fun v w'=>Ext w w'/\v=No r):=by
 refine A3 (n:=7) [(0,.agg #[a])] func97 rfl fun hL=>Am<|CY (t:=96) rfl rfl rfl hL fun e f b d _=>A4 1 rfl<|Am<|Ag (Ae rfl Afu rfl TE) rfl<|Ag (Af 0 rfl Abm rfl b rfl) rfl<|Ag (Bu rfl Abm c) rfl<|Ag (Aef rfl rfl) rfl<|A4 1 rfl<|Ax ?_
 cases h
 refine Ak rfl ⟨b.ext,rfl⟩
def CN(a0:((List Int))×(List Int)×(List Int)):Option Int:=
 Option.bind (Fj a0.1) (fun a=>AS (B0 (a - 1)) (some ((a - 1))))
theorem EF(w:World)(H:PH)(hH:Le H (hp w)){a0:((List Int))×(List Int)×(List Int)}{a b c:Value}(e:AI (.int .i64) H a (a0.1))(_h0_1:AI (.int .i64) H b (a0.2.1))(_h0_2:AI (.int .i64) H c (a0.2.2)){r:Int}(h:CN a0=some r):
  Ok prog 59 [.agg #[a,b,c]] w (fun v w'=>Ext w w'/\v=No r):=by
 refine A3 (n:=7) [(0,.agg #[a,b,c])] func59 rfl fun hL=>Am<|CY (t:=98) rfl rfl rfl hL fun m o d j _=>A4 1 rfl<|Am<|Ag (Ae rfl Afv rfl Adu) rfl<|Ag (S8 0 1 rfl Afu rfl Adu d rfl rfl) rfl<|Ay h fun p f h=>AA rfl rfl d (Me (a0:=a0.1) _ _ (Ar hH d) (e.mono (Aj hH)) f) fun q l g k=>Az h fun i h=>Ag (A1 rfl i) rfl<|A4 1 rfl<|Ax ?_
 cases h
 refine Ak rfl ⟨g.ext,rfl⟩
def FT(a:Abk):Option Abk:=
 some a
def Fk(a0:((List Int))×(List Int)×(List Int)):Abk×Int×Int->Option ((Abk×Int×Int) ⊕ (Abk)):=fun⟨c,a,b⟩=>
 if 0<=b then AS (0<=a/\a<(a0.1.length:Int)) (AS (0<=b/\b<(c.length:Int)) (AS (0<=a/\a<(a0.2.1.length:Int)) (AS (B0 (b - 1)) (some (Sum.inl ((c.set b.toNat (Go.L.u8 (a0.1.getD a.toNat default))),a0.2.1.getD a.toNat default,(b - 1))))))) else Option.map Sum.inr (FT c)
def HS(a0:((List Int))×(List Int)×(List Int))(s:Abk×Int×Int):Option Abk:=Go.L.run (Fk a0) s
def Hp(a0:((List Int))×(List Int)×(List Int)):Option Abk:=
 Option.bind (CN (a0.1,a0.2.1,a0.2.2)) (fun a=>AS (0<=a/\((1:Nat):Int) * a<=281474976710656/\a<=9223372036854775807) (AS (B0 (((List.replicate a.toNat (0:UInt8)).length:Int) - 1)) ((HS a0) ((List.replicate a.toNat (0:UInt8)),0,(((List.replicate a.toNat (0:UInt8)).length:Int) - 1)))))
theorem NX(w:World)(H:PH)(hH:Le H (hp w)){a0:((List Int))×(List Int)×(List Int)}{f g k:Value}(s:AI (.int .i64) H f (a0.1))(u:AI (.int .i64) H g (a0.2.1))(ah:AI (.int .i64) H k (a0.2.2)){r:Abk}(h:Hp a0=some r):
  Ok prog 100 [.agg #[f,g,k]] w (fun v w'=>Ext w w'/\∃ u0,v=u0/\BN 5 .byte H w w' u0 r):=by
 refine A3 (n:=32) [(0,.agg #[f,g,k])] func100 rfl fun hL=>Am<|CY (t:=98) rfl rfl rfl hL fun w1 b1 x a2 _=>A4 1 rfl<|Am<|Ag (AE 0 rfl Afv rfl Gm x rfl) rfl<|Ay h fun x2 av h=>AA rfl rfl x (EF (a0:=(a0.1,a0.2.1,a0.2.2)) _ _ (Ar hH x) (s.mono (Aj hH)) (u.mono (Aj hH)) (ah.mono (Aj hH)) av) fun w3 a7 aw a3=>Az h fun ax h=>UE (r:=.byte) (z:=(0:UInt8)) rfl rfl rfl AbF LH rfl (fun _=>rfl) rfl hH aw ax fun v4 w4 ay ag a4 az=>A4 1 rfl<|AD 1 rfl<|Bo (σ:=Abk×(List Value)) (fun⟨m,e⟩=>[(3,v4)]) (fun⟨m,e⟩ wr=>DF w [.row v4 5 1 (m).length e,.box b1 [f,g,k] 98] wr fun Oz=>AJ .byte (gz H w wr Oz) m e/\FT m=some r) ?_ ?_
 ·refine Bi 1 rfl<|Ag (Om (i:=0) rfl AbF ag rfl) rfl<|Az h fun aj h=>Ag (A1 rfl aj) rfl<|A4 1 rfl<|A5 ?_;obtain⟨y,h⟩:=AZ h;refine Bx (σ:=Abk×Int×Int×(List Value)×Nat) (fun⟨d,a,b,c,n⟩=>[(1,(Abi b1)),(3,v4),(4,No a),(5,No b)]) (fun⟨d,a,b,c,n⟩ wr=>DF w [.row v4 5 1 (d).length c,.box b1 [f,g,k] 98] wr fun Oz=>AJ .byte (gz H w wr Oz) d c/\F6 (Fk a0) n (d,a,b)=some r) (fun⟨d,a,b,c,n⟩=>n) ((List.replicate x2.toNat (0:UInt8)),0,(((List.replicate x2.toNat (0:UInt8)).length:Int) - 1),ay,y) (Sub.of rfl) ⟨ag,az,h⟩ ?_;rintro⟨d,a,b,c,nn54⟩ a5 ⟨l,q,h⟩;obtain⟨y,a8,rfl,h,aa⟩:=AY h;refine A7<|AD 2 rfl<|AM rfl h (fun ak h=>?_) (fun ak h=>?_)
  ·refine Av<|Ao<|A7<|A5<|Bi 2 rfl<|Ag (Ae rfl Afv rfl Adu) rfl<|Ag (Ae rfl Afu rfl TE) rfl<|Ag (Af 1 rfl Abm rfl l rfl) rfl<|As 1 rfl<|Az h fun ab h=>Bf rfl rfl Abm Cj s a.toNat (EX ab) (Ba ab) rfl ?_;rintro a9 _ rfl al;refine Ag (Bj rfl Abn rfl al (hH.trans l.arg)) rfl<|Ag (DE Abn Ac5 rfl (Hm _)) rfl<|Az h fun o h=>LB 0 rfl rfl AbF LH l rfl b.toNat (EX o) (Ba o) rfl fun ba am=>LC (z:=(Go.L.u8 (a0.1.getD a.toNat default))) (j:=b.toNat) 0 rfl rfl rfl LH hH l rfl q am rfl (Ba o) rfl fun bb an p a1 ao=>Ac<|Aw<|Ag (Ae rfl Afv rfl TE) rfl<|Ag (Af 1 rfl Abm rfl p rfl) rfl<|As 1 rfl<|Az h fun ac h=>Bf rfl rfl Abm Cj u a.toNat (EX ac) (Ba ac) rfl ?_;rintro bc _ rfl ap;refine Ag (Bj rfl Abn rfl ap (hH.trans p.arg)) rfl<|As 1 rfl<|AK<|AF<|Ao<|Aw<|As 1 rfl<|Az h fun aq h=>Ag (A1 rfl aq) rfl ?_
   refine As 1 rfl<|AK ?_;have h:=BP.again h aa;refine AN ((d.set b.toNat (Go.L.u8 (a0.1.getD a.toNat default))),a0.2.1.getD a.toNat default,(b - 1),an,y) (Sub.of rfl) ⟨p,ao,h⟩ (Nat.lt_succ_self _)
  refine Br<|AG<|A6 ?_;have h:=BP.out h aa;refine Be<|A8 (d,c) (Sub.of rfl) ⟨l,q,h⟩
 rintro⟨m,e⟩ a6 ⟨ad,af,h⟩;refine AD 2 rfl<|Ax ?_
 cases h
 refine Ak rfl ⟨ad.ext,_,rfl,(ad.Ge hH (i:=0) rfl af)⟩
def Fl(a:Int)(c:List Int)(b:Int):Option (((List Int)×Int×Int) ⊕ (AfJ×Bool)):=
 AS (B0 (a+1)) (some (Sum.inl (c,b,(a+1))))
def EG(a0:List Int)(c:Int):(List Int)×Int×Int->Option (((List Int)×Int×Int) ⊕ (((List Int)×Int×Int) ⊕ (AfJ×Bool))):=fun⟨d,b,a⟩=>
 if a<(a0.length:Int) then AS (0<=a/\a<(a0.length:Int)) (if a0.getD a.toNat default=c then AS (0<=a/\a<(d.length:Int)) (AS (B0 (b+1)) (AS (B0 (a+1)) (some (Sum.inl ((d.set a.toNat b),(b+1),(a+1)))))) else AS (B0 (a+1)) (some (Sum.inl (d,b,(a+1))))) else Option.map Sum.inr ((Fl c) d b)
def Hq(a0:List Int)(a:Int)(s:(List Int)×Int×Int):Option (((List Int)×Int×Int) ⊕ (AfJ×Bool)):=Go.L.run (EG a0 a) s
def Fm(c:List Int)(d:List Int)(a:Int)(e:List Int)(b:Bool):Option (AfJ×Bool):=
 some ((e,c,(d.set a.toNat (0:Int))),b)
def Fo(a0:List Int)(d:List Int)(c:List Int)(b:List Int)(a:Int):Option (AfJ×Bool):=
 AS (0<=a/\a<(b.length:Int)) (AS (0<=a/\a<(a0.length:Int)) ((Fm c b a) d (decide (a0.getD a.toNat default=(-1)))))
def EH(a0:List Int)(e:List Int)(c:List Int):(List Int)×Int×Int->Option (((List Int)×Int×Int) ⊕ (AfJ×Bool)):=fun⟨d,a,b⟩=>
 if 0<b then AS (0<=a/\a<(d.length:Int)) (AS (0<=a/\a<(a0.length:Int)) (if a0.getD a.toNat default=(-1) then none else AS (0<=a/\a<(c.length:Int)) (AS (B0 (b - 1)) (some (Sum.inl ((d.set a.toNat b),c.getD a.toNat default,(b - 1))))))) else Option.map Sum.inr ((Fo a0 e c) d a)
def Hr(a0:List Int)(b:List Int)(a:List Int)(s:(List Int)×Int×Int):Option (AfJ×Bool):=Go.L.run (EH a0 b a) s
def Fp(a0:List Int)(b:List Int)(c:List Int)(a:List Int):Option (AfJ×Bool):=
 (Hr a0 b a) (c,0,((a0.length:Int) - 1))
def EI(a0:List Int)(d:List Int)(e:List Int):(List Int)×Int×Int->Option (((List Int)×Int×Int) ⊕ (AfJ×Bool)):=fun⟨b,c,a⟩=>
 if a<256 then(Hq a0 a) (b,c,0) else Option.map Sum.inr ((Fp a0 d e) b)
def Hs(a0:List Int)(a:List Int)(b:List Int)(s:(List Int)×Int×Int):Option (AfJ×Bool):=Go.L.run (EI a0 a b) s
def Fq(a0:List Int)(a:List Int)(b:List Int)(c:List Int):Option (AfJ×Bool):=
 (Hs a0 a c) (b,1,0)
def GB(a0:List Int):Option (AfJ×Bool):=
 AS (B0 ((a0.length:Int) - 1)) (AS (B0 (((a0.length:Int) - 1)+1)) (AS (B0 (((a0.length:Int) - 1)+1)) (AS (0<=(((a0.length:Int) - 1)+1)/\((8:Nat):Int) * (((a0.length:Int) - 1)+1)<=281474976710656/\(((a0.length:Int) - 1)+1)<=9223372036854775807) (AS (0<=(((a0.length:Int) - 1)+1)/\((8:Nat):Int) * (((a0.length:Int) - 1)+1)<=281474976710656/\(((a0.length:Int) - 1)+1)<=9223372036854775807) ((Fq a0) a0 (List.replicate (((a0.length:Int) - 1)+1).toNat (0:Int)) (List.replicate (((a0.length:Int) - 1)+1).toNat (0:Int)))))))
theorem N8(w:World)(H:PH)(hH:Le H (hp w)){a0:List Int}{c:Value}(m:AI (.int .i64) H c a0){r:AfJ×Bool}(h:GB a0=some r):
  Ok prog 76 [c] w (fun v w'=>Ext w w'/\∃ u0 u1 u2,v=.tuple #[.agg #[u0,u1,u2],.bool r.2]/\AI (.int .i64) (un H (nw w w')) u0 (r.1.1)/\BN 3 (.int .i64) H w w' u1 (r.1.2.1)/\BN 3 (.int .i64) H w w' u2 (r.1.2.2)):=by
 refine A3 (n:=77) [(0,c)] func76 rfl fun hL=>Am<|AH Gm rfl rfl hL fun w1 b1 f9 gu _=>A4 1 rfl<|Bi 1 rfl<|Ag (Bu rfl Abm m) rfl<|Az h fun ga h=>Ag (A1 rfl ga) rfl<|A4 1 rfl<|Bo (σ:=(List Int)×(List Int)×(List Int)×Nat×Value×Value×(List Value)×Value×(List Value)) (fun⟨ab,bf,ac,bjb43,d,e,ay,f,p⟩=>[(0,c),(2,(Abi b1)),(4,No ((a0.length:Int) - 1)),(5,(Abi bjb43))]) (fun⟨ab,bf,ac,bjb43,d,e,ay,f,p⟩ wr=>DF w [.box bjb43 [d,e,f] 98,.row f 3 1 (ac).length p,.row e 3 1 (bf).length ay,.box b1 [Aa8,Aa8,Aa8] 98] wr fun Oz=>AI (.int .i64) (gz H w wr Oz) d ab/\AJ (.int .i64) (gz H w wr Oz) ac p/\AJ (.int .i64) (gz H w wr Oz) bf ay/\(Fq a0) ab bf ac=some r) ?_ ?_
 ·refine PI (.q 0 (.q 1 (.q 2 (.q 3 (.q 5 (.q 6 (.h3 4 (.h2 7 (.q 8 (.h 9 (.tail 10))) 9 (.h 7 (.q 8 (.tail 10)))) 7 (.h2 4 (.q 8 (.h 9 (.tail 10))) 9 (.h 4 (.q 8 (.tail 10)))) 9 (.h2 4 (.h 7 (.q 8 (.tail 10))) 7 (.h 4 (.q 8 (.tail 10))))))))))) mixed (by kernel_rfl) (fun he fw=>?_);have b4:=f9.call fw;refine Df 1 rfl<|BQ (AR rfl (fun _=>AbM _ m.one _)) rfl rfl<|Df 1 rfl<|Az h fun fx h=>BQ (A1 rfl fx) rfl rfl<|Df 1 rfl<|Az h fun fy h=>BQ (A1 rfl fy) rfl rfl<|AeD ?_ ?_ ?_
  ·refine Az h fun ax h=>K4 (r:=(.int .i64)) (z:=0) rfl rfl rfl rfl Abm Cj rfl (fun _=>rfl) rfl hH b4 ax fun cp hf b5 dl gi a6=>VI ?_ ?_
   ·refine Az h fun ao h=>K4 (r:=(.int .i64)) (z:=0) rfl rfl rfl rfl Abm Cj rfl (fun _=>rfl) rfl hH dl ao fun gb hg fz b6 ev b7=>BQ (AR rfl (fun _=>JE _ _ (row_one (b6.at (i:=1) rfl)) _ (row_one (b6.at (i:=0) rfl)) _)) rfl rfl<|Ny rfl Gm rfl rfl b6 fun hh gc dm cq=>Cd (fun hi dn=>?_);have b8:=dm.call dn;have cr:=AT dm dn;refine Ah 0 rfl Gm b8 rfl (AU m.one (AU (row_one (b8.at (i:=2) rfl)) (AU (row_one (b8.at (i:=1) rfl)) Hj))) fun hj f0 cs=>AK ?_;have a6:=a6.mono (Ab hH (ev.trans (cq.trans (cr.trans cs))));have b7:=b7.mono (Ab hH (cq.trans (cr.trans cs)));refine A8 (a0,(List.replicate (((a0.length:Int) - 1)+1).toNat (0:Int)),(List.replicate (((a0.length:Int) - 1)+1).toNat (0:Int)),gc,c,cp,b5,gb,fz) (Sub.of rfl) ⟨f0,(m.mono (Aj hH)),b7,a6,h⟩
   refine Az h fun ao h=>Ny rfl Gm rfl rfl dl fun hk ft f1 ew=>K4 (r:=(.int .i64)) (z:=0) rfl rfl rfl rfl Abm Cj rfl (fun _=>rfl) rfl hH f1 ao fun dp hl dq bj ex b9=>BQ (AR rfl (fun _=>JE _ _ (row_one (bj.at (i:=2) rfl)) _ (row_one (bj.at (i:=0) rfl)) _)) rfl rfl<|Cd (fun hm dr=>?_);have ca:=bj.call dr;have ct:=AT bj dr;refine Ah 1 rfl Gm ca rfl (AU m.one (AU (row_one (ca.at (i:=2) rfl)) (AU (row_one (ca.at (i:=0) rfl)) Hj))) fun gd ds cu=>AK ?_;have dt:Bd w [.box ft [c,cp,dp] 98,.row dp 3 1 ((List.replicate (((a0.length:Int) - 1)+1).toNat (0:Int))).length dq,.row cp 3 1 ((List.replicate (((a0.length:Int) - 1)+1).toNat (0:Int))).length b5,.box b1 [Aa8,Aa8,Aa8] 98] gd:=ds.CC [1] rfl;have cv:=BC [1] ds dt rfl;have a6:=a6.mono (Ab hH (ew.trans (ex.trans (ct.trans (cu.trans cv)))));have b9:=b9.mono (Ab hH (ct.trans (cu.trans cv)))
   refine A8 (a0,(List.replicate (((a0.length:Int) - 1)+1).toNat (0:Int)),(List.replicate (((a0.length:Int) - 1)+1).toNat (0:Int)),ft,c,cp,b5,dp,dq) (Sub.of rfl) ⟨dt,(m.mono (Aj hH)),b9,a6,h⟩
  ·refine Az h fun ax h=>Az h fun ao h=>K4 (r:=(.int .i64)) (z:=0) rfl rfl rfl rfl Abm Cj rfl (fun _=>rfl) rfl hH b4 ao fun bg hn bk du gj a7=>VI ?_ ?_
   ·refine K4 (r:=(.int .i64)) (z:=0) rfl rfl rfl rfl Abm Cj rfl (fun _=>rfl) rfl hH du ax fun dv ho dw cb ey cc=>BQ (AR rfl (fun _=>JE _ _ (row_one (cb.at (i:=0) rfl)) _ (row_one (cb.at (i:=1) rfl)) _)) rfl rfl<|Ny rfl Gm rfl rfl cb fun hq fu dx cw=>Cd (fun hr dy=>?_);have cd:=dx.call dy;have cx:=AT dx dy;refine Ah 0 rfl Gm cd rfl (AU m.one (AU (row_one (cd.at (i:=1) rfl)) (AU (row_one (cd.at (i:=2) rfl)) Hj))) fun ge dz cy=>AK ?_;have d0:Bd w [.box fu [c,dv,bg] 98,.row bg 3 1 ((List.replicate (((a0.length:Int) - 1)+1).toNat (0:Int))).length bk,.row dv 3 1 ((List.replicate (((a0.length:Int) - 1)+1).toNat (0:Int))).length dw,.box b1 [Aa8,Aa8,Aa8] 98] ge:=dz.CC [2,1] rfl;have cz:=BC [2,1] dz d0 rfl;have a7:=a7.mono (Ab hH (ey.trans (cw.trans (cx.trans (cy.trans cz)))));have cc:=cc.mono (Ab hH (cw.trans (cx.trans (cy.trans cz))));refine A8 (a0,(List.replicate (((a0.length:Int) - 1)+1).toNat (0:Int)),(List.replicate (((a0.length:Int) - 1)+1).toNat (0:Int)),fu,c,dv,dw,bg,bk) (Sub.of rfl) ⟨d0,(m.mono (Aj hH)),a7,cc,h⟩
   refine Ny rfl Gm rfl rfl du fun hs fv f2 ez=>K4 (r:=(.int .i64)) (z:=0) rfl rfl rfl rfl Abm Cj rfl (fun _=>rfl) rfl hH f2 ax fun d1 ht d2 bl e0 ce=>BQ (AR rfl (fun _=>JE _ _ (row_one (bl.at (i:=0) rfl)) _ (row_one (bl.at (i:=2) rfl)) _)) rfl rfl<|Cd (fun hu d3=>?_);have cf:=bl.call d3;have c0:=AT bl d3;refine Ah 1 rfl Gm cf rfl (AU m.one (AU (row_one (cf.at (i:=0) rfl)) (AU (row_one (cf.at (i:=2) rfl)) Hj))) fun gf d4 c1=>AK ?_;have d5:Bd w [.box fv [c,d1,bg] 98,.row bg 3 1 ((List.replicate (((a0.length:Int) - 1)+1).toNat (0:Int))).length bk,.row d1 3 1 ((List.replicate (((a0.length:Int) - 1)+1).toNat (0:Int))).length d2,.box b1 [Aa8,Aa8,Aa8] 98] gf:=d4.CC [2,2] rfl;have c2:=BC [2,2] d4 d5 rfl;have a7:=a7.mono (Ab hH (ez.trans (e0.trans (c0.trans (c1.trans c2)))));have ce:=ce.mono (Ab hH (c0.trans (c1.trans c2)));refine A8 (a0,(List.replicate (((a0.length:Int) - 1)+1).toNat (0:Int)),(List.replicate (((a0.length:Int) - 1)+1).toNat (0:Int)),fv,c,d1,d2,bg,bk) (Sub.of rfl) ⟨d5,(m.mono (Aj hH)),a7,ce,h⟩
  refine Az h fun ax h=>Az h fun ao h=>Ny rfl Gm rfl rfl b4 fun hv c3 d6 gk=>VI ?_ ?_
  ·refine K4 (r:=(.int .i64)) (z:=0) rfl rfl rfl rfl Abm Cj rfl (fun _=>rfl) rfl hH d6 ax fun d7 hw d8 f3 gl cg=>K4 (r:=(.int .i64)) (z:=0) rfl rfl rfl rfl Abm Cj rfl (fun _=>rfl) rfl hH f3 ao fun d9 hx ea bm e1 ch=>BQ (AR rfl (fun _=>JE _ _ (row_one (bm.at (i:=1) rfl)) _ (row_one (bm.at (i:=0) rfl)) _)) rfl rfl<|Cd (fun hy eb=>?_);have ci:=bm.call eb;have c4:=AT bm eb;refine Ah 2 rfl Gm ci rfl (AU m.one (AU (row_one (ci.at (i:=1) rfl)) (AU (row_one (ci.at (i:=0) rfl)) Hj))) fun gg ec c5=>AK ?_;have ed:Bd w [.box c3 [c,d7,d9] 98,.row d9 3 1 ((List.replicate (((a0.length:Int) - 1)+1).toNat (0:Int))).length ea,.row d7 3 1 ((List.replicate (((a0.length:Int) - 1)+1).toNat (0:Int))).length d8,.box b1 [Aa8,Aa8,Aa8] 98] gg:=ec.CC [2] rfl;have c6:=BC [2] ec ed rfl;have cg:=cg.mono (Ab hH (e1.trans (c4.trans (c5.trans c6))));have ch:=ch.mono (Ab hH (c4.trans (c5.trans c6)))
   refine A8 (a0,(List.replicate (((a0.length:Int) - 1)+1).toNat (0:Int)),(List.replicate (((a0.length:Int) - 1)+1).toNat (0:Int)),c3,c,d7,d8,d9,ea) (Sub.of rfl) ⟨ed,(m.mono (Aj hH)),ch,cg,h⟩
  refine K4 (r:=(.int .i64)) (z:=0) rfl rfl rfl rfl Abm Cj rfl (fun _=>rfl) rfl hH d6 ao fun ee hz ef f4 gm cj=>K4 (r:=(.int .i64)) (z:=0) rfl rfl rfl rfl Abm Cj rfl (fun _=>rfl) rfl hH f4 ax fun eg h0 eh bn e2 ck=>BQ (AR rfl (fun _=>JE _ _ (row_one (bn.at (i:=0) rfl)) _ (row_one (bn.at (i:=1) rfl)) _)) rfl rfl<|Cd (fun h1 ei=>?_);have cl:=bn.call ei;have c7:=AT bn ei;refine Ah 2 rfl Gm cl rfl (AU m.one (AU (row_one (cl.at (i:=0) rfl)) (AU (row_one (cl.at (i:=1) rfl)) Hj))) fun gh ej c8=>AK ?_;have ek:Bd w [.box c3 [c,eg,ee] 98,.row ee 3 1 ((List.replicate (((a0.length:Int) - 1)+1).toNat (0:Int))).length ef,.row eg 3 1 ((List.replicate (((a0.length:Int) - 1)+1).toNat (0:Int))).length eh,.box b1 [Aa8,Aa8,Aa8] 98] gh:=ej.CC [1,2] rfl;have c9:=BC [1,2] ej ek rfl;have cj:=cj.mono (Ab hH (e2.trans (c7.trans (c8.trans c9))));have ck:=ck.mono (Ab hH (c7.trans (c8.trans c9)))
  refine A8 (a0,(List.replicate (((a0.length:Int) - 1)+1).toNat (0:Int)),(List.replicate (((a0.length:Int) - 1)+1).toNat (0:Int)),c3,c,eg,eh,ee,ef) (Sub.of rfl) ⟨ek,(m.mono (Aj hH)),cj,ck,h⟩
 rintro⟨ab,bf,ac,bjb43,d,e,ay,f,p⟩ gv ⟨el,e3,e4,e5,h⟩;have cm:=el.rG H;refine AD 1 rfl<|Bo (σ:=(List Int)×(List Value)) (fun⟨t,o⟩=>[(0,c),(2,(Abi b1)),(4,No ((a0.length:Int) - 1)),(5,(Abi bjb43))]) (fun⟨t,o⟩ wr=>DF w [.box bjb43 [d,e,f] 98,.row f 3 1 (ac).length p,.row e 3 1 (t).length o,.box b1 [Aa8,Aa8,Aa8] 98] wr fun Oz=>AI (.int .i64) (gz H w wr Oz) d ab/\AJ (.int .i64) (gz H w wr Oz) ac p/\AJ (.int .i64) (gz H w wr Oz) t o/\(Fp a0 ab ac) t=some r) ?_ ?_
 ·refine AD 1 rfl<|A5 ?_;obtain⟨cn,h⟩:=AZ h;refine Bx (σ:=(List Int)×Int×Int×(List Value)×Nat) (fun⟨ap,aj,k,ag,n⟩=>[(0,c),(2,(Abi b1)),(4,No ((a0.length:Int) - 1)),(5,(Abi bjb43)),(6,No aj),(24,No k)]) (fun⟨ap,aj,k,ag,n⟩ wr=>DF w [.box bjb43 [d,e,f] 98,.row f 3 1 (ac).length p,.row e 3 1 (ap).length ag,.box b1 [Aa8,Aa8,Aa8] 98] wr fun Oz=>AI (.int .i64) (gz H w wr Oz) d ab/\AJ (.int .i64) (gz H w wr Oz) ac p/\AJ (.int .i64) (gz H w wr Oz) ap ag/\F6 (EI a0 ab ac) n (ap,aj,k)=some r) (fun⟨ap,aj,k,ag,n⟩=>n) (bf,1,0,ay,cn) (Sub.of rfl) ⟨el,(e3.mono cm),(e4.mono cm),(e5.mono cm),h⟩ ?_;rintro⟨ap,aj,k,ag,nn237⟩ gn ⟨bo,bh,he237_j47,b0,h⟩;obtain⟨cn,em,rfl,h,da⟩:=AY h;have av:=bo.rG H;refine AD 1 rfl<|A7<|AM rfl h (fun e6 h=>?_) (fun e6 h=>?_)
  ·refine Av<|Ao<|Bo (σ:=(List Int)×Int×(List Value)) (fun⟨a8,aq,ar⟩=>[(0,c),(2,(Abi b1)),(4,No ((a0.length:Int) - 1)),(5,(Abi bjb43)),(6,No aq),(24,No k)]) (fun⟨a8,aq,ar⟩ wr=>DF w [.box bjb43 [d,e,f] 98,.row f 3 1 (ac).length p,.row e 3 1 (a8).length ar,.box b1 [Aa8,Aa8,Aa8] 98] wr fun Oz=>AI (.int .i64) (gz H w wr Oz) d ab/\AJ (.int .i64) (gz H w wr Oz) ac p/\AJ (.int .i64) (gz H w wr Oz) a8 ar/\(Fl k) a8 aq=some em) ?_ ?_
   ·refine A5<|AD 2 rfl<|Bi 1 rfl<|Ag (Bu rfl Abm m) rfl<|A4 1 rfl<|A5 ?_;obtain⟨bp,h⟩:=AZ h;refine Bx (σ:=(List Int)×Int×Int×(List Value)×Nat) (fun⟨al,u,l,ah,n⟩=>[(0,c),(2,(Abi b1)),(4,No ((a0.length:Int) - 1)),(5,(Abi bjb43)),(6,No u),(7,No k),(24,No k),(27,c),(28,No (a0.length:Int)),(29,No l)]) (fun⟨al,u,l,ah,n⟩ wr=>DF w [.box bjb43 [d,e,f] 98,.row f 3 1 (ac).length p,.row e 3 1 (al).length ah,.box b1 [Aa8,Aa8,Aa8] 98] wr fun Oz=>AI (.int .i64) (gz H w wr Oz) d ab/\AJ (.int .i64) (gz H w wr Oz) ac p/\AJ (.int .i64) (gz H w wr Oz) al ah/\F6 (EG a0 k) n (al,u,l)=some em) (fun⟨al,u,l,ah,n⟩=>n) (ap,aj,0,ag,bp) (Sub.of rfl) ⟨bo,(bh.mono av),(he237_j47.mono av),(b0.mono av),h⟩ ?_;rintro⟨al,u,l,ah,nn299⟩ go ⟨am,a9,he299_j47,be,h⟩;obtain⟨bp,gw,rfl,h,bq⟩:=AY h;have y:=am.rG H;refine AD 1 rfl<|A7<|AM rfl h (fun e7 h=>?_) (fun e7 h=>?_)
    ·refine Av<|Ao<|A7<|A5<|Bi 1 rfl<|Az h fun db h=>Bf rfl rfl Abm Cj m l.toNat (EX db) (Ba db) rfl ?_;rintro gx _ rfl e8;refine Ag (Bj rfl Abn rfl e8 (hH.trans am.arg)) rfl<|A4 2 rfl<|AD 3 rfl<|AM rfl h (fun e9 h=>?_) (fun e9 h=>?_)
     ·refine Am<|Ag (Ae rfl Afv rfl TE) rfl<|Ag (Af 0 rfl Abm rfl am rfl) rfl<|As 2 rfl<|Az h fun br h=>LB 2 rfl rfl Abm Cj am rfl l.toNat (EX br) (Ba br) rfl fun gy fa=>LC (z:=u) (j:=l.toNat) 2 rfl rfl rfl Cj hH am rfl (be.mono y) fa rfl (Ba br) rfl fun g0 fb fc en fd=>Ac<|Aw<|As 1 rfl<|Az h fun fe h=>Ag (A1 rfl fe) rfl<|As 1 rfl<|AK<|AF<|Ao<|Aw<|Az h fun ff h=>Ag (A1 rfl ff) rfl<|As 1 rfl<|AK ?_;have h:=BP.again h bq;have y:=y.trans (Ab hH en);refine AN ((al.set l.toNat u),(u+1),(l+1),fb,bp) (Sub.of rfl) ⟨fc,(a9.mono y),(he299_j47.mono y),fd,h⟩ (Nat.lt_succ_self _)
     refine Av<|AF<|Ao<|Aw<|Az h fun fg h=>Ag (A1 rfl fg) rfl<|As 1 rfl<|AK ?_;have h:=BP.again h bq;refine AN (al,u,(l+1),ah,bp) (Sub.of rfl) ⟨am,(a9.mono y),(he299_j47.mono y),(be.mono y),h⟩ (Nat.lt_succ_self _)
    refine Br<|AG<|A6 ?_;have h:=BP.out h bq;refine Be<|AF<|A8 (al,u,ah) (Sub.of rfl) ⟨am,(a9.mono y),(he299_j47.mono y),(be.mono y),h⟩
   rintro⟨a8,aq,ar⟩ gp ⟨dc,dj,he279_j47,eo,h⟩;have bs:=dc.rG H;refine Aw<|Az h fun fh h=>Ag (A1 rfl fh) rfl<|As 1 rfl<|AK ?_;have h:=BP.again h da;refine AN (a8,aq,(k+1),ar,cn) (Sub.of rfl) ⟨dc,(dj.mono bs),(he279_j47.mono bs),(eo.mono bs),h⟩ (Nat.lt_succ_self _)
  refine Br<|AG<|A6 ?_;have h:=BP.out h da;refine Be<|A8 (ap,ag) (Sub.of rfl) ⟨bo,(bh.mono av),(he237_j47.mono av),(b0.mono av),h⟩
 rintro⟨t,o⟩ gq ⟨dd,dk,he189_j47,ep,h⟩;have bt:=dd.rG H;refine AD 1 rfl<|Bo (σ:=(List Int)×Int×(List Value)) (fun⟨an,a,az⟩=>[(0,c),(2,(Abi b1)),(5,(Abi bjb43)),(10,No a)]) (fun⟨an,a,az⟩ wr=>DF w [.box bjb43 [d,e,f] 98,.row f 3 1 (an).length az,.row e 3 1 (t).length o,.box b1 [Aa8,Aa8,Aa8] 98] wr fun Oz=>AI (.int .i64) (gz H w wr Oz) d ab/\AJ (.int .i64) (gz H w wr Oz) an az/\AJ (.int .i64) (gz H w wr Oz) t o/\(Fo a0 ab t) an a=some r) ?_ ?_
 ·refine AD 2 rfl<|A5 ?_;obtain⟨co,h⟩:=AZ h;refine Bx (σ:=(List Int)×Int×Int×(List Value)×Nat) (fun⟨au,g,x,ak,n⟩=>[(0,c),(2,(Abi b1)),(5,(Abi bjb43)),(10,No g),(11,No x)]) (fun⟨au,g,x,ak,n⟩ wr=>DF w [.box bjb43 [d,e,f] 98,.row f 3 1 (au).length ak,.row e 3 1 (t).length o,.box b1 [Aa8,Aa8,Aa8] 98] wr fun Oz=>AI (.int .i64) (gz H w wr Oz) d ab/\AJ (.int .i64) (gz H w wr Oz) au ak/\AJ (.int .i64) (gz H w wr Oz) t o/\F6 (EH a0 ab t) n (au,g,x)=some r) (fun⟨au,g,x,ak,n⟩=>n) (ac,0,((a0.length:Int) - 1),p,co) (Sub.of rfl) ⟨dd,(dk.mono bt),(he189_j47.mono bt),(ep.mono bt),h⟩ ?_;rintro⟨au,g,x,ak,nn379⟩ gr ⟨a1,bi,b2,he379_j45,h⟩;obtain⟨co,g1,rfl,h,de⟩:=AY h;refine A7 ?_;have ad:=a1.rG H;refine AD 2 rfl<|AM rfl h (fun fi h=>?_) (fun fi h=>?_)
  ·refine Av<|Ao<|A7<|A5<|Am<|Ag (Ae rfl Afv rfl TE) rfl<|Ag (Af 0 rfl Abm rfl a1 rfl) rfl<|As 2 rfl<|Az h fun bu h=>LB 1 rfl rfl Abm Cj a1 rfl g.toNat (EX bu) (Ba bu) rfl fun g2 fj=>LC (z:=x) (j:=g.toNat) 1 rfl rfl rfl Cj hH a1 rfl (b2.mono ad) fj rfl (Ba bu) rfl fun g3 fk ba eq fl=>Ac<|A7<|Bi 2 rfl<|Az h fun df h=>Bf rfl rfl Abm Cj m g.toNat (EX df) (Ba df) rfl ?_;rintro g4 _ rfl fm;refine Ag (Bj rfl Abn rfl fm (hH.trans ba.arg)) rfl<|A4 1 rfl<|AM rfl h (fun fn h=>?_) (fun fn h=>?_)
   ·cases h
   refine Av<|Ao<|Aw<|Ag (Ae rfl Afv rfl TE) rfl<|Ag (Af 0 rfl Abm rfl ba rfl) rfl<|As 1 rfl<|Az h fun dg h=>?_;have ad:=ad.trans (Ab hH eq);refine Bf rfl rfl Abm Cj (ba.UD hH (i:=2) rfl (he379_j45.mono ad)) g.toNat (EX dg) (Ba dg) rfl ?_;rintro g5 _ rfl fo;refine Ag (Bj rfl Abn rfl fo (Le.refl _)) rfl<|As 1 rfl<|AK<|AF<|Ao<|Aw<|As 1 rfl<|Az h fun fp h=>Ag (A1 rfl fp) rfl<|As 1 rfl<|AK ?_;have h:=BP.again h de;refine AN ((au.set g.toNat x),t.getD g.toNat default,(x - 1),fk,co) (Sub.of rfl) ⟨ba,(bi.mono ad),fl,(he379_j45.mono ad),h⟩ (Nat.lt_succ_self _)
  refine Br<|AG<|A6 ?_;have h:=BP.out h de;refine Be<|A8 (au,g,ak) (Sub.of rfl) ⟨a1,(bi.mono ad),(b2.mono ad),(he379_j45.mono ad),h⟩
 rintro⟨an,a,az⟩ gs ⟨bb,af,er,he359_j45,h⟩;have s:=bb.rG H;refine Am<|Ag (Ae rfl Afv rfl TE) rfl<|Ag (Af 0 rfl Abm rfl bb rfl) rfl<|As 1 rfl<|Az h fun bv h=>LB 1 rfl rfl Abm Cj bb rfl a.toNat (EX bv) (Ba bv) rfl fun g6 fq=>LC (z:=0) (j:=a.toNat) 1 rfl rfl rfl Cj hH bb rfl (er.mono s) fq rfl (Ba bv) rfl fun g7 bw dh b3 aw=>Ac<|Bo (σ:=(List Int)×Bool×Value) (fun⟨bx,a2,bc⟩=>[(2,(Abi b1)),(3,.bool a2)]) (fun⟨bx,a2,bc⟩ wr=>DF w [.box bjb43 [d,e,f] 98,.row f 3 1 ((an.set a.toNat (0:Int))).length bw,.row e 3 1 (t).length o,.box b1 [bc,e,f] 98] wr fun Oz=>AI (.int .i64) (gz H w wr Oz) d ab/\AJ (.int .i64) (gz H w wr Oz) ((an.set a.toNat (0:Int))) bw/\AJ (.int .i64) (gz H w wr Oz) t o/\AI (.int .i64) (gz H w wr Oz) bc bx/\(Fm t an a) bx a2=some r) ?_ ?_
 ·refine JG (ME Mo) (fun z0 z=>Le (gz H w z0 [.box bjb43 [d,e,f] 98,.row f 3 1 ((an.set a.toNat (0:Int))).length bw,.row e 3 1 (t).length o,.box b1 [Aa8,Aa8,Aa8] 98]) (hp z)/\z.heap[bjb43]? = some (.cells [d,e,f].toArray 98 (0,0))) mixed rfl (fun ae g9 di=>?_);have aa:=dh.call di;have a3:=AT dh di;have b:=aa.rG H;refine Mp ⟨b.trans (Ar hH aa),aa.at (i:=0) rfl⟩ fun kI422=>AB 0 ae kI422 (by kernel_rfl) rfl (fun _ hI=>MX rfl Afv rfl Gm hI.2) rfl<|AB 1 ae kI422 (by kernel_rfl) rfl (fun _ _=>Ad rfl) rfl<|AB 2 ae kI422 (by kernel_rfl) rfl (fun _ _=>Ad rfl) rfl<|Zd (i:=3) (j:=6) (by kernel_rfl) rfl rfl ?_ ?_
  ·refine Az h fun a4 h=>Bf rfl rfl Abm Cj m a.toNat (EX a4) (Ba a4) rfl ?_;rintro ha _ rfl fr;refine AX ⟨b.trans (Ar hH aa),aa.at (i:=0) rfl⟩ fun kI425=>AB 4 ae kI425 (by kernel_rfl) rfl (fun _ hI=>Bj rfl Abn rfl (fr.mono (Aj hH)) hI.1) rfl<|AB 5 ae kI425 (by kernel_rfl) rfl (fun _ _=>Ad rfl) rfl<|Ef (i:=6) (by kernel_rfl) rfl ?_;have s:=s.trans (Ab hH (b3.trans a3));refine Ah 3 rfl Gm aa rfl (AU ((af.mono s).mono b).one (AU (row_one (aa.at (i:=2) rfl)) (AU (row_one (aa.at (i:=1) rfl)) Hj))) ?_;intro hb bz es;have b:=b.trans (Ab hH es);refine AX ⟨b.trans (Ar hH bz),bz.at (i:=0) rfl⟩ fun kI427=>AB 7 ae kI427 (by kernel_rfl) rfl (fun _ _=>Ad rfl) rfl<|DB (by kernel_rfl) ?_;have aw:=aw.mono (Ab hH a3);refine A8 (ab,decide (a0.getD a.toNat default=(-1)),d) (Sub.of rfl) ⟨bz,((af.mono s).mono b),(aw.mono b),((he359_j45.mono s).mono b),((af.mono s).mono b),h⟩
  refine Az h fun a4 h=>?_;have s:=s.trans (Ab hH (b3.trans a3));refine Ah 3 rfl Gm aa rfl (AU ((af.mono s).mono b).one (AU (row_one (aa.at (i:=2) rfl)) (AU (row_one (aa.at (i:=1) rfl)) Hj))) ?_;intro hc a5 et;have b:=b.trans (Ab hH et);refine AX ⟨b.trans (Ar hH a5),a5.at (i:=0) rfl⟩ fun kI429=>Ef (i:=3) (by kernel_rfl) rfl<|Bf rfl rfl Abm Cj m a.toNat (EX a4) (Ba a4) rfl ?_;rintro hd _ rfl fs;refine AX ⟨b.trans (Ar hH a5),a5.at (i:=0) rfl⟩ fun kI431=>AB 4 ae kI431 (by kernel_rfl) rfl (fun _ hI=>Bj rfl Abn rfl (fs.mono (Aj hH)) hI.1) rfl<|AB 5 ae kI431 (by kernel_rfl) rfl (fun _ _=>Ad rfl) rfl<|AB 7 ae kI431 (by kernel_rfl) rfl (fun _ _=>Ad rfl) rfl<|DB (by kernel_rfl) ?_;have aw:=aw.mono (Ab hH a3);refine A8 (ab,decide (a0.getD a.toNat default=(-1)),d) (Sub.of rfl) ⟨a5,((af.mono s).mono b),(aw.mono b),((he359_j45.mono s).mono b),((af.mono s).mono b),h⟩
 rintro⟨bx,a2,bc⟩ gt ⟨bd,f5,he417_j47,he417_j45,eu,h⟩;refine Ax ?_
 cases h
 refine Bz rfl (.cell rfl Afv rfl Gm (AL (i:=3) bd rfl)) (.tmp rfl) ⟨bd.ext,_,_,_,rfl,(eu.mono (B5 hH)),(bd.Ge hH (i:=2) rfl he417_j45),(bd.Ge hH (i:=1) rfl he417_j47)⟩
def FU(a0:((List Int))×(List Int)×(List Int))(a1 a2:Int):Option (Abk×(Int×Int)):=
 if a1<0 then none else Option.bind (CN (a0.1,a0.2.1,a0.2.2)) (fun d=>if d<a1 then none else(if a2<a1 then none else Option.bind (CN (a0.1,a0.2.1,a0.2.2)) (fun b=>if b<a2 then none else Option.bind (Hp (a0.1,a0.2.1,a0.2.2)) (fun a=>AS (0<=a1/\a1<=a2/\a2<=(a.length:Int)) (Option.bind (DM ((a.drop a1.toNat).take (a2.toNat - a1.toNat))) (fun c=>some (c,(0,0))))))))
theorem MK(w:World)(H:PH)(hH:Le H (hp w)){a0:((List Int))×(List Int)×(List Int)}{a1 a2:Int}{d e f:Value}(g:AI (.int .i64) H d (a0.1))(j:AI (.int .i64) H e (a0.2.1))(k:AI (.int .i64) H f (a0.2.2)){r:Abk×(Int×Int)}(h:FU a0 a1 a2=some r):
  Ok prog 60 [.agg #[d,e,f],No a1,No a2] w (fun v w'=>Ext w w'/\∃ u0,v=.tuple #[u0,.agg #[No r.2.1,No r.2.2]]/\BN 5 .byte H w w' u0 (r.1)):=by
 refine A3 (n:=34) [(0,.agg #[d,e,f]),(1,No a1),(2,No a2)] func60 rfl fun hL=>Am<|CY (t:=98) rfl rfl rfl hL fun w1 b1 al au _=>As 1 rfl<|AH AW rfl rfl al fun w2 b2 p av _=>Ac<|A7<|Bi 3 rfl<|AP (s:=10) rfl (fun b=>?_) (fun b=>?_)
 ·have h:=BI (of_decide_eq_true b) h
  iterate 4 refine Ai rfl b rfl ?_
  refine Ag (A2 rfl b rfl) rfl<|Ac<|Cg rfl ?_
  cases h
 have h:=BJ (of_decide_eq_false b) h;refine Aa rfl b<|Ag (Ad rfl) rfl<|Aa rfl b<|Ag (AE 1 rfl Afv rfl Gm p rfl) rfl<|Aa rfl b<|Ay h fun x6 am h=>AA rfl rfl p (EF (a0:=(a0.1,a0.2.1,a0.2.2)) _ _ (Ar hH p) (g.mono (Aj hH)) (j.mono (Aj hH)) (k.mono (Aj hH)) am) fun w7 az q aw=>Aa rfl b<|Ag (Ad rfl) rfl<|Ag (A9 rfl b rfl) rfl<|Ac<|AM rfl h (fun an h=>?_) (fun an h=>?_)
 ·cases h
 refine Av<|Ao<|A7<|Bi 4 rfl<|AP (s:=20) rfl (fun a=>?_) (fun a=>?_)
 ·have h:=BI (of_decide_eq_true a) h
  iterate 4 refine Ai rfl a rfl ?_
  refine Ag (A2 rfl a rfl) rfl<|Ac<|Cg rfl ?_
  cases h
 have h:=BJ (of_decide_eq_false a) h;refine Aa rfl a<|Ag (Ad rfl) rfl<|Aa rfl a<|Ag (AE 1 rfl Afv rfl Gm q rfl) rfl<|Aa rfl a<|Ay h fun a3 ac h=>AA rfl rfl q (EF (a0:=(a0.1,a0.2.1,a0.2.2)) _ _ (Ar hH q) (g.mono (Aj hH)) (j.mono (Aj hH)) (k.mono (Aj hH)) ac) fun a4 ax c ao=>Aa rfl a<|Ag (Ad rfl) rfl<|Ag (A9 rfl a rfl) rfl<|Ac<|AM rfl h (fun ad h=>?_) (fun ad h=>?_)
 ·cases h
 refine Av<|Ao<|Am<|Ag (AE 1 rfl Afv rfl Gm c rfl) rfl<|Ay h fun a5 ae h=>Bn rfl rfl c (NX (a0:=(a0.1,a0.2.1,a0.2.2)) _ _ (Ar hH c) (g.mono (Aj hH)) (j.mono (Aj hH)) (k.mono (Aj hH)) ae) ?_;rintro ap a6 ⟨_,rfl,u⟩ af l aq;have x:=u.Cz hH c af;refine As 2 rfl<|Az h fun ag h=>Zv rfl rfl rfl AbF LH x ag rfl fun a7 ah=>Ay h fun a8 ai h=>Bn rfl rfl l (IV _ _ (Ar hH l) ah ai) ?_;rintro ar a9 ⟨_,rfl,y⟩ aj z aa;obtain⟨ay,z,aa,m⟩:=y.take hH l aj;refine Ag (AR rfl (fun _=>Cf _)) rfl<|As 1 rfl<|Ah 1 rfl AW z rfl (Bc rfl) fun ba o ab=>Ac<|Ax ?_
 cases h
 refine Bz rfl (.tmp rfl) (.cell rfl Ack rfl AW (AL (i:=1) o rfl)) ?_;have m:=m.mono (Ab hH ab);exact⟨o.ext,_,rfl,(o.Ge hH (i:=0) rfl m)⟩
def Fs(a1:Int):Option ((List Int)):=
 AS (B0 (0 - 0)) (AS (B0 (a1 - (0 - 0))) (if 0<(a1 - (0 - 0)) then AS (0<(a1 - (0 - 0))/\(a1 - (0 - 0)) * 8<=281474976710656) (some (([]:List Int))) else some ([])))
def GC(_a0:List Int)(a1:Int):Option ((List Int)):=
 if a1<0 then none else(Fs a1)
theorem N9(w:World)(H:PH)(hH:Le H (hp w)){a0:List Int}{a1:Int}(_:AI (.int .i64) H Aa8 a0){r:(List Int)}(h:GC a0 a1=some r):
  Ok prog 124 [Aa8,No a1] w (fun v w'=>Ext w w'/\∃ x,v=x/\BN 3 (.int .i64) H w w' x r):=by
 refine A3 (n:=27) [(0,Aa8),(1,No a1)] func124 rfl fun hL=>AD 1 rfl<|Bo (σ:=Unit) (fun(_:Unit)=>[(0,Aa8),(1,No a1)]) (fun(_:Unit) wr=>Bd w [] wr/\(Fs a1)=some r) ?_ ?_
 ·refine AD 2 rfl<|AM rfl h (fun y h=>?_) (fun y h=>?_)
  ·refine Aw ?_
   cases h
  refine Av<|A8 () (Sub.of rfl) ⟨hL,h⟩
 rintro _ ac ⟨d,h⟩;refine A7<|Bi 2 rfl<|Ag (X9 rfl Abm) rfl<|As 1 rfl<|Ag (S1 rfl Abm) rfl<|Az h fun g h=>Ag (A1 rfl g) rfl<|Az h fun j h=>Ag (A1 rfl j) rfl<|A4 1 rfl<|AD 2 rfl<|AM rfl h (fun l h=>?_) (fun l h=>?_)
 ·refine Aw<|As 2 rfl<|Ag (X9 rfl Abm) rfl<|Ag (S9 rfl rfl Abm Cj) rfl<|As 1 rfl<|Az h fun ab h=>?_;obtain⟨z,o⟩:=Int.eq_ofNat_of_zero_le (show 0<=(a1 - (0 - 0)) by omega);refine XA (k:=.i64) (m:=z) rfl (by rw [<- o];rfl) Abm Abn Cj rfl rfl (by omega) (by omega) (by omega) fun f a c ad p q s t u=>As 1 rfl<|Ag (S1 rfl Abm) rfl<|Ag (Zx rfl rfl Abm Cj) rfl ?_;obtain⟨b,aa⟩:=Lm (v:=.slice (some ⟨f,0,none⟩) 0 a) (e:=3) (sz:=1) (m:=0) (xs:=[]) d p ⟨rfl,.inr ⟨f,a,c,rfl,q,s,Nat.zero_le _,t,by rw [u,Nat.mul_one],rfl⟩⟩;refine As 1 rfl<|AK<|Ao<|AD 2 rfl<|Ax ?_
  cases h
  refine Ak rfl ⟨b.ext,_,rfl,(b.Ge hH (i:=0) rfl .nil)⟩
 refine Av<|Ao<|AD 2 rfl<|Ax ?_
 cases h
 refine Ak rfl ⟨d.ext,_,rfl,BN.nil⟩
def Er(a:List Int):Option ((List Int)):=
 some a
def Ed(a0:List (List Int)):(List Int)×Int->Option (((List Int)×Int) ⊕ ((List Int))):=fun⟨b,a⟩=>
 if a<(a0.length:Int) then AS (0<=a/\a<(a0.length:Int)) (AS (Go.E.J3 8 (b.length+(a0.getD a.toNat default).length)) (AS (B0 (a+1)) (some (Sum.inl ((b++a0.getD a.toNat default),(a+1)))))) else Option.map Sum.inr (Er b)
def G6(a0:List (List Int))(s:(List Int)×Int):Option ((List Int)):=Go.L.run (Ed a0) s
def Es(a0:List (List Int))(a:Int):Option ((List Int)):=
 Option.bind (GC ([]) a) (fun b=>(G6 a0) (b,0))
def Ee(a0:List (List Int)):Int×Int->Option ((Int×Int) ⊕ ((List Int))):=fun⟨b,a⟩=>
 if a<(a0.length:Int) then AS (0<=a/\a<(a0.length:Int)) (AS (B0 (b+((a0.getD a.toNat default).length:Int))) (if(b+((a0.getD a.toNat default).length:Int))<0 then none else AS (B0 (a+1)) (some (Sum.inl ((b+((a0.getD a.toNat default).length:Int)),(a+1)))))) else Option.map Sum.inr ((Es a0) b)
def G7(a0:List (List Int))(s:Int×Int):Option ((List Int)):=Go.L.run (Ee a0) s
def FV(a0:List (List Int)):Option ((List Int)):=
 (G7 a0) (0,0)
theorem ML(w:World)(H:PH)(hH:Le H (hp w)){a0:List (List Int)}{e:Value}(o:AI (.vec (.int .i64)) H e a0){r:(List Int)}(h:FV a0=some r):
  Ok prog 75 [e] w (fun v w'=>Ext w w'/\∃ u0,v=u0/\BN 3 (.int .i64) H w w' u0 r):=by
 refine A3 (n:=36) [(0,e)] func75 rfl fun hL=>AD 1 rfl<|AD 1 rfl<|Bo (σ:=Int) (fun j=>[(0,e),(3,No j)]) (fun j wr=>Bd w [] wr/\(Es a0) j=some r) ?_ ?_
 ·refine Bi 1 rfl<|Ag (Bu rfl Afw o) rfl<|A4 1 rfl<|A5 ?_;obtain⟨y,h⟩:=AZ h;refine Bx (σ:=Int×Int×Nat) (fun⟨c,b,n⟩=>[(0,e),(3,No c),(9,e),(10,No (a0.length:Int)),(11,No b)]) (fun⟨c,b,n⟩ wr=>Bd w [] wr/\F6 (Ee a0) n (c,b)=some r) (fun⟨c,b,n⟩=>n) (0,0,y) (Sub.of rfl) ⟨hL,h⟩ ?_;rintro⟨c,b,nn42⟩ a7 ⟨s,h⟩;obtain⟨y,bb,rfl,h,z⟩:=AY h;refine AD 1 rfl<|A7<|AM rfl h (fun al h=>?_) (fun al h=>?_)
  ·refine Av<|Ao<|A7<|A5<|Am<|Az h fun aa h=>Bf rfl rfl Afw TE o b.toNat (EX aa) (Ba aa) rfl ?_;rintro bc _ ⟨e46v0,rfl,e46h0⟩ am;refine Ag (Bj rfl Abm rfl am (hH.trans s.arg)) rfl<|A4 1 rfl<|Bi 2 rfl<|Ag (Bu rfl Abm e46h0) rfl<|Az h fun an h=>Ag (A1 rfl an) rfl<|A4 1 rfl<|AD 2 rfl<|AM rfl h (fun ao h=>?_) (fun ao h=>?_)
   ·refine Aw ?_
    cases h
   refine Av<|AF<|Ao<|Aw<|Az h fun ap h=>Ag (A1 rfl ap) rfl<|As 1 rfl<|AK ?_;have h:=BP.again h z;refine AN ((c+((a0.getD b.toNat default).length:Int)),(b+1),y) (Sub.of rfl) ⟨s,h⟩ (Nat.lt_succ_self _)
  refine Br<|AG<|A6 ?_;have h:=BP.out h z;refine Be<|A8 c (Sub.of rfl) ⟨s,h⟩
 rintro j a8 ⟨t,h⟩;refine Bi 1 rfl<|Ay h fun a4 aq h=>Bn rfl rfl t (N9 _ _ (Ar hH t) (AI.nil _ _) aq) ?_;rintro ah bd ⟨_,rfl,ab⟩ ar ac ai;obtain⟨au,ac,ai,av⟩:=ab.take hH t ar;refine A4 1 rfl<|Bo (σ:=(List Int)×Value×(List Value)) (fun⟨q,p,k⟩=>[(6,p)]) (fun⟨q,p,k⟩ wr=>DF w [.row p 3 1 (q).length k] wr fun Oz=>AJ (.int .i64) (gz H w wr Oz) q k/\Er q=some r) ?_ ?_
 ·refine Bi 1 rfl<|Ag (Bu rfl Afw o) rfl<|A4 1 rfl<|A5 ?_;obtain⟨ad,h⟩:=AZ h;refine Bx (σ:=(List Int)×Int×Value×(List Value)×Nat) (fun⟨f,a,g,d,n⟩=>[(6,g),(25,e),(26,No (a0.length:Int)),(27,No a)]) (fun⟨f,a,g,d,n⟩ wr=>DF w [.row g 3 1 (f).length d] wr fun Oz=>AJ (.int .i64) (gz H w wr Oz) f d/\F6 (Ed a0) n (f,a)=some r) (fun⟨f,a,g,d,n⟩=>n) (a4,0,ah,au,ad) (Sub.of rfl) ⟨ac,av,h⟩ ?_;rintro⟨f,a,g,d,nn92⟩ a9 ⟨u,x,h⟩;obtain⟨ad,be,rfl,h,ae⟩:=AY h;refine AD 1 rfl<|A7<|AM rfl h (fun aw h=>?_) (fun aw h=>?_)
  ·refine Av<|Ao<|A7<|A5<|Am<|Az h fun af h=>Bf rfl rfl Afw TE o a.toNat (EX af) (Ba af) rfl ?_;rintro bf _ ⟨e96v0,rfl,e96h0⟩ ax;refine Ag (Bj rfl Abm rfl ax (hH.trans u.arg)) rfl<|A4 1 rfl<|Aw<|As 2 rfl<|Az h fun ay h=>Bt (r:=(.int .i64)) (l:=f) (m:=a0.getD a.toNat default) 0 rfl rfl Abm Cj rfl (by decide) rfl hH u rfl x (e96h0.mono (Aj hH)) ay fun a5 bg az a1 a6 a2=>As 1 rfl<|AK<|AF<|Ao<|Aw<|Az h fun aj h=>Ag (A1 rfl aj) rfl<|As 1 rfl<|AK ?_;have h:=BP.again h ae;refine AN ((f++a0.getD a.toNat default),(a+1),a5,az,ad) (Sub.of rfl) ⟨a1,a2,h⟩ (Nat.lt_succ_self _)
  refine Br<|AG<|A6 ?_;have h:=BP.out h ae;refine Be<|A8 (f,g,d) (Sub.of rfl) ⟨u,x,h⟩
 rintro⟨q,p,k⟩ ba ⟨ag,ak,h⟩;refine AD 2 rfl<|Ax ?_
 cases h
 refine Ak rfl ⟨ag.ext,_,rfl,(ag.Ge hH (i:=0) rfl ak)⟩
def IC(b:List Int):Option (AfJ×(Int×Int)):=
 Option.bind (GB b) (fun a=>some ((a.1.1,a.1.2.1,a.1.2.2),(0,0)))
def Ia(a0:Abk)(b:(List Int)):(List Int)×Int->Option (((List Int)×Int) ⊕ (AfJ×(Int×Int))):=fun⟨c,a⟩=>
 if a<(b.length:Int) then AS (0<=a/\a<(b.length:Int)) (if b.getD a.toNat default=0 then AS (Go.E.J3 8 (c.length+([(-1)]).length)) (AS (B0 (a+1)) (some (Sum.inl ((c++[(-1)]),(a+1))))) else AS (B0 (b.getD a.toNat default - 1)) (AS (0<=(b.getD a.toNat default - 1)/\(b.getD a.toNat default - 1)<(a0.length:Int)) (AS (Go.E.J3 8 (c.length+([((a0.getD ((b.getD a.toNat default - 1).toNat) default).toNat:Int)]).length)) (AS (B0 (a+1)) (some (Sum.inl ((c++[((a0.getD ((b.getD a.toNat default - 1).toNat) default).toNat:Int)]),(a+1)))))))) else Option.map Sum.inr (IC c)
def Kw(a0:Abk)(a:(List Int))(s:(List Int)×Int):Option (AfJ×(Int×Int)):=Go.L.run (Ia a0 a) s
def K9(a0:Abk):Option (AfJ×(Int×Int)):=
 Option.bind (Lv a0) (fun a=>if a.2.1=0/\a.2.2=0 then AS (B0 ((a0.length:Int)+1)) (AS (0<=((a0.length:Int)+1)/\((8:Nat):Int) * ((a0.length:Int)+1)<=281474976710656/\((a0.length:Int)+1)<=9223372036854775807) (Option.bind (FV ([[(a0.length:Int)],a.1])) (fun b=>(Kw a0 b) (([]:List Int),0)))) else none)
theorem QY(w:World)(H:PH)(hH:Le H (hp w)){a0:Abk}{z:Value}(aa:AI .byte H z a0){r:AfJ×(Int×Int)}(h:K9 a0=some r):
  Ok prog 45 [z] w (fun v w'=>Ext w w'/\∃ u0 u1 u2,v=.tuple #[.agg #[u0,u1,u2],.agg #[No r.2.1,No r.2.2]]/\AI (.int .i64) (un H (nw w w')) u0 (r.1.1)/\AI (.int .i64) (un H (nw w w')) u1 (r.1.2.1)/\AI (.int .i64) (un H (nw w w')) u2 (r.1.2.2)):=by
 refine A3 (n:=58) [(0,z)] func45 rfl fun hL=>Am<|AH Gm rfl rfl hL fun w1 b1 cl cz _=>AH AW rfl rfl cl fun w2 b2 av c0 _=>Ac<|Bi 1 rfl<|Ay h fun x3 cm h=>Bn rfl rfl av (RH _ _ (Ar hH av) (aa.mono (Aj hH)) cm) ?_;rintro _ w4 ⟨c2,rfl,a7⟩ cn co c3;have q:=a7.Cz hH av cn;refine As 3 rfl<|AH AW rfl rfl co fun w5 b5 cq bu _=>As 1 rfl<|Ah 0 rfl AW cq rfl (Bc rfl) fun w6 bt bv=>Ac<|A7<|Am<|Ag (AE 0 rfl Ack rfl AW bt rfl) rfl<|Ag (AR rfl (fun _=>Cf _)) rfl<|Ag (Lh rfl rfl JF (MY _ _ _ _)) rfl<|Ac<|BV rfl h (fun cr h=>?_) (fun cr h=>?_)
 ·cases h
 refine Av<|Ao<|Bi 1 rfl<|Ag (Bu rfl AbF aa) rfl<|Az h fun bw h=>Ag (A1 rfl bw) rfl<|Az h fun bx h=>Ab4 (H:=H) (r:=(.int .i64)) rfl rfl Abm Cj rfl bt bx fun cs dk bz b0 a8 ai=>A4 1 rfl<|Bo (σ:=(List Int)×Value×(List Value)) (fun⟨af,ab,s⟩=>[(2,(Abi b1)),(3,(Abi b2)),(6,ab)]) (fun⟨af,ab,s⟩ wr=>DF w [.row ab 3 1 (af).length s,.box b5 [No x3.2.1,No x3.2.2] 28,.box b2 [No 0,No 0] 28,.box b1 [Aa8,Aa8,Aa8] 98] wr fun Oz=>AJ (.int .i64) (gz H w wr Oz) af s/\IC af=some r) ?_ ?_
 ·refine Bi 1 rfl<|Ag (Bu rfl AbF aa) rfl<|Bp (r:=(.int .i64)) (l:=[(a0.length:Int)]) rfl (fun _=>I7 _ _) rfl (leMax 1) hH b0 (.c1 rfl .nil) fun dl dm c4 b3 al ax=>As 1 rfl ?_;have q:=q.mono (Ab hH (bu.trans (bv.trans (a8.trans al))));refine Bp (r:=(.vec (.int .i64))) (l:=[[(a0.length:Int)],x3.1]) rfl (fun _=>ZQ _ ax.one _ q.one _) rfl (leMax 2) hH b3 (.c1 ⟨_,rfl,ax⟩ (.c1 ⟨_,rfl,q⟩ .nil)) fun dn dp c5 aj a9 b4=>Ay h fun t b6 h=>Bn rfl rfl aj (ML _ _ (Ar hH aj) b4 b6) ?_;rintro am dq ⟨_,rfl,ay⟩ b7 b8 ba;have ag:=ay.Cz hH aj b7;refine Ag (Bu rfl Abm ag) rfl<|A4 1 rfl<|A5 ?_;obtain⟨an,h⟩:=AZ h;have ai:=ai.mono (Ab hH (al.trans (a9.trans ba)))
  refine Bx (σ:=(List Int)×Int×Value×(List Value)×Nat) (fun⟨j,a,p,k,n⟩=>[(0,z),(2,(Abi b1)),(3,(Abi b2)),(6,p),(30,am),(31,No (t.length:Int)),(32,No a)]) (fun⟨j,a,p,k,n⟩ wr=>DF w [.row p 3 1 (j).length k,.box b5 [No x3.2.1,No x3.2.2] 28,.box b2 [No 0,No 0] 28,.box b1 [Aa8,Aa8,Aa8] 98] wr fun Oz=>AI (.int .i64) (gz H w wr Oz) am t/\AJ (.int .i64) (gz H w wr Oz) j k/\F6 (Ia a0 t) n (j,a)=some r) (fun⟨j,a,p,k,n⟩=>n) (([]:List Int),0,cs,bz,an) (Sub.of rfl) ⟨b8,ag,ai,h⟩ ?_;rintro⟨j,a,p,k,nn90⟩ c6 ⟨u,b,g,h⟩;obtain⟨an,dr,rfl,h,ak⟩:=AY h;refine AD 1 rfl<|A7<|AM rfl h (fun b9 h=>?_) (fun b9 h=>?_)
  ·refine Av<|Ao<|A7<|A5<|Am<|Az h fun az h=>Bf rfl rfl Abm Cj b a.toNat (EX az) (Ba az) rfl ?_;rintro ds _ rfl ca;refine Ag (Bj rfl Abn rfl ca (Ar hH u)) rfl<|A4 1 rfl<|AD 2 rfl<|AM rfl h (fun cb h=>?_) (fun cb h=>?_)
   ·refine Aw<|As 1 rfl<|Bp (r:=(.int .i64)) (l:=[(-1)]) rfl (fun _=>I7 _ _) rfl (leMax 1) hH u (.c1 rfl .nil) fun dt du c7 cc ao cd=>Az h fun bb h=>?_;have g:=g.mono (Ab hH ao);refine Bt (r:=(.int .i64)) (l:=j) (m:=[(-1)]) 0 rfl rfl Abm Cj rfl (by decide) rfl hH cc rfl g cd bb fun ct dv ce cf bc cg=>As 1 rfl<|AK<|AF<|Ao<|Aw<|Az h fun bd h=>Ag (A1 rfl bd) rfl<|As 1 rfl<|AK ?_;have h:=BP.again h ak;have b:=b.mono (Ab hH (ao.trans bc));refine AN ((j++[(-1)]),(a+1),ct,ce,an) (Sub.of rfl) ⟨cf,b,cg,h⟩ (Nat.lt_succ_self _)
   refine Aw<|As 3 rfl<|Az h fun be h=>Ag (A1 rfl be) rfl<|Az h fun ap h=>Bf rfl rfl AbF LH aa ((t.getD a.toNat default - 1).toNat) (EX ap) (Ba ap) rfl ?_;rintro c8 _ rfl bf;refine Ag (Bj rfl Ac5 rfl bf (hH.trans u.arg)) rfl<|Ag (DE Ac5 Abn rfl (EB _)) rfl<|Bp (r:=(.int .i64)) (l:=[((a0.getD ((t.getD a.toNat default - 1).toNat) default).toNat:Int)]) rfl (fun _=>I7 _ _) rfl (leMax 1) hH u (.c1 rfl .nil) fun c9 da cy bg ah bh=>Az h fun bi h=>?_;have g:=g.mono (Ab hH ah);refine Bt (r:=(.int .i64)) (l:=j) (m:=[((a0.getD ((t.getD a.toNat default - 1).toNat) default).toNat:Int)]) 0 rfl rfl Abm Cj rfl (by decide) rfl hH bg rfl g bh bi fun ch db bj bk a1 bl=>As 1 rfl<|AK<|AF<|Ao<|Aw<|Az h fun bm h=>Ag (A1 rfl bm) rfl<|As 1 rfl<|AK ?_;have h:=BP.again h ak;have b:=b.mono (Ab hH (ah.trans a1))
   refine AN ((j++[((a0.getD ((t.getD a.toNat default - 1).toNat) default).toNat:Int)]),(a+1),ch,bj,an) (Sub.of rfl) ⟨bk,b,bl,h⟩ (Nat.lt_succ_self _)
  refine Br<|AG<|A6 ?_;have h:=BP.out h ak;refine Be<|A8 (j,p,k) (Sub.of rfl) ⟨u,g,h⟩
 rintro⟨af,ab,s⟩ dc ⟨a2,bn,h⟩;refine Bi 1 rfl ?_;have bo:=a2.Cz hH (i:=0) rfl bn;have o:=a2.AQ (i:=0) rfl;refine Ay h fun dd bp h=>Bn rfl rfl o (N8 _ _ (Ar hH o) bo bp) ?_;rintro _ de ⟨cu,cv,cw,rfl,aq,ar,au⟩ ac bq cx;have d:=aq.mono (Cm hH o ac);have e:=ar.Cz hH o ac;have f:=au.Cz hH o ac;refine As 3 rfl<|AH Gm rfl rfl bq fun df dg br x _=>Ah 0 rfl Gm br rfl (AU d.one (AU e.one (AU f.one Hj))) fun dh ad y=>A4 1 rfl ?_;have c:=ad.rG H;refine Am<|Ag (AE 0 rfl Afv rfl Gm ad rfl) rfl<|Ag (AR rfl (fun _=>Cf _)) rfl ?_;have d:=d.mono (Ab hH (x.trans y));have e:=e.mono (Ab hH (x.trans y));have f:=f.mono (Ab hH (x.trans y));refine Ah 3 rfl Gm ad rfl (AU (d.mono c).one (AU (e.mono c).one (AU (f.mono c).one Hj))) fun di bs a3=>Ah 2 rfl AW bs rfl (Bc rfl) fun dj ae a4=>Ac<|Ax ?_
 cases h
 refine Bz rfl (.cell rfl Afv rfl Gm (AL (i:=3) ae rfl)) (.cell rfl Ack rfl AW (AL (i:=2) ae rfl)) ?_;have c:=c.trans (Ab hH (a3.trans a4));exact⟨ae.ext,_,_,_,rfl,((d.mono c).mono (B5 hH)),((e.mono c).mono (B5 hH)),((f.mono c).mono (B5 hH))⟩
end Go.Proofs.YtekmbcbgknmhiaaGreatDoor
end
noncomputable section
namespace Go
abbrev AfM:=Int×(Int×Int)
end Go
namespace Go.Proofs.YtekmbcbgknmhiaaGreatDoor
open Go Go.E Go.RowKit Go.L
set_option maxHeartbeats 1000000
set_option maxRecDepth 10000
open _root_.Go.Proofs.Tryz
def Ib(a0:Go.L.Qv):Option Int:=
 Option.bind (HZ a0.f.2.2.1) (fun a=>if a.1=0 then(if a0.f.1=3 then if((!decide (1<=a0.f.2.2.2.2.1/\a0.f.2.2.2.2.1<=2048))||((decide (a0.f.1=6))&&(decide (a0.f.2.2.2.2.2.1<a0.f.2.2.2.2.1)))) then some (4) else(if((decide (a0.f.1=4))&&(decide ((a0.f.2.2.2.1.length:Int)=0))) then some (10) else(if 64<(a0.f.2.2.2.1.length:Int) then some (3) else some (0))) else if((decide (a0.f.1=6))&&(decide (a0.f.2.2.2.2.2.1<a0.f.2.2.2.2.1))) then some (4) else(if((decide (a0.f.1=4))&&(decide ((a0.f.2.2.2.1.length:Int)=0))) then some (10) else(if 64<(a0.f.2.2.2.1.length:Int) then some (3) else some (0)))) else some (a.1))
def FH(a0:Go.L.Qv):Int->Option ((Int) ⊕ (Int)):=fun a=>
 if a<(a0.f.2.1.length:Int) then AS (0<=a/\a<(a0.f.2.1.length:Int)) (Option.bind (JR (a0.f.2.1.getD a.toNat default)) (fun b=>if b.1=0 then AS (B0 (a+1)) (some (Sum.inl (a+1))) else Option.map Sum.inr (some (b.1)))) else Option.map Sum.inr ((Ib a0))
def Ms(a0:Go.L.Qv)(s:Int):Option Int:=Go.L.run (FH a0) s
def Dj(a0:Go.L.Qv):Option Int:=
 (Ms a0) (0:Int)
def Ei(a0:Go.L.Qv):Int->Option ((Int) ⊕ (Int)):=fun a=>
 if((decide (a<(a0.f.2.2.2.2.2.2.length:Int)))&&(decide (a0.f.1<10))) then AS (0<=a/\a<(a0.f.2.2.2.2.2.2.length:Int)) (if(a0.f.2.2.2.2.2.2.getD a.toNat default).f.1=a0.f.1 then Option.map Sum.inr (some (6)) else AS (B0 (a+1)) (some (Sum.inl (a+1)))) else Option.map Sum.inr ((Dj a0))
def Mt(a0:Go.L.Qv)(s:Int):Option Int:=Go.L.run (Ei a0) s
def Ic(a0:Go.L.Qv):Option Int:=
 (Mt a0) (0:Int)
def JU(a0:Go.L.Qv):Option Int:=
 if 1<=a0.f.1/\a0.f.1<=10 then AS (0<=a0.f.1/\a0.f.1<11) (AS (0<=a0.f.1/\a0.f.1<11) (if(((!decide ((([0,1,2,2,0,0,0,0,0,0,0]:List Int).getD a0.f.1.toNat default)<=(a0.f.2.1.length:Int)/\(a0.f.2.1.length:Int)<=(([0,1,16,2,0,0,0,0,0,0,0]:List Int).getD a0.f.1.toNat default)))||((!decide (5<=a0.f.1/\a0.f.1<=7))&&(!decide (a0.f.2.2.1=([]:Abk)))))||(((!decide (a0.f.1=4))&&(!decide (a0.f.1=7)))&&(decide (0<(a0.f.2.2.2.1.length:Int))))) then some (6) else(if((((!decide (a0.f.1=3))&&(!decide (a0.f.1=6)))&&(!decide (a0.f.2.2.2.2.1=0)))||((!decide (a0.f.1=6))&&(!decide (a0.f.2.2.2.2.2.1=0)))) then some (6) else(if(((decide (a0.f.1<8))&&(decide (0<(a0.f.2.2.2.2.2.2.length:Int))))||((decide (a0.f.1=10))&&(!decide ((a0.f.2.2.2.2.2.2.length:Int)=1)))) then some (6) else if((decide (8<=a0.f.1/\a0.f.1<=9))&&(decide ((a0.f.2.2.2.2.2.2.length:Int)<2))) then some (6) else(Ic a0))))) else some (5)
theorem Qt(w:World)(H:PH)(hH:Le H (hp w)){a0:Go.L.Qv}{am an ao:Value}(a2:AI .st H am (a0.f.2.1))(av:AI .byte H an (a0.f.2.2.2.1))(aw:AI .Bg H ao (a0.f.2.2.2.2.2.2)){r:Int}(h:JU a0=some r):
  Ok prog 67 [.agg #[No a0.f.1,am,Abj a0.f.2.2.1,an,No a0.f.2.2.2.2.1,No a0.f.2.2.2.2.2.1,ao]] w (fun v w'=>Ext w w'/\v=No r):=by
 refine A3 (n:=190) [(0,.agg #[No a0.f.1,am,Abj a0.f.2.2.1,an,No a0.f.2.2.2.2.1,No a0.f.2.2.2.2.2.1,ao])] func67 rfl fun hL=>Am<|CY (t:=26) rfl rfl rfl hL fun w1 b1 bf dh _=>A4 1 rfl<|A7<|Am<|Ag (Ae rfl AcF rfl Cj) rfl<|Ag (Af 0 rfl Abn rfl bf rfl) rfl<|AA rfl rfl bf (Wd _ _ (Ar hH bf)) fun w2 ea cq di=>A4 1 rfl<|BV rfl h (fun cy h=>?_) (fun cy h=>?_)
 ·refine AD 1 rfl<|Ax<|An ?_
  cases h
  refine Ak rfl ⟨cq.ext,rfl⟩
 refine Av<|Ao<|Am<|Ag (AR rfl (fun _=>Hk _ _ _ _ _ _ _ _ _ _ _ _)) rfl<|AH XM rfl rfl cq fun w6 b6 cz dj _=>Ah 0 rfl XM cz rfl (Bc rfl) fun w7 c0 dk=>Ac<|Am<|Ag (AR rfl (fun _=>Hk _ _ _ _ _ _ _ _ _ _ _ _)) rfl<|AH XM rfl rfl c0 fun w8 b8 c1 dl _=>Ah 0 rfl XM c1 rfl (Bc rfl) fun w9 c2 dm=>Ac<|A7<|DD (.q 0 (.q 1 (.q 2 (.q 3 (.q 4 (.q 5 (.q 6 (.q 7 (.q 8 (.q 9 (.q 10 (.q 11 (.q 12 (.q 13 (.q 14 (.q 15 (.q 16 (.q 17 (.q 18 (.q 19 (.q 20 (.q 21 (.q 22 (.q 23 (.q 24 (.q 25 (.q 26 (.q 27 (.q 28 (.q 29 (.q 30 (.q 31 (.q 32 (.q 33 (.q 34 (.q 35 (.q 36 (.q 37 (.q 38 (.q 39 (.tail 40))))))))))))))))))))))))))))))))))))))))) mixed (by kernel_rfl) (fun eb cr=>?_);have ab:=c2.call cr;refine BQ (Ae rfl AcF rfl IW) rfl rfl<|BQ (Af 2 rfl Ac7 rfl ab rfl) rfl rfl<|BQ (Bu rfl Ac7 a2) rfl rfl<|BQ (Ae rfl AcF rfl Cj) rfl rfl<|BQ (Af 2 rfl Abn rfl ab rfl) rfl rfl<|Az h fun bi h=>BQ (Wb rfl rfl Afx Cj rfl bi rfl) rfl rfl ?_
 refine BQ (XT (l:=([0,1,2,2,0,0,0,0,0,0,0]:List Int)) 1 _ rfl Abn ab rfl rfl (Ba bi)) rfl rfl<|BQ (Ae rfl AcF rfl Cj) rfl rfl<|BQ (Af 2 rfl Abn rfl ab rfl) rfl rfl<|Az h fun bj h=>BQ (Wb rfl rfl Afx Cj rfl bj rfl) rfl rfl<|BQ (XT (l:=([0,1,16,2,0,0,0,0,0,0,0]:List Int)) 0 _ rfl Abn ab rfl rfl (Ba bj)) rfl rfl<|Ec rfl rfl rfl (fun ec dn=>Wd _ _ (Le.refl _))<|Df 2 rfl<|Wc 10 38 (.bool ((!decide ((([0,1,2,2,0,0,0,0,0,0,0]:List Int).getD a0.f.1.toNat default)<=(a0.f.2.1.length:Int)/\(a0.f.2.1.length:Int)<=(([0,1,16,2,0,0,0,0,0,0,0]:List Int).getD a0.f.1.toNat default)))||((!decide (5<=a0.f.1/\a0.f.1<=7))&&(!decide (a0.f.2.2.1=([]:Abk)))))) (fun bk=>?_) ?_
 ·refine Nx (s:=28) rfl (fun j=>?_) (fun j=>?_)
  ·iterate 5 refine TB rfl rfl rfl rfl j rfl ?_
   iterate 3 refine Zm rfl rfl rfl rfl rfl ?_
   refine TB rfl rfl rfl rfl j rfl<|BQ (A2 rfl j rfl) rfl rfl<|bk.to 9 (PN j) rfl rfl
  refine Kr (Ae rfl AcF rfl Cj) rfl rfl rfl rfl j rfl<|Kr (Af 2 rfl Abn rfl ab rfl) rfl rfl rfl rfl j rfl<|U8 rfl rfl rfl rfl j rfl rfl (fun ed dp=>Wd _ _ (Le.refl _)) ?_
  iterate 2 refine Kr (Ad rfl) rfl rfl rfl rfl j rfl ?_
  refine Wc 4 37 (.bool ((!decide (5<=a0.f.1/\a0.f.1<=7))&&(!decide (a0.f.2.2.1=([]:Abk))))) (fun bl=>?_) ?_
  ·refine Nx (s:=33) rfl (fun ah=>?_) (fun ah=>?_)
   ·refine Kr (Ae rfl AcF rfl EZ) rfl rfl rfl rfl ah rfl<|Kr (Af 2 rfl Ab1 rfl ab rfl) rfl rfl rfl rfl ah rfl<|Kr (Mn rfl rfl) rfl rfl rfl rfl ah rfl<|Kr (A2 rfl ah rfl) rfl rfl rfl rfl j rfl<|bl.to 3 (KK ah) rfl rfl
   iterate 3 refine TB rfl rfl rfl rfl ah rfl ?_
   refine Kr (A9 rfl ah rfl) rfl rfl rfl rfl j rfl<|bl.to 3 (KL ah) rfl rfl
  refine BQ (A9 rfl j rfl) rfl rfl<|bk.to 6 (PO j) rfl rfl
 refine Df 1 rfl<|Wc 15 54 (.bool (((!decide ((([0,1,2,2,0,0,0,0,0,0,0]:List Int).getD a0.f.1.toNat default)<=(a0.f.2.1.length:Int)/\(a0.f.2.1.length:Int)<=(([0,1,16,2,0,0,0,0,0,0,0]:List Int).getD a0.f.1.toNat default)))||((!decide (5<=a0.f.1/\a0.f.1<=7))&&(!decide (a0.f.2.2.1=([]:Abk)))))||(((!decide (a0.f.1=4))&&(!decide (a0.f.1=7)))&&(decide (0<(a0.f.2.2.2.1.length:Int)))))) (fun bm=>?_) ?_
 ·refine Nx (s:=39) rfl (fun c=>?_) (fun c=>?_)
  ·iterate 4 refine TB rfl rfl rfl rfl c rfl ?_
   iterate 3 refine Zm rfl rfl rfl rfl rfl ?_
   iterate 2 refine TB rfl rfl rfl rfl c rfl ?_
   iterate 4 refine Zm rfl rfl rfl rfl rfl ?_
   refine TB rfl rfl rfl rfl c rfl<|BQ (A2 rfl c rfl) rfl rfl<|bm.to 14 (PN c) rfl rfl
  refine Kr (Ae rfl AcF rfl Cj) rfl rfl rfl rfl c rfl<|Kr (Af 2 rfl Abn rfl ab rfl) rfl rfl rfl rfl c rfl ?_
  iterate 2 refine Kr (Ad rfl) rfl rfl rfl rfl c rfl ?_
  refine Wc 4 47 (.bool ((!decide (a0.f.1=4))&&(!decide (a0.f.1=7)))) (fun bn=>?_) ?_
  ·refine Nx (s:=43) rfl (fun ai=>?_) (fun ai=>?_)
   ·refine Kr (Ae rfl AcF rfl Cj) rfl rfl rfl rfl ai rfl<|Kr (Af 2 rfl Abn rfl ab rfl) rfl rfl rfl rfl ai rfl<|Kr (Ad rfl) rfl rfl rfl rfl ai rfl<|Kr (A2 rfl ai rfl) rfl rfl rfl rfl c rfl<|bn.to 3 (KK ai) rfl rfl
   iterate 3 refine TB rfl rfl rfl rfl ai rfl ?_
   refine Kr (A9 rfl ai rfl) rfl rfl rfl rfl c rfl<|bn.to 3 (KL ai) rfl rfl
  refine Kr (Ad rfl) rfl rfl rfl rfl c rfl<|Wc 5 53 (.bool (((!decide (a0.f.1=4))&&(!decide (a0.f.1=7)))&&(decide (0<(a0.f.2.2.2.1.length:Int))))) (fun bo=>?_) ?_
  ·refine Nx (s:=48) rfl (fun ad=>?_) (fun ad=>?_)
   ·refine Kr (Ae rfl AcF rfl F7) rfl rfl rfl rfl ad rfl<|Kr (Af 2 rfl AbF rfl ab rfl) rfl rfl rfl rfl ad rfl<|Kr (Bu rfl AbF av) rfl rfl rfl rfl ad rfl<|Kr (Ad rfl) rfl rfl rfl rfl ad rfl<|Kr (A2 rfl ad rfl) rfl rfl rfl rfl c rfl<|bo.to 4 (KK ad) rfl rfl
   iterate 4 refine TB rfl rfl rfl rfl ad rfl ?_
   refine Kr (A9 rfl ad rfl) rfl rfl rfl rfl c rfl<|bo.to 4 (KL ad) rfl rfl
  refine BQ (A9 rfl c rfl) rfl rfl<|bm.to 7 (PO c) rfl rfl
 refine Cd (fun ee cs=>?_);have d:=ab.call cs;refine Ac<|Bb rfl h (fun ct h=>?_) (fun ct h=>?_)
 ·refine AD 1 rfl<|Ax<|An ?_
  cases h
  refine Ak rfl ⟨d.ext,rfl⟩
 refine Av<|Ao<|A7<|Am<|Ag (Ae rfl AcF rfl Cj) rfl<|Ag (Af 2 rfl Abn rfl d rfl) rfl<|As 2 rfl<|GP 4 62 (.bool ((!decide (a0.f.1=3))&&(!decide (a0.f.1=6)))) (fun bp=>?_) ?_
 ·refine AP (s:=58) rfl (fun aj=>?_) (fun aj=>?_)
  ·refine Aa rfl aj<|Ag (Ae rfl AcF rfl Cj) rfl<|Aa rfl aj<|Ag (Af 2 rfl Abn rfl d rfl) rfl<|Aa rfl aj<|Ag (Ad rfl) rfl<|Ag (A2 rfl aj rfl) rfl<|bp.to 3 (KK aj) rfl rfl
  iterate 3 refine Ai rfl aj rfl ?_
  refine Ag (A9 rfl aj rfl) rfl<|bp.to 3 (KL aj) rfl rfl
 refine As 1 rfl<|GP 4 67 (.bool (((!decide (a0.f.1=3))&&(!decide (a0.f.1=6)))&&(!decide (a0.f.2.2.2.2.1=0)))) (fun bq=>?_) ?_
 ·refine AP (s:=63) rfl (fun ak=>?_) (fun ak=>?_)
  ·refine Aa rfl ak<|Ag (Ae rfl AcF rfl Cj) rfl<|Aa rfl ak<|Ag (Af 2 rfl Abn rfl d rfl) rfl<|Aa rfl ak<|Ag (Ad rfl) rfl<|Ag (A2 rfl ak rfl) rfl<|bq.to 3 (KK ak) rfl rfl
  iterate 3 refine Ai rfl ak rfl ?_
  refine Ag (A9 rfl ak rfl) rfl<|bq.to 3 (KL ak) rfl rfl
 refine As 1 rfl<|GP 9 77 (.bool ((((!decide (a0.f.1=3))&&(!decide (a0.f.1=6)))&&(!decide (a0.f.2.2.2.2.1=0)))||((!decide (a0.f.1=6))&&(!decide (a0.f.2.2.2.2.2.1=0))))) (fun br=>?_) ?_
 ·refine AP (s:=68) rfl (fun k=>?_) (fun k=>?_)
  ·iterate 4 refine Ai rfl k rfl ?_
   iterate 3 refine Cl rfl rfl rfl ?_
   refine Ai rfl k rfl<|Ag (A2 rfl k rfl) rfl<|br.to 8 (PN k) rfl rfl
  refine Aa rfl k<|Ag (Ae rfl AcF rfl Cj) rfl<|Aa rfl k<|Ag (Af 2 rfl Abn rfl d rfl) rfl<|Aa rfl k<|Ag (Ad rfl) rfl<|Aa rfl k<|Ag (Ad rfl) rfl<|GP 4 76 (.bool ((!decide (a0.f.1=6))&&(!decide (a0.f.2.2.2.2.2.1=0)))) (fun bs=>?_) ?_
  ·refine AP (s:=72) rfl (fun al=>?_) (fun al=>?_)
   ·refine Aa rfl al<|Ag (Ae rfl AcF rfl Cj) rfl<|Aa rfl al<|Ag (Af 2 rfl Abn rfl d rfl) rfl<|Aa rfl al<|Ag (Ad rfl) rfl<|Aa rfl k<|Ag (A2 rfl al rfl) rfl<|bs.to 3 (KK al) rfl rfl
   iterate 3 refine Ai rfl al rfl ?_
   refine Aa rfl k<|Ag (A9 rfl al rfl) rfl<|bs.to 3 (KL al) rfl rfl
  refine Ag (A9 rfl k rfl) rfl<|br.to 5 (PO k) rfl rfl
 refine Ac<|Bb rfl h (fun cu h=>?_) (fun cu h=>?_)
 ·refine AD 1 rfl<|Ax<|An ?_
  cases h
  refine Ak rfl ⟨d.ext,rfl⟩
 refine Av<|Ao<|Bo (σ:=Unit) (fun(_:Unit)=>[(1,(Abi b1))]) (fun(_:Unit) wr=>Bd w [.box b8 [No 0,No 1,No 16,No 2,No 0,No 0,No 0,No 0,No 0,No 0,No 0] 173,.box b6 [No 0,No 1,No 2,No 2,No 0,No 0,No 0,No 0,No 0,No 0,No 0] 173,.box b1 [No a0.f.1,am,Abj a0.f.2.2.1,an,No a0.f.2.2.2.2.1,No a0.f.2.2.2.2.2.1,ao] 26] wr/\(Ic a0)=some r) ?_ ?_
 ·refine Am<|Ag (Ae rfl AcF rfl Cj) rfl<|Ag (Af 2 rfl Abn rfl d rfl) rfl<|As 2 rfl<|GP 5 86 (.bool ((decide (a0.f.1<8))&&(decide (0<(a0.f.2.2.2.2.2.2.length:Int))))) (fun bt=>?_) ?_
  ·refine AP (s:=81) rfl (fun ae=>?_) (fun ae=>?_)
   ·refine Aa rfl ae<|Ag (Ae rfl AcF rfl G5) rfl<|Aa rfl ae<|Ag (Af 2 rfl Afy rfl d rfl) rfl<|Aa rfl ae<|Ag (Bu rfl Afy aw) rfl<|Aa rfl ae<|Ag (Ad rfl) rfl<|Ag (A2 rfl ae rfl) rfl<|bt.to 4 (KK ae) rfl rfl
   iterate 4 refine Ai rfl ae rfl ?_
   refine Ag (A9 rfl ae rfl) rfl<|bt.to 4 (KL ae) rfl rfl
  refine As 1 rfl<|GP 10 97 (.bool (((decide (a0.f.1<8))&&(decide (0<(a0.f.2.2.2.2.2.2.length:Int))))||((decide (a0.f.1=10))&&(!decide ((a0.f.2.2.2.2.2.2.length:Int)=1))))) (fun bu=>?_) ?_
  ·refine AP (s:=87) rfl (fun m=>?_) (fun m=>?_)
   ·iterate 4 refine Ai rfl m rfl ?_
    iterate 4 refine Cl rfl rfl rfl ?_
    refine Ai rfl m rfl<|Ag (A2 rfl m rfl) rfl<|bu.to 9 (PN m) rfl rfl
   refine Aa rfl m<|Ag (Ae rfl AcF rfl Cj) rfl<|Aa rfl m<|Ag (Af 2 rfl Abn rfl d rfl) rfl<|Aa rfl m<|Ag (Ad rfl) rfl<|Aa rfl m<|Ag (Ad rfl) rfl<|GP 5 96 (.bool ((decide (a0.f.1=10))&&(!decide ((a0.f.2.2.2.2.2.2.length:Int)=1)))) (fun bv=>?_) ?_
   ·refine AP (s:=91) rfl (fun af=>?_) (fun af=>?_)
    ·refine Aa rfl af<|Ag (Ae rfl AcF rfl G5) rfl<|Aa rfl af<|Ag (Af 2 rfl Afy rfl d rfl) rfl<|Aa rfl af<|Ag (Bu rfl Afy aw) rfl<|Aa rfl af<|Ag (Ad rfl) rfl<|Aa rfl m<|Ag (A2 rfl af rfl) rfl<|bv.to 4 (KK af) rfl rfl
    iterate 4 refine Ai rfl af rfl ?_
    refine Aa rfl m<|Ag (A9 rfl af rfl) rfl<|bv.to 4 (KL af) rfl rfl
   refine Ag (A9 rfl m rfl) rfl<|bu.to 5 (PO m) rfl rfl
  refine As 1 rfl<|AP (s:=98) rfl (fun o=>?_) (fun o=>?_)
  ·have h:=HA o h
   iterate 4 refine Ai rfl o rfl ?_
   iterate 4 refine Cl rfl rfl rfl ?_
   refine Ai rfl o rfl<|Ag (A2 rfl o rfl) rfl<|Ac<|Cg rfl<|AD 1 rfl<|Ax<|Bs ?_
   cases h
   refine Ak rfl ⟨d.ext,rfl⟩
  have h:=HB o h;refine Aa rfl o<|Ag (Ae rfl AcF rfl Cj) rfl<|Aa rfl o<|Ag (Af 2 rfl Abn rfl d rfl) rfl<|Aa rfl o<|AA rfl rfl d (Wd _ _ (Ar hH d)) fun ef dq a3 da=>Aa rfl o<|Ag (Ad rfl) rfl<|GP 5 107 (.bool ((decide (8<=a0.f.1/\a0.f.1<=9))&&(decide ((a0.f.2.2.2.2.2.2.length:Int)<2)))) (fun bw=>?_) ?_
  ·refine AP (s:=102) rfl (fun ag=>?_) (fun ag=>?_)
   ·refine Aa rfl ag<|Ag (Ae rfl AcF rfl G5) rfl<|Aa rfl ag<|Ag (Af 2 rfl Afy rfl a3 rfl) rfl<|Aa rfl ag<|Ag (Bu rfl Afy aw) rfl<|Aa rfl ag<|Ag (Ad rfl) rfl<|Aa rfl o<|Ag (A2 rfl ag rfl) rfl<|bw.to 4 (KK ag) rfl rfl
   iterate 4 refine Ai rfl ag rfl ?_
   refine Aa rfl o<|Ag (A9 rfl ag rfl) rfl<|bw.to 4 (KL ag) rfl rfl
  refine Ag (A9 rfl o rfl) rfl<|Ac<|Bb rfl h (fun cv h=>?_) (fun cv h=>?_)
  ·refine AD 1 rfl<|Ax<|Bs ?_
   cases h
   refine Ak rfl ⟨a3.ext,rfl⟩
  refine Av<|A8 () (Sub.of rfl) ⟨a3,h⟩
 rintro _ dr ⟨cw,h⟩;refine Bo (σ:=Unit) (fun(_:Unit)=>[(1,(Abi b1))]) (fun(_:Unit) wr=>Bd w [.box b8 [No 0,No 1,No 16,No 2,No 0,No 0,No 0,No 0,No 0,No 0,No 0] 173,.box b6 [No 0,No 1,No 2,No 2,No 0,No 0,No 0,No 0,No 0,No 0,No 0] 173,.box b1 [No a0.f.1,am,Abj a0.f.2.2.1,an,No a0.f.2.2.2.2.1,No a0.f.2.2.2.2.2.1,ao] 26] wr/\(Dj a0)=some r) ?_ ?_
 ·refine AD 1 rfl<|A5 ?_;obtain⟨a4,h⟩:=AZ h;refine Bx (σ:=Int×Nat) (fun⟨z,n⟩=>[(1,(Abi b1)),(5,No z)]) (fun⟨z,n⟩ wr=>Bd w [.box b8 [No 0,No 1,No 16,No 2,No 0,No 0,No 0,No 0,No 0,No 0,No 0] 173,.box b6 [No 0,No 1,No 2,No 2,No 0,No 0,No 0,No 0,No 0,No 0,No 0] 173,.box b1 [No a0.f.1,am,Abj a0.f.2.2.1,an,No a0.f.2.2.2.2.1,No a0.f.2.2.2.2.2.1,ao] 26] wr/\F6 (Ei a0) n z=some r) (fun⟨z,n⟩=>n) (0,a4) (Sub.of rfl) ⟨cw,h⟩ ?_;rintro⟨z,nn114⟩ db ⟨aq,h⟩;obtain⟨a4,ds,rfl,h,ay⟩:=AY h;refine A7<|Bi 1 rfl<|Ag (Ae rfl AcF rfl G5) rfl<|Ag (Af 2 rfl Afy rfl aq rfl) rfl<|Ag (Bu rfl Afy aw) rfl<|As 2 rfl<|GP 4 118 (.bool ((decide (z<(a0.f.2.2.2.2.2.2.length:Int)))&&(decide (a0.f.1<10)))) (fun a6=>?_) ?_
  ·refine AP (s:=114) rfl (fun aa=>?_) (fun aa=>?_)
   ·refine Aa rfl aa<|Ag (Ae rfl AcF rfl Cj) rfl<|Aa rfl aa<|Ag (Af 2 rfl Abn rfl aq rfl) rfl<|Aa rfl aa<|Ag (Ad rfl) rfl<|Ag (A2 rfl aa rfl) rfl<|a6.to 3 (KK aa) rfl rfl
   iterate 3 refine Ai rfl aa rfl ?_
   refine Ag (A9 rfl aa rfl) rfl<|a6.to 3 (KL aa) rfl rfl
  refine Ac<|Bb rfl h (fun bx h=>?_) (fun bx h=>?_)
  ·refine Av<|Ao<|A7<|A5<|DD (.q 0 (.q 1 (.q 2 (.q 3 (.q 4 (.q 5 (.q 6 (.q 7 (.q 8 (.tail 9)))))))))) mixed (by kernel_rfl) (fun dt bz=>?_);have ar:=aq.call bz;refine BQ (Ae rfl AcF rfl G5) rfl rfl<|BQ (Af 2 rfl Afy rfl ar rfl) rfl rfl<|Df 1 rfl<|Az h fun a7 h=>HX rfl rfl rfl Afy AO aw z.toNat (EX a7) (Ba a7) rfl ?_;rintro du _ e121t0 b0;obtain⟨_,_,rfl,rfl,⟨_,_,rfl,⟨e121v1,rfl,e121h1⟩,⟨_,_,rfl,rfl,⟨_,_,rfl,⟨e121v3,rfl,e121h3⟩,⟨_,_,rfl,rfl,⟨_,_,rfl,rfl,⟨e121v6,rfl,e121h6⟩⟩⟩⟩⟩⟩⟩:=Go.E.Rp.Dh e121t0;refine BQ (Ae rfl AcF rfl Cj) rfl rfl ?_;have b2:=b0.add 0;refine BQ (Bj rfl Abn rfl b2 (hH.trans ar.arg)) rfl rfl<|BQ (Ae rfl AcF rfl Cj) rfl rfl<|BQ (Af 2 rfl Abn rfl ar rfl) rfl rfl<|Df 1 rfl<|Cd (fun dv b3=>?_);have a8:=ar.call b3;refine Ac<|AM rfl h (fun b4 h=>?_) (fun b4 h=>?_)
   ·refine AD 1 rfl<|Ax<|Aq<|An<|By ?_;have h:=BP.out h ay;refine Aq<|Bs ?_
    cases h
    refine Ak rfl ⟨a8.ext,rfl⟩
   refine Av<|AF<|Ao<|Aw<|As 1 rfl<|Az h fun b5 h=>Ag (A1 rfl b5) rfl<|As 1 rfl<|AK ?_;have h:=BP.again h ay;refine AN ((z+1),a4) (Sub.of rfl) ⟨a8,h⟩ (Nat.lt_succ_self _)
  refine Br<|AG<|A6 ?_;have h:=BP.out h ay;refine Be<|A8 () (Sub.of rfl) ⟨aq,h⟩
 rintro _ dw ⟨cx,h⟩;refine Bo (σ:=Unit) (fun(_:Unit)=>[(1,(Abi b1))]) (fun(_:Unit) wr=>Bd w [.box b8 [No 0,No 1,No 16,No 2,No 0,No 0,No 0,No 0,No 0,No 0,No 0] 173,.box b6 [No 0,No 1,No 2,No 2,No 0,No 0,No 0,No 0,No 0,No 0,No 0] 173,.box b1 [No a0.f.1,am,Abj a0.f.2.2.1,an,No a0.f.2.2.2.2.1,No a0.f.2.2.2.2.2.1,ao] 26] wr/\(Ib a0)=some r) ?_ ?_
 ·refine AD 1 rfl<|A5 ?_;obtain⟨a5,h⟩:=AZ h;refine Bx (σ:=Int×Nat) (fun⟨ac,n⟩=>[(1,(Abi b1)),(6,No ac)]) (fun⟨ac,n⟩ wr=>Bd w [.box b8 [No 0,No 1,No 16,No 2,No 0,No 0,No 0,No 0,No 0,No 0,No 0] 173,.box b6 [No 0,No 1,No 2,No 2,No 0,No 0,No 0,No 0,No 0,No 0,No 0] 173,.box b1 [No a0.f.1,am,Abj a0.f.2.2.1,an,No a0.f.2.2.2.2.1,No a0.f.2.2.2.2.2.1,ao] 26] wr/\F6 (FH a0) n ac=some r) (fun⟨ac,n⟩=>n) (0,a5) (Sub.of rfl) ⟨cx,h⟩ ?_;rintro⟨ac,nn179⟩ dc ⟨ap,h⟩;obtain⟨a5,dx,rfl,h,az⟩:=AY h;refine A7<|Bi 1 rfl<|Ag (Ae rfl AcF rfl IW) rfl<|Ag (Af 2 rfl Ac7 rfl ap rfl) rfl<|Ag (Bu rfl Ac7 a2) rfl<|A4 1 rfl<|AM rfl h (fun b7 h=>?_) (fun b7 h=>?_)
  ·refine Av<|Ao<|A7<|A5<|Am<|Ag (Ae rfl AcF rfl IW) rfl<|Ag (Af 2 rfl Ac7 rfl ap rfl) rfl<|As 1 rfl<|Az h fun a9 h=>Bf rfl rfl Ac7 EZ a2 ac.toNat (EX a9) (Ba a9) rfl ?_;rintro dy _ rfl b9;refine Ag (Bj rfl Ab1 rfl b9 (hH.trans ap.arg)) rfl<|Ay h fun dz ca h=>AA rfl rfl ap (Qn _ _ (Ar hH ap) ca) fun d0 dd cb c3=>AH AW rfl rfl cb fun d1 d2 cc c4 _=>Ah 0 rfl AW cc rfl (Bc rfl) fun d3 au c5=>Ac<|Am<|Ag (Ae rfl Ack rfl Cj) rfl<|Ag (Af 0 rfl Abn rfl au rfl) rfl<|A4 1 rfl<|BV rfl h (fun cd h=>?_) (fun cd h=>?_)
   ·refine Am<|Ag (Ae rfl Ack rfl Cj) rfl<|Ag (Af 0 rfl Abn rfl au rfl) rfl<|A4 1 rfl<|Ax<|Aq<|An<|By ?_;have h:=BP.out h az;refine Aq<|Bs ?_
    cases h
    refine Ak rfl ⟨au.ext,rfl⟩
   refine Av<|AF<|Ao<|Aw<|As 1 rfl<|Az h fun ce h=>Ag (A1 rfl ce) rfl<|As 1 rfl<|AK ?_;have cf:=au.AQ (i:=0) rfl;have h:=BP.again h az;refine AN ((ac+1),a5) (Sub.of rfl) ⟨cf,h⟩ (Nat.lt_succ_self _)
  refine Br<|AG<|A6 ?_;have h:=BP.out h az;refine Be<|A8 () (Sub.of rfl) ⟨ap,h⟩
 rintro _ de ⟨a1,h⟩;refine A7<|Am<|Ag (Ae rfl AcF rfl EZ) rfl<|Ag (Af 2 rfl Ab1 rfl a1 rfl) rfl<|Ay h fun d4 cg h=>AA rfl rfl a1 (Oy _ _ (Ar hH a1) cg) fun d5 df ch c6=>AH AW rfl rfl ch fun d6 d7 ci c7 _=>Ah 0 rfl AW ci rfl (Bc rfl) fun d8 a c8=>Ac<|Am<|Ag (Ae rfl Ack rfl Cj) rfl<|Ag (Af 0 rfl Abn rfl a rfl) rfl<|A4 1 rfl<|BV rfl h (fun cj h=>?_) (fun cj h=>?_)
 ·refine Am<|Ag (Ae rfl Ack rfl Cj) rfl<|Ag (Af 0 rfl Abn rfl a rfl) rfl<|A4 1 rfl<|Ax<|An ?_
  cases h
  refine Ak rfl ⟨a.ext,rfl⟩
 refine Av<|Ao<|A7<|Am<|Ag (Ae rfl AcF rfl Cj) rfl<|Ag (Af 3 rfl Abn rfl a rfl) rfl<|As 2 rfl<|AP (s:=159) rfl (fun p=>?_) (fun p=>?_)
 ·have h:=BI (of_decide_eq_true p) h;refine Aa rfl p<|Ag (Ae rfl AcF rfl Cj) rfl<|Aa rfl p<|Ag (Af 3 rfl Abn rfl a rfl) rfl<|Aa rfl p<|AA rfl rfl a (Wd _ _ (Ar hH a)) fun d9 dg u c9=>Aa rfl p<|Ag (Ad rfl) rfl<|Ag (A2 rfl p rfl) rfl<|As 1 rfl<|GP 11 176 (.bool ((!decide (1<=a0.f.2.2.2.2.1/\a0.f.2.2.2.2.1<=2048))||((decide (a0.f.1=6))&&(decide (a0.f.2.2.2.2.2.1<a0.f.2.2.2.2.1))))) (fun ba=>?_) ?_
  ·refine AP (s:=165) rfl (fun b=>?_) (fun b=>?_)
   ·iterate 4 refine Ai rfl b rfl ?_
    iterate 5 refine Cl rfl rfl rfl ?_
    refine Ai rfl b rfl<|Ag (A2 rfl b rfl) rfl<|ba.to 10 (PN b) rfl rfl
   refine Aa rfl b<|Ag (Ae rfl AcF rfl Cj) rfl<|Aa rfl b<|Ag (Af 3 rfl Abn rfl u rfl) rfl<|Aa rfl b<|Ag (Ad rfl) rfl<|Aa rfl b<|Ag (Ad rfl) rfl<|GP 6 175 (.bool ((decide (a0.f.1=6))&&(decide (a0.f.2.2.2.2.2.1<a0.f.2.2.2.2.1)))) (fun bb=>?_) ?_
   ·refine AP (s:=169) rfl (fun e=>?_) (fun e=>?_)
    ·refine Aa rfl e<|Ag (Ae rfl AcF rfl Cj) rfl<|Aa rfl e<|Ag (Af 3 rfl Abn rfl u rfl) rfl<|Aa rfl e<|Ag (Ae rfl AcF rfl Cj) rfl<|Aa rfl e<|Ag (Af 3 rfl Abn rfl u rfl) rfl<|Aa rfl e<|Ag (Ad rfl) rfl<|Aa rfl b<|Ag (A2 rfl e rfl) rfl<|bb.to 5 (KK e) rfl rfl
    iterate 5 refine Ai rfl e rfl ?_
    refine Aa rfl b<|Ag (A9 rfl e rfl) rfl<|bb.to 5 (KL e) rfl rfl
   refine Ag (A9 rfl b rfl) rfl<|ba.to 5 (PO b) rfl rfl
  refine Ac<|Bb rfl h (fun ck h=>?_) (fun ck h=>?_)
  ·refine AD 1 rfl<|Ax<|An ?_
   cases h
   refine Ak rfl ⟨u.ext,rfl⟩
  refine Av<|Ao<|A7<|Am<|Ag (Ae rfl AcF rfl Cj) rfl<|Ag (Af 3 rfl Abn rfl u rfl) rfl<|As 2 rfl<|GP 5 185 (.bool ((decide (a0.f.1=4))&&(decide ((a0.f.2.2.2.1.length:Int)=0)))) (fun bc=>?_) ?_
  ·refine AP (s:=180) rfl (fun x=>?_) (fun x=>?_)
   ·refine Aa rfl x<|Ag (Ae rfl AcF rfl F7) rfl<|Aa rfl x<|Ag (Af 3 rfl AbF rfl u rfl) rfl<|Aa rfl x<|Ag (Bu rfl AbF av) rfl<|Aa rfl x<|Ag (Ad rfl) rfl<|Ag (A2 rfl x rfl) rfl<|bc.to 4 (KK x) rfl rfl
   iterate 4 refine Ai rfl x rfl ?_
   refine Ag (A9 rfl x rfl) rfl<|bc.to 4 (KL x) rfl rfl
  refine Ac<|Bb rfl h (fun cl h=>?_) (fun cl h=>?_)
  ·refine AD 1 rfl<|Ax<|An ?_
   cases h
   refine Ak rfl ⟨u.ext,rfl⟩
  refine Av<|Ao<|A7<|Am<|Ag (Ae rfl AcF rfl F7) rfl<|Ag (Af 3 rfl AbF rfl u rfl) rfl<|Ag (Bu rfl AbF av) rfl<|A4 1 rfl<|AM rfl h (fun cm h=>?_) (fun cm h=>?_)
  ·refine AD 1 rfl<|Ax<|An ?_
   cases h
   refine Ak rfl ⟨u.ext,rfl⟩
  refine Av<|Ao<|AD 1 rfl<|Ax ?_
  cases h
  refine Ak rfl ⟨u.ext,rfl⟩
 have h:=BJ (of_decide_eq_false p) h
 iterate 4 refine Ai rfl p rfl ?_
 refine Ag (A9 rfl p rfl) rfl<|As 1 rfl<|Aa rfl rfl<|Ag (Ae rfl AcF rfl Cj) rfl<|Aa rfl rfl<|Ag (Af 3 rfl Abn rfl a rfl) rfl<|Aa rfl rfl<|Ag (Ad rfl) rfl<|Aa rfl rfl<|Ag (Ad rfl) rfl<|GP 6 175 (.bool ((decide (a0.f.1=6))&&(decide (a0.f.2.2.2.2.2.1<a0.f.2.2.2.2.1)))) (fun bd=>?_) ?_
 ·refine AP (s:=169) rfl (fun g=>?_) (fun g=>?_)
  ·refine Aa rfl g<|Ag (Ae rfl AcF rfl Cj) rfl<|Aa rfl g<|Ag (Af 3 rfl Abn rfl a rfl) rfl<|Aa rfl g<|Ag (Ae rfl AcF rfl Cj) rfl<|Aa rfl g<|Ag (Af 3 rfl Abn rfl a rfl) rfl<|Aa rfl g<|Ag (Ad rfl) rfl<|Aa rfl rfl<|Ag (A2 rfl g rfl) rfl<|bd.to 5 (KK g) rfl rfl
  iterate 5 refine Ai rfl g rfl ?_
  refine Aa rfl rfl<|Ag (A9 rfl g rfl) rfl<|bd.to 5 (KL g) rfl rfl
 refine Ag (A9 rfl rfl rfl) rfl<|Ac<|Bb rfl h (fun cn h=>?_) (fun cn h=>?_)
 ·refine AD 1 rfl<|Ax<|An ?_
  cases h
  refine Ak rfl ⟨a.ext,rfl⟩
 refine Av<|Ao<|A7<|Am<|Ag (Ae rfl AcF rfl Cj) rfl<|Ag (Af 3 rfl Abn rfl a rfl) rfl<|As 2 rfl<|GP 5 185 (.bool ((decide (a0.f.1=4))&&(decide ((a0.f.2.2.2.1.length:Int)=0)))) (fun be=>?_) ?_
 ·refine AP (s:=180) rfl (fun y=>?_) (fun y=>?_)
  ·refine Aa rfl y<|Ag (Ae rfl AcF rfl F7) rfl<|Aa rfl y<|Ag (Af 3 rfl AbF rfl a rfl) rfl<|Aa rfl y<|Ag (Bu rfl AbF av) rfl<|Aa rfl y<|Ag (Ad rfl) rfl<|Ag (A2 rfl y rfl) rfl<|be.to 4 (KK y) rfl rfl
  iterate 4 refine Ai rfl y rfl ?_
  refine Ag (A9 rfl y rfl) rfl<|be.to 4 (KL y) rfl rfl
 refine Ac<|Bb rfl h (fun co h=>?_) (fun co h=>?_)
 ·refine AD 1 rfl<|Ax<|An ?_
  cases h
  refine Ak rfl ⟨a.ext,rfl⟩
 refine Av<|Ao<|A7<|Am<|Ag (Ae rfl AcF rfl F7) rfl<|Ag (Af 3 rfl AbF rfl a rfl) rfl<|Ag (Bu rfl AbF av) rfl<|A4 1 rfl<|AM rfl h (fun cp h=>?_) (fun cp h=>?_)
 ·refine AD 1 rfl<|Ax<|An ?_
  cases h
  refine Ak rfl ⟨a.ext,rfl⟩
 refine Av<|Ao<|AD 1 rfl<|Ax ?_
 cases h
 refine Ak rfl ⟨a.ext,rfl⟩
def JV(a:Int):Option AfM:=
 some (a,(0,0))
def EJ(a0:Go.L.Qv)(a2:Int)(self:Go.L.Qv->Int->Int->Option AfM):Int×Int->Option ((Int×Int) ⊕ AfM):=fun⟨b,a⟩=>
 if a<(a0.f.2.2.2.2.2.2.length:Int) then AS (0<=a/\a<(a0.f.2.2.2.2.2.2.length:Int)) (AS (B0 (a2+1)) (Option.bind (self (a0.f.2.2.2.2.2.2.getD a.toNat default) b (a2+1)) (fun c=>if c.2.1=0 then AS (B0 (a+1)) (some (Sum.inl (c.1,(a+1)))) else Option.map Sum.inr (some (0,(c.2.1,c.2.2)))))) else Option.map Sum.inr (JV b)
def NA(a0:Go.L.Qv)(a2:Int)(self:Go.L.Qv->Int->Int->Option AfM)(s:Int×Int):Option AfM:=Go.L.run (EJ a0 a2 self) s
def GD(self:Go.L.Qv->Int->Int->Option AfM)(a0:Go.L.Qv)(a1 a2:Int):Option AfM:=
 if(40<=a1)\/(8<a2) then Option.bind (GA (2:Int) a1) (fun b=>some (0,(b.1,b.2))) else Option.bind (JU a0) (fun c=>if c=0 then AS (B0 (a1+1)) ((NA a0 a2 self) ((a1+1),0)) else Option.bind (GA c a1) (fun a=>some (0,(a.1,a.2))))
def GS(self:Go.L.Qv->Int->Int->Option AfM):Prop:=∀ (w:World) (H:PH) (hH:Le H (hp w)) {a0:Go.L.Qv} {a1:Int} {a2:Int} {a:Value} {b:Value} {c:Value} (d:AI .st H a (a0.f.2.1)) (e:AI .byte H b (a0.f.2.2.2.1)) (g:AI .Bg H c (a0.f.2.2.2.2.2.2)) {r:Int×(Int×Int)} (h:self a0 a1 a2=some r),Ok prog 35 [.agg #[No a0.f.1,a,Abj a0.f.2.2.1,b,No a0.f.2.2.2.2.1,No a0.f.2.2.2.2.2.1,c],No a1,No a2] w (fun v w'=>Ext w w'/\v=.tuple #[No r.1,.agg #[No r.2.1,No r.2.2]])
def Ej:Nat->Go.L.Qv->Int->Int->Option AfM
 | 0=>fun _ _ _=>none
 | n+1=>GD (Ej n)
def LR:Go.L.Qv->Int->Int->Option AfM:=Ej 1000
theorem NB(self:Go.L.Qv->Int->Int->Option AfM)(hself:GS self):GS (GD self):=by
 intro w H hH a0 a1 a2 g j k ag ah l r h;unfold GS at hself;refine A3 (n:=56) [(0,.agg #[No a0.f.1,g,Abj a0.f.2.2.1,j,No a0.f.2.2.2.2.1,No a0.f.2.2.2.2.2.1,k]),(1,No a1),(2,No a2)] func35 rfl fun hL=>Am<|CY (t:=26) rfl rfl rfl hL fun w1 b1 ay bf _=>As 1 rfl<|AH AW rfl rfl ay fun w2 b2 e bg _=>Ac<|A7<|Bi 3 rfl<|MT 2 2 rfl rfl rfl rfl rfl rfl<|Ac<|AM rfl h (fun az h=>?_) (fun az h=>?_)
 ·refine Bi 1 rfl<|Ay h fun x5 a3 h=>AA rfl rfl e (FC _ _ (Ar hH e) a3) fun w6 br a4 bh=>As 1 rfl<|Ah 0 rfl AW a4 rfl (Bc rfl) fun w7 af bi=>Ac<|Ax<|An ?_
  cases h
  refine Bz rfl (.tmp rfl) (.cell rfl Ack rfl AW (AL (i:=0) af rfl)) ⟨af.ext,rfl⟩
 refine Av<|Ao<|A7<|Am<|Ag (AE 1 rfl AcF rfl AO e rfl) rfl<|Ay h fun x9 a5 h=>AA rfl rfl e (Qt (a0:=a0) _ _ (Ar hH e) (ag.mono (Aj hH)) (ah.mono (Aj hH)) (l.mono (Aj hH)) a5) fun bs bj m a9=>A4 1 rfl<|AD 2 rfl<|BV rfl h (fun aj h=>?_) (fun aj h=>?_)
 ·refine Bi 2 rfl<|Ay h fun bt ak h=>AA rfl rfl m (FC _ _ (Ar hH m) ak) fun bu bk al ba=>As 1 rfl<|Ah 0 rfl AW al rfl (Bc rfl) fun bv x bb=>Ac<|Ax<|An ?_
  cases h
  refine Bz rfl (.tmp rfl) (.cell rfl Ack rfl AW (AL (i:=0) x rfl)) ⟨x.ext,rfl⟩
 refine Av<|Ao<|Bi 1 rfl<|Az h fun am h=>Ag (A1 rfl am) rfl<|A4 1 rfl<|Bo (σ:=Int) (fun d=>[(7,(Abi b2)),(9,No d)]) (fun d wr=>Bd w [.box b2 [No 0,No 0] 28,.box b1 [No a0.f.1,g,Abj a0.f.2.2.1,j,No a0.f.2.2.2.2.1,No a0.f.2.2.2.2.2.1,k] 26] wr/\JV d=some r) ?_ ?_
 ·refine AD 1 rfl<|A5 ?_;obtain⟨y,h⟩:=AZ h;refine Bx (σ:=Int×Int×Nat) (fun⟨b,a,n⟩=>[(2,No a2),(3,(Abi b1)),(7,(Abi b2)),(9,No b),(10,No a)]) (fun⟨b,a,n⟩ wr=>Bd w [.box b2 [No 0,No 0] 28,.box b1 [No a0.f.1,g,Abj a0.f.2.2.1,j,No a0.f.2.2.2.2.1,No a0.f.2.2.2.2.2.1,k] 26] wr/\F6 (EJ a0 a2 self) n (b,a)=some r) (fun⟨b,a,n⟩=>n) ((a1+1),0,y) (Sub.of rfl) ⟨m,h⟩ ?_;rintro⟨b,a,nn86⟩ bl ⟨c,h⟩;obtain⟨y,bw,rfl,h,o⟩:=AY h;refine A7<|Bi 1 rfl<|Ag (Ae rfl AcF rfl G5) rfl<|Ag (Af 1 rfl Afy rfl c rfl) rfl<|Ag (Bu rfl Afy l) rfl<|A4 1 rfl<|AM rfl h (fun an h=>?_) (fun an h=>?_)
  ·refine Av<|Ao<|A7<|A5<|Am<|Ag (Ae rfl AcF rfl G5) rfl<|Ag (Af 1 rfl Afy rfl c rfl) rfl<|As 1 rfl<|Az h fun z h=>Bf rfl rfl Afy AO l a.toNat (EX z) (Ba z) rfl ?_;rintro bx _ e90t0 ao;obtain⟨_,_,rfl,rfl,⟨_,_,rfl,⟨e90v1,rfl,e90h1⟩,⟨_,_,rfl,rfl,⟨_,_,rfl,⟨e90v3,rfl,e90h3⟩,⟨_,_,rfl,rfl,⟨_,_,rfl,rfl,⟨e90v6,rfl,e90h6⟩⟩⟩⟩⟩⟩⟩:=Go.E.Rp.Dh e90t0;refine Ag (C9 rfl AcF rfl AO ao (hH.trans c.arg)) rfl<|As 2 rfl<|Az h fun ap h=>Ag (A1 rfl ap) rfl<|Ay h fun a6 aq h=>AA rfl rfl c (hself _ _ (Ar hH c) (e90h1.mono (Aj hH)) (e90h3.mono (Aj hH)) (e90h6.mono (Aj hH)) aq) fun bz bm ar bc=>As 3 rfl<|AH AW rfl rfl ar fun b0 b3 au bd _=>As 1 rfl<|Ah 0 rfl AW au rfl (Bc rfl) fun b4 p be=>Ac<|A7<|Am<|Ag (Ae rfl Ack rfl Cj) rfl<|Ag (Af 0 rfl Abn rfl p rfl) rfl<|A4 1 rfl<|BV rfl h (fun av h=>?_) (fun av h=>?_)
   ·refine DD (.q 0 (.q 1 (.tail 2))) mixed (by kernel_rfl) (fun b5 aw=>?_);have s:=p.call aw;refine BQ (AE 0 rfl Ack rfl AW s rfl) rfl rfl<|Df 1 rfl<|Cd (fun bn ab=>?_);have ac:=s.call ab;refine Ah 1 rfl AW ac rfl (Bc rfl) fun bo u a7=>Ac<|Ax<|An<|Aq<|An<|By ?_;have h:=BP.out h o;refine Aq<|Bs ?_
    cases h
    refine Bz rfl (.tmp rfl) (.cell rfl Ack rfl AW (AL (i:=1) u rfl)) ⟨u.ext,rfl⟩
   refine Av<|Ao<|Aw<|As 2 rfl<|AK<|AF<|Ao<|Aw<|As 1 rfl<|Az h fun ad h=>Ag (A1 rfl ad) rfl<|As 1 rfl<|AK ?_;have ae:=p.AQ (i:=0) rfl;have h:=BP.again h o;refine AN (a6.1,(a+1),y) (Sub.of rfl) ⟨ae,h⟩ (Nat.lt_succ_self _)
  refine Br<|AG<|A6 ?_;have h:=BP.out h o;refine Be<|A8 b (Sub.of rfl) ⟨c,h⟩
 rintro d bp ⟨ax,h⟩;refine Bi 1 rfl<|Ag (AR rfl (fun _=>Cf _)) rfl<|As 1 rfl<|Ah 0 rfl AW ax rfl (Bc rfl) fun bq v a8=>Ac<|Ax ?_
 cases h
 refine Bz rfl (.tmp rfl) (.cell rfl Ack rfl AW (AL (i:=0) v rfl)) ⟨v.ext,rfl⟩
theorem Pk(n:Nat):GS (Ej n):=by
 induction n with
 | zero=>unfold GS;intros;rename_i h;cases h
 | succ n ih=>exact NB (Ej n) ih
theorem Qu(w:World)(H:PH)(hH:Le H (hp w)){a0:Go.L.Qv}{a1 a2:Int}{a b c:Value}(d:AI .st H a (a0.f.2.1))(e:AI .byte H b (a0.f.2.2.2.1))(g:AI .Bg H c (a0.f.2.2.2.2.2.2)){r:Int×(Int×Int)}(h:LR a0 a1 a2=some r):Ok prog 35 [.agg #[No a0.f.1,a,Abj a0.f.2.2.1,b,No a0.f.2.2.2.2.1,No a0.f.2.2.2.2.2.1,c],No a1,No a2] w (fun v w'=>Ext w w'/\v=.tuple #[No r.1,.agg #[No r.2.1,No r.2.2]]):=Pk 1000 w H hH d e g h
def HF(c:Abk)(a b:Int):Option ((Abk×Int) ⊕ (Abk)):=
 AS (B0 (48+b)) (AS (Go.E.J3 1 (([(Go.L.u8 (48+b))]).length+c.length)) (AS (-9223372036854775808<=a/\a<=9223372036854775807/\0<(10:Int)) (some (Sum.inl (([(Go.L.u8 (48+b))]++c),(Int.tdiv a (10:Int)))))))
def KW(a0:Int)(a:Abk):Option Abk:=
 if a0<0 then AS (Go.E.J3 1 (([(45:UInt8)]).length+a.length)) (some (([(45:UInt8)]++a))) else some a
def Ek(a0:Int):Abk×Int->Option ((Abk×Int) ⊕ (Abk)):=fun⟨b,a⟩=>
 if a=0 then Option.map Sum.inr ((KW a0) b) else AS (-9223372036854775808<=a/\a<=9223372036854775807/\0<(10:Int)) (if(Int.tmod a (10:Int))<0 then AS (B0 (-(Int.tmod a (10:Int)))) ((HF b a) (-(Int.tmod a (10:Int)))) else(HF b a) (Int.tmod a (10:Int)))
def NQ(a0:Int)(s:Abk×Int):Option Abk:=Go.L.run (Ek a0) s
def Ht(a0:Int):Option Abk:=
 if a0=0 then some (([48]:Abk)) else(NQ a0) (([]:Abk),a0)
theorem Jo(w:World)(H:PH)(hH:Le H (hp w)){a0:Int}{r:Abk}(h:Ht a0=some r):
  Ok prog 40 [No a0] w (fun v w'=>Ext w w'/\v=(Abj r)):=by
 refine A3 (n:=32) [(0,No a0)] func40 rfl fun hL=>AD 1 rfl<|A7<|AD 2 rfl<|AM rfl h (fun az h=>?_) (fun az h=>?_)
 ·refine AD 1 rfl<|Ax<|An ?_
  cases h
  refine Ak rfl ⟨hL.ext,rfl⟩
 refine Av<|Ao<|AD 1 rfl<|Bo (σ:=Abk×Value×(List Value)) (fun⟨k,o,g⟩=>[(0,No a0),(3,o)]) (fun⟨k,o,g⟩ wr=>DF w [.row o 5 1 (k).length g] wr fun Oz=>AJ .byte (gz H w wr Oz) k g/\(KW a0) k=some r) ?_ ?_
 ·refine AD 2 rfl<|A5 ?_;obtain⟨ad,a3,ae⟩:=C0 .byte H 5 hL;obtain⟨u,h⟩:=AZ h;refine Bx (σ:=Abk×Int×Value×(List Value)×Nat) (fun⟨e,a,f,b,n⟩=>[(0,No a0),(3,f),(4,No a)]) (fun⟨e,a,f,b,n⟩ wr=>DF w [.row f 5 1 (e).length b] wr fun Oz=>AJ .byte (gz H w wr Oz) e b/\F6 (Ek a0) n (e,a)=some r) (fun⟨e,a,f,b,n⟩=>n) (([]:Abk),a0,Aa8,[],u) (Sub.of rfl) ⟨ad,ae,h⟩ ?_;rintro⟨e,a,f,b,nn64⟩ a6 ⟨p,c,h⟩;obtain⟨u,a1,rfl,h,x⟩:=AY h;refine A7<|AD 2 rfl<|BV rfl h (fun af h=>?_) (fun af h=>?_)
  ·refine Av<|Ao<|A7<|A5<|Bi 1 rfl<|Az h fun ag h=>Ag (Ady rfl rfl ag) rfl<|A4 1 rfl<|Bo (σ:=Int) (fun d=>[(0,No a0),(3,f),(4,No a),(5,No d)]) (fun d wr=>DF w [.row f 5 1 (e).length b] wr fun Oz=>AJ .byte (gz H w wr Oz) e b/\(HF e a) d=some a1) ?_ ?_
   ·refine AD 2 rfl<|AM rfl h (fun ah h=>?_) (fun ah h=>?_)
    ·refine Aw<|As 1 rfl<|Az h fun ai h=>Ag (Aei rfl ai) rfl<|As 1 rfl<|AK<|A8 (-(Int.tmod a (10:Int))) (Sub.of rfl) ⟨p,c,h⟩
    refine Av<|A8 (Int.tmod a (10:Int)) (Sub.of rfl) ⟨p,c,h⟩
   rintro d a7 ⟨aj,c,h⟩;refine Aw<|As 1 rfl<|Az h fun ak h=>Ag (A1 rfl ak) rfl<|Ag (DE Abn Ac5 rfl (Hm _)) rfl<|Kt (r:=.byte) (l:=[(Go.L.u8 (48+d))]) rfl (fun _=>EC _ _) rfl (leMax 1) hH aj (.c1 rfl .nil) fun bc bd a8 y ab q=>As 1 rfl ?_;have c:=c.mono (Ab hH ab);have al:=y.Cz hH (i:=1) rfl c;have am:=y.AQ (i:=1) rfl;refine Az h fun an h=>?_;have q:=q.mono (Ab hH (Au (i:=1) rfl));refine Bt (r:=.byte) (l:=[(Go.L.u8 (48+d))]) (m:=e) 0 rfl rfl AbF LH rfl (by decide) rfl hH am rfl q al an fun a2 be ao ap a4 aq=>As 1 rfl<|AK<|AF<|Ao<|Aw<|As 1 rfl<|Az h fun ar h=>Ag (Adx rfl rfl ar) rfl<|As 1 rfl<|AK ?_;have h:=BP.again h x;refine AN (([(Go.L.u8 (48+d))]++e),(Int.tdiv a (10:Int)),a2,ao,u) (Sub.of rfl) ⟨ap,aq,h⟩ (Nat.lt_succ_self _)
  refine Br<|AG<|A6 ?_;have h:=BP.out h x;refine Be<|A8 (e,f,b) (Sub.of rfl) ⟨p,c,h⟩
 rintro⟨k,o,g⟩ a9 ⟨s,j,h⟩;refine A7<|AD 2 rfl<|AM rfl h (fun au h=>?_) (fun au h=>?_)
 ·refine Aw<|Kt (r:=.byte) (l:=[(45:UInt8)]) rfl (fun _=>EC _ _) rfl (leMax 1) hH s (.c1 rfl .nil) fun bf bg ba z ac t=>As 1 rfl ?_;have j:=j.mono (Ab hH ac);have av:=z.Cz hH (i:=1) rfl j;have aw:=z.AQ (i:=1) rfl;refine Az h fun ax h=>?_;have t:=t.mono (Ab hH (Au (i:=1) rfl));refine Bt (r:=.byte) (l:=[(45:UInt8)]) (m:=k) 0 rfl rfl AbF LH rfl (by decide) rfl hH aw rfl t av ax fun bh bi bb aa a5 ay=>As 1 rfl<|AK<|Ao<|Bi 1 rfl<|Ag (KJ rfl AbF Ac5 Ab1 (aa.UD hH (i:=0) rfl ay) (Le.refl _)) rfl<|A4 1 rfl<|Ax ?_
  cases h
  refine Ak rfl ⟨aa.ext,rfl⟩
 refine Av<|Ao<|Bi 1 rfl<|Ag (KJ rfl AbF Ac5 Ab1 (s.UD hH (i:=0) rfl j) (Le.refl _)) rfl<|A4 1 rfl<|Ax ?_
 cases h
 refine Ak rfl ⟨s.ext,rfl⟩
def GU(a0:Abk)(b:Abk)(a:Int)(c:Bool):Option ((Abk×Int) ⊕ (Abk)):=
 if c then AS (0<=a/\a<(a0.length:Int)) (AS (Go.E.J3 1 (b.length+([a0.getD a.toNat default]).length)) (AS (B0 (a+1)) (some (Sum.inl ((b++[a0.getD a.toNat default]),(a+1)))))) else AS (0<=a/\a<(a0.length:Int)) (AS (0<=((a0.getD a.toNat default).toNat:Int)/\((a0.getD a.toNat default).toNat:Int)<=9223372036854775807/\0<(16:Int)) (Option.bind (HL (((a0.getD a.toNat default).toNat:Int) / (16:Int))) (fun d=>AS (0<=a/\a<(a0.length:Int)) (AS (0<=((a0.getD a.toNat default).toNat:Int)/\((a0.getD a.toNat default).toNat:Int)<=9223372036854775807/\0<(16:Int)) (Option.bind (HL (((a0.getD a.toNat default).toNat:Int) % (16:Int))) (fun e=>AS (Go.E.J3 1 (b.length+([(92:UInt8),d,e]).length)) (AS (B0 (a+1)) (some (Sum.inl ((b++[(92:UInt8),d,e]),(a+1)))))))))))
def LS(a:Abk):Option Abk:=
 AS (Go.E.J3 1 (a.length+([(39:UInt8)]).length)) (some ((a++[(39:UInt8)])))
def Gf(a0:Abk):Abk×Int->Option ((Abk×Int) ⊕ (Abk)):=fun⟨b,a⟩=>
 if a<(a0.length:Int) then AS (0<=a/\a<(a0.length:Int)) (if 32<=((a0.getD a.toNat default).toNat:Int)/\((a0.getD a.toNat default).toNat:Int)<=126 then AS (0<=a/\a<(a0.length:Int)) (if((a0.getD a.toNat default).toNat:Int)=39 then(GU a0 b a) false else AS (0<=a/\a<(a0.length:Int)) ((GU a0 b a) (!decide (((a0.getD a.toNat default).toNat:Int)=92)))) else(GU a0 b a) false) else Option.map Sum.inr (LS b)
def O6(a0:Abk)(s:Abk×Int):Option Abk:=Go.L.run (Gf a0) s
def KR(a0:Abk):Option Abk:=
 (O6 a0) ([(39:UInt8)],0)
theorem O7(w:World)(H:PH)(hH:Le H (hp w)){a0:Abk}{x:Value}(k:AI .byte H x a0){r:Abk}(h:KR a0=some r):
  Ok prog 41 [x] w (fun v w'=>Ext w w'/\v=(Abj r)):=by
 refine A3 (n:=60) [(0,x)] func41 rfl fun hL=>AD 1 rfl<|Am<|Kt (r:=.byte) (l:=[(39:UInt8)]) rfl (fun _=>EC _ _) rfl (leMax 1) hH hL (.c1 rfl .nil) fun v1 w1 bx bz ce b0=>A4 1 rfl<|Bo (σ:=Abk×Value×(List Value)) (fun⟨z,aa,p⟩=>[(3,aa)]) (fun⟨z,aa,p⟩ wr=>DF w [.row aa 5 1 (z).length p] wr fun Oz=>AJ .byte (gz H w wr Oz) z p/\LS z=some r) ?_ ?_
 ·refine AD 1 rfl<|A5 ?_;obtain⟨ab,h⟩:=AZ h;refine Bx (σ:=Abk×Int×Value×(List Value)×Nat) (fun⟨c,a,g,f,n⟩=>[(0,x),(3,g),(4,No a)]) (fun⟨c,a,g,f,n⟩ wr=>DF w [.row g 5 1 (c).length f] wr fun Oz=>AJ .byte (gz H w wr Oz) c f/\F6 (Gf a0) n (c,a)=some r) (fun⟨c,a,g,f,n⟩=>n) ([(39:UInt8)],0,v1,bx,ab) (Sub.of rfl) ⟨bz,b0,h⟩ ?_;rintro⟨c,a,g,f,nn148⟩ b4 ⟨t,b,h⟩;obtain⟨ab,bt,rfl,h,ac⟩:=AY h;refine A7<|Bi 2 rfl<|Ag (Bu rfl AbF k) rfl<|A4 1 rfl<|AM rfl h (fun a1 h=>?_) (fun a1 h=>?_)
  ·refine Av<|Ao<|A7<|A5<|Bo (σ:=Bool) (fun j=>[(0,x),(3,g),(4,No a),(31,.bool j)]) (fun j wr=>DF w [.row g 5 1 (c).length f] wr fun Oz=>AJ .byte (gz H w wr Oz) c f/\(GU a0 c a) j=some bt) ?_ ?_
   ·refine Aw<|As 2 rfl<|Az h fun aj h=>Bf rfl rfl AbF LH k a.toNat (EX aj) (Ba aj) rfl ?_;rintro cf _ rfl a2;refine Ag (Bj rfl Ac5 rfl a2 (hH.trans t.arg)) rfl<|Ag (DE Ac5 Abn rfl (EB _)) rfl<|AA rfl rfl t (Wd _ _ (Ar hH t)) fun cg b5 o y=>As 1 rfl<|AP (s:=18) rfl (fun d=>?_) (fun d=>?_)
    ·have h:=BI (of_decide_eq_true d) h;refine Aa rfl d<|Ag (Ad rfl) rfl<|Aa rfl d<|Ag (Ad rfl) rfl<|Aa rfl d<|Az h fun ak h=>Bf rfl rfl AbF LH k a.toNat (EX ak) (Ba ak) rfl ?_;rintro ch _ rfl a3;refine Aa rfl d<|Ag (Bj rfl Ac5 rfl a3 (hH.trans o.arg)) rfl<|Aa rfl d<|Ag (Ad rfl) rfl<|Ag (A2 rfl d rfl) rfl<|As 1 rfl<|AP (s:=25) rfl (fun e=>?_) (fun e=>?_)
     ·have h:=BJ (CG e) h;refine Aa rfl e<|Ag (Ad rfl) rfl<|Aa rfl e<|Ag (Ad rfl) rfl<|Aa rfl e<|Az h fun al h=>Bf rfl rfl AbF LH k a.toNat (EX al) (Ba al) rfl ?_;rintro ci _ rfl a4;refine Aa rfl e<|Ag (Bj rfl Ac5 rfl a4 (hH.trans o.arg)) rfl<|Aa rfl e<|Ag (Ad rfl) rfl<|Ag (A2 rfl e rfl) rfl<|AK ?_;have b:=b.mono (Ab hH y);refine A8 (!decide (((a0.getD a.toNat default).toNat:Int)=92)) (Sub.of rfl) ⟨o,b,h⟩
     have h:=BI (CH e) h
     iterate 5 refine Ai rfl e rfl ?_
     refine Ag (A9 rfl e rfl) rfl<|AK ?_;have b:=b.mono (Ab hH y);refine A8 false (Sub.of rfl) ⟨o,b,h⟩
    have h:=BJ (of_decide_eq_false d) h
    iterate 5 refine Ai rfl d rfl ?_
    refine Ag (A9 rfl d rfl) rfl<|As 1 rfl ?_
    iterate 5 refine Ai rfl rfl rfl ?_
    refine Ag (A9 rfl rfl rfl) rfl<|AK ?_;have b:=b.mono (Ab hH y);refine A8 false (Sub.of rfl) ⟨o,b,h⟩
   rintro j b6 ⟨u,b,h⟩;refine Bb rfl h (fun a5 h=>?_) (fun a5 h=>?_)
   ·refine Aw<|As 3 rfl<|Az h fun am h=>Bf rfl rfl AbF LH k a.toNat (EX am) (Ba am) rfl ?_;rintro cj _ rfl a6;refine Ag (Bj rfl Ac5 rfl a6 (hH.trans u.arg)) rfl<|Bp (r:=.byte) (l:=[a0.getD a.toNat default]) rfl (fun _=>EC _ _) rfl (leMax 1) hH u (.c1 rfl .nil) fun ck cl b7 a7 aw a8=>Az h fun a9 h=>?_;have b:=b.mono (Ab hH aw);refine Bt (r:=.byte) (l:=c) (m:=[a0.getD a.toNat default]) 0 rfl rfl AbF LH rfl (by decide) rfl hH a7 rfl b a8 a9 fun bu cm ba bb b1 bc=>As 1 rfl<|AK<|AF<|Ao<|Aw<|As 1 rfl<|Az h fun bd h=>Ag (A1 rfl bd) rfl<|As 1 rfl<|AK ?_;have h:=BP.again h ac;refine AN ((c++[a0.getD a.toNat default]),(a+1),bu,ba,ab) (Sub.of rfl) ⟨bb,bc,h⟩ (Nat.lt_succ_self _)
   refine PI (.q 0 (.q 1 (.q 2 (.q 3 (.q 4 (.q 5 (.q 6 (.q 7 (.q 8 (.q 9 (.q 10 (.q 11 (.q 12 (.q 13 (.q 14 (.h 15 (.tail 16))))))))))))))))) mixed (by kernel_rfl) (fun cn an=>?_);have ad:=u.call an;have ax:=AT u an;refine Df 3 rfl<|Az h fun ao h=>HX rfl rfl rfl AbF LH k a.toNat (EX ao) (Ba ao) rfl ?_;rintro co _ rfl be;refine BQ (Bj rfl Ac5 rfl be (hH.trans ad.arg)) rfl rfl<|BQ (DE Ac5 Abn rfl (EB _)) rfl rfl<|Az h fun bf h=>BQ (Aec rfl rfl bf) rfl rfl<|Ay h fun ah bg h=>Ec rfl rfl rfl (fun cp b8=>Nc _ _ (Le.refl _) bg)<|Df 2 rfl<|Az h fun ap h=>HX rfl rfl rfl AbF LH k a.toNat (EX ap) (Ba ap) rfl ?_;rintro cq _ rfl bh;refine BQ (Bj rfl Ac5 rfl bh (hH.trans ad.arg)) rfl rfl<|BQ (DE Ac5 Abn rfl (EB _)) rfl rfl<|Az h fun aq h=>BQ (Aed rfl rfl ⟨aq.1,aq.2.2⟩) rfl rfl<|Ay h fun ai bi h=>Ec rfl rfl rfl (fun cr b9=>Nc _ _ (Le.refl _) bi) ?_
   refine MD (r:=.byte) (l:=[(92:UInt8),ah,ai]) rfl rfl (fun _=>UU _ _ _ _) rfl (leMax 3) hH ad (.c1 rfl (.c1 rfl (.c1 rfl .nil))) fun cs ct ca ar ay ae=>Cd (fun cu au=>?_);have bj:=ar.call au;have ag:=AT ar au;refine Az h fun bk h=>?_;have b:=b.mono (Ab hH (ax.trans (ay.trans ag)));have ae:=ae.mono (Ab hH ag);refine Bt (r:=.byte) (l:=c) (m:=[(92:UInt8),ah,ai]) 0 rfl rfl AbF LH rfl (by decide) rfl hH bj rfl b ae bk fun bv cv bl bm b2 bn=>As 1 rfl<|AK<|AF<|Ao<|Aw<|As 1 rfl<|Az h fun bo h=>Ag (A1 rfl bo) rfl<|As 1 rfl<|AK ?_;have h:=BP.again h ac;refine AN ((c++[(92:UInt8),ah,ai]),(a+1),bv,bl,ab) (Sub.of rfl) ⟨bm,bn,h⟩ (Nat.lt_succ_self _)
  refine Br<|AG<|A6 ?_;have h:=BP.out h ac;refine Be<|A8 (c,g,f) (Sub.of rfl) ⟨t,b,h⟩
 rintro⟨z,aa,p⟩ cw ⟨bw,af,h⟩;refine Bi 1 rfl<|Bp (r:=.byte) (l:=[(39:UInt8)]) rfl (fun _=>EC _ _) rfl (leMax 1) hH bw (.c1 rfl .nil) fun cx cy cb bp az bq=>Az h fun br h=>?_;have af:=af.mono (Ab hH az);refine Bt (r:=.byte) (l:=z) (m:=[(39:UInt8)]) 0 rfl rfl AbF LH rfl (by decide) rfl hH bp rfl af bq br fun cz c0 cc av b3 bs=>Ag (KJ rfl AbF Ac5 Ab1 (av.UD hH (i:=0) rfl bs) (Le.refl _)) rfl<|A4 1 rfl<|Ax ?_
 cases h
 refine Ak rfl ⟨av.ext,rfl⟩
def DO:Option Bool:=
 some true
def CI(a0:Go.L.Qv)(a1:Go.L.Qv)(self:Go.L.Qv->Go.L.Qv->Option Bool):Int->Option ((Int) ⊕ (Bool)):=fun a=>
 if a<(a0.f.2.2.2.2.2.2.length:Int) then AS (0<=a/\a<(a0.f.2.2.2.2.2.2.length:Int)) (AS (0<=a/\a<(a1.f.2.2.2.2.2.2.length:Int)) (Option.bind (self (a0.f.2.2.2.2.2.2.getD a.toNat default) (a1.f.2.2.2.2.2.2.getD a.toNat default)) (fun b=>if !b then Option.map Sum.inr (some false) else AS (B0 (a+1)) (some (Sum.inl (a+1)))))) else Option.map Sum.inr DO
def Hu(a0:Go.L.Qv)(a1:Go.L.Qv)(self:Go.L.Qv->Go.L.Qv->Option Bool)(s:Int):Option Bool:=Go.L.run (CI a0 a1 self) s
def Ft(a0:Go.L.Qv)(a1:Go.L.Qv)(self:Go.L.Qv->Go.L.Qv->Option Bool):Option Bool:=
 (Hu a0 a1 self) (0:Int)
def Di(self:Go.L.Qv->Go.L.Qv->Option Bool)(a0:Go.L.Qv)(a1:Go.L.Qv):Option Bool:=
 if((((!decide (a0.f.1=a1.f.1))||(!decide (a0.f.2.2.1=a1.f.2.2.1)))||(!decide (a0.f.2.2.2.2.1=a1.f.2.2.2.2.1)))||(!decide (a0.f.2.2.2.2.2.1=a1.f.2.2.2.2.2.1))) then some false else Option.bind (GQ a0.f.2.2.2.1 a1.f.2.2.2.1) (fun a=>if !a then some false else Option.bind (Kv a0.f.2.1 a1.f.2.1) (fun b=>if((!b)||(!decide ((a0.f.2.2.2.2.2.2.length:Int)=(a1.f.2.2.2.2.2.2.length:Int)))) then some false else(Ft a0 a1 self)))
def GV(self:Go.L.Qv->Go.L.Qv->Option Bool):Prop:=∀ (w:World) (H:PH) (hH:Le H (hp w)) {a0:Go.L.Qv} {a1:Go.L.Qv} {a:Value} {b:Value} {c:Value} {d:Value} {e:Value} {g:Value} (i:AI .st H a (a0.f.2.1)) (j:AI .byte H b (a0.f.2.2.2.1)) (k:AI .Bg H c (a0.f.2.2.2.2.2.2)) (l:AI .st H d (a1.f.2.1)) (m:AI .byte H e (a1.f.2.2.2.1)) (n:AI .Bg H g (a1.f.2.2.2.2.2.2)) {r:Bool} (h:self a0 a1=some r),Ok prog 17 [.agg #[No a0.f.1,a,Abj a0.f.2.2.1,b,No a0.f.2.2.2.2.1,No a0.f.2.2.2.2.2.1,c],.agg #[No a1.f.1,d,Abj a1.f.2.2.1,e,No a1.f.2.2.2.2.1,No a1.f.2.2.2.2.2.1,g]] w (fun v w'=>Ext w w'/\v=.bool r)
def El:Nat->Go.L.Qv->Go.L.Qv->Option Bool
 | 0=>fun _ _=>none
 | n+1=>Di (El n)
def DP:Go.L.Qv->Go.L.Qv->Option Bool:=El 1000
theorem NC(self:Go.L.Qv->Go.L.Qv->Option Bool)(hself:GV self):GV (Di self):=by
 intro w H hH a0 a1 o p u v x y a2 a3 ac a4 a5 ah r h;unfold GV at hself;refine A3 (n:=76) [(0,.agg #[No a0.f.1,o,Abj a0.f.2.2.1,p,No a0.f.2.2.2.2.1,No a0.f.2.2.2.2.2.1,u]),(1,.agg #[No a1.f.1,v,Abj a1.f.2.2.1,x,No a1.f.2.2.2.2.1,No a1.f.2.2.2.2.2.1,y])] func17 rfl fun hL=>Am<|CY (t:=26) rfl rfl rfl hL fun w1 b1 bc bh _=>CY (t:=26) rfl rfl rfl bc fun w2 b2 k bi _=>A4 1 rfl<|Bo (σ:=Unit) (fun(_:Unit)=>[(2,(Abi b1)),(3,(Abi b2))]) (fun(_:Unit) wr=>Bd w [.box b2 [No a1.f.1,v,Abj a1.f.2.2.1,x,No a1.f.2.2.2.2.1,No a1.f.2.2.2.2.2.1,y] 26,.box b1 [No a0.f.1,o,Abj a0.f.2.2.1,p,No a0.f.2.2.2.2.1,No a0.f.2.2.2.2.2.1,u] 26] wr/\(Ft a0 a1 self)=some r) ?_ ?_
 ·refine Am<|Ag (Ae rfl AcF rfl Cj) rfl<|Ag (Af 1 rfl Abn rfl k rfl) rfl<|Ag (Ae rfl AcF rfl Cj) rfl<|Ag (Af 0 rfl Abn rfl k rfl) rfl<|As 2 rfl<|GP 6 17 (.bool ((!decide (a0.f.1=a1.f.1))||(!decide (a0.f.2.2.1=a1.f.2.2.1)))) (fun ak=>?_) ?_
  ·refine AP (s:=11) rfl (fun e=>?_) (fun e=>?_)
   ·iterate 5 refine Ai rfl e rfl ?_
    refine Ag (A2 rfl e rfl) rfl<|ak.to 5 (PN e) rfl rfl
   refine Aa rfl e<|Ag (Ae rfl AcF rfl EZ) rfl<|Aa rfl e<|Ag (Af 1 rfl Ab1 rfl k rfl) rfl<|Aa rfl e<|Ag (Ae rfl AcF rfl EZ) rfl<|Aa rfl e<|Ag (Af 0 rfl Ab1 rfl k rfl) rfl<|Aa rfl e<|Ag (Mn rfl rfl) rfl<|Ag (A9 rfl e rfl) rfl<|ak.to 5 (PO e) rfl rfl
  refine As 1 rfl<|GP 6 24 (.bool (((!decide (a0.f.1=a1.f.1))||(!decide (a0.f.2.2.1=a1.f.2.2.1)))||(!decide (a0.f.2.2.2.2.1=a1.f.2.2.2.2.1)))) (fun al=>?_) ?_
  ·refine AP (s:=18) rfl (fun g=>?_) (fun g=>?_)
   ·iterate 5 refine Ai rfl g rfl ?_
    refine Ag (A2 rfl g rfl) rfl<|al.to 5 (PN g) rfl rfl
   refine Aa rfl g<|Ag (Ae rfl AcF rfl Cj) rfl<|Aa rfl g<|Ag (Af 1 rfl Abn rfl k rfl) rfl<|Aa rfl g<|Ag (Ae rfl AcF rfl Cj) rfl<|Aa rfl g<|Ag (Af 0 rfl Abn rfl k rfl) rfl<|Aa rfl g<|Ag (Ad rfl) rfl<|Ag (A9 rfl g rfl) rfl<|al.to 5 (PO g) rfl rfl
  refine As 1 rfl<|GP 6 31 (.bool ((((!decide (a0.f.1=a1.f.1))||(!decide (a0.f.2.2.1=a1.f.2.2.1)))||(!decide (a0.f.2.2.2.2.1=a1.f.2.2.2.2.1)))||(!decide (a0.f.2.2.2.2.2.1=a1.f.2.2.2.2.2.1)))) (fun am=>?_) ?_
  ·refine AP (s:=25) rfl (fun i=>?_) (fun i=>?_)
   ·iterate 5 refine Ai rfl i rfl ?_
    refine Ag (A2 rfl i rfl) rfl<|am.to 5 (PN i) rfl rfl
   refine Aa rfl i<|Ag (Ae rfl AcF rfl Cj) rfl<|Aa rfl i<|Ag (Af 1 rfl Abn rfl k rfl) rfl<|Aa rfl i<|Ag (Ae rfl AcF rfl Cj) rfl<|Aa rfl i<|Ag (Af 0 rfl Abn rfl k rfl) rfl<|Aa rfl i<|Ag (Ad rfl) rfl<|Ag (A9 rfl i rfl) rfl<|am.to 5 (PO i) rfl rfl
  refine As 1 rfl<|AP (s:=32) rfl (fun c=>?_) (fun c=>?_)
  ·have h:=HA c h
   iterate 6 refine Ai rfl c rfl ?_
   refine Ag (A2 rfl c rfl) rfl<|As 1 rfl ?_
   iterate 6 refine Ai rfl rfl rfl ?_
   refine Ag (A2 rfl rfl rfl) rfl<|As 1 rfl ?_
   iterate 7 refine Ai rfl rfl rfl ?_
   refine Ag (A2 rfl rfl rfl) rfl<|Ac<|Cg rfl<|AD 1 rfl<|Ax<|Bs ?_
   cases h
   refine Ak rfl ⟨k.ext,rfl⟩
  have h:=HB c h;refine Aa rfl c<|Ag (Ae rfl AcF rfl F7) rfl<|Aa rfl c<|Ag (Af 1 rfl AbF rfl k rfl) rfl<|Aa rfl c<|Ag (Ae rfl AcF rfl F7) rfl<|Aa rfl c<|Ag (Af 0 rfl AbF rfl k rfl) rfl<|Aa rfl c<|Ay h fun bs a6 h=>AA rfl rfl k (Mq _ _ (Ar hH k) (a3.mono (Aj hH)) (a5.mono (Aj hH)) a6) fun bt bj m be=>Aa rfl c<|Ag (Ad rfl) rfl<|Ag (A9 rfl c rfl) rfl<|As 1 rfl<|AP (s:=40) rfl (fun d=>?_) (fun d=>?_)
  ·have h:=HA d h
   iterate 6 refine Ai rfl d rfl ?_
   refine Ag (A2 rfl d rfl) rfl<|As 1 rfl ?_
   iterate 7 refine Ai rfl rfl rfl ?_
   refine Ag (A2 rfl rfl rfl) rfl<|Ac<|Cg rfl<|AD 1 rfl<|Ax<|Bs ?_
   cases h
   refine Ak rfl ⟨m.ext,rfl⟩
  have h:=HB d h;refine Aa rfl d<|Ag (Ae rfl AcF rfl IW) rfl<|Aa rfl d<|Ag (Af 1 rfl Ac7 rfl m rfl) rfl<|Aa rfl d<|Ag (Ae rfl AcF rfl IW) rfl<|Aa rfl d<|Ag (Af 0 rfl Ac7 rfl m rfl) rfl<|Aa rfl d<|Ay h fun bd a7 h=>AA rfl rfl m (TK _ _ (Ar hH m) (a2.mono (Aj hH)) (a4.mono (Aj hH)) a7) fun bu bk z bf=>Aa rfl d<|Ag (Ad rfl) rfl<|Ag (A9 rfl d rfl) rfl<|As 1 rfl<|GP 8 56 (.bool ((!bd)||(!decide ((a0.f.2.2.2.2.2.2.length:Int)=(a1.f.2.2.2.2.2.2.length:Int))))) (fun an=>?_) ?_
  ·refine AP (s:=48) rfl (fun b=>?_) (fun b=>?_)
   ·iterate 7 refine Ai rfl b rfl ?_
    refine Ag (A2 rfl b rfl) rfl<|an.to 7 (PN b) rfl rfl
   refine Aa rfl b<|Ag (Ae rfl AcF rfl G5) rfl<|Aa rfl b<|Ag (Af 1 rfl Afy rfl z rfl) rfl<|Aa rfl b<|Ag (Bu rfl Afy ac) rfl<|Aa rfl b<|Ag (Ae rfl AcF rfl G5) rfl<|Aa rfl b<|Ag (Af 0 rfl Afy rfl z rfl) rfl<|Aa rfl b<|Ag (Bu rfl Afy ah) rfl<|Aa rfl b<|Ag (Ad rfl) rfl<|Ag (A9 rfl b rfl) rfl<|an.to 7 (PO b) rfl rfl
  refine Ac<|Bb rfl h (fun a8 h=>?_) (fun a8 h=>?_)
  ·refine AD 1 rfl<|Ax<|Bs ?_
   cases h
   refine Ak rfl ⟨z.ext,rfl⟩
  refine Av<|A8 () (Sub.of rfl) ⟨z,h⟩
 rintro _ bl ⟨a9,h⟩;refine Bo (σ:=Unit) (fun(_:Unit)=>[]) (fun(_:Unit) wr=>Bd w [.box b2 [No a1.f.1,v,Abj a1.f.2.2.1,x,No a1.f.2.2.2.2.1,No a1.f.2.2.2.2.2.1,y] 26,.box b1 [No a0.f.1,o,Abj a0.f.2.2.1,p,No a0.f.2.2.2.2.1,No a0.f.2.2.2.2.2.1,u] 26] wr/\DO=some r) ?_ ?_
 ·refine AD 1 rfl<|A5 ?_;obtain⟨ad,h⟩:=AZ h;refine Bx (σ:=Int×Nat) (fun⟨j,n⟩=>[(2,(Abi b1)),(3,(Abi b2)),(5,No j)]) (fun⟨j,n⟩ wr=>Bd w [.box b2 [No a1.f.1,v,Abj a1.f.2.2.1,x,No a1.f.2.2.2.2.1,No a1.f.2.2.2.2.2.1,y] 26,.box b1 [No a0.f.1,o,Abj a0.f.2.2.1,p,No a0.f.2.2.2.2.1,No a0.f.2.2.2.2.2.1,u] 26] wr/\F6 (CI a0 a1 self) n j=some r) (fun⟨j,n⟩=>n) (0,ad) (Sub.of rfl) ⟨a9,h⟩ ?_;rintro⟨j,nn100⟩ bg ⟨aa,h⟩;obtain⟨ad,bm,rfl,h,ab⟩:=AY h;refine A7<|Bi 1 rfl<|Ag (Ae rfl AcF rfl G5) rfl<|Ag (Af 1 rfl Afy rfl aa rfl) rfl<|Ag (Bu rfl Afy ac) rfl<|A4 1 rfl<|AM rfl h (fun aq h=>?_) (fun aq h=>?_)
  ·refine Av<|Ao<|A7<|A5<|DD (.q 0 (.q 1 (.q 2 (.q 3 (.q 4 (.q 5 (.q 6 (.q 7 (.q 8 (.q 9 (.q 10 (.q 11 (.tail 12))))))))))))) mixed (by kernel_rfl) (fun ba ar=>?_);have a:=aa.call ar;refine BQ (Ae rfl AcF rfl G5) rfl rfl<|BQ (Af 1 rfl Afy rfl a rfl) rfl rfl<|Df 1 rfl<|Az h fun ae h=>HX rfl rfl rfl Afy AO ac j.toNat (EX ae) (Ba ae) rfl ?_;rintro bn _ e106t0 au;obtain⟨_,_,rfl,rfl,⟨_,_,rfl,⟨e106v1,rfl,e106h1⟩,⟨_,_,rfl,rfl,⟨_,_,rfl,⟨e106v3,rfl,e106h3⟩,⟨_,_,rfl,rfl,⟨_,_,rfl,rfl,⟨e106v6,rfl,e106h6⟩⟩⟩⟩⟩⟩⟩:=Go.E.Rp.Dh e106t0;refine BQ (C9 rfl AcF rfl AO au (hH.trans a.arg)) rfl rfl<|BQ (Ae rfl AcF rfl G5) rfl rfl<|BQ (Af 0 rfl Afy rfl a rfl) rfl rfl<|Df 1 rfl<|Az h fun af h=>HX rfl rfl rfl Afy AO ah j.toNat (EX af) (Ba af) rfl ?_;rintro bo _ e108t0 av;obtain⟨_,_,rfl,rfl,⟨_,_,rfl,⟨e108v1,rfl,e108h1⟩,⟨_,_,rfl,rfl,⟨_,_,rfl,⟨e108v3,rfl,e108h3⟩,⟨_,_,rfl,rfl,⟨_,_,rfl,rfl,⟨e108v6,rfl,e108h6⟩⟩⟩⟩⟩⟩⟩:=Go.E.Rp.Dh e108t0;refine BQ (C9 rfl AcF rfl AO av (hH.trans a.arg)) rfl rfl<|Ay h fun bp aw h=>?_
   have ao:=(fun(ap:World) (l:Ext ba ap)=>hself ap _ (Le.refl _) ((e106h1.mono (hH.trans a.arg)).mono l.le) ((e106h3.mono (hH.trans a.arg)).mono l.le) ((e106h6.mono (hH.trans a.arg)).mono l.le) ((e108h1.mono (hH.trans a.arg)).mono l.le) ((e108h3.mono (hH.trans a.arg)).mono l.le) ((e108h6.mono (hH.trans a.arg)).mono l.le) aw);refine Ec rfl rfl rfl ao<|Df 1 rfl<|Cd (fun bq ax=>?_);have ag:=a.call ax;refine Ac<|Bb rfl h (fun ay h=>?_) (fun ay h=>?_)
   ·refine AD 1 rfl<|Ax<|Aq<|An<|By ?_;have h:=BP.out h ab;refine Aq<|Bs ?_
    cases h
    refine Ak rfl ⟨ag.ext,rfl⟩
   refine Av<|AF<|Ao<|Aw<|As 1 rfl<|Az h fun az h=>Ag (A1 rfl az) rfl<|As 1 rfl<|AK ?_;have h:=BP.again h ab;refine AN ((j+1),ad) (Sub.of rfl) ⟨ag,h⟩ (Nat.lt_succ_self _)
  refine Br<|AG<|A6 ?_;have h:=BP.out h ab;refine Be<|A8 () (Sub.nil _) ⟨aa,h⟩
 rintro _ br ⟨bb,h⟩;refine AD 1 rfl<|Ax ?_
 cases h
 refine Ak rfl ⟨bb.ext,rfl⟩
theorem Pl(n:Nat):GV (El n):=by
 induction n with
 | zero=>unfold GV;intros;rename_i h;cases h
 | succ n ih=>exact NC (El n) ih
theorem Ie(w:World)(H:PH)(hH:Le H (hp w)){a0 a1:Go.L.Qv}{a b c d e g:Value}(i:AI .st H a (a0.f.2.1))(j:AI .byte H b (a0.f.2.2.2.1))(k:AI .Bg H c (a0.f.2.2.2.2.2.2))(l:AI .st H d (a1.f.2.1))(m:AI .byte H e (a1.f.2.2.2.1))(n:AI .Bg H g (a1.f.2.2.2.2.2.2)){r:Bool}(h:DP a0 a1=some r):Ok prog 17 [.agg #[No a0.f.1,a,Abj a0.f.2.2.1,b,No a0.f.2.2.2.2.1,No a0.f.2.2.2.2.2.1,c],.agg #[No a1.f.1,d,Abj a1.f.2.2.1,e,No a1.f.2.2.2.2.1,No a1.f.2.2.2.2.2.1,g]] w (fun v w'=>Ext w w'/\v=.bool r):=Pl 1000 w H hH i j k l m n h
end Go.Proofs.YtekmbcbgknmhiaaGreatDoor
end
noncomputable section
namespace Go.Proofs.YtekmbcbgknmhiaaGreatDoor
open Go Go.E Go.RowKit Go.L
set_option maxHeartbeats 1000000
set_option maxRecDepth 10000
open _root_.Go.Proofs.Tryz
def Hv(a:Abk):Option Abk:=
 AS (([(34:UInt8)]).length+a.length<=9223372036854775807) (AS (([(34:UInt8)]++a).length+([(34:UInt8)]).length<=9223372036854775807) (some ((([(34:UInt8)]++a)++[(34:UInt8)]))))
def CJ(a0:Go.L.Qv):Abk×Int->Option ((Abk×Int) ⊕ (Abk)):=fun⟨b,a⟩=>
 if a<(a0.f.2.1.length:Int) then AS (b.length+([32]:Abk).length<=9223372036854775807) (AS (0<=a/\a<(a0.f.2.1.length:Int)) (AS ((b++([32]:Abk)).length+(a0.f.2.1.getD a.toNat default).length<=9223372036854775807) (AS (B0 (a+1)) (some (Sum.inl (((b++([32]:Abk))++a0.f.2.1.getD a.toNat default),(a+1))))))) else Option.map Sum.inr (Hv b)
def Hw(a0:Go.L.Qv)(s:Abk×Int):Option Abk:=Go.L.run (CJ a0) s
def Hx(a0:Go.L.Qv)(self2:(List Go.L.Qv)->Abk->Int->Int->Option Abk):Option Abk:=
 Option.bind (self2 a0.f.2.2.2.2.2.2 ([]:Abk) (8:Int) (9:Int)) (fun a=>AS (([33]:Abk).length+a.length<=9223372036854775807) (some ((([33]:Abk)++a))))
def GF(_self1:Go.L.Qv->Option Abk)(self2:(List Go.L.Qv)->Abk->Int->Int->Option Abk)(a0:Go.L.Qv):Option Abk:=
 if a0.f.1=1 then AS (0<=(0:Int)/\(0:Int)<(a0.f.2.1.length:Int)) (some (a0.f.2.1.getD ((0:Int).toNat) default)) else(if a0.f.1=2 then AS (0<=(0:Int)/\(0:Int)<(a0.f.2.1.length:Int)) ((Hw a0) (a0.f.2.1.getD ((0:Int).toNat) default,1)) else(if a0.f.1=3 then AS (0<=(0:Int)/\(0:Int)<(a0.f.2.1.length:Int)) (AS ((a0.f.2.1.getD ((0:Int).toNat) default).length+([126]:Abk).length<=9223372036854775807) (Option.bind (Ht a0.f.2.2.2.2.1) (fun a=>AS ((a0.f.2.1.getD ((0:Int).toNat) default++([126]:Abk)).length+a.length<=9223372036854775807) (AS (((a0.f.2.1.getD ((0:Int).toNat) default++([126]:Abk))++a).length+([126]:Abk).length<=9223372036854775807) (AS (0<=(1:Int)/\(1:Int)<(a0.f.2.1.length:Int)) (AS ((((a0.f.2.1.getD ((0:Int).toNat) default++([126]:Abk))++a)++([126]:Abk)).length+(a0.f.2.1.getD ((1:Int).toNat) default).length<=9223372036854775807) (some (((((a0.f.2.1.getD ((0:Int).toNat) default++([126]:Abk))++a)++([126]:Abk))++a0.f.2.1.getD ((1:Int).toNat) default))))))))) else(if a0.f.1=4 then Option.bind (KR a0.f.2.2.2.1) (fun e=>some e) else(if a0.f.1=5 then AS (([47]:Abk).length+a0.f.2.2.1.length<=9223372036854775807) (some ((([47]:Abk)++a0.f.2.2.1))) else(if a0.f.1=6 then AS (([47]:Abk).length+a0.f.2.2.1.length<=9223372036854775807) (AS ((([47]:Abk)++a0.f.2.2.1).length+([61]:Abk).length<=9223372036854775807) (Option.bind (Ht a0.f.2.2.2.2.1) (fun b=>AS (((([47]:Abk)++a0.f.2.2.1)++([61]:Abk)).length+b.length<=9223372036854775807) (AS ((((([47]:Abk)++a0.f.2.2.1)++([61]:Abk))++b).length+([46,46]:Abk).length<=9223372036854775807) (Option.bind (Ht a0.f.2.2.2.2.2.1) (fun c=>AS (((((([47]:Abk)++a0.f.2.2.1)++([61]:Abk))++b)++([46,46]:Abk)).length+c.length<=9223372036854775807) (some ((((((([47]:Abk)++a0.f.2.2.1)++([61]:Abk))++b)++([46,46]:Abk))++c))))))))) else(if a0.f.1=7 then AS (([47]:Abk).length+a0.f.2.2.1.length<=9223372036854775807) (AS ((([47]:Abk)++a0.f.2.2.1).length+([61]:Abk).length<=9223372036854775807) (Option.bind (KR a0.f.2.2.2.1) (fun d=>AS (((([47]:Abk)++a0.f.2.2.1)++([61]:Abk)).length+d.length<=9223372036854775807) (some ((((([47]:Abk)++a0.f.2.2.1)++([61]:Abk))++d)))))) else(if a0.f.1=8 then Option.bind (self2 a0.f.2.2.2.2.2.2 ([38]:Abk) (9:Int) (0:Int)) (fun g=>some g) else(if a0.f.1=9 then Option.bind (self2 a0.f.2.2.2.2.2.2 ([124]:Abk) (0:Int) (0:Int)) (fun h=>some h) else(Hx a0 self2)))))))))
theorem ND{self1:Go.L.Qv->Option Abk}{self2:(List Go.L.Qv)->Abk->Int->Int->Option Abk}(_hself1:∀ (w:World) (H:PH) (hH:Le H (hp w)) {a0:Go.L.Qv} {c:Value} {e:Value} {g:Value} (i:AI .st H c (a0.f.2.1)) (x:AI .byte H e (a0.f.2.2.2.1)) (s:AI .Bg H g (a0.f.2.2.2.2.2.2)) {r:Abk} (h:self1 a0=some r),Ok prog 16 [.agg #[No a0.f.1,c,Abj a0.f.2.2.1,e,No a0.f.2.2.2.2.1,No a0.f.2.2.2.2.2.1,g]] w (fun v w'=>Ext w w'/\v=(Abj r)))(hself2:∀ (w:World) (H:PH) (hH:Le H (hp w)) {a0:List Go.L.Qv} {a1:Abk} {a2:Int} {a3:Int} {c:Value} (i:AI .Bg H c a0) {r:Abk} (h:self2 a0 a1 a2 a3=some r),Ok prog 42 [c,Abj a1,No a2,No a3] w (fun v w'=>Ext w w'/\v=(Abj r)))(w:World)(H:PH)(hH:Le H (hp w)){a0:Go.L.Qv}{c e g:Value}(i:AI .st H c (a0.f.2.1))(x:AI .byte H e (a0.f.2.2.2.1))(s:AI .Bg H g (a0.f.2.2.2.2.2.2)){r:Abk}(h:GF self1 self2 a0=some r):
  Ok prog 16 [.agg #[No a0.f.1,c,Abj a0.f.2.2.1,e,No a0.f.2.2.2.2.1,No a0.f.2.2.2.2.2.1,g]] w (fun v w'=>Ext w w'/\v=(Abj r)):=by
 refine A3 (n:=107) [(0,.agg #[No a0.f.1,c,Abj a0.f.2.2.1,e,No a0.f.2.2.2.2.1,No a0.f.2.2.2.2.2.1,g])] func16 rfl fun hL=>Am<|CY (t:=26) rfl rfl rfl hL fun w1 b1 a cv _=>A4 1 rfl<|Bo (σ:=Unit) (fun(_:Unit)=>[(1,(Abi b1))]) (fun(_:Unit) wr=>Bd w [.box b1 [No a0.f.1,c,Abj a0.f.2.2.1,e,No a0.f.2.2.2.2.1,No a0.f.2.2.2.2.2.1,g] 26] wr/\(Hx a0 self2)=some r) ?_ ?_
 ·refine Am<|Ag (Ae rfl AcF rfl Cj) rfl<|Ag (Af 0 rfl Abn rfl a rfl) rfl<|Ac<|A5<|AD 2 rfl<|AM rfl h (fun ai h=>?_) (fun ai h=>?_)
  ·refine Am<|Ag (Ae rfl AcF rfl IW) rfl<|Ag (Af 0 rfl Ac7 rfl a rfl) rfl<|Az h fun z h=>Bf rfl rfl Ac7 EZ i ((0:Int).toNat) (EX z) (Ba z) rfl ?_;rintro cw _ rfl aj;refine Ag (Bj rfl Ab1 rfl aj (hH.trans a.arg)) rfl<|A4 1 rfl<|Ax<|Aq<|Bs ?_
   cases h
   refine Ak rfl ⟨a.ext,rfl⟩
  refine AD 2 rfl<|AM rfl h (fun ak h=>?_) (fun ak h=>?_)
  ·refine Am<|Ag (Ae rfl AcF rfl IW) rfl<|Ag (Af 0 rfl Ac7 rfl a rfl) rfl<|Az h fun aa h=>Bf rfl rfl Ac7 EZ i ((0:Int).toNat) (EX aa) (Ba aa) rfl ?_;rintro cx _ rfl al;refine Ag (Bj rfl Ab1 rfl al (hH.trans a.arg)) rfl<|A4 1 rfl<|Bo (σ:=Abk) (fun k=>[(3,(Abj k))]) (fun k wr=>Bd w [.box b1 [No a0.f.1,c,Abj a0.f.2.2.1,e,No a0.f.2.2.2.2.1,No a0.f.2.2.2.2.2.1,g] 26] wr/\Hv k=some r) ?_ ?_
   ·refine AD 1 rfl<|A5 ?_;obtain⟨y,h⟩:=AZ h;refine Bx (σ:=Abk×Int×Nat) (fun⟨d,b,n⟩=>[(1,(Abi b1)),(3,(Abj d)),(4,No b)]) (fun⟨d,b,n⟩ wr=>Bd w [.box b1 [No a0.f.1,c,Abj a0.f.2.2.1,e,No a0.f.2.2.2.2.1,No a0.f.2.2.2.2.2.1,g] 26] wr/\F6 (CJ a0) n (d,b)=some r) (fun⟨d,b,n⟩=>n) (a0.f.2.1.getD ((0:Int).toNat) default,1,y) (Sub.of rfl) ⟨a,h⟩ ?_;rintro⟨d,b,nn149⟩ cj ⟨m,h⟩;obtain⟨y,cy,rfl,h,ab⟩:=AY h;refine A7<|Bi 1 rfl<|Ag (Ae rfl AcF rfl IW) rfl<|Ag (Af 0 rfl Ac7 rfl m rfl) rfl<|Ag (Bu rfl Ac7 i) rfl<|A4 1 rfl<|AM rfl h (fun am h=>?_) (fun am h=>?_)
    ·refine Av<|Ao<|A7<|A5<|Aw<|As 1 rfl<|Az h fun an h=>Ag (Dx rfl rfl an) rfl<|Ag (Ae rfl AcF rfl IW) rfl<|Ag (Af 0 rfl Ac7 rfl m rfl) rfl<|As 1 rfl<|Az h fun ac h=>Bf rfl rfl Ac7 EZ i b.toNat (EX ac) (Ba ac) rfl ?_;rintro cz _ rfl ao;refine Ag (Bj rfl Ab1 rfl ao (hH.trans m.arg)) rfl<|Az h fun ap h=>Ag (Dx rfl rfl ap) rfl<|As 1 rfl<|AK<|AF<|Ao<|Aw<|As 1 rfl<|Az h fun aq h=>Ag (A1 rfl aq) rfl<|As 1 rfl<|AK ?_;have h:=BP.again h ab;refine AN (((d++([32]:Abk))++a0.f.2.1.getD b.toNat default),(b+1),y) (Sub.of rfl) ⟨m,h⟩ (Nat.lt_succ_self _)
    refine Br<|AG<|A6 ?_;have h:=BP.out h ab;refine Be<|A8 d (Sub.of rfl) ⟨m,h⟩
   rintro k ck ⟨ar,h⟩;refine Am<|Bp (r:=.byte) (l:=[(34:UInt8)]) rfl (fun _=>EC _ _) rfl (leMax 1) hH ar (.c1 rfl .nil) fun c0 c2 cl ad cd au=>Ag (KJ rfl AbF Ac5 Ab1 au (Ar hH ad)) rfl<|As 1 rfl<|Az h fun av h=>Ag (Dx rfl rfl av) rfl<|Bp (r:=.byte) (l:=[(34:UInt8)]) rfl (fun _=>EC _ _) rfl (leMax 1) hH ad (.c1 rfl .nil) fun c3 c4 cm ae ce aw=>Ag (KJ rfl AbF Ac5 Ab1 aw (Ar hH ae)) rfl<|Az h fun ax h=>Ag (Dx rfl rfl ax) rfl<|A4 1 rfl<|Ax<|Aq<|Bs ?_
   cases h
   refine Ak rfl ⟨ae.ext,rfl⟩
  refine AD 2 rfl<|AM rfl h (fun ay h=>?_) (fun ay h=>?_)
  ·refine DD (.q 0 (.q 1 (.q 2 (.q 3 (.q 4 (.q 5 (.q 6 (.q 7 (.q 8 (.q 9 (.q 10 (.q 11 (.q 12 (.q 13 (.q 14 (.q 15 (.tail 16))))))))))))))))) mixed (by kernel_rfl) (fun c5 az=>?_);have j:=a.call az;refine BQ (Ae rfl AcF rfl IW) rfl rfl<|BQ (Af 0 rfl Ac7 rfl j rfl) rfl rfl<|Az h fun af h=>HX rfl rfl rfl Ac7 EZ i ((0:Int).toNat) (EX af) (Ba af) rfl ?_;rintro c6 _ rfl a4;refine BQ (Bj rfl Ab1 rfl a4 (hH.trans j.arg)) rfl rfl<|Az h fun a5 h=>BQ (Dx rfl rfl a5) rfl rfl<|BQ (Ae rfl AcF rfl Cj) rfl rfl<|BQ (Af 0 rfl Abn rfl j rfl) rfl rfl<|Ay h fun c7 a6 h=>Ec rfl rfl rfl (fun c8 cn=>Jo _ _ (Le.refl _) a6)<|Az h fun a7 h=>BQ (Dx rfl rfl a7) rfl rfl<|Az h fun a8 h=>BQ (Dx rfl rfl a8) rfl rfl<|BQ (Ae rfl AcF rfl IW) rfl rfl<|BQ (Af 0 rfl Ac7 rfl j rfl) rfl rfl<|Az h fun ag h=>HX rfl rfl rfl Ac7 EZ i ((1:Int).toNat) (EX ag) (Ba ag) rfl ?_;rintro c9 _ rfl a9;refine BQ (Bj rfl Ab1 rfl a9 (hH.trans j.arg)) rfl rfl<|Az h fun ba h=>?_
   refine BQ (Dx rfl rfl ba) rfl rfl<|Df 1 rfl<|Cd (fun da bb=>?_);have bc:=j.call bb;refine Ac<|Ax<|Aq<|Bs ?_
   cases h
   refine Ak rfl ⟨bc.ext,rfl⟩
  refine AD 2 rfl<|AM rfl h (fun bd h=>?_) (fun bd h=>?_)
  ·refine Am<|Ag (Ae rfl AcF rfl F7) rfl<|Ag (Af 0 rfl AbF rfl a rfl) rfl<|Ay h fun db be h=>AA rfl rfl a (O7 _ _ (Ar hH a) (x.mono (Aj hH)) be) fun dc co bf cf=>A4 1 rfl<|Ax<|Aq<|Bs ?_
   cases h
   refine Ak rfl ⟨bf.ext,rfl⟩
  refine AD 2 rfl<|AM rfl h (fun bg h=>?_) (fun bg h=>?_)
  ·refine Am<|Ag (Ae rfl AcF rfl EZ) rfl<|Ag (Af 0 rfl Ab1 rfl a rfl) rfl<|Az h fun bh h=>Ag (Dx rfl rfl bh) rfl<|A4 1 rfl<|Ax<|Aq<|Bs ?_
   cases h
   refine Ak rfl ⟨a.ext,rfl⟩
  refine AD 2 rfl<|AM rfl h (fun bi h=>?_) (fun bi h=>?_)
  ·refine DD (.q 0 (.q 1 (.q 2 (.q 3 (.q 4 (.q 5 (.q 6 (.q 7 (.q 8 (.q 9 (.q 10 (.q 11 (.q 12 (.q 13 (.tail 14))))))))))))))) mixed (by kernel_rfl) (fun dd bj=>?_);have o:=a.call bj;refine BQ (Ae rfl AcF rfl EZ) rfl rfl<|BQ (Af 0 rfl Ab1 rfl o rfl) rfl rfl<|Az h fun bk h=>BQ (Dx rfl rfl bk) rfl rfl<|Az h fun bl h=>BQ (Dx rfl rfl bl) rfl rfl<|BQ (Ae rfl AcF rfl Cj) rfl rfl<|BQ (Af 0 rfl Abn rfl o rfl) rfl rfl<|Ay h fun de bm h=>Ec rfl rfl rfl (fun df cp=>Jo _ _ (Le.refl _) bm)<|Az h fun bn h=>BQ (Dx rfl rfl bn) rfl rfl<|Az h fun bo h=>BQ (Dx rfl rfl bo) rfl rfl<|BQ (Ae rfl AcF rfl Cj) rfl rfl<|BQ (Af 0 rfl Abn rfl o rfl) rfl rfl<|Ay h fun dg bp h=>Ec rfl rfl rfl (fun dh cq=>Jo _ _ (Le.refl _) bp)<|Az h fun bq h=>BQ (Dx rfl rfl bq) rfl rfl<|Df 1 rfl<|Cd (fun di br=>?_);have bs:=o.call br;refine Ac<|Ax<|Aq<|Bs ?_
   cases h
   refine Ak rfl ⟨bs.ext,rfl⟩
  refine AD 2 rfl<|AM rfl h (fun bt h=>?_) (fun bt h=>?_)
  ·refine DD (.q 0 (.q 1 (.q 2 (.q 3 (.q 4 (.q 5 (.q 6 (.q 7 (.q 8 (.tail 9)))))))))) mixed (by kernel_rfl) (fun dj bu=>?_);have p:=a.call bu;refine BQ (Ae rfl AcF rfl EZ) rfl rfl<|BQ (Af 0 rfl Ab1 rfl p rfl) rfl rfl<|Az h fun bv h=>BQ (Dx rfl rfl bv) rfl rfl<|Az h fun bw h=>BQ (Dx rfl rfl bw) rfl rfl<|BQ (Ae rfl AcF rfl F7) rfl rfl<|BQ (Af 0 rfl AbF rfl p rfl) rfl rfl<|Ay h fun dk bx h=>Ec rfl rfl rfl (fun dl bz=>O7 _ _ (Le.refl _) ((x.mono (hH.trans p.arg)).mono bz.le) bx)<|Az h fun b0 h=>BQ (Dx rfl rfl b0) rfl rfl<|Df 1 rfl<|Cd (fun dm b2=>?_);have b3:=p.call b2;refine Ac<|Ax<|Aq<|Bs ?_
   cases h
   refine Ak rfl ⟨b3.ext,rfl⟩
  refine AD 2 rfl<|AM rfl h (fun b4 h=>?_) (fun b4 h=>?_)
  ·refine Am<|Ag (Ae rfl AcF rfl G5) rfl<|Ag (Af 0 rfl Afy rfl a rfl) rfl<|Ay h fun dn b5 h=>AA rfl rfl a (hself2 _ _ (Ar hH a) (s.mono (Aj hH)) b5) fun dp cr b6 cg=>A4 1 rfl<|Ax<|Aq<|Bs ?_
   cases h
   refine Ak rfl ⟨b6.ext,rfl⟩
  refine AD 2 rfl<|AM rfl h (fun b7 h=>?_) (fun b7 h=>?_)
  ·refine Am<|Ag (Ae rfl AcF rfl G5) rfl<|Ag (Af 0 rfl Afy rfl a rfl) rfl<|Ay h fun dq b8 h=>AA rfl rfl a (hself2 _ _ (Ar hH a) (s.mono (Aj hH)) b8) fun dr cs b9 ch=>A4 1 rfl<|Ax<|Aq<|Bs ?_
   cases h
   refine Ak rfl ⟨b9.ext,rfl⟩
  refine Av<|AF<|A8 () (Sub.of rfl) ⟨a,h⟩
 rintro _ ct ⟨u,h⟩;refine Am<|Ag (Ae rfl AcF rfl G5) rfl<|Ag (Af 0 rfl Afy rfl u rfl) rfl<|Ay h fun ds ca h=>AA rfl rfl u (hself2 _ _ (Ar hH u) (s.mono (Aj hH)) ca) fun dt cu cb ci=>Az h fun cc h=>Ag (Dx rfl rfl cc) rfl<|A4 1 rfl<|Ax ?_
 cases h
 refine Ak rfl ⟨cb.ext,rfl⟩
def E5(a0:List Go.L.Qv)(a:Int)(b:Abk)(self1:Go.L.Qv->Option Abk)(d:Bool):Option ((Abk×Int) ⊕ (Abk)):=
 if d then AS (b.length+([40]:Abk).length<=9223372036854775807) (AS (0<=a/\a<(a0.length:Int)) (Option.bind (self1 (a0.getD a.toNat default)) (fun c=>AS ((b++([40]:Abk)).length+c.length<=9223372036854775807) (AS (((b++([40]:Abk))++c).length+([41]:Abk).length<=9223372036854775807) (AS (B0 (a+1)) (some (Sum.inl ((((b++([40]:Abk))++c)++([41]:Abk)),(a+1))))))))) else AS (0<=a/\a<(a0.length:Int)) (Option.bind (self1 (a0.getD a.toNat default)) (fun e=>AS (b.length+e.length<=9223372036854775807) (AS (B0 (a+1)) (some (Sum.inl ((b++e),(a+1)))))))
def E6(a0:List Go.L.Qv)(a2 a3 a:Int)(self1:Go.L.Qv->Option Abk)(b:Abk):Option ((Abk×Int) ⊕ (Abk)):=
 AS (0<=a/\a<(a0.length:Int)) (if(a0.getD a.toNat default).f.1=a2 then(E5 a0 a b self1) true else AS (0<=a/\a<(a0.length:Int)) ((E5 a0 a b self1) (decide ((a0.getD a.toNat default).f.1=a3))))
def Gp(a:Abk):Option Abk:=
 some a
def Ck(a0:List Go.L.Qv)(a1:Abk)(a2 a3:Int)(self1:Go.L.Qv->Option Abk):Abk×Int->Option ((Abk×Int) ⊕ (Abk)):=fun⟨b,a⟩=>
 if a<(a0.length:Int) then(if 0<a then AS (b.length+a1.length<=9223372036854775807) ((E6 a0 a2 a3 a self1) (b++a1)) else(E6 a0 a2 a3 a self1) b) else Option.map Sum.inr (Gp b)
def KS(a0:List Go.L.Qv)(a1:Abk)(a2 a3:Int)(self1:Go.L.Qv->Option Abk)(s:Abk×Int):Option Abk:=Go.L.run (Ck a0 a1 a2 a3 self1) s
def Ig(self1:Go.L.Qv->Option Abk)(_self2:(List Go.L.Qv)->Abk->Int->Int->Option Abk)(a0:List Go.L.Qv)(a1:Abk)(a2 a3:Int):Option Abk:=
 (KS a0 a1 a2 a3 self1) (([]:Abk),0)
theorem O8{self1:Go.L.Qv->Option Abk}{self2:(List Go.L.Qv)->Abk->Int->Int->Option Abk}(hself1:∀ (w:World) (H:PH) (hH:Le H (hp w)) {a0:Go.L.Qv} {e:Value} {y:Value} {z:Value} (j:AI .st H e (a0.f.2.1)) (_h0_1:AI .byte H y (a0.f.2.2.2.1)) (_h0_2:AI .Bg H z (a0.f.2.2.2.2.2.2)) {r:Abk} (h:self1 a0=some r),Ok prog 16 [.agg #[No a0.f.1,e,Abj a0.f.2.2.1,y,No a0.f.2.2.2.2.1,No a0.f.2.2.2.2.2.1,z]] w (fun v w'=>Ext w w'/\v=(Abj r)))(_hself2:∀ (w:World) (H:PH) (hH:Le H (hp w)) {a0:List Go.L.Qv} {a1:Abk} {a2:Int} {a3:Int} {e:Value} (j:AI .Bg H e a0) {r:Abk} (h:self2 a0 a1 a2 a3=some r),Ok prog 42 [e,Abj a1,No a2,No a3] w (fun v w'=>Ext w w'/\v=(Abj r)))(w:World)(H:PH)(hH:Le H (hp w)){a0:List Go.L.Qv}{a1:Abk}{a2 a3:Int}{e:Value}(j:AI .Bg H e a0){r:Abk}(h:Ig self1 self2 a0 a1 a2 a3=some r):
  Ok prog 42 [e,Abj a1,No a2,No a3] w (fun v w'=>Ext w w'/\v=(Abj r)):=by
 refine A3 (n:=55) [(0,e),(1,(Abj a1)),(2,No a2),(3,No a3)] func42 rfl fun hL=>AD 1 rfl<|AD 1 rfl<|Bo (σ:=Abk) (fun k=>[(9,(Abj k))]) (fun k wr=>Bd w [] wr/\Gp k=some r) ?_ ?_
 ·refine AD 1 rfl<|A5 ?_;obtain⟨m,h⟩:=AZ h;refine Bx (σ:=Abk×Int×Nat) (fun⟨c,a,n⟩=>[(0,e),(1,(Abj a1)),(2,No a2),(3,No a3),(9,(Abj c)),(10,No a)]) (fun⟨c,a,n⟩ wr=>Bd w [] wr/\F6 (Ck a0 a1 a2 a3 self1) n (c,a)=some r) (fun⟨c,a,n⟩=>n) (([]:Abk),0,m) (Sub.of rfl) ⟨hL,h⟩ ?_;rintro⟨c,a,nn123⟩ a6 ⟨o,h⟩;obtain⟨m,aa,rfl,h,p⟩:=AY h;refine A7<|Bi 2 rfl<|Ag (Bu rfl Afy j) rfl<|A4 1 rfl<|AM rfl h (fun ab h=>?_) (fun ab h=>?_)
  ·refine Av<|Ao<|A7<|A5<|Bo (σ:=Abk) (fun d=>[(0,e),(1,(Abj a1)),(2,No a2),(3,No a3),(9,(Abj d)),(10,No a)]) (fun d wr=>Bd w [] wr/\(E6 a0 a2 a3 a self1) d=some aa) ?_ ?_
   ·refine AD 2 rfl<|AM rfl h (fun ac h=>?_) (fun ac h=>?_)
    ·refine Aw<|As 2 rfl<|Az h fun ad h=>Ag (Dx rfl rfl ad) rfl<|As 1 rfl<|AK<|A8 (c++a1) (Sub.of rfl) ⟨o,h⟩
    refine Av<|A8 c (Sub.of rfl) ⟨o,h⟩
   rintro d a7 ⟨l,h⟩;refine Bo (σ:=Bool) (fun g=>[(0,e),(1,(Abj a1)),(2,No a2),(3,No a3),(9,(Abj d)),(10,No a),(37,.bool g)]) (fun g wr=>Bd w [] wr/\(E5 a0 a d self1) g=some aa) ?_ ?_
   ·refine Aw<|As 2 rfl<|Az h fun q h=>Bf rfl rfl Afy AO j a.toNat (EX q) (Ba q) rfl ?_;rintro bb _ e153t0 ae;obtain⟨_,_,rfl,rfl,⟨_,_,rfl,⟨e153v1,rfl,e153h1⟩,⟨_,_,rfl,rfl,⟨_,_,rfl,⟨e153v3,rfl,e153h3⟩,⟨_,_,rfl,rfl,⟨_,_,rfl,rfl,⟨e153v6,rfl,e153h6⟩⟩⟩⟩⟩⟩⟩:=Go.E.Rp.Dh e153t0;refine Ag (Ae rfl AcF rfl Cj) rfl ?_;have af:=ae.add 0;refine Ag (Bj rfl Abn rfl af (hH.trans l.arg)) rfl<|As 3 rfl<|AP (s:=29) rfl (fun b=>?_) (fun b=>?_)
    ·have h:=BI (of_decide_eq_true b) h
     iterate 7 refine Ai rfl b rfl ?_
     refine Ag (A2 rfl b rfl) rfl<|AK<|A8 true (Sub.of rfl) ⟨l,h⟩
    have h:=BJ (of_decide_eq_false b) h;refine Aa rfl b<|Ag (Ad rfl) rfl<|Aa rfl b<|Ag (Ad rfl) rfl<|Aa rfl b<|Az h fun t h=>Bf rfl rfl Afy AO j a.toNat (EX t) (Ba t) rfl ?_;rintro bc _ e159t0 ag;obtain⟨_,_,rfl,rfl,⟨_,_,rfl,⟨e159v1,rfl,e159h1⟩,⟨_,_,rfl,rfl,⟨_,_,rfl,⟨e159v3,rfl,e159h3⟩,⟨_,_,rfl,rfl,⟨_,_,rfl,rfl,⟨e159v6,rfl,e159h6⟩⟩⟩⟩⟩⟩⟩:=Go.E.Rp.Dh e159t0;refine Aa rfl b<|Ag (Ae rfl AcF rfl Cj) rfl ?_;have ah:=ag.add 0;refine Aa rfl b<|Ag (Bj rfl Abn rfl ah (hH.trans l.arg)) rfl<|Aa rfl b<|Ag (Ad rfl) rfl<|Aa rfl b<|Ag (Ad rfl) rfl<|Ag (A9 rfl b rfl) rfl<|AK<|A8 (decide ((a0.getD a.toNat default).f.1=a3)) (Sub.of rfl) ⟨l,h⟩
   rintro g a8 ⟨i,h⟩;refine Bb rfl h (fun ai h=>?_) (fun ai h=>?_)
   ·refine Aw<|As 1 rfl<|Az h fun aj h=>Ag (Dx rfl rfl aj) rfl<|As 2 rfl<|Az h fun u h=>Bf rfl rfl Afy AO j a.toNat (EX u) (Ba u) rfl ?_;rintro bd _ e166t0 ak;obtain⟨_,_,rfl,rfl,⟨_,_,rfl,⟨e166v1,rfl,e166h1⟩,⟨_,_,rfl,rfl,⟨_,_,rfl,⟨e166v3,rfl,e166h3⟩,⟨_,_,rfl,rfl,⟨_,_,rfl,rfl,⟨e166v6,rfl,e166h6⟩⟩⟩⟩⟩⟩⟩:=Go.E.Rp.Dh e166t0;refine Ag (C9 rfl AcF rfl AO ak (hH.trans i.arg)) rfl<|Ay h fun ax al h=>AA rfl rfl i (hself1 (a0:=(a0.getD a.toNat default)) _ _ (Ar hH i) (e166h1.mono (Aj hH)) (e166h3.mono (Aj hH)) (e166h6.mono (Aj hH)) al) fun be a9 am a4=>Az h fun an h=>Ag (Dx rfl rfl an) rfl<|Az h fun ao h=>Ag (Dx rfl rfl ao) rfl<|As 1 rfl<|AK<|AF<|Ao<|Aw<|As 1 rfl<|Az h fun ap h=>Ag (A1 rfl ap) rfl<|As 1 rfl<|AK ?_;have h:=BP.again h p;refine AN ((((d++([40]:Abk))++ax)++([41]:Abk)),(a+1),m) (Sub.of rfl) ⟨am,h⟩ (Nat.lt_succ_self _)
   refine Aw<|As 3 rfl<|Az h fun x h=>Bf rfl rfl Afy AO j a.toNat (EX x) (Ba x) rfl ?_;rintro bf _ e174t0 aq;obtain⟨_,_,rfl,rfl,⟨_,_,rfl,⟨e174v1,rfl,e174h1⟩,⟨_,_,rfl,rfl,⟨_,_,rfl,⟨e174v3,rfl,e174h3⟩,⟨_,_,rfl,rfl,⟨_,_,rfl,rfl,⟨e174v6,rfl,e174h6⟩⟩⟩⟩⟩⟩⟩:=Go.E.Rp.Dh e174t0;refine Ag (C9 rfl AcF rfl AO aq (hH.trans i.arg)) rfl<|Ay h fun ay ar h=>AA rfl rfl i (hself1 (a0:=(a0.getD a.toNat default)) _ _ (Ar hH i) (e174h1.mono (Aj hH)) (e174h3.mono (Aj hH)) (e174h6.mono (Aj hH)) ar) fun bg ba au a5=>Az h fun av h=>Ag (Dx rfl rfl av) rfl<|As 1 rfl<|AK<|AF<|Ao<|Aw<|As 1 rfl<|Az h fun aw h=>Ag (A1 rfl aw) rfl<|As 1 rfl<|AK ?_;have h:=BP.again h p;refine AN ((d++ay),(a+1),m) (Sub.of rfl) ⟨au,h⟩ (Nat.lt_succ_self _)
  refine Br<|AG<|A6 ?_;have h:=BP.out h p;refine Be<|A8 c (Sub.of rfl) ⟨o,h⟩
 rintro k bh ⟨az,h⟩;refine AD 2 rfl<|Ax ?_
 cases h
 refine Ak rfl ⟨az.ext,rfl⟩
def BU:Nat->(Go.L.Qv->Option Abk)×((List Go.L.Qv)->Abk->Int->Int->Option Abk)
 | 0=>(fun _=>none,fun _ _ _ _=>none)
 | n+1=>(GF ((BU n).1) ((BU n).2),Ig ((BU n).1) ((BU n).2))
def GW:Go.L.Qv->Option Abk:=(BU 1000).1
theorem NY(n:Nat):(∀ (w:World) (H:PH) (hH:Le H (hp w)) {a0:Go.L.Qv} {a:Value} {b:Value} {c:Value} (d:AI .st H a (a0.f.2.1)) (e:AI .byte H b (a0.f.2.2.2.1)) (g:AI .Bg H c (a0.f.2.2.2.2.2.2)) {r:Abk} (h:((BU n).1) a0=some r),Ok prog 16 [.agg #[No a0.f.1,a,Abj a0.f.2.2.1,b,No a0.f.2.2.2.2.1,No a0.f.2.2.2.2.2.1,c]] w (fun v w'=>Ext w w'/\v=(Abj r)))/\(∀ (w:World) (H:PH) (hH:Le H (hp w)) {a0:List Go.L.Qv} {a1:Abk} {a2:Int} {a3:Int} {a:Value} (d:AI .Bg H a a0) {r:Abk} (h:((BU n).2) a0 a1 a2 a3=some r),Ok prog 42 [a,Abj a1,No a2,No a3] w (fun v w'=>Ext w w'/\v=(Abj r))):=by
 induction n with
 | zero=>exact⟨(by intros;rename_i h;cases h),(by intros;rename_i h;cases h)⟩
 | succ n ih=>exact⟨ND ih.1 ih.2,O8 ih.1 ih.2⟩
theorem Mu(w:World)(H:PH)(hH:Le H (hp w)){a0:Go.L.Qv}{a b c:Value}(d:AI .st H a (a0.f.2.1))(e:AI .byte H b (a0.f.2.2.2.1))(g:AI .Bg H c (a0.f.2.2.2.2.2.2)){r:Abk}(h:GW a0=some r):Ok prog 16 [.agg #[No a0.f.1,a,Abj a0.f.2.2.1,b,No a0.f.2.2.2.2.1,No a0.f.2.2.2.2.2.1,c]] w (fun v w'=>Ext w w'/\v=(Abj r)):=(NY 1000).1 w H hH d e g h
def Jp(a0:Go.L.Qv):Option ((Int×Int)):=
 Option.bind (LR a0 (0:Int) (1:Int)) (fun a=>if a.2.1=0 then Option.bind (GW a0) (fun c=>if 200<(c.length:Int) then Option.bind (GA (14:Int) (-1:Int)) (fun b=>some ((b.1,b.2))) else some ((a.2.1,a.2.2))) else some ((a.2.1,a.2.2)))
theorem PS(w:World)(H:PH)(hH:Le H (hp w)){a0:Go.L.Qv}{d e g:Value}(j:AI .st H d (a0.f.2.1))(k:AI .byte H e (a0.f.2.2.2.1))(l:AI .Bg H g (a0.f.2.2.2.2.2.2)){r:(Int×Int)}(h:Jp a0=some r):
  Ok prog 12 [.agg #[No a0.f.1,d,Abj a0.f.2.2.1,e,No a0.f.2.2.2.2.1,No a0.f.2.2.2.2.2.1,g]] w (fun v w'=>Ext w w'/\v=.agg #[No r.1,No r.2]):=by
 refine A3 (n:=21) [(0,.agg #[No a0.f.1,d,Abj a0.f.2.2.1,e,No a0.f.2.2.2.2.1,No a0.f.2.2.2.2.2.1,g])] func12 rfl fun hL=>Am<|CY (t:=26) rfl rfl rfl hL fun w1 b1 aa al _=>AH AW rfl rfl aa fun w2 b2 m am _=>Ac<|Am<|Ag (AE 1 rfl AcF rfl AO m rfl) rfl<|Ay h fun x3 ab h=>AA rfl rfl m (Qu (a0:=a0) _ _ (Ar hH m) (j.mono (Aj hH)) (k.mono (Aj hH)) (l.mono (Aj hH)) ab) fun w4 au ac an=>As 3 rfl<|AH AW rfl rfl ac fun w5 b5 ad ao _=>As 1 rfl<|Ah 0 rfl AW ad rfl (Bc rfl) fun w6 b ap=>Ac<|A7<|Am<|Ag (Ae rfl Ack rfl Cj) rfl<|Ag (Af 0 rfl Abn rfl b rfl) rfl<|As 2 rfl<|AP (s:=13) rfl (fun a=>?_) (fun a=>?_)
 ·have h:=BI (of_decide_eq_true a) h;refine Aa rfl a<|Ag (AE 2 rfl AcF rfl AO b rfl) rfl<|Aa rfl a<|Ay h fun x9 ae h=>AA rfl rfl b (Mu (a0:=a0) _ _ (Ar hH b) (j.mono (Aj hH)) (k.mono (Aj hH)) (l.mono (Aj hH)) ae) fun av aq c af=>Aa rfl a<|Ag (Cv rfl Ab1) rfl<|Aa rfl a<|Ag (Ad rfl) rfl<|Ag (A2 rfl a rfl) rfl<|Ac<|AM rfl h (fun x h=>?_) (fun x h=>?_)
  ·refine Aw<|Ay h fun aw y h=>AA rfl rfl c (FC _ _ (Ar hH c) y) fun ax ar z ag=>Ah 0 rfl AW z rfl (Bc rfl) fun ay o ah=>AK<|Ao<|Am<|Ag (AE 0 rfl Ack rfl AW o rfl) rfl<|Ah 1 rfl AW o rfl (Bc rfl) fun az p ai=>Ac<|Ax ?_
   cases h
   refine BH rfl (.cell rfl Ack rfl AW (AL (i:=1) p rfl)) ⟨p.ext,rfl⟩
  refine Av<|Ao<|Am<|Ag (AE 0 rfl Ack rfl AW c rfl) rfl<|Ah 1 rfl AW c rfl (Bc rfl) fun a1 q aj=>Ac<|Ax ?_
  cases h
  refine BH rfl (.cell rfl Ack rfl AW (AL (i:=1) q rfl)) ⟨q.ext,rfl⟩
 have h:=BJ (of_decide_eq_false a) h
 iterate 4 refine Ai rfl a rfl ?_
 refine Ag (A9 rfl a rfl) rfl<|Ac<|Cr rfl<|Av<|Ao<|Am<|Ag (AE 0 rfl Ack rfl AW b rfl) rfl<|Ah 1 rfl AW b rfl (Bc rfl) fun a2 u ak=>Ac<|Ax ?_
 cases h
 refine BH rfl (.cell rfl Ack rfl AW (AL (i:=1) u rfl)) ⟨u.ext,rfl⟩
def Mv(a:Int)(b:Bool):Option ((Int) ⊕ (Int)):=
 if !b then Option.map Sum.inr (some a) else AS (B0 (a+1)) (some (Sum.inl (a+1)))
def Mw(a0:Abk)(a2 a:Int)(b:Bool):Option ((Int) ⊕ (Int)):=
 if a2=2 then(Mv a) (decide ((((((((48<=((a0.getD a.toNat default).toNat:Int)/\((a0.getD a.toNat default).toNat:Int)<=57)\/(97<=((a0.getD a.toNat default).toNat:Int)/\((a0.getD a.toNat default).toNat:Int)<=122))\/(((a0.getD a.toNat default).toNat:Int)=47))\/(((a0.getD a.toNat default).toNat:Int)=35))\/(((a0.getD a.toNat default).toNat:Int)=42))\/(((a0.getD a.toNat default).toNat:Int)=45))\/(((a0.getD a.toNat default).toNat:Int)=95))\/(((a0.getD a.toNat default).toNat:Int)=46))) else(Mv a) b
def R5(a:Int):Option Int:=
 some a
def JW(a0:Abk)(a2:Int):Int->Option ((Int) ⊕ (Int)):=fun a=>
 if a<(a0.length:Int) then AS (0<=a/\a<(a0.length:Int)) (if a2=1 then(Mw a0 a2 a) (decide ((48<=((a0.getD a.toNat default).toNat:Int)/\((a0.getD a.toNat default).toNat:Int)<=57)\/(((a0.getD a.toNat default).toNat:Int)=45))) else(Mw a0 a2 a) (decide (((48<=((a0.getD a.toNat default).toNat:Int)/\((a0.getD a.toNat default).toNat:Int)<=57)\/(97<=((a0.getD a.toNat default).toNat:Int)/\((a0.getD a.toNat default).toNat:Int)<=122))\/(128<=((a0.getD a.toNat default).toNat:Int))))) else Option.map Sum.inr (R5 a)
def O9(a0:Abk)(a2 s:Int):Option Int:=Go.L.run (JW a0 a2) s
def JX(a0:Abk)(a1 a2:Int):Option Int:=
 (O9 a0 a2) a1
theorem KT(w:World)(H:PH)(hH:Le H (hp w)){a0:Abk}{a1 a2 r:Int}(h:JX a0 a1 a2=some r):
  Ok prog 170 [Abj a0,No a1,No a2] w (fun v w'=>Ext w w'/\v=No r):=by
 refine A3 (n:=74) [(0,(Abj a0)),(1,No a1),(2,No a2)] func170 rfl fun hL=>AD 1 rfl<|Bo (σ:=Int) (fun d=>[(1,No d)]) (fun d wr=>Bd w [] wr/\R5 d=some r) ?_ ?_
 ·refine A5 ?_;obtain⟨g,h⟩:=AZ h;refine Bx (σ:=Int×Nat) (fun⟨a,n⟩=>[(0,(Abj a0)),(1,No a),(2,No a2)]) (fun⟨a,n⟩ wr=>Bd w [] wr/\F6 (JW a0 a2) n a=some r) (fun⟨a,n⟩=>n) (a1,g) (Sub.of rfl) ⟨hL,h⟩ ?_;rintro⟨a,nn70⟩ aa ⟨e,h⟩;obtain⟨g,o,rfl,h,f⟩:=AY h;refine A7<|Bi 2 rfl<|Ag (Cv rfl Ab1) rfl<|A4 1 rfl<|AM rfl h (fun p h=>?_) (fun p h=>?_)
  ·refine Av<|Ao<|A5<|Bi 2 rfl<|Az h fun q h=>Ag (Dz rfl rfl Ab1 q) rfl<|Ag (DE Ac5 Abn rfl (EB _)) rfl<|A4 1 rfl<|Bi 1 rfl<|AA rfl rfl e (Wd _ _ (Ar hH e)) fun ag ab i y=>A4 1 rfl<|Bi 1 rfl<|AA rfl rfl i (Wd _ _ (Ar hH i)) fun ah ac j z=>A4 1 rfl<|Bi 2 rfl<|MT 1 1 rfl rfl rfl rfl rfl rfl<|As 1 rfl<|MT 2 4 rfl rfl rfl rfl rfl rfl<|A4 1 rfl<|Bo (σ:=Bool) (fun b=>[(0,(Abj a0)),(1,No a),(2,No a2),(7,No ((a0.getD a.toNat default).toNat:Int)),(8,.bool (decide (48<=((a0.getD a.toNat default).toNat:Int)/\((a0.getD a.toNat default).toNat:Int)<=57))),(9,.bool (decide (97<=((a0.getD a.toNat default).toNat:Int)/\((a0.getD a.toNat default).toNat:Int)<=122))),(10,.bool b)]) (fun b wr=>Bd w [] wr/\(Mw a0 a2 a) b=some o) ?_ ?_
   ·refine AD 2 rfl<|AM rfl h (fun s h=>?_) (fun s h=>?_)
    ·refine Aw<|As 2 rfl<|MT 2 1 rfl rfl rfl rfl rfl rfl<|As 1 rfl<|AK<|A8 (decide ((48<=((a0.getD a.toNat default).toNat:Int)/\((a0.getD a.toNat default).toNat:Int)<=57)\/(((a0.getD a.toNat default).toNat:Int)=45))) (Sub.of rfl) ⟨j,h⟩
    refine Av<|A8 (decide (((48<=((a0.getD a.toNat default).toNat:Int)/\((a0.getD a.toNat default).toNat:Int)<=57)\/(97<=((a0.getD a.toNat default).toNat:Int)/\((a0.getD a.toNat default).toNat:Int)<=122))\/(128<=((a0.getD a.toNat default).toNat:Int)))) (Sub.of rfl) ⟨j,h⟩
   rintro b ad ⟨k,h⟩;refine Bo (σ:=Bool) (fun c=>[(0,(Abj a0)),(1,No a),(2,No a2),(10,.bool c)]) (fun c wr=>Bd w [] wr/\(Mv a) c=some o) ?_ ?_
   ·refine AD 2 rfl<|AM rfl h (fun t h=>?_) (fun t h=>?_)
    ·refine Aw<|As 2 rfl<|MT 1 1 rfl rfl rfl rfl rfl rfl<|As 1 rfl<|MT 2 4 rfl rfl rfl rfl rfl rfl<|As 1 rfl<|MT 2 8 rfl rfl rfl rfl rfl rfl<|As 1 rfl<|MT 2 12 rfl rfl rfl rfl rfl rfl<|As 1 rfl<|MT 2 16 rfl rfl rfl rfl rfl rfl<|As 1 rfl<|MT 2 20 rfl rfl rfl rfl rfl rfl<|As 1 rfl<|MT 2 24 rfl rfl rfl rfl rfl rfl<|As 1 rfl<|AK<|A8 (decide ((((((((48<=((a0.getD a.toNat default).toNat:Int)/\((a0.getD a.toNat default).toNat:Int)<=57)\/(97<=((a0.getD a.toNat default).toNat:Int)/\((a0.getD a.toNat default).toNat:Int)<=122))\/(((a0.getD a.toNat default).toNat:Int)=47))\/(((a0.getD a.toNat default).toNat:Int)=35))\/(((a0.getD a.toNat default).toNat:Int)=42))\/(((a0.getD a.toNat default).toNat:Int)=45))\/(((a0.getD a.toNat default).toNat:Int)=95))\/(((a0.getD a.toNat default).toNat:Int)=46))) (Sub.of rfl) ⟨k,h⟩
    refine Av<|A8 b (Sub.of rfl) ⟨k,h⟩
   rintro c ae ⟨l,h⟩;refine A7<|AD 2 rfl<|Bb rfl h (fun u h=>?_) (fun u h=>?_)
   ·refine AD 2 rfl<|Ax<|An<|Aq<|By ?_;have h:=BP.out h f;refine Aq<|Bs ?_
    cases h
    refine Ak rfl ⟨l.ext,rfl⟩
   refine Av<|Ao<|Aw<|As 1 rfl<|Az h fun m h=>Ag (A1 rfl m) rfl<|As 1 rfl<|AK<|AF ?_;have h:=BP.again h f;refine AN ((a+1),g) (Sub.of rfl) ⟨l,h⟩ (Nat.lt_succ_self _)
  refine Br<|AG<|A6 ?_;have h:=BP.out h f;refine Be<|A8 a (Sub.of rfl) ⟨e,h⟩
 rintro d af ⟨x,h⟩;refine AD 2 rfl<|Ax ?_
 cases h
 refine Ak rfl ⟨x.ext,rfl⟩
def CO(a0:Abk)(a1:Int)(a2:Abk):Option Bool:=
 AS (B0 (a1+(a2.length:Int))) (if(a1+(a2.length:Int))<=(a0.length:Int) then AS (B0 (a1+(a2.length:Int))) (AS (0<=a1/\a1<=(a1+(a2.length:Int))/\(a1+(a2.length:Int))<=(a0.length:Int)) (some (decide (((a0.drop a1.toNat).take ((a1+(a2.length:Int)).toNat - a1.toNat))=a2)))) else some false)
theorem CP(w:World)(H:PH)(_hH:Le H (hp w)){a0:Abk}{a1:Int}{a2:Abk}{r:Bool}(h:CO a0 a1 a2=some r):
  Ok prog 73 [Abj a0,No a1,Abj a2] w (fun v w'=>Ext w w'/\v=.bool r):=by
 refine A3 (n:=25) [(0,(Abj a0)),(1,No a1),(2,(Abj a2))] func73 rfl fun hL=>AD 1 rfl<|Bi 2 rfl<|Ag (Cv rfl Ab1) rfl<|Az h fun b h=>Ag (A1 rfl b) rfl<|As 1 rfl<|Ag (Cv rfl Ab1) rfl<|As 2 rfl<|AP (s:=14) rfl (fun a=>?_) (fun a=>?_)
 ·have h:=BI (of_decide_eq_true a) h;refine Aa rfl a<|Ag (Ad rfl) rfl<|Aa rfl a<|Ag (Ad rfl) rfl<|Aa rfl a<|Ag (Ad rfl) rfl<|Aa rfl a<|Ag (Ad rfl) rfl<|Aa rfl a<|Ag (Cv rfl Ab1) rfl<|Aa rfl a<|Az h fun c h=>Ag (A1 rfl c) rfl<|Aa rfl a<|Az h fun d h=>Ag (LG rfl rfl rfl Ab1 d) rfl<|Aa rfl a<|Ag (Ad rfl) rfl<|Aa rfl a<|Ag (Mm rfl rfl) rfl<|Ag (A2 rfl a rfl) rfl<|A4 1 rfl<|Ax ?_
  cases h
  refine Ak rfl ⟨hL.ext,rfl⟩
 have h:=BJ (of_decide_eq_false a) h
 iterate 9 refine Ai rfl a rfl ?_
 refine Ag (A9 rfl a rfl) rfl<|A4 1 rfl<|Ax ?_
 cases h
 refine Ak rfl ⟨hL.ext,rfl⟩
def Gg(a0:Abk)(a1 b a:Int):Option (Int×Int):=
 Option.bind (Ht a) (fun c=>AS (0<=a1/\a1<=b/\b<=(a0.length:Int)) (if c=((a0.drop a1.toNat).take (b.toNat - a1.toNat)) then some (a,b) else some (0,(-1))))
def Jq(a0:Abk)(a1 b a:Int):Option (Int×Int):=
 if a1<b then AS (0<=a1/\a1<(a0.length:Int)) (if((a0.getD a1.toNat default).toNat:Int)=45 then(Gg a0 a1 b) a else(Gg a0 a1 b) (IntKind.i64.wrap (-a))) else(Gg a0 a1 b) a
def ID(a0:Abk)(a1 c:Int):Int×Int->Option ((Int×Int) ⊕ (Int×Int)):=fun⟨b,a⟩=>
 if a<c then AS (0<=a/\a<(a0.length:Int)) (if((a0.getD a.toNat default).toNat:Int)=45 then AS (B0 (a+1)) (some (Sum.inl (b,(a+1)))) else AS (0<=a/\a<(a0.length:Int)) (AS (B0 (a+1)) (some (Sum.inl ((IntKind.i64.wrap ((IntKind.i64.wrap (10 * b)) - (((a0.getD a.toNat default) - (48:UInt8)).toNat:Int))),(a+1)))))) else Option.map Sum.inr ((Jq a0 a1 c) b)
def KX(a0:Abk)(a1 a:Int)(s:Int×Int):Option (Int×Int):=Go.L.run (ID a0 a1 a) s
def Hy(a0:Abk)(a1:Int):Option (Int×Int):=
 Option.bind (JX a0 a1 (1:Int)) (fun a=>(KX a0 a1 a) (0,a1))
theorem KY(w:World)(H:PH)(hH:Le H (hp w)){a0:Abk}{a1:Int}{r:Int×Int}(h:Hy a0 a1=some r):
  Ok prog 171 [Abj a0,No a1] w (fun v w'=>Ext w w'/\v=.tuple #[No r.1,No r.2]):=by
 refine A3 (n:=50) [(0,(Abj a0)),(1,No a1)] func171 rfl fun hL=>AD 2 rfl<|Bi 2 rfl<|Ay h fun l ai h=>AA rfl rfl hL (KT _ _ (Ar hH hL) ai) fun w2 ap aj ak=>A4 1 rfl<|AD 1 rfl<|Bo (σ:=Int) (fun e=>[(0,(Abj a0)),(1,No a1),(6,No l),(7,No e)]) (fun e wr=>Bd w [] wr/\(Jq a0 a1 l) e=some r) ?_ ?_
 ·refine AD 2 rfl<|A5 ?_;obtain⟨k,h⟩:=AZ h;refine Bx (σ:=Int×Int×Nat) (fun⟨a,c,n⟩=>[(0,(Abj a0)),(1,No a1),(6,No l),(7,No a),(8,No c)]) (fun⟨a,c,n⟩ wr=>Bd w [] wr/\F6 (ID a0 a1 l) n (a,c)=some r) (fun⟨a,c,n⟩=>n) (0,a1,k) (Sub.of rfl) ⟨aj,h⟩ ?_;rintro⟨a,c,nn44⟩ al ⟨g,h⟩;obtain⟨k,aq,rfl,h,i⟩:=AY h;refine A7<|AD 3 rfl<|AM rfl h (fun o h=>?_) (fun o h=>?_)
  ·refine Av<|Ao<|A7<|A5<|Bi 2 rfl<|Az h fun p h=>Ag (Dz rfl rfl Ab1 p) rfl<|A4 1 rfl<|BV rfl h (fun t h=>?_) (fun t h=>?_)
   ·refine Aw<|As 1 rfl<|Ag (Abz rfl rfl rfl rfl) rfl<|As 2 rfl<|Az h fun u h=>Ag (Dz rfl rfl Ab1 u) rfl<|Ag (Rx (b:=48) rfl rfl rfl) rfl<|Ag (DE Ac5 Abn rfl (EB _)) rfl<|Ag (Abz rfl rfl rfl rfl) rfl<|As 1 rfl<|AK<|AF<|Ao<|Aw<|As 1 rfl<|Az h fun x h=>Ag (A1 rfl x) rfl<|As 1 rfl<|AK ?_;have h:=BP.again h i;refine AN ((IntKind.i64.wrap ((IntKind.i64.wrap (10 * a)) - (((a0.getD c.toNat default) - (48:UInt8)).toNat:Int))),(c+1),k) (Sub.of rfl) ⟨g,h⟩ (Nat.lt_succ_self _)
   refine Av<|AF<|Ao<|Aw<|As 1 rfl<|Az h fun y h=>Ag (A1 rfl y) rfl<|As 1 rfl<|AK ?_;have h:=BP.again h i;refine AN (a,(c+1),k) (Sub.of rfl) ⟨g,h⟩ (Nat.lt_succ_self _)
  refine Br<|AG<|A6 ?_;have h:=BP.out h i;refine Be<|A8 a (Sub.of rfl) ⟨g,h⟩
 rintro e am ⟨j,h⟩;refine Bo (σ:=Int) (fun f=>[(0,(Abj a0)),(1,No a1),(6,No l),(7,No f)]) (fun f wr=>Bd w [] wr/\(Gg a0 a1 l) f=some r) ?_ ?_
 ·refine Bi 4 rfl<|AP (s:=33) rfl (fun d=>?_) (fun d=>?_)
  ·have h:=BI (of_decide_eq_true d) h;refine Aa rfl d<|Ag (Ad rfl) rfl<|Aa rfl d<|Ag (Ad rfl) rfl<|Aa rfl d<|Az h fun z h=>Ag (Dz rfl rfl Ab1 z) rfl<|Aa rfl d<|Ag (Ad rfl) rfl<|Ag (A2 rfl d rfl) rfl<|Ac<|BV rfl h (fun aa h=>?_) (fun aa h=>?_)
   ·refine Aw<|As 1 rfl<|Ag (Adk rfl) rfl<|As 1 rfl<|AK<|A8 (IntKind.i64.wrap (-e)) (Sub.of rfl) ⟨j,h⟩
   refine Av<|A8 e (Sub.of rfl) ⟨j,h⟩
  have h:=BJ (of_decide_eq_false d) h
  iterate 4 refine Ai rfl d rfl ?_
  refine Ag (A9 rfl d rfl) rfl<|Ac<|Cr rfl<|Av<|A8 e (Sub.of rfl) ⟨j,h⟩
 rintro f an ⟨ab,h⟩;refine A7<|DD (.q 0 (.q 1 (.q 2 (.q 3 (.q 4 (.q 5 (.q 6 (.tail 7)))))))) mixed (by kernel_rfl) (fun ar ac=>?_);have ad:=ab.call ac;refine Df 1 rfl<|Ay h fun au ae h=>Ec rfl rfl rfl (fun av ao=>Jo _ _ (Le.refl _) ae)<|Df 3 rfl<|Az h fun af h=>BQ (LG rfl rfl rfl Ab1 af) rfl rfl<|BQ (Mn rfl rfl) rfl rfl<|Cd (fun aw ag=>?_);have m:=ad.call ag;refine Ac<|BV rfl h (fun ah h=>?_) (fun ah h=>?_)
 ·refine AD 2 rfl<|Ax<|An ?_
  cases h
  refine Ak rfl ⟨m.ext,rfl⟩
 refine Av<|Ao<|AD 4 rfl<|Ax ?_
 cases h
 refine Ak rfl ⟨m.ext,rfl⟩
def LU(a0:UInt8):Option Int:=
 if(48<=(a0.toNat:Int))/\((a0.toNat:Int)<=57) then some (((a0 - (48:UInt8)).toNat:Int)) else(if(97<=(a0.toNat:Int))/\((a0.toNat:Int)<=102) then AS (B0 (((a0 - (97:UInt8)).toNat:Int)+10)) (some ((((a0 - (97:UInt8)).toNat:Int)+10))) else some ((-1)))
theorem Mx(w:World)(H:PH)(_hH:Le H (hp w)){a0:UInt8}{r:Int}(h:LU a0=some r):
  Ok prog 172 [.int .u8 (a0.toNat:Int)] w (fun v w'=>Ext w w'/\v=No r):=by
 refine A3 (n:=22) [(0,.int .u8 (a0.toNat:Int))] func172 rfl fun hL=>AD 1 rfl<|A7<|Bi 3 rfl<|MS 2 2 rfl rfl rfl rfl rfl rfl<|Ac<|AM rfl h (fun a h=>?_) (fun a h=>?_)
 ·refine Bi 1 rfl<|Ag (Rx (b:=48) rfl rfl rfl) rfl<|Ag (DE Ac5 Abn rfl (EB _)) rfl<|A4 1 rfl<|Ax<|An ?_
  cases h
  refine Ak rfl ⟨hL.ext,rfl⟩
 refine Av<|Ao<|A7<|Bi 3 rfl<|MS 2 2 rfl rfl rfl rfl rfl rfl<|Ac<|AM rfl h (fun c h=>?_) (fun c h=>?_)
 ·refine Bi 1 rfl<|Ag (Rx (b:=97) rfl rfl rfl) rfl<|Ag (DE Ac5 Abn rfl (EB _)) rfl<|Az h fun d h=>Ag (A1 rfl d) rfl<|A4 1 rfl<|Ax<|An ?_
  cases h
  refine Ak rfl ⟨hL.ext,rfl⟩
 refine Av<|Ao<|AD 1 rfl<|Ax ?_
 cases h
 refine Ak rfl ⟨hL.ext,rfl⟩
def Lw(a0:Abk)(b:Abk)(a:Int):Option ((Abk×Int) ⊕ (Abk×Int)):=
 AS (0<=a/\a<(a0.length:Int)) (if((a0.getD a.toNat default).toNat:Int)=92 then AS (B0 (a+2)) (if(a0.length:Int)<=(a+2) then Option.map Sum.inr (some ([],(-1))) else AS (B0 (a+1)) (AS (0<=(a+1)/\(a+1)<(a0.length:Int)) (Option.bind (LU (a0.getD (a+1).toNat default)) (fun e=>if e<0 then Option.map Sum.inr (some ([],(-1))) else AS (B0 (a+2)) (AS (0<=(a+2)/\(a+2)<(a0.length:Int)) (Option.bind (LU (a0.getD (a+2).toNat default)) (fun f=>if f<0 then Option.map Sum.inr (some ([],(-1))) else AS (B0 (a+1)) (AS (0<=(a+1)/\(a+1)<(a0.length:Int)) (Option.bind (LU (a0.getD (a+1).toNat default)) (fun c=>AS (B0 (16 * c)) (AS (B0 (a+2)) (AS (0<=(a+2)/\(a+2)<(a0.length:Int)) (Option.bind (LU (a0.getD (a+2).toNat default)) (fun d=>AS (B0 ((16 * c)+d)) (AS (Go.E.J3 1 (b.length+([(Go.L.u8 ((16 * c)+d))]).length)) (AS (B0 (a+3)) (some (Sum.inl ((b++[(Go.L.u8 ((16 * c)+d))]),(a+3)))))))))))))))))))) else AS (0<=a/\a<(a0.length:Int)) (AS (Go.E.J3 1 (b.length+([(a0.getD a.toNat default)]).length)) (AS (B0 (a+1)) (some (Sum.inl ((b++[(a0.getD a.toNat default)]),(a+1)))))))
def JY(a0:Abk)(b:Abk)(a:Int):Option (Abk×Int):=
 if(a0.length:Int)<=a then some ([],(-1)) else AS (B0 (a+1)) (some (b,(a+1)))
def HN(a0:Abk):Abk×Int->Option ((Abk×Int) ⊕ (Abk×Int)):=fun⟨b,a⟩=>
 if a<(a0.length:Int) then AS (0<=a/\a<(a0.length:Int)) (if((a0.getD a.toNat default).toNat:Int)=39 then Option.map Sum.inr ((JY a0) b a) else(Lw a0 b a)) else Option.map Sum.inr ((JY a0) b a)
def NF(a0:Abk)(s:Abk×Int):Option (Abk×Int):=Go.L.run (HN a0) s
def Nh(a0:Abk)(a1:Int):Option (Abk×Int):=
 Option.bind (CO a0 a1 ([(39:UInt8)])) (fun a=>if !a then some ([],(-1)) else AS (B0 (a1+1)) ((NF a0) (([]:Abk),(a1+1))))
theorem Qw(w:World)(H:PH)(hH:Le H (hp w)){a0:Abk}{a1:Int}{r:Abk×Int}(h:Nh a0 a1=some r):
  Ok prog 120 [Abj a0,No a1] w (fun v w'=>Ext w w'/\∃ u0,v=.tuple #[u0,No r.2]/\BN 5 .byte H w w' u0 (r.1)):=by
 refine A3 (n:=83) [(0,(Abj a0)),(1,No a1)] func120 rfl fun hL=>AD 2 rfl<|A7<|Bi 2 rfl<|Bp (r:=.byte) (l:=[(39:UInt8)]) rfl (fun _=>EC _ _) rfl (leMax 1) hH hL (.c1 rfl .nil) fun v1 w1 c0 ak cj b2=>Ag (KJ rfl AbF Ac5 Ab1 b2 (Ar hH ak)) rfl<|Ay h fun x2 b3 h=>AA rfl rfl ak (CP _ _ (Ar hH ak) b3) fun w3 c2 bw ck=>A4 1 rfl<|Bb rfl h (fun b4 h=>?_) (fun b4 h=>?_)
 ·refine AD 2 rfl<|Ax<|An ?_
  cases h
  refine Ak rfl ⟨bw.ext,_,rfl,BN.nil⟩
 refine Av<|Ao<|Bi 1 rfl<|Az h fun b5 h=>Ag (A1 rfl b5) rfl<|A4 1 rfl<|Bi 1 rfl ?_;obtain⟨b6,cl,b7⟩:=C0 .byte H 5 bw;refine Ac<|Bo (σ:=Abk×Int×Value×(List Value)) (fun⟨x,o,t,p⟩=>[(0,(Abj a0)),(1,No o),(6,t)]) (fun⟨x,o,t,p⟩ wr=>DF w [.row t 5 1 (x).length p] wr fun Oz=>AJ .byte (gz H w wr Oz) x p/\(JY a0) x o=some r) ?_ ?_
 ·refine A5 ?_;obtain⟨y,h⟩:=AZ h;refine Bx (σ:=Abk×Int×Value×(List Value)×Nat) (fun⟨e,a,j,f,n⟩=>[(0,(Abj a0)),(1,No a),(6,j)]) (fun⟨e,a,j,f,n⟩ wr=>DF w [.row j 5 1 (e).length f] wr fun Oz=>AJ .byte (gz H w wr Oz) e f/\F6 (HN a0) n (e,a)=some r) (fun⟨e,a,j,f,n⟩=>n) (([]:Abk),(a1+1),Aa8,[],y) (Sub.of rfl) ⟨b6,b7,h⟩ ?_;rintro⟨e,a,j,f,nn180⟩ ca ⟨z,b,h⟩;obtain⟨y,bx,rfl,h,k⟩:=AY h;refine Bo (σ:=Unit) (fun(_:Unit)=>[(0,(Abj a0)),(1,No a),(6,j)]) (fun(_:Unit) wr=>DF w [.row j 5 1 (e).length f] wr fun Oz=>AJ .byte (gz H w wr Oz) e f/\(Lw a0 e a)=some bx) ?_ ?_
  ·refine Bi 2 rfl<|Ag (Cv rfl Ab1) rfl<|As 2 rfl<|AP (s:=19) rfl (fun g=>?_) (fun g=>?_)
   ·have h:=BI (of_decide_eq_true g) h;refine Aa rfl g<|Ag (Ad rfl) rfl<|Aa rfl g<|Ag (Ad rfl) rfl<|Aa rfl g<|Az h fun ar h=>Ag (Dz rfl rfl Ab1 ar) rfl<|Aa rfl g<|Ag (Ad rfl) rfl<|Ag (A2 rfl g rfl) rfl<|Ac<|BV rfl h (fun au h=>?_) (fun au h=>?_)
    ·refine Av<|A8 () (Sub.of rfl) ⟨z,b,h⟩
    refine Br<|Mj<|A6 ?_;have h:=BP.out h k;refine Be<|A8 (e,a,j,f) (Sub.of rfl) ⟨z,b,h⟩
   have h:=BJ (of_decide_eq_false g) h
   iterate 4 refine Ai rfl g rfl ?_
   refine Ag (A9 rfl g rfl) rfl<|Ac<|Cr rfl<|Br<|Mj<|A6 ?_;have h:=BP.out h k;refine Be<|A8 (e,a,j,f) (Sub.of rfl) ⟨z,b,h⟩
  rintro _ cb ⟨u,b,h⟩;refine A5<|A7<|Bi 2 rfl<|Az h fun av h=>Ag (Dz rfl rfl Ab1 av) rfl<|A4 1 rfl<|BV rfl h (fun aw h=>?_) (fun aw h=>?_)
  ·refine Bi 3 rfl<|Az h fun ax h=>Ag (Dz rfl rfl Ab1 ax) rfl<|Bp (r:=.byte) (l:=[(a0.getD a.toNat default)]) rfl (fun _=>EC _ _) rfl (leMax 1) hH u (.c1 rfl .nil) fun cm cn cc ay al az=>Az h fun a2 h=>?_;have b:=b.mono (Ab hH al);refine Bt (r:=.byte) (l:=e) (m:=[(a0.getD a.toNat default)]) 0 rfl rfl AbF LH rfl (by decide) rfl hH ay rfl b az a2 fun bz co a3 a4 b8 a5=>A4 1 rfl<|Bi 1 rfl<|Az h fun a6 h=>Ag (A1 rfl a6) rfl<|A4 1 rfl<|Br<|AG<|Be ?_;have h:=BP.again h k;refine AN ((e++[(a0.getD a.toNat default)]),(a+1),bz,a3,y) (Sub.of rfl) ⟨a4,a5,h⟩ (Nat.lt_succ_self _)
  refine Av<|Ao<|A7<|Bi 1 rfl<|Az h fun a7 h=>Ag (A1 rfl a7) rfl<|As 1 rfl<|Ag (Cv rfl Ab1) rfl<|As 2 rfl<|AP (s:=42) rfl (fun c=>?_) (fun c=>?_)
  ·have h:=BI (of_decide_eq_true c) h
   iterate 6 refine Ai rfl c rfl ?_
   refine Ag (A2 rfl c rfl) rfl<|As 1 rfl ?_
   iterate 6 refine Ai rfl rfl rfl ?_
   refine Ag (A2 rfl rfl rfl) rfl<|Ac<|Cg rfl<|AD 2 rfl<|Ax<|An<|Aq<|By ?_;have h:=BP.out h k;refine Aq<|Bs ?_
   cases h
   refine Ak rfl ⟨u.ext,_,rfl,BN.nil⟩
  have h:=BJ (of_decide_eq_false c) h;refine Aa rfl c<|Ag (Ad rfl) rfl<|Aa rfl c<|Ag (Ad rfl) rfl<|Aa rfl c<|Az h fun a8 h=>Ag (A1 rfl a8) rfl<|Aa rfl c<|Az h fun a9 h=>Ag (Dz rfl rfl Ab1 a9) rfl<|Aa rfl c<|Ay h fun cp ba h=>AA rfl rfl u (Mx _ _ (Ar hH u) ba) fun cq cd aa am=>Aa rfl c<|Ag (Ad rfl) rfl<|Ag (A9 rfl c rfl) rfl<|As 1 rfl<|AP (s:=50) rfl (fun d=>?_) (fun d=>?_)
  ·have h:=BI (of_decide_eq_true d) h
   iterate 6 refine Ai rfl d rfl ?_
   refine Ag (A2 rfl d rfl) rfl<|Ac<|Cg rfl<|AD 2 rfl<|Ax<|An<|Aq<|By ?_;have h:=BP.out h k;refine Aq<|Bs ?_
   cases h
   refine Ak rfl ⟨aa.ext,_,rfl,BN.nil⟩
  have h:=BJ (of_decide_eq_false d) h;refine Aa rfl d<|Ag (Ad rfl) rfl<|Aa rfl d<|Ag (Ad rfl) rfl<|Aa rfl d<|Az h fun bb h=>Ag (A1 rfl bb) rfl<|Aa rfl d<|Az h fun bc h=>Ag (Dz rfl rfl Ab1 bc) rfl<|Aa rfl d<|Ay h fun cr bd h=>AA rfl rfl aa (Mx _ _ (Ar hH aa) bd) fun cs ce ab an=>Aa rfl d<|Ag (Ad rfl) rfl<|Ag (A9 rfl d rfl) rfl<|Ac<|AM rfl h (fun be h=>?_) (fun be h=>?_)
  ·refine AD 2 rfl<|Ax<|An<|Aq<|By ?_;have h:=BP.out h k;refine Aq<|Bs ?_
   cases h
   refine Ak rfl ⟨ab.ext,_,rfl,BN.nil⟩
  refine Av<|Ao<|DD (.q 0 (.q 1 (.q 2 (.q 3 (.q 4 (.q 5 (.q 6 (.q 7 (.q 8 (.q 9 (.q 10 (.q 11 (.q 12 (.q 13 (.h 14 (.tail 15)))))))))))))))) mixed (by kernel_rfl) (fun ct ah=>?_);have bf:=ab.call ah;have ao:=AT ab ah;refine Df 3 rfl<|Az h fun bg h=>BQ (A1 rfl bg) rfl rfl<|Az h fun bh h=>BQ (Dz rfl rfl Ab1 bh) rfl rfl<|Ay h fun af bi h=>Ec rfl rfl rfl (fun cu cf=>Mx _ _ (Le.refl _) bi)<|Az h fun bj h=>BQ (A1 rfl bj) rfl rfl<|Df 2 rfl<|Az h fun bk h=>BQ (A1 rfl bk) rfl rfl<|Az h fun bl h=>BQ (Dz rfl rfl Ab1 bl) rfl rfl<|Ay h fun ag bm h=>Ec rfl rfl rfl (fun cv cg=>Mx _ _ (Le.refl _) bm)<|Az h fun bn h=>BQ (A1 rfl bn) rfl rfl<|BQ (DE Abn Ac5 rfl (Hm _)) rfl rfl<|MD (r:=.byte) (l:=[(Go.L.u8 ((16 * af)+ag))]) rfl rfl (fun _=>EC _ _) rfl (leMax 1) hH bf (.c1 rfl .nil) fun cw cx ch ai ap ac=>Cd (fun cy aj=>?_);have bo:=ai.call aj;have ae:=AT ai aj;refine Az h fun bp h=>?_
  have b:=b.mono (Ab hH (am.trans (an.trans (ao.trans (ap.trans ae)))));have ac:=ac.mono (Ab hH ae);refine Bt (r:=.byte) (l:=e) (m:=[(Go.L.u8 ((16 * af)+ag))]) 0 rfl rfl AbF LH rfl (by decide) rfl hH bo rfl b ac bp fun b0 cz bq br b9 bs=>A4 1 rfl<|Aw<|As 1 rfl<|Az h fun bt h=>Ag (A1 rfl bt) rfl<|As 1 rfl<|AK<|AF ?_;have h:=BP.again h k;refine AN ((e++[(Go.L.u8 ((16 * af)+ag))]),(a+3),b0,bq,y) (Sub.of rfl) ⟨br,bs,h⟩ (Nat.lt_succ_self _)
 rintro⟨x,o,t,p⟩ ci ⟨ad,aq,h⟩;refine A7<|Bi 2 rfl<|Ag (Cv rfl Ab1) rfl<|A4 1 rfl<|AM rfl h (fun bu h=>?_) (fun bu h=>?_)
 ·refine AD 2 rfl<|Ax<|An ?_
  cases h
  refine Ak rfl ⟨ad.ext,_,rfl,BN.nil⟩
 refine Av<|Ao<|Bi 2 rfl<|Az h fun bv h=>Ag (A1 rfl bv) rfl<|A4 2 rfl<|Ax ?_
 cases h
 refine Ak rfl ⟨ad.ext,_,rfl,(ad.Ge hH (i:=0) rfl aq)⟩
def JZ(a0:Abk)(a1:Int):Option (Go.L.Qv×Int):=
 Option.bind (JX a0 a1 (2:Int)) (fun a=>AS (0<=a1/\a1<=a/\a<=(a0.length:Int)) (Option.bind (CO a0 a ([61]:Abk)) (fun g=>if !g then some ((Go.L.Qv.mk (5:Int) ([]) ((a0.drop a1.toNat).take (a.toNat - a1.toNat)) ([]) (0:Int) (0:Int) ([])),a) else AS (B0 (a+1)) (Option.bind (CO a0 (a+1) ([(39:UInt8)])) (fun e=>if e then AS (B0 (a+1)) (Option.bind (Nh a0 (a+1)) (fun c=>some ((Go.L.Qv.mk (7:Int) ([]) ((a0.drop a1.toNat).take (a.toNat - a1.toNat)) c.1 (0:Int) (0:Int) ([])),c.2))) else AS (B0 (a+1)) (Option.bind (Hy a0 (a+1)) (fun b=>if b.2<0 then some ((Go.L.Qv.mk (5:Int) ([]) ((a0.drop a1.toNat).take (a.toNat - a1.toNat)) ([]) (0:Int) (0:Int) ([])),(-1)) else Option.bind (CO a0 b.2 ([46,46]:Abk)) (fun f=>if !f then some ((Go.L.Qv.mk (5:Int) ([]) ((a0.drop a1.toNat).take (a.toNat - a1.toNat)) ([]) (0:Int) (0:Int) ([])),(-1)) else AS (B0 (b.2+2)) (Option.bind (Hy a0 (b.2+2)) (fun d=>some ((Go.L.Qv.mk (6:Int) ([]) ((a0.drop a1.toNat).take (a.toNat - a1.toNat)) ([]) b.1 d.1 ([])),d.2)))))))))))
theorem Qx(w:World)(H:PH)(hH:Le H (hp w)){a0:Abk}{a1:Int}{r:Go.L.Qv×Int}(h:JZ a0 a1=some r):
  Ok prog 118 [Abj a0,No a1] w (fun v w'=>Ext w w'/\∃ u0 u1 u2,v=.tuple #[.agg #[No r.1.f.1,u0,Abj r.1.f.2.2.1,u1,No r.1.f.2.2.2.2.1,No r.1.f.2.2.2.2.2.1,u2],No r.2]/\BN 9 .st H w w' u0 (r.1.f.2.1)/\AI .byte (un H (nw w w')) u1 (r.1.f.2.2.2.1)/\BN 26 .Bg H w w' u2 (r.1.f.2.2.2.2.2.2)):=by
 refine A3 (n:=75) [(0,(Abj a0)),(1,No a1)] func118 rfl fun hL=>Am<|AH AO rfl rfl hL fun w1 b1 z bc _=>A4 1 rfl<|Bi 2 rfl<|Ay h fun x2 au h=>AA rfl rfl z (KT _ _ (Ar hH z) au) fun w3 bm av bd=>A4 1 rfl<|Bi 3 rfl<|Az h fun aw h=>Ag (LG rfl rfl rfl Ab1 aw) rfl<|Ag (AR rfl (fun _=>Uk _ _ rfl _)) rfl<|AH AO rfl rfl av fun w6 b6 ax be _=>Ah 0 rfl AO ax rfl (Bc rfl) fun w7 aa bf=>Ac<|A7<|Bi 2 rfl<|Ay h fun x8 ay h=>AA rfl rfl aa (CP _ _ (Ar hH aa) ay) fun w9 bn j bg=>A4 1 rfl<|Bb rfl h (fun ab h=>?_) (fun ab h=>?_)
 ·refine Am<|Ag (AE 0 rfl AcF rfl AO j rfl) rfl<|As 1 rfl<|Ah 1 rfl AO j rfl (Bc rfl) fun bo k az=>A4 1 rfl<|Ax<|An ?_
  cases h
  refine Bz rfl (.cell rfl AcF rfl AO (AL (i:=1) k rfl)) (.tmp rfl) ⟨k.ext,_,_,_,rfl,BN.nil,(AI.nil _ _),BN.nil⟩
 refine Av<|Ao<|A7<|Bi 2 rfl<|Az h fun ac h=>Ag (A1 rfl ac) rfl<|Bp (r:=.byte) (l:=[(39:UInt8)]) rfl (fun _=>EC _ _) rfl (leMax 1) hH j (.c1 rfl .nil) fun bp bq bh g a2 ad=>Ag (KJ rfl AbF Ac5 Ab1 ad (Ar hH g)) rfl<|Ay h fun br ae h=>AA rfl rfl g (CP _ _ (Ar hH g) ae) fun bs bi c a3=>Ac<|Bb rfl h (fun af h=>?_) (fun af h=>?_)
 ·refine Bi 2 rfl<|Az h fun ag h=>Ag (A1 rfl ag) rfl<|Ay h fun bt ah h=>Bn rfl rfl c (Qw _ _ (Ar hH c) ah) ?_;rintro _ bu ⟨a4,rfl,m⟩ ai o a5;have b:=m.Cz hH c ai;refine A4 5 rfl<|Am<|Ag (Ae rfl AcF rfl EZ) rfl<|Ag (Af 0 rfl Ab1 rfl o rfl) rfl<|As 1 rfl<|Ag (AR rfl (fun _=>VX _ _ rfl _ b.one _)) rfl<|As 1 rfl<|Ah 1 rfl AO o rfl (AU rfl (AU rfl (AU rfl (AU b.one (Bc rfl))))) fun bv p y=>A4 1 rfl<|Ax<|An ?_
  cases h
  refine Bz rfl (.cell rfl AcF rfl AO (AL (i:=1) p rfl)) (.tmp rfl) ?_;have b:=b.mono (Ab hH y);exact⟨p.ext,_,_,_,rfl,BN.nil,(b.mono (B5 hH)),BN.nil⟩
 refine Av<|Ao<|Bi 2 rfl<|Az h fun aj h=>Ag (A1 rfl aj) rfl<|Ay h fun bw ak h=>AA rfl rfl c (KY _ _ (Ar hH c) ak) fun bx bj d a6=>A4 5 rfl<|A7<|Bi 3 rfl<|AP (s:=55) rfl (fun a=>?_) (fun a=>?_)
 ·have h:=BI (of_decide_eq_true a) h
  iterate 4 refine Ai rfl a rfl ?_
  refine Ag (A2 rfl a rfl) rfl<|Ac<|Cg rfl<|Am<|Ag (AE 0 rfl AcF rfl AO d rfl) rfl<|Ah 1 rfl AO d rfl (Bc rfl) fun bz q a7=>A4 1 rfl<|Ax<|An ?_
  cases h
  refine Bz rfl (.cell rfl AcF rfl AO (AL (i:=1) q rfl)) (.tmp rfl) ⟨q.ext,_,_,_,rfl,BN.nil,(AI.nil _ _),BN.nil⟩
 have h:=BJ (of_decide_eq_false a) h;refine Aa rfl a<|Ag (Ad rfl) rfl<|Aa rfl a<|Ag (Ad rfl) rfl<|Aa rfl a<|Ay h fun b0 al h=>AA rfl rfl d (CP _ _ (Ar hH d) al) fun b2 bk e a8=>Aa rfl a<|Ag (Ad rfl) rfl<|Ag (A9 rfl a rfl) rfl<|Ac<|Bb rfl h (fun am h=>?_) (fun am h=>?_)
 ·refine Am<|Ag (AE 0 rfl AcF rfl AO e rfl) rfl<|Ah 1 rfl AO e rfl (Bc rfl) fun b3 t a9=>A4 1 rfl<|Ax<|An ?_
  cases h
  refine Bz rfl (.cell rfl AcF rfl AO (AL (i:=1) t rfl)) (.tmp rfl) ⟨t.ext,_,_,_,rfl,BN.nil,(AI.nil _ _),BN.nil⟩
 refine Av<|Ao<|Bi 2 rfl<|Az h fun an h=>Ag (A1 rfl an) rfl<|Ay h fun b4 ao h=>AA rfl rfl e (KY _ _ (Ar hH e) ao) fun b5 bl u ba=>A4 5 rfl<|Am<|Ag (Ae rfl AcF rfl EZ) rfl<|Ag (Af 0 rfl Ab1 rfl u rfl) rfl<|As 2 rfl<|Ag (AR rfl (fun _=>TF _ _ rfl _ _ _)) rfl<|As 1 rfl<|Ah 1 rfl AO u rfl (Bc rfl) fun b7 x bb=>A4 1 rfl<|Ax ?_
 cases h
 refine Bz rfl (.cell rfl AcF rfl AO (AL (i:=1) x rfl)) (.tmp rfl) ⟨x.ext,_,_,_,rfl,BN.nil,(AI.nil _ _),BN.nil⟩
def Ka(b:Int)(c:List Abk)(d:Abk)(e f a:Int):Option (Go.L.Qv×Int):=
 some ((Go.L.Qv.mk b c d ([]) e f ([])),a)
def Kb(a0:Abk)(a1:Int):Option (Go.L.Qv×Int):=
 Option.bind (JX a0 a1 (0:Int)) (fun b=>AS (0<=a1/\a1<=b/\b<=(a0.length:Int)) (if b=a1 then some ((Go.L.Qv.mk (1:Int) ([((a0.drop a1.toNat).take (b.toNat - a1.toNat))]) ([]:Abk) ([]) (0:Int) (0:Int) ([])),(-1)) else Option.bind (CO a0 b ([126]:Abk)) (fun d=>if !d then some ((Go.L.Qv.mk (1:Int) ([((a0.drop a1.toNat).take (b.toNat - a1.toNat))]) ([]:Abk) ([]) (0:Int) (0:Int) ([])),b) else AS (B0 (b+1)) (Option.bind (Hy a0 (b+1)) (fun a=>if a.2<0 then some ((Go.L.Qv.mk (1:Int) ([((a0.drop a1.toNat).take (b.toNat - a1.toNat))]) ([]:Abk) ([]) (0:Int) (0:Int) ([])),(-1)) else Option.bind (CO a0 a.2 ([126]:Abk)) (fun e=>if !e then some ((Go.L.Qv.mk (1:Int) ([((a0.drop a1.toNat).take (b.toNat - a1.toNat))]) ([]:Abk) ([]) (0:Int) (0:Int) ([])),(-1)) else AS (B0 (a.2+1)) (Option.bind (JX a0 (a.2+1) (0:Int)) (fun c=>AS (B0 (a.2+1)) (AS (0<=a1/\a1<=b/\b<=(a0.length:Int)) (AS (0<=(a.2+1)/\(a.2+1)<=c/\c<=(a0.length:Int)) (Ka (3:Int) ([((a0.drop a1.toNat).take (b.toNat - a1.toNat)),((a0.drop (a.2+1).toNat).take (c.toNat - (a.2+1).toNat))]) ([]:Abk) a.1 (0:Int) c)))))))))))
theorem Qy(w:World)(H:PH)(hH:Le H (hp w)){a0:Abk}{a1:Int}{r:Go.L.Qv×Int}(h:Kb a0 a1=some r):
  Ok prog 121 [Abj a0,No a1] w (fun v w'=>Ext w w'/\∃ u0 u1 u2,v=.tuple #[.agg #[No r.1.f.1,u0,Abj r.1.f.2.2.1,u1,No r.1.f.2.2.2.2.1,No r.1.f.2.2.2.2.2.1,u2],No r.2]/\AI .st (un H (nw w w')) u0 (r.1.f.2.1)/\BN 5 .byte H w w' u1 (r.1.f.2.2.2.1)/\BN 26 .Bg H w w' u2 (r.1.f.2.2.2.2.2.2)):=by
 refine A3 (n:=63) [(0,(Abj a0)),(1,No a1)] func121 rfl fun hL=>Am<|AH AO rfl rfl hL fun w1 b1 be b4 _=>A4 1 rfl<|Bi 2 rfl<|Ay h fun x2 bt h=>AA rfl rfl be (KT _ _ (Ar hH be) bt) fun w3 cg bu b5=>A4 1 rfl<|Bi 3 rfl<|Az h fun bv h=>Ag (LG rfl rfl rfl Ab1 bv) rfl<|Bp (r:=.st) (l:=[((a0.drop a1.toNat).take (x2.toNat - a1.toNat))]) rfl (fun _=>N1 _ rfl _) rfl (leMax 1) hH bu (.c1 rfl .nil) fun v6 w6 ch bw b6 b=>Ag (AR rfl (fun _=>OW _ _ b.one _)) rfl<|AH AO rfl rfl bw fun w7 b7 bx m _=>Ah 0 rfl AO bx rfl (AU rfl (AU b.one (Bc rfl))) fun w8 ak o=>Ac<|A7<|AD 3 rfl<|AM rfl h (fun bz h=>?_) (fun bz h=>?_)
 ·refine Am<|Ag (AE 0 rfl AcF rfl AO ak rfl) rfl<|Ah 1 rfl AO ak rfl (AU rfl (AU b.one (Bc rfl))) fun ci ax a7=>A4 1 rfl<|Ax<|An ?_
  cases h
  refine Bz rfl (.cell rfl AcF rfl AO (AL (i:=1) ax rfl)) (.tmp rfl) ?_;have b:=b.mono (Ab hH (m.trans (o.trans a7)));exact⟨ax.ext,_,_,_,rfl,(b.mono (B5 hH)),BN.nil,BN.nil⟩
 refine Av<|Ao<|A7<|Bi 2 rfl<|Ay h fun cj bh h=>AA rfl rfl ak (CP _ _ (Ar hH ak) bh) fun ck b8 y k=>A4 1 rfl<|Bb rfl h (fun bi h=>?_) (fun bi h=>?_)
 ·refine Am<|Ag (AE 0 rfl AcF rfl AO y rfl) rfl<|As 1 rfl<|Ah 1 rfl AO y rfl (AU rfl (AU b.one (Bc rfl))) fun cl ay a8=>A4 1 rfl<|Ax<|An ?_
  cases h
  refine Bz rfl (.cell rfl AcF rfl AO (AL (i:=1) ay rfl)) (.tmp rfl) ?_;have b:=b.mono (Ab hH (m.trans (o.trans (k.trans a8))));exact⟨ay.ext,_,_,_,rfl,(b.mono (B5 hH)),BN.nil,BN.nil⟩
 refine Av<|Ao<|Bi 2 rfl<|Az h fun bj h=>Ag (A1 rfl bj) rfl<|Ay h fun g bk h=>AA rfl rfl y (KY _ _ (Ar hH y) bk) fun cm b9 aa p=>A4 5 rfl<|A7<|Bi 3 rfl<|AP (s:=39) rfl (fun e=>?_) (fun e=>?_)
 ·have h:=BI (of_decide_eq_true e) h
  iterate 4 refine Ai rfl e rfl ?_
  refine Ag (A2 rfl e rfl) rfl<|Ac<|Cg rfl<|Am<|Ag (AE 0 rfl AcF rfl AO aa rfl) rfl<|Ah 1 rfl AO aa rfl (AU rfl (AU b.one (Bc rfl))) fun cn az a9=>A4 1 rfl<|Ax<|An ?_
  cases h
  refine Bz rfl (.cell rfl AcF rfl AO (AL (i:=1) az rfl)) (.tmp rfl) ?_;have b:=b.mono (Ab hH (m.trans (o.trans (k.trans (p.trans a9)))));exact⟨az.ext,_,_,_,rfl,(b.mono (B5 hH)),BN.nil,BN.nil⟩
 have h:=BJ (of_decide_eq_false e) h;refine Aa rfl e<|Ag (Ad rfl) rfl<|Aa rfl e<|Ag (Ad rfl) rfl<|Aa rfl e<|Ay h fun co bl h=>AA rfl rfl aa (CP _ _ (Ar hH aa) bl) fun cp ca ab ac=>Aa rfl e<|Ag (Ad rfl) rfl<|Ag (A9 rfl e rfl) rfl<|Ac<|Bb rfl h (fun bm h=>?_) (fun bm h=>?_)
 ·refine Am<|Ag (AE 0 rfl AcF rfl AO ab rfl) rfl<|Ah 1 rfl AO ab rfl (AU rfl (AU b.one (Bc rfl))) fun cq a2 ba=>A4 1 rfl<|Ax<|An ?_
  cases h
  refine Bz rfl (.cell rfl AcF rfl AO (AL (i:=1) a2 rfl)) (.tmp rfl) ?_;have b:=b.mono (Ab hH (m.trans (o.trans (k.trans (p.trans (ac.trans ba))))));exact⟨a2.ext,_,_,_,rfl,(b.mono (B5 hH)),BN.nil,BN.nil⟩
 refine Av<|Ao<|Bi 2 rfl<|Az h fun bn h=>Ag (A1 rfl bn) rfl<|Ay h fun x bo h=>AA rfl rfl ab (KT _ _ (Ar hH ab) bo) fun cr cb a3 al=>A4 1 rfl<|Bo (σ:=Int×(List Abk)×Abk×Int×Int×Int×Value) (fun⟨am,an,ao,ap,aq,q,ad⟩=>[(4,(Abi b1)),(5,No q)]) (fun⟨am,an,ao,ap,aq,q,ad⟩ wr=>DF w [.box b7 [No 1,v6,(Abj []),Aa8,No 0,No 0,Aa8] 26,.box b1 [No am,ad,Abj ao,Aa8,No ap,No aq,Aa8] 26] wr fun Oz=>AI .st (gz H w wr Oz) v6 ([((a0.drop a1.toNat).take (x2.toNat - a1.toNat))])/\AI .st (gz H w wr Oz) ad an/\Ka am an ao ap aq q=some r) ?_ ?_
 ·refine JG (ME Mo) (fun z0 z=>Le (gz H w z0 [.box b7 [No 1,v6,(Abj []),Aa8,No 0,No 0,Aa8] 26,.box b1 Abl 26]) (hp z)/\z.heap[b7]? = some (.cells [No 1,v6,(Abj []),Aa8,No 0,No 0,Aa8].toArray 26 (0,0))) mixed rfl (fun c cs a4=>?_);have d:=a3.call a4;have ar:=AT a3 a4;have a:=d.rG H;refine Mp ⟨a.trans (Ar hH d),d.at (i:=0) rfl⟩ fun kI72=>AB 0 c kI72 (by kernel_rfl) rfl (fun _ _=>Ad rfl) rfl<|AB 1 c kI72 (by kernel_rfl) rfl (fun _ _=>Ad rfl) rfl<|AB 2 c kI72 (by kernel_rfl) rfl (fun _ _=>Ad rfl) rfl<|AB 4 c kI72 (by kernel_rfl) rfl (fun _ _=>Ad rfl) rfl<|AB 5 c kI72 (by kernel_rfl) rfl (fun _ _=>Ad rfl) rfl<|Az h fun bp h=>AB 6 c kI72 (by kernel_rfl) rfl (fun _ _=>A1 rfl bp) rfl<|AB 7 c kI72 (by kernel_rfl) rfl (fun _ _=>Ad rfl) rfl<|AB 10 c kI72 (by kernel_rfl) rfl (fun _ _=>Ad rfl) rfl ?_
  refine AB 12 c kI72 (by kernel_rfl) rfl (fun _ _=>Ad rfl) rfl<|Zd (i:=3) (j:=8) (by kernel_rfl) rfl rfl ?_ ?_
  ·refine Az h fun ae h=>Ag (LG rfl rfl rfl Ab1 ae) rfl<|AX ⟨a.trans (Ar hH d),d.at (i:=0) rfl⟩ fun kI76=>Ef (i:=8) (by kernel_rfl) rfl<|Az h fun af h=>Ag (LG rfl rfl rfl Ab1 af) rfl<|AX ⟨a.trans (Ar hH d),d.at (i:=0) rfl⟩ fun kI79=>Ef (i:=9) (by kernel_rfl) rfl<|Bp (r:=.st) (l:=[((a0.drop a1.toNat).take (x2.toNat - a1.toNat)),((a0.drop (g.2+1).toNat).take (x.toNat - (g.2+1).toNat))]) rfl (fun _=>UT _ rfl _ rfl _) rfl (leMax 2) hH d (.c1 rfl (.c1 rfl .nil)) ?_;intro b0 ct cd ag bb t;have a:=a.trans (Ab hH bb);refine AX ⟨a.trans (Ar hH ag),ag.at (i:=0) rfl⟩ fun kI81=>AB 11 c kI81 (by kernel_rfl) rfl (fun _ _=>AR rfl (fun _=>R0 _ _ t.one _ _)) rfl<|Ef (i:=13) (by kernel_rfl) rfl<|Ah 1 rfl AO ag rfl (AU rfl (AU t.one (Bc rfl))) ?_;intro cu ah au;have a:=a.trans (Ab hH au);refine AX ⟨a.trans (Ar hH ah),ah.at (i:=0) rfl⟩ fun kI83=>AB 14 c kI83 (by kernel_rfl) rfl (fun _ _=>Ad rfl) rfl<|DB (by kernel_rfl) ?_;have b:=b.mono (Ab hH (m.trans (o.trans (k.trans (p.trans (ac.trans (al.trans ar)))))))
   have t:=t.mono (Ab hH au);refine A8 (3,[((a0.drop a1.toNat).take (x2.toNat - a1.toNat)),((a0.drop (g.2+1).toNat).take (x.toNat - (g.2+1).toNat))],([]:Abk),g.1,0,x,b0) (Sub.of rfl) ⟨ah,(b.mono a),t,h⟩
  refine Az h fun ae h=>Az h fun af h=>Ag (LG rfl rfl rfl Ab1 af) rfl<|AX ⟨a.trans (Ar hH d),d.at (i:=0) rfl⟩ fun kI85=>Ef (i:=3) (by kernel_rfl) rfl<|Ag (LG rfl rfl rfl Ab1 ae) rfl<|AX ⟨a.trans (Ar hH d),d.at (i:=0) rfl⟩ fun kI87=>Ef (i:=9) (by kernel_rfl) rfl<|Bp (r:=.st) (l:=[((a0.drop a1.toNat).take (x2.toNat - a1.toNat)),((a0.drop (g.2+1).toNat).take (x.toNat - (g.2+1).toNat))]) rfl (fun _=>UT _ rfl _ rfl _) rfl (leMax 2) hH d (.c1 rfl (.c1 rfl .nil)) ?_;intro b2 cv ce ai bc u;have a:=a.trans (Ab hH bc);refine AX ⟨a.trans (Ar hH ai),ai.at (i:=0) rfl⟩ fun kI89=>AB 11 c kI89 (by kernel_rfl) rfl (fun _ _=>AR rfl (fun _=>R0 _ _ u.one _ _)) rfl<|Ef (i:=13) (by kernel_rfl) rfl<|Ah 1 rfl AO ai rfl (AU rfl (AU u.one (Bc rfl))) ?_;intro cw aj av;have a:=a.trans (Ab hH av);refine AX ⟨a.trans (Ar hH aj),aj.at (i:=0) rfl⟩ fun kI91=>AB 14 c kI91 (by kernel_rfl) rfl (fun _ _=>Ad rfl) rfl<|DB (by kernel_rfl) ?_;have b:=b.mono (Ab hH (m.trans (o.trans (k.trans (p.trans (ac.trans (al.trans ar)))))))
  have u:=u.mono (Ab hH av);refine A8 (3,[((a0.drop a1.toNat).take (x2.toNat - a1.toNat)),((a0.drop (g.2+1).toNat).take (x.toNat - (g.2+1).toNat))],([]:Abk),g.1,0,x,b2) (Sub.of rfl) ⟨aj,(b.mono a),u,h⟩
 rintro⟨am,an,ao,ap,aq,q,ad⟩ cf ⟨a5,b3,bd,h⟩;refine Ax ?_
 cases h
 refine Bz rfl (.cell rfl AcF rfl AO (AL (i:=1) a5 rfl)) (.tmp rfl) ⟨a5.ext,_,_,_,rfl,(bd.mono (B5 hH)),BN.nil,BN.nil⟩
def Gq(a0:Abk):(List Abk)×Int->Option (((List Abk)×Int) ⊕ (Go.L.Qv×Int)):=fun⟨c,a⟩=>
 Option.bind (JX a0 a (0:Int)) (fun b=>AS (0<=a/\a<=b/\b<=(a0.length:Int)) (AS (Go.E.J3 16 (c.length+([((a0.drop a.toNat).take (b.toNat - a.toNat))]).length)) (Option.bind (CO a0 b ([(34:UInt8)])) (fun d=>if d then AS (B0 (b+1)) (Option.map Sum.inr (some ((Go.L.Qv.mk (2:Int) (c++[((a0.drop a.toNat).take (b.toNat - a.toNat))]) ([]:Abk) ([]) (0:Int) (0:Int) ([])),(b+1)))) else Option.bind (CO a0 b ([32]:Abk)) (fun e=>if !e then Option.map Sum.inr (some ((Go.L.Qv.mk (2:Int) (c++[((a0.drop a.toNat).take (b.toNat - a.toNat))]) ([]:Abk) ([]) (0:Int) (0:Int) ([])),(-1))) else AS (B0 (b+1)) (some (Sum.inl ((c++[((a0.drop a.toNat).take (b.toNat - a.toNat))]),(b+1)))))))))
def IY(a0:Abk)(s:(List Abk)×Int):Option (Go.L.Qv×Int):=Go.L.run (Gq a0) s
def Ni(a0:Abk)(a1:Int):Option (Go.L.Qv×Int):=
 (IY a0) (([]:List Abk),a1)
theorem Pm(w:World)(H:PH)(hH:Le H (hp w)){a0:Abk}{a1:Int}{r:Go.L.Qv×Int}(h:Ni a0 a1=some r):
  Ok prog 119 [Abj a0,No a1] w (fun v w'=>Ext w w'/\∃ u0 u1 u2,v=.tuple #[.agg #[No r.1.f.1,u0,Abj r.1.f.2.2.1,u1,No r.1.f.2.2.2.2.1,No r.1.f.2.2.2.2.2.1,u2],No r.2]/\BN 9 .st H w w' u0 (r.1.f.2.1)/\BN 5 .byte H w w' u1 (r.1.f.2.2.2.1)/\BN 26 .Bg H w w' u2 (r.1.f.2.2.2.2.2.2)):=by
 refine A3 (n:=36) [(0,(Abj a0)),(1,No a1)] func119 rfl fun hL=>Am<|AH AO rfl rfl hL fun w1 b1 bd bk _=>A4 1 rfl<|Am<|Ag (AR rfl (fun _=>UR _ _)) rfl<|AH AO rfl rfl bd fun w2 b2 bf bl _=>Ah 0 rfl AO bf rfl (Bc rfl) fun w3 bg bm=>Ac<|A5 ?_;obtain⟨aq,bi,ar⟩:=C0 .st H 9 bg;obtain⟨ad,h⟩:=AZ h;refine Bx (σ:=(List Abk)×Int×Value×(List Value)×Nat) (fun⟨d,a,e,c,n⟩=>[(0,(Abj a0)),(1,No a),(4,(Abi b1)),(6,(Abi b2))]) (fun⟨d,a,e,c,n⟩ wr=>DF w [.row e 9 1 (d).length c,.box b2 [No 2,e,(Abj []),Aa8,No 0,No 0,Aa8] 26,.box b1 Abl 26] wr fun Oz=>AJ .st (gz H w wr Oz) d c/\F6 (Gq a0) n (d,a)=some r) (fun⟨d,a,e,c,n⟩=>n) (([]:List Abk),a1,Aa8,[],ad) (Sub.of rfl) ⟨aq,ar,h⟩ ?_;rintro⟨d,a,e,c,nn36⟩ bn ⟨ae,j,h⟩
 obtain⟨ad,bt,rfl,h,t⟩:=AY h;refine A5<|Bi 2 rfl<|Ay h fun aa au h=>AA rfl rfl ae (KT _ _ (Ar hH ae) au) fun bu bo af al=>A4 1 rfl<|DD (.q 0 (.q 1 (.q 2 (.q 3 (.q 4 (.q 5 (.h 6 (.tail 7)))))))) mixed (by kernel_rfl) (fun bv ag=>?_);have ah:=af.call ag;have am:=AT af ag;refine BQ (Ae rfl AcF rfl IW) rfl rfl<|BQ (Af 1 rfl Ac7 rfl ah rfl) rfl rfl<|Df 3 rfl<|Az h fun av h=>BQ (LG rfl rfl rfl Ab1 av) rfl rfl<|MD (r:=.st) (l:=[((a0.drop a.toNat).take (aa.toNat - a.toNat))]) rfl rfl (fun _=>N1 _ rfl _) rfl (leMax 1) hH ah (.c1 rfl .nil) fun bw bx bp ai an u=>Cd (fun bz aj=>?_);have aw:=ai.call aj;have ab:=AT ai aj;refine Az h fun ax h=>?_;have j:=j.mono (Ab hH (al.trans (am.trans (an.trans ab))));have u:=u.mono (Ab hH ab);refine Bt (r:=.st) (l:=d) (m:=[((a0.drop a.toNat).take (aa.toNat - a.toNat))]) 0 rfl rfl Ac7 EZ rfl (by decide) rfl hH aw rfl j u ax fun bh b0 ay ak bj b=>Ag (Ae rfl AcF rfl IW) rfl<|Bm 1 rfl rfl (row_one (ak.at (i:=0) rfl)) IW ak rfl rfl ?_;intro b3 az k
 refine Ac<|A7<|Bi 2 rfl<|Bp (r:=.byte) (l:=[(34:UInt8)]) rfl (fun _=>EC _ _) rfl (leMax 1) hH az (.c1 rfl .nil) fun b4 b5 bq x o a2=>Ag (KJ rfl AbF Ac5 Ab1 a2 (Ar hH x)) rfl<|Ay h fun b6 a3 h=>AA rfl rfl x (CP _ _ (Ar hH x) a3) fun b7 br g p=>Ac<|Bb rfl h (fun a4 h=>?_) (fun a4 h=>?_)
 ·refine Am<|Ag (AE 1 rfl AcF rfl AO g rfl) rfl<|As 1 rfl<|Az h fun a5 h=>Ag (A1 rfl a5) rfl<|Ah 2 rfl AO g rfl (AU rfl (AU (row_one (g.at (i:=0) rfl)) (Bc rfl))) fun b8 y ao=>A4 1 rfl<|Ax<|An<|Aq<|By ?_;have h:=BP.out h t;refine Aq ?_
  cases h
  refine Bz rfl (.cell rfl AcF rfl AO (AL (i:=2) y rfl)) (.tmp rfl) ?_;have b:=b.mono (Ab hH (k.trans (o.trans (p.trans ao))));exact⟨y.ext,_,_,_,rfl,(y.Ge hH (i:=0) rfl b),BN.nil,BN.nil⟩
 refine Av<|Ao<|A7<|Bi 2 rfl<|Ay h fun b9 a6 h=>AA rfl rfl g (CP _ _ (Ar hH g) a6) fun ca bs s ac=>A4 1 rfl<|Bb rfl h (fun a7 h=>?_) (fun a7 h=>?_)
 ·refine Am<|Ag (AE 1 rfl AcF rfl AO s rfl) rfl<|Ah 2 rfl AO s rfl (AU rfl (AU (row_one (s.at (i:=0) rfl)) (Bc rfl))) fun cb z ap=>A4 1 rfl<|Ax<|An<|Aq<|By ?_;have h:=BP.out h t;refine Aq ?_
  cases h
  refine Bz rfl (.cell rfl AcF rfl AO (AL (i:=2) z rfl)) (.tmp rfl) ?_;have b:=b.mono (Ab hH (k.trans (o.trans (p.trans (ac.trans ap)))));exact⟨z.ext,_,_,_,rfl,(z.Ge hH (i:=0) rfl b),BN.nil,BN.nil⟩
 refine Av<|Ao<|Aw<|As 1 rfl<|Az h fun a8 h=>Ag (A1 rfl a8) rfl<|As 1 rfl<|AK<|AF ?_;have h:=BP.again h t;have b:=b.mono (Ab hH (k.trans (o.trans (p.trans ac))));refine AN ((d++[((a0.drop a.toNat).take (aa.toNat - a.toNat))]),(aa+1),bh,ay,ad) (Sub.of rfl) ⟨s,b,h⟩ (Nat.lt_succ_self _)
def IE(self1:Abk->Int->Option (Go.L.Qv×Int))(self2:Abk->Int->Bool->Option (Go.L.Qv×Int))(a0:Abk)(a1:Int):Option (Go.L.Qv×Int):=
 Option.bind (CO a0 a1 ([33]:Abk)) (fun l=>if l then AS (B0 (a1+1)) (Option.bind (self1 a0 (a1+1)) (fun f=>some ((Go.L.Qv.mk (10:Int) ([]) ([]:Abk) ([]) (0:Int) (0:Int) ([f.1])),f.2))) else Option.bind (CO a0 a1 ([40]:Abk)) (fun g=>if g then AS (B0 (a1+1)) (Option.bind (self2 a0 (a1+1) true) (fun a=>if a.2<0 then some (a.1,(-1)) else Option.bind (CO a0 a.2 ([41]:Abk)) (fun h=>if !h then some (a.1,(-1)) else AS (B0 (a.2+1)) (some (a.1,(a.2+1)))))) else Option.bind (CO a0 a1 ([47]:Abk)) (fun i=>if i then AS (B0 (a1+1)) (Option.bind (JZ a0 (a1+1)) (fun b=>some (b.1,b.2))) else Option.bind (CO a0 a1 ([(34:UInt8)])) (fun j=>if j then AS (B0 (a1+1)) (Option.bind (Ni a0 (a1+1)) (fun c=>some (c.1,c.2))) else Option.bind (CO a0 a1 ([(39:UInt8)])) (fun k=>if k then Option.bind (Nh a0 a1) (fun d=>some ((Go.L.Qv.mk (4:Int) ([]) ([]:Abk) d.1 (0:Int) (0:Int) ([])),d.2)) else Option.bind (Kb a0 a1) (fun e=>some (e.1,e.2)))))))
theorem Pn{self1:Abk->Int->Option (Go.L.Qv×Int)}{self2:Abk->Int->Bool->Option (Go.L.Qv×Int)}(hself1:∀ (w:World) (H:PH) (hH:Le H (hp w)) {a0:Abk} {a1:Int} {r:Go.L.Qv×Int} (h:self1 a0 a1=some r),Ok prog 72 [Abj a0,No a1] w (fun v w'=>Ext w w'/\∃ u0 u1 u2,v=.tuple #[.agg #[No r.1.f.1,u0,Abj r.1.f.2.2.1,u1,No r.1.f.2.2.2.2.1,No r.1.f.2.2.2.2.2.1,u2],No r.2]/\AI .st (un H (nw w w')) u0 (r.1.f.2.1)/\AI .byte (un H (nw w w')) u1 (r.1.f.2.2.2.1)/\AI .Bg (un H (nw w w')) u2 (r.1.f.2.2.2.2.2.2)))(hself2:∀ (w:World) (H:PH) (hH:Le H (hp w)) {a0:Abk} {a1:Int} {a2:Bool} {r:Go.L.Qv×Int} (h:self2 a0 a1 a2=some r),Ok prog 44 [Abj a0,No a1,.bool a2] w (fun v w'=>Ext w w'/\∃ u0 u1 u2,v=.tuple #[.agg #[No r.1.f.1,u0,Abj r.1.f.2.2.1,u1,No r.1.f.2.2.2.2.1,No r.1.f.2.2.2.2.2.1,u2],No r.2]/\AI .st (un H (nw w w')) u0 (r.1.f.2.1)/\AI .byte (un H (nw w w')) u1 (r.1.f.2.2.2.1)/\AI .Bg (un H (nw w w')) u2 (r.1.f.2.2.2.2.2.2)))(w:World)(H:PH)(hH:Le H (hp w)){a0:Abk}{a1:Int}{r:Go.L.Qv×Int}(h:IE self1 self2 a0 a1=some r):
  Ok prog 72 [Abj a0,No a1] w (fun v w'=>Ext w w'/\∃ u0 u1 u2,v=.tuple #[.agg #[No r.1.f.1,u0,Abj r.1.f.2.2.1,u1,No r.1.f.2.2.2.2.1,No r.1.f.2.2.2.2.2.1,u2],No r.2]/\AI .st (un H (nw w w')) u0 (r.1.f.2.1)/\AI .byte (un H (nw w w')) u1 (r.1.f.2.2.2.1)/\AI .Bg (un H (nw w w')) u2 (r.1.f.2.2.2.2.2.2)):=by
 refine A3 (n:=92) [(0,(Abj a0)),(1,No a1)] func72 rfl fun hL=>Am<|AH AO rfl rfl hL fun w1 b1 b3 dw _=>A4 1 rfl<|A7<|A5<|Bi 2 rfl<|Ay h fun x2 cy h=>AA rfl rfl b3 (CP _ _ (Ar hH b3) cy) fun w3 eb ah dx=>A4 1 rfl<|Bb rfl h (fun cz h=>?_) (fun cz h=>?_)
 ·refine Bi 2 rfl<|Az h fun c0 h=>Ag (A1 rfl c0) rfl<|Ay h fun x7 c2 h=>Bn rfl rfl ah (hself1 _ _ (Ar hH ah) c2) ?_;rintro _ w8 ⟨dz,d0,d1,rfl,bt,bu,bv⟩ a7 c3 d2;have ae:=bt.mono (Cm hH ah a7);have af:=bu.mono (Cm hH ah a7);have ag:=bv.mono (Cm hH ah a7);refine As 3 rfl<|AH AO rfl rfl c3 fun w9 b9 c4 au _=>Ah 0 rfl AO c4 rfl (AU rfl (AU ae.one (AU rfl (AU af.one (AU rfl (AU rfl (AU ag.one Hj))))))) fun ec av ak=>A4 1 rfl ?_;have aw:=av.rG H;refine Am<|Ag (AE 0 rfl AcF rfl AO av rfl) rfl ?_;have ae:=ae.mono (Ab hH (au.trans ak));have af:=af.mono (Ab hH (au.trans ak));have ag:=ag.mono (Ab hH (au.trans ak));refine Bp (r:=.Bg) (l:=[x7.1]) rfl (fun _=>K5 _ _ _ _ _ _ _ _) rfl (leMax 1) hH av (.c7 (Go.E.Rp.F4 ⟨_,_,rfl,rfl,⟨_,_,rfl,⟨_,rfl,(ae.mono aw)⟩,⟨_,_,rfl,rfl,⟨_,_,rfl,⟨_,rfl,(af.mono aw)⟩,⟨_,_,rfl,rfl,⟨_,_,rfl,rfl,⟨_,rfl,(ag.mono aw)⟩⟩⟩⟩⟩⟩⟩) .nil) fun ed ee d3 b4 c5 ai=>Ag (AR rfl (fun _=>L5 _ _ ai.one _)) rfl<|As 1 rfl ?_
  refine Ah 1 rfl AO b4 rfl (AU rfl (AU rfl (AU rfl (AU rfl (AU rfl (AU rfl (AU ai.one Hj))))))) fun ef a8 bw=>A4 1 rfl<|Ax<|Aq<|An ?_
  cases h
  refine Bz rfl (.cell rfl AcF rfl AO (AL (i:=1) a8 rfl)) (.tmp rfl) ?_;have ai:=ai.mono (Ab hH bw);exact⟨a8.ext,_,_,_,rfl,(AI.nil _ _),(AI.nil _ _),(ai.mono (B5 hH))⟩
 refine Bi 2 rfl<|Ay h fun eg b5 h=>AA rfl rfl ah (CP _ _ (Ar hH ah) b5) fun eh d4 o c6=>A4 1 rfl<|Bb rfl h (fun b6 h=>?_) (fun b6 h=>?_)
 ·refine Bi 2 rfl<|Az h fun b7 h=>Ag (A1 rfl b7) rfl<|Ay h fun ei b8 h=>Bn rfl rfl o (hself2 _ _ (Ar hH o) b8) ?_;rintro _ ej ⟨c8,c9,da,rfl,a9,ba,bb⟩ ax ca db;have b:=a9.mono (Cm hH o ax);have c:=ba.mono (Cm hH o ax);have d:=bb.mono (Cm hH o ax);refine As 3 rfl<|AH AO rfl rfl ca fun ek el cb e _=>Ah 0 rfl AO cb rfl (AU rfl (AU b.one (AU rfl (AU c.one (AU rfl (AU rfl (AU d.one Hj))))))) fun em aj g=>A4 1 rfl<|A7 ?_;have a:=aj.rG H;refine Bi 3 rfl<|AP (s:=40) rfl (fun j=>?_) (fun j=>?_)
  ·have h:=BI (of_decide_eq_true j) h
   iterate 4 refine Ai rfl j rfl ?_
   refine Ag (A2 rfl j rfl) rfl<|Ac<|Cg rfl<|Am<|Ag (AE 0 rfl AcF rfl AO aj rfl) rfl ?_;have b:=b.mono (Ab hH (e.trans g));have c:=c.mono (Ab hH (e.trans g));have d:=d.mono (Ab hH (e.trans g));refine Ah 1 rfl AO aj rfl (AU rfl (AU (b.mono a).one (AU rfl (AU (c.mono a).one (AU rfl (AU rfl (AU (d.mono a).one Hj))))))) fun en bc bx=>A4 1 rfl<|Ax<|An<|Aq<|An ?_
   cases h
   refine Bz rfl (.cell rfl AcF rfl AO (AL (i:=1) bc rfl)) (.tmp rfl) ?_;have a:=a.trans (Ab hH bx);exact⟨bc.ext,_,_,_,rfl,((b.mono a).mono (B5 hH)),((c.mono a).mono (B5 hH)),((d.mono a).mono (B5 hH))⟩
  have h:=BJ (of_decide_eq_false j) h;refine Aa rfl j<|Ag (Ad rfl) rfl<|Aa rfl j<|Ag (Ad rfl) rfl<|Aa rfl j<|Ay h fun eo cc h=>AA rfl rfl aj (CP _ _ (Ar hH aj) cc) fun ep d5 al a6=>Aa rfl j<|Ag (Ad rfl) rfl<|Ag (A9 rfl j rfl) rfl<|Ac<|Bb rfl h (fun cd h=>?_) (fun cd h=>?_)
  ·refine Am<|Ag (AE 0 rfl AcF rfl AO al rfl) rfl ?_;have b:=b.mono (Ab hH (e.trans g));have c:=c.mono (Ab hH (e.trans g));have d:=d.mono (Ab hH (e.trans g));have a:=a.trans (Ab hH a6);refine Ah 1 rfl AO al rfl (AU rfl (AU (b.mono a).one (AU rfl (AU (c.mono a).one (AU rfl (AU rfl (AU (d.mono a).one Hj))))))) fun eq bd bz=>A4 1 rfl<|Ax<|An<|Aq<|An ?_
   cases h
   refine Bz rfl (.cell rfl AcF rfl AO (AL (i:=1) bd rfl)) (.tmp rfl) ?_;have a:=a.trans (Ab hH bz);exact⟨bd.ext,_,_,_,rfl,((b.mono a).mono (B5 hH)),((c.mono a).mono (B5 hH)),((d.mono a).mono (B5 hH))⟩
  refine Av<|Ao<|Am<|Ag (AE 0 rfl AcF rfl AO al rfl) rfl<|As 1 rfl<|Az h fun ce h=>Ag (A1 rfl ce) rfl ?_;have b:=b.mono (Ab hH (e.trans g));have c:=c.mono (Ab hH (e.trans g));have d:=d.mono (Ab hH (e.trans g));have a:=a.trans (Ab hH a6);refine Ah 1 rfl AO al rfl (AU rfl (AU (b.mono a).one (AU rfl (AU (c.mono a).one (AU rfl (AU rfl (AU (d.mono a).one Hj))))))) fun er be b0=>A4 1 rfl<|Ax<|Aq<|An ?_
  cases h
  refine Bz rfl (.cell rfl AcF rfl AO (AL (i:=1) be rfl)) (.tmp rfl) ?_;have a:=a.trans (Ab hH b0);exact⟨be.ext,_,_,_,rfl,((b.mono a).mono (B5 hH)),((c.mono a).mono (B5 hH)),((d.mono a).mono (B5 hH))⟩
 refine Bi 2 rfl<|Ay h fun es cf h=>AA rfl rfl o (CP _ _ (Ar hH o) cf) fun et d6 ac dc=>A4 1 rfl<|Bb rfl h (fun cg h=>?_) (fun cg h=>?_)
 ·refine Bi 2 rfl<|Az h fun ch h=>Ag (A1 rfl ch) rfl<|Ay h fun eu ci h=>Bn rfl rfl ac (Qx _ _ (Ar hH ac) ci) ?_;rintro _ ev ⟨dd,de,df,rfl,bf,bg,bh⟩ ay cj dg;have p:=bf.Cz hH ac ay;have q:=bg.mono (Cm hH ac ay);have t:=bh.Cz hH ac ay;refine As 2 rfl<|Ah 0 rfl AO cj rfl (AU rfl (AU p.one (AU rfl (AU q.one (AU rfl (AU rfl (AU t.one Hj))))))) fun ew bi am=>A4 1 rfl<|Ax<|Aq<|An ?_
  cases h
  refine Bz rfl (.cell rfl AcF rfl AO (AL (i:=0) bi rfl)) (.tmp rfl) ?_;have p:=p.mono (Ab hH am);have q:=q.mono (Ab hH am);have t:=t.mono (Ab hH am);exact⟨bi.ext,_,_,_,rfl,(p.mono (B5 hH)),(q.mono (B5 hH)),(t.mono (B5 hH))⟩
 refine Bi 2 rfl<|Bp (r:=.byte) (l:=[(34:UInt8)]) rfl (fun _=>EC _ _) rfl (leMax 1) hH ac (.c1 rfl .nil) fun ex ey d7 az dh ck=>Ag (KJ rfl AbF Ac5 Ab1 ck (Ar hH az)) rfl<|Ay h fun ez cl h=>AA rfl rfl az (CP _ _ (Ar hH az) cl) fun e0 d8 ad di=>A4 1 rfl<|Bb rfl h (fun cm h=>?_) (fun cm h=>?_)
 ·refine Bi 2 rfl<|Az h fun cn h=>Ag (A1 rfl cn) rfl<|Ay h fun e1 co h=>Bn rfl rfl ad (Pm _ _ (Ar hH ad) co) ?_;rintro _ e2 ⟨dj,dk,dl,rfl,bj,bk,bl⟩ a3 cp dm;have u:=bj.Cz hH ad a3;have x:=bk.Cz hH ad a3;have y:=bl.Cz hH ad a3;refine As 2 rfl<|Ah 0 rfl AO cp rfl (AU rfl (AU u.one (AU rfl (AU x.one (AU rfl (AU rfl (AU y.one Hj))))))) fun e3 bm an=>A4 1 rfl<|Ax<|Aq<|An ?_
  cases h
  refine Bz rfl (.cell rfl AcF rfl AO (AL (i:=0) bm rfl)) (.tmp rfl) ?_;have u:=u.mono (Ab hH an);have x:=x.mono (Ab hH an);have y:=y.mono (Ab hH an);exact⟨bm.ext,_,_,_,rfl,(u.mono (B5 hH)),(x.mono (B5 hH)),(y.mono (B5 hH))⟩
 refine Bi 2 rfl<|Bp (r:=.byte) (l:=[(39:UInt8)]) rfl (fun _=>EC _ _) rfl (leMax 1) hH ad (.c1 rfl .nil) fun e4 e5 d9 a4 dn cq=>Ag (KJ rfl AbF Ac5 Ab1 cq (Ar hH a4)) rfl<|Ay h fun e6 cr h=>AA rfl rfl a4 (CP _ _ (Ar hH a4) cr) fun e7 ea k dp=>A4 1 rfl<|Bb rfl h (fun cs h=>?_) (fun cs h=>?_)
 ·refine Bi 2 rfl<|Ay h fun e8 ct h=>Bn rfl rfl k (Qw _ _ (Ar hH k) ct) ?_;rintro _ e9 ⟨dq,rfl,bn⟩ cu cv dr;have m:=bn.Cz hH k cu;refine A4 5 rfl<|Bi 1 rfl<|Ag (AR rfl (fun _=>Ul _ _ m.one _)) rfl<|As 1 rfl<|Ah 0 rfl AO cv rfl (AU rfl (AU rfl (AU rfl (AU m.one (Bc rfl))))) fun fa bo b2=>A4 1 rfl<|Ax<|Aq<|An ?_
  cases h
  refine Bz rfl (.cell rfl AcF rfl AO (AL (i:=0) bo rfl)) (.tmp rfl) ?_;have m:=m.mono (Ab hH b2);exact⟨bo.ext,_,_,_,rfl,(AI.nil _ _),(m.mono (B5 hH)),(AI.nil _ _)⟩
 refine Av<|AF<|Ao<|Bi 2 rfl<|Ay h fun fb cw h=>Bn rfl rfl k (Qy _ _ (Ar hH k) cw) ?_;rintro _ fc ⟨ds,dt,du,rfl,bp,bq,br⟩ a5 cx dv;have z:=bp.mono (Cm hH k a5);have aa:=bq.Cz hH k a5;have ab:=br.Cz hH k a5;refine As 2 rfl<|Ah 0 rfl AO cx rfl (AU rfl (AU z.one (AU rfl (AU aa.one (AU rfl (AU rfl (AU ab.one Hj))))))) fun fd bs ao=>A4 1 rfl<|Ax ?_
 cases h
 refine Bz rfl (.cell rfl AcF rfl AO (AL (i:=0) bs rfl)) (.tmp rfl) ?_;have z:=z.mono (Ab hH ao);have aa:=aa.mono (Ab hH ao);have ab:=ab.mono (Ab hH ao);exact⟨bs.ext,_,_,_,rfl,(z.mono (B5 hH)),(aa.mono (B5 hH)),(ab.mono (B5 hH))⟩
def EK(a0:Abk)(l:Int)(i:List Go.L.Qv)(j:Abk)(b:Int)(c:List Abk)(d:Abk)(e:Abk)(f g:Int)(h:List Go.L.Qv)(a:Int):Option (((List Go.L.Qv)×Int) ⊕ (Go.L.Qv×Int)):=
 AS (Go.E.J3 112 (i.length+([(Go.L.Qv.mk b c d e f g h)]).length)) (if 0<=a then Option.bind (CO a0 a j) (fun k=>if k then AS (B0 (a+1)) (some (Sum.inl ((i++[(Go.L.Qv.mk b c d e f g h)]),(a+1)))) else(if((i++[(Go.L.Qv.mk b c d e f g h)]).length:Int)=1 then Option.map Sum.inr (some ((Go.L.Qv.mk b c d e f g h),a)) else Option.map Sum.inr (some ((Go.L.Qv.mk l ([]) ([]:Abk) ([]) (0:Int) (0:Int) (i++[(Go.L.Qv.mk b c d e f g h)])),a)))) else if((i++[(Go.L.Qv.mk b c d e f g h)]).length:Int)=1 then Option.map Sum.inr (some ((Go.L.Qv.mk b c d e f g h),a)) else Option.map Sum.inr (some ((Go.L.Qv.mk l ([]) ([]:Abk) ([]) (0:Int) (0:Int) (i++[(Go.L.Qv.mk b c d e f g h)])),a)))
def Hz(a0:Abk)(a2:Bool)(g:Int)(c:Abk)(self1:Abk->Int->Option (Go.L.Qv×Int))(self2:Abk->Int->Bool->Option (Go.L.Qv×Int)):(List Go.L.Qv)×Int->Option (((List Go.L.Qv)×Int) ⊕ (Go.L.Qv×Int)):=fun⟨e,d⟩=>
 if a2 then Option.bind (self2 a0 d false) (fun a=>(EK a0 g e c) a.1.f.1 a.1.f.2.1 a.1.f.2.2.1 a.1.f.2.2.2.1 a.1.f.2.2.2.2.1 a.1.f.2.2.2.2.2.1 a.1.f.2.2.2.2.2.2 a.2) else Option.bind (self1 a0 d) (fun b=>(EK a0 g e c) b.1.f.1 b.1.f.2.1 b.1.f.2.2.1 b.1.f.2.2.2.1 b.1.f.2.2.2.2.1 b.1.f.2.2.2.2.2.1 b.1.f.2.2.2.2.2.2 b.2)
def Gr(a0:Abk)(a2:Bool)(b:Int)(a:Abk)(self1:Abk->Int->Option (Go.L.Qv×Int))(self2:Abk->Int->Bool->Option (Go.L.Qv×Int))(s:(List Go.L.Qv)×Int):Option (Go.L.Qv×Int):=Go.L.run (Hz a0 a2 b a self1 self2) s
def Ih(a0:Abk)(a1:Int)(a2:Bool)(self1:Abk->Int->Option (Go.L.Qv×Int))(self2:Abk->Int->Bool->Option (Go.L.Qv×Int))(b:Int)(a:Abk):Option (Go.L.Qv×Int):=
 (Gr a0 a2 b a self1 self2) (([]:List Go.L.Qv),a1)
def Is(self1:Abk->Int->Option (Go.L.Qv×Int))(self2:Abk->Int->Bool->Option (Go.L.Qv×Int))(a0:Abk)(a1:Int)(a2:Bool):Option (Go.L.Qv×Int):=
 if a2 then(Ih a0 a1 a2 self1 self2) (9:Int) ([124]:Abk) else(Ih a0 a1 a2 self1 self2) (8:Int) ([38]:Abk)
theorem Qz{self1:Abk->Int->Option (Go.L.Qv×Int)}{self2:Abk->Int->Bool->Option (Go.L.Qv×Int)}(hself1:∀ (w:World) (H:PH) (hH:Le H (hp w)) {a0:Abk} {a1:Int} {r:Go.L.Qv×Int} (h:self1 a0 a1=some r),Ok prog 72 [Abj a0,No a1] w (fun v w'=>Ext w w'/\∃ u0 u1 u2,v=.tuple #[.agg #[No r.1.f.1,u0,Abj r.1.f.2.2.1,u1,No r.1.f.2.2.2.2.1,No r.1.f.2.2.2.2.2.1,u2],No r.2]/\AI .st (un H (nw w w')) u0 (r.1.f.2.1)/\AI .byte (un H (nw w w')) u1 (r.1.f.2.2.2.1)/\AI .Bg (un H (nw w w')) u2 (r.1.f.2.2.2.2.2.2)))(hself2:∀ (w:World) (H:PH) (hH:Le H (hp w)) {a0:Abk} {a1:Int} {a2:Bool} {r:Go.L.Qv×Int} (h:self2 a0 a1 a2=some r),Ok prog 44 [Abj a0,No a1,.bool a2] w (fun v w'=>Ext w w'/\∃ u0 u1 u2,v=.tuple #[.agg #[No r.1.f.1,u0,Abj r.1.f.2.2.1,u1,No r.1.f.2.2.2.2.1,No r.1.f.2.2.2.2.2.1,u2],No r.2]/\AI .st (un H (nw w w')) u0 (r.1.f.2.1)/\AI .byte (un H (nw w w')) u1 (r.1.f.2.2.2.1)/\AI .Bg (un H (nw w w')) u2 (r.1.f.2.2.2.2.2.2)))(w:World)(H:PH)(hH:Le H (hp w)){a0:Abk}{a1:Int}{a2:Bool}{r:Go.L.Qv×Int}(h:Is self1 self2 a0 a1 a2=some r):
  Ok prog 44 [Abj a0,No a1,.bool a2] w (fun v w'=>Ext w w'/\∃ u0 u1 u2,v=.tuple #[.agg #[No r.1.f.1,u0,Abj r.1.f.2.2.1,u1,No r.1.f.2.2.2.2.1,No r.1.f.2.2.2.2.2.1,u2],No r.2]/\AI .st (un H (nw w w')) u0 (r.1.f.2.1)/\AI .byte (un H (nw w w')) u1 (r.1.f.2.2.2.1)/\AI .Bg (un H (nw w w')) u2 (r.1.f.2.2.2.2.2.2)):=by
 refine A3 (n:=53) [(0,(Abj a0)),(1,No a1),(2,.bool a2)] func44 rfl fun hL=>Am<|AH AO rfl rfl hL fun w1 b1 cx c4 _=>A4 1 rfl<|Am<|Ag (AR rfl (fun _=>UR _ _)) rfl<|AH AO rfl rfl cx fun w2 b2 cy c5 _=>Ah 0 rfl AO cy rfl (Bc rfl) fun w3 ch c6=>Ac<|AD 1 rfl<|Bo (σ:=Int×Abk) (fun⟨c9,g⟩=>[(0,(Abj a0)),(1,No a1),(2,.bool a2),(6,(Abi b1)),(8,(Abi b2)),(9,(Abj g))]) (fun⟨c9,g⟩ wr=>Bd w [.box b2 [No c9,Aa8,(Abj []),Aa8,No 0,No 0,Aa8] 26,.box b1 Abl 26] wr/\(Ih a0 a1 a2 self1 self2) c9 g=some r) ?_ ?_
 ·refine AD 1 rfl<|Bb rfl h (fun cj h=>?_) (fun cj h=>?_)
  ·refine Am<|Ag (Ae rfl AcF rfl Cj) rfl<|Bm 0 rfl rfl rfl Cj ch rfl rfl fun dn ck c0=>Ac<|Aw<|As 1 rfl<|AK<|A8 (9,([124]:Abk)) (Sub.of rfl) ⟨ck,h⟩
  refine Av<|A8 (8,([38]:Abk)) (Sub.of rfl) ⟨ch,h⟩
 rintro⟨c9,g⟩ c8 ⟨cl,h⟩;refine A5 ?_;obtain⟨cm,c1,cn⟩:=C0 .Bg H 26 cl;obtain⟨bj,h⟩:=AZ h;refine Bx (σ:=(List Go.L.Qv)×Int×Value×(List Value)×Nat) (fun⟨p,x,u,o,n⟩=>[(0,(Abj a0)),(1,No x),(2,.bool a2),(6,(Abi b1)),(8,(Abi b2)),(9,(Abj g))]) (fun⟨p,x,u,o,n⟩ wr=>DF w [.row u 26 7 (p).length o,.box b2 [No c9,Aa8,(Abj []),Aa8,No 0,No 0,u] 26,.box b1 Abl 26] wr fun Oz=>AJ .Bg (gz H w wr Oz) p o/\F6 (Hz a0 a2 c9 g self1 self2) n (p,x)=some r) (fun⟨p,x,u,o,n⟩=>n) (([]:List Go.L.Qv),a1,Aa8,[],bj) (Sub.of rfl) ⟨cm,cn,h⟩ ?_;rintro⟨p,x,u,o,nn67⟩ da ⟨co,b,h⟩;obtain⟨bj,cz,rfl,h,al⟩:=AY h;refine A5<|Am<|Ag (AR rfl (fun _=>Ln _)) rfl<|AH AO rfl rfl co fun dp ci cp aw _=>Ah 0 rfl AO cp rfl (Bc rfl) fun dq k ax=>A4 1 rfl ?_
 refine Bo (σ:=Int×(List Abk)×Abk×Abk×Int×Int×(List Go.L.Qv)×Int×Value×Value×Value) (fun⟨am,an,ao,ap,aq,ar,au,q,ay,az,a3⟩=>[(0,(Abj a0)),(2,.bool a2),(6,(Abi b1)),(8,(Abi b2)),(9,(Abj g)),(10,(Abi ci)),(11,No q)]) (fun⟨am,an,ao,ap,aq,ar,au,q,ay,az,a3⟩ wr=>DF w [.box ci [No am,ay,Abj ao,az,No aq,No ar,a3] 26,.row u 26 7 (p).length o,.box b2 [No c9,Aa8,(Abj []),Aa8,No 0,No 0,u] 26,.box b1 Abl 26] wr fun Oz=>AI .st (gz H w wr Oz) ay an/\AI .byte (gz H w wr Oz) az ap/\AI .Bg (gz H w wr Oz) a3 au/\AJ .Bg (gz H w wr Oz) p o/\(EK a0 c9 p g) am an ao ap aq ar au q=some cz) ?_ ?_
 ·refine AD 1 rfl<|Bb rfl h (fun cq h=>?_) (fun cq h=>?_)
  ·refine Aw<|As 2 rfl<|Ay h fun ai cr h=>Bn rfl rfl k (hself2 _ _ (Ar hH k) cr) ?_;rintro _ dr ⟨bv,bw,bx,rfl,bk,bl,bm⟩ bc cs bz;have y:=bk.mono (Cm hH k bc);have z:=bl.mono (Cm hH k bc);have aa:=bm.mono (Cm hH k bc);refine As 3 rfl<|Ah 0 rfl AO cs rfl (AU rfl (AU y.one (AU rfl (AU z.one (AU rfl (AU rfl (AU aa.one Hj))))))) fun ds ct ak=>As 1 rfl<|AK ?_;have b:=b.mono (Ab hH (aw.trans (ax.trans (bz.trans ak))));have y:=y.mono (Ab hH ak);have z:=z.mono (Ab hH ak);have aa:=aa.mono (Ab hH ak);refine A8 (ai.1.f.1,ai.1.f.2.1,ai.1.f.2.2.1,ai.1.f.2.2.2.1,ai.1.f.2.2.2.2.1,ai.1.f.2.2.2.2.2.1,ai.1.f.2.2.2.2.2.2,ai.2,bv,bw,bx) (Sub.of rfl) ⟨ct,y,z,aa,b,h⟩
  refine Aw<|As 2 rfl<|Ay h fun aj cu h=>Bn rfl rfl k (hself1 _ _ (Ar hH k) cu) ?_;rintro _ dt ⟨b0,b3,b4,rfl,bn,bo,bp⟩ bd cv b5;have ab:=bn.mono (Cm hH k bd);have ac:=bo.mono (Cm hH k bd);have ad:=bp.mono (Cm hH k bd);refine As 3 rfl<|Ah 0 rfl AO cv rfl (AU rfl (AU ab.one (AU rfl (AU ac.one (AU rfl (AU rfl (AU ad.one Hj))))))) fun db b6 ae=>As 1 rfl<|AK ?_;have b:=b.mono (Ab hH (aw.trans (ax.trans (b5.trans ae))));have ab:=ab.mono (Ab hH ae);have ac:=ac.mono (Ab hH ae);have ad:=ad.mono (Ab hH ae);refine A8 (aj.1.f.1,aj.1.f.2.1,aj.1.f.2.2.1,aj.1.f.2.2.2.1,aj.1.f.2.2.2.2.1,aj.1.f.2.2.2.2.2.1,aj.1.f.2.2.2.2.2.2,aj.2,b0,b3,b4) (Sub.of rfl) ⟨b6,ab,ac,ad,b,h⟩
 have b:=b.mono (Ab hH (aw.trans ax));rintro⟨am,an,ao,ap,aq,ar,au,q,ay,az,a3⟩ dc ⟨a4,af,ag,ah,b,h⟩;have a:=a4.rG H;refine Am<|Ag (Ae rfl AcF rfl G5) rfl<|Ag (Af 2 rfl Afy rfl a4 rfl) rfl<|Ag (AE 0 rfl AcF rfl AO a4 rfl) rfl<|Bp (r:=.Bg) (l:=[(Go.L.Qv.mk am an ao ap aq ar au)]) rfl (fun _=>K5 _ _ _ _ _ _ _ _) rfl (leMax 1) hH a4 (.c7 (Go.E.Rp.F4 ⟨_,_,rfl,rfl,⟨_,_,rfl,⟨_,rfl,(af.mono a)⟩,⟨_,_,rfl,rfl,⟨_,_,rfl,⟨_,rfl,(ag.mono a)⟩,⟨_,_,rfl,rfl,⟨_,_,rfl,rfl,⟨_,rfl,(ah.mono a)⟩⟩⟩⟩⟩⟩⟩) .nil) fun dd de c2 b7 bq b8=>Az h fun b9 h=>?_;have a:=a.trans (Ab hH bq);refine Bt (r:=.Bg) (l:=p) (m:=[(Go.L.Qv.mk am an ao ap aq ar au)]) 1 rfl rfl Afy AO rfl (by decide) rfl hH b7 rfl (b.mono a) b8 b9 fun cw df ca be bb d=>Ag (Ae rfl AcF rfl G5) rfl<|Bm 2 rfl rfl (row_one (be.at (i:=1) rfl)) G5 be rfl rfl fun dg e t=>Ac<|A7<|Bi 3 rfl<|AP (s:=37) rfl (fun c=>?_) (fun c=>?_)
 ·have h:=BI (of_decide_eq_true c) h;refine Aa rfl c<|Ag (Ad rfl) rfl<|Aa rfl c<|Ag (Ad rfl) rfl<|Aa rfl c<|Ag (Ad rfl) rfl<|Aa rfl c<|Ay h fun dh cb h=>AA rfl rfl e (CP _ _ (Ar hH e) cb) fun di c3 j av=>Ag (A2 rfl c rfl) rfl<|Ac<|Bb rfl h (fun cc h=>?_) (fun cc h=>?_)
  ·refine Bi 1 rfl<|Az h fun cd h=>Ag (A1 rfl cd) rfl<|A4 1 rfl<|Br<|AG<|Be ?_;have ce:=j.AQ (i:=0) rfl;have h:=BP.again h al;have d:=d.mono (Ab hH (t.trans (av.trans (Au (i:=0) rfl))));refine AN ((p++[(Go.L.Qv.mk am an ao ap aq ar au)]),(q+1),cw,ca,bj) (Sub.of rfl) ⟨ce,d,h⟩ (Nat.lt_succ_self _)
  refine Av<|Ao<|A7<|Am<|Ag (Ae rfl AcF rfl G5) rfl<|Ag (Af 2 rfl Afy rfl j rfl) rfl<|Ag (Om (i:=1) rfl Afy j rfl) rfl<|A4 1 rfl<|AM rfl h (fun cf h=>?_) (fun cf h=>?_)
  ·refine Am<|Ag (AE 0 rfl AcF rfl AO j rfl) rfl<|As 1 rfl ?_;have a:=a.trans (Ab hH (bb.trans (t.trans av)));refine Ah 3 rfl AO j rfl (AU rfl (AU (af.mono a).one (AU rfl (AU (ag.mono a).one (AU rfl (AU rfl (AU (ah.mono a).one Hj))))))) fun dj bf br=>A4 1 rfl<|Ax<|An<|Aq<|By ?_;have h:=BP.out h al;refine Aq ?_
   cases h
   refine Bz rfl (.cell rfl AcF rfl AO (AL (i:=3) bf rfl)) (.tmp rfl) ?_;have a:=a.trans (Ab hH br);exact⟨bf.ext,_,_,_,rfl,((af.mono a).mono (B5 hH)),((ag.mono a).mono (B5 hH)),((ah.mono a).mono (B5 hH))⟩
  refine Av<|Ao<|Am<|Ag (AE 2 rfl AcF rfl AO j rfl) rfl<|As 1 rfl<|Ah 3 rfl AO j rfl (AU rfl (AU rfl (AU rfl (AU rfl (AU rfl (AU rfl (AU (row_one (j.at (i:=1) rfl)) Hj))))))) fun dk a5 bs=>A4 1 rfl<|Ax<|Aq<|By ?_;have h:=BP.out h al;refine Aq ?_
  cases h
  refine Bz rfl (.cell rfl AcF rfl AO (AL (i:=3) a5 rfl)) (.tmp rfl) ?_;have d:=d.mono (Ab hH (t.trans (av.trans bs)));exact⟨a5.ext,_,_,_,rfl,(AI.nil _ _),(AI.nil _ _),((a5.Ge hH (i:=1) rfl d).vec hH)⟩
 have h:=BJ (of_decide_eq_false c) h
 iterate 4 refine Ai rfl c rfl ?_
 refine Ag (A9 rfl c rfl) rfl<|Ac<|Cr rfl<|Av<|Ao<|A7<|Am<|Ag (Ae rfl AcF rfl G5) rfl<|Ag (Af 2 rfl Afy rfl e rfl) rfl<|Ag (Om (i:=1) rfl Afy e rfl) rfl<|A4 1 rfl<|AM rfl h (fun cg h=>?_) (fun cg h=>?_)
 ·refine Am<|Ag (AE 0 rfl AcF rfl AO e rfl) rfl<|As 1 rfl ?_;have a:=a.trans (Ab hH (bb.trans t));refine Ah 3 rfl AO e rfl (AU rfl (AU (af.mono a).one (AU rfl (AU (ag.mono a).one (AU rfl (AU rfl (AU (ah.mono a).one Hj))))))) fun dl bg bt=>A4 1 rfl<|Ax<|An<|Aq<|By ?_;have h:=BP.out h al;refine Aq ?_
  cases h
  refine Bz rfl (.cell rfl AcF rfl AO (AL (i:=3) bg rfl)) (.tmp rfl) ?_;have a:=a.trans (Ab hH bt);exact⟨bg.ext,_,_,_,rfl,((af.mono a).mono (B5 hH)),((ag.mono a).mono (B5 hH)),((ah.mono a).mono (B5 hH))⟩
 refine Av<|Ao<|Am<|Ag (AE 2 rfl AcF rfl AO e rfl) rfl<|As 1 rfl<|Ah 3 rfl AO e rfl (AU rfl (AU rfl (AU rfl (AU rfl (AU rfl (AU rfl (AU (row_one (e.at (i:=1) rfl)) Hj))))))) fun dm a6 bu=>A4 1 rfl<|Ax<|Aq<|By ?_;have h:=BP.out h al;refine Aq ?_
 cases h
 refine Bz rfl (.cell rfl AcF rfl AO (AL (i:=3) a6 rfl)) (.tmp rfl) ?_;have d:=d.mono (Ab hH (t.trans bu));exact⟨a6.ext,_,_,_,rfl,(AI.nil _ _),(AI.nil _ _),((a6.Ge hH (i:=1) rfl d).vec hH)⟩
def BF:Nat->(Abk->Int->Option (Go.L.Qv×Int))×(Abk->Int->Bool->Option (Go.L.Qv×Int))
 | 0=>(fun _ _=>none,fun _ _ _=>none)
 | n+1=>(IE ((BF n).1) ((BF n).2),Is ((BF n).1) ((BF n).2))
def QZ:Abk->Int->Bool->Option (Go.L.Qv×Int):=(BF 1000).2
theorem PT(n:Nat):(∀ (w:World) (H:PH) (hH:Le H (hp w)) {a0:Abk} {a1:Int} {r:Go.L.Qv×Int} (h:((BF n).1) a0 a1=some r),Ok prog 72 [Abj a0,No a1] w (fun v w'=>Ext w w'/\∃ a b c,v=.tuple #[.agg #[No r.1.f.1,a,Abj r.1.f.2.2.1,b,No r.1.f.2.2.2.2.1,No r.1.f.2.2.2.2.2.1,c],No r.2]/\AI .st (un H (nw w w')) a (r.1.f.2.1)/\AI .byte (un H (nw w w')) b (r.1.f.2.2.2.1)/\AI .Bg (un H (nw w w')) c (r.1.f.2.2.2.2.2.2)))/\(∀ (w:World) (H:PH) (hH:Le H (hp w)) {a0:Abk} {a1:Int} {a2:Bool} {r:Go.L.Qv×Int} (h:((BF n).2) a0 a1 a2=some r),Ok prog 44 [Abj a0,No a1,.bool a2] w (fun v w'=>Ext w w'/\∃ a b c,v=.tuple #[.agg #[No r.1.f.1,a,Abj r.1.f.2.2.1,b,No r.1.f.2.2.2.2.1,No r.1.f.2.2.2.2.2.1,c],No r.2]/\AI .st (un H (nw w w')) a (r.1.f.2.1)/\AI .byte (un H (nw w w')) b (r.1.f.2.2.2.1)/\AI .Bg (un H (nw w w')) c (r.1.f.2.2.2.2.2.2))):=by
 induction n with
 | zero=>exact⟨(by intros;rename_i h;cases h),(by intros;rename_i h;cases h)⟩
 | succ n ih=>exact⟨Pn ih.1 ih.2,Qz ih.1 ih.2⟩
theorem Va(w:World)(H:PH)(hH:Le H (hp w)){a0:Abk}{a1:Int}{a2:Bool}{r:Go.L.Qv×Int}(h:QZ a0 a1 a2=some r):Ok prog 44 [Abj a0,No a1,.bool a2] w (fun v w'=>Ext w w'/\∃ a b c,v=.tuple #[.agg #[No r.1.f.1,a,Abj r.1.f.2.2.1,b,No r.1.f.2.2.2.2.1,No r.1.f.2.2.2.2.2.1,c],No r.2]/\AI .st (un H (nw w w')) a (r.1.f.2.1)/\AI .byte (un H (nw w w')) b (r.1.f.2.2.2.1)/\AI .Bg (un H (nw w w')) c (r.1.f.2.2.2.2.2.2)):=(PT 1000).2 w H hH h
def Lx(a0:Abk):Option (Go.L.Qv×Bool):=
 Option.bind (QZ a0 (0:Int) true) (fun a=>if a.2=(a0.length:Int) then Option.bind (Jp a.1) (fun b=>if b.1=0 then Option.bind (GW a.1) (fun c=>if c=a0 then some (a.1,true) else some ((Go.L.Qv.mk (0:Int) ([]) ([]:Abk) ([]) (0:Int) (0:Int) ([])),false)) else some ((Go.L.Qv.mk (0:Int) ([]) ([]:Abk) ([]) (0:Int) (0:Int) ([])),false)) else some ((Go.L.Qv.mk (0:Int) ([]) ([]:Abk) ([]) (0:Int) (0:Int) ([])),false))
theorem RI(w:World)(H:PH)(hH:Le H (hp w)){a0:Abk}{r:Go.L.Qv×Bool}(h:Lx a0=some r):
  Ok prog 19 [Abj a0] w (fun v w'=>Ext w w'/\∃ u0 u1 u2,v=.tuple #[.agg #[No r.1.f.1,u0,Abj r.1.f.2.2.1,u1,No r.1.f.2.2.2.2.1,No r.1.f.2.2.2.2.2.1,u2],.bool r.2]/\AI .st (un H (nw w w')) u0 (r.1.f.2.1)/\AI .byte (un H (nw w w')) u1 (r.1.f.2.2.2.1)/\AI .Bg (un H (nw w w')) u2 (r.1.f.2.2.2.2.2.2)):=by
 refine A3 (n:=29) [(0,(Abj a0))] func19 rfl fun hL=>Am<|AH AO rfl rfl hL fun w1 b1 k ar _=>A4 1 rfl<|Bi 1 rfl<|Ay h fun x2 am h=>Bn rfl rfl k (Va _ _ (Ar hH k) am) ?_;rintro _ w3 ⟨au,av,aw,rfl,y,z,aa⟩ q an ax;have c:=y.mono (Cm hH k q);have d:=z.mono (Cm hH k q);have e:=aa.mono (Cm hH k q);refine As 3 rfl<|AH AO rfl rfl an fun w4 b4 ao m _=>Ah 0 rfl AO ao rfl (AU rfl (AU c.one (AU rfl (AU d.one (AU rfl (AU rfl (AU e.one Hj))))))) fun w5 l o=>A4 1 rfl<|A7 ?_;have a:=l.rG H;refine Bi 2 rfl<|Ag (Cv rfl Ab1) rfl<|As 2 rfl<|AP (s:=15) rfl (fun g=>?_) (fun g=>?_)
 ·have h:=BJ (CG g) h
  iterate 4 refine Ai rfl g rfl ?_
  refine Ag (A2 rfl g rfl) rfl<|As 1 rfl ?_
  iterate 4 refine Ai rfl rfl rfl ?_
  refine Ag (A2 rfl rfl rfl) rfl<|Ac<|Cg rfl<|Am<|Ag (AR rfl (fun _=>Ln _)) rfl<|Ah 1 rfl AO l rfl (Bc rfl) fun w9 ae ay=>A4 1 rfl<|Ax<|An ?_
  cases h
  refine Bz rfl (.cell rfl AcF rfl AO (AL (i:=1) ae rfl)) (.tmp rfl) ⟨ae.ext,_,_,_,rfl,(AI.nil _ _),(AI.nil _ _),(AI.nil _ _)⟩
 have h:=BI (CH g) h;refine Aa rfl g<|Ag (AE 0 rfl AcF rfl AO l rfl) rfl<|Aa rfl g<|Ay h fun a2 af h=>?_;have c:=c.mono (Ab hH (m.trans o));have d:=d.mono (Ab hH (m.trans o));have e:=e.mono (Ab hH (m.trans o));refine AA rfl rfl l (PS (a0:=x2.1) _ _ (Ar hH l) (c.mono a) (d.mono a) (e.mono a) af) fun a3 az j ab=>Aa rfl g<|Ag (AcZ rfl Ack rfl Abn rfl rfl) rfl<|Aa rfl g<|Ag (Ad rfl) rfl<|Ag (A9 rfl g rfl) rfl<|As 1 rfl<|AP (s:=21) rfl (fun b=>?_) (fun b=>?_)
 ·have h:=BJ (CG b) h
  iterate 4 refine Ai rfl b rfl ?_
  refine Ag (A2 rfl b rfl) rfl<|Ac<|Cg rfl<|Am<|Ag (AR rfl (fun _=>Ln _)) rfl<|Ah 1 rfl AO j rfl (Bc rfl) fun a4 t ap=>A4 1 rfl<|Ax<|An ?_
  cases h
  refine Bz rfl (.cell rfl AcF rfl AO (AL (i:=1) t rfl)) (.tmp rfl) ⟨t.ext,_,_,_,rfl,(AI.nil _ _),(AI.nil _ _),(AI.nil _ _)⟩
 have h:=BI (CH b) h;refine Aa rfl b<|Ag (AE 0 rfl AcF rfl AO j rfl) rfl<|Aa rfl b<|Ay h fun a5 ag h=>?_;have a:=a.trans (Ab hH ab);refine AA rfl rfl j (Mu (a0:=x2.1) _ _ (Ar hH j) (c.mono a) (d.mono a) (e.mono a) ag) fun a6 a1 p ac=>Aa rfl b<|Ag (Ad rfl) rfl<|Aa rfl b<|Ag (Mn rfl rfl) rfl<|Ag (A9 rfl b rfl) rfl<|Ac<|BV rfl h (fun ah h=>?_) (fun ah h=>?_)
 ·refine Am<|Ag (AR rfl (fun _=>Ln _)) rfl<|Ah 1 rfl AO p rfl (Bc rfl) fun a7 u aq=>A4 1 rfl<|Ax<|An ?_
  cases h
  refine Bz rfl (.cell rfl AcF rfl AO (AL (i:=1) u rfl)) (.tmp rfl) ⟨u.ext,_,_,_,rfl,(AI.nil _ _),(AI.nil _ _),(AI.nil _ _)⟩
 refine Av<|Ao<|Am<|Ag (AE 0 rfl AcF rfl AO p rfl) rfl ?_;have a:=a.trans (Ab hH ac);refine Ah 1 rfl AO p rfl (AU rfl (AU (c.mono a).one (AU rfl (AU (d.mono a).one (AU rfl (AU rfl (AU (e.mono a).one Hj))))))) fun a8 x ad=>A4 1 rfl<|Ax ?_
 cases h
 refine Bz rfl (.cell rfl AcF rfl AO (AL (i:=1) x rfl)) (.tmp rfl) ?_;have a:=a.trans (Ab hH ad);exact⟨x.ext,_,_,_,rfl,((c.mono a).mono (B5 hH)),((d.mono a).mono (B5 hH)),((e.mono a).mono (B5 hH))⟩
end Go.Proofs.YtekmbcbgknmhiaaGreatDoor
end
noncomputable section
namespace Go.Proofs.YtekmbcbgknmhiaaGreatDoor
open Go Go.E Go.RowKit Go.Shelf
def Eg(H:PH):Prop:=
 ((∀ c,c<256->G9 H ⟨Tryz.IA.g 2,c,none⟩=some (.int .u8 (Lib.firstT c)))/\
 (∀ i,i<16->G9 H ⟨Tryz.IA.g 3,2 * i,none⟩=some (.int .u8 (Lib.accLo i))/\G9 H ⟨Tryz.IA.g 3,2 * i+1,none⟩=some (.int .u8 (Lib.accHi i))))/\
 (∀ w, Le H (hp w) -> Lib.TabIs Tryz.prog w "internal/strconv.uint64pow10" .u64 Lib.pow10Tab) /\
 (∃ t p,G9 H ⟨Tryz.O4.g 15,0,none⟩=some (.iface t p))/\(∃ t p,G9 H ⟨Tryz.O4.g 16,0,none⟩=some (.iface t p))
theorem Eg.mono{H H':PH}(h:Eg H)(hs:Le H H'):Eg H':=by
 obtain⟨a,h2,⟨t,p,h3⟩,⟨t',p',b⟩⟩:=h;exact⟨⟨fun c hc=>Hl hs (a.1 c hc),fun i hi=>⟨Hl hs (a.2 i hi).1,Hl hs (a.2 i hi).2⟩⟩,fun w hw=>h2 w (hs.trans hw),⟨t,p,Hl hs h3⟩,⟨t',p',Hl hs b⟩⟩
theorem Eg.AeL{w:World}(h:Eg (hp w)):Lib.Utf8Tabs (Tryz.IA.g 2) (Tryz.IA.g 3) w:=⟨h.1.1,h.1.2⟩
def YD(l:List UInt8):Option (Int×Int):=Go.L.AS (l≠[]) (some (((Lib.decodeGo ⟨l.toArray⟩).1:Int),((Lib.decodeGo ⟨l.toArray⟩).2:Int)))
theorem AcN(w:World)(H:PH)(hH:Le H (hp w))(hU:Eg H){u:Value}{l:List UInt8}(ha:AI .byte H u l){r:Int×Int}(h:YD l=some r):
  Ok Tryz.prog 232 [u] w (fun v w'=>Ext w w'/\v=.tuple #[.int .i32 r.1,.int .i64 r.2]):=by
 obtain⟨hk,h⟩:=Go.L.EY h;obtain rfl:=Option.some.inj h;have hs:(ByteArray.mk l.toArray).size=l.length:=by simp [ByteArray.size]
 obtain⟨a,cap,rfl,h2,h3,f,g⟩:=ha.ex
 cases a with
 | none=>exact absurd (List.eq_nil_of_length_eq_zero (by have:=f rfl;omega)) hk
 | some A=>
  obtain⟨d,i⟩:=g A rfl hk;obtain⟨b,off,sp⟩:=A;simp only at d;subst d
  have hc:=Any7.utf8_DecodeRune Tryz.ZZ ⟨l.toArray⟩ b off cap w (hU.mono hH).AeL (fun j hj=>by
   rw [hs] at hj;obtain⟨c,hc,hcell⟩:=i j l[j] (List.getElem?_eq_getElem hj);obtain rfl:c=[.int .u8 (l[j].toNat:Int)]:=hc;have:=cell_of hH (hcell 0 _ rfl);rw [show(Rp.byte).sz=1 from rfl,Nat.mul_one,Nat.add_zero,Addr.add_lit] at this;rw [this];have e:(ByteArray.mk l.toArray).get! j=l[j]:=by simp [ByteArray.get!,hj]
   rw [e])
  rw [hs] at hc;refine⟨⟨Tryz.f232,_,Tryz.func232,rfl,rfl⟩,hc.mono fun e w' he=>?_⟩;obtain⟨rfl,hb⟩:=he;exact⟨_,rfl,Ext.off hb,rfl⟩
theorem Xg(w:World)(k:Nat)(os:Array Obj):Below w.heap.size w (Go.Sort.grow (w.drewN k) os):=
 ⟨rfl,rfl,rfl,by simp [Go.Sort.grow,World.drewN],fun j hj=>by
  simp only [Go.Sort.grow,World.drewN];rw [Array.getElem?_append_left hj]⟩
def Q0(n:Int):Option (List UInt8):=Go.L.AS (-9223372036854775808<=n/\n<=9223372036854775807) (some (Lib.itoa n))
theorem Vb(w:World)(H:PH)(hH:Le H (hp w))(hU:Eg H){a0:Int}{r:List UInt8}(h:Q0 a0=some r):Ok Tryz.prog 64 [.int .i64 a0] w (fun v w'=>Ext w w'/\v=.string ⟨r.toArray⟩):=by
 obtain⟨hk,h⟩:=Go.L.EY h;obtain rfl:=Option.some.inj h;refine⟨⟨Tryz.f64,_,Tryz.func64,rfl,rfl⟩,(Any.strconv_Itoa Tryz.Acb a0 hk.1 hk.2 w (hU.2.1 w hH)).mono fun e w' he=>?_⟩;obtain⟨rfl,k,os,rfl⟩:=he;exact⟨_,rfl,Ext.off (Xg _ _ _),rfl⟩
theorem Aab(w:World)(H:PH)(_hH:Le H (hp w)){a:Int}:Ok Tryz.prog 220 [.int .i64 a] w (fun v w'=>Ext w w'/\v=.bool (decide ((8:Int)<a))):=by
 refine⟨⟨Tryz.f220,_,Tryz.func220,rfl,rfl⟩,(Any.strings_shouldUseASCIISet (ρ:=Tryz.QW) {Tryz.Aaa with} a w).mono fun e w' he=>?_⟩;obtain⟨rfl,rfl⟩:=he;exact⟨_,rfl,Ext.refl _,rfl⟩
def XW(l:List UInt8):Option (Int×Bool):=Go.L.AS (l.length<=281474976710656) (some (match Lib.atoiAll l with
 | .ok v=>(v,true)
 | .range=>(Lib.atoiSat l,false)
 | _=>(0,false)))
theorem Acd(w:World)(H:PH)(hH:Le H (hp w))(hU:Eg H){a0:List UInt8}{r:Int×Bool}(h:XW a0=some r):Ok Tryz.prog 169 [.string ⟨a0.toArray⟩] w (fun v w'=>Ext w w'/\∃ e,v=.tuple #[.int .i64 r.1,e]/\(r.2=true->e=.nilIface)/\(r.2=false->∃ t p,e=.iface t p)):=by
 obtain⟨hk,h⟩:=Go.L.EY h;obtain rfl:=Option.some.inj h;have hs:(ByteArray.mk a0.toArray).size=a0.length:=by simp [ByteArray.size]
 obtain⟨_,_,⟨ts,vs,h3⟩,⟨tr,vr,a⟩⟩:=hU;have b:=cell_of hH h3;have c:=cell_of hH a;refine⟨⟨Tryz.f169,_,Tryz.func169,rfl,rfl⟩,?_⟩
 cases hq:Lib.atoiAll a0 with
 | ok v=>
  refine(Any.strconv_Atoi_ok (P:=Tryz.prog) Tryz.UZ ⟨a0.toArray⟩ (by rw [hs];omega) v (by simpa using hq) w).mono fun e w' he=>?_;obtain⟨rfl,hw⟩:=he;refine⟨_,rfl,?_,_,rfl,fun _=>rfl,fun h=>by cases h⟩
  rcases hw with rfl | ⟨t,rfl⟩
  ·exact Ext.refl _
  ·exact Ext.off (Lib.bytesWorld_below _ _ _)
 | range=>
  refine(Any.strconv_Atoi_range (P:=Tryz.prog) Tryz.UZ ⟨a0.toArray⟩ (by rw [hs];exact hk) (by simpa using hq) _ w c (.inr ⟨_,_,rfl⟩)).mono fun e w' he=>?_;obtain⟨n,rfl,_,_,hb⟩:=he;exact⟨_,rfl,Ext.off hb,_,rfl,fun h=>(by cases h),fun _=>⟨_,_,rfl⟩⟩
 | _=>
  refine(Any.strconv_Atoi_syntax (P:=Tryz.prog) Tryz.UZ ⟨a0.toArray⟩ (by rw [hs];exact hk) (by simpa using hq) _ w b (.inr ⟨_,_,rfl⟩)).mono fun e w' he=>?_;obtain⟨n,rfl,_,_,hb⟩:=he;exact⟨_,rfl,Ext.off hb,_,rfl,fun h=>(by cases h),fun _=>⟨_,_,rfl⟩⟩
def pieces(s:List UInt8):List (List UInt8):=Lib.split s [47]
def Nj(s sep:List UInt8)(sv n:Int):Option (List (List UInt8)):=Go.L.AS (s.length<4294967281/\sep.length=1/\sv=0/\n = -1) (some (Lib.split s sep))
theorem Wk(G:PH):∀ l:List (List UInt8),AJ Rp.st G l (l.map Go.Proofs.encStr)
 | []=>.nil
 | _::l=>.cons (c:=[_]) rfl (Wk G l)
theorem Wl(w:World)(H:PH)(_hH:Le H (hp w)){a0 a1:List UInt8}{a2 a3:Int}{r:List (List UInt8)}(h:Nj a0 a1 a2 a3=some r):
  Ok Tryz.prog 166 [.string ⟨a0.toArray⟩,.string ⟨a1.toArray⟩,.int .i64 a2,.int .i64 a3] w (fun v w'=>Ext w w'/\∃ u0,v=u0/\BN 9 .st H w w' u0 r):=by
 obtain⟨hk,h⟩:=Go.L.EY h;obtain rfl:=Option.some.inj h;obtain⟨h1,h2,rfl,rfl⟩:=hk;obtain⟨sb,rfl⟩:=List.length_eq_one_iff.1 h2;have hsz:(ByteArray.mk a0.toArray).size=a0.length:=by simp [ByteArray.size]
 obtain⟨N,hN⟩:∃ N,N=Lib.countB ⟨a0.toArray⟩ ⟨#[sb]⟩+1:=⟨_,rfl⟩;have hle:Lib.countB ⟨a0.toArray⟩ ⟨#[sb]⟩<=(ByteArray.mk a0.toArray).size:=Lib.countB_le ⟨#[sb]⟩ (Nat.le_refl 1) _ _ (Nat.le_refl _)
 have c:=Any.strings_genSplit_core (P:=Tryz.prog) (ρ:=Tryz.Lt) {Tryz.Tb with} (by kernel_rfl) ⟨a0.toArray⟩ ⟨#[sb]⟩ 0 (-1) N w (by rw [hsz];exact h1) (Nat.le_refl 1) (Nat.zero_le _)
  (fun x cc hx=>(Any.strings_Index_one (P:=Tryz.prog) (ρ:=Tryz.Lt) {Tryz.Tb with} x sb _).mono fun e w' ⟨he,hw⟩=>⟨by rw [he];exact congrArg (fun z=>Ending.returned (Value.int .i64 z)) (Lib.index_one x.data.toList sb).symm,hw⟩)
  ((Any.strings_Count_one (P:=Tryz.prog) (ρ:=Tryz.Lt) {Tryz.Tb with} ⟨a0.toArray⟩ sb w).mono fun e w' ⟨he,hw⟩=>⟨by rw [he];exact congrArg (fun z:Nat=>Ending.returned (Value.int .i64 (z:Int))) (Lib.count_one sb _).symm,hw⟩)
  (by decide) (by decide) (by rw [if_pos (by decide),hN];omega)
 refine⟨⟨Tryz.f166,_,Tryz.func166,rfl,rfl⟩,c.mono fun e w' he=>?_⟩;obtain⟨rfl,rfl⟩:=he
 have hl:(Lib.splitB ⟨#[sb]⟩ 0 (N - 1) ⟨a0.toArray⟩).length=N:=by
  have:=Lib.splitB_all ⟨#[sb]⟩ (Nat.le_refl 1) 0 (N - 1) ⟨a0.toArray⟩ (by omega);omega
 have hd:=Lib.splitB_data ⟨#[sb]⟩ 0 (N - 1) ⟨a0.toArray⟩
 have hpc:(Lib.splitB ⟨#[sb]⟩ 0 (N - 1) ⟨a0.toArray⟩).map (fun b=>b.data.toList)=Lib.split a0 [sb]:=by
  rw [hd];unfold Lib.split;rw [hN]
  rfl
 have hpl:(Lib.split a0 [sb]).length=N:=by rw [<- hpc,List.length_map,hl]
 have hmp:(Lib.splitB ⟨#[sb]⟩ 0 (N - 1) ⟨a0.toArray⟩).map Value.string=(Lib.split a0 [sb]).map Go.Proofs.encStr:=by
  rw [<- hpc,List.map_map];apply List.map_congr_left;intro b _
  show Value.string b=Value.string ⟨b.data.toList.toArray⟩
  rw [Array.toArray_toList]
 refine⟨_,rfl,C8 w _,_,rfl,(Lib.split a0 [sb]).map Go.Proofs.encStr,?_,Wk _ _⟩;refine⟨by rw [List.length_map];exact(Nat.mul_one _).symm,.inr ⟨w.heap.size,N,_,?_,Nat.le_refl _,World.alloc_heap_new w _,?_,?_,?_,?_⟩⟩
 ·rw [hl,hpl]
 ·omega
 ·unfold maxLen;omega
 ·rw [Lib.cellsOf_size (by omega)];exact(Nat.mul_one _).symm
 ·have e1:Lib.cellsOf (Lib.splitB ⟨#[sb]⟩ 0 (N - 1) ⟨a0.toArray⟩) N=((Lib.splitB ⟨#[sb]⟩ 0 (N - 1) ⟨a0.toArray⟩).map Value.string).toArray:=by
   have:=Lib.cellsOf_full (Lib.splitB ⟨#[sb]⟩ 0 (N - 1) ⟨a0.toArray⟩)
   rwa [hl] at this
  rw [e1,hmp];exact List.take_of_length_le (by rw [List.length_map];exact Nat.le_of_eq (Nat.mul_one _).symm)
def OA(a:List UInt8)(c:UInt8):Option Int:=some (Lib.indexByte a c)
theorem Sk(w:World)(H:PH)(_hH:Le H (hp w)){a0:List UInt8}{a1:UInt8}{r:Int}(h:OA a0 a1=some r):
  Ok Tryz.prog 168 [.string ⟨a0.toArray⟩,.int .u8 (a1.toNat:Int)] w (fun v w'=>Ext w w'/\v=.int .i64 r):=by
 obtain rfl:=Option.some.inj h;refine⟨⟨Tryz.f168,_,Tryz.func168,rfl,rfl⟩,(Any.strings_IndexByte Tryz.Aet ⟨a0.toArray⟩ (a1.toNat:Int) w).mono fun e w' he=>?_⟩;obtain⟨rfl,rfl⟩:=he;refine⟨_,rfl,Ext.refl _,?_⟩;have e:((a1.toNat:Int).toNat).toUInt8=a1:=by simp
 rw [e]
def R6(a:List (List UInt8))(sep:List UInt8):Option (List UInt8):=Go.L.AS (a.length<=140737488355328/\(Lib.join a sep).length<=140737488355328) (some (Lib.join a sep))
theorem Vc(w:World)(H:PH)(hH:Le H (hp w)){a0:List (List UInt8)}{a1:List UInt8}{v:Value}(hv:AI .st H v a0){r:List UInt8}(h:R6 a0 a1=some r):
  Ok Tryz.prog 63 [v,.string ⟨a1.toArray⟩] w (fun v w'=>Ext w w'/\v=.string ⟨r.toArray⟩):=by
 obtain⟨⟨h1,h2⟩,h⟩:=Go.L.EY h;obtain rfl:=Option.some.inj h
 have X:Builder.Extra Tryz.prog Tryz.R3:={
  liesBuilder:=by kernel_rfl
  sizeBuilder:=by kernel_rfl
  t5:=by kernel_rfl
  a5:=fun w=>by kernel_rfl
  z5:=fun w=>by kernel_rfl
  v5:=fun w=>by kernel_rfl
  infoByte:=by kernel_rfl
  cellsByte:=by kernel_rfl
  sizeByte:=by kernel_rfl
  neB5:=by decide}
 obtain⟨a,cap,rfl,k2,k3,k4,k5⟩:=hv.ex
 have key:∀ (P:Prop),((a0=[]->P)/\(∀ A,a=some A->a0≠[]->P))->P:=fun P hP=>by
  by_cases ha:a0=[]
  ·exact hP.1 ha
  ·cases a with
   | none=>exact absurd (List.eq_nil_of_length_eq_zero (by have:=k4 rfl;omega)) ha
   | some A=>exact hP.2 A rfl ha
 refine key _ ⟨fun he=>?_,fun A hA hne=>?_⟩
 ·subst he;refine⟨⟨Tryz.f63,_,Tryz.func63,rfl,rfl⟩,(Any.strings_Join_none Tryz.XV X a cap ⟨a1.toArray⟩ w).mono fun e w' hh=>?_⟩;obtain⟨rfl,rfl⟩:=hh;exact⟨_,rfl,Ext.refl _,rfl⟩
 ·subst hA;obtain⟨k6,k7⟩:=k5 A rfl hne;obtain⟨b,o,sp⟩:=A;simp only at k6;subst k6
  have hcell:∀ (j:Nat) x,(a0.map fun l=>(⟨l.toArray⟩:ByteArray))[j]? = some x->w.cell? ⟨b,o+j,none⟩=some (.string x):=fun j x hx=>by
   rw [List.getElem?_map] at hx
   cases hj:a0[j]? with
   | none=>rw [hj] at hx;cases hx
   | some l=>
    rw [hj] at hx;obtain rfl:=Option.some.inj hx;obtain⟨c,hc,hcell⟩:=k7 j l hj;obtain rfl:c=[.string ⟨l.toArray⟩]:=hc;have:=cell_of hH (hcell 0 _ rfl)
    rwa [show(Rp.st).sz=1 from rfl,Nat.mul_one,Nat.add_zero,Addr.add_lit] at this
  have hpos:0<a0.length:=List.length_pos_iff.2 hne
  have hb:b<w.heap.size:=by
   have h0:=hcell 0 ⟨(a0[0]'hpos).toArray⟩ (by simp [hpos]);exact World.block_lt_of_cell? _ _ h0
  have e2:(a0.map fun l=>(⟨l.toArray⟩:ByteArray)).map (·.data.toList)=a0:=by rw [List.map_map];exact(List.map_congr_left (fun l _=>by simp)).trans (List.map_id _)
  have c:=Any.strings_Join Tryz.XV X b o cap (a0.map fun l=>(⟨l.toArray⟩:ByteArray)) ⟨a1.toArray⟩ w hcell hb (by rw [List.length_map];exact h1) (by rw [List.length_map];omega) (by rw [e2];simpa using h2);rw [e2,List.length_map] at c;refine⟨⟨Tryz.f63,_,Tryz.func63,rfl,rfl⟩,c.mono fun e w' hh=>?_⟩;obtain⟨rfl,hb'⟩:=hh;exact⟨_,rfl,Ext.off hb',by simp⟩
end Go.Proofs.YtekmbcbgknmhiaaGreatDoor
end
